/-
 Two trees held against one another: the nodes that are in both (diff's shared).
-/
import Derived.Test.YtdcnogjbmdhgaaaK19
import Derived.Maps.RangeWalk
set_option linter.unusedVariables false
set_option linter.unusedSimpArgs false
namespace Go.Proofs.Ytdcnogjbmdhgaaa
open Go.RowKit Go.Maps Go.Sort
set_option maxRecDepth 100000

def SetB (D : DataW Unit) (p : Int → Bool) : Prop := ∀ x, has D (.int .i64 x) = p x ∧ D.atKey (.int .i64 x) (.lit (.int .i64 0)) = .lit (.int .i64 (if p x then 1 else 0))
theorem seenD_has (x : Int) (seen : List Int) : has (seenD seen) (.int .i64 x) = decide (x ∈ seen) := by
 have hh : has (seenD seen) (.int .i64 x) = true ↔ x ∈ seen := by
  unfold seenD
  rw [has_setOf _ _ _ (fun y hy => by obtain ⟨z, _, rfl⟩ := List.mem_map.1 hy; exact int_key z), List.any_map, List.any_eq_true]
  constructor
  ·rintro ⟨y, hy, he⟩
   have : y = x := by simpa [Lit.sameKey] using he
   rw [← this]; exact hy
  ·intro h; exact ⟨x, h, by simp [Lit.sameKey]⟩
 by_cases hx : x ∈ seen
 ·rw [hh.2 hx, decide_eq_true hx]
 ·rw [decide_eq_false hx]
  cases e : has (seenD seen) (.int .i64 x) with
  | false => rfl
  | true => exact absurd (hh.1 e) hx
theorem seenD_set (seen : List Int) : SetB (seenD seen) fun x => decide (x ∈ seen) := fun x => ⟨seenD_has x seen, by
 rw [seenD_at]
 by_cases hx : x ∈ seen
 ·simp [hx]
 ·simp [hx]⟩
theorem SetB.congr {D : DataW Unit} {p q : Int → Bool} (h : SetB D p) (e : ∀ x, p x = q x) : SetB D q := fun x => by rw [← e x]; exact h x
theorem SetB.del {D : DataW Unit} {p : Int → Bool} (h : SetB D p) (x : Int) : SetB (D.del (.int .i64 x)) fun z => p z && decide (z ≠ x) := fun z => by
 by_cases e : z = x
 ·subst e
  rw [has_del_same, atKey_del_same]
  simp
 ·have hne : (Lit.int .i64 z) ≠ .int .i64 x := by intro h; injection h with _ h; exact e h
  rw [has_del_other hne, atKey_del_other hne]
  simpa [e] using h z
theorem key_same (z x : Int) : (Lit.int .i64 z).sameKey (.int .i64 x) = decide (z = x) := by
 simp only [Lit.sameKey]
 by_cases e : z = x
 ·simp [e]
 ·simp [e]
theorem ptr_load' {w : World} {p s : Nat} {t : TypeId} (h : w.heap[p]? = some (.cells #[.pointer (some ⟨s, 0, none⟩)] t (0, 0))) : ∀ j v, [Value.pointer (some ⟨s, 0, none⟩)][j]? = some v → w.cell? ⟨p, 0 + j, none⟩ = some v := fun j v hj => by rw [Nat.zero_add, cell_of_heap h]; simpa using hj
structure SharedAt (w : World) (Sa Sb : List Int) (ma mb r na : Nat) (left : Lit → Bool) (cnt : Nat) (D : DataW Unit) (wr : World) : Prop where
 rg : wr.ranges Try.prog 3 (plainElem Try.prog 3) ma r na D left cnt
 set : SetB D fun x => decide (x ∈ Sa) && (left (.int .i64 x) || decide (x ∈ Sb))
 other : wr.ownsMap Try.prog 3 (plainElem Try.prog 3) mb Sb.length (seenD Sb)
 kept : Kept (fun _ => False) w wr
set_option maxHeartbeats 8000000 in
theorem sharedAny {w : World} {A : SA} {M : SM} (h : StoreAt w A M) {ra rb : Int} (hra : -9223372036854775808 ≤ ra ∧ ra ≤ 9223372036854775807) (hoka : ∀ x, Below M ra x → x = -1 ∨ (M.get x).2 = 0) (hnea : ∀ x, Below M ra x → (M.get x).1.kind = 3 → (M.get x).1.ents ≠ [])
  (hrb : -9223372036854775808 ≤ rb ∧ rb ≤ 9223372036854775807) (hokb : ∀ x, Below M rb x → x = -1 ∨ (M.get x).2 = 0) (hneb : ∀ x, Below M rb x → (M.get x).1.kind = 3 → (M.get x).1.ents ≠ []) :
  Calls Try.prog 26 #[.agg #[.pointer (some ⟨A.sb, 0, none⟩)], .int .i64 ra, .int .i64 rb] w fun e w' => ∃ (ma n : Nat) (D : DataW Unit) (Sa Sb : List Int), e = .returned (.tuple #[.map (some ma), .int .i64 0]) ∧ w.heap.size ≤ ma ∧ n ≤ 240 ∧
   w'.ownsMap Try.prog 3 (plainElem Try.prog 3) ma n D ∧ SetB D (fun x => decide (x ∈ Sa) && decide (x ∈ Sb)) ∧ Sa.Nodup ∧ (∀ x, x ∈ Sa ↔ Below M ra x ∧ x ≠ -1) ∧ (∀ x, x ∈ Sb ↔ Below M rb x ∧ x ≠ -1) ∧ Kept (fun _ => False) w w' := by
 have K : Keyed Try.prog 3 := int_keyed Try.underlying3
 obtain ⟨db, hdb⟩ : ∃ db, w.heap.size = db := ⟨_, rfl⟩
 obtain ⟨w1, hw1⟩ : ∃ w1, w.alloc (.cells #[.pointer (some ⟨A.sb, 0, none⟩)] 31) = w1 := ⟨_, rfl⟩
 have k1 : Kept (fun _ => False) w w1 := by rw [← hw1]; exact (Kept.refl _ _).alloc _
 have t1 : w1.heap[db]? = some (.cells #[.pointer (some ⟨A.sb, 0, none⟩)] 31 (0, 0)) := by rw [← hw1, ← hdb]; exact heap_alloc_new _ _
 have ld1 := h_ (ptr_load' t1)
 have hI1 := h_ (innerAny (h.fresh k1) hra hoka hnea)
 have hw1' := h_ hw1
 have hdb' := h_ hdb
 have t1' := h_ t1
 have h' := h_ (h.fresh k1)
 have k1' := h_ k1
 have hI2 := h_ (fun w' (k : Kept (fun _ => False) w1 w') => innerAny ((h.fresh k1).fresh k) hrb hokb hneb)
 have K' := h_ K
 clear h hw1 hdb k1 t1 hoka hnea hokb hneb K
 go_enter Try.func26, Try.ntmps26
 go_wp2_with (first | (refine wpList_box_named 31 rfl rfl _ rfl hw1'.out ?_; rw [hdb'.out]) | (refine wpList_load_agg 31 rfl rfl rfl _ Try.underlying31 rfl [.pointer (some ⟨A.sb, 0, none⟩)] (by kernel_rfl) ld1.out ?_))
 refine hI1.out.mono ?_
 rintro e w2 ⟨ma, Sa, rfl, hma, hownA, hnda, hla, hSa, hk2⟩
 have ld2 := h_ (ptr_load' (hk2.get t1'.out id))
 have hI2' := h_ (hI2.out w2 hk2)
 have hownA' := h_ hownA
 have hk2' := h_ hk2
 have hSa' := h_ hSa
 have hnda' := h_ hnda
 clear hownA hk2 hSa hnda
 go_wp2_with (first | (refine wpList_load_agg 31 rfl rfl rfl _ Try.underlying31 rfl [.pointer (some ⟨A.sb, 0, none⟩)] (by kernel_rfl) ld2.out ?_))
 refine hI2'.out.mono ?_
 rintro e w3 ⟨mb, Sb, rfl, hmb, hownB, hndb, hlb, hSb, hk3⟩
 have hownA3 := ownsMap_kept hownA'.out hk3 id
 have hmm : Hid (ma ≠ mb) := h_ (by have := hownA'.out.lt; omega)
 have hownB' := h_ hownB
 have k3' := h_ (hk2'.out.trans hk3)
 have hSb' := h_ hSb
 have hs3 := hk3.size
 have hmaw : Hid (w.heap.size ≤ ma) := h_ (by have := k1'.out.size; omega)
 have hma1 : Hid (w1.heap.size ≤ ma) := h_ hma
 clear hownB hk3 hSb hndb hmb
 go_wp2_with (first | (at_range; refine wpList_range_own _ rfl _ 75 rfl 3 3 K'.out Try.underlying75 _ ma Sa.length _ rfl hownA3 ?_; intro w4 hrg4 hg4 hs4))
 go_frame
 obtain ⟨r, hr⟩ : ∃ r, w3.heap.size = r := ⟨_, rfl⟩
 rw [hr] at hrg4 ⊢
 have hrw1 : Hid (w1.heap.size ≤ r) := h_ (by have := k3'.out.size; omega)
 have hrb' : Hid (r ≠ mb) := h_ (by have := hownB'.out.lt; omega)
 have I4 := h_ (show SharedAt w1 Sa Sb ma mb r Sa.length (has (seenD Sa)) (size (seenD Sa)) (seenD Sa) w4 from
  ⟨hrg4, (seenD_set Sa).congr (fun x => by rw [seenD_has]; cases decide (x ∈ Sa) <;> rfl), ownsMap_kept hownB'.out (Kept.of_grown hg4) (by simp), k3'.out.trans ((Kept.of_grown hg4).mono (fun k e => by cases e))⟩)
 clear hrg4 hg4 hs4 hownA3 hr
 go_loopw [11] (fun _ wr => ∃ left cnt D, Hid (SharedAt w1 Sa Sb ma mb r Sa.length left cnt D wr)) (fun _ wr => wr.rangeLeft ma r)
 case atStart => exact ⟨_, _, _, I4⟩
 case round =>
  obtain ⟨left, cnt, D, hI⟩ := hrel
  have hrg := hI.out.rg
  go_wp2_with (first | (at_next; refine wpList_next_ranges_ii _ rfl _ rfl 3 3 .i64 .i64 K'.out Try.underlying3 Try.underlying3 ma r Sa.length _ _ _ rfl hrg ?_ ?_))
  ·intro _ hl0
   have hend := h_ (hI.out.set.congr (q := fun x => decide (x ∈ Sa) && decide (x ∈ Sb)) (fun x => by rw [hl0]; rfl))
   have hown := h_ hrg.owns
   have kk := h_ (k1'.out.trans hI.out.kept)
   clear hrg hI
   go_wp2_with fail
   go_ret2
   exact ⟨ma, Sa.length, D, Sa, Sb, rfl, hmaw.out, hla, hown.out, hend.out, hnda'.out, hSa'.out, hSb'.out, kk.out⟩
  ·intro x c w5 cnt5 hwx hwc hlx hat hrg5 hlt5 hg5 hs5 hen
   have hkey : keyOf Try.prog 3 (.int .i64 x) = some (.int .i64 x) := keyOf_int_mk Try.underlying3 hwx
   have hB5 := ownsMap_kept hI.out.other (Kept.of_grown hg5) (fun e => by injection e with e; exact hrb'.out e)
   obtain ⟨c2, hlook, hcat, _⟩ := hB5.lookup_int K'.out Try.underlying75 Try.underlying3 (Try.zeroValue3 w5) hkey
   rw [seenD_at] at hcat
   have hcx : c2 = if x ∈ Sb then 1 else 0 := by injection hcat with h; injection h with _ h; exact h.symm
   have hk5 := h_ (hI.out.kept.trans_new (Kept.of_grown hg5) (fun i hi e => by injection e with e; have := hrw1.out; omega))
   have hB5' := h_ hB5
   have hrg5' := h_ hrg5
   have hset := h_ hI.out.set
   have hlx' := h_ hlx
   have hkey' := h_ hkey
   have hleft := h_ hrg.left_eq
   clear hcat hB5 hrg5 hI hrg hg5 hs5 hat hlx hkey hwc hwx
   by_cases hxb : x ∈ Sb
   ·rw [if_pos hxb] at hcx
    subst hcx
    have hnew := h_ (show SharedAt w1 Sa Sb ma mb r Sa.length _ cnt5 D w5 from ⟨hrg5'.out, hset.out.congr (fun z => by
     rw [key_same]
     by_cases e : z = x
     ·subst e; simp [hxb]
     ·simp [e]), hB5'.out, hk5.out⟩)
    have hml : Hid (w5.rangeLeft ma r < wr.rangeLeft ma r) := h_ (by rw [hnew.out.rg.left_eq, hleft.out]; exact hlt5)
    clear hxb
    go_wp2_with fail
    go_roundw
    case rel => exact ⟨_, _, _, hnew⟩
    case measure => exact hml.out
   ·rw [if_neg hxb] at hcx
    subst hcx
    go_wp2_with (first | (at_delete; refine wpList_delete_ranges _ rfl _ _ 75 3 rfl 3 K'.out Try.underlying75 _ ma r Sa.length _ _ _ rfl hrg5'.out _ _ rfl hkey'.out ?_; intro w6 cnt6 hrg6 hle6 hturn6; go_frame))
    have hg6 := hturn6.grown
    rw [Maps.strike_twice] at hrg6
    have hnew := h_ (show SharedAt w1 Sa Sb ma mb r Sa.length _ cnt6 _ w6 from ⟨hrg6, (hset.out.del x).congr (fun z => by
     rw [key_same]
     by_cases e : z = x
     ·subst e; simp [hxb]
     ·simp [e]), ownsMap_kept hB5'.out (Kept.of_grown hg6) (fun e => by injection e with e; exact hmm.out e), hk5.out.trans_new (Kept.of_grown hg6) (fun i hi e => by injection e with e; have := hma1.out; omega)⟩)
    have hml : Hid (w6.rangeLeft ma r < wr.rangeLeft ma r) := h_ (by rw [hnew.out.rg.left_eq, hleft.out]; omega)
    clear hrg6 hg6 hturn6
    go_roundw
    case rel => exact ⟨_, _, _, hnew⟩
    case measure => exact hml.out
end Go.Proofs.Ytdcnogjbmdhgaaa
/-
 Two trees held against one another: what is in one, but for what is shared (diff's own).
-/
namespace Go.Proofs.Ytdcnogjbmdhgaaa
open Go.RowKit Go.Maps Go.Sort
set_option maxRecDepth 100000

def outD (es : List (Int × Int)) : DataW Unit := es.foldl (fun m e => m.put (.int .i64 e.1) (.lit (.int .i64 e.2))) (seenD [])
theorem outD_snoc (es : List (Int × Int)) (y : Int × Int) : outD (es ++ [y]) = (outD es).put (.int .i64 y.1) (.lit (.int .i64 y.2)) := by unfold outD; rw [List.foldl_append]; rfl
theorem get_ents {w : World} {A : SA} {M : SM} (h : StoreAt w A M) {x : Int} (h0 : (M.get x).2 = 0) : ∀ y ∈ (M.get x).1.ents, 0 ≤ y.1 ∧ y.1 < 64 ∧ 0 ≤ y.2 ∧ y.2 < 240 := by
 unfold SM.get at h0 ⊢
 split at h0
 ·rename_i hh
  rw [if_pos hh]
  cases hn : M.nodeAt x.toNat with
  | none => rw [hn] at h0; cases h0
  | some n =>
   dsimp only
   have hok := nodeAt_ok h hn
   exact fun y hy => by
    have := hok.entry hy
    omega
 ·cases h0
def OwnC (M : SM) (S : Int → Bool) (depth : Nat) (root : Int) (own : List (Int × Int)) : Prop :=
 ∀ (w : World) (A : SA) (ms n : Nat) (D : DataW Unit) (mo : Nat) (es : List (Int × Int)), StoreAt w A M → w.ownsMap Try.prog 3 (plainElem Try.prog 3) ms n D → SetB D S → w.ownsMap Try.prog 3 (plainElem Try.prog 3) mo es.length (outD es) → ms ≠ mo → ¬ A.own mo → es.length + own.length ≤ 100000 →
  Calls Try.prog 27 #[.agg #[.pointer (some ⟨A.sb, 0, none⟩)], .int .i64 root, .int .i64 (depth : Int), .map (some ms), .map (some mo)] w fun e w' => e = .returned (.int .i64 0) ∧ w'.ownsMap Try.prog 3 (plainElem Try.prog 3) mo (es ++ own).length (outD (es ++ own)) ∧ Kept (fun k => k = mo) w w'
theorem ownNone {M : SM} {S : Int → Bool} {depth : Nat} {root : Int} (hrw : -9223372036854775808 ≤ root ∧ root ≤ 9223372036854775807) (hr : root = -1 ∨ S root = true) : OwnC M S depth root [] := by
 intro w A ms n D mo es h hsh hD hout hne hA hl
 have K : Keyed Try.prog 3 := int_keyed Try.underlying3
 obtain ⟨db, hdb⟩ : ∃ db, w.heap.size = db := ⟨_, rfl⟩
 obtain ⟨w1, hw1⟩ : ∃ w1, w.alloc (.cells #[.pointer (some ⟨A.sb, 0, none⟩)] 31) = w1 := ⟨_, rfl⟩
 have k1 : Kept (fun _ => False) w w1 := by rw [← hw1]; exact (Kept.refl _ _).alloc _
 have hkey : keyOf Try.prog 3 (.int .i64 root) = some (.int .i64 root) := keyOf_int_mk Try.underlying3 (WalkArith.wf_i64 hrw)
 obtain ⟨c, hlook, hcat, _⟩ := (ownsMap_kept hsh k1 id).lookup_int K Try.underlying75 Try.underlying3 (Try.zeroValue3 w1) hkey
 rw [(hD root).2] at hcat
 have hcx : c = if S root = true then 1 else 0 := by injection hcat with h; injection h with _ h; exact h.symm
 have fin : Hid (w1.ownsMap Try.prog 3 (plainElem Try.prog 3) mo (es ++ []).length (outD (es ++ [])) ∧ Kept (fun k => k = mo) w w1) := h_ ⟨by rw [List.append_nil]; exact ownsMap_kept hout k1 id, k1.mono (fun k e => e.elim)⟩
 have hw1' := h_ hw1
 have hdb' := h_ hdb
 clear hw1 hdb k1 hcat hkey hsh hout h hD
 by_cases e : root = -1
 ·subst e
  clear hcx hlook hr
  go_enter Try.func27, Try.ntmps27
  go_wp2_with (first | (refine wpList_box_named 31 rfl rfl _ rfl hw1'.out ?_; rw [hdb'.out]))
  go_ret
  exact ⟨rfl, fin.out⟩
 ·have hb : (root == -1) = false := by simpa using e
  rw [if_pos (hr.resolve_left e)] at hcx
  subst hcx
  clear hr e
  go_enter Try.func27, Try.ntmps27
  go_wp2_with (first | (refine wpList_box_named 31 rfl rfl _ rfl hw1'.out ?_; rw [hdb'.out]))
  go_ret
  exact ⟨rfl, fin.out⟩
structure OwnAt (w0 : World) (mo : Nat) (es : List (Int × Int)) (part : List (Int × Int)) (wr : World) : Prop where
 out : wr.ownsMap Try.prog 3 (plainElem Try.prog 3) mo (es ++ part).length (outD (es ++ part))
 kept : Kept (fun k => k = mo) w0 wr
def partF (p : Int × Int → List (Int × Int)) (l : List (Int × Int)) (k : Nat) : List (Int × Int) := ((l.take k).map p).flatten
theorem partF_succ {p : Int × Int → List (Int × Int)} {l : List (Int × Int)} {k : Nat} {y : Int × Int} (h : l[k]? = some y) : partF p l (k + 1) = partF p l k ++ p y := by
 unfold partF
 rw [List.take_add_one, h]
 simp
theorem partF_len (p : Int × Int → List (Int × Int)) (l : List (Int × Int)) (k : Nat) : (partF p l k).length ≤ ((l.map p).flatten).length := by
 have e : (l.map p).flatten = partF p l k ++ ((l.drop k).map p).flatten := by
  unfold partF
  rw [← List.flatten_append, ← List.map_append, List.take_append_drop]
 rw [e, List.length_append]
 omega
set_option maxHeartbeats 8000000 in
theorem ownNode {M : SM} {S : Int → Bool} {depth : Nat} {root : Int} {nd : NM} (hg : M.get root = (nd, 0)) (hS : S root = false) (hk : nd.kind = 2 ∨ nd.kind = 3) (hd : depth < 8) {p : Int × Int → List (Int × Int)} (h2 : nd.kind = 2 → ∀ y ∈ nd.ents, p y = [y]) (h3 : nd.kind = 3 → ∀ y ∈ nd.ents, OwnC M S (depth + 1) y.2 (p y)) :
  OwnC M S depth root ((nd.ents.map p).flatten) := by
 intro w A ms n D mo es h hsh hD hout hne hA hl
 have K : Keyed Try.prog 3 := int_keyed Try.underlying3
 obtain ⟨Z, hZ⟩ : ∃ Z, nodeCells NM.zero (.slice none 0 0) = Z := ⟨_, rfl⟩
 have hZz : Hid ((Try.prog.info? 71).map (·.zero) = some (some (.agg Z.toArray))) := h_ (by rw [← hZ]; exact node_zero)
 have hZl : Hid (Z.length = 18) := h_ (by rw [← hZ]; exact nodeCells_len _ _)
 have hr0 := get_ok h (x := root) (by rw [hg])
 have hents := get_ents h (x := root) (by rw [hg])
 rw [hg] at hr0 hents
 dsimp only at hr0 hents
 obtain ⟨r0, r240, hn6, _⟩ := hr0
 obtain ⟨db, hdb⟩ : ∃ db, w.heap.size = db := ⟨_, rfl⟩
 obtain ⟨w1, hw1⟩ : ∃ w1, w.alloc (.cells #[.pointer (some ⟨A.sb, 0, none⟩)] 31) = w1 := ⟨_, rfl⟩
 have k1 : Kept (fun _ => False) w w1 := by rw [← hw1]; exact (Kept.refl _ _).alloc _
 have t1 : w1.heap[db]? = some (.cells #[.pointer (some ⟨A.sb, 0, none⟩)] 31 (0, 0)) := by rw [← hw1, ← hdb]; exact heap_alloc_new _ _
 have cd : w1.cell? ⟨db, 0, none⟩ = some (.pointer (some ⟨A.sb, 0, none⟩)) := by rw [cell_of_heap t1]; rfl
 have hkey : keyOf Try.prog 3 (.int .i64 root) = some (.int .i64 root) := keyOf_int_mk Try.underlying3 (WalkArith.wf_i64 (by omega))
 obtain ⟨c, hlook, hcat, _⟩ := (ownsMap_kept hsh k1 id).lookup_int K Try.underlying75 Try.underlying3 (Try.zeroValue3 w1) hkey
 rw [(hD root).2, hS] at hcat
 obtain rfl : c = 0 := by injection hcat with h; injection h with _ h; exact h.symm
 have hgt := get_any (h.fresh k1) root
 rw [hg] at hgt
 dsimp only at hgt
 have hgt' := h_ hgt
 have hb1 : (root == -1) = false := by simp; omega
 have hk1b : ((nd.kind : Int) == 1) = false := by simp; omega
 have hd8b : decide ((8 : Int) ≤ (depth : Int)) = false := by simp; omega
 have hmo : mo < w.heap.size := hout.lt
 have hw1' := h_ hw1
 have hdb' := h_ hdb
 have k1' := h_ k1
 have t1' := h_ t1
 have hsh' := h_ (ownsMap_kept hsh k1 id)
 have hout' := h_ (ownsMap_kept hout k1 id)
 have h' := h_ (h.fresh k1)
 have hk' := h_ hk
 have h2' := h_ h2
 have h3' := h_ h3
 have hents' := h_ hents
 have K' := h_ K
 have hD' := h_ hD
 have hl' := h_ hl
 clear h hsh hD hout hw1 hdb k1 t1 hcat hkey hgt hg hS hk h2 h3 hZ K hents hl
 go_enter Try.func27, Try.ntmps27
 go_wp2_with (first | (refine wpList_box_named 31 rfl rfl _ rfl hw1'.out ?_; rw [hdb'.out]))
 refine hgt'.out.mono ?_
 rintro e w3 ⟨v3, rfl, hown3, hk3⟩
 obtain ⟨A3, c3, rfl, hc31, hc32⟩ := EntsAt.form (show EntsAt w3 v3 nd.ents from SliceAt.of_owns hown3)
 unfold maxLen at hc32
 obtain ⟨F, hF⟩ : ∃ F, nodeCells nd (.slice A3 nd.ents.length c3) = F := ⟨_, rfl⟩
 have hFl : Hid (F.length = 18) := h_ (by rw [← hF]; exact nodeCells_len _ _)
 have hF1 : Hid (∀ v ∈ F, v.oneCell' = true) := h_ (by rw [← hF]; exact nodeCells_one _ _ _ _)
 obtain ⟨nb, hnb⟩ : ∃ nb, w3.heap.size = nb := ⟨_, rfl⟩
 obtain ⟨w4, hw4⟩ : ∃ w4, (w3.alloc (.cells Z.toArray 71)).setRow nb F.toArray = w4 := ⟨_, rfl⟩
 have k4 : Kept (fun _ => False) w3 w4 := by rw [← hw4]; exact ((Kept.refl _ _).alloc _).setRowNew (by omega) _
 have bx4 : NodeBox w4 nb nd (.slice A3 nd.ents.length c3) := ⟨by rw [hF, ← hw4, ← hnb]; exact setRow_heap _ _ _ _ _ _ (heap_alloc_new _ _)⟩
 have hE4 := h_ (SliceAt.fresh (SliceAt.of_owns hown3) k4 : EntsAt w4 (.slice A3 nd.ents.length c3) nd.ents)
 have k14 := h_ (hk3.trans k4)
 have s13 := hk3.size
 have s1 := k1'.out.size
 have hb3 := h_ (fun b (hb : (Value.slice A3 nd.ents.length c3).ownBlock = some b) => (hown3.lt b hb).1)
 have hnbm : Hid (nb ≠ mo ∧ db ≠ mo) := h_ ⟨by omega, by have := hdb'.out; omega⟩
 have bx4' := h_ bx4
 have c40 := bx4.c0
 have c417 := bx4.c17
 have hw4' := h_ hw4
 have hnb' := h_ hnb
 have I4 := h_ (show OwnAt w4 mo es (partF p nd.ents 0) w4 from ⟨by rw [show partF p nd.ents 0 = [] from rfl, List.append_nil]; exact ownsMap_kept hout'.out k14.out id, Kept.refl _ _⟩)
 have hm1 : Hid (mo < w1.heap.size) := h_ (by omega)
 rw [hF]
 clear hown3 hk3 hF k4 hw4 hnb bx4 hlook
 go_wp2_with (first | (refine wpList_alloc_as 71 rfl rfl Z.toArray hZz.out ?_; rw [hnb'.out]) | (refine wpList_store_whole 71 rfl rfl rfl F rfl (by rw [hFl.out]; exact node_size) 71 _ (by rw [← hnb'.out]; exact heap_alloc_new _ _) (by simp [hFl.out, hZl.out]) hF1.out ?_; rw [hw4'.out]))
 clear c40 c417
 go_loopw [48] (fun i wr => ∃ (k : Nat), k ≤ nd.ents.length ∧ i = .int .i64 k ∧ Hid (OwnAt w4 mo es (partF p nd.ents k) wr)) (fun i _ => nd.ents.length - (intOf i).toNat)
 case atStart => exact ⟨0, Nat.zero_le _, rfl, I4⟩
 case round =>
  obtain ⟨k, hk, rfl, hI⟩ := hrel
  by_cases hlt : k < nd.ents.length
  ·obtain ⟨y, hy⟩ : ∃ y, nd.ents[k]? = some y := ⟨_, List.getElem?_eq_getElem hlt⟩
   have hym : y ∈ nd.ents := List.mem_of_getElem? hy
   have hEr : EntsAt wr (.slice A3 nd.ents.length c3) nd.ents := SliceAt.kept hE4.out hI.out.kept (fun b hb e => by have := hb3.out b hb; have := hm1.out; omega)
   obtain ⟨eb, eo, rfl, heb, hy0, hy1⟩ := hEr.get hy
   have hyb := hents'.out y hym
   have hpart := partF_succ (p := p) hy
   have hplen := partF_len p nd.ents (k + 1)
   have hp2 := fun e => h2'.out e y hym
   have hp3 := fun e => h3'.out e y hym
   obtain ⟨yk, yp⟩ := y
   dsimp only at hy0 hy1 hyb hpart hp3
   have hki : (k : Int) < (nd.ents.length : Int) := by omega
   have hlo : Hid (∀ j v, [Value.int .i64 yk, .int .i64 yp][j]? = some v → wr.cell? ⟨eb, eo + k * 2 + j, none⟩ = some v) := h_ (fun j v hj => by
    match j, hj with
    | 0, hj => cases hj; exact hy0
    | 1, hj => cases hj; exact hy1)
   obtain ⟨xb, hxb⟩ : ∃ xb, wr.heap.size = xb := ⟨_, rfl⟩
   obtain ⟨wx, hwx⟩ : ∃ wx, (wr.alloc (.cells #[.int .i64 0, .int .i64 0] 58)).setRow xb #[.int .i64 yk, .int .i64 yp] = wx := ⟨_, rfl⟩
   have kx : Kept (fun _ => False) wr wx := by rw [← hwx]; exact ((Kept.refl _ _).alloc _).setRowNew (by omega) _
   have qx : wx.heap[xb]? = some (.cells #[.int .i64 yk, .int .i64 yp] 58 (0, 0)) := by rw [← hwx, ← hxb]; exact setRow_heap _ _ _ _ _ _ (heap_alloc_new _ _)
   have cx0 := cell_of_heap qx 0
   have cx1 := cell_of_heap qx 1
   simp at cx0 cx1
   have kwx := h_ (hI.out.kept.trans (kx.mono (fun k e => e.elim)) : Kept (fun k => k = mo) w4 wx)
   have ckx := (bx4'.out.kept kwx.out hnbm.out.1).c0
   have tdx := h_ (ptr_load' (kwx.out.get (k14.out.get t1'.out id) hnbm.out.2))
   have hox := h_ (ownsMap_kept hI.out.out kx id)
   have hshx := h_ (ownsMap_kept (ownsMap_kept hsh'.out k14.out id) kwx.out hne)
   have hsx := h_ ((h'.out.fresh k14.out).kept kwx.out (fun i hi e => hA (e ▸ hi)))
   have hxb' := h_ hxb
   have hwx' := h_ hwx
   have hlen2 : Hid ((es ++ partF p nd.ents k).length + (p (yk, yp)).length ≤ 100000) := h_ (by
    rw [hpart, List.length_append] at hplen
    have := hl'.out
    rw [List.length_append]
    omega)
   have hpart' := h_ hpart
   have hp2' := h_ hp2
   have hp3' := h_ hp3
   have hI' := h_ hI.out
   clear hy hym hy0 hy1 hEr qx kx hxb hwx hI hpart hplen hp2 hp3
   rcases hk'.out with hk2 | hk3
   ·have hkb : ((nd.kind : Int) == 2) = true := by simp [hk2]
    have hpy : Hid (p (yk, yp) = [(yk, yp)]) := h_ (hp2'.out hk2)
    have hkey : keyOf Try.prog 3 (.int .i64 yk) = some (.int .i64 yk) := keyOf_int_mk Try.underlying3 (WalkArith.wf_i64 (by omega))
    have hval : plainElem (H := Unit) Try.prog 3 (.int .i64 yp) = some (.lit (.int .i64 yp), []) := plainElem_int Try.underlying3 (WalkArith.wf_i64 (by omega))
    have hkey' := h_ hkey
    have hval' := h_ hval
    have hlen3 : (es ++ partF p nd.ents k).length ≤ 100000 := by have := hlen2.out; omega
    clear hk2 hkey hval
    go_wp2_with (first | (refine wpList_load_agg 58 rfl rfl rfl _ Try.underlying58 rfl [.int .i64 yk, .int .i64 yp] (by kernel_rfl) hlo.out ?_) | (refine wpList_alloc_as 58 rfl rfl #[.int .i64 0, .int .i64 0] (by kernel_rfl) ?_; rw [hxb'.out]) | (refine wpList_store_whole 58 rfl rfl rfl [.int .i64 yk, .int .i64 yp] rfl (by kernel_rfl) 58 #[.int .i64 0, .int .i64 0] (by rw [← hxb'.out]; exact heap_alloc_new _ _) rfl (by intro c hc; simp at hc; rcases hc with rfl | rfl <;> rfl) ?_; rw [hwx'.out]) | (refine wpList_mapUpdate_own wx rfl (.tmp 55) (.tmp 57) (.tmp 59) 75 rfl 3 3 K'.out Try.underlying75 (plainElem Try.prog 3) mo (es ++ partF p nd.ents k).length (outD (es ++ partF p nd.ents k)) (by rfl) hox.out (by unfold maxLen; omega) (.int .i64 yk) (.int .i64 yp) (.int .i64 yk) (by rfl) (by rfl) hkey'.out (.lit (.int .i64 yp)) [] hval'.out ?_; intro w5 hm5 hg5))
    have fin := h_ (show OwnAt w4 mo es (partF p nd.ents (k + 1)) w5 from ⟨by
     rw [hpart'.out, hpy.out, ← List.append_assoc, outD_snoc, List.length_append (bs := [(yk, yp)])]
     exact hm5, kwx.out.trans ((Kept.of_grown hg5).mono (fun k e => by injection e with e; exact e.symm))⟩)
    clear hm5 hg5
    go_roundw
    case rel => exact ⟨k + 1, by omega, by go_num, fin⟩
    case measure => simp [intOf]; omega
   ·have hkb : ((nd.kind : Int) == 2) = false := by simp [hk3]
    have hC := hp3'.out hk3 wx A ms n D mo (es ++ partF p nd.ents k) hsx.out hshx.out hD'.out hox.out hne hA hlen2.out
    rw [Int.natCast_add, Int.natCast_one] at hC
    have hC' := h_ hC
    clear hk3 hC
    go_wp2_with (first | (refine wpList_load_agg 58 rfl rfl rfl _ Try.underlying58 rfl [.int .i64 yk, .int .i64 yp] (by kernel_rfl) hlo.out ?_) | (refine wpList_alloc_as 58 rfl rfl #[.int .i64 0, .int .i64 0] (by kernel_rfl) ?_; rw [hxb'.out]) | (refine wpList_store_whole 58 rfl rfl rfl [.int .i64 yk, .int .i64 yp] rfl (by kernel_rfl) 58 #[.int .i64 0, .int .i64 0] (by rw [← hxb'.out]; exact heap_alloc_new _ _) rfl (by intro c hc; simp at hc; rcases hc with rfl | rfl <;> rfl) ?_; rw [hwx'.out]) | (refine wpList_load_agg 31 rfl rfl rfl _ Try.underlying31 rfl [.pointer (some ⟨A.sb, 0, none⟩)] (by kernel_rfl) tdx.out ?_))
    refine hC'.out.mono ?_
    rintro e w5 ⟨rfl, hm5, hk5⟩
    have fin := h_ (show OwnAt w4 mo es (partF p nd.ents (k + 1)) w5 from ⟨by
     rw [hpart'.out, ← List.append_assoc]
     exact hm5, kwx.out.trans hk5⟩)
    clear hm5 hk5
    go_wp2_with fail
    go_roundw
    case rel => exact ⟨k + 1, by omega, by go_num, fin⟩
    case measure => simp [intOf]; omega
  ·obtain rfl : k = nd.ents.length := by omega
   have ho := hI.out.out
   rw [show partF p nd.ents nd.ents.length = (nd.ents.map p).flatten by unfold partF; rw [List.take_length]] at ho
   have ho' := h_ ho
   have kk := h_ (((k1'.out.trans k14.out).mono (fun k e => e.elim)).trans hI.out.kept : Kept (fun k => k = mo) w wr)
   clear ho hI
   go_wp2_with fail
   go_ret
   exact ⟨rfl, ho'.out, kk.out⟩
end Go.Proofs.Ytdcnogjbmdhgaaa
