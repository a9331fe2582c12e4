/-
  Two trees held against one another: the nodes that are in both (diff's shared).
-/
import Derived.Test.YtidlchciehdefaaGreatK12
import Derived.Test.YtidlchciehdefaaGreatK14
import Derived.Maps.RangeWalk
set_option linter.unusedVariables false
set_option linter.unusedSimpArgs false
namespace Go.Proofs.YtidlchciehdefaaGreat
open Go.RowKit Go.Maps Go.Sort
set_option maxRecDepth 100000

/-- A map that is a set of numbers. -/
def SetB (D : DataW Unit) (p : Int → Bool) : Prop := ∀ x, has D (.int .i64 x) = p x ∧ D.atKey (.int .i64 x) (.lit (.int .i64 0)) = .lit (.int .i64 (if p x then 1 else 0))
theorem seenD_has (x : Int) (seen : List Int) : has (seenD seen) (.int .i64 x) = decide (x ∈ seen) := by
  have hh : has (seenD seen) (.int .i64 x) = true ↔ x ∈ seen := by
    unfold seenD
    rw [has_setOf _ _ _ (fun y hy => by obtain ⟨z, _, rfl⟩ := List.mem_map.1 hy; exact int_key z), List.any_map, List.any_eq_true]
    constructor
    · rintro ⟨y, hy, he⟩
      have : y = x := by simpa [Lit.sameKey] using he
      rw [← this]; exact hy
    · intro h; exact ⟨x, h, by simp [Lit.sameKey]⟩
  by_cases hx : x ∈ seen
  · rw [hh.2 hx, decide_eq_true hx]
  · rw [decide_eq_false hx]
    cases e : has (seenD seen) (.int .i64 x) with
    | false => rfl
    | true => exact absurd (hh.1 e) hx
theorem seenD_set (seen : List Int) : SetB (seenD seen) fun x => decide (x ∈ seen) := fun x => ⟨seenD_has x seen, by
  rw [seenD_at]
  by_cases hx : x ∈ seen
  · simp [hx]
  · simp [hx]⟩
theorem SetB.congr {D : DataW Unit} {p q : Int → Bool} (h : SetB D p) (e : ∀ x, p x = q x) : SetB D q := fun x => by rw [← e x]; exact h x
theorem SetB.del {D : DataW Unit} {p : Int → Bool} (h : SetB D p) (x : Int) : SetB (D.del (.int .i64 x)) fun z => p z && decide (z ≠ x) := fun z => by
  by_cases e : z = x
  · subst e
    rw [has_del_same, atKey_del_same]
    simp
  · have hne : (Lit.int .i64 z) ≠ .int .i64 x := by intro h; injection h with _ h; exact e h
    rw [has_del_other hne, atKey_del_other hne]
    simpa [e] using h z
theorem key_same (z x : Int) : (Lit.int .i64 z).sameKey (.int .i64 x) = decide (z = x) := by
  simp only [Lit.sameKey]
  by_cases e : z = x
  · simp [e]
  · simp [e]
theorem ptr_load' {w : World} {p s : Nat} {t : TypeId} (h : w.heap[p]? = some (.cells #[.pointer (some ⟨s, 0, none⟩)] t (0, 0))) : ∀ j v, [Value.pointer (some ⟨s, 0, none⟩)][j]? = some v → w.cell? ⟨p, 0 + j, none⟩ = some v := fun j v hj => by rw [Nat.zero_add, cell_of_heap h]; simpa using hj
/-- What a round keeps. -/
structure SharedAt (w : World) (Sa Sb : List Int) (ma mb r na : Nat) (left : Lit → Bool) (cnt : Nat) (D : DataW Unit) (wr : World) : Prop where
  rg : wr.ranges Tryz.prog 3 (plainElem Tryz.prog 3) ma r na D left cnt
  set : SetB D fun x => decide (x ∈ Sa) && (left (.int .i64 x) || decide (x ∈ Sb))
  other : wr.ownsMap Tryz.prog 3 (plainElem Tryz.prog 3) mb Sb.length (seenD Sb)
  kept : Kept (fun _ => False) w wr
set_option maxHeartbeats 8000000 in
theorem sharedAny {w : World} {A : SA} {M : SM} (h : StoreAt w A M) {ra rb : Int} (hra : -9223372036854775808 ≤ ra ∧ ra ≤ 9223372036854775807) (hoka : ∀ x, Below M ra x → x = -1 ∨ (M.get x).2 = 0) (hnea : ∀ x, Below M ra x → (M.get x).1.kind = 3 → (M.get x).1.ents ≠ [])
    (hrb : -9223372036854775808 ≤ rb ∧ rb ≤ 9223372036854775807) (hokb : ∀ x, Below M rb x → x = -1 ∨ (M.get x).2 = 0) (hneb : ∀ x, Below M rb x → (M.get x).1.kind = 3 → (M.get x).1.ents ≠ []) :
    Calls Tryz.prog 86 #[.agg #[.pointer (some ⟨A.sb, 0, none⟩)], .int .i64 ra, .int .i64 rb] w fun e w' => ∃ (ma n : Nat) (D : DataW Unit) (Sa Sb : List Int), e = .returned (.tuple #[.map (some ma), .int .i64 0]) ∧ w.heap.size ≤ ma ∧ n ≤ 240 ∧
      w'.ownsMap Tryz.prog 3 (plainElem Tryz.prog 3) ma n D ∧ SetB D (fun x => decide (x ∈ Sa) && decide (x ∈ Sb)) ∧ Sa.Nodup ∧ (∀ x, x ∈ Sa ↔ Below M ra x ∧ x ≠ -1) ∧ (∀ x, x ∈ Sb ↔ Below M rb x ∧ x ≠ -1) ∧ Kept (fun _ => False) w w' := by
  have K : Keyed Tryz.prog 3 := int_keyed Tryz.underlying3
  obtain ⟨db, hdb⟩ : ∃ db, w.heap.size = db := ⟨_, rfl⟩
  obtain ⟨w1, hw1⟩ : ∃ w1, w.alloc (.cells #[.pointer (some ⟨A.sb, 0, none⟩)] 30) = w1 := ⟨_, rfl⟩
  have k1 : Kept (fun _ => False) w w1 := by rw [← hw1]; exact (Kept.refl _ _).alloc _
  have t1 : w1.heap[db]? = some (.cells #[.pointer (some ⟨A.sb, 0, none⟩)] 30 (0, 0)) := by rw [← hw1, ← hdb]; exact heap_alloc_new _ _
  have ld1 := Lib.hid (ptr_load' t1)
  have hI1 := Lib.hid (innerAny (h.fresh k1) hra hoka hnea)
  have hw1' := Lib.hid hw1
  have hdb' := Lib.hid hdb
  have t1' := Lib.hid t1
  have h' := Lib.hid (h.fresh k1)
  have k1' := Lib.hid k1
  have hI2 := Lib.hid (fun w' (k : Kept (fun _ => False) w1 w') => innerAny ((h.fresh k1).fresh k) hrb hokb hneb)
  have K' := Lib.hid K
  clear h hw1 hdb k1 t1 hoka hnea hokb hneb K
  go_enter Tryz.func86, Tryz.ntmps86
  go_wp2_with (first | (refine wpList_box_named 30 rfl rfl _ rfl hw1'.out ?_; rw [hdb'.out]) | (refine wpList_load_agg 30 rfl rfl rfl _ Tryz.underlying30 rfl [.pointer (some ⟨A.sb, 0, none⟩)] (by kernel_rfl) ld1.out ?_))
  refine hI1.out.mono ?_
  rintro e w2 ⟨ma, Sa, rfl, hma, hownA, hnda, hla, hSa, hk2⟩
  have ld2 := Lib.hid (ptr_load' (hk2.get t1'.out id))
  have hI2' := Lib.hid (hI2.out w2 hk2)
  have hownA' := Lib.hid hownA
  have hk2' := Lib.hid hk2
  have hSa' := Lib.hid hSa
  have hnda' := Lib.hid hnda
  clear hownA hk2 hSa hnda
  go_wp2_with (first | (refine wpList_load_agg 30 rfl rfl rfl _ Tryz.underlying30 rfl [.pointer (some ⟨A.sb, 0, none⟩)] (by kernel_rfl) ld2.out ?_))
  refine hI2'.out.mono ?_
  rintro e w3 ⟨mb, Sb, rfl, hmb, hownB, hndb, hlb, hSb, hk3⟩
  have hownA3 := ownsMap_kept hownA'.out hk3 id
  have hmm : Hid (ma ≠ mb) := Lib.hid (by have := hownA'.out.lt; omega)
  have hownB' := Lib.hid hownB
  have k3' := Lib.hid (hk2'.out.trans hk3)
  have hSb' := Lib.hid hSb
  have hs3 := hk3.size
  have hmaw : Hid (w.heap.size ≤ ma) := Lib.hid (by have := k1'.out.size; omega)
  have hma1 : Hid (w1.heap.size ≤ ma) := Lib.hid hma
  clear hownB hk3 hSb hndb hmb
  go_wp2_with (first | (at_range; refine wpList_range_own _ rfl _ 145 rfl 3 3 K'.out Tryz.underlying145 _ ma Sa.length _ rfl hownA3 ?_; intro w4 hrg4 hg4 hs4))
  go_frame
  obtain ⟨r, hr⟩ : ∃ r, w3.heap.size = r := ⟨_, rfl⟩
  rw [hr] at hrg4 ⊢
  have hrw1 : Hid (w1.heap.size ≤ r) := Lib.hid (by have := k3'.out.size; omega)
  have hrb' : Hid (r ≠ mb) := Lib.hid (by have := hownB'.out.lt; omega)
  have I4 := Lib.hid (show SharedAt w1 Sa Sb ma mb r Sa.length (has (seenD Sa)) (size (seenD Sa)) (seenD Sa) w4 from
    ⟨hrg4, (seenD_set Sa).congr (fun x => by rw [seenD_has]; cases decide (x ∈ Sa) <;> rfl), ownsMap_kept hownB'.out (Kept.of_grown hg4) (by simp), k3'.out.trans ((Kept.of_grown hg4).mono (fun k e => by cases e))⟩)
  clear hrg4 hg4 hs4 hownA3 hr
  go_loopw [11] (fun _ wr => ∃ left cnt D, Hid (SharedAt w1 Sa Sb ma mb r Sa.length left cnt D wr)) (fun _ wr => wr.rangeLeft ma r)
  case atStart => exact ⟨_, _, _, I4⟩
  case round =>
    obtain ⟨left, cnt, D, hI⟩ := hrel
    have hrg := hI.out.rg
    go_wp2_with (first | (at_next; refine wpList_next_ranges_ii _ rfl _ rfl 3 3 .i64 .i64 K'.out Tryz.underlying3 Tryz.underlying3 ma r Sa.length _ _ _ rfl hrg ?_ ?_))
    · intro _ hl0
      have hend := Lib.hid (hI.out.set.congr (q := fun x => decide (x ∈ Sa) && decide (x ∈ Sb)) (fun x => by rw [hl0]; rfl))
      have hown := Lib.hid hrg.owns
      have kk := Lib.hid (k1'.out.trans hI.out.kept)
      clear hrg hI
      go_wp2_with fail
      go_ret2
      exact ⟨ma, Sa.length, D, Sa, Sb, rfl, hmaw.out, hla, hown.out, hend.out, hnda'.out, hSa'.out, hSb'.out, kk.out⟩
    · intro x c w5 cnt5 hwx hwc hlx hat hrg5 hlt5 hg5 hs5 hen
      have hkey : keyOf Tryz.prog 3 (.int .i64 x) = some (.int .i64 x) := keyOf_int_mk Tryz.underlying3 hwx
      have hB5 := ownsMap_kept hI.out.other (Kept.of_grown hg5) (fun e => by injection e with e; exact hrb'.out e)
      obtain ⟨c2, hlook, hcat, _⟩ := hB5.lookup_int K'.out Tryz.underlying145 Tryz.underlying3 (Tryz.zeroValue3 w5) hkey
      rw [seenD_at] at hcat
      have hcx : c2 = if x ∈ Sb then 1 else 0 := by injection hcat with h; injection h with _ h; exact h.symm
      have hk5 := Lib.hid (hI.out.kept.trans_new (Kept.of_grown hg5) (fun i hi e => by injection e with e; have := hrw1.out; omega))
      have hB5' := Lib.hid hB5
      have hrg5' := Lib.hid hrg5
      have hset := Lib.hid hI.out.set
      have hlx' := Lib.hid hlx
      have hkey' := Lib.hid hkey
      have hleft := Lib.hid hrg.left_eq
      clear hcat hB5 hrg5 hI hrg hg5 hs5 hat hlx hkey hwc hwx
      by_cases hxb : x ∈ Sb
      · rw [if_pos hxb] at hcx
        subst hcx
        have hnew := Lib.hid (show SharedAt w1 Sa Sb ma mb r Sa.length _ cnt5 D w5 from ⟨hrg5'.out, hset.out.congr (fun z => by
          rw [key_same]
          by_cases e : z = x
          · subst e; simp [hxb]
          · simp [e]), hB5'.out, hk5.out⟩)
        have hml : Hid (w5.rangeLeft ma r < wr.rangeLeft ma r) := Lib.hid (by rw [hnew.out.rg.left_eq, hleft.out]; exact hlt5)
        clear hxb
        go_wp2_with fail
        go_roundw
        case rel => exact ⟨_, _, _, hnew⟩
        case measure => exact hml.out
      · rw [if_neg hxb] at hcx
        subst hcx
        go_wp2_with (first | (at_delete; refine wpList_delete_ranges _ rfl _ _ 145 3 rfl 3 K'.out Tryz.underlying145 _ ma r Sa.length _ _ _ rfl hrg5'.out _ _ rfl hkey'.out ?_; intro w6 cnt6 hrg6 hle6 hturn6; go_frame))
        have hg6 := hturn6.grown
        rw [Maps.strike_twice] at hrg6
        have hnew := Lib.hid (show SharedAt w1 Sa Sb ma mb r Sa.length _ cnt6 _ w6 from ⟨hrg6, (hset.out.del x).congr (fun z => by
          rw [key_same]
          by_cases e : z = x
          · subst e; simp [hxb]
          · simp [e]), ownsMap_kept hB5'.out (Kept.of_grown hg6) (fun e => by injection e with e; exact hmm.out e), hk5.out.trans_new (Kept.of_grown hg6) (fun i hi e => by injection e with e; have := hma1.out; omega)⟩)
        have hml : Hid (w6.rangeLeft ma r < wr.rangeLeft ma r) := Lib.hid (by rw [hnew.out.rg.left_eq, hleft.out]; omega)
        clear hrg6 hg6 hturn6
        go_roundw
        case rel => exact ⟨_, _, _, hnew⟩
        case measure => exact hml.out
end Go.Proofs.YtidlchciehdefaaGreat
/-
  Two trees held against one another: what is in one, but for what is shared (diff's own).
-/
namespace Go.Proofs.YtidlchciehdefaaGreat
open Go.RowKit Go.Maps Go.Sort
set_option maxRecDepth 100000

def outD (es : List (Int × Int)) : DataW Unit := es.foldl (fun m e => m.put (.int .i64 e.1) (.lit (.int .i64 e.2))) (seenD [])
theorem outD_snoc (es : List (Int × Int)) (y : Int × Int) : outD (es ++ [y]) = (outD es).put (.int .i64 y.1) (.lit (.int .i64 y.2)) := by unfold outD; rw [List.foldl_append]; rfl
theorem get_ents {w : World} {A : SA} {M : SM} (h : StoreAt w A M) {x : Int} (h0 : (M.get x).2 = 0) : ∀ y ∈ (M.get x).1.ents, 0 ≤ y.1 ∧ y.1 < 64 ∧ 0 ≤ y.2 ∧ y.2 < 240 := by
  unfold SM.get at h0 ⊢
  split at h0
  · rename_i hh
    rw [if_pos hh]
    cases hn : M.nodeAt x.toNat with
    | none => rw [hn] at h0; cases h0
    | some n =>
      dsimp only
      have hok := nodeAt_ok h hn
      exact fun y hy => by
        have := hok.entry hy
        omega
  · cases h0
/-- What own does at a node. -/
def OwnC (M : SM) (S : Int → Bool) (depth : Nat) (root : Int) (own : List (Int × Int)) : Prop :=
  ∀ (w : World) (A : SA) (ms n : Nat) (D : DataW Unit) (mo : Nat) (es : List (Int × Int)), StoreAt w A M → w.ownsMap Tryz.prog 3 (plainElem Tryz.prog 3) ms n D → SetB D S → w.ownsMap Tryz.prog 3 (plainElem Tryz.prog 3) mo es.length (outD es) → ms ≠ mo → ¬ A.own mo → es.length + own.length ≤ 100000 →
    Calls Tryz.prog 87 #[.agg #[.pointer (some ⟨A.sb, 0, none⟩)], .int .i64 root, .int .i64 (depth : Int), .map (some ms), .map (some mo)] w fun e w' => e = .returned (.int .i64 0) ∧ w'.ownsMap Tryz.prog 3 (plainElem Tryz.prog 3) mo (es ++ own).length (outD (es ++ own)) ∧ Kept (fun k => k = mo) w w'
theorem ownNone {M : SM} {S : Int → Bool} {depth : Nat} {root : Int} (hrw : -9223372036854775808 ≤ root ∧ root ≤ 9223372036854775807) (hr : root = -1 ∨ S root = true) : OwnC M S depth root [] := by
  intro w A ms n D mo es h hsh hD hout hne hA hl
  have K : Keyed Tryz.prog 3 := int_keyed Tryz.underlying3
  obtain ⟨db, hdb⟩ : ∃ db, w.heap.size = db := ⟨_, rfl⟩
  obtain ⟨w1, hw1⟩ : ∃ w1, w.alloc (.cells #[.pointer (some ⟨A.sb, 0, none⟩)] 30) = w1 := ⟨_, rfl⟩
  have k1 : Kept (fun _ => False) w w1 := by rw [← hw1]; exact (Kept.refl _ _).alloc _
  have hkey : keyOf Tryz.prog 3 (.int .i64 root) = some (.int .i64 root) := keyOf_int_mk Tryz.underlying3 (WalkArith.wf_i64 hrw)
  obtain ⟨c, hlook, hcat, _⟩ := (ownsMap_kept hsh k1 id).lookup_int K Tryz.underlying145 Tryz.underlying3 (Tryz.zeroValue3 w1) hkey
  rw [(hD root).2] at hcat
  have hcx : c = if S root = true then 1 else 0 := by injection hcat with h; injection h with _ h; exact h.symm
  have fin : Hid (w1.ownsMap Tryz.prog 3 (plainElem Tryz.prog 3) mo (es ++ []).length (outD (es ++ [])) ∧ Kept (fun k => k = mo) w w1) := Lib.hid ⟨by rw [List.append_nil]; exact ownsMap_kept hout k1 id, k1.mono (fun k e => e.elim)⟩
  have hw1' := Lib.hid hw1
  have hdb' := Lib.hid hdb
  clear hw1 hdb k1 hcat hkey hsh hout h hD
  by_cases e : root = -1
  · subst e
    clear hcx hlook hr
    go_enter Tryz.func87, Tryz.ntmps87
    go_wp2_with (first | (refine wpList_box_named 30 rfl rfl _ rfl hw1'.out ?_; rw [hdb'.out]))
    go_ret
    exact ⟨rfl, fin.out⟩
  · have hb : (root == -1) = false := by simpa using e
    rw [if_pos (hr.resolve_left e)] at hcx
    subst hcx
    clear hr e
    go_enter Tryz.func87, Tryz.ntmps87
    go_wp2_with (first | (refine wpList_box_named 30 rfl rfl _ rfl hw1'.out ?_; rw [hdb'.out]))
    go_ret
    exact ⟨rfl, fin.out⟩
structure OwnAt (w0 : World) (mo : Nat) (es : List (Int × Int)) (part : List (Int × Int)) (wr : World) : Prop where
  out : wr.ownsMap Tryz.prog 3 (plainElem Tryz.prog 3) mo (es ++ part).length (outD (es ++ part))
  kept : Kept (fun k => k = mo) w0 wr
def partF (p : Int × Int → List (Int × Int)) (l : List (Int × Int)) (k : Nat) : List (Int × Int) := ((l.take k).map p).flatten
theorem partF_succ {p : Int × Int → List (Int × Int)} {l : List (Int × Int)} {k : Nat} {y : Int × Int} (h : l[k]? = some y) : partF p l (k + 1) = partF p l k ++ p y := by
  unfold partF
  rw [List.take_add_one, h]
  simp
theorem partF_len (p : Int × Int → List (Int × Int)) (l : List (Int × Int)) (k : Nat) : (partF p l k).length ≤ ((l.map p).flatten).length := by
  have e : (l.map p).flatten = partF p l k ++ ((l.drop k).map p).flatten := by
    unfold partF
    rw [← List.flatten_append, ← List.map_append, List.take_append_drop]
  rw [e, List.length_append]
  omega
set_option maxHeartbeats 8000000 in
theorem ownNode {M : SM} {S : Int → Bool} {depth : Nat} {root : Int} {nd : NM} (hg : M.get root = (nd, 0)) (hS : S root = false) (hk : nd.kind = 2 ∨ nd.kind = 3) (hd : depth < 8) {p : Int × Int → List (Int × Int)} (h2 : nd.kind = 2 → ∀ y ∈ nd.ents, p y = [y]) (h3 : nd.kind = 3 → ∀ y ∈ nd.ents, OwnC M S (depth + 1) y.2 (p y)) :
    OwnC M S depth root ((nd.ents.map p).flatten) := by
  intro w A ms n D mo es h hsh hD hout hne hA hl
  have K : Keyed Tryz.prog 3 := int_keyed Tryz.underlying3
  obtain ⟨Z, hZ⟩ : ∃ Z, nodeCells NM.zero (.slice none 0 0) = Z := ⟨_, rfl⟩
  have hZz : Hid ((Tryz.prog.info? 115).map (·.zero) = some (some (.agg Z.toArray))) := Lib.hid (by rw [← hZ]; exact node_zero)
  have hZl : Hid (Z.length = 18) := Lib.hid (by rw [← hZ]; exact nodeCells_len _ _)
  have hr0 := get_ok h (x := root) (by rw [hg])
  have hents := get_ents h (x := root) (by rw [hg])
  rw [hg] at hr0 hents
  dsimp only at hr0 hents
  obtain ⟨r0, r240, hn6, _⟩ := hr0
  obtain ⟨db, hdb⟩ : ∃ db, w.heap.size = db := ⟨_, rfl⟩
  obtain ⟨w1, hw1⟩ : ∃ w1, w.alloc (.cells #[.pointer (some ⟨A.sb, 0, none⟩)] 30) = w1 := ⟨_, rfl⟩
  have k1 : Kept (fun _ => False) w w1 := by rw [← hw1]; exact (Kept.refl _ _).alloc _
  have t1 : w1.heap[db]? = some (.cells #[.pointer (some ⟨A.sb, 0, none⟩)] 30 (0, 0)) := by rw [← hw1, ← hdb]; exact heap_alloc_new _ _
  have cd : w1.cell? ⟨db, 0, none⟩ = some (.pointer (some ⟨A.sb, 0, none⟩)) := by rw [cell_of_heap t1]; rfl
  have hkey : keyOf Tryz.prog 3 (.int .i64 root) = some (.int .i64 root) := keyOf_int_mk Tryz.underlying3 (WalkArith.wf_i64 (by omega))
  obtain ⟨c, hlook, hcat, _⟩ := (ownsMap_kept hsh k1 id).lookup_int K Tryz.underlying145 Tryz.underlying3 (Tryz.zeroValue3 w1) hkey
  rw [(hD root).2, hS] at hcat
  obtain rfl : c = 0 := by injection hcat with h; injection h with _ h; exact h.symm
  have hgt := get_any (h.fresh k1) root
  rw [hg] at hgt
  dsimp only at hgt
  have hgt' := Lib.hid hgt
  have hb1 : (root == -1) = false := by simp; omega
  have hk1b : ((nd.kind : Int) == 1) = false := by simp; omega
  have hd8b : decide ((8 : Int) ≤ (depth : Int)) = false := by simp; omega
  have hmo : mo < w.heap.size := hout.lt
  have hw1' := Lib.hid hw1
  have hdb' := Lib.hid hdb
  have k1' := Lib.hid k1
  have t1' := Lib.hid t1
  have hsh' := Lib.hid (ownsMap_kept hsh k1 id)
  have hout' := Lib.hid (ownsMap_kept hout k1 id)
  have h' := Lib.hid (h.fresh k1)
  have hk' := Lib.hid hk
  have h2' := Lib.hid h2
  have h3' := Lib.hid h3
  have hents' := Lib.hid hents
  have K' := Lib.hid K
  have hD' := Lib.hid hD
  have hl' := Lib.hid hl
  clear h hsh hD hout hw1 hdb k1 t1 hcat hkey hgt hg hS hk h2 h3 hZ K hents hl
  go_enter Tryz.func87, Tryz.ntmps87
  go_wp2_with (first | (refine wpList_box_named 30 rfl rfl _ rfl hw1'.out ?_; rw [hdb'.out]))
  refine hgt'.out.mono ?_
  rintro e w3 ⟨v3, rfl, hown3, hk3⟩
  obtain ⟨A3, c3, rfl, hc31, hc32⟩ := EntsAt.form (show EntsAt w3 v3 nd.ents from SliceAt.of_owns hown3)
  unfold maxLen at hc32
  obtain ⟨F, hF⟩ : ∃ F, nodeCells nd (.slice A3 nd.ents.length c3) = F := ⟨_, rfl⟩
  have hFl : Hid (F.length = 18) := Lib.hid (by rw [← hF]; exact nodeCells_len _ _)
  have hF1 : Hid (∀ v ∈ F, v.oneCell' = true) := Lib.hid (by rw [← hF]; exact nodeCells_one _ _ _ _)
  obtain ⟨nb, hnb⟩ : ∃ nb, w3.heap.size = nb := ⟨_, rfl⟩
  obtain ⟨w4, hw4⟩ : ∃ w4, (w3.alloc (.cells Z.toArray 115)).setRow nb F.toArray = w4 := ⟨_, rfl⟩
  have k4 : Kept (fun _ => False) w3 w4 := by rw [← hw4]; exact ((Kept.refl _ _).alloc _).setRowNew (by omega) _
  have bx4 : NodeBox w4 nb nd (.slice A3 nd.ents.length c3) := ⟨by rw [hF, ← hw4, ← hnb]; exact setRow_heap _ _ _ _ _ _ (heap_alloc_new _ _)⟩
  have hE4 := Lib.hid (SliceAt.fresh (SliceAt.of_owns hown3) k4 : EntsAt w4 (.slice A3 nd.ents.length c3) nd.ents)
  have k14 := Lib.hid (hk3.trans k4)
  have s13 := hk3.size
  have s1 := k1'.out.size
  have hb3 := Lib.hid (fun b (hb : (Value.slice A3 nd.ents.length c3).ownBlock = some b) => (hown3.lt b hb).1)
  have hnbm : Hid (nb ≠ mo ∧ db ≠ mo) := Lib.hid ⟨by omega, by have := hdb'.out; omega⟩
  have bx4' := Lib.hid bx4
  have c40 := bx4.c0
  have c417 := bx4.c17
  have hw4' := Lib.hid hw4
  have hnb' := Lib.hid hnb
  have I4 := Lib.hid (show OwnAt w4 mo es (partF p nd.ents 0) w4 from ⟨by rw [show partF p nd.ents 0 = [] from rfl, List.append_nil]; exact ownsMap_kept hout'.out k14.out id, Kept.refl _ _⟩)
  have hm1 : Hid (mo < w1.heap.size) := Lib.hid (by omega)
  rw [hF]
  clear hown3 hk3 hF k4 hw4 hnb bx4 hlook
  go_wp2_with (first | (refine wpList_alloc_as 115 rfl rfl Z.toArray hZz.out ?_; rw [hnb'.out]) | (refine wpList_store_whole 115 rfl rfl rfl F rfl (by rw [hFl.out]; exact node_size) 115 _ (by rw [← hnb'.out]; exact heap_alloc_new _ _) (by simp [hFl.out, hZl.out]) hF1.out ?_; rw [hw4'.out]))
  clear c40 c417
  go_loopw [48] (fun i wr => ∃ (k : Nat), k ≤ nd.ents.length ∧ i = .int .i64 k ∧ Hid (OwnAt w4 mo es (partF p nd.ents k) wr)) (fun i _ => nd.ents.length - (intOf i).toNat)
  case atStart => exact ⟨0, Nat.zero_le _, rfl, I4⟩
  case round =>
    obtain ⟨k, hk, rfl, hI⟩ := hrel
    by_cases hlt : k < nd.ents.length
    · obtain ⟨y, hy⟩ : ∃ y, nd.ents[k]? = some y := ⟨_, List.getElem?_eq_getElem hlt⟩
      have hym : y ∈ nd.ents := List.mem_of_getElem? hy
      have hEr : EntsAt wr (.slice A3 nd.ents.length c3) nd.ents := SliceAt.kept hE4.out hI.out.kept (fun b hb e => by have := hb3.out b hb; have := hm1.out; omega)
      obtain ⟨eb, eo, rfl, heb, hy0, hy1⟩ := hEr.get hy
      have hyb := hents'.out y hym
      have hpart := partF_succ (p := p) hy
      have hplen := partF_len p nd.ents (k + 1)
      have hp2 := fun e => h2'.out e y hym
      have hp3 := fun e => h3'.out e y hym
      obtain ⟨yk, yp⟩ := y
      dsimp only at hy0 hy1 hyb hpart hp3
      have hki : (k : Int) < (nd.ents.length : Int) := by omega
      have hlo : Hid (∀ j v, [Value.int .i64 yk, .int .i64 yp][j]? = some v → wr.cell? ⟨eb, eo + k * 2 + j, none⟩ = some v) := Lib.hid (fun j v hj => by
        match j, hj with
        | 0, hj => cases hj; exact hy0
        | 1, hj => cases hj; exact hy1)
      obtain ⟨xb, hxb⟩ : ∃ xb, wr.heap.size = xb := ⟨_, rfl⟩
      obtain ⟨wx, hwx⟩ : ∃ wx, (wr.alloc (.cells #[.int .i64 0, .int .i64 0] 86)).setRow xb #[.int .i64 yk, .int .i64 yp] = wx := ⟨_, rfl⟩
      have kx : Kept (fun _ => False) wr wx := by rw [← hwx]; exact ((Kept.refl _ _).alloc _).setRowNew (by omega) _
      have qx : wx.heap[xb]? = some (.cells #[.int .i64 yk, .int .i64 yp] 86 (0, 0)) := by rw [← hwx, ← hxb]; exact setRow_heap _ _ _ _ _ _ (heap_alloc_new _ _)
      have cx0 := cell_of_heap qx 0
      have cx1 := cell_of_heap qx 1
      simp at cx0 cx1
      have kwx := Lib.hid (hI.out.kept.trans (kx.mono (fun k e => e.elim)) : Kept (fun k => k = mo) w4 wx)
      have ckx := (bx4'.out.kept kwx.out hnbm.out.1).c0
      have tdx := Lib.hid (ptr_load' (kwx.out.get (k14.out.get t1'.out id) hnbm.out.2))
      have hox := Lib.hid (ownsMap_kept hI.out.out kx id)
      have hshx := Lib.hid (ownsMap_kept (ownsMap_kept hsh'.out k14.out id) kwx.out hne)
      have hsx := Lib.hid ((h'.out.fresh k14.out).kept kwx.out (fun i hi e => hA (e ▸ hi)))
      have hxb' := Lib.hid hxb
      have hwx' := Lib.hid hwx
      have hlen2 : Hid ((es ++ partF p nd.ents k).length + (p (yk, yp)).length ≤ 100000) := Lib.hid (by
        rw [hpart, List.length_append] at hplen
        have := hl'.out
        rw [List.length_append]
        omega)
      have hpart' := Lib.hid hpart
      have hp2' := Lib.hid hp2
      have hp3' := Lib.hid hp3
      have hI' := Lib.hid hI.out
      clear hy hym hy0 hy1 hEr qx kx hxb hwx hI hpart hplen hp2 hp3
      rcases hk'.out with hk2 | hk3
      · have hkb : ((nd.kind : Int) == 2) = true := by simp [hk2]
        have hpy : Hid (p (yk, yp) = [(yk, yp)]) := Lib.hid (hp2'.out hk2)
        have hkey : keyOf Tryz.prog 3 (.int .i64 yk) = some (.int .i64 yk) := keyOf_int_mk Tryz.underlying3 (WalkArith.wf_i64 (by omega))
        have hval : plainElem (H := Unit) Tryz.prog 3 (.int .i64 yp) = some (.lit (.int .i64 yp), []) := plainElem_int Tryz.underlying3 (WalkArith.wf_i64 (by omega))
        have hkey' := Lib.hid hkey
        have hval' := Lib.hid hval
        have hlen3 : (es ++ partF p nd.ents k).length ≤ 100000 := by have := hlen2.out; omega
        clear hk2 hkey hval
        go_wp2_with (first | (refine wpList_load_agg 86 rfl rfl rfl _ Tryz.underlying86 rfl [.int .i64 yk, .int .i64 yp] (by kernel_rfl) hlo.out ?_) | (refine wpList_alloc_as 86 rfl rfl #[.int .i64 0, .int .i64 0] (by kernel_rfl) ?_; rw [hxb'.out]) | (refine wpList_store_whole 86 rfl rfl rfl [.int .i64 yk, .int .i64 yp] rfl (by kernel_rfl) 86 #[.int .i64 0, .int .i64 0] (by rw [← hxb'.out]; exact heap_alloc_new _ _) rfl (by intro c hc; simp at hc; rcases hc with rfl | rfl <;> rfl) ?_; rw [hwx'.out]) | (refine wpList_mapUpdate_own wx rfl (.tmp 55) (.tmp 57) (.tmp 59) 145 rfl 3 3 K'.out Tryz.underlying145 (plainElem Tryz.prog 3) mo (es ++ partF p nd.ents k).length (outD (es ++ partF p nd.ents k)) (by rfl) hox.out (by unfold maxLen; omega) (.int .i64 yk) (.int .i64 yp) (.int .i64 yk) (by rfl) (by rfl) hkey'.out (.lit (.int .i64 yp)) [] hval'.out ?_; intro w5 hm5 hg5))
        have fin := Lib.hid (show OwnAt w4 mo es (partF p nd.ents (k + 1)) w5 from ⟨by
          rw [hpart'.out, hpy.out, ← List.append_assoc, outD_snoc, List.length_append (bs := [(yk, yp)])]
          exact hm5, kwx.out.trans ((Kept.of_grown hg5).mono (fun k e => by injection e with e; exact e.symm))⟩)
        clear hm5 hg5
        go_roundw
        case rel => exact ⟨k + 1, by omega, by go_num, fin⟩
        case measure => simp [intOf]; omega
      · have hkb : ((nd.kind : Int) == 2) = false := by simp [hk3]
        have hC := hp3'.out hk3 wx A ms n D mo (es ++ partF p nd.ents k) hsx.out hshx.out hD'.out hox.out hne hA hlen2.out
        rw [Int.natCast_add, Int.natCast_one] at hC
        have hC' := Lib.hid hC
        clear hk3 hC
        go_wp2_with (first | (refine wpList_load_agg 86 rfl rfl rfl _ Tryz.underlying86 rfl [.int .i64 yk, .int .i64 yp] (by kernel_rfl) hlo.out ?_) | (refine wpList_alloc_as 86 rfl rfl #[.int .i64 0, .int .i64 0] (by kernel_rfl) ?_; rw [hxb'.out]) | (refine wpList_store_whole 86 rfl rfl rfl [.int .i64 yk, .int .i64 yp] rfl (by kernel_rfl) 86 #[.int .i64 0, .int .i64 0] (by rw [← hxb'.out]; exact heap_alloc_new _ _) rfl (by intro c hc; simp at hc; rcases hc with rfl | rfl <;> rfl) ?_; rw [hwx'.out]) | (refine wpList_load_agg 30 rfl rfl rfl _ Tryz.underlying30 rfl [.pointer (some ⟨A.sb, 0, none⟩)] (by kernel_rfl) tdx.out ?_))
        refine hC'.out.mono ?_
        rintro e w5 ⟨rfl, hm5, hk5⟩
        have fin := Lib.hid (show OwnAt w4 mo es (partF p nd.ents (k + 1)) w5 from ⟨by
          rw [hpart'.out, ← List.append_assoc]
          exact hm5, kwx.out.trans hk5⟩)
        clear hm5 hk5
        go_wp2_with fail
        go_roundw
        case rel => exact ⟨k + 1, by omega, by go_num, fin⟩
        case measure => simp [intOf]; omega
    · obtain rfl : k = nd.ents.length := by omega
      have ho := hI.out.out
      rw [show partF p nd.ents nd.ents.length = (nd.ents.map p).flatten by unfold partF; rw [List.take_length]] at ho
      have ho' := Lib.hid ho
      have kk := Lib.hid (((k1'.out.trans k14.out).mono (fun k e => e.elim)).trans hI.out.kept : Kept (fun k => k = mo) w wr)
      clear ho hI
      go_wp2_with fail
      go_ret
      exact ⟨rfl, ho'.out, kk.out⟩
end Go.Proofs.YtidlchciehdefaaGreat
/-
  Trees (package tree): the page of a key.
-/
namespace Go.Proofs.YtidlchciehdefaaGreat
open Go.RowKit
set_option maxRecDepth 100000

theorem atI_bound {l : List (Int × Int)} (key : Int) : -1 ≤ atI l key ∧ atI l key < l.length := by
  unfold atI
  have := List.length_filter_le (fun x : Int × Int => decide (x.1 ≤ key)) l
  omega

end Go.Proofs.YtidlchciehdefaaGreat
/-
  Trees (package tree): how high one is.
-/
namespace Go.Proofs.YtidlchciehdefaaGreat
open Go.RowKit
set_option maxRecDepth 100000

end Go.Proofs.YtidlchciehdefaaGreat
/-
  Trees (package tree): all that is in one: how much that can be.
-/
namespace Go.Proofs.YtidlchciehdefaaGreat
open Go.RowKit
set_option maxRecDepth 100000

def listStep (f : Nat) (M : SM) (s : List (Int × Int) × Nat) (c : Int) : List (Int × Int) × Nat := if s.2 = 0 then (if (SM.listF f M c).2 = 0 then (s.1 ++ (SM.listF f M c).1, 0) else ([], (SM.listF f M c).2)) else s
theorem listF_succ (f : Nat) (M : SM) (root : Int) : SM.listF (f + 1) M root =
    if (M.tnode root (8 - f)).2 = 0 ∧ (M.tnode root (8 - f)).1.kind ≠ 2 then ((M.tnode root (8 - f)).1.ents.map (·.2)).foldl (listStep f M) ([], 0) else ((M.tnode root (8 - f)).1.ents, (M.tnode root (8 - f)).2) := rfl
end Go.Proofs.YtidlchciehdefaaGreat
/-
  Trees (package tree): all that is in one: the walk.
-/
namespace Go.Proofs.YtidlchciehdefaaGreat
open Go.RowKit
set_option maxRecDepth 100000

end Go.Proofs.YtidlchciehdefaaGreat
/-
  Trees (package tree): List.
-/
namespace Go.Proofs.YtidlchciehdefaaGreat
open Go.RowKit
set_option maxRecDepth 100000

end Go.Proofs.YtidlchciehdefaaGreat
/-
  Trees (package tree): the root over a node's entries.
-/
namespace Go.Proofs.YtidlchciehdefaaGreat
open Go.RowKit
set_option maxRecDepth 100000

theorem makes_bound (kind : Int) : ∀ (ps : List (List (Int × Int))) (M : SM) (out : List (Int × Int)), (SM.makes kind ps M out).1.log.length ≤ M.log.length + ps.length ∧ (SM.makes kind ps M out).2.1.length ≤ out.length + ps.length
  | [], M, out => ⟨Nat.le_refl _, Nat.le_refl _⟩
  | p :: ps, M, out => by
    rw [makes_cons]
    have hm := make_log M ⟨kind, zeros16, p⟩
    split
    · have := makes_bound kind ps (M.make ⟨kind, zeros16, p⟩).1 (out ++ [((p.getD 0 (0, 0)).1, (M.make ⟨kind, zeros16, p⟩).2.1)])
      rw [List.length_append] at this
      simp only [List.length_cons, List.length_nil] at *
      omega
    · simp only [List.length_cons, List.length_nil]
      omega
theorem split_bound (M : SM) (n : NM) : (M.split n).1.log.length ≤ M.log.length + 2 ∧ (M.split n).2.1.length ≤ 2 := by
  unfold SM.split
  split
  · simp
  · have h1 := makes_bound n.kind (partsOf n.ents) M []
    have h2 : (partsOf n.ents).length ≤ 2 := by unfold partsOf; split <;> (try split) <;> simp
    simp only [List.length_nil] at h1
    omega
theorem top_bound (M : SM) (n : NM) : (M.top n).1.log.length ≤ M.log.length + 4 := by
  unfold SM.top
  have h1 := split_bound M n
  have h2 := split_bound (M.split n).1 ⟨3, List.replicate 16 0, (M.split n).2.1⟩
  dsimp only
  split
  · split
    · split <;> (dsimp only; omega)
    · dsimp only; omega
  · dsimp only; omega
end Go.Proofs.YtidlchciehdefaaGreat
/-
  Nodes in a store, plain: what is closed under a store's steps; making a node keeps the store exact.
-/
namespace Go.Proofs.YtidlchciehdefaaGreat
open Go.RowKit

/-- What a store's steps keep. -/
structure Closed (Q : SM → Prop) : Prop where
  take : ∀ (M : SM) (i : Nat) (n : NM), M.pool.takeIx = some i → Q M → Q ⟨M.pool.setSt i 1, M.log ++ [(i, n)]⟩
  hold : ∀ (M : SM) (i : Int), Q M → Q ⟨M.pool.holdTo i, M.log⟩
  drop : ∀ (M : SM) (i : Int), M.pool.heldB i = true → Q M → Q ⟨M.pool.dropTo i.toNat, M.log⟩
theorem Closed.holds {Q : SM → Prop} (C : Closed Q) : ∀ (cs : List Int) (p : PM) (L : List (Nat × NM)), Q ⟨p, L⟩ → Q ⟨(Go.Proofs.YtidlchciehdefaaGreat.holds p cs).1, L⟩
  | [], _, _, h => h
  | c :: cs, p, L, h => by
    unfold Go.Proofs.YtidlchciehdefaaGreat.holds
    split
    · exact Closed.holds C cs _ _ (C.hold ⟨p, L⟩ c h)
    · exact h
theorem Closed.make {Q : SM → Prop} (C : Closed Q) {M : SM} (n : NM) (h : Q M) : Q (M.make n).1 := by
  unfold SM.make
  split
  · split
    · exact h
    · split
      · exact h
      · rename_i i hi
        exact C.holds _ _ _ (C.take M i n hi h)
  · exact h
theorem Closed.makes {Q : SM → Prop} (C : Closed Q) (kind : Int) : ∀ (ps : List (List (Int × Int))) (M : SM) (out : List (Int × Int)), Q M → Q (SM.makes kind ps M out).1
  | [], _, _, h => h
  | p :: ps, M, out, h => by
    unfold SM.makes
    dsimp only
    split
    · exact Closed.makes C kind ps _ _ (C.make _ h)
    · exact C.make _ h
theorem Closed.split {Q : SM → Prop} (C : Closed Q) {M : SM} (n : NM) (h : Q M) : Q (M.split n).1 := by
  unfold SM.split
  split
  · exact h
  · exact C.makes _ _ _ _ h
theorem Closed.putF {Q : SM → Prop} (C : Closed Q) : ∀ (f : Nat) (M : SM) (r : Int) (x : Int × Int), Q M → Q (SM.putF f M r x).1
  | 0, _, _, _, h => h
  | f + 1, M, r, x, h => by
    unfold SM.putF
    dsimp only
    split
    · split
      · split
        · split
          · exact C.split _ (Closed.putF C f _ _ _ h)
          · exact C.split _ (Closed.putF C f _ _ _ h)
        · exact Closed.putF C f _ _ _ h
      · split <;> exact h
    · exact h
theorem Closed.top {Q : SM → Prop} (C : Closed Q) {M : SM} (n : NM) (h : Q M) : Q (M.top n).1 := by
  unfold SM.top
  dsimp only
  split
  · split
    · split <;> exact C.split _ (C.split _ h)
    · exact C.split _ h
  · exact C.split _ h
theorem Closed.put {Q : SM → Prop} (C : Closed Q) {M : SM} (r k p : Int) (h : Q M) : Q (M.put r k p).1 := by
  unfold SM.put
  dsimp only
  split
  · exact h
  · split
    · exact C.top _ h
    · split
      · exact C.top _ (C.putF _ _ _ _ h)
      · exact C.putF _ _ _ _ h
theorem Closed.dropF {Q : SM → Prop} (C : Closed Q) : ∀ (f : Nat) (M : SM) (i : Int), Q M → Q (SM.dropF f M i).1
  | 0, _, _, h => h
  | f + 1, M, i, h => by
    rw [dropF_succ]
    split
    · rename_i hh
      have h1 := C.drop M i hh h
      split
      · split
        · exact h1
        · rename_i n _
          have : ∀ (l : List Int) (s : SM × Nat), Q s.1 → Q (dropAllF f s l).1 := by
            intro l
            induction l with
            | nil => intro s hs; exact hs
            | cons c l ih =>
              intro s hs
              unfold dropAllF
              rw [List.foldl_cons]
              split
              · exact ih _ (Closed.dropF C f _ _ hs)
              · exact ih _ hs
          exact this _ _ h1
      · exact h1
    · exact h
theorem Closed.swap {Q : SM → Prop} (C : Closed Q) {M : SM} (a b : Int) (h : Q M) : Q (M.swap a b).1 := by
  unfold SM.swap
  dsimp only
  have h1 : Q (if b = -1 then (M, 0) else M.hold b).1 := by
    split
    · exact h
    · exact C.hold M b h
  obtain ⟨R, hR⟩ : ∃ R, (if b = -1 then (M, 0) else M.hold b) = R := ⟨_, rfl⟩
  rw [hR] at h1 ⊢
  split
  · split
    · exact h1
    · exact C.dropF _ _ _ h1
  · exact h1

theorem sumN_zero {f : Nat → Nat} : ∀ {n}, (∀ i, i < n → f i = 0) → sumN f n = 0
  | 0, _ => rfl
  | n + 1, h => by unfold sumN; rw [sumN_zero (fun i hi => h i (by omega)), h n (by omega)]
theorem freeN_sum (p : PM) : ∀ n, p.freeN n = sumN (fun i => if p.freeB i then 1 else 0) n
  | 0 => rfl
  | n + 1 => by unfold PM.freeN sumN; rw [freeN_sum p n]
theorem takeIx_free {p : PM} {i : Nat} (h : p.takeIx = some i) : i < p.size ∧ p.freeB i = true := ⟨(PM.takeN_some h).1, (PM.takeN_some h).2.1⟩
theorem free_zero {p : PM} (h : p.takeIx = none) : p.freeCount = 0 := by
  unfold PM.freeCount
  rw [freeN_sum]
  exact sumN_zero fun i hi => by rw [PM.takeN_none h i hi]; rfl
theorem free_not_live {p : PM} {i : Nat} (h : p.freeB i = true) : p.live i = false := by
  simp only [PM.freeB, Bool.and_eq_true, beq_iff_eq] at h
  simp [PM.live, h.1, h.2]

/-- What holding some pages does, where it is done. -/
structure Held (p : PM) (cs : List Int) (p' : PM) : Prop where
  size : p'.size = p.size
  st : p'.st = p.st
  cnt : ∀ j, p'.cnt j = p.cnt j + cs.countP fun c => c == (j : Int)
theorem Held.live {p p' : PM} {cs : List Int} (h : Held p cs p') (hl : ∀ c ∈ cs, p.heldB c = true) (q : Nat) : p'.live q = p.live q := by
  unfold PM.live
  rw [h.size, h.st, h.cnt q]
  by_cases hz : cs.countP (fun c => c == (q : Int)) = 0
  · rw [hz, Nat.add_zero]
  · obtain ⟨c, hc, he⟩ := List.countP_pos_iff.1 (Nat.pos_of_ne_zero hz)
    have hq := hl c hc
    rw [show c = (q : Int) by simpa using he, heldB_nat] at hq
    unfold PM.live at hq
    rw [hq]
    simp only [Bool.and_eq_true, decide_eq_true_eq] at hq
    simp [hq.1]; omega
theorem holds_split (p : PM) : ∀ (cs : List Int), (∀ c ∈ cs, p.heldB c = true) → (∀ j, p.cnt j ≤ 255) →
    ((holds p cs).2 = 0 ∧ Held p cs (holds p cs).1 ∧ ∀ j, (holds p cs).1.cnt j ≤ 255) ∨ ((holds p cs).2 = 72 ∧ ∃ c ∈ cs, 255 < p.cnt c.toNat + cs.length) := by
  intro cs
  induction cs generalizing p with
  | nil => intro _ hb; exact .inl ⟨rfl, ⟨rfl, rfl, fun j => by simp [holds]⟩, hb⟩
  | cons c cs ih =>
    intro hl hb
    have hc := hl c (List.mem_cons_self ..)
    obtain ⟨h0, hcl⟩ := heldB_int hc
    obtain ⟨k, rfl⟩ := Int.eq_ofNat_of_zero_le h0
    simp only [Int.toNat_natCast] at hcl
    unfold holds
    by_cases hlt : p.cnt k < 255
    · have he : p.holdErr (k : Int) = 0 := by simp [PM.holdErr, hc, hlt]
      have ht : p.holdTo (k : Int) = p.setCnt k (p.cnt k + 1) := by simp [PM.holdTo, hc, hlt]
      rw [if_pos he, ht]
      have hone : Held p [(k : Int)] (p.setCnt k (p.cnt k + 1)) := ⟨rfl, rfl, fun j => by
        unfold PM.setCnt
        by_cases hj : j = k
        · subst hj; simp
        · simp [hj]; omega⟩
      have hlv := hone.live (fun x hx => by rw [List.mem_singleton.1 hx]; exact hc)
      rcases ih (p.setCnt k (p.cnt k + 1)) (fun x hx => by
          have := hl x (List.mem_cons_of_mem _ hx)
          obtain ⟨h0, _⟩ := heldB_int this
          obtain ⟨m, rfl⟩ := Int.eq_ofNat_of_zero_le h0
          rw [heldB_nat] at this ⊢
          rw [hlv]; exact this) (fun j => by unfold PM.setCnt; dsimp only; split; omega; exact hb j) with ⟨e, H, hb'⟩ | ⟨e, d, hd, hs⟩
      · refine .inl ⟨e, ⟨H.size, H.st, fun j => ?_⟩, hb'⟩
        rw [H.cnt, hone.cnt, List.countP_cons, List.countP_cons, List.countP_nil]
        omega
      · refine .inr ⟨e, d, List.mem_cons_of_mem _ hd, ?_⟩
        have : (p.setCnt k (p.cnt k + 1)).cnt d.toNat ≤ p.cnt d.toNat + 1 := by unfold PM.setCnt; dsimp only; split; (rename_i e; rw [e]; omega); omega
        rw [List.length_cons]
        omega
    · have he : p.holdErr (k : Int) = 72 := by simp [PM.holdErr, hc, hlt]
      rw [if_neg (by rw [he]; decide), he]
      refine .inr ⟨rfl, (k : Int), List.mem_cons_self .., ?_⟩
      have := hb k
      simp only [Int.toNat_natCast, List.length_cons]
      omega

/-- How many entries there are. -/
def SM.sum (M : SM) : Nat := sumN (fun q => if M.live q then (M.ents q).length else 0) M.pool.size
theorem occ_le (l : List (Int × Int)) (p : Nat) : occ l p ≤ l.length := List.countP_le_length
theorem SM.refs_le (M : SM) (p : Nat) : M.refs p ≤ M.sum := by
  unfold SM.refs SM.sum
  refine sumN_le fun q _ => ?_
  split
  · exact occ_le _ _
  · exact Nat.le_refl _
theorem Exact.cnt_le {M : SM} {ext : Nat → Nat} (h : Exact M ext) {p : Nat} (hp : M.live p = true) : M.pool.cnt p ≤ M.sum + ext p := by
  have := h.cnt p (live_lt hp)
  have := M.refs_le p
  omega

/-- All that was there is there as it was. -/
structure Grown (M M' : SM) : Prop where
  size : M'.pool.size = M.pool.size
  live : ∀ q, M.live q = true → M'.live q = true
  node : ∀ q, M.live q = true → M'.nodeAt q = M.nodeAt q
theorem Grown.refl (M : SM) : Grown M M := ⟨rfl, fun _ h => h, fun _ _ => rfl⟩
theorem Grown.trans {A B C : SM} (h : Grown A B) (k : Grown B C) : Grown A C := ⟨k.size.trans h.size, fun q hq => k.live q (h.live q hq), fun q hq => (k.node q (h.live q hq)).trans (h.node q hq)⟩
theorem Grown.held {M M' : SM} (h : Grown M M') {i : Int} (hi : M.pool.heldB i = true) : M'.pool.heldB i = true := by
  obtain ⟨h0, h1⟩ := heldB_int hi
  obtain ⟨n, rfl⟩ := Int.eq_ofNat_of_zero_le h0
  rw [heldB_nat]
  exact h.live n h1

/-- The references to a page grow by what's new, at most. -/
theorem Grown.refs {M M' : SM} (h : Grown M M') (c : Nat) : M'.refs c + M.sum ≤ M.refs c + M'.sum := by
  unfold SM.refs SM.sum
  rw [h.size, ← sumN_add, ← sumN_add]
  refine sumN_le fun q _ => ?_
  cases hq : M.live q with
  | false =>
    have := occ_le (M'.ents q) c
    simp only [Bool.false_eq_true, if_false]
    split <;> omega
  | true =>
    have e : M'.ents q = M.ents q := by unfold SM.ents; rw [h.node q hq]
    rw [h.live q hq, e]
    simp
/-- What is there and not held yet. -/
def Loose (M : SM) (E : List (Int × Int)) : Prop := ∀ q, M.live q = true → M.pool.cnt q = 0 → ∃ x ∈ E, x.2 = (q : Int)

/-- A node that was made. -/
structure Made (M : SM) (n : NM) (ext : Nat → Nat) (M' : SM) (i : Nat) : Prop where
  exact : Exact M' ext
  grown : Grown M M'
  new : M.live i = false
  live : M'.live i = true
  node : M'.nodeAt i = some n
  free : M.pool.freeCount = M'.pool.freeCount + 1
  sum : M'.sum = M.sum + n.ents.length
  cnt : ∀ q, M'.pool.cnt q = M.pool.cnt q + occ n.ents q
  only : ∀ q, M'.live q = true → q = i ∨ M.live q = true

theorem make_ok {M : SM} {ext : Nat → Nat} (h : Exact M ext) {n : NM} (hn : n.ok) (hk : ∀ x ∈ n.ents, M.pool.heldB x.2 = true) :
    (∃ i : Nat, (M.make n).2 = ((i : Int), 0) ∧ Made M n ext (M.make n).1 i) ∨ ((M.make n).2 = (-1, 71) ∧ M.pool.freeCount = 0) ∨ ((M.make n).2 = (-1, 72) ∧ ∃ c, 255 < M.refs c + n.ents.length + ext c) := by
  unfold SM.make
  rw [if_pos hn.1]
  have hany : ¬ (n.ents.any (fun x => !M.pool.heldB x.2) = true) := by
    rw [List.any_eq_true]
    rintro ⟨x, hx, hb⟩
    rw [hk x hx] at hb
    cases hb
  rw [if_neg hany]
  cases hti : M.pool.takeIx with
  | none => exact .inr (.inl ⟨rfl, free_zero hti⟩)
  | some i =>
    dsimp only
    obtain ⟨hil, hif⟩ := takeIx_free hti
    have hnl := free_not_live hif
    have hif' := hif
    simp only [PM.freeB, Bool.and_eq_true, beq_iff_eq] at hif'
    have hs1 : (M.pool.setSt i 1).size = M.pool.size := rfl
    have hc1 : (M.pool.setSt i 1).cnt = M.pool.cnt := rfl
    have hl1 : ∀ q, (M.pool.setSt i 1).live q = (M.pool.live q || decide (q = i)) := by
      intro q
      unfold PM.live PM.setSt
      dsimp only
      by_cases hq : q = i
      · subst hq; simp [hil]
      · simp [hq]
    have hk1 : ∀ c ∈ n.ents.map (·.2), (M.pool.setSt i 1).heldB c = true := by
      intro c hc
      obtain ⟨x, hx, rfl⟩ := List.mem_map.1 hc
      have := hk x hx
      obtain ⟨h0, h2⟩ := heldB_int this
      obtain ⟨m, hm⟩ := Int.eq_ofNat_of_zero_le h0
      rw [hm] at h2 ⊢
      rw [heldB_nat, hl1]
      simp only [Int.toNat_natCast] at h2
      rw [h2]; rfl
    rcases holds_split (M.pool.setSt i 1) (n.ents.map (·.2)) hk1 (fun j => by rw [hc1]; exact h.cntLe j) with ⟨he, H, hb⟩ | ⟨he, c, hc, hs⟩
    · refine .inl ⟨i, by rw [he]; rfl, ?_⟩
      obtain ⟨p', hp'⟩ : ∃ p', (holds (M.pool.setSt i 1) (n.ents.map (·.2))).1 = p' := ⟨_, rfl⟩
      rw [hp'] at H hb ⊢
      have hlive : ∀ q, SM.live ⟨p', M.log ++ [(i, n)]⟩ q = (M.live q || decide (q = i)) := fun q => by
        show p'.live q = _
        rw [H.live hk1, hl1]; rfl
      have hnode : ∀ q, SM.nodeAt ⟨p', M.log ++ [(i, n)]⟩ q = if i = q then some n else M.nodeAt q := fun q => logAt_put _ _ _ _
      have hents : ∀ q, SM.ents ⟨p', M.log ++ [(i, n)]⟩ q = if i = q then n.ents else M.ents q := fun q => by
        unfold SM.ents
        rw [hnode]
        by_cases e : i = q
        · rw [if_pos e, if_pos e]
        · rw [if_neg e, if_neg e]
      have hcnt : ∀ q, p'.cnt q = M.pool.cnt q + occ n.ents q := fun q => by
        rw [H.cnt, hc1]
        unfold occ
        rw [List.countP_map]
        rfl
      have hfun : ∀ (g : List (Int × Int) → Nat), sumN (fun q => if SM.live ⟨p', M.log ++ [(i, n)]⟩ q then g (SM.ents ⟨p', M.log ++ [(i, n)]⟩ q) else 0) M.pool.size = sumN (fun q => if M.live q then g (M.ents q) else 0) M.pool.size + g n.ents := fun g => by
        have := sumN_set (f := fun q => if M.live q then g (M.ents q) else 0) (g := fun q => if SM.live ⟨p', M.log ++ [(i, n)]⟩ q then g (SM.ents ⟨p', M.log ++ [(i, n)]⟩ q) else 0) hil
          (fun j _ hj => by have hj' : ¬ i = j := fun e => hj e.symm; rw [hlive, hents]; simp [hj, hj'])
        rw [hlive, hents] at this
        simp only [decide_true, Bool.or_true, if_true, show M.live i = false from hnl] at this
        simpa using this
      have hsz : p'.size = M.pool.size := H.size
      have hrefs : ∀ q, SM.refs ⟨p', M.log ++ [(i, n)]⟩ q = M.refs q + occ n.ents q := fun q => by
        unfold SM.refs
        show sumN _ p'.size = _
        rw [hsz]
        exact hfun fun l => occ l q
      have hkl : ∀ x ∈ n.ents, M.live x.2.toNat = true := fun x hx => (heldB_int (hk x hx)).2
      refine ⟨⟨by show p'.size ≤ 240; rw [hsz]; exact h.size, hb, fun q hq => ?_, fun q hq => ?_, fun q hq x hx => ?_, ?_⟩, ⟨hsz, fun q hq => ?_, fun q hq => ?_⟩, hnl, ?_, ?_, ?_, ?_, hcnt, fun q hq => ?_⟩
      · show p'.cnt q = _
        rw [hcnt, hrefs]
        have hq' : q < M.pool.size := by rw [← hsz]; exact hq
        have := h.cnt q hq'
        omega
      · rw [hlive] at hq
        rw [hnode]
        by_cases e : i = q
        · rw [if_pos e]; exact ⟨n, rfl, hn⟩
        · rw [if_neg e]
          have e' : ¬ q = i := fun z => e z.symm
          simp [e'] at hq
          exact h.node q hq
      · rw [hlive] at hq ⊢
        rw [hents] at hx
        by_cases e : i = q
        · rw [if_pos e] at hx
          rw [hkl x hx]; rfl
        · rw [if_neg e] at hx
          have e' : ¬ q = i := fun z => e z.symm
          simp [e'] at hq
          rw [h.kids q hq x hx]; rfl
      · obtain ⟨r, hr⟩ := h.rank
        refine ⟨fun q => if q = i then sumN r M.pool.size + 1 else r q, fun q hq x hx => ?_⟩
        rw [hlive] at hq
        rw [hents] at hx
        have hne : ∀ y, M.live y = true → y ≠ i := fun y hy e => by rw [e] at hy; rw [show M.live i = false from hnl] at hy; cases hy
        by_cases e : i = q
        · rw [if_pos e] at hx
          have h1 := hkl x hx
          simp only [if_neg (hne _ h1), if_pos e.symm]
          exact Nat.lt_succ_of_le (sumN_get (f := r) (live_lt h1))
        · rw [if_neg e] at hx
          have e' : ¬ q = i := fun z => e z.symm
          simp [e'] at hq
          simp only [if_neg (hne _ (h.kids q hq x hx)), if_neg e']
          exact hr q hq x hx
      · rw [hlive, hq]; rfl
      · rw [hnode, if_neg (fun e => by rw [← e, show M.live i = false from hnl] at hq; cases hq)]
      · rw [hlive]; simp
      · rw [hnode, if_pos rfl]
      · show M.pool.freeN M.pool.size = p'.freeN p'.size + 1
        rw [hsz, freeN_sum, freeN_sum]
        have hfr : ∀ q, M.live q = true → occ n.ents q = 0 ∨ True := fun _ _ => .inr trivial
        have := sumN_set (f := fun q => if M.pool.freeB q then 1 else 0) (g := fun q => if p'.freeB q then 1 else 0) hil
          (fun j hj hji => by
            have : p'.freeB j = M.pool.freeB j := by
              unfold PM.freeB
              rw [hcnt, H.st]
              have hst : (M.pool.setSt i 1).st j = M.pool.st j := by unfold PM.setSt; simp [hji]
              rw [hst]
              by_cases ho : occ n.ents j = 0
              · rw [ho, Nat.add_zero]
              · unfold occ at ho
                obtain ⟨x, hx, he⟩ := List.countP_pos_iff.1 (Nat.pos_of_ne_zero ho)
                have hlx := hkl x hx
                rw [show x.2 = (j : Int) by simpa using he, Int.toNat_natCast] at hlx
                simp only [SM.live, PM.live, Bool.and_eq_true, decide_eq_true_eq, Bool.or_eq_true, beq_iff_eq] at hlx
                rw [Bool.eq_iff_iff]
                simp only [Bool.and_eq_true, beq_iff_eq]
                constructor <;> intro hz <;> omega
            rw [this])
        rw [hif] at this
        have hnf : p'.freeB i = false := by
          unfold PM.freeB
          rw [H.st]
          simp [PM.setSt]
        rw [hnf] at this
        simp at this
        omega
      · unfold SM.sum
        show sumN _ p'.size = _
        rw [hsz]
        exact hfun List.length
      · rw [hlive] at hq
        simp only [Bool.or_eq_true, decide_eq_true_eq] at hq
        exact hq.symm
    · refine .inr (.inr ⟨by rw [he]; rfl, c.toNat, ?_⟩)
      obtain ⟨x, hx, rfl⟩ := List.mem_map.1 hc
      have hl := (heldB_int (hk x hx)).2
      have := h.cnt _ (live_lt hl)
      rw [hc1, List.length_map] at hs
      omega
theorem Made.loose {M M' : SM} {n : NM} {ext : Nat → Nat} {i : Nat} (h : Made M n ext M' i) (hk : ∀ x ∈ n.ents, M.pool.heldB x.2 = true) {E : List (Int × Int)} (hl : Loose M (n.ents ++ E)) (k : Int) : Loose M' (E ++ [(k, (i : Int))]) := by
  intro q hq hc
  rcases h.only q hq with rfl | hq
  · exact ⟨_, List.mem_append_right _ (List.mem_singleton.2 rfl), rfl⟩
  · rw [h.cnt] at hc
    obtain ⟨x, hx, he⟩ := hl q hq (by omega)
    rcases List.mem_append.1 hx with hx | hx
    · have h0 : 0 ≤ x.2 := (heldB_int (hk x hx)).1
      have := occ_pos hx h0
      rw [he, Int.toNat_natCast] at this
      omega
    · exact ⟨x, List.mem_append_left _ hx, he⟩
end Go.Proofs.YtidlchciehdefaaGreat
/-
  Trees in a store, plain: what a tree of a height is; entries with one more.
-/
namespace Go.Proofs.YtidlchciehdefaaGreat
open Go.RowKit

/-- The entries with one for a key. -/
def putL (l : List (Int × Int)) (x : Int × Int) : List (Int × Int) := l.filter (fun y => decide (y.1 < x.1)) ++ [x] ++ l.filter (fun y => decide (x.1 < y.1))
theorem filter_all {l : List (Int × Int)} {p : Int × Int → Bool} (h : ∀ y ∈ l, p y = true) : l.filter p = l := List.filter_eq_self.2 h
theorem filter_none {l : List (Int × Int)} {p : Int × Int → Bool} (h : ∀ y ∈ l, p y = false) : l.filter p = [] := List.filter_eq_nil_iff.2 fun y hy => by rw [h y hy]; decide
theorem putL_mid {a b c : List (Int × Int)} {x : Int × Int} (ha : ∀ y ∈ a, y.1 < x.1) (hc : ∀ y ∈ c, x.1 < y.1) : putL (a ++ b ++ c) x = a ++ putL b x ++ c := by
  unfold putL
  simp only [List.filter_append]
  rw [filter_all (l := a) (p := fun y => decide (y.1 < x.1)) (fun y hy => by simpa using ha y hy), filter_none (l := a) (p := fun y => decide (x.1 < y.1)) (fun y hy => by have := ha y hy; simp; omega),
    filter_none (l := c) (p := fun y => decide (y.1 < x.1)) (fun y hy => by have := hc y hy; simp; omega), filter_all (l := c) (p := fun y => decide (x.1 < y.1)) (fun y hy => by simpa using hc y hy)]
  simp
theorem putL_rises {l : List (Int × Int)} (h : RisesK l) (x : Int × Int) : RisesK (putL l x) := by
  unfold putL RisesK
  rw [List.append_assoc]
  refine List.pairwise_append.2 ⟨List.Pairwise.filter _ h, List.pairwise_append.2 ⟨List.pairwise_singleton _ _, List.Pairwise.filter _ h, fun a ha b hb => ?_⟩, fun a ha b hb => ?_⟩
  · rw [List.mem_singleton.1 ha]
    simp at hb; exact hb.2
  · simp at ha
    rcases List.mem_append.1 hb with hb | hb
    · rw [List.mem_singleton.1 hb]; exact ha.2
    · simp at hb; omega
theorem putL_mem {l : List (Int × Int)} {x y : Int × Int} (h : y ∈ putL l x) : y = x ∨ y ∈ l := by
  unfold putL at h
  simp only [List.mem_append, List.mem_singleton, List.mem_filter] at h
  rcases h with (h | h) | h
  · exact .inr h.1
  · exact .inl h
  · exact .inr h.1
theorem rises_cut {l : List (Int × Int)} (h : RisesK l) (i : Nat) : (∀ y ∈ l.take i, ∀ z ∈ l.drop i, y.1 < z.1) := by
  have : RisesK (l.take i ++ l.drop i) := by rw [List.take_append_drop]; exact h
  exact fun y hy z hz => (List.pairwise_append.1 this).2.2 y hy z hz
theorem putL_take {l : List (Int × Int)} {x : Int × Int} {i j : Nat} (hij : i ≤ j) (h1 : ∀ y ∈ l.take i, y.1 < x.1) (h2 : ∀ y ∈ l.drop j, x.1 < y.1) (h3 : ∀ y ∈ (l.drop i).take (j - i), y.1 = x.1) :
    l.take i ++ [x] ++ l.drop j = putL l x := by
  have e : l = l.take i ++ (l.drop i).take (j - i) ++ l.drop j := by
    rw [List.append_assoc]
    have : (l.drop i).take (j - i) ++ l.drop j = l.drop i := by
      have := List.take_append_drop (j - i) (l.drop i)
      rw [List.drop_drop, show i + (j - i) = j by omega] at this
      exact this
    rw [this, List.take_append_drop]
  have hm : putL ((l.drop i).take (j - i)) x = [x] := by
    unfold putL
    rw [filter_none (fun y hy => by have := h3 y hy; simp; omega), filter_none (fun y hy => by have := h3 y hy; simp; omega)]
    rfl
  conv => rhs; rw [e]
  rw [putL_mid h1 h2, hm]

/-- Where a key belongs: what is ahead of it and what isn't. -/
theorem atI_cut {l : List (Int × Int)} (h : RisesK l) (key : Int) {c : Nat} (hc : (c : Int) = atI l key + 1) : c ≤ l.length ∧ (∀ y ∈ l.take c, y.1 ≤ key) ∧ (∀ y ∈ l.drop c, key < y.1) := by
  have hlen : c = (l.filter fun x => decide (x.1 ≤ key)).length := by unfold atI at hc; omega
  clear hc
  subst hlen
  have key' : ∀ {l : List (Int × Int)}, RisesK l → l.take (l.filter fun x => decide (x.1 ≤ key)).length = l.filter (fun x => decide (x.1 ≤ key)) ∧ l.drop (l.filter fun x => decide (x.1 ≤ key)).length = l.filter (fun x => decide (key < x.1)) := by
    intro l
    induction l with
    | nil => intro _; exact ⟨rfl, rfl⟩
    | cons y l ih =>
      intro hr
      have hr' := List.pairwise_cons.1 hr
      by_cases hy : y.1 ≤ key
      · rw [List.filter_cons_of_pos (by simpa using hy), List.length_cons, List.take_succ_cons, List.drop_succ_cons, (ih hr'.2).1, (ih hr'.2).2, List.filter_cons_of_neg (by simp; omega)]
        exact ⟨rfl, rfl⟩
      · have hall : l.filter (fun x => decide (x.1 ≤ key)) = [] := List.filter_eq_nil_iff.2 fun z hz => by have := hr'.1 z hz; simp; omega
        have hall2 : l.filter (fun x => decide (key < x.1)) = l := filter_all fun z hz => by have := hr'.1 z hz; simp; omega
        rw [List.filter_cons_of_neg (by simpa using hy), hall, List.filter_cons_of_pos (by simp; omega), hall2]
        exact ⟨rfl, rfl⟩
  refine ⟨List.length_filter_le _ _, fun y hy => ?_, fun y hy => ?_⟩
  · rw [(key' h).1] at hy; simp at hy; exact hy.2
  · rw [(key' h).2] at hy; simp at hy; exact hy.2

/-- Children, each with its own part of the entries. -/
def Kids (T : Int → List (Int × Int) → Prop) : List (Int × Int) → List (Int × Int) → Prop
  | [], l => l = []
  | e :: es, l => ∃ a b x, l = a ++ b ∧ T e.2 a ∧ a.head? = some x ∧ x.1 = e.1 ∧ Kids T es b
theorem Kids.append {T : Int → List (Int × Int) → Prop} : ∀ {es fs l m : List (Int × Int)}, Kids T es l → Kids T fs m → Kids T (es ++ fs) (l ++ m)
  | [], _, _, _, h, k => by rw [show _ = [] from h]; exact k
  | _ :: _, _, _, _, ⟨a, b, x, h1, h2, h3, h4, h5⟩, k => ⟨a, b ++ _, x, by rw [h1, List.append_assoc], h2, h3, h4, Kids.append h5 k⟩
theorem Kids.cut {T : Int → List (Int × Int) → Prop} : ∀ {es fs l : List (Int × Int)}, Kids T (es ++ fs) l → ∃ a b, l = a ++ b ∧ Kids T es a ∧ Kids T fs b
  | [], _, l, h => ⟨[], l, rfl, rfl, h⟩
  | _ :: _, _, _, ⟨a, b, x, h1, h2, h3, h4, h5⟩ => by
    obtain ⟨c, d, e1, e2, e3⟩ := Kids.cut h5
    exact ⟨a ++ c, d, by rw [h1, e1, List.append_assoc], ⟨a, c, x, rfl, h2, h3, h4, e2⟩, e3⟩
theorem Kids.mono {T U : Int → List (Int × Int) → Prop} : ∀ {es l : List (Int × Int)}, (∀ e ∈ es, ∀ a, T e.2 a → U e.2 a) → Kids T es l → Kids U es l
  | [], _, _, h => h
  | _ :: _, _, h, ⟨a, b, x, h1, h2, h3, h4, h5⟩ => ⟨a, b, x, h1, h _ (List.mem_cons_self ..) _ h2, h3, h4, Kids.mono (fun e he => h e (List.mem_cons_of_mem _ he)) h5⟩
/-- The first key is the first entry's. -/
theorem Kids.head {T : Int → List (Int × Int) → Prop} {e : Int × Int} {es l : List (Int × Int)} (h : Kids T (e :: es) l) : ∃ x, l.head? = some x ∧ x.1 = e.1 := by
  obtain ⟨a, b, x, h1, h2, h3, h4, h5⟩ := h
  refine ⟨x, ?_, h4⟩
  cases a with
  | nil => cases h3
  | cons y a => rw [h1]; exact h3
theorem Kids.each {T : Int → List (Int × Int) → Prop} : ∀ {es l : List (Int × Int)}, Kids T es l → ∀ e ∈ es, ∃ a, T e.2 a ∧ ∀ y ∈ a, y ∈ l
  | [], _, _, _, he => by cases he
  | _ :: _, _, ⟨a, b, x, h1, h2, h3, h4, h5⟩, e, he => by
    rcases List.mem_cons.1 he with rfl | he
    · exact ⟨a, h2, fun y hy => by rw [h1]; exact List.mem_append_left _ hy⟩
    · obtain ⟨c, hc, hm⟩ := Kids.each h5 e he
      exact ⟨c, hc, fun y hy => by rw [h1]; exact List.mem_append_right _ (hm y hy)⟩
theorem head_le {l : List (Int × Int)} (h : RisesK l) {x : Int × Int} (hx : l.head? = some x) : ∀ y ∈ l, x.1 ≤ y.1 := by
  cases l with
  | nil => cases hx
  | cons z l =>
    cases hx
    intro y hy
    rcases List.mem_cons.1 hy with rfl | hy
    · exact Int.le_refl _
    · exact Int.le_of_lt ((List.pairwise_cons.1 h).1 y hy)

/-- A node that stands for entries: a leaf (h = 0), or children of height h. -/
def NTr (T : Int → List (Int × Int) → Prop) (h : Nat) (n : NM) (l : List (Int × Int)) : Prop := (h = 0 ∧ n.kind = 2 ∧ n.ents = l) ∨ (0 < h ∧ n.kind = 3 ∧ Kids T n.ents l)
def SM.entN (M : SM) (p : Int) : Nat := (M.ents p.toNat).length
/-- A tree of a height at a page, with entries; each node but the root has m entries at least. -/
def Tr (m : Nat) (M : SM) : Nat → Int → List (Int × Int) → Prop
  | 0, _, _ => False
  | h + 1, p, l => M.pool.heldB p = true ∧ ∃ n, M.nodeAt p.toNat = some n ∧ n.ok ∧ NTr (fun q a => Tr m M h q a ∧ m ≤ M.entN q) h n l
/-- A tree that stands below another one. -/
def Sub (m : Nat) (M : SM) (h : Nat) (q : Int) (a : List (Int × Int)) : Prop := Tr m M h q a ∧ m ≤ M.entN q
theorem entN_of {M : SM} {p : Int} {n : NM} (h : M.nodeAt p.toNat = some n) : M.entN p = n.ents.length := by unfold SM.entN SM.ents; rw [h]
theorem NTr.mono {T U : Int → List (Int × Int) → Prop} {h : Nat} {n : NM} {l : List (Int × Int)} (k : NTr T h n l) (f : ∀ e ∈ n.ents, ∀ a, T e.2 a → U e.2 a) : NTr U h n l := by
  rcases k with k | ⟨h0, hk, k⟩
  · exact .inl k
  · exact .inr ⟨h0, hk, Kids.mono f k⟩
theorem Tr.held {m : Nat} {M : SM} {h : Nat} {p : Int} {l : List (Int × Int)} (t : Tr m M h p l) : M.pool.heldB p = true := by
  cases h with
  | zero => exact t.elim
  | succ h => exact t.1
theorem Tr.grown {m : Nat} {M M' : SM} (g : Grown M M') : ∀ {h : Nat} {p : Int} {l : List (Int × Int)}, Tr m M h p l → Tr m M' h p l
  | 0, _, _, t => t
  | h + 1, p, l, ⟨hp, n, hn, hok, k⟩ => by
    have hl := (heldB_int hp).2
    refine ⟨g.held hp, n, by rw [g.node _ hl]; exact hn, hok, k.mono fun e _ a ha => ⟨Tr.grown g ha.1, ?_⟩⟩
    have h2 := (heldB_int ha.1.held).2
    unfold SM.entN SM.ents
    rw [g.node _ h2]
    exact ha.2
theorem Sub.grown {m : Nat} {M M' : SM} (g : Grown M M') {h : Nat} {p : Int} {l : List (Int × Int)} (t : Sub m M h p l) : Sub m M' h p l := by
  refine ⟨Tr.grown g t.1, ?_⟩
  have h2 := (heldB_int t.1.held).2
  unfold SM.entN SM.ents
  rw [g.node _ h2]
  exact t.2
/-- What is held still is the tree that it was. -/
theorem Tr.stays {m : Nat} {M M' : SM} {ext : Nat → Nat} (E : Exact M' ext) (hlog : M'.log = M.log) : ∀ {h : Nat} {p : Int} {l : List (Int × Int)}, Tr m M h p l → M'.pool.heldB p = true → Tr m M' h p l
  | 0, _, _, t, _ => t
  | h + 1, p, l, ⟨hp, n, hn, hok, k⟩, hp' => by
    have hn' : M'.nodeAt p.toNat = some n := by unfold SM.nodeAt; rw [hlog]; exact hn
    have hl := (heldB_int hp').2
    have hents : M'.ents p.toNat = n.ents := by unfold SM.ents; rw [hn']
    refine ⟨hp', n, hn', hok, k.mono fun e he a ha => ?_⟩
    have hc : M'.pool.heldB e.2 = true := by
      have h0 := (heldB_int ha.1.held).1
      have h1 := E.kids _ hl e (by rw [hents]; exact he)
      obtain ⟨c, hc⟩ := Int.eq_ofNat_of_zero_le h0
      rw [hc] at h1 ⊢
      rw [heldB_nat]
      exact h1
    refine ⟨Tr.stays E hlog ha.1 hc, ?_⟩
    have : M'.entN e.2 = M.entN e.2 := by unfold SM.entN SM.ents SM.nodeAt; rw [hlog]
    rw [this]; exact ha.2
theorem Sub.stays {m : Nat} {M M' : SM} {ext : Nat → Nat} (E : Exact M' ext) (hlog : M'.log = M.log) {h : Nat} {p : Int} {l : List (Int × Int)} (t : Sub m M h p l) (hp : M'.pool.heldB p = true) : Sub m M' h p l := by
  refine ⟨Tr.stays E hlog t.1 hp, ?_⟩
  have : M'.entN p = M.entN p := by unfold SM.entN SM.ents SM.nodeAt; rw [hlog]
  rw [this]; exact t.2

/-- Is a list of entries one that a node can have? -/
theorem rises_right {l : List (Int × Int)} (hr : RisesK l) (h1 : 1 ≤ l.length) (h6 : l.length ≤ 6) (hb : ∀ x ∈ l, 0 ≤ x.1 ∧ x.1 < 64 ∧ 0 ≤ x.2 ∧ x.2 < 240) : risesB l = true := by
  rw [risesB_all]
  · simp [h1, h6]
  · intro i hi
    have hm := hb l[i] (List.getElem_mem hi)
    simp only [entB, List.getElem?_eq_getElem hi, Bool.and_eq_true, decide_eq_true_eq, Bool.or_eq_true, beq_iff_eq]
    refine ⟨⟨⟨⟨hm.1, hm.2.1⟩, hm.2.2.1⟩, hm.2.2.2⟩, ?_⟩
    by_cases h0 : i = 0
    · exact .inl h0
    · refine .inr ?_
      have : (l.getD (i - 1) (0, 0)) = l[i - 1] := by simp [List.getD, List.getElem?_eq_getElem (show i - 1 < l.length by omega)]
      rw [this]
      exact List.pairwise_iff_getElem.1 hr (i - 1) i (by omega) hi (by omega)
theorem zeros_ok : zeros16.length = 16 ∧ (∀ b ∈ zeros16, b < 256) ∧ zeros16.all (· == 0) = true := by
  unfold zeros16
  refine ⟨by decide, ?_, by decide⟩
  intro b hb
  rw [List.eq_of_mem_replicate hb]; decide
theorem node_ok {k : Int} (hk : k = 2 ∨ k = 3) {l : List (Int × Int)} (hr : RisesK l) (h1 : 1 ≤ l.length) (h6 : l.length ≤ 6) (hb : ∀ x ∈ l, 0 ≤ x.1 ∧ x.1 < 64 ∧ 0 ≤ x.2 ∧ x.2 < 240) : NM.ok ⟨k, zeros16, l⟩ := by
  refine ⟨?_, zeros_ok.1, zeros_ok.2.1⟩
  unfold NM.rightB
  rw [if_neg (by dsimp only; omega), if_pos hk]
  simp only [zeros_ok.2.2, rises_right hr h1 h6 hb, Bool.and_self]
end Go.Proofs.YtidlchciehdefaaGreat
/-
  Trees in a store, plain: ledgers: each node of a height but the root has had its share of puts.
-/
namespace Go.Proofs.YtidlchciehdefaaGreat
open Go.RowKit

def KidsL (T : Int → Nat → Prop) : List (Int × Int) → Nat → Prop
  | [], _ => True
  | e :: es, s => ∃ t u, t + u ≤ s ∧ T e.2 t ∧ KidsL T es u
theorem KidsL.weak {T : Int → Nat → Prop} : ∀ {es : List (Int × Int)} {s s' : Nat}, KidsL T es s → s ≤ s' → KidsL T es s'
  | [], _, _, _, _ => trivial
  | _ :: _, _, _, ⟨t, u, h1, h2, h3⟩, h => ⟨t, u, Nat.le_trans h1 h, h2, h3⟩
theorem KidsL.append {T : Int → Nat → Prop} : ∀ {es fs : List (Int × Int)} {s t : Nat}, KidsL T es s → KidsL T fs t → KidsL T (es ++ fs) (s + t)
  | [], _, _, _, _, h => h.weak (Nat.le_add_left _ _)
  | _ :: _, _, _, _, ⟨a, b, h1, h2, h3⟩, h => ⟨a, _, by omega, h2, KidsL.append h3 h⟩
theorem KidsL.cut {T : Int → Nat → Prop} : ∀ {es fs : List (Int × Int)} {s : Nat}, KidsL T (es ++ fs) s → ∃ t u, t + u ≤ s ∧ KidsL T es t ∧ KidsL T fs u
  | [], _, s, h => ⟨0, s, by omega, trivial, h⟩
  | _ :: _, _, _, ⟨a, b, h1, h2, h3⟩ => by
    obtain ⟨t, u, h4, h5, h6⟩ := KidsL.cut h3
    exact ⟨a + t, u, by omega, ⟨a, t, Nat.le_refl _, h2, h5⟩, h6⟩
theorem KidsL.mono {T U : Int → Nat → Prop} : ∀ {es : List (Int × Int)} {s : Nat}, (∀ e ∈ es, ∀ t, T e.2 t → U e.2 t) → KidsL T es s → KidsL U es s
  | [], _, _, _ => trivial
  | e :: _, _, f, ⟨t, u, h1, h2, h3⟩ => ⟨t, u, h1, f e (List.mem_cons_self ..) t h2, KidsL.mono (fun e he => f e (List.mem_cons_of_mem _ he)) h3⟩
theorem KidsL.ge {T : Int → Nat → Prop} {c : Nat} (hT : ∀ q t, T q t → c ≤ t) : ∀ {es : List (Int × Int)} {s : Nat}, KidsL T es s → es.length * c ≤ s
  | [], _, _ => by simp
  | _ :: es, _, ⟨t, u, h1, h2, h3⟩ => by
    have h4 := hT _ _ h2
    have h5 := KidsL.ge hT h3
    rw [List.length_cons, Nat.succ_mul]
    omega
/-- A tree's ledger, from a page down: a height's nodes, but the root, have had 3 to that height at least. -/
def Led (M : SM) : Nat → Int → Nat → Prop
  | 0, _, _ => False
  | h + 1, p, s => (h = 0 ∧ (M.ents p.toNat).length ≤ s) ∨ (0 < h ∧ KidsL (fun q t => 3 ^ h ≤ t ∧ Led M h q t) (M.ents p.toNat) s)
def LedS (M : SM) (h : Nat) (q : Int) (t : Nat) : Prop := 3 ^ h ≤ t ∧ Led M h q t
def LedN (M : SM) (h : Nat) (es : List (Int × Int)) (s : Nat) : Prop := (h = 0 ∧ es.length ≤ s) ∨ (0 < h ∧ KidsL (LedS M h) es s)
theorem Led.node {M : SM} {h : Nat} {p : Int} {s : Nat} : Led M (h + 1) p s ↔ LedN M h (M.ents p.toNat) s := Iff.rfl
theorem LedN.weak {M : SM} {h : Nat} {es : List (Int × Int)} {s s' : Nat} (k : LedN M h es s) (hs : s ≤ s') : LedN M h es s' := by
  rcases k with ⟨h0, hl⟩ | ⟨h0, hK⟩
  · exact .inl ⟨h0, Nat.le_trans hl hs⟩
  · exact .inr ⟨h0, hK.weak hs⟩
theorem Led.weak {M : SM} {h : Nat} {p : Int} {s s' : Nat} (k : Led M h p s) (hs : s ≤ s') : Led M h p s' := by
  cases h with
  | zero => exact k.elim
  | succ h => exact LedN.weak (es := M.ents p.toNat) k hs
theorem LedN.append {M : SM} {h : Nat} {es fs : List (Int × Int)} {s t : Nat} (k : LedN M h es s) (j : LedN M h fs t) : LedN M h (es ++ fs) (s + t) := by
  rcases k with ⟨h0, hl⟩ | ⟨h0, hK⟩
  · rcases j with ⟨_, hl'⟩ | ⟨h1, _⟩
    · exact .inl ⟨h0, by rw [List.length_append]; omega⟩
    · omega
  · rcases j with ⟨h1, _⟩ | ⟨_, hK'⟩
    · omega
    · exact .inr ⟨h0, hK.append hK'⟩
/-- Nodes that are there as they were. -/
theorem Led.same {m : Nat} {M M' : SM} (hn : ∀ q, M.live q = true → M'.nodeAt q = M.nodeAt q) : ∀ {h : Nat} {p : Int} {l : List (Int × Int)} {s : Nat}, Tr m M h p l → Led M h p s → Led M' h p s
  | 0, _, _, _, _, k => k.elim
  | h + 1, p, l, s, ⟨hp, n, hna, _, k⟩, hl => by
    have hen : M.ents p.toNat = n.ents := by unfold SM.ents; rw [hna]
    have hen' : M'.ents p.toNat = n.ents := by unfold SM.ents; rw [hn _ (heldB_int hp).2, hna]
    rcases hl with ⟨h0, hl⟩ | ⟨h0, hK⟩
    · exact .inl ⟨h0, by rw [hen']; rw [hen] at hl; exact hl⟩
    · rcases k with ⟨h1, _⟩ | ⟨_, _, hKd⟩
      · omega
      · rw [hen] at hK
        refine .inr ⟨h0, ?_⟩
        rw [hen']
        refine KidsL.mono (fun e he t ht => ⟨ht.1, ?_⟩) hK
        obtain ⟨a, ha, _⟩ := hKd.each e he
        exact Led.same hn ha.1 ht.2
theorem Led.grown {m : Nat} {M M' : SM} (g : Grown M M') {h : Nat} {p : Int} {l : List (Int × Int)} {s : Nat} (t : Tr m M h p l) (k : Led M h p s) : Led M' h p s := Led.same g.node t k
theorem KidsL.grown {m : Nat} {M M' : SM} (g : Grown M M') {h : Nat} {es l : List (Int × Int)} {s : Nat} (k : Kids (Sub m M h) es l) (j : KidsL (LedS M h) es s) : KidsL (LedS M' h) es s :=
  KidsL.mono (fun e he t ht => by
    obtain ⟨a, ha, _⟩ := k.each e he
    exact ⟨ht.1, Led.grown g ha.1 ht.2⟩) j
theorem LedN.grown {m : Nat} {M M' : SM} (g : Grown M M') {h : Nat} {n : NM} {l : List (Int × Int)} {s : Nat} (k : NTr (Sub m M h) h n l) (j : LedN M h n.ents s) : LedN M' h n.ents s := by
  rcases j with h0 | ⟨h0, hK⟩
  · exact .inl h0
  · rcases k with ⟨h1, _⟩ | ⟨_, _, hKd⟩
    · omega
    · exact .inr ⟨h0, hK.grown g hKd⟩
/-- A part of enough entries has its share. -/
theorem LedN.part {M : SM} {h : Nat} {es : List (Int × Int)} {s : Nat} (k : LedN M h es s) (h3 : 3 ≤ es.length) : 3 ^ (h + 1) ≤ s := by
  rcases k with ⟨h0, hl⟩ | ⟨_, hK⟩
  · subst h0; omega
  · have h1 := KidsL.ge (T := LedS M h) (c := 3 ^ h) (fun q t ht => ht.1) hK
    have h2 := Nat.mul_le_mul_right (3 ^ h) h3
    rw [Nat.pow_succ]
    omega
theorem LedN.halves {M : SM} {h : Nat} {es fs : List (Int × Int)} {s : Nat} (k : LedN M h (es ++ fs) s) : ∃ t u, t + u ≤ s ∧ LedN M h es t ∧ LedN M h fs u := by
  rcases k with ⟨h0, hl⟩ | ⟨h0, hK⟩
  · rw [List.length_append] at hl
    exact ⟨_, _, hl, .inl ⟨h0, Nat.le_refl _⟩, .inl ⟨h0, Nat.le_refl _⟩⟩
  · obtain ⟨t, u, h1, h2, h3⟩ := hK.cut
    exact ⟨t, u, h1, .inr ⟨h0, h2⟩, .inr ⟨h0, h3⟩⟩
/-- How many entries the last nodes of each height have, the root's first. -/
def spine (M : SM) : Nat → Int → List Nat
  | 0, _ => []
  | h + 1, p => (M.ents p.toNat).length :: (if h = 0 then [] else spine M h ((M.ents p.toNat).getLastD (0, 0)).2)
def spineN (M : SM) (h : Nat) (es : List (Int × Int)) : List Nat := es.length :: (if h = 0 then [] else spine M h (es.getLastD (0, 0)).2)
theorem spine_succ (M : SM) (h : Nat) (p : Int) : spine M (h + 1) p = spineN M h (M.ents p.toNat) := rfl
theorem lastD_append (es : List (Int × Int)) (e : Int × Int) : (es ++ [e]).getLastD (0, 0) = e := by
  rw [List.getLastD_eq_getLast?, List.getLast?_append]; rfl
theorem lastD_mem {es : List (Int × Int)} (h : es ≠ []) : es.getLastD (0, 0) ∈ es := by
  rcases List.eq_nil_or_concat es with h' | ⟨r, e, h'⟩
  · exact absurd h' h
  · rw [List.concat_eq_append] at h'
    rw [h', lastD_append]
    exact List.mem_append_right _ (List.mem_singleton.2 rfl)
theorem spine_grown {m : Nat} {M M' : SM} (g : Grown M M') : ∀ {h : Nat} {p : Int} {l : List (Int × Int)}, Tr m M h p l → spine M' h p = spine M h p
  | 0, _, _, _ => rfl
  | h + 1, p, l, ⟨hp, n, hna, hok, k⟩ => by
    have hen : M.ents p.toNat = n.ents := by unfold SM.ents; rw [hna]
    have hen' : M'.ents p.toNat = n.ents := by unfold SM.ents; rw [g.node _ (heldB_int hp).2, hna]
    unfold spine
    rw [hen, hen']
    by_cases h0 : h = 0
    · rw [if_pos h0, if_pos h0]
    · rw [if_neg h0, if_neg h0]
      rcases k with ⟨h1, _⟩ | ⟨_, hk3, hK⟩
      · exact absurd h1 h0
      · have hne : n.ents ≠ [] := by
          intro e
          have h1 := hok.1
          unfold NM.rightB at h1
          rw [if_neg (by omega), if_pos (.inr hk3), e] at h1
          simp [risesB] at h1
        obtain ⟨a, ha, _⟩ := hK.each _ (lastD_mem hne)
        rw [spine_grown g ha.1]
/-- What one put at the end does to them. -/
def bumpF : List Nat → List Nat
  | [] => []
  | [x] => [x + 1]
  | x :: y :: r => let b := bumpF (y :: r); if b.headD 0 = 7 then (x + 1) :: 4 :: b.tail else x :: b
def topS (sp : List Nat) : List Nat := if sp.headD 0 = 7 then 2 :: 4 :: sp.tail else sp
/-- How many nodes of a height a tree has. -/
def cntL (M : SM) (j : Nat) : Nat → Int → Nat
  | 0, _ => 0
  | h + 1, p => (if h + 1 = j then 1 else 0) + (if h = 0 then 0 else ((M.ents p.toNat).map fun e => cntL M j h e.2).sum)
theorem cntL_low {M : SM} {j : Nat} : ∀ {h : Nat} {p : Int}, h < j → cntL M j h p = 0
  | 0, _, _ => rfl
  | h + 1, p, hj => by
    unfold cntL
    rw [if_neg (by omega)]
    split
    · rfl
    · have : ∀ es : List (Int × Int), (es.map fun e => cntL M j h e.2).sum = 0 := fun es => by
        induction es with
        | nil => rfl
        | cons e es ih => rw [List.map_cons, List.sum_cons, ih, cntL_low (by omega)]
      rw [this]
theorem led_cnt {M : SM} {j : Nat} : ∀ {h : Nat} {p : Int} {s : Nat}, Led M h p s → j < h → 3 ^ j * cntL M j h p ≤ s
  | 0, _, _, k, _ => k.elim
  | h + 1, p, s, k, hj => by
    unfold cntL
    rw [if_neg (by omega), Nat.zero_add]
    rcases k with ⟨h0, _⟩ | ⟨h0, hK⟩
    · rw [if_pos h0]; simp
    · rw [if_neg (by omega)]
      have key : ∀ (es : List (Int × Int)) (s : Nat), KidsL (LedS M h) es s → 3 ^ j * (es.map fun e => cntL M j h e.2).sum ≤ s := by
        intro es
        induction es with
        | nil => intro s _; simp
        | cons e es ih =>
          rintro s ⟨t, u, h1, h2, h3⟩
          rw [List.map_cons, List.sum_cons, Nat.mul_add]
          have a := ih u h3
          have b : 3 ^ j * cntL M j h e.2 ≤ t := by
            by_cases hjh : j < h
            · exact led_cnt h2.2 hjh
            · have hjh : h = j := by omega
              subst hjh
              have : cntL M h h e.2 = 1 := by
                obtain ⟨k, rfl⟩ : ∃ k, h = k + 1 := ⟨h - 1, by omega⟩
                unfold cntL
                rw [if_pos rfl]
                split
                · rfl
                · have : ∀ es : List (Int × Int), (es.map fun e => cntL M (k + 1) k e.2).sum = 0 := fun es => by
                    induction es with
                    | nil => rfl
                    | cons e es ih => rw [List.map_cons, List.sum_cons, ih, cntL_low (by omega)]
                  rw [this]
              rw [this, Nat.mul_one]
              exact h2.1
          omega
      exact key _ _ hK
end Go.Proofs.YtidlchciehdefaaGreat
/-
  Trees in a store, plain: nodes are made of entries; splitting.
-/
namespace Go.Proofs.YtidlchciehdefaaGreat
open Go.RowKit

/-- Entries that a tree can have: keys that rise, pages that are there. -/
def Good (M : SM) (l : List (Int × Int)) : Prop := RisesK l ∧ ∀ y ∈ l, 0 ≤ y.1 ∧ y.1 < 64 ∧ M.pool.heldB y.2 = true
theorem Good.grown {M M' : SM} (g : Grown M M') {l : List (Int × Int)} (h : Good M l) : Good M' l := ⟨h.1, fun y hy => ⟨(h.2 y hy).1, (h.2 y hy).2.1, g.held (h.2 y hy).2.2⟩⟩
theorem Good.left {M : SM} {a b : List (Int × Int)} (h : Good M (a ++ b)) : Good M a := ⟨(List.pairwise_append.1 h.1).1, fun y hy => h.2 y (List.mem_append_left _ hy)⟩
theorem Good.right {M : SM} {a b : List (Int × Int)} (h : Good M (a ++ b)) : Good M b := ⟨(List.pairwise_append.1 h.1).2.1, fun y hy => h.2 y (List.mem_append_right _ hy)⟩
theorem Good.put {M : SM} {l : List (Int × Int)} (h : Good M l) {x : Int × Int} (h0 : 0 ≤ x.1) (h1 : x.1 < 64) (hx : M.pool.heldB x.2 = true) : Good M (putL l x) :=
  ⟨putL_rises h.1 x, fun y hy => by rcases putL_mem hy with rfl | hy; exact ⟨h0, h1, hx⟩; exact h.2 y hy⟩
theorem Kids.good {M : SM} {T : Int → List (Int × Int) → Prop} (hT : ∀ q a, T q a → M.pool.heldB q = true) : ∀ {es l : List (Int × Int)}, Kids T es l → Good M l → Good M es ∧ (∀ e ∈ es, ∃ y ∈ l, y.1 = e.1)
  | [], _, _, _ => ⟨⟨List.Pairwise.nil, fun y hy => by cases hy⟩, fun y hy => by cases hy⟩
  | e :: es, l, ⟨a, b, x, h1, h2, h3, h4, h5⟩, g => by
    subst h1
    obtain ⟨⟨r1, r2⟩, r3⟩ := Kids.good hT h5 g.right
    have hxa : x ∈ a := List.mem_of_mem_head? (by rw [h3]; rfl)
    refine ⟨⟨List.pairwise_cons.2 ⟨fun f hf => ?_, r1⟩, fun f hf => ?_⟩, fun f hf => ?_⟩
    · obtain ⟨y, hy, he⟩ := r3 f hf
      rw [← he, ← h4]
      exact (List.pairwise_append.1 g.1).2.2 x hxa y hy
    · rcases List.mem_cons.1 hf with rfl | hf
      · have := g.2 x (List.mem_append_left _ hxa)
        rw [h4] at this
        exact ⟨this.1, this.2.1, hT _ _ h2⟩
      · exact r2 f hf
    · rcases List.mem_cons.1 hf with rfl | hf
      · exact ⟨x, List.mem_append_left _ hxa, h4⟩
      · obtain ⟨y, hy, he⟩ := r3 f hf
        exact ⟨y, List.mem_append_right _ hy, he⟩
theorem NTr.good {m : Nat} {M : SM} {h : Nat} {n : NM} {l : List (Int × Int)} (k : NTr (Sub m M h) h n l) (g : Good M l) : Good M n.ents := by
  rcases k with ⟨_, _, k⟩ | ⟨_, _, k⟩
  · rw [k]; exact g
  · exact (k.good (fun q a hq => hq.1.held) g).1
theorem NTr.kind {T : Int → List (Int × Int) → Prop} {h : Nat} {n : NM} {l : List (Int × Int)} (k : NTr T h n l) : n.kind = 2 ∨ n.kind = 3 := by
  rcases k with ⟨_, k, _⟩ | ⟨_, k, _⟩
  · exact .inl k
  · exact .inr k
theorem NTr.head {T : Int → List (Int × Int) → Prop} {h : Nat} {n : NM} {l : List (Int × Int)} (k : NTr T h n l) (h1 : 1 ≤ n.ents.length) : ∃ x, l.head? = some x ∧ x.1 = (n.ents.getD 0 (0, 0)).1 := by
  rcases k with ⟨_, _, k⟩ | ⟨_, _, k⟩
  · rw [k] at h1 ⊢
    cases l with
    | nil => simp at h1
    | cons y l => exact ⟨y, rfl, rfl⟩
  · cases he : n.ents with
    | nil => rw [he] at h1; simp at h1
    | cons e es => rw [he] at k; exact k.head
theorem NTr.parts {T : Int → List (Int × Int) → Prop} {h : Nat} {n : NM} {l : List (Int × Int)} (k : NTr T h n l) {e1 e2 : List (Int × Int)} (he : n.ents = e1 ++ e2) :
    ∃ l1 l2, l = l1 ++ l2 ∧ NTr T h ⟨n.kind, zeros16, e1⟩ l1 ∧ NTr T h ⟨n.kind, zeros16, e2⟩ l2 := by
  rcases k with ⟨h0, hk, k⟩ | ⟨h0, hk, k⟩
  · exact ⟨e1, e2, by rw [← k, he], .inl ⟨h0, hk, rfl⟩, .inl ⟨h0, hk, rfl⟩⟩
  · rw [he] at k
    obtain ⟨a, b, h1, h2, h3⟩ := k.cut
    exact ⟨a, b, h1, .inr ⟨h0, hk, h2⟩, .inr ⟨h0, hk, h3⟩⟩
theorem held_bound {M : SM} {ext : Nat → Nat} (h : Exact M ext) {i : Int} (hi : M.pool.heldB i = true) : 0 ≤ i ∧ i < 240 := by
  have := heldB_pos hi
  have := h.size
  omega

/-- A node made of entries is a tree, a level higher. -/
theorem make_tr {m : Nat} {M : SM} {ext : Nat → Nat} (E : Exact M ext) {h : Nat} {k : Int} {es l : List (Int × Int)} (t : NTr (Sub m M h) h ⟨k, zeros16, es⟩ l) (g : Good M l) (h1 : 1 ≤ es.length) (h6 : es.length ≤ 6) :
    (∃ i : Nat, (M.make ⟨k, zeros16, es⟩).2 = ((i : Int), 0) ∧ Made M ⟨k, zeros16, es⟩ ext (M.make ⟨k, zeros16, es⟩).1 i ∧ Tr m (M.make ⟨k, zeros16, es⟩).1 (h + 1) i l ∧ (M.make ⟨k, zeros16, es⟩).1.entN i = es.length) ∨
      ((M.make ⟨k, zeros16, es⟩).2 = (-1, 71) ∧ M.pool.freeCount = 0) ∨ ((M.make ⟨k, zeros16, es⟩).2 = (-1, 72) ∧ ∃ c, 255 < M.refs c + es.length + ext c) := by
  have ge := t.good g
  have hok : NM.ok ⟨k, zeros16, es⟩ := node_ok t.kind ge.1 h1 h6 (fun x hx => by
    have := ge.2 x hx
    have := held_bound E this.2.2
    exact ⟨(ge.2 x hx).1, (ge.2 x hx).2.1, this.1, this.2⟩)
  rcases make_ok E hok (fun x hx => (ge.2 x hx).2.2) with ⟨i, e, H⟩ | e | e
  · refine .inl ⟨i, e, H, ⟨?_, _, by rw [Int.toNat_natCast]; exact H.node, hok, t.mono fun e _ a ha => Sub.grown H.grown ha⟩, ?_⟩
    · rw [heldB_nat]; exact H.live
    · rw [entN_of (by rw [Int.toNat_natCast]; exact H.node)]
  · exact .inr (.inl e)
  · exact .inr (.inr e)

/-- What splitting a node's entries leaves. -/
structure SplitOk (m : Nat) (M : SM) (ext : Nat → Nat) (h : Nat) (n : NM) (l : List (Int × Int)) (M' : SM) (out : List (Int × Int)) : Prop where
  exact : Exact M' ext
  grown : Grown M M'
  len : out.length = if 6 < n.ents.length then 2 else 1
  free : M.pool.freeCount = M'.pool.freeCount + out.length
  sum : M'.sum = M.sum + n.ents.length
  loose : ∀ E, Loose M (n.ents ++ E) → Loose M' (E ++ out)
  one : n.ents.length ≤ 6 → ∃ (k : Int) (i : Nat), out = [(k, (i : Int))] ∧ Tr m M' (h + 1) i l ∧ M'.pool.cnt i = 0 ∧ M.live i = false
  kids : m ≤ 3 → m ≤ n.ents.length → Kids (Sub m M' (h + 1)) out l
  led : ∀ s, LedN M h n.ents s → (n.ents.length ≤ 6 → ∀ e ∈ out, Led M' (h + 1) e.2 s) ∧ (6 < n.ents.length → KidsL (LedS M' (h + 1)) out s)
  last : ∃ o, out.getLast? = some o ∧ M'.ents o.2.toNat = n.ents.drop (if 6 < n.ents.length then n.ents.length / 2 else 0)
theorem led_made {m : Nat} {M M' : SM} {n : NM} {ext : Nat → Nat} {i h : Nat} {l : List (Int × Int)} (H : Made M n ext M' i) (t : NTr (Sub m M h) h n l) {s : Nat} (j : LedN M h n.ents s) : Led M' (h + 1) (i : Int) s := by
  show LedN M' h (M'.ents (Int.toNat (i : Int))) s
  have : M'.ents (Int.toNat (i : Int)) = n.ents := by rw [Int.toNat_natCast]; unfold SM.ents; rw [H.node]
  rw [this]
  exact LedN.grown H.grown t j

theorem Made.zero {M M' : SM} {n : NM} {ext : Nat → Nat} {i : Nat} (h : Made M n ext M' i) (E : Exact M ext) (hk : ∀ x ∈ n.ents, M.pool.heldB x.2 = true) : M'.pool.cnt i = 0 := by
  have hl := live_lt h.live
  rw [show M'.pool.size = M.pool.size from h.grown.size] at hl
  rw [h.cnt]
  have h1 : M.pool.cnt i = 0 := by
    have := h.new
    simp only [SM.live, PM.live, hl, decide_true, Bool.true_and, Bool.or_eq_false_iff, decide_eq_false_iff_not] at this
    omega
  have h2 : occ n.ents i = 0 := by
    rcases Nat.eq_zero_or_pos (occ n.ents i) with h0 | h0
    · exact h0
    · obtain ⟨x, hx, he⟩ := List.countP_pos_iff.1 h0
      have := (heldB_int (hk x hx)).2
      rw [show x.2 = (i : Int) by simpa using he, Int.toNat_natCast] at this
      have h3 := h.new
      rw [show M.live i = M.pool.live i from rfl, this] at h3
      cases h3
  omega

theorem spineN_grown {m : Nat} {M M' : SM} (g : Grown M M') {h : Nat} {n : NM} {l : List (Int × Int)} (k : NTr (Sub m M h) h n l) (h1 : 1 ≤ n.ents.length) : spineN M' h n.ents = spineN M h n.ents := by
  unfold spineN
  by_cases h0 : h = 0
  · rw [if_pos h0, if_pos h0]
  · rw [if_neg h0, if_neg h0]
    rcases k with ⟨hz, _⟩ | ⟨_, _, hK⟩
    · exact absurd hz h0
    · obtain ⟨a, ha, _⟩ := hK.each _ (lastD_mem (es := n.ents) (by rintro e; rw [e] at h1; simp at h1))
      rw [spine_grown g ha.1]
theorem spineN_drop {m : Nat} {M M' : SM} (g : Grown M M') {h : Nat} {n : NM} {l : List (Int × Int)} (k : NTr (Sub m M h) h n l) (h7 : n.ents.length = 7) : spineN M' h (n.ents.drop 3) = 4 :: (spineN M h n.ents).tail := by
  have e1 : (n.ents.drop 3).length = 4 := by rw [List.length_drop]; omega
  have e2 : (n.ents.drop 3).getLastD (0, 0) = n.ents.getLastD (0, 0) := by
    rw [List.getLastD_eq_getLast?, List.getLastD_eq_getLast?, List.getLast?_drop, if_neg (by omega)]
  have := spineN_grown g k (by omega)
  unfold spineN at this ⊢
  rw [e1, e2]
  injection this with _ h2
  rw [h2]
  rfl
theorem makes_nil (k : Int) (M : SM) (out : List (Int × Int)) : SM.makes k [] M out = (M, out, 0) := rfl
theorem split_ok {m : Nat} {M : SM} {ext : Nat → Nat} (E : Exact M ext) {h : Nat} {n : NM} {l : List (Int × Int)} (t : NTr (Sub m M h) h n l) (g : Good M l) (h1 : 1 ≤ n.ents.length) (h12 : n.ents.length ≤ 12) :
    ((M.split n).2.2 = 0 ∧ SplitOk m M ext h n l (M.split n).1 (M.split n).2.1) ∨ ((M.split n).2.2 = 71 ∧ M.pool.freeCount < if 6 < n.ents.length then 2 else 1) ∨ ((M.split n).2.2 = 72 ∧ ∃ c, 255 < M.refs c + n.ents.length + ext c) := by
  unfold SM.split
  rw [if_neg (by omega)]
  by_cases h6 : n.ents.length ≤ 6
  · have hp : partsOf n.ents = [n.ents] := by unfold partsOf; rw [if_neg (by omega), if_neg (by omega)]
    rw [hp, makes_cons]
    have t' : NTr (Sub m M h) h ⟨n.kind, zeros16, n.ents⟩ l := by
      rcases t with ⟨a, b, c⟩ | ⟨a, b, c⟩
      · exact .inl ⟨a, b, c⟩
      · exact .inr ⟨a, b, c⟩
    have ge := t'.good g
    rcases make_tr E t' g h1 h6 with ⟨i, e, H, hT, hN⟩ | ⟨e, hf⟩ | ⟨e, hc⟩
    · obtain ⟨M', hM'⟩ : ∃ M', (M.make ⟨n.kind, zeros16, n.ents⟩).1 = M' := ⟨_, rfl⟩
      rw [hM'] at H hT hN ⊢
      rw [e]
      dsimp only
      rw [if_pos rfl, makes_nil]
      refine .inl ⟨rfl, ⟨H.exact, H.grown, ?_, H.free, H.sum, fun F hF => H.loose (fun x hx => (ge.2 x hx).2.2) hF _, fun _ => ⟨_, i, rfl, hT, H.zero E (fun x hx => (ge.2 x hx).2.2), H.new⟩, fun _ hm => ?_, fun s hs => ⟨fun _ e he => ?_, fun hh => absurd hh (by omega)⟩, ⟨_, rfl, by rw [if_neg (by omega), List.drop_zero]; show M'.ents (Int.toNat (i : Int)) = _; rw [Int.toNat_natCast]; unfold SM.ents; rw [H.node]⟩⟩⟩
      · rw [if_neg (by omega)]; rfl
      · obtain ⟨x, hx, hxe⟩ := t'.head h1
        exact ⟨l, [], x, (List.append_nil l).symm, ⟨hT, by rw [hN]; exact hm⟩, hx, hxe, rfl⟩
      · rw [List.mem_singleton.1 he]
        exact led_made H t' hs
    · rw [e]
      dsimp only
      rw [if_neg (by decide)]
      exact .inr (.inl ⟨rfl, by split <;> omega⟩)
    · rw [e]
      dsimp only
      rw [if_neg (by decide)]
      exact .inr (.inr ⟨rfl, hc⟩)
  · have hp : partsOf n.ents = [n.ents.take (n.ents.length / 2), n.ents.drop (n.ents.length / 2)] := by unfold partsOf; rw [if_neg (by omega), if_pos (by omega)]
    rw [hp, makes_cons]
    obtain ⟨e1, he1⟩ : ∃ e1, n.ents.take (n.ents.length / 2) = e1 := ⟨_, rfl⟩
    obtain ⟨e2, he2⟩ : ∃ e2, n.ents.drop (n.ents.length / 2) = e2 := ⟨_, rfl⟩
    have hee : n.ents = e1 ++ e2 := by rw [← he1, ← he2, List.take_append_drop]
    have hl1 : e1.length = n.ents.length / 2 := by rw [← he1, List.length_take]; omega
    have hl2 : e2.length = n.ents.length - n.ents.length / 2 := by rw [← he2, List.length_drop]
    rw [he1, he2]
    obtain ⟨l1, l2, hll, t1, t2⟩ := t.parts hee
    have g1 : Good M l1 := Good.left (b := l2) (by rw [← hll]; exact g)
    have g2 : Good M l2 := Good.right (a := l1) (by rw [← hll]; exact g)
    have ge1 := t1.good g1
    rcases make_tr E t1 g1 (by omega) (by omega) with ⟨i, e, H, hT, hN⟩ | ⟨e, hf⟩ | ⟨e, hc⟩
    · obtain ⟨M', hM'⟩ : ∃ M', (M.make ⟨n.kind, zeros16, e1⟩).1 = M' := ⟨_, rfl⟩
      rw [hM'] at H hT hN ⊢
      rw [e]
      dsimp only
      rw [if_pos rfl, makes_cons]
      have t2' : NTr (Sub m M' h) h ⟨n.kind, zeros16, e2⟩ l2 := t2.mono fun e _ a ha => Sub.grown H.grown ha
      have g2' := g2.grown H.grown
      have ge2 := t2'.good g2'
      rcases make_tr H.exact t2' g2' (by omega) (by omega) with ⟨j, f, K, kT, kN⟩ | ⟨f, hf⟩ | ⟨f, hc⟩
      · obtain ⟨M2, hM2⟩ : ∃ M2, (M'.make ⟨n.kind, zeros16, e2⟩).1 = M2 := ⟨_, rfl⟩
        rw [hM2] at K kT kN ⊢
        rw [f]
        dsimp only
        rw [if_pos rfl, makes_nil]
        have hH : Sub m M' (h + 1) i l1 → Sub m M2 (h + 1) i l1 := Sub.grown K.grown
        refine .inl ⟨rfl, ⟨K.exact, H.grown.trans K.grown, ?_, ?_, ?_, fun F hF => ?_, fun hh => absurd hh h6, fun hm hm2 => ?_, fun s hs => ⟨fun hh => absurd hh h6, fun _ => ?_⟩, ⟨_, rfl, by rw [if_pos (by omega), he2]; show M2.ents (Int.toNat (j : Int)) = _; rw [Int.toNat_natCast]; unfold SM.ents; rw [K.node]⟩⟩⟩
        · rw [if_pos (by omega)]; rfl
        · have a1 := H.free
          have a2 := K.free
          show _ = M2.pool.freeCount + 2
          omega
        · have a1 := H.sum
          have a2 := K.sum
          dsimp only at a1 a2
          show M2.sum = _
          omega
        · have a1 := H.loose (fun x hx => (ge1.2 x hx).2.2) (E := e2 ++ F) (by rw [← List.append_assoc, ← hee]; exact hF) ((e1.getD 0 (0, 0)).1)
          rw [List.append_assoc] at a1
          have a2 := K.loose (fun x hx => (ge2.2 x hx).2.2) a1 ((e2.getD 0 (0, 0)).1)
          rw [List.append_assoc] at a2
          exact a2
        · obtain ⟨x, hx, hxe⟩ := t1.head (by show 1 ≤ e1.length; omega)
          obtain ⟨y, hy, hye⟩ := t2.head (by show 1 ≤ e2.length; omega)
          exact ⟨l1, l2, x, hll, hH ⟨hT, by rw [hN]; omega⟩, hx, hxe, l2, [], y, (List.append_nil _).symm, ⟨kT, by rw [kN]; omega⟩, hy, hye, rfl⟩
        · rw [hee] at hs
          obtain ⟨a, b, hab, ha, hb⟩ := hs.halves
          refine ⟨a, b, hab, ⟨ha.part (by omega), Led.grown K.grown hT (led_made H t1 ha)⟩, b, 0, Nat.le_refl _, ⟨hb.part (by omega), led_made K t2' (LedN.grown H.grown t2 hb)⟩, trivial⟩
      · rw [f]
        dsimp only
        rw [if_neg (by decide)]
        have a1 := H.free
        exact .inr (.inl ⟨rfl, by split <;> omega⟩)
      · rw [f]
        dsimp only
        rw [if_neg (by decide)]
        have a1 := H.sum
        dsimp only at a1
        obtain ⟨c, hc⟩ := hc
        have hg := H.grown.refs c
        exact .inr (.inr ⟨rfl, c, by omega⟩)
    · rw [e]
      dsimp only
      rw [if_neg (by decide)]
      exact .inr (.inl ⟨rfl, by split <;> omega⟩)
    · rw [e]
      dsimp only
      rw [if_neg (by decide)]
      obtain ⟨c, hc⟩ := hc
      exact .inr (.inr ⟨rfl, c, by omega⟩)
end Go.Proofs.YtidlchciehdefaaGreat
/-
  Trees in a store, plain: putting a page for a key.
-/
namespace Go.Proofs.YtidlchciehdefaaGreat
open Go.RowKit

/-- The step of put. -/
theorem putF_succ (f : Nat) (M : SM) (root : Int) (x : Int × Int) : SM.putF (f + 1) M root x =
    (if (M.tnode root (8 - f)).2 = 0 then
      (if (M.tnode root (8 - f)).1.kind = 3 then
        (if (SM.putF f M ((M.tnode root (8 - f)).1.ents.getD (atI (M.tnode root (8 - f)).1.ents x.1).toNat (0, 0)).2 x).2.2 = 0 then
          (if ((SM.putF f M ((M.tnode root (8 - f)).1.ents.getD (atI (M.tnode root (8 - f)).1.ents x.1).toNat (0, 0)).2 x).1.split (SM.putF f M ((M.tnode root (8 - f)).1.ents.getD (atI (M.tnode root (8 - f)).1.ents x.1).toNat (0, 0)).2 x).2.1).2.2 = 0 then
            (((SM.putF f M ((M.tnode root (8 - f)).1.ents.getD (atI (M.tnode root (8 - f)).1.ents x.1).toNat (0, 0)).2 x).1.split (SM.putF f M ((M.tnode root (8 - f)).1.ents.getD (atI (M.tnode root (8 - f)).1.ents x.1).toNat (0, 0)).2 x).2.1).1,
              { (M.tnode root (8 - f)).1 with ents := (M.tnode root (8 - f)).1.ents.take (atI (M.tnode root (8 - f)).1.ents x.1).toNat ++ ((SM.putF f M ((M.tnode root (8 - f)).1.ents.getD (atI (M.tnode root (8 - f)).1.ents x.1).toNat (0, 0)).2 x).1.split (SM.putF f M ((M.tnode root (8 - f)).1.ents.getD (atI (M.tnode root (8 - f)).1.ents x.1).toNat (0, 0)).2 x).2.1).2.1 ++ (M.tnode root (8 - f)).1.ents.drop ((atI (M.tnode root (8 - f)).1.ents x.1).toNat + 1) }, 0)
          else (((SM.putF f M ((M.tnode root (8 - f)).1.ents.getD (atI (M.tnode root (8 - f)).1.ents x.1).toNat (0, 0)).2 x).1.split (SM.putF f M ((M.tnode root (8 - f)).1.ents.getD (atI (M.tnode root (8 - f)).1.ents x.1).toNat (0, 0)).2 x).2.1).1, (M.tnode root (8 - f)).1,
            ((SM.putF f M ((M.tnode root (8 - f)).1.ents.getD (atI (M.tnode root (8 - f)).1.ents x.1).toNat (0, 0)).2 x).1.split (SM.putF f M ((M.tnode root (8 - f)).1.ents.getD (atI (M.tnode root (8 - f)).1.ents x.1).toNat (0, 0)).2 x).2.1).2.2))
        else ((SM.putF f M ((M.tnode root (8 - f)).1.ents.getD (atI (M.tnode root (8 - f)).1.ents x.1).toNat (0, 0)).2 x).1, (M.tnode root (8 - f)).1, (SM.putF f M ((M.tnode root (8 - f)).1.ents.getD (atI (M.tnode root (8 - f)).1.ents x.1).toNat (0, 0)).2 x).2.2))
      else if 0 ≤ atI (M.tnode root (8 - f)).1.ents x.1 ∧ ((M.tnode root (8 - f)).1.ents.getD (atI (M.tnode root (8 - f)).1.ents x.1).toNat (0, 0)).1 = x.1 then
        (M, { (M.tnode root (8 - f)).1 with ents := (M.tnode root (8 - f)).1.ents.take (atI (M.tnode root (8 - f)).1.ents x.1).toNat ++ [x] ++ (M.tnode root (8 - f)).1.ents.drop ((atI (M.tnode root (8 - f)).1.ents x.1).toNat + 1) }, 0)
      else (M, { (M.tnode root (8 - f)).1 with ents := (M.tnode root (8 - f)).1.ents.take (atI (M.tnode root (8 - f)).1.ents x.1 + 1).toNat ++ [x] ++ (M.tnode root (8 - f)).1.ents.drop (atI (M.tnode root (8 - f)).1.ents x.1 + 1).toNat }, 0))
    else (M, (M.tnode root (8 - f)).1, (M.tnode root (8 - f)).2)) := rfl

theorem tnode_tr {m : Nat} {M : SM} {h : Nat} {p : Int} {l : List (Int × Int)} (t : Tr m M (h + 1) p l) {d : Nat} (hd : d < 8) :
    ∃ n, M.tnode p d = (n, 0) ∧ M.nodeAt p.toNat = some n ∧ n.ok ∧ NTr (Sub m M h) h n l := by
  obtain ⟨hp, n, hn, hok, k⟩ := t
  refine ⟨n, ?_, hn, hok, k⟩
  have hk := NTr.kind k
  unfold SM.tnode SM.get
  rw [if_pos hp, hn]
  dsimp only
  rw [if_pos rfl, if_neg (by omega)]

/-- The leaf's own way. -/
theorem leaf_put {l : List (Int × Int)} (h : RisesK l) (x : Int × Int) :
    (if 0 ≤ atI l x.1 ∧ (l.getD (atI l x.1).toNat (0, 0)).1 = x.1 then l.take (atI l x.1).toNat ++ [x] ++ l.drop ((atI l x.1).toNat + 1) else l.take (atI l x.1 + 1).toNat ++ [x] ++ l.drop (atI l x.1 + 1).toNat) = putL l x := by
  have hb := (atI_bound (l := l) x.1).1
  obtain ⟨c, hc⟩ := Int.eq_ofNat_of_zero_le (show 0 ≤ atI l x.1 + 1 by omega)
  obtain ⟨hcl, hc1, hc2⟩ := atI_cut h x.1 hc.symm
  by_cases hy : 0 ≤ atI l x.1 ∧ (l.getD (atI l x.1).toNat (0, 0)).1 = x.1
  · rw [if_pos hy]
    have e1 : (atI l x.1).toNat = c - 1 := by omega
    rw [e1] at hy ⊢
    have hlt : c - 1 < l.length := by omega
    have hg : l.getD (c - 1) (0, 0) = l[c - 1] := by simp [List.getD, List.getElem?_eq_getElem hlt]
    rw [hg] at hy
    have hd : l.drop (c - 1) = l[c - 1] :: l.drop c := by rw [List.drop_eq_getElem_cons hlt, show c - 1 + 1 = c by omega]
    refine putL_take (by omega) (fun y hyy => ?_) (fun y hyy => hc2 y (by rw [show c = c - 1 + 1 by omega]; exact hyy)) (fun y hyy => ?_)
    · have := rises_cut h (c - 1) y hyy l[c - 1] (by rw [hd]; exact List.mem_cons_self ..)
      omega
    · rw [show c - 1 + 1 - (c - 1) = 1 by omega, hd] at hyy
      simp at hyy
      rw [hyy]; exact hy.2
  · rw [if_neg hy]
    have e1 : (atI l x.1 + 1).toNat = c := by omega
    rw [e1]
    refine putL_take (Nat.le_refl _) (fun y hyy => ?_) hc2 (fun y hyy => by rw [Nat.sub_self] at hyy; cases hyy)
    have h1 := hc1 y hyy
    refine (Int.lt_or_eq_of_le h1).resolve_right fun he => hy ?_
    obtain ⟨j, hj, rfl⟩ := List.getElem_of_mem hyy
    rw [List.length_take] at hj
    rw [List.getElem_take] at he
    have hc0 : 0 < c := by omega
    refine ⟨by omega, ?_⟩
    rw [show (atI l x.1).toNat = c - 1 by omega]
    have hlt : c - 1 < l.length := by omega
    have hg : l.getD (c - 1) (0, 0) = l[c - 1] := by simp [List.getD, List.getElem?_eq_getElem hlt]
    rw [hg]
    have h2 : l[c - 1].1 ≤ x.1 := hc1 _ (by
      rw [List.mem_take_iff_getElem]
      exact ⟨c - 1, by omega, rfl⟩)
    by_cases hjc : j = c - 1
    · subst hjc; exact he
    · have := List.pairwise_iff_getElem.1 h j (c - 1) (by omega) hlt (by omega)
      omega

structure PutOk (m : Nat) (M : SM) (ext : Nat → Nat) (h : Nat) (root : Int) (l : List (Int × Int)) (M' : SM) (n' : NM) (As : Prop) : Prop where
  exact : Exact M' ext
  grown : Grown M M'
  tr : NTr (Sub m M' h) h n' l
  lo : M.entN root ≤ n'.ents.length
  hi : n'.ents.length ≤ M.entN root + 1
  entN : 1 ≤ M.entN root ∧ M.entN root ≤ 6
  free : M.pool.freeCount ≤ M'.pool.freeCount + 2 * h
  sum : M'.sum + n'.ents.length ≤ M.sum + 7 * (h + 1)
  loose : ∀ E, Loose M E → Loose M' (n'.ents ++ E)
  led : ∀ s, Led M (h + 1) root s → LedN M' h n'.ents (s + 1)
  asc : As → spineN M' h n'.ents = bumpF (spine M (h + 1) root)
theorem putL_end {l : List (Int × Int)} {x : Int × Int} (h : ∀ y ∈ l, y.1 < x.1) : putL l x = l ++ [x] := by
  unfold putL
  rw [filter_all (fun y hy => by simpa using h y hy), filter_none (fun y hy => by have := h y hy; simp; omega), List.append_nil]

theorem putF_ok {m : Nat} (hm : m ≤ 3) {ext : Nat → Nat} {x : Int × Int} (x0 : 0 ≤ x.1) (x1 : x.1 < 64) : ∀ (h d : Nat) (M : SM) (l : List (Int × Int)) (root : Int), h + 1 + d ≤ 8 → Exact M ext → Tr m M (h + 1) root l → Good M l → M.pool.heldB x.2 = true →
    ((SM.putF (9 - d) M root x).2.2 = 0 ∧ PutOk m M ext h root (putL l x) (SM.putF (9 - d) M root x).1 (SM.putF (9 - d) M root x).2.1 (∀ y ∈ l, y.1 < x.1)) ∨
      ((SM.putF (9 - d) M root x).2.2 = 71 ∧ M.pool.freeCount < 2 * h) ∨ ((SM.putF (9 - d) M root x).2.2 = 72 ∧ ∃ c, 255 < M.refs c + 7 * h + ext c) := by
  intro h
  induction h with
  | zero =>
    intro d M l root hd E t g hx
    obtain ⟨n, hn, hna, hok, k⟩ := tnode_tr t (d := d) (by omega)
    have hin := innerOk_of hok (by have := k.kind; omega)
    rw [show 9 - d = (8 - d) + 1 by omega, putF_succ, show 8 - (8 - d) = d by omega, hn]
    dsimp only
    rcases k with ⟨_, hk, hl⟩ | ⟨h0, _⟩
    · rw [if_pos rfl, if_neg (by omega)]
      have hp := leaf_put (l := n.ents) (by rw [hl]; exact g.1) x
      have hlen : ∀ c i j, c = n.ents.take i ++ [x] ++ n.ents.drop j → i ≤ n.ents.length → (j = i ∨ j = i + 1) → n.ents.length ≤ c.length ∧ c.length ≤ n.ents.length + 1 := by
        intro c i j hc hi hj
        rw [hc]
        simp only [List.length_append, List.length_take, List.length_drop, List.length_singleton]
        omega
      have hb := atI_bound (l := n.ents) x.1
      have hen := entN_of hna
      have fin : ∀ c : List (Int × Int), c = putL n.ents x → n.ents.length ≤ c.length ∧ c.length ≤ n.ents.length + 1 → PutOk m M ext 0 root (putL l x) M { n with ents := c } (∀ y ∈ l, y.1 < x.1) := by
        intro c hc hlc
        refine ⟨E, Grown.refl _, .inl ⟨rfl, hk, by rw [← hl]; exact hc⟩, by rw [hen]; exact hlc.1, by rw [hen]; exact hlc.2, by rw [hen]; exact ⟨hin.pos, hin.le⟩, by omega, ?_, fun F hF q hq hc => ?_, fun s hs => ?_, fun has => ?_⟩
        · have := hin.le
          show M.sum + c.length ≤ _
          omega
        · obtain ⟨y, hy, he⟩ := hF q hq hc
          exact ⟨y, List.mem_append_right _ hy, he⟩
        · rcases hs with ⟨_, hs⟩ | ⟨h0, _⟩
          · have hee : M.ents root.toNat = n.ents := by unfold SM.ents; rw [hna]
            rw [hee] at hs
            exact .inl ⟨rfl, by show c.length ≤ _; omega⟩
          · exact absurd h0 (Nat.lt_irrefl 0)
        · have hee : M.ents root.toNat = n.ents := by unfold SM.ents; rw [hna]
          unfold spine spineN
          rw [hee, if_pos rfl, if_pos rfl]
          show [c.length] = [n.ents.length + 1]
          rw [hc, putL_end (by rw [hl]; exact has), List.length_append, List.length_singleton]
      by_cases hy : 0 ≤ atI n.ents x.1 ∧ (n.ents.getD (atI n.ents x.1).toNat (0, 0)).1 = x.1
      · rw [if_pos hy] at hp ⊢
        exact .inl ⟨rfl, fin _ hp (hlen _ _ _ rfl (by omega) (.inr rfl))⟩
      · rw [if_neg hy] at hp ⊢
        exact .inl ⟨rfl, fin _ hp (hlen _ _ _ rfl (by omega) (.inl rfl))⟩
    · omega
  | succ h ih =>
    intro d M l root hd E t g hx
    obtain ⟨n, hn, hna, hok, k⟩ := tnode_tr t (d := d) (by omega)
    have hin := innerOk_of hok (by have := k.kind; omega)
    have ge := k.good g
    rw [show 9 - d = (8 - d) + 1 by omega, putF_succ, show 8 - (8 - d) = d by omega, hn]
    dsimp only
    rcases k with ⟨h0, _⟩ | ⟨_, hk, hK⟩
    · omega
    · rw [if_pos rfl, if_pos hk]
      have hb := atI_bound (l := n.ents) x.1
      obtain ⟨c, hc⟩ := Int.eq_ofNat_of_zero_le (show 0 ≤ atI n.ents x.1 + 1 by omega)
      obtain ⟨hcl, hc1, hc2⟩ := atI_cut ge.1 x.1 hc.symm
      obtain ⟨i, hi⟩ : ∃ i, (atI n.ents x.1).toNat = i := ⟨_, rfl⟩
      have hic : i = c - 1 := by omega
      have hil : i < n.ents.length := by have := hin.pos; omega
      rw [hi]
      have hg : n.ents.getD i (0, 0) = n.ents[i] := by simp [List.getD, List.getElem?_eq_getElem hil]
      have hes : n.ents = n.ents.take i ++ n.ents[i] :: n.ents.drop (i + 1) := by rw [← List.drop_eq_getElem_cons hil, List.take_append_drop]
      rw [hg]
      obtain ⟨e, he⟩ : ∃ e, n.ents[i] = e := ⟨_, rfl⟩
      obtain ⟨es1, he1⟩ : ∃ es1, n.ents.take i = es1 := ⟨_, rfl⟩
      obtain ⟨es2, he2⟩ : ∃ es2, n.ents.drop (i + 1) = es2 := ⟨_, rfl⟩
      have hl1 : es1.length = i := by rw [← he1, List.length_take]; omega
      have hl2 : es2.length = n.ents.length - (i + 1) := by rw [← he2, List.length_drop]
      have hee1 : 0 < c → e.1 ≤ x.1 := fun h0 => hc1 e (by rw [← he, List.mem_take_iff_getElem]; exact ⟨i, by omega, rfl⟩)
      have hee2 : ∀ f ∈ es2, x.1 < f.1 := fun f hf => hc2 f (by
        rw [← he2] at hf
        by_cases h0 : c = 0
        · rw [h0, List.drop_zero]; exact List.mem_of_mem_drop hf
        · rw [show c = i + 1 by omega]; exact hf)
      rw [he, he1, he2] at hes ⊢
      rw [hes] at hK
      obtain ⟨a, b, hab, hK1, s, tt, y, hst, hT, hy, hye, hK2⟩ := hK.cut
      subst hab hst
      have ga : ∀ z ∈ a, z.1 < x.1 := fun z hz => by
        by_cases h0 : c = 0
        · have : es1 = [] := List.eq_nil_of_length_eq_zero (by omega)
          rw [this] at hK1
          rw [show a = [] from hK1] at hz
          cases hz
        · have h1 := hee1 (by omega)
          have hys : y ∈ s ++ tt := List.mem_append_left _ (List.mem_of_mem_head? (by rw [hy]; rfl))
          have := (List.pairwise_append.1 g.1).2.2 z hz y hys
          omega
      have gt : ∀ z ∈ tt, x.1 < z.1 := fun z hz => by
        cases es2 with
        | nil => rw [show tt = [] from hK2] at hz; cases hz
        | cons f es2 =>
          obtain ⟨u, hu, hue⟩ := hK2.head
          have h1 := hee2 f (List.mem_cons_self ..)
          have h2 := head_le g.right.right.1 hu z hz
          omega
      have hput : putL (a ++ (s ++ tt)) x = a ++ putL s x ++ tt := by rw [← List.append_assoc]; exact putL_mid ga gt
      rw [hput]
      have gs : Good M s := g.right.left
      have hr := ih (d + 1) M s e.2 (by omega) E hT.1 gs hx
      rw [show 9 - (d + 1) = 8 - d by omega] at hr
      obtain ⟨R, hR⟩ : ∃ R, SM.putF (8 - d) M e.2 x = R := ⟨_, rfl⟩
      rw [hR] at hr ⊢
      obtain ⟨M1, n1, er⟩ := R
      dsimp only at hr ⊢
      rcases hr with ⟨rfl, P⟩ | ⟨rfl, hf⟩ | ⟨rfl, hf⟩
      · rw [if_pos rfl]
        have hen := P.entN
        have hlo := P.lo
        have hhi := P.hi
        have gs' : Good M1 (putL s x) := (gs.put x0 x1 hx).grown P.grown
        have hsp := split_ok P.exact P.tr gs' (by omega) (by omega)
        obtain ⟨R, hR2⟩ : ∃ R, M1.split n1 = R := ⟨_, rfl⟩
        rw [hR2] at hsp ⊢
        obtain ⟨M2, out, er⟩ := R
        dsimp only at hsp ⊢
        have a1 := P.free
        have a2 := P.sum
        rcases hsp with ⟨rfl, S⟩ | ⟨rfl, hf⟩ | ⟨rfl, hf⟩
        · rw [if_pos rfl]
          have G := P.grown.trans S.grown
          have b1 := S.free
          have b2 := S.sum
          have b3 := S.len
          have hen2 := entN_of hna
          have hn6 := hin.le
          have hn1 := hin.pos
          have hlen : (es1 ++ out ++ es2).length + 1 = n.ents.length + out.length := by simp only [List.length_append]; omega
          have ho : 1 ≤ out.length ∧ out.length ≤ 2 := by split at b3 <;> omega
          refine .inl ⟨rfl, ⟨S.exact, G, .inr ⟨by omega, hk, ?_⟩, ?_, ?_, ?_, ?_, ?_, fun F hF => ?_, fun s0 hs0 => ?_, fun has => ?_⟩⟩
          · refine Kids.append (Kids.append (hK1.mono fun f _ z hz => Sub.grown G hz) (S.kids hm ?_)) (hK2.mono fun f _ z hz => Sub.grown G hz)
            have := hT.2
            omega
          · rw [hen2]; show _ ≤ (es1 ++ out ++ es2).length; omega
          · rw [hen2]; show (es1 ++ out ++ es2).length ≤ _; omega
          · rw [hen2]; exact ⟨hn1, hn6⟩
          · show _ ≤ M2.pool.freeCount + _; omega
          · show M2.sum + (es1 ++ out ++ es2).length ≤ _; omega
          · have := S.loose _ (P.loose _ hF)
            intro q hq hc
            obtain ⟨z, hz, hze⟩ := this q hq hc
            refine ⟨z, ?_, hze⟩
            show z ∈ es1 ++ out ++ es2 ++ F
            rcases List.mem_append.1 hz with hz | hz
            · exact List.mem_append_right _ hz
            · exact List.mem_append_left _ (List.mem_append_left _ (List.mem_append_right _ hz))
          · have hee : M.ents root.toNat = n.ents := by unfold SM.ents; rw [hna]
            rcases hs0 with ⟨h0, _⟩ | ⟨_, hs0⟩
            · omega
            · rw [hee, hes] at hs0
              obtain ⟨t0, u0, h0, k1, t2, u2, h2, ke, k3⟩ := hs0.cut
              have kN := P.led t2 ke.2
              obtain ⟨s1, s2⟩ := S.led _ kN
              have ko : KidsL (LedS M2 (h + 1)) out (t2 + 1) := by
                by_cases h6 : n1.ents.length ≤ 6
                · obtain ⟨kk, ii, ho2, _⟩ := S.one h6
                  have := s1 h6
                  rw [ho2] at this ⊢
                  exact ⟨t2 + 1, 0, Nat.le_refl _, ⟨Nat.le_succ_of_le ke.1, this _ (List.mem_cons_self ..)⟩, trivial⟩
                · exact s2 (by omega)
              refine .inr ⟨by omega, KidsL.weak (KidsL.append (KidsL.append (k1.grown G hK1) ko) (k3.grown G hK2)) (by omega)⟩
          · have hee : M.ents root.toNat = n.ents := by unfold SM.ents; rw [hna]
            have hes2 : es2 = [] := by
              cases es2 with
              | nil => rfl
              | cons f es2 =>
                obtain ⟨u, hu, hue⟩ := hK2.head
                have h1 := hee2 f (List.mem_cons_self ..)
                have h2 := has u (List.mem_append_right _ (List.mem_append_right _ (List.mem_of_mem_head? (by rw [hu]; rfl))))
                omega
            obtain ⟨o, ho1, ho2⟩ := S.last
            have hP := P.asc (fun y hy => has y (List.mem_append_right _ (List.mem_append_left _ hy)))
            have hsub : spine M (h + 1) e.2 = spineN M h (M.ents e.2.toNat) := rfl
            have hlast : (es1 ++ out ++ es2).getLastD (0, 0) = o := by rw [hes2, List.append_nil, List.getLastD_eq_getLast?, List.getLast?_append, ho1]; rfl
            have hlastn : n.ents.getLastD (0, 0) = e := by rw [hes, hes2]; exact lastD_append es1 e
            have goal1 : spineN M2 (h + 1) (es1 ++ out ++ es2) = (es1 ++ out ++ es2).length :: spineN M2 h (M2.ents o.2.toNat) := by
              unfold spineN
              rw [if_neg (by omega), hlast]
              rfl
            have goal2 : spine M (h + 1 + 1) root = n.ents.length :: spineN M h (M.ents e.2.toNat) := by
              rw [spine_succ, hee]
              unfold spineN
              rw [if_neg (by omega), hlastn]
              rfl
            show spineN M2 (h + 1) (es1 ++ out ++ es2) = _
            rw [goal1, goal2, ho2]
            rw [hsub] at hP
            have hb : bumpF (n.ents.length :: spineN M h (M.ents e.2.toNat)) = if (spineN M1 h n1.ents).headD 0 = 7 then (n.ents.length + 1) :: 4 :: (spineN M1 h n1.ents).tail else n.ents.length :: spineN M1 h n1.ents := by
              rw [hP]; rfl
            rw [hb]
            have hhead : (spineN M1 h n1.ents).headD 0 = n1.ents.length := rfl
            rw [hhead]
            by_cases h6 : 6 < n1.ents.length
            · have h7 : n1.ents.length = 7 := by omega
              rw [if_pos h6] at b3
              rw [if_pos h6, if_pos h7, h7, spineN_drop S.grown P.tr h7, show (es1 ++ out ++ es2).length = n.ents.length + 1 by omega]
            · rw [if_neg h6] at b3
              rw [if_neg h6, if_neg (by omega), List.drop_zero, spineN_grown S.grown P.tr (by omega), show (es1 ++ out ++ es2).length = n.ents.length by omega]
        · rw [if_neg (by decide)]
          exact .inr (.inl ⟨rfl, by split at hf <;> omega⟩)
        · rw [if_neg (by decide)]
          obtain ⟨c, hf⟩ := hf
          have hg := P.grown.refs c
          exact .inr (.inr ⟨rfl, c, by omega⟩)
      · rw [if_neg (by decide)]
        exact .inr (.inl ⟨rfl, by omega⟩)
      · rw [if_neg (by decide)]
        obtain ⟨c, hf⟩ := hf
        exact .inr (.inr ⟨rfl, c, by omega⟩)

/-- What a tree's new root leaves. -/
structure TopOk (m : Nat) (M : SM) (ext : Nat → Nat) (h : Nat) (l : List (Int × Int)) (a b : Nat) (M' : SM) (p : Int) (Q : Nat → Prop) (Sp : List Nat → Prop) : Prop where
  exact : Exact M' ext
  grown : Grown M M'
  tr : ∃ h', Tr m M' h' p l ∧ h' ≤ h + 2
  free : M.pool.freeCount ≤ M'.pool.freeCount + a
  sum : M'.sum ≤ M.sum + b
  zero : M'.pool.cnt p.toNat = 0
  loose : ∀ F, F = [] → Loose M' (F ++ [((0 : Int), p)])
  led : ∀ s, Q s → ∃ h', Tr m M' h' p l ∧ h' ≤ h + 2 ∧ Led M' h' p s
  asc : ∀ sp, Sp sp → ∃ h', Tr m M' h' p l ∧ spine M' h' p = topS sp

theorem top_ok {m : Nat} (hm : m ≤ 3) {M : SM} {ext : Nat → Nat} (E : Exact M ext) {h : Nat} {n : NM} {l : List (Int × Int)} (t : NTr (Sub m M h) h n l) (g : Good M l) (h1 : 1 ≤ n.ents.length) (h12 : n.ents.length ≤ 12) (hl : Loose M n.ents) :
    ((M.top n).2.2 = 0 ∧ TopOk m M ext h l 3 (n.ents.length + 2) (M.top n).1 (M.top n).2.1 (LedN M h n.ents) (fun sp => spineN M h n.ents = sp ∧ n.ents.length ≤ 7)) ∨ ((M.top n).2.1 = -1 ∧ (M.top n).2.2 = 71 ∧ M.pool.freeCount < 3) ∨ ((M.top n).2.1 = -1 ∧ (M.top n).2.2 = 72 ∧ ∃ c, 255 < M.refs c + n.ents.length + 2 + ext c) := by
  unfold SM.top
  dsimp only
  have hsp := split_ok E t g h1 h12
  obtain ⟨R, hR⟩ : ∃ R, M.split n = R := ⟨_, rfl⟩
  rw [hR] at hsp ⊢
  obtain ⟨M1, out, er⟩ := R
  dsimp only at hsp ⊢
  rcases hsp with ⟨rfl, S⟩ | ⟨rfl, hf⟩ | ⟨rfl, hf⟩
  · rw [if_pos rfl]
    have b1 := S.free
    have b2 := S.sum
    have b3 := S.len
    by_cases h6 : n.ents.length ≤ 6
    · rw [if_neg (by omega)] at b3
      rw [if_neg (by omega), if_neg (by omega)]
      obtain ⟨k, i, ho, hT, hz, _⟩ := S.one h6
      rw [ho]
      refine .inl ⟨rfl, ⟨S.exact, S.grown, ⟨h + 1, hT, by omega⟩, by show _ ≤ M1.pool.freeCount + _; omega, by show M1.sum ≤ _; omega, ?_, fun F hF => ?_, fun s hs => ⟨h + 1, hT, by omega, by have := (S.led s hs).1 h6; rw [ho] at this; exact this _ (List.mem_cons_self ..)⟩, fun sp hsp => ⟨h + 1, hT, ?_⟩⟩⟩
      · show M1.pool.cnt (Int.toNat (i : Int)) = 0
        rw [Int.toNat_natCast]; exact hz
      · subst hF
        have := S.loose [] (by rw [List.append_nil]; exact hl)
        rw [ho] at this
        intro q hq hc
        obtain ⟨y, hy, he⟩ := this q hq hc
        simp at hy
        exact ⟨_, List.mem_singleton.2 rfl, by rw [hy] at he; exact he⟩
      · obtain ⟨o, ho1, ho2⟩ := S.last
        obtain rfl : o = (k, (i : Int)) := by rw [ho] at ho1; simpa using ho1.symm
        rw [if_neg (by omega), List.drop_zero] at ho2
        show spineN M1 h (M1.ents (Int.toNat (i : Int))) = _
        rw [ho2, spineN_grown S.grown t h1, hsp.1]
        unfold topS
        rw [← hsp.1]
        exact (if_neg (show ¬ n.ents.length = 7 by omega)).symm
    · rw [if_pos (by omega)] at b3
      rw [if_pos (by omega)]
      have hK := S.kids hm (by omega)
      have g1 := g.grown S.grown
      have t2 : NTr (Sub m M1 (h + 1)) (h + 1) ⟨3, List.replicate 16 0, out⟩ l := .inr ⟨by omega, rfl, hK⟩
      have hsp2 := split_ok S.exact t2 g1 (by show 1 ≤ out.length; omega) (by show out.length ≤ 12; omega)
      obtain ⟨R, hR⟩ : ∃ R, M1.split ⟨3, List.replicate 16 0, out⟩ = R := ⟨_, rfl⟩
      rw [hR] at hsp2 ⊢
      obtain ⟨M2, out2, er⟩ := R
      dsimp only at hsp2 ⊢
      rcases hsp2 with ⟨rfl, S2⟩ | ⟨rfl, hf⟩ | ⟨rfl, hf⟩
      · rw [if_pos rfl]
        have c1 := S2.free
        have c2 := S2.sum
        have c3 := S2.len
        dsimp only at c2 c3
        rw [if_neg (by omega)] at c3
        rw [if_neg (by omega)]
        obtain ⟨k, i, ho, hT, hz, _⟩ := S2.one (by show out.length ≤ 6; omega)
        rw [ho]
        refine .inl ⟨rfl, ⟨S2.exact, S.grown.trans S2.grown, ⟨h + 2, hT, Nat.le_refl _⟩, by show _ ≤ M2.pool.freeCount + _; omega, by show M2.sum ≤ _; omega, ?_, fun F hF => ?_, fun s hs => ⟨h + 2, hT, Nat.le_refl _, by have := (S2.led s (.inr ⟨by omega, (S.led s hs).2 (by omega)⟩)).1 (by show out.length ≤ 6; omega); rw [ho] at this; exact this _ (List.mem_cons_self ..)⟩, fun sp hsp => ⟨h + 2, hT, ?_⟩⟩⟩
        · show M2.pool.cnt (Int.toNat (i : Int)) = 0
          rw [Int.toNat_natCast]; exact hz
        · subst hF
          have h3 := S.loose [] (by rw [List.append_nil]; exact hl)
          have := S2.loose [] (by rw [List.append_nil]; exact h3)
          rw [ho] at this
          intro q hq hc
          obtain ⟨y, hy, he⟩ := this q hq hc
          simp at hy
          exact ⟨_, List.mem_singleton.2 rfl, by rw [hy] at he; exact he⟩
        · obtain ⟨o, ho1, ho2⟩ := S2.last
          obtain rfl : o = (k, (i : Int)) := by rw [ho] at ho1; simpa using ho1.symm
          rw [if_neg (show ¬ 6 < out.length by omega), List.drop_zero] at ho2
          obtain ⟨o', ho3, ho4⟩ := S.last
          have h7 : n.ents.length = 7 := by have := hsp.2; omega
          rw [if_pos (by omega), h7] at ho4
          have hlast : out.getLastD (0, 0) = o' := by rw [List.getLastD_eq_getLast?, ho3]; rfl
          obtain ⟨a, ha, _⟩ := hK.each o' (List.mem_of_getLast? ho3)
          have e1 : spine M2 (h + 1 + 1) (i : Int) = out.length :: spine M2 (h + 1) o'.2 := by
            rw [spine_succ, ho2]
            unfold spineN
            rw [if_neg (by omega), hlast]
          show spine M2 (h + 1 + 1) (i : Int) = topS sp
          rw [e1, spine_grown S2.grown ha.1, spine_succ, ho4, show 7 / 2 = 3 from rfl, spineN_drop S.grown t h7, hsp.1]
          have hh : sp.headD 0 = 7 := by rw [← hsp.1]; exact h7
          unfold topS
          rw [if_pos hh]
          rw [show out.length = 2 by omega]
      · rw [if_neg (by decide)]
        exact .inr (.inl ⟨rfl, rfl, by rw [if_neg (by show ¬ 6 < out.length; omega)] at hf; omega⟩)
      · rw [if_neg (by decide)]
        obtain ⟨c, hc⟩ := hf
        have hg := S.grown.refs c
        exact .inr (.inr ⟨rfl, rfl, c, by omega⟩)
  · rw [if_neg (by decide)]
    exact .inr (.inl ⟨rfl, rfl, by split at hf <;> omega⟩)
  · rw [if_neg (by decide)]
    obtain ⟨c, hc⟩ := hf
    exact .inr (.inr ⟨rfl, rfl, c, by omega⟩)

/-- A tree, or none. -/
def Rooted (m : Nat) (M : SM) (root : Int) (l : List (Int × Int)) (h : Nat) : Prop := (root = -1 ∧ l = [] ∧ h = 0) ∨ Tr m M h root l
theorem put_ok {m : Nat} (hm : m ≤ 3) {M : SM} {ext : Nat → Nat} (E : Exact M ext) {h : Nat} {root key page : Int} {l : List (Int × Int)} (t : Rooted m M root l h) (h8 : h ≤ 8) (g : Good M l) (hl : Loose M []) (hx : M.pool.heldB page = true) (k0 : 0 ≤ key) (k1 : key < 64) :
    ((M.put root key page).2.2 = 0 ∧ TopOk m M ext (h - 1) (putL l (key, page)) (2 * h + 3) (7 * h + 3) (M.put root key page).1 (M.put root key page).2.1 (fun s => ∃ r, s = r + 1 ∧ (root = -1 ∨ Led M h root r)) (fun sp => (root = -1 ∧ sp = [1]) ∨ (root ≠ -1 ∧ (∀ y ∈ l, y.1 < key) ∧ sp = bumpF (spine M h root)))) ∨
      ((M.put root key page).2.1 = -1 ∧ (M.put root key page).2.2 = 71 ∧ M.pool.freeCount < 2 * h + 3) ∨ ((M.put root key page).2.1 = -1 ∧ (M.put root key page).2.2 = 72 ∧ ∃ c, 255 < M.refs c + 7 * h + 3 + ext c) := by
  unfold SM.put
  rw [if_neg (by omega)]
  rcases t with ⟨rfl, rfl, rfl⟩ | t
  · rw [if_pos rfl]
    have t0 : NTr (Sub m M 0) 0 ⟨2, List.replicate 16 0, [(key, page)]⟩ (putL [] (key, page)) := .inl ⟨rfl, rfl, rfl⟩
    rcases top_ok hm E t0 (g.put k0 k1 hx) (by show 1 ≤ 1; omega) (by show 1 ≤ 12; omega) (fun q hq hc => by obtain ⟨y, hy, _⟩ := hl q hq hc; cases hy) with ⟨e, T⟩ | ⟨e1, e, hf⟩ | ⟨e1, e, c, hc⟩
    · have b1 := T.free
      have b2 := T.sum
      dsimp only [List.length_cons, List.length_nil] at b2
      exact .inl ⟨e, ⟨T.exact, T.grown, T.tr, by omega, by omega, T.zero, T.loose, fun s hs => T.led s (.inl ⟨rfl, by obtain ⟨r, hr, _⟩ := hs; show 1 ≤ s; omega⟩), fun sp hsp => T.asc sp ⟨by rcases hsp with ⟨_, rfl⟩ | ⟨hne, _⟩; rfl; exact absurd rfl hne, by show 1 ≤ 7; omega⟩⟩⟩
    · exact .inr (.inl ⟨e1, e, by omega⟩)
    · exact .inr (.inr ⟨e1, e, c, by dsimp only [List.length_cons, List.length_nil] at hc; omega⟩)
  · have hne : root ≠ -1 := fun e => by have := (heldB_int t.held).1; omega
    rw [if_neg hne]
    cases h with
    | zero => exact t.elim
    | succ h =>
      have hp := putF_ok hm (x := (key, page)) k0 k1 h 0 M l root (by omega) E t g hx
      rw [Nat.sub_zero] at hp
      obtain ⟨R, hR⟩ : ∃ R, SM.putF 9 M root (key, page) = R := ⟨_, rfl⟩
      rw [hR] at hp ⊢
      obtain ⟨M1, n1, er⟩ := R
      dsimp only at hp ⊢
      rcases hp with ⟨rfl, P⟩ | ⟨rfl, hf⟩ | ⟨rfl, hf⟩
      · rw [if_pos rfl]
        have a1 := P.free
        have a2 := P.sum
        have hen := P.entN
        have hlo := P.lo
        have hhi := P.hi
        have hL := P.loose [] hl
        rw [List.append_nil] at hL
        rcases top_ok hm P.exact P.tr ((g.put k0 k1 hx).grown P.grown) (by omega) (by omega) hL with ⟨e, T⟩ | ⟨e1, e, hf⟩ | ⟨e1, e, c, hc⟩
        · have b1 := T.free
          have b2 := T.sum
          exact .inl ⟨e, ⟨T.exact, P.grown.trans T.grown, T.tr, by omega, by omega, T.zero, T.loose, fun s hs => by
            obtain ⟨r, rfl, hr⟩ := hs
            rcases hr with hr | hr
            · exact absurd hr hne
            · exact T.led _ (P.led r hr), fun sp hsp => by
            rcases hsp with ⟨hr, _⟩ | ⟨_, has, rfl⟩
            · exact absurd hr hne
            · exact T.asc _ ⟨P.asc has, by omega⟩⟩⟩
        · exact .inr (.inl ⟨e1, e, by omega⟩)
        · have hg := P.grown.refs c
          exact .inr (.inr ⟨e1, e, c, by omega⟩)
      · rw [if_neg (by decide)]
        exact .inr (.inl ⟨rfl, rfl, by omega⟩)
      · rw [if_neg (by decide)]
        obtain ⟨c, hc⟩ := hf
        exact .inr (.inr ⟨rfl, rfl, c, by omega⟩)
end Go.Proofs.YtidlchciehdefaaGreat
/-
  Trees in a store, plain: holding, dropping, one root in the place of another.
-/
namespace Go.Proofs.YtidlchciehdefaaGreat
open Go.RowKit

def incE (ext : Nat → Nat) (i : Nat) : Nat → Nat := fun p => if p = i then ext p + 1 else ext p
theorem exact_congr {M : SM} {e f : Nat → Nat} (h : Exact M e) (hf : ∀ p, p < M.pool.size → e p = f p) : Exact M f :=
  ⟨h.size, h.cntLe, fun p hp => by rw [h.cnt p hp, hf p hp], h.node, h.kids, h.rank⟩

/-- A page that is there, held once more. -/
theorem holdE_ok {M : SM} {ext : Nat → Nat} (h : Exact M ext) {i : Nat} (hi : M.live i = true) (hc : M.pool.cnt i < 255) :
    M.hold (i : Int) = (⟨M.pool.setCnt i (M.pool.cnt i + 1), M.log⟩, 0) ∧ Exact ⟨M.pool.setCnt i (M.pool.cnt i + 1), M.log⟩ (incE ext i) ∧ (∀ p, SM.live ⟨M.pool.setCnt i (M.pool.cnt i + 1), M.log⟩ p = M.live p) := by
  have hh : M.pool.heldB (i : Int) = true := by rw [heldB_nat]; exact hi
  have hl : ∀ p, SM.live ⟨M.pool.setCnt i (M.pool.cnt i + 1), M.log⟩ p = M.live p := by
    intro p
    have H : Held M.pool [(i : Int)] (M.pool.setCnt i (M.pool.cnt i + 1)) := ⟨rfl, rfl, fun j => by
      unfold PM.setCnt
      by_cases hj : j = i
      · subst hj; simp
      · simp [hj]; omega⟩
    exact H.live (fun x hx => by rw [List.mem_singleton.1 hx]; exact hh) p
  have hr : ∀ p, SM.refs ⟨M.pool.setCnt i (M.pool.cnt i + 1), M.log⟩ p = M.refs p := fun p => by
    unfold SM.refs
    refine sumN_congr fun q _ => ?_
    rw [hl q]; rfl
  refine ⟨by simp [SM.hold, PM.holdTo, PM.holdErr, hh, hc], ⟨h.size, fun p => ?_, fun p hp => ?_, fun q hq => h.node q (by rw [hl] at hq; exact hq), fun q hq x hx => ?_, ?_⟩, hl⟩
  · have := h.cntLe p
    unfold PM.setCnt
    dsimp only
    split <;> omega
  · have h2 := h.cnt p hp
    rw [hr]
    unfold PM.setCnt incE
    dsimp only
    split
    · subst_vars; omega
    · exact h2
  · rw [hl] at hq ⊢
    exact h.kids q hq x hx
  · obtain ⟨r, hr⟩ := h.rank
    exact ⟨r, fun q hq => hr q (by rw [hl] at hq; exact hq)⟩

/-- What dropping leaves. -/
structure Dropped (M : SM) (ext : Nat → Nat) (M' : SM) : Prop where
  exact : Exact M' ext
  log : M'.log = M.log
  size : M'.pool.size = M.pool.size
  live : ∀ p, M'.live p = true → M.live p = true
  loose : ∀ p, M'.live p = true → M'.pool.cnt p = 0 → M.pool.cnt p = 0
theorem Dropped.refl {M : SM} {ext : Nat → Nat} (h : Exact M ext) : Dropped M ext M := ⟨h, rfl, rfl, fun _ h => h, fun _ _ h => h⟩
theorem Dropped.trans {A B C : SM} {e f : Nat → Nat} (h : Dropped A e B) (k : Dropped B f C) : Dropped A f C :=
  ⟨k.exact, k.log.trans h.log, k.size.trans h.size, fun p hp => h.live p (k.live p hp), fun p hp hc => h.loose p (k.live p hp) (k.loose p hp hc)⟩
theorem dropF_ok : ∀ (f : Nat) (M : SM) (ext : Nat → Nat) (i : Nat), Exact M ext → M.live i = true → 0 < ext i → M.liveN < f → (SM.dropF f M (i : Int)).2 = 0 ∧ Dropped M (decE ext i) (SM.dropF f M (i : Int)).1
  | 0, _, _, _, _, _, _, hf => by omega
  | f + 1, M, ext, i, h, hi, he, hf => by
    have hh : M.pool.heldB (i : Int) = true := by rw [heldB_nat]; exact hi
    rw [dropF_succ, if_pos hh]
    simp only [Int.toNat_natCast]
    by_cases hc : M.pool.cnt i ≤ 1
    · rw [if_pos hc]
      obtain ⟨E1, hl1, hn1⟩ := exact_gone h hi (.inl he) hc
      obtain ⟨n, hn, hok⟩ := h.node i hi
      rw [hn]
      dsimp only
      obtain ⟨M1, hM1⟩ : ∃ M1 : SM, { M with pool := M.pool.dropTo i } = M1 := ⟨_, rfl⟩
      have hlog1 : M1.log = M.log := by rw [← hM1]
      have hsz1 : M1.pool.size = M.pool.size := by rw [← hM1]; exact dropTo_size _ _
      have hcnt1 : ∀ p, M1.live p = true → M1.pool.cnt p = M.pool.cnt p := fun p hp => by
        rw [← hM1] at hp ⊢
        rw [hl1] at hp
        simp only [Bool.and_eq_true, decide_eq_true_eq] at hp
        show (M.pool.dropTo i).cnt p = _
        unfold PM.dropTo
        rw [if_neg (by omega)]
        simp [PM.setCnt, PM.setSt, hp.2]
      have hents : M.ents i = n.ents := by unfold SM.ents; rw [hn]
      rw [hents] at E1
      rw [hM1] at E1 hl1 hn1 ⊢
      have D1 : Dropped M (fun p => decE ext i p + occ n.ents p) M1 := ⟨E1, hlog1, hsz1, fun p hp => by rw [hl1] at hp; simp at hp; exact hp.1, fun p hp hc => by rw [← hcnt1 p hp]; exact hc⟩
      have key : ∀ (l : List (Int × Int)) (N : SM), (∀ x ∈ l, 0 ≤ x.2) → Dropped M (fun p => decE ext i p + occ l p) N → N.liveN < f → (∀ x ∈ l, N.live x.2.toNat = true) →
          (dropAllF f (N, 0) (l.map (·.2))).2 = 0 ∧ Dropped M (decE ext i) (dropAllF f (N, 0) (l.map (·.2))).1 := by
        intro l
        induction l with
        | nil => intro N _ D _ _; exact ⟨rfl, D⟩
        | cons x l ih =>
          intro N hx D hN hlv
          have hx0 := hx x (List.mem_cons_self ..)
          obtain ⟨c, hc⟩ := Int.eq_ofNat_of_zero_le hx0
          have hcl := hlv x (List.mem_cons_self ..)
          rw [hc, Int.toNat_natCast] at hcl
          have hocc : ∀ p, occ (x :: l) p = occ l p + (if p = c then 1 else 0) := fun p => by
            unfold occ
            rw [List.countP_cons, hc]
            by_cases e : p = c
            · subst e; simp
            · have : ¬ ((c : Int) == (p : Int)) = true := by simp; omega
              rw [if_neg this, if_neg e]
          have hext : 0 < decE ext i c + occ (x :: l) c := by rw [hocc, if_pos rfl]; omega
          obtain ⟨r1, r2⟩ := dropF_ok f N _ c D.exact hcl hext hN
          have hfold : dropAllF f (N, 0) ((x :: l).map (·.2)) = dropAllF f (SM.dropF f N (c : Int)) (l.map (·.2)) := by
            unfold dropAllF
            rw [List.map_cons, List.foldl_cons, hc, if_pos rfl]
          rw [hfold]
          obtain ⟨R, hR⟩ : ∃ R, SM.dropF f N (c : Int) = R := ⟨_, rfl⟩
          rw [hR] at r1 r2 ⊢
          obtain ⟨N2, er⟩ := R
          dsimp only at r1 r2
          subst r1
          have D2 : Dropped M (fun p => decE ext i p + occ l p) N2 := by
            have := D.trans r2
            exact ⟨exact_congr this.exact (fun p _ => by
              have h2 := hocc p
              show (if p = c then decE ext i p + occ (x :: l) p - 1 else decE ext i p + occ (x :: l) p) = decE ext i p + occ l p
              by_cases e : p = c
              · rw [if_pos e] at h2 ⊢; omega
              · rw [if_neg e] at h2 ⊢; omega), this.log, this.size, this.live, this.loose⟩
          refine ih N2 (fun y hy => hx y (List.mem_cons_of_mem _ hy)) D2 (Nat.lt_of_le_of_lt (liveN_mono r2.size r2.live) hN) (fun y hy => ?_)
          have hy0 := hx y (List.mem_cons_of_mem _ hy)
          have hp : 0 < N2.pool.cnt y.2.toNat := by
            have hlt : y.2.toNat < N2.pool.size := by
              have := live_lt (hlv y (List.mem_cons_of_mem _ hy))
              have := r2.size
              omega
            rw [D2.exact.cnt _ hlt]
            have := occ_pos hy hy0
            omega
          have hlt : y.2.toNat < N2.pool.size := by
            have := live_lt (hlv y (List.mem_cons_of_mem _ hy))
            have := r2.size
            omega
          unfold SM.live PM.live
          simp [hlt, hp]
      refine key n.ents M1 (fun x hx => (hok.entry hx).2.2.1) D1 (by omega) (fun x hx => ?_)
      rw [hl1]
      have hx' : x ∈ M.ents i := by rw [hents]; exact hx
      have h1 := h.kids i hi x hx'
      obtain ⟨r, hr⟩ := h.rank
      have h2 := hr i hi x hx'
      have h3 : x.2.toNat ≠ i := fun e => by rw [e] at h2; omega
      simp [h1, h3]
    · rw [if_neg hc]
      obtain ⟨E1, hl1⟩ := exact_less h hi he (by omega)
      refine ⟨rfl, E1, rfl, dropTo_size _ _, fun p hp => by rw [hl1] at hp; exact hp, fun p hp h0 => ?_⟩
      have : (M.pool.dropTo i).cnt p = 0 := h0
      unfold PM.dropTo at this
      rw [if_pos (by omega)] at this
      unfold PM.setCnt at this
      dsimp only at this
      split at this
      · omega
      · exact this

/-- What one root's being held in another's place leaves. -/
def swapE (ext : Nat → Nat) (old next : Int) : Nat → Nat := fun p => ext p + (if (p : Int) = next then 1 else 0) - (if (p : Int) = old then 1 else 0)
theorem drop_ok {M : SM} {ext : Nat → Nat} (h : Exact M ext) {i : Nat} (hi : M.live i = true) (he : 0 < ext i) : (M.drop (i : Int)).2 = 0 ∧ Dropped M (decE ext i) (M.drop (i : Int)).1 :=
  dropF_ok 241 M ext i h hi he (by have := M.liveN_le; have := h.size; omega)
theorem swap_ok {M : SM} {ext : Nat → Nat} (h : Exact M ext) {old next : Int} (hn : next = -1 ∨ (M.pool.heldB next = true ∧ M.pool.cnt next.toNat < 255)) (ho : old = -1 ∨ (M.pool.heldB old = true ∧ 0 < ext old.toNat)) :
    (M.swap old next).2 = 0 ∧ Exact (M.swap old next).1 (swapE ext old next) ∧ (M.swap old next).1.log = M.log ∧ (M.swap old next).1.pool.size = M.pool.size ∧ (∀ p, (M.swap old next).1.live p = true → M.live p = true) ∧
      (∀ p, (M.swap old next).1.live p = true → (M.swap old next).1.pool.cnt p = 0 → M.pool.cnt p = 0 ∧ (p : Int) ≠ next) := by
  have h1 : ∃ M1 : SM, (if next = -1 then (M, 0) else M.hold next) = (M1, 0) ∧ Exact M1 (fun p => ext p + if (p : Int) = next then 1 else 0) ∧ M1.log = M.log ∧ M1.pool.size = M.pool.size ∧ (∀ p, M1.live p = M.live p) ∧ (∀ p, M1.pool.cnt p = 0 → M.pool.cnt p = 0 ∧ (p : Int) ≠ next) := by
    rcases hn with rfl | ⟨hh, hc⟩
    · exact ⟨M, rfl, exact_congr h (fun p _ => by rw [if_neg (by omega)]; rfl), rfl, rfl, fun _ => rfl, fun p hp => ⟨hp, by omega⟩⟩
    · obtain ⟨h0, hl⟩ := heldB_int hh
      obtain ⟨k, rfl⟩ := Int.eq_ofNat_of_zero_le h0
      simp only [Int.toNat_natCast] at hl hc
      obtain ⟨e1, e2, e3⟩ := holdE_ok h hl hc
      refine ⟨_, by rw [if_neg (by omega)]; exact e1, exact_congr e2 (fun p _ => ?_), rfl, rfl, e3, fun p hp => ?_⟩
      · unfold incE
        by_cases e : p = k
        · subst e; simp
        · rw [if_neg e, if_neg (by omega)]; rfl
      · have hp' : (if p = k then M.pool.cnt k + 1 else M.pool.cnt p) = 0 := hp
        split at hp'
        · omega
        · exact ⟨hp', by omega⟩
  obtain ⟨M1, e1, E1, hlog, hsz, hlv, hlo⟩ := h1
  have hs : M.swap old next = if old = -1 then (M1, 0) else M1.drop old := by
    unfold SM.swap
    rw [e1]
    dsimp only
    rw [if_pos rfl]
  rw [hs]
  rcases ho with rfl | ⟨hh, he⟩
  · rw [if_pos rfl]
    exact ⟨rfl, exact_congr E1 (fun p _ => by unfold swapE; rw [if_neg (show ¬ (p : Int) = -1 by omega)]; rfl), hlog, hsz, fun p hp => by rw [← hlv]; exact hp, fun p _ hc => hlo p hc⟩
  · obtain ⟨h0, hl⟩ := heldB_int hh
    obtain ⟨k, rfl⟩ := Int.eq_ofNat_of_zero_le h0
    simp only [Int.toNat_natCast] at hl he
    rw [if_neg (by omega)]
    obtain ⟨r1, D⟩ := drop_ok E1 (i := k) (by rw [hlv]; exact hl) (by omega)
    refine ⟨r1, exact_congr D.exact (fun p _ => ?_), D.log.trans hlog, D.size.trans hsz, fun p hp => by rw [← hlv]; exact D.live p hp, fun p hp hc => hlo p (D.loose p hp hc)⟩
    unfold decE swapE
    by_cases e : p = k
    · subst e; rw [if_pos rfl, if_pos rfl]
    · rw [if_neg e, if_neg (show ¬ (p : Int) = (k : Int) by omega)]; rfl
end Go.Proofs.YtidlchciehdefaaGreat
/-
  Trees (package tree): the root over a node's entries: the walk.
-/
namespace Go.Proofs.YtidlchciehdefaaGreat
open Go.RowKit
set_option maxRecDepth 100000

set_option maxHeartbeats 4000000 in
theorem treeTop {w : World} {A : SA} {M : SM} (h : StoreAt w A M) {n : NM} {sv : Value} (hv : EntsOff w A sv n.ents) (hfew : M.log.length + 4 < 100000000) :
    Calls Tryz.prog 112 #[.agg #[.pointer (some ⟨A.sb, 0, none⟩)], .agg (nodeCells n sv).toArray] w fun e w' => ∃ A', e = .returned (.tuple #[.int .i64 (M.top n).2.1, .int .i64 (M.top n).2.2]) ∧ StoreTo A A' (M.top n).1 w w' := by
  obtain ⟨cs, hcs⟩ : ∃ cs, nodeCells n sv = cs := ⟨_, rfl⟩
  obtain ⟨w1, hw1⟩ : ∃ w1, w.alloc (.cells #[.pointer (some ⟨A.sb, 0, none⟩)] 26) = w1 := ⟨_, rfl⟩
  obtain ⟨w2, hw2⟩ : ∃ w2, w1.alloc (.cells cs.toArray 115) = w2 := ⟨_, rfl⟩
  have k1 : Kept (fun _ => False) w w1 := by rw [← hw1]; exact (Kept.refl _ _).alloc _
  have k2 : Kept (fun _ => False) w1 w2 := by rw [← hw2]; exact (Kept.refl _ _).alloc _
  have s1 : w1.heap.size = w.heap.size + 1 := by rw [← hw1]; simp
  have s2 : w2.heap.size = w.heap.size + 2 := by rw [← hw2]; simp [s1]
  have t1 : w1.heap[w.heap.size]? = some (.cells #[.pointer (some ⟨A.sb, 0, none⟩)] 26 (0, 0)) := by rw [← hw1]; exact heap_alloc_new _ _
  have t2 := k2.get t1 id
  have b2 : w2.heap[w.heap.size + 1]? = some (.cells cs.toArray 115 (0, 0)) := by rw [← hw2, ← s1]; exact heap_alloc_new _ _
  have st2 : Safe w2 A w.heap.size := Safe.new h (Nat.le_refl _) (by omega)
  have hT2 := Lib.hid ((StoreTo.refl h).fresh (k1.trans k2))
  have hcl : Hid (cs.length = 18) := Lib.hid (by rw [← hcs]; exact nodeCells_len _ _)
  have hload : Hid (∀ j v, [Value.pointer (some ⟨A.sb, 0, none⟩)][j]? = some v → w2.cell? ⟨w.heap.size, 0 + j, none⟩ = some v) := Lib.hid (fun j v hj => by rw [Nat.zero_add, cell_of_heap t2]; simpa using hj)
  have hloadn : Hid (∀ j v, cs[j]? = some v → w2.cell? ⟨w.heap.size + 1, 0 + j, none⟩ = some v) := Lib.hid (fun j v hj => by rw [Nat.zero_add, cell_of_heap b2]; simpa using hj)
  have hsp := treeSplit (h.fresh (k1.trans k2)) (hv.fresh (k1.trans k2)) (by omega)
  rw [hcs] at hsp
  have hbd := split_bound M n
  have htop : Hid (M.top n = if (M.split n).2.2 = 0 then (if 1 < (M.split n).2.1.length then (if ((M.split n).1.split ⟨3, zeros16, (M.split n).2.1⟩).2.2 = 0 then (((M.split n).1.split ⟨3, zeros16, (M.split n).2.1⟩).1, if ((M.split n).1.split ⟨3, zeros16, (M.split n).2.1⟩).2.1.length = 0 then -1 else (((M.split n).1.split ⟨3, zeros16, (M.split n).2.1⟩).2.1.getD 0 (0, 0)).2, 0) else (((M.split n).1.split ⟨3, zeros16, (M.split n).2.1⟩).1, -1, ((M.split n).1.split ⟨3, zeros16, (M.split n).2.1⟩).2.2)) else ((M.split n).1, if (M.split n).2.1.length = 0 then -1 else ((M.split n).2.1.getD 0 (0, 0)).2, 0)) else ((M.split n).1, -1, (M.split n).2.2)) := Lib.hid rfl
  obtain ⟨R, hR⟩ : ∃ R, M.split n = R := ⟨_, rfl⟩
  rw [hR] at hsp hbd htop
  obtain ⟨M1, out, er⟩ := R
  dsimp only at hsp hbd htop
  have hsp' := Lib.hid hsp
  have hw1' := Lib.hid hw1
  have hw2' := Lib.hid hw2
  have s1' := Lib.hid s1
  have t2' := Lib.hid t2
  have st2' := Lib.hid st2
  obtain ⟨hbd1, hbd2⟩ := hbd
  rw [hcs]
  clear hcs hw1 hw2 k1 k2 s1 s2 t1 t2 b2 st2 h hv hsp hR
  go_enter Tryz.func112, Tryz.ntmps112
  go_wp2_with (first | (refine wpList_box_named 26 rfl rfl _ rfl hw1'.out ?_) | (refine wpList_box_named 115 rfl rfl _ rfl hw2'.out ?_; rw [s1'.out]) | (refine wpList_load_agg 26 rfl rfl rfl _ Tryz.underlying26 rfl [.pointer (some ⟨A.sb, 0, none⟩)] (by kernel_rfl) hload.out ?_) | (refine wpList_load_agg 115 rfl rfl rfl _ Tryz.underlying115 rfl cs (by rw [hcl.out]; exact node_size) hloadn.out ?_))
  refine hsp'.out.mono ?_
  rintro e w3 ⟨A3, v, rfl, hT3, hO3⟩
  obtain ⟨Av, cap, rfl, hf1, hf2⟩ := hO3.ents.at_.form
  unfold maxLen at hf2
  have t3 := Lib.hid (hT3.get t2'.out st2'.out)
  have st3 := Lib.hid (st2'.out.to hT3)
  have hsb3 := hT3.sb
  have hTT := Lib.hid (hT2.out.trans hT3)
  have hO3' := Lib.hid hO3
  clear hT3 hO3
  by_cases h0 : er = 0
  · subst h0
    rw [if_pos rfl] at htop
    by_cases hl : 1 < out.length
    · rw [if_pos hl] at htop
      have hsp2 := treeSplit hTT.out.store (n := ⟨3, zeros16, out⟩) hO3'.out.ents (by omega)
      have hs2 := Lib.hid hsp2
      have hload3 : Hid (∀ j v, [Value.pointer (some ⟨A.sb, 0, none⟩)][j]? = some v → w3.cell? ⟨w.heap.size, 0 + j, none⟩ = some v) := Lib.hid (fun j v hj => by rw [Nat.zero_add, cell_of_heap t3.out]; simpa using hj)
      obtain ⟨R, hR⟩ : ∃ R, M1.split ⟨3, zeros16, out⟩ = R := ⟨_, rfl⟩
      rw [hR] at hs2 htop
      obtain ⟨M2, out2, er2⟩ := R
      dsimp only at hs2 htop
      have hlb : decide ((1 : Int) < (out.length : Int)) = true := by rw [decide_eq_true_eq]; omega
      rw [hsb3] at hs2
      clear hsp2 hR
      go_wp2_with (first | (refine wpList_load_agg 26 rfl rfl rfl _ Tryz.underlying26 rfl [.pointer (some ⟨A.sb, 0, none⟩)] (by kernel_rfl) hload3.out ?_) | (refine wpList_exec rfl (exec_build 115 #[(0, .const (.int .i64 3)), (2, .tmp 23)] _ rfl (by simp [Act.eval]) (run_build_part _ _ out _ _ _)) ?_))
      refine hs2.out.mono ?_
      rintro e w4 ⟨A4, v4, rfl, hT4, hO4⟩
      obtain ⟨Av4, cap4, rfl, hg1, hg2⟩ := hO4.ents.at_.form
      unfold maxLen at hg2
      have hTT4 := Lib.hid (hTT.out.trans hT4)
      have hO4' := Lib.hid hO4
      clear hT4 hO4
      by_cases h02 : er2 = 0
      · subst h02
        rw [if_pos rfl] at htop
        by_cases hl2 : out2.length = 0
        · rw [if_pos hl2] at htop
          have hlb2 : ((out2.length : Int) == 0) = true := by simp [hl2]
          go_wp2_with fail
          go_ret2
          exact ⟨A4, by rw [htop.out]; rfl, by rw [htop.out]; exact hTT4.out⟩
        · rw [if_neg hl2] at htop
          obtain ⟨x, hx⟩ : ∃ x, out2[0]? = some x := ⟨_, List.getElem?_eq_getElem (by omega)⟩
          obtain ⟨b, off, rfl, _, hx1, hx2⟩ := EntsAt.get hO4'.out.ents.at_ hx
          have hxd : out2.getD 0 (0, 0) = x := by simp [hx]
          rw [hxd] at htop
          rw [Nat.zero_mul, Nat.add_zero] at hx1 hx2
          have hlb2 : ((out2.length : Int) == 0) = false := by simp; exact fun e => hl2 (by simp [e])
          have hpos : 0 < out2.length := by omega
          clear hx hxd
          go_wp2_with fail
          go_ret2
          exact ⟨A4, by rw [htop.out]; rfl, by rw [htop.out]; exact hTT4.out⟩
      · rw [if_neg h02] at htop
        have h0' : ((er2 : Int) == 0) = false := by simp; omega
        go_wp2_with fail
        go_ret2
        exact ⟨A4, by rw [htop.out]; rfl, by rw [htop.out]; exact hTT4.out⟩
    · rw [if_neg hl] at htop
      have hlb : decide ((1 : Int) < (out.length : Int)) = false := by rw [decide_eq_false_iff_not]; omega
      by_cases hl2 : out.length = 0
      · rw [if_pos hl2] at htop
        have hlb2 : ((out.length : Int) == 0) = true := by simp [hl2]
        go_wp2_with fail
        go_ret2
        exact ⟨A3, by rw [htop.out]; rfl, by rw [htop.out]; exact hTT.out⟩
      · rw [if_neg hl2] at htop
        obtain ⟨x, hx⟩ : ∃ x, out[0]? = some x := ⟨_, List.getElem?_eq_getElem (by omega)⟩
        obtain ⟨b, off, rfl, _, hx1, hx2⟩ := EntsAt.get hO3'.out.ents.at_ hx
        have hxd : out.getD 0 (0, 0) = x := by simp [hx]
        rw [hxd] at htop
        rw [Nat.zero_mul, Nat.add_zero] at hx1 hx2
        have hlb2 : ((out.length : Int) == 0) = false := by simp; exact fun e => hl2 (by simp [e])
        have hpos : 0 < out.length := by omega
        clear hx hxd
        go_wp2_with fail
        go_ret2
        exact ⟨A3, by rw [htop.out]; rfl, by rw [htop.out]; exact hTT.out⟩
  · rw [if_neg h0] at htop
    have h0' : ((er : Int) == 0) = false := by simp; omega
    go_wp2_with fail
    go_ret2
    exact ⟨A3, by rw [htop.out]; rfl, by rw [htop.out]; exact hTT.out⟩
end Go.Proofs.YtidlchciehdefaaGreat
/-
  slices.Insert at entries: a copy of entries from one block to another (or within one).
-/
namespace Go.Proofs.YtidlchciehdefaaGreat
open Go.RowKit
set_option maxRecDepth 100000

theorem run_copy_ents (w : World) (ty : TypeId) (g o dLen dCap : Nat) (a : Addr) (sLen sCap : Nat) (cur : Array Value) (t : TypeId) (cs : List Value) (m : Nat)
    (hg : w.heap[g]? = some (.cells cur t (0, 0))) (hm : m = Nat.min sLen dLen) (hn : cs.length = m * 2)
    (hsrc : ∀ j v, cs[j]? = some v → w.cell? (a.add j) = some v) (hfit : o + cs.length ≤ cur.size) (h1 : ∀ v ∈ cs, v.oneCell' = true) :
    (Builtin.copy_ #[94, 94] ty #[.slice (some ⟨g, o, none⟩) dLen dCap, .slice (some a) sLen sCap]).run Tryz.prog w =
      .ok (goInt m) (w.setRow g (cur.toList.take o ++ cs ++ cur.toList.drop (o + cs.length)).toArray) := by
  have hl := run_loadCells_list (P := Tryz.prog) w a cs hsrc
  have hst := run_storeCells_at Tryz.prog g o t cs 0 cur w hg (by simpa using hfit) h1
  obtain ⟨i, z, hq, _, hi, _⟩ := elemEntry.info
  simp [Builtin.copy_, run_underlying elemEntry.ht, Builtin.lenOf, Builtin.firstCells, sizeOf, typeInfo, hq, hi, ← hm, ← hn, hl, hst]
end Go.Proofs.YtidlchciehdefaaGreat
/-
  slices.Insert at entries: at the end.
-/
namespace Go.Proofs.YtidlchciehdefaaGreat
open Go.RowKit
set_option maxRecDepth 100000

theorem insertEnd {w : World} {base n cap g : Nat} {A : Option Addr} {l : List (Int × Int)} {x : Int × Int} (hown : w.ownsRow base 86 2 (.slice A n cap) n (entCells l)) (hg : w.heap[g]? = some (.cells #[.int .i64 x.1, .int .i64 x.2] 86 (0, 0))) (hbase : base ≤ w.heap.size) (hlen : n ≤ 1000) :
    Calls Tryz.prog 139 #[.slice A n cap, .int .i64 n, .slice (some ⟨g, 0, none⟩) 1 1] w fun e w' => ∃ v, e = .returned v ∧ w'.ownsRow base 86 2 v (n + 1) (entCells (l ++ [x])) ∧ Kept (fun b => (Value.slice A n cap).ownBlock = some b) w w' := by
  obtain ⟨_, _, _, hv, hc1, hc2, _⟩ := SliceAt.of_owns hown
  cases hv
  unfold maxLen at hc2
  have hown' := Lib.hid hown
  have hsrc := Lib.hid (SliceAt.block_new (size := 2) (ys := [.int .i64 x.1, .int .i64 x.2]) (m := 1) hg (by rfl) (by decide))
  have hst : Hid (entCells (l ++ [x]) = entCells l ++ [.int .i64 x.1, .int .i64 x.2]) := Lib.hid (by rw [entCells_append]; rfl)
  have hA : A = none → n = 0 ∧ cap = 0 := fun e => by
    subst e
    rcases hown.2 with ⟨h1, h2⟩ | ⟨g', c', cur, h1, _⟩
    · cases h1; exact ⟨rfl, rfl⟩
    · cases h1
  clear hown hg
  have hb : Hid (base ≤ w.heap.size) := Lib.hid hbase
  go_enter Tryz.func139, Tryz.ntmps139
  cases A with
  | none =>
    obtain ⟨rfl, rfl⟩ := hA rfl
    go_wp2_with (at_builtin; refine wpList_append_src rfl elemEntry (.tmp 23) (.tmp 24) rfl (by rfl) (by rfl) hown'.out hsrc.out (by intro c hc; simp at hc; rcases hc with rfl | rfl <;> rfl) (by omega) (by omega) hb.out ?_; intro v2 w2 hown2 hg2 hat2)
    obtain ⟨_, A2, cap2, rfl, _, _, _⟩ := SliceAt.of_owns hown2
    have hown3 := Lib.hid hown2
    have hk := Lib.hid (Kept.of_grown hg2)
    clear hown2 hg2 hat2
    go_ret
    exact ⟨_, rfl, by rw [hst.out]; exact hown3.out, hk.out⟩
  | some a =>
    obtain ⟨ab, ao, asp⟩ := a
    go_wp2_with (at_builtin; refine wpList_append_src rfl elemEntry (.tmp 23) (.tmp 24) rfl (by rfl) (by rfl) hown'.out hsrc.out (by intro c hc; simp at hc; rcases hc with rfl | rfl <;> rfl) (by omega) (by omega) hb.out ?_; intro v2 w2 hown2 hg2 hat2)
    all_goals (
      obtain ⟨_, A2, cap2, rfl, _, _, _⟩ := SliceAt.of_owns hown2
      have hown3 := Lib.hid hown2
      have hk := Lib.hid (Kept.of_grown hg2)
      clear hown2 hg2 hat2
      go_ret
      exact ⟨_, rfl, by rw [hst.out]; exact hown3.out, hk.out⟩)
end Go.Proofs.YtidlchciehdefaaGreat
/-
  slices.Insert at entries: in place: the plain part.
-/
namespace Go.Proofs.YtidlchciehdefaaGreat
open Go.RowKit
set_option maxRecDepth 100000

theorem inplace_cells {cur : List Value} {l : List (Int × Int)} {x : Int × Int} {i n cap : Nat} (hn : n = l.length) (hi : i < n) (hcap : n + 1 ≤ cap) (hcl : cur.length = cap * 2) (hcur : cur.take (n * 2) = entCells l) :
    (splice (splice cur ((i + 1) * 2) (entCells (l.drop i))) (i * 2) (entCells [x])).take ((n + 1) * 2) = entCells (l.take i ++ [x] ++ l.drop i) ∧ (splice (splice cur ((i + 1) * 2) (entCells (l.drop i))) (i * 2) (entCells [x])).length = cap * 2 := by
  have h1 : cur.take (i * 2) = entCells (l.take i) := by
    have : (cur.take (n * 2)).take (i * 2) = (entCells l).take (i * 2) := by rw [hcur]
    rw [List.take_take, Nat.min_eq_left (by omega)] at this
    rw [this, show entCells l = entCells (l.take i) ++ entCells (l.drop i) by rw [← entCells_append, List.take_append_drop], List.take_left' (by rw [entCells_len, List.length_take]; omega)]
  have hd : (entCells (l.drop i)).length = (n - i) * 2 := by rw [entCells_len, List.length_drop, hn]
  have hx : (entCells [x]).length = 2 := by rw [entCells_len]; rfl
  have ht : (entCells (l.take i)).length = i * 2 := by rw [entCells_len, List.length_take]; omega
  obtain ⟨D, hD⟩ : ∃ D, entCells (l.drop i) = D := ⟨_, rfl⟩
  obtain ⟨X, hX⟩ : ∃ X, entCells [x] = X := ⟨_, rfl⟩
  obtain ⟨T, hT⟩ : ∃ T, entCells (l.take i) = T := ⟨_, rfl⟩
  rw [entCells_append, entCells_append, hD, hX, hT]
  rw [hD] at hd; rw [hX] at hx; rw [hT] at ht h1
  obtain ⟨Y, hY⟩ : ∃ Y, (cur.drop (i * 2)).take 2 = Y := ⟨_, rfl⟩
  obtain ⟨R, hR⟩ : ∃ R, cur.drop ((i + 1) * 2 + D.length) = R := ⟨_, rfl⟩
  have hYl : Y.length = 2 := by rw [← hY, List.length_take, List.length_drop]; omega
  have hRl : R.length = cap * 2 - (n + 1) * 2 := by rw [← hR, List.length_drop]; omega
  have e1 : splice cur ((i + 1) * 2) D = T ++ (Y ++ (D ++ R)) := by
    unfold splice
    rw [hR, show (i + 1) * 2 = i * 2 + 2 by omega, List.take_add, h1, hY, List.append_assoc]
  have e2 : splice (T ++ (Y ++ (D ++ R))) (i * 2) X = T ++ (X ++ (D ++ R)) := by
    unfold splice
    rw [← ht, List.take_left, hx, ← hYl, ← List.length_append, ← List.append_assoc T Y, List.drop_left]
  rw [e1, e2]
  refine ⟨?_, by simp only [List.length_append]; omega⟩
  rw [← List.append_assoc, ← List.append_assoc]
  exact List.take_left' (by simp only [List.length_append]; omega)
end Go.Proofs.YtidlchciehdefaaGreat
