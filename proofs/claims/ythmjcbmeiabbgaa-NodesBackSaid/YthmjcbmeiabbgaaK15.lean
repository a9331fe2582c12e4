/-
  Nodes in a store: what can be reached: slices.Clone at ints.
-/
import Derived.Test.YthmjcbmeiabbgaaK05
import Derived.Test.YthmjcbmeiabbgaaK06
import Derived.Test.YthmjcbmeiabbgaaK14
import Derived.Lib.LazyBuf
import Derived.WalkArith
set_option linter.unusedVariables false
set_option linter.unusedSimpArgs false
namespace Go.Proofs.Ythmjcbmeiabbgaa
open Go.RowKit
set_option maxRecDepth 100000

theorem ints_one (l : List Int) : ∀ c ∈ l.map (Value.int .i64), c.oneCell' = true := by
  intro c hc
  obtain ⟨x, _, rfl⟩ := List.mem_map.1 hc
  rfl
set_option maxHeartbeats 4000000 in
theorem cloneInts {w : World} {v : Value} {l : List Int} (h : SliceAt w v 1 l.length (l.map (Value.int .i64))) (hn : l.length ≤ 1000) :
    Calls Try.prog 89 #[v] w fun e w' => ∃ u, e = .returned u ∧ w'.ownsRow w.heap.size 3 1 u l.length (l.map (Value.int .i64)) ∧ Kept (fun _ => False) w w' := by
  obtain ⟨hl, A, cap, rfl, hc1, hc2, hcell⟩ := id h
  have h1 := ints_one l
  cases A with
  | none =>
    have hl0 : l = [] := by
      cases l with
      | nil => rfl
      | cons x l =>
        obtain ⟨b, off, hA, _⟩ := hcell 0 (.int .i64 x) rfl
        cases hA
    subst hl0
    have hnil : ∀ w : World, (binOp .eql 22 (.slice none 0 cap) (.slice none 0 0)).run Try.prog w = .ok (.bool true) w := fun w => Go.run_eql_slice_nil w 22 3 none 0 cap Try.underlying22
    clear hcell h hl h1
    go_enter Try.func89, Try.ntmps89

    go_wp2_with (simp only [hnil])
    go_ret
    exact ⟨_, rfl, World.ownsRow_nil _ _ _ _, Kept.refl _ _⟩
  | some a =>
    obtain ⟨w1, hw1⟩ : ∃ w1, w.alloc (.cells #[] 3) = w1 := ⟨_, rfl⟩
    have k1 := Lib.hid (show Kept (fun _ => False) w w1 by rw [← hw1]; exact (Kept.refl _ _).alloc _)
    have hown : Hid (w1.ownsRow w.heap.size 3 1 (.slice (some ⟨w.heap.size, 0, none⟩) 0 0) 0 []) := Lib.hid ⟨rfl, .inr ⟨w.heap.size, 0, #[], rfl, Nat.le_refl _, by rw [← hw1]; exact heap_alloc_new _ _, Nat.le_refl _, Nat.zero_le _, rfl, rfl⟩⟩
    have hs := Lib.hid (SliceAt.fresh h k1.out)
    have h1' := Lib.hid h1
    have hsz := k1.out.size
    have hw1' := Lib.hid hw1
    have hnil : ∀ w : World, (binOp .eql 22 (.slice (some a) l.length cap) (.slice none 0 0)).run Try.prog w = .ok (.bool false) w := fun w => Go.run_eql_slice_nil w 22 3 (some a) l.length cap Try.underlying22
    clear hcell h hl h1 hw1
    go_enter Try.func89, Try.ntmps89
    go_wp2_with (first | (simp only [hnil]) | (at_builtin; rw [hw1'.out]; refine wpList_append_src rfl elemInt (.tmp 5) (.tmp 6) rfl (by rfl) (by rfl) hown.out hs.out h1'.out (by omega) (by omega) hsz ?_; intro v2 w2 hown2 hg2 hat2))
    go_ret
    refine ⟨_, rfl, by rw [Nat.zero_add, List.nil_append] at hown2; exact hown2, k1.out.grown hg2 (fun k e => .inr ?_)⟩
    have := (hown.out.lt k e).1
    omega
end Go.Proofs.Ythmjcbmeiabbgaa
/-
  Nodes in a store: what can be reached: the map of what was seen; what a round keeps.
-/
namespace Go.Proofs.Ythmjcbmeiabbgaa
open Go.RowKit Go.Maps Go.Sort
set_option maxRecDepth 100000

/-- What has a least number. -/
noncomputable def leastF (p : Nat → Prop) : Nat := by classical exact if h : ∃ f, p f then Classical.choose (least_ex h) else 0
where
  least_ex {p : Nat → Prop} (h : ∃ f, p f) : ∃ f, p f ∧ ∀ g, p g → f ≤ g := by
    obtain ⟨f, hf⟩ := h
    induction f using Nat.strongRecOn with
    | _ f ih =>
      by_cases hg : ∃ g, g < f ∧ p g
      · obtain ⟨g, hgf, hg⟩ := hg
        exact ih g hgf hg
      · exact ⟨f, hf, fun g hpg => Nat.le_of_not_lt fun hlt => hg ⟨g, hlt, hpg⟩⟩
theorem leastF_spec {p : Nat → Prop} (h : ∃ f, p f) : p (leastF p) := by
  unfold leastF
  rw [dif_pos h]
  exact (Classical.choose_spec (leastF.least_ex h)).1
theorem leastF_le {p : Nat → Prop} {f : Nat} (h : p f) : leastF p ≤ f := by
  unfold leastF
  rw [dif_pos ⟨f, h⟩]
  exact (Classical.choose_spec (leastF.least_ex ⟨f, h⟩)).2 f h

theorem least_split {p : Nat → Prop} (h : ∃ f, p f) : ∃ f, leastF p = f ∧ p f := ⟨_, rfl, leastF_spec h⟩
/-- What was seen, as a map's datum. -/
def seenD (seen : List Int) : DataW Unit := Maps.setOf (.lit (.int .i64 1)) (seen.map (Lit.int .i64))
theorem seenD_snoc (seen : List Int) (x : Int) : seenD (seen ++ [x]) = (seenD seen).put (.int .i64 x) (.lit (.int .i64 1)) := by
  unfold seenD
  rw [List.map_append]
  exact Maps.setOf_snoc _ _ _
theorem int_key (x : Int) : WideAt.IsKeyLit (.int .i64 x) := by simp [WideAt.IsKeyLit]
theorem seenD_at (x : Int) (seen : List Int) : (seenD seen).atKey (.int .i64 x) (.lit (.int .i64 0)) = .lit (.int .i64 (if x ∈ seen then 1 else 0)) := by
  have key : ∀ (l : List Int) (m : DataW Unit), IsMap m → (l.foldl (fun m x => m.put (Lit.int .i64 x) (.lit (.int .i64 1))) m).atKey (.int .i64 x) (.lit (.int .i64 0)) = if x ∈ l then .lit (.int .i64 1) else m.atKey (.int .i64 x) (.lit (.int .i64 0)) := by
    intro l
    induction l with
    | nil => intro m _; simp
    | cons y l ih =>
      intro m hm
      rw [List.foldl_cons, ih _ (hm.put _ _)]
      by_cases hl : x ∈ l
      · rw [if_pos hl, if_pos (List.mem_cons_of_mem _ hl)]
      · rw [if_neg hl]
        by_cases e : x = y
        · subst e
          rw [if_pos (List.mem_cons_self ..), atKey_put_same hm (int_key x)]
        · rw [if_neg (by simp [e, hl]), atKey_put_other (by intro h; injection h with _ h; exact e h)]
  unfold seenD Maps.setOf
  rw [List.foldl_map, key seen _ isMap_empty]
  split <;> rfl
theorem seenD_keys {w : World} {b n : Nat} {seen : List Int} {R : Value → Option (DataW Unit × List MemPlace)} (hown : w.ownsMap Try.prog 3 R b n (seenD seen)) (hn : seen.Nodup) : seen.Perm (intKeys (seenD seen)) := by
  have K : Keyed Try.prog 3 := int_keyed Try.underlying3
  obtain ⟨es, hD, hpw, _⟩ := hown.entries K
  obtain ⟨es', hD', hko⟩ := hown.keysOf
  obtain rfl : es = es' := by rw [hD] at hD'; simpa using hD'
  have hh : ∀ x, x ∈ seen ↔ has (seenD seen) (.int .i64 x) = true := fun x => by
    unfold seenD
    rw [has_setOf _ _ _ (fun y hy => by obtain ⟨z, _, rfl⟩ := List.mem_map.1 hy; exact int_key z), List.any_map, List.any_eq_true]
    constructor
    · intro h; exact ⟨x, h, by simp [Lit.sameKey]⟩
    · rintro ⟨y, hy, he⟩
      have : y = x := by simpa [Lit.sameKey] using he
      rw [← this]; exact hy
  rw [hD] at hh ⊢
  exact perm_intKeys hpw (fun p hp => by obtain ⟨v, hv⟩ := hko p hp; obtain ⟨x, _, hx, _⟩ := Maps.keyOf_i64 Try.underlying3 hv; exact ⟨x, hx⟩) hn hh

/-- What a node that can be gotten is. -/
theorem get_ok {w : World} {A : SA} {M : SM} (h : StoreAt w A M) {x : Int} (h0 : (M.get x).2 = 0) : 0 ≤ x ∧ x < 240 ∧ (M.get x).1.ents.length ≤ 6 ∧ ∀ y ∈ (M.get x).1.ents, 0 ≤ y.2 ∧ y.2 < 240 := by
  unfold SM.get at h0 ⊢
  split at h0
  · rename_i hh
    have hb := heldB_pos hh
    have hs := h.pool.hsize
    rw [if_pos hh]
    cases hn : M.nodeAt x.toNat with
    | none => rw [hn] at h0; cases h0
    | some n =>
      dsimp only
      have hok := nodeAt_ok h hn
      refine ⟨hb.1, by omega, ?_, fun y hy => ⟨(hok.entry hy).2.2.1, (hok.entry hy).2.2.2⟩⟩
      by_cases hk : n.kind = 1
      · have := hok.1
        unfold NM.rightB at this
        rw [if_pos hk] at this
        simp at this
        rw [this]; exact Nat.zero_le _
      · exact (innerOk_of hok hk).le
  · cases h0
theorem ownsMap_kept {w w' : World} {S : Nat → Prop} {k b n : Nat} {R : Value → Option (DataW Unit × List MemPlace)} {D : DataW Unit} (h : w.ownsMap Try.prog k R b n D) (kk : Kept S w w') (hb : ¬ S b) : w'.ownsMap Try.prog k R b n D := by
  obtain ⟨es, clock, h1, F, hs, hD⟩ := h
  exact ⟨es, clock, kk.get h1 hb, F, hs, hD⟩
/-- The last one is taken off. -/
theorem owns_pop {w : World} {base g n cap : Nat} {xs : List Value} {c : Value} (h : w.ownsRow base 3 1 (.slice (some ⟨g, 0, none⟩) (n + 1) cap) (n + 1) (xs ++ [c])) : w.ownsRow base 3 1 (.slice (some ⟨g, 0, none⟩) n cap) n xs := by
  have hl := h.1
  rw [List.length_append, List.length_singleton] at hl
  refine ⟨by omega, ?_⟩
  rcases h.2 with ⟨e, _⟩ | ⟨g', c', cur, e, h2, h3, h4, h5, h6, h7⟩
  · cases e
  · cases e
    refine .inr ⟨g, cap, cur, rfl, h2, h3, by omega, h5, h6, ?_⟩
    have : (cur.toList.take ((n + 1) * 1)).take (n * 1) = (xs ++ [c]).take (n * 1) := by rw [h7]
    rw [List.take_take, Nat.min_eq_left (by omega)] at this
    rw [this, Nat.mul_one, List.take_left' (by omega)]
/-- What a round of Reach finds. -/
structure ReachAt (w : World) (M : SM) (R : List Int × Nat) (mb base f : Nat) (seen next : List Int) (v : Value) (wr : World) : Prop where
  res : M.reachF f seen next = R
  inv : ReachInv seen next f
  seen_ : wr.ownsMap Try.prog 3 (plainElem Try.prog 3) mb seen.length (seenD seen)
  next_ : wr.ownsRow base 3 1 v next.length (next.map (Value.int .i64))
  wf : ∀ x ∈ next, -9223372036854775808 ≤ x ∧ x ≤ 9223372036854775807
  kept : Kept (fun _ => False) w wr
def ReachRel (w : World) (M : SM) (R : List Int × Nat) (mb base : Nat) (f : Nat) (v : Value) (wr : World) : Prop := f ≤ 2701 ∧ ∃ seen next, ReachAt w M R mb base f seen next v wr
theorem ownsRow.slice {w : World} {base e n : Nat} {v : Value} {xs : List Value} (h : w.ownsRow base e 1 v n xs) : ∃ A cap, v = .slice A n cap ∧ (0 < n → ∃ g, A = some ⟨g, 0, none⟩) ∧ n ≤ cap ∧ cap ≤ maxLen := by
  rcases h.2 with ⟨rfl, rfl⟩ | ⟨g, cap, cur, rfl, _, _, h3, h4, _⟩
  · exact ⟨none, 0, rfl, fun h => by omega, Nat.le_refl _, Nat.zero_le _⟩
  · exact ⟨_, cap, rfl, fun _ => ⟨g, rfl⟩, h3, h4⟩
end Go.Proofs.Ythmjcbmeiabbgaa
/-
  Nodes in a store: what can be reached: the walk.
-/
namespace Go.Proofs.Ythmjcbmeiabbgaa
open Go.RowKit Go.Maps
set_option maxRecDepth 100000

set_option maxHeartbeats 8000000 in
theorem reachAny {w : World} {A : SA} {M : SM} (h : StoreAt w A M) {v : Value} {l : List Int} (hv : SliceAt w v 1 l.length (l.map (Value.int .i64))) (hn : l.length ≤ 1000) (hwf : ∀ x ∈ l, -9223372036854775808 ≤ x ∧ x ≤ 9223372036854775807) :
    Calls Try.prog 67 #[.pointer (some ⟨A.sb, 0, none⟩), v] w fun e w' => ∃ u, e = .returned (.tuple #[u, .int .i64 (M.reach l).2]) ∧
      w'.ownsRow w.heap.size 3 1 u (M.reach l).1.length ((M.reach l).1.map (Value.int .i64)) ∧ Kept (fun _ => False) w w' := by
  have K : Keyed Try.prog 3 := int_keyed Try.underlying3
  obtain ⟨R, hR⟩ : ∃ R, M.reachF (1700 + l.length) [] l = R := ⟨_, rfl⟩
  have hreach : Hid (M.reach l = if R.2 = 0 then (R.1.mergeSort leB, 0) else ([], R.2)) := Lib.hid (by unfold SM.reach; rw [hR])
  obtain ⟨Z, hZ⟩ : ∃ Z, nodeCells NM.zero (.slice none 0 0) = Z := ⟨_, rfl⟩
  have hZz : Hid ((Try.prog.info? 33).map (·.zero) = some (some (.agg Z.toArray))) := Lib.hid (by rw [← hZ]; exact node_zero)
  have hZl : Hid (Z.length = 18) := Lib.hid (by rw [← hZ]; exact nodeCells_len _ _)
  obtain ⟨mb, hmb⟩ : ∃ mb, w.heap.size = mb := ⟨_, rfl⟩
  obtain ⟨w1, hw1⟩ : ∃ w1, w.alloc (.map #[] 0) = w1 := ⟨_, rfl⟩
  have k1 : Kept (fun _ => False) w w1 := by rw [← hw1]; exact (Kept.refl _ _).alloc _
  have s1 : w1.heap.size = mb + 1 := by rw [← hw1, ← hmb]; simp
  have m1 : w1.ownsMap Try.prog 3 (plainElem Try.prog 3) mb 0 (seenD []) := by rw [← hw1, ← hmb]; exact World.ownsMap_made w Try.prog 3 _
  have hcl := Lib.hid (cloneInts (SliceAt.fresh hv k1) hn)
  obtain ⟨hl, Av, capv, rfl, hcv1, hcv2, _⟩ := id hv
  have hw1' := Lib.hid hw1
  have hmb' := Lib.hid hmb
  have h' := Lib.hid h
  have k1' := Lib.hid k1
  have m1' := Lib.hid m1
  have s1' := Lib.hid s1
  have hR' := Lib.hid hR
  have hwf' := Lib.hid hwf
  have K' := Lib.hid K
  clear h hv hl hw1 hmb k1 m1 s1 hR hwf hZ K
  go_enter Try.func67, Try.ntmps67
  go_wp2_with (simp only [run_makeMap, hw1'.out, hmb'.out])
  refine hcl.out.mono ?_
  rintro e w2 ⟨u, rfl, hown2, hk2⟩
  rw [s1'.out] at hown2
  have r2 := Lib.hid (show ReachRel w M R mb (mb + 1) (1700 + l.length) u w2 from ⟨by omega, [], l, hR'.out, reach_start l, (by obtain ⟨es, clock, hb, F, hs, hD⟩ := m1'.out; exact ⟨es, clock, hk2.get hb id, F, hs, hD⟩), hown2, hwf'.out, k1'.out.trans hk2⟩)
  obtain ⟨Au, cu, rfl, _⟩ := ownsRow.slice hown2
  clear hown2 hk2
  go_wp2_with fail
  go_loopw [7] (fun v wr => ∃ f, ReachRel w M R mb (mb + 1) f v wr) (fun v wr => leastF fun f => ReachRel w M R mb (mb + 1) f v wr)
  case atStart => exact ⟨_, r2.out⟩
  case round =>
    obtain ⟨f, hf, hfb, seen, next, hat⟩ := least_split hrel
    obtain ⟨An, cn, rfl, hnz, hc1, hc2⟩ := ownsRow.slice hat.next_
    obtain ⟨f, rfl⟩ : ∃ f', f = f' + 1 := ⟨f - 1, by have := hat.inv.fuel; omega⟩
    unfold maxLen at hc2
    rcases List.eq_nil_or_concat next with rfl | ⟨rest, x, hrx⟩
    · have hres : R = (seen, 0) := by rw [← hat.res, reachF_nil]
      have hsz := World.ownsMap.size_le hat.seen_
      have hsl : seen.length ≤ 240 := by have := hat.inv.len; omega
      have hperm := seenD_keys hat.seen_ hat.inv.nodup
      have hsc := Lib.hid (sortedCall mb seen.length (seenD seen) _ wr hat.seen_ (by unfold maxLen; omega) (by omega))
      have hk := Lib.hid hat.kept
      have hkc := Lib.hid (keysCall (some mb) wr)
      have hreach' : Hid (M.reach l = (seen.mergeSort leB, 0)) := Lib.hid (by rw [hreach.out, hres, if_pos rfl])
      have hperm' := Lib.hid hperm
      clear hsz hperm hres hat hf hrel hnz
      simp only [List.length_nil]
      go_wp2_with fail
      refine hkc.out.mono ?_
      rintro e w3 ⟨rfl, rfl⟩
      go_wp2_with fail
      refine hsc.out.mono ?_
      rintro e w4 ⟨v4, ss, rfl, hS, hrow, hk4⟩
      have hs4 := hk.out.size
      go_wp2_with fail
      go_ret2
      have e1 : ss.mergeSort (fun x y => decide (x ≤ y)) = seen.mergeSort leB := mergeSort_of_perm_i (hS.trans hperm'.out.symm)
      have e2 : ss.length = (seen.mergeSort leB).length := by rw [List.length_mergeSort]; exact (hS.trans hperm'.out.symm).length_eq
      rw [e1, e2] at hrow
      exact ⟨v4, by rw [hreach'.out]; rfl, by rw [hreach'.out]; exact owns_weaken hrow (by omega), hk.out.trans hk4⟩
    · rw [List.concat_eq_append] at hrx
      subst hrx
      obtain ⟨m, hm⟩ : ∃ m, rest.length = m := ⟨_, rfl⟩
      have hlen : (rest ++ [x]).length = m + 1 := by rw [List.length_append, hm]; rfl
      obtain ⟨g, rfl⟩ := hnz (by omega)
      have hown := hat.next_
      rw [hlen, List.map_append, List.map_singleton] at hown
      have cx : wr.cell? ⟨g, m, none⟩ = some (.int .i64 x) := by
        have := hown.cells (g := g) rfl m (.int .i64 x) (by rw [List.getElem?_append_right (by rw [List.length_map]; omega), List.length_map, hm, Nat.sub_self]; rfl)
        rw [addr_add, Nat.zero_add] at this
        exact this
      have hown' := owns_pop hown
      have hres := hat.res
      rw [reachF_snoc] at hres
      have hxw := hat.wf x (List.mem_append_right _ (List.mem_singleton.2 rfl))
      have hfm : m ≤ 10000 := by have := hat.inv.fuel; rw [hlen] at this; omega
      have hwl : IntKind.i64.wrap ((m : Int) + 1 - 1) = (m : Int) := by rw [IntKind.wrap_i64]; omega
      have hm0 : (0 : Int) < (m : Int) + 1 := by omega
      have hm1 : (m : Int) < (m : Int) + 1 := by omega
      have hm2 : (m : Int) ≤ (m : Int) + 1 := by omega
      have hm3 : (m : Int) ≤ (cn : Int) := by omega
      rw [hlen] at hc1 hf ⊢
      have hkey : keyOf Try.prog 3 (.int .i64 x) = some (.int .i64 x) := keyOf_int_mk Try.underlying3 (WalkArith.wf_i64 hxw)
      obtain ⟨c, hlook, hcat, _⟩ := hat.seen_.lookup_int K'.out Try.underlying118 Try.underlying3 (Try.zeroValue3 wr) hkey
      rw [seenD_at] at hcat
      have hcx : c = if x ∈ seen then 1 else 0 := by injection hcat with h; injection h with _ h; exact h.symm
      have hat' := Lib.hid hat
      have hf' := Lib.hid hf
      have hwf2 := Lib.hid (fun y hy => hat.wf y (List.mem_append_left [x] hy))
      have hown2 := Lib.hid hown'
      have hkey' := Lib.hid hkey
      clear hat hf hrel hown hown' hnz hcat hlen hxw hkey
      by_cases hx1 : x = -1
      · rw [if_pos (.inl hx1)] at hres
        subst hx1
        have hnew := Lib.hid (show ReachRel w M R mb (mb + 1) f (.slice (some ⟨g, 0, none⟩) m cn) wr from ⟨by omega, seen, rest, hres, hat'.out.inv.skip, hat'.out.seen_, by rw [hm]; exact hown2.out, hwf2.out, hat'.out.kept⟩)
        clear hres hcx hlook
        go_wp2_with fail
        go_roundw
        case rel => exact ⟨f, hnew.out⟩
        case measure => exact Nat.lt_of_le_of_lt (leastF_le hnew.out) (by rw [hf'.out]; omega)
      · have hx1b : (x == -1) = false := by simpa using hx1
        by_cases hxs : x ∈ seen
        · rw [if_pos (.inr hxs)] at hres
          rw [if_pos hxs] at hcx
          subst hcx
          have hnew := Lib.hid (show ReachRel w M R mb (mb + 1) f (.slice (some ⟨g, 0, none⟩) m cn) wr from ⟨by omega, seen, rest, hres, hat'.out.inv.skip, hat'.out.seen_, by rw [hm]; exact hown2.out, hwf2.out, hat'.out.kept⟩)
          clear hres hxs hx1
          go_wp2_with fail
          go_roundw
          case rel => exact ⟨f, hnew.out⟩
          case measure => exact Nat.lt_of_le_of_lt (leastF_le hnew.out) (by rw [hf'.out]; omega)
        · rw [if_neg (by intro h; exact h.elim hx1 hxs)] at hres
          rw [if_neg hxs] at hcx
          subst hcx
          have hgt := get_any (h'.out.fresh hat'.out.kept) x
          have hok := fun h0 => get_ok h'.out (x := x) h0
          obtain ⟨N, hN⟩ : ∃ N, M.get x = N := ⟨_, rfl⟩
          simp only [hN] at hgt hok hres
          obtain ⟨n, er⟩ := N
          dsimp only at hgt hok hres
          have hgt' := Lib.hid hgt
          have hok' := Lib.hid hok
          have hres' := Lib.hid hres
          have hxs' := Lib.hid hxs
          clear hgt hok hres hN hxs hx1
          go_wp2_with fail
          refine hgt'.out.mono ?_
          rintro e w3 ⟨v3, rfl, hown3, hk3⟩
          obtain ⟨A3, c3, rfl, _⟩ := EntsAt.form (show EntsAt w3 v3 n.ents from SliceAt.of_owns hown3)
          obtain ⟨F, hF⟩ : ∃ F, nodeCells n (.slice A3 n.ents.length c3) = F := ⟨_, rfl⟩
          have hFl : Hid (F.length = 18) := Lib.hid (by rw [← hF]; exact nodeCells_len _ _)
          have hF1 : Hid (∀ v ∈ F, v.oneCell' = true) := Lib.hid (by rw [← hF]; exact nodeCells_one _ _ _ _)
          obtain ⟨nb, hnb⟩ : ∃ nb, w3.heap.size = nb := ⟨_, rfl⟩
          obtain ⟨w4, hw4⟩ : ∃ w4, (w3.alloc (.cells Z.toArray 33)).setRow nb F.toArray = w4 := ⟨_, rfl⟩
          have k4 : Kept (fun _ => False) w3 w4 := by rw [← hw4]; exact ((Kept.refl _ _).alloc _).setRowNew (by omega) _
          have q4 := Lib.hid (show w4.heap[nb]? = some (.cells F.toArray 33 (0, 0)) by rw [← hw4, ← hnb]; exact setRow_heap _ _ _ _ _ _ (heap_alloc_new _ _))
          have hE4 := Lib.hid (SliceAt.fresh (SliceAt.of_owns hown3) k4 : EntsAt w4 (.slice A3 n.ents.length c3) n.ents)
          have hs3 := hk3.size
          have kr4 := Lib.hid (hk3.trans k4)
          have hm4 := ownsMap_kept hat'.out.seen_ kr4.out id
          obtain ⟨c4, hlook4, hcat4, _⟩ := hm4.lookup_int K'.out Try.underlying118 Try.underlying3 (Try.zeroValue3 w4) hkey'.out
          rw [seenD_at, if_neg hxs'.out] at hcat4
          obtain rfl : c4 = 0 := by injection hcat4 with h; injection h with _ h; exact h.symm
          have hm4' := Lib.hid hm4
          have hown4 := Lib.hid (ownsRow.keptOf hown2.out kr4.out (fun _ _ => id))
          have hF' := Lib.hid hF
          have hw4' := Lib.hid hw4
          have hnb' := Lib.hid hnb
          rw [hF]
          have hsl : seen.length ≤ 240 := by have := hat'.out.inv.len; omega
          have hnbg : mb + 1 ≤ nb := by have := hat'.out.kept.size; have := hmb'.out; have := (hown2.out.lt g rfl).1; have := (hown2.out.lt g rfl).2; omega
          have hb3 := Lib.hid (fun b (hb : (Value.slice A3 n.ents.length c3).ownBlock = some b) => (hown3.lt b hb).1)
          have hmw : mb < wr.heap.size := hat'.out.seen_.lt
          clear hown3 hk3 hF k4 hw4 hnb hm4 hcat4 hlook
          by_cases h0 : er = 0
          · subst h0
            have hr0 := hres'.out
            rw [if_pos rfl] at hr0
            have hr0' := Lib.hid hr0
            obtain ⟨hx0, hx240, hn6, hpg⟩ := hok'.out rfl
            have hpg' := Lib.hid hpg
            have hval : plainElem (H := Unit) Try.prog 3 (.int .i64 1) = some (.lit (.int .i64 1), []) := plainElem_int Try.underlying3 (WalkArith.wf_i64 (by omega))
            have hval' := Lib.hid hval
            clear hr0 hpg hval
            go_wp2_with (first | (refine wpList_alloc_as 33 rfl rfl Z.toArray hZz.out ?_; rw [hnb'.out]) | (refine wpList_store_whole 33 rfl rfl rfl F rfl (by rw [hFl.out]; exact node_size) 33 _ (by rw [← hnb'.out]; exact heap_alloc_new _ _) (by simp [hFl.out, hZl.out]) hF1.out ?_; rw [hw4'.out]) | (refine wpList_mapUpdate_own w4 rfl (.tmp 45) (.tmp 46) (.tmp 48) 118 rfl 3 3 K'.out Try.underlying118 (plainElem Try.prog 3) mb seen.length (seenD seen) (by rfl) hm4'.out (by unfold maxLen; omega) (.int .i64 x) (.int .i64 1) (.int .i64 x) (by rfl) (by rfl) hkey'.out (.lit (.int .i64 1)) [] hval'.out ?_; intro w5 hm5 hg5) | (refine wpList_load_agg 33 rfl rfl rfl _ Try.underlying33 rfl F (by rw [hFl.out]; exact node_size) (fun j v hv => by rw [cell_of_heap ((Kept.of_grown hg5).get q4.out (fun e => by injection e with e; omega)), Nat.zero_add]; simpa using hv) ?_))
            have k45 := Kept.of_grown hg5
            have hE5 : EntsAt w5 (.slice A3 n.ents.length c3) n.ents := SliceAt.kept hE4.out k45 (fun b hb e => by injection e with e; have := hb3.out b hb; omega)
            have hC := children_any (n := n) hE5 (by omega)
            rw [hF'.out] at hC
            have hC' := Lib.hid hC
            clear hC
            refine hC'.out.mono ?_
            rintro e w6 ⟨u6, rfl, hown6, hk6⟩
            obtain ⟨A6, c6, rfl, _⟩ := ownsRow.slice hown6
            have hg1 := (hown2.out.lt g rfl).1
            have hown6n := Lib.hid (ownsRow.keptOf (ownsRow.keptOf hown4.out k45 (fun b hb e => by injection e with e; have := (hown4.out.lt b hb).1; omega)) hk6 (fun _ _ => id))
            have hsl6 := Lib.hid (SliceAt.of_owns hown6)
            have hone6 : Hid (∀ c ∈ pageCellsOf n.ents, c.oneCell' = true) := Lib.hid (fun c hc => by unfold pageCellsOf at hc; obtain ⟨y, _, rfl⟩ := List.mem_map.1 hc; rfl)
            have hw6 := Lib.hid ((((hat'.out.kept.trans kr4.out).grown hg5 (fun k e => .inr (by injection e with e; have := hmb'.out; omega))).trans hk6))
            have hs6 : mb + 1 ≤ w6.heap.size := by have := hw6.out.size; have := kr4.out.size; have := k45.size; have := hk6.size; omega
            have hm6 := Lib.hid (ownsMap_kept hm5 hk6 id)
            clear hown6 hk6 hE5 k45 hm5 hg5
            go_wp2_with (at_builtin; refine wpList_append_src rfl elemInt (.tmp 49) (.tmp 51) rfl (by rfl) (by rfl) hown6n.out hsl6.out hone6.out (by omega) (by omega) hs6 ?_; intro v7 w7 hown7 hg7 hat7)
            have hm7 := ownsMap_kept hm6.out (Kept.of_grown hg7) (fun e => by have := (hown6n.out.lt mb e).1; omega)
            have hnew := Lib.hid (show ReachRel w M R mb (mb + 1) f v7 w7 from ⟨by omega, seen ++ [x], rest ++ n.ents.map (·.2), hr0'.out, hat'.out.inv.more hxs'.out hx0 hx240 (by rw [List.length_map]; exact hn6),
              by rw [seenD_snoc, List.length_append]; exact hm7, by
                have e1 : (rest ++ n.ents.map (·.2)).length = m + n.ents.length := by rw [List.length_append, List.length_map, hm]
                have e2 : (rest ++ n.ents.map (·.2)).map (Value.int .i64) = rest.map (Value.int .i64) ++ pageCellsOf n.ents := by rw [List.map_append, List.map_map]; rfl
                rw [e1, e2]; exact hown7,
              fun y hy => by
                rcases List.mem_append.1 hy with hy | hy
                · exact hwf2.out y hy
                · obtain ⟨z, hz, rfl⟩ := List.mem_map.1 hy
                  have := hpg'.out z hz
                  omega,
              hw6.out.grown hg7 (fun k e => .inr (by have := (hown6n.out.lt k e).1; have := hmb'.out; omega))⟩)
            clear hown7 hg7 hat7 hm7
            go_roundw
            case rel => exact ⟨f, hnew.out⟩
            case measure => exact Nat.lt_of_le_of_lt (leastF_le hnew.out) (by rw [hf'.out]; omega)
          · have hR2 : R = ([], er) := by rw [← hres'.out, if_neg h0]
            have hreach' : Hid (M.reach l = ([], er)) := Lib.hid (by rw [hreach.out, hR2, if_neg h0])
            have h0' : ((er : Int) == 0) = false := by rw [beq_eq_false_iff_ne]; omega
            clear h0 hR2
            go_wp2_with (first | (refine wpList_alloc_as 33 rfl rfl Z.toArray hZz.out ?_; rw [hnb'.out]) | (refine wpList_store_whole 33 rfl rfl rfl F rfl (by rw [hFl.out]; exact node_size) 33 _ (by rw [← hnb'.out]; exact heap_alloc_new _ _) (by simp [hFl.out, hZl.out]) hF1.out ?_; rw [hw4'.out]))
            go_ret2
            exact ⟨_, by rw [hreach'.out]; rfl, by rw [hreach'.out]; exact World.ownsRow_nil _ _ _ _, hat'.out.kept.trans kr4.out⟩
end Go.Proofs.Ythmjcbmeiabbgaa
/-
  Trees (package tree): the page of a key.
-/
namespace Go.Proofs.Ythmjcbmeiabbgaa
open Go.RowKit
set_option maxRecDepth 100000

theorem findF_step (M : SM) (root key : Int) (d : Nat) (hd : d ≤ 8) : SM.findF (9 - d) M root key =
    if root = -1 then (-1, 0)
    else if (M.tnode root d).2 = 0 then
      (if atI (M.tnode root d).1.ents key < 0 ∨ ((M.tnode root d).1.kind = 2 ∧ ((M.tnode root d).1.ents.getD (atI (M.tnode root d).1.ents key).toNat (0, 0)).1 ≠ key) then (-1, 0)
       else if (M.tnode root d).1.kind = 2 then (((M.tnode root d).1.ents.getD (atI (M.tnode root d).1.ents key).toNat (0, 0)).2, 0) else SM.findF (9 - (d + 1)) M ((M.tnode root d).1.ents.getD (atI (M.tnode root d).1.ents key).toNat (0, 0)).2 key)
    else (-1, (M.tnode root d).2) := by
  obtain ⟨f, hf⟩ : ∃ f, 9 - d = f + 1 := ⟨8 - d, by omega⟩
  have e1 : 9 - (d + 1) = f := by omega
  have e2 : 8 - f = d := by omega
  rw [hf, e1]
  conv => lhs; unfold SM.findF
  rw [e2]
theorem atI_bound {l : List (Int × Int)} (key : Int) : -1 ≤ atI l key ∧ atI l key < l.length := by
  unfold atI
  have := List.length_filter_le (fun x : Int × Int => decide (x.1 ≤ key)) l
  omega

set_option maxHeartbeats 4000000 in
theorem treeFind {w : World} {A : SA} {M : SM} (h : StoreAt w A M) (root key : Int) :
    Calls Try.prog 22 #[.agg #[.pointer (some ⟨A.sb, 0, none⟩)], .int .i64 root, .int .i64 key] w fun e w' => e = .returned (.tuple #[.int .i64 (M.find root key).1, .int .i64 (M.find root key).2]) ∧ Kept (fun _ => False) w w' := by
  obtain ⟨w1, hw1⟩ : ∃ w1, w.alloc (.cells #[.pointer (some ⟨A.sb, 0, none⟩)] 26) = w1 := ⟨_, rfl⟩
  have k1 := Lib.hid (show Kept (fun _ => False) w w1 by rw [← hw1]; exact (Kept.refl _ _).alloc _)
  have t1 := Lib.hid (show w1.heap[w.heap.size]? = some (.cells #[.pointer (some ⟨A.sb, 0, none⟩)] 26 (0, 0)) by rw [← hw1]; exact heap_alloc_new _ _)
  have hw1' := Lib.hid hw1
  obtain ⟨Z, hZ⟩ : ∃ Z, nodeCells NM.zero (.slice none 0 0) = Z := ⟨_, rfl⟩
  have hZz : Hid ((Try.prog.info? 33).map (·.zero) = some (some (.agg Z.toArray))) := Lib.hid (by rw [← hZ]; exact node_zero)
  have hZl : Hid (Z.length = 18) := Lib.hid (by rw [← hZ]; exact nodeCells_len _ _)
  have h' := Lib.hid h
  have hnode := Lib.hid (fun (W : World) (k : Kept (fun _ => False) w W) (i : Int) (d : Nat) (hd : d ≤ 100) => treeNode (h.fresh k) i d hd)
  clear hw1 hZ h
  go_enter Try.func22, Try.ntmps22
  go_wp2_with (first | (refine wpList_box_named 26 rfl rfl _ rfl hw1'.out ?_))
  go_loopw [1, 8] (fun r x wr => ∃ (root' : Int) (d : Nat), d ≤ 8 ∧ r = .int .i64 root' ∧ x = .int .i64 d ∧ Hid (SM.findF (9 - d) M root' key = M.find root key) ∧ Hid (Kept (fun _ => False) w1 wr)) (fun _ x _ => 9 - (intOf x).toNat)
  case atStart => exact ⟨root, 0, by omega, rfl, rfl, Lib.hid rfl, Lib.hid (Kept.refl _ _)⟩
  case round =>
    obtain ⟨root', d, hd, rfl, rfl, hq, hkr⟩ := hrel
    have hstep := Lib.hid ((findF_step M root' key d hd).symm.trans hq.out)
    by_cases hr : root' = -1
    · subst hr
      have hend : Hid (M.find root key = (-1, 0)) := Lib.hid (by rw [← hstep.out, if_pos rfl])
      go_wp2_with fail
      go_ret2
      exact ⟨by rw [hend.out]; rfl, k1.out.trans hkr.out⟩
    · have hrb : (root' == -1) = false := by simpa using hr
      have hs2 := hstep.out
      rw [if_neg hr] at hs2
      have ct := cell_of_heap (hkr.out.get t1.out id) 0
      simp at ct
      have hnd := hnode.out wr (k1.out.trans hkr.out) root' d (by omega)
      have hok := Lib.hid (fun h0 => tnode_ok h'.out (i := root') (d := d) h0)
      obtain ⟨R, hR⟩ : ∃ R, M.tnode root' d = R := ⟨_, rfl⟩
      rw [hR] at hs2 hnd hok
      obtain ⟨n, er⟩ := R
      dsimp only at hs2 hnd hok
      have hnd' := Lib.hid hnd
      have hload : Hid (∀ j v, [Value.pointer (some ⟨A.sb, 0, none⟩)][j]? = some v → wr.cell? ⟨w.heap.size, 0 + j, none⟩ = some v) := Lib.hid (fun j v hj => by rw [Nat.zero_add, cell_of_heap (hkr.out.get t1.out id)]; simpa using hj)
      clear hR hnd hr
      go_wp2_with (first | (refine wpList_load_agg 26 rfl rfl rfl _ Try.underlying26 rfl [.pointer (some ⟨A.sb, 0, none⟩)] (by kernel_rfl) hload.out ?_))
      refine hnd'.out.mono ?_
      rintro e w3 ⟨v, rfl, hown, hk3⟩
      obtain ⟨Av, cap, rfl, hf1, hf2⟩ := EntsAt.form (show EntsAt w3 v n.ents from SliceAt.of_owns hown)
      unfold maxLen at hf2
      obtain ⟨F, hF⟩ : ∃ F, nodeCells n (.slice Av n.ents.length cap) = F := ⟨_, rfl⟩
      have hFl : Hid (F.length = 18) := Lib.hid (by rw [← hF]; exact nodeCells_len _ _)
      have hF1 : Hid (∀ v ∈ F, v.oneCell' = true) := Lib.hid (by rw [← hF]; exact nodeCells_one _ _ _ _)
      obtain ⟨w4, hw4⟩ : ∃ w4, (w3.alloc (.cells Z.toArray 33)).setRow w3.heap.size F.toArray = w4 := ⟨_, rfl⟩
      have k4 : Kept (fun _ => False) w3 w4 := by rw [← hw4]; exact ((Kept.refl _ _).alloc _).setRowNew (Nat.le_refl _) _
      have bx4 : NodeBox w4 w3.heap.size n (.slice Av n.ents.length cap) := ⟨by rw [hF, ← hw4]; exact setRow_heap _ _ _ _ _ _ (heap_alloc_new _ _)⟩
      have hE4 := Lib.hid (SliceAt.fresh (SliceAt.of_owns hown) k4)
      have hkr4 := Lib.hid ((hkr.out.trans hk3).trans k4)
      rw [hF]
      have bx4' := Lib.hid bx4
      have hw4' := Lib.hid hw4
      clear hown hk3 k4 hF hw4 bx4 ct
      by_cases h0 : er = 0
      · subst h0
        rw [if_pos rfl] at hs2
        obtain ⟨hin, hd8⟩ := hok.out rfl
        have hat := at_any (show EntsAt w4 (.slice Av n.ents.length cap) n.ents from hE4.out) hin.keys key (by have := hin.le; omega)
        obtain ⟨hb1, hb2⟩ := atI_bound (l := n.ents) key
        have hlen6 := hin.le
        obtain ⟨at', hat'⟩ : ∃ x, atI n.ents key = x := ⟨_, rfl⟩
        rw [hat'] at hs2 hat hb1 hb2
        have hA := Lib.hid hat
        have hs3 := Lib.hid hs2
        have hkd := Lib.hid hin.kind
        have c17 := bx4'.out.c17
        clear hat hs2 hin hat'
        go_wp2_with (first | (refine wpList_alloc_as 33 rfl rfl Z.toArray hZz.out ?_) | (refine wpList_store_whole 33 rfl rfl rfl F rfl (by rw [hFl.out]; exact node_size) 33 _ (heap_alloc_new _ _) (by simp [hFl.out, hZl.out]) hF1.out ?_; rw [hw4'.out]))
        refine hA.out.mono ?_
        rintro e w5 ⟨rfl, hk5⟩
        have bx5 := bx4'.out.kept hk5 id
        have hE5 := SliceAt.fresh hE4.out hk5
        have hk5' := Lib.hid (hkr4.out.trans hk5)
        have c0 := bx5.c0
        have c17 := bx5.c17
        clear hk5 bx5
        by_cases hneg : at' < 0
        · have hend : Hid (M.find root key = (-1, 0)) := Lib.hid (by rw [← hs3.out, if_pos (.inl hneg)])
          go_wp2_with fail
          go_ret2
          exact ⟨by rw [hend.out]; rfl, k1.out.trans hk5'.out⟩
        · obtain ⟨m, rfl⟩ := Int.eq_ofNat_of_zero_le (show 0 ≤ at' by omega)
          obtain ⟨x, hx⟩ : ∃ x, n.ents[m]? = some x := ⟨_, List.getElem?_eq_getElem (by omega)⟩
          obtain ⟨b, off, rfl, _, hx1, hx2⟩ := EntsAt.get hE5 hx
          have hxd : n.ents.getD ((m : Int)).toNat (0, 0) = x := by simp [hx]
          have hs4 := hs3.out
          rw [hxd] at hs4
          have hneg' : ((m : Int) < 0) = False := by simp
          have hm0 : (0 : Int) ≤ (m : Int) := by omega
          have hml : (m : Int) < (n.ents.length : Int) := by omega
          clear hx hxd hneg hE5
          rcases hkd.out with hk2 | hk3
          · rw [hk2] at c0 hs4
            have hk22 : Hid ((2 : Int) = 2) := Lib.hid rfl
            by_cases hkey : x.1 = key
            · have hend : Hid (M.find root key = (x.2, 0)) := Lib.hid (by rw [← hs4, if_neg (by simp [hkey]), if_pos rfl])
              have hkb : (x.1 == key) = true := by simpa using hkey
              have hkb2 : (x.1 != key) = false := by simp [hkey]
              clear hs4 hneg' hk2 hkey
              go_wp2_with fail
              go_ret2
              exact ⟨by rw [hend.out]; rfl, k1.out.trans hk5'.out⟩
            · have hend : Hid (M.find root key = (-1, 0)) := Lib.hid (by rw [← hs4, if_pos (.inr ⟨rfl, hkey⟩)])
              have hkb : (x.1 == key) = false := by simpa using hkey
              have hkb2 : (x.1 != key) = true := by simp [hkey]
              clear hs4 hneg' hk2 hkey
              go_wp2_with fail
              go_ret2
              exact ⟨by rw [hend.out]; rfl, k1.out.trans hk5'.out⟩
          · rw [hk3] at c0 hs4
            have hend : Hid (SM.findF (9 - (d + 1)) M x.2 key = M.find root key) := Lib.hid (by rw [← hs4, if_neg (by simp), if_neg (by omega)])
            clear hs4 hneg' hk3
            go_wp2_with fail
            go_roundw
            case rel => exact ⟨x.2, d + 1, by omega, rfl, by go_num, hend, hk5'⟩
            case measure => simp [intOf]; omega
      · rw [if_neg h0] at hs2
        have hend : Hid (M.find root key = (-1, er)) := Lib.hid hs2.symm
        have h0' : ((er : Int) == 0) = false := by simp; omega
        clear h0 hs2
        go_wp2_with (first | (refine wpList_alloc_as 33 rfl rfl Z.toArray hZz.out ?_) | (refine wpList_store_whole 33 rfl rfl rfl F rfl (by rw [hFl.out]; exact node_size) 33 _ (heap_alloc_new _ _) (by simp [hFl.out, hZl.out]) hF1.out ?_; rw [hw4'.out]))
        go_ret2
        exact ⟨by rw [hend.out]; rfl, k1.out.trans hkr4.out⟩
end Go.Proofs.Ythmjcbmeiabbgaa
/-
  Trees (package tree): how high one is.
-/
namespace Go.Proofs.Ythmjcbmeiabbgaa
open Go.RowKit
set_option maxRecDepth 100000

theorem heightF_step (M : SM) (root : Int) (d : Nat) (hd : d ≤ 8) : SM.heightF (9 - d) M root =
    if root = -1 then (d, 0)
    else if (M.tnode root d).2 = 0 then
      (if (M.tnode root d).1.kind = 2 then (d + 1, 0) else SM.heightF (9 - (d + 1)) M ((M.tnode root d).1.ents.getD 0 (0, 0)).2)
    else (0, (M.tnode root d).2) := by
  obtain ⟨f, hf⟩ : ∃ f, 9 - d = f + 1 := ⟨8 - d, by omega⟩
  have e1 : 9 - (d + 1) = f := by omega
  have e2 : 8 - f = d := by omega
  rw [hf, e1]
  conv => lhs; unfold SM.heightF
  rw [e2]

set_option maxHeartbeats 4000000 in
theorem treeHeight {w : World} {A : SA} {M : SM} (h : StoreAt w A M) (root : Int) :
    Calls Try.prog 21 #[.agg #[.pointer (some ⟨A.sb, 0, none⟩)], .int .i64 root] w fun e w' => e = .returned (.tuple #[.int .i64 (M.height root).1, .int .i64 (M.height root).2]) ∧ Kept (fun _ => False) w w' := by
  obtain ⟨w1, hw1⟩ : ∃ w1, w.alloc (.cells #[.pointer (some ⟨A.sb, 0, none⟩)] 26) = w1 := ⟨_, rfl⟩
  have k1 := Lib.hid (show Kept (fun _ => False) w w1 by rw [← hw1]; exact (Kept.refl _ _).alloc _)
  have t1 := Lib.hid (show w1.heap[w.heap.size]? = some (.cells #[.pointer (some ⟨A.sb, 0, none⟩)] 26 (0, 0)) by rw [← hw1]; exact heap_alloc_new _ _)
  have hw1' := Lib.hid hw1
  obtain ⟨Z, hZ⟩ : ∃ Z, nodeCells NM.zero (.slice none 0 0) = Z := ⟨_, rfl⟩
  have hZz : Hid ((Try.prog.info? 33).map (·.zero) = some (some (.agg Z.toArray))) := Lib.hid (by rw [← hZ]; exact node_zero)
  have hZl : Hid (Z.length = 18) := Lib.hid (by rw [← hZ]; exact nodeCells_len _ _)
  have h' := Lib.hid h
  have hnode := Lib.hid (fun (W : World) (k : Kept (fun _ => False) w W) (i : Int) (d : Nat) (hd : d ≤ 100) => treeNode (h.fresh k) i d hd)
  clear hw1 hZ h
  go_enter Try.func21, Try.ntmps21
  go_wp2_with (first | (refine wpList_box_named 26 rfl rfl _ rfl hw1'.out ?_))
  go_loopw [1, 6] (fun r x wr => ∃ (root' : Int) (d : Nat), d ≤ 8 ∧ r = .int .i64 root' ∧ x = .int .i64 d ∧ Hid (SM.heightF (9 - d) M root' = M.height root) ∧ Hid (Kept (fun _ => False) w1 wr)) (fun _ x _ => 9 - (intOf x).toNat)
  case atStart => exact ⟨root, 0, by omega, rfl, rfl, Lib.hid rfl, Lib.hid (Kept.refl _ _)⟩
  case round =>
    obtain ⟨root', d, hd, rfl, rfl, hq, hkr⟩ := hrel
    have hstep := Lib.hid ((heightF_step M root' d hd).symm.trans hq.out)
    by_cases hr : root' = -1
    · subst hr
      have hend : Hid (M.height root = (d, 0)) := Lib.hid (by rw [← hstep.out, if_pos rfl])
      go_wp2_with fail
      go_ret2
      exact ⟨by rw [hend.out]; rfl, k1.out.trans hkr.out⟩
    · have hrb : (root' == -1) = false := by simpa using hr
      have hs2 := hstep.out
      rw [if_neg hr] at hs2
      have ct := cell_of_heap (hkr.out.get t1.out id) 0
      simp at ct
      have hnd := hnode.out wr (k1.out.trans hkr.out) root' d (by omega)
      have hok := Lib.hid (fun h0 => tnode_ok h'.out (i := root') (d := d) h0)
      obtain ⟨R, hR⟩ : ∃ R, M.tnode root' d = R := ⟨_, rfl⟩
      rw [hR] at hs2 hnd hok
      obtain ⟨n, er⟩ := R
      dsimp only at hs2 hnd hok
      have hnd' := Lib.hid hnd
      have hload : Hid (∀ j v, [Value.pointer (some ⟨A.sb, 0, none⟩)][j]? = some v → wr.cell? ⟨w.heap.size, 0 + j, none⟩ = some v) := Lib.hid (fun j v hj => by rw [Nat.zero_add, cell_of_heap (hkr.out.get t1.out id)]; simpa using hj)
      clear hR hnd hr
      go_wp2_with (first | (refine wpList_load_agg 26 rfl rfl rfl _ Try.underlying26 rfl [.pointer (some ⟨A.sb, 0, none⟩)] (by kernel_rfl) hload.out ?_))
      refine hnd'.out.mono ?_
      rintro e w3 ⟨v, rfl, hown, hk3⟩
      obtain ⟨Av, cap, rfl, hf1, hf2⟩ := EntsAt.form (show EntsAt w3 v n.ents from SliceAt.of_owns hown)
      unfold maxLen at hf2
      obtain ⟨F, hF⟩ : ∃ F, nodeCells n (.slice Av n.ents.length cap) = F := ⟨_, rfl⟩
      have hFl : Hid (F.length = 18) := Lib.hid (by rw [← hF]; exact nodeCells_len _ _)
      have hF1 : Hid (∀ v ∈ F, v.oneCell' = true) := Lib.hid (by rw [← hF]; exact nodeCells_one _ _ _ _)
      obtain ⟨w4, hw4⟩ : ∃ w4, (w3.alloc (.cells Z.toArray 33)).setRow w3.heap.size F.toArray = w4 := ⟨_, rfl⟩
      have k4 : Kept (fun _ => False) w3 w4 := by rw [← hw4]; exact ((Kept.refl _ _).alloc _).setRowNew (Nat.le_refl _) _
      have bx4 : NodeBox w4 w3.heap.size n (.slice Av n.ents.length cap) := ⟨by rw [hF, ← hw4]; exact setRow_heap _ _ _ _ _ _ (heap_alloc_new _ _)⟩
      have hE4 := Lib.hid (SliceAt.fresh (SliceAt.of_owns hown) k4)
      have hkr4 := Lib.hid ((hkr.out.trans hk3).trans k4)
      rw [hF]
      have bx4' := Lib.hid bx4
      have hw4' := Lib.hid hw4
      clear hown hk3 k4 hF hw4 bx4 ct
      by_cases h0 : er = 0
      · subst h0
        rw [if_pos rfl] at hs2
        obtain ⟨hin, hd8⟩ := hok.out rfl
        obtain ⟨x, hx⟩ : ∃ x, n.ents[0]? = some x := ⟨_, List.getElem?_eq_getElem hin.pos⟩
        obtain ⟨b, off, rfl, _, hx1, hx2⟩ := EntsAt.get (show EntsAt w4 (.slice Av n.ents.length cap) n.ents from hE4.out) hx
        have hxd : n.ents.getD 0 (0, 0) = x := by simp [hx]
        rw [hxd] at hs2
        rw [Nat.zero_mul, Nat.add_zero] at hx1 hx2
        have hpos := hin.pos
        have hlen6 := hin.le
        have c0 := bx4'.out.c0
        have c17 := bx4'.out.c17
        have hkd := Lib.hid hin.kind
        clear hx hxd hin
        rcases hkd.out with hk2 | hk3
        · rw [hk2] at c0 hs2
          have hend : Hid (M.height root = (d + 1, 0)) := Lib.hid (by rw [← hs2, if_pos rfl])
          clear hs2 hk2
          go_wp2_with (first | (refine wpList_alloc_as 33 rfl rfl Z.toArray hZz.out ?_) | (refine wpList_store_whole 33 rfl rfl rfl F rfl (by rw [hFl.out]; exact node_size) 33 _ (heap_alloc_new _ _) (by simp [hFl.out, hZl.out]) hF1.out ?_; rw [hw4'.out]))
          go_ret2
          exact ⟨by rw [hend.out]; rfl, k1.out.trans hkr4.out⟩
        · rw [hk3] at c0 hs2
          have hend : Hid (SM.heightF (9 - (d + 1)) M x.2 = M.height root) := Lib.hid (by rw [← hs2, if_neg (by omega)])
          clear hs2 hk3
          go_wp2_with (first | (refine wpList_alloc_as 33 rfl rfl Z.toArray hZz.out ?_) | (refine wpList_store_whole 33 rfl rfl rfl F rfl (by rw [hFl.out]; exact node_size) 33 _ (heap_alloc_new _ _) (by simp [hFl.out, hZl.out]) hF1.out ?_; rw [hw4'.out]))
          go_roundw
          case rel => exact ⟨x.2, d + 1, by omega, rfl, by go_num, hend, hkr4⟩
          case measure => simp [intOf]; omega
      · rw [if_neg h0] at hs2
        have hend : Hid (M.height root = (0, er)) := Lib.hid hs2.symm
        have h0' : ((er : Int) == 0) = false := by simp; omega
        clear h0 hs2
        go_wp2_with (first | (refine wpList_alloc_as 33 rfl rfl Z.toArray hZz.out ?_) | (refine wpList_store_whole 33 rfl rfl rfl F rfl (by rw [hFl.out]; exact node_size) 33 _ (heap_alloc_new _ _) (by simp [hFl.out, hZl.out]) hF1.out ?_; rw [hw4'.out]))
        go_ret2
        exact ⟨by rw [hend.out]; rfl, k1.out.trans hkr4.out⟩
end Go.Proofs.Ythmjcbmeiabbgaa
/-
  Trees (package tree): all that is in one: how much that can be.
-/
namespace Go.Proofs.Ythmjcbmeiabbgaa
open Go.RowKit
set_option maxRecDepth 100000

def listStep (f : Nat) (M : SM) (s : List (Int × Int) × Nat) (c : Int) : List (Int × Int) × Nat := if s.2 = 0 then (if (SM.listF f M c).2 = 0 then (s.1 ++ (SM.listF f M c).1, 0) else ([], (SM.listF f M c).2)) else s
theorem listF_succ (f : Nat) (M : SM) (root : Int) : SM.listF (f + 1) M root =
    if (M.tnode root (8 - f)).2 = 0 ∧ (M.tnode root (8 - f)).1.kind ≠ 2 then ((M.tnode root (8 - f)).1.ents.map (·.2)).foldl (listStep f M) ([], 0) else ((M.tnode root (8 - f)).1.ents, (M.tnode root (8 - f)).2) := rfl
theorem listStep_bad (f : Nat) (M : SM) (l : List Int) (s : List (Int × Int) × Nat) (h : s.2 ≠ 0) : l.foldl (listStep f M) s = s := by
  induction l with
  | nil => rfl
  | cons c l ih => rw [List.foldl_cons]; unfold listStep; rw [if_neg h]; exact ih
theorem tnode_err {M : SM} {i : Int} {d : Nat} (h : (M.tnode i d).2 ≠ 0) : (M.tnode i d).1.ents = [] := by
  unfold SM.tnode at h ⊢
  by_cases hg : (M.get i).2 = 0
  · simp only [hg, if_true] at h ⊢
    split at h
    · rename_i hb; rw [if_pos hb]; rfl
    · exact absurd hg h
  · simp only [hg, if_false]; rfl
theorem listF_len {w : World} {A : SA} {M : SM} (h : StoreAt w A M) : ∀ (f : Nat) (root : Int), (SM.listF f M root).1.length ≤ 6 ^ f
  | 0, _ => by simp [SM.listF]
  | f + 1, root => by
    rw [listF_succ]
    have h6 : 6 ^ (f + 1) = 6 * 6 ^ f := by rw [Nat.pow_succ]; omega
    have hp : 0 < 6 ^ f := Nat.pow_pos (by omega)
    by_cases h0 : (M.tnode root (8 - f)).2 = 0
    · have hin := (tnode_ok h h0).1
      by_cases hk : (M.tnode root (8 - f)).1.kind ≠ 2
      · rw [if_pos ⟨h0, hk⟩]
        have : ∀ (l : List Int) (s : List (Int × Int) × Nat), (l.foldl (listStep f M) s).1.length ≤ s.1.length + l.length * 6 ^ f := by
          intro l
          induction l with
          | nil => intro s; simp
          | cons c l ih =>
            intro s
            rw [List.foldl_cons]
            have h1 := ih (listStep f M s c)
            have h2 : (listStep f M s c).1.length ≤ s.1.length + 6 ^ f := by
              have := listF_len h f c
              unfold listStep
              split
              · split
                · rw [List.length_append]; omega
                · simp
              · omega
            rw [List.length_cons, Nat.add_mul]
            omega
        have h3 := this ((M.tnode root (8 - f)).1.ents.map (·.2)) ([], 0)
        have h4 := hin.le
        rw [List.length_map] at h3
        have h5 : (M.tnode root (8 - f)).1.ents.length * 6 ^ f ≤ 6 * 6 ^ f := Nat.mul_le_mul_right _ h4
        simp at h3
        omega
      · rw [if_neg (fun e => hk e.2)]
        have := hin.le
        show (M.tnode root (8 - f)).1.ents.length ≤ _
        omega
    · rw [if_neg (fun e => h0 e.1)]
      show (M.tnode root (8 - f)).1.ents.length ≤ _
      rw [tnode_err h0]; simp
/-- One child more. -/
theorem list_next {f : Nat} {M : SM} {l : List (Int × Int)} {k : Nat} {x : Int × Int} {out : List (Int × Int)} (hp : ((l.take k).map (·.2)).foldl (listStep f M) ([], 0) = (out, 0)) (hx : l[k]? = some x) :
    ((SM.listF f M x.2).2 = 0 → ((l.take (k + 1)).map (·.2)).foldl (listStep f M) ([], 0) = (out ++ (SM.listF f M x.2).1, 0)) ∧ ((SM.listF f M x.2).2 ≠ 0 → (l.map (·.2)).foldl (listStep f M) ([], 0) = ([], (SM.listF f M x.2).2)) := by
  have h1 : (l.take (k + 1)).map (·.2) = (l.take k).map (·.2) ++ [x.2] := by rw [List.take_add_one, hx]; simp
  have h2 : l.map (·.2) = (l.take k).map (·.2) ++ ([x.2] ++ (l.drop (k + 1)).map (·.2)) := by
    obtain ⟨hk, he⟩ := List.getElem?_eq_some_iff.1 hx
    conv => lhs; rw [← List.take_append_drop k l, List.drop_eq_getElem_cons hk, he]
    simp
  refine ⟨fun h => ?_, fun h => ?_⟩
  · rw [h1, List.foldl_append, hp]
    simp [listStep, h]
  · rw [h2, List.foldl_append, hp, List.foldl_append]
    have : [x.2].foldl (listStep f M) (out, 0) = ([], (SM.listF f M x.2).2) := by simp [listStep, h]
    rw [this]
    exact listStep_bad _ _ _ _ h
end Go.Proofs.Ythmjcbmeiabbgaa
/-
  Trees (package tree): all that is in one: the walk.
-/
namespace Go.Proofs.Ythmjcbmeiabbgaa
open Go.RowKit
set_option maxRecDepth 100000

theorem listFold_len {w : World} {A : SA} {M : SM} (h : StoreAt w A M) (f : Nat) : ∀ (l : List Int) (s : List (Int × Int) × Nat), (l.foldl (listStep f M) s).1.length ≤ s.1.length + l.length * 6 ^ f := by
  intro l
  induction l with
  | nil => intro s; simp
  | cons c l ih =>
    intro s
    rw [List.foldl_cons]
    have h1 := ih (listStep f M s c)
    have h2 : (listStep f M s c).1.length ≤ s.1.length + 6 ^ f := by
      have := listF_len h f c
      unfold listStep
      split
      · split
        · rw [List.length_append]; omega
        · simp
      · omega
    rw [List.length_cons, Nat.add_mul]
    omega

set_option maxHeartbeats 4000000 in
theorem treeListF : ∀ (f : Nat), 0 < f → f ≤ 9 → ∀ {w : World} {A : SA} {M : SM} (root : Int), StoreAt w A M →
    Calls Try.prog 51 #[.agg #[.pointer (some ⟨A.sb, 0, none⟩)], .int .i64 root, .int .i64 ((9 - f : Nat) : Int)] w fun e w' => ∃ v, e = .returned (.tuple #[v, .int .i64 (SM.listF f M root).2]) ∧
      w'.ownsRow w.heap.size 35 2 v (SM.listF f M root).1.length (entCells (SM.listF f M root).1) ∧ Kept (fun _ => False) w w'
  | 0, h0, _, _, _, _, _, _ => by omega
  | f + 1, _, hf, w, A, M, root, h => by
    obtain ⟨w1, hw1⟩ : ∃ w1, w.alloc (.cells #[.pointer (some ⟨A.sb, 0, none⟩)] 26) = w1 := ⟨_, rfl⟩
    have k1 := Lib.hid (show Kept (fun _ => False) w w1 by rw [← hw1]; exact (Kept.refl _ _).alloc _)
    have t1 := Lib.hid (show w1.heap[w.heap.size]? = some (.cells #[.pointer (some ⟨A.sb, 0, none⟩)] 26 (0, 0)) by rw [← hw1]; exact heap_alloc_new _ _)
    have hw1' := Lib.hid hw1
    obtain ⟨Z, hZ⟩ : ∃ Z, nodeCells NM.zero (.slice none 0 0) = Z := ⟨_, rfl⟩
    have hZz : Hid ((Try.prog.info? 33).map (·.zero) = some (some (.agg Z.toArray))) := Lib.hid (by rw [← hZ]; exact node_zero)
    have hZl : Hid (Z.length = 18) := Lib.hid (by rw [← hZ]; exact nodeCells_len _ _)
    have h' := Lib.hid h
    obtain ⟨d, hd⟩ : ∃ d, 8 - f = d := ⟨_, rfl⟩
    have e1 : 9 - (f + 1) = d := by omega
    have hd8 : d ≤ 8 := by omega
    have hnd := treeNode (h.fresh k1.out) root d (by omega)
    have hok := Lib.hid (fun h0 => tnode_ok h'.out (i := root) (d := d) h0)
    have her := Lib.hid (tnode_err (M := M) (i := root) (d := d))
    have hL := Lib.hid (show SM.listF (f + 1) M root = _ from hd ▸ listF_succ f M root)
    obtain ⟨R, hR⟩ : ∃ R, M.tnode root d = R := ⟨_, rfl⟩
    rw [hR] at hnd hok hL her
    obtain ⟨n, er⟩ := R
    dsimp only at hnd hok hL her
    have hnd' := Lib.hid hnd
    have hload : Hid (∀ j v, [Value.pointer (some ⟨A.sb, 0, none⟩)][j]? = some v → w1.cell? ⟨w.heap.size, 0 + j, none⟩ = some v) := Lib.hid (fun j v hj => by rw [Nat.zero_add, cell_of_heap t1.out]; simpa using hj)
    have ih := Lib.hid (fun (W : World) (hW : StoreAt W A M) (hf0 : 0 < f) (i : Int) => treeListF f hf0 (by omega) i hW)
    have e2 : 0 < f → 9 - f = d + 1 := by omega
    rw [e1]
    clear hw1 hZ hR hnd h e1
    go_enter Try.func51, Try.ntmps51
    go_wp2_with (first | (refine wpList_box_named 26 rfl rfl _ rfl hw1'.out ?_) | (refine wpList_load_agg 26 rfl rfl rfl _ Try.underlying26 rfl [.pointer (some ⟨A.sb, 0, none⟩)] (by kernel_rfl) hload.out ?_))
    refine hnd'.out.mono ?_
    rintro e w3 ⟨v, rfl, hown, hk3⟩
    obtain ⟨Av, cap, rfl, hf1, hf2⟩ := EntsAt.form (show EntsAt w3 v n.ents from SliceAt.of_owns hown)
    unfold maxLen at hf2
    obtain ⟨F, hF⟩ : ∃ F, nodeCells n (.slice Av n.ents.length cap) = F := ⟨_, rfl⟩
    have hFl : Hid (F.length = 18) := Lib.hid (by rw [← hF]; exact nodeCells_len _ _)
    have hF1 : Hid (∀ v ∈ F, v.oneCell' = true) := Lib.hid (by rw [← hF]; exact nodeCells_one _ _ _ _)
    obtain ⟨w4, hw4⟩ : ∃ w4, (w3.alloc (.cells Z.toArray 33)).setRow w3.heap.size F.toArray = w4 := ⟨_, rfl⟩
    have k4 : Kept (fun _ => False) w3 w4 := by rw [← hw4]; exact ((Kept.refl _ _).alloc _).setRowNew (Nat.le_refl _) _
    have bx4 : NodeBox w4 w3.heap.size n (.slice Av n.ents.length cap) := ⟨by rw [hF, ← hw4]; exact setRow_heap _ _ _ _ _ _ (heap_alloc_new _ _)⟩
    have hown4 := Lib.hid (ownsRow.keptOf hown k4 (fun _ _ => id))
    have hkr4 := Lib.hid (hk3.trans k4)
    have t4 := Lib.hid (hkr4.out.get t1.out id)
    have q4 := Lib.hid (show w4.heap[w3.heap.size]? = some (.cells F.toArray 33 (0, 0)) by rw [← hF]; exact bx4.heap)
    rw [hF]
    have bx4' := Lib.hid bx4
    have hw4' := Lib.hid hw4
    have hks := hkr4.out.size
    have hk1s := k1.out.size
    clear hown hk3 k4 hw4 bx4
    by_cases h0 : er = 0
    · subst h0
      obtain ⟨hin, hdd⟩ := hok.out rfl
      have hkd := Lib.hid hin.kind
      have hlen6 := hin.le
      have c0 := bx4'.out.c0
      have c17 := bx4'.out.c17
      rcases hkd.out with hk2 | hk3
      · have hend : Hid (SM.listF (f + 1) M root = (n.ents, 0)) := Lib.hid (by rw [hL.out, if_neg (by simp [hk2])])
        rw [hk2] at c0
        clear hk2 hin hF
        go_wp2_with (first | (refine wpList_alloc_as 33 rfl rfl Z.toArray hZz.out ?_) | (refine wpList_store_whole 33 rfl rfl rfl F rfl (by rw [hFl.out]; exact node_size) 33 _ (heap_alloc_new _ _) (by simp [hFl.out, hZl.out]) hF1.out ?_; rw [hw4'.out]))
        go_ret2
        exact ⟨_, by rw [hend.out]; rfl, by rw [hend.out]; exact owns_weaken hown4.out hk1s, k1.out.trans hkr4.out⟩
      · have hfold : Hid (SM.listF (f + 1) M root = (n.ents.map (·.2)).foldl (listStep f M) ([], 0)) := Lib.hid (by rw [hL.out, if_pos ⟨rfl, by omega⟩])
        have hf0 : 0 < f := by omega
        have hC := children_any (n := n) (SliceAt.of_owns hown4.out) (by omega)
        rw [hF] at hC
        have hC' := Lib.hid hC
        rw [hk3] at c0
        have e3 := e2 hf0
        clear hk3 hin hF hC e2
        go_wp2_with (first | (refine wpList_alloc_as 33 rfl rfl Z.toArray hZz.out ?_) | (refine wpList_store_whole 33 rfl rfl rfl F rfl (by rw [hFl.out]; exact node_size) 33 _ (heap_alloc_new _ _) (by simp [hFl.out, hZl.out]) hF1.out ?_; rw [hw4'.out]) | (refine wpList_load_agg 33 rfl rfl rfl _ Try.underlying33 rfl F (by rw [hFl.out]; exact node_size) (fun j v hv => by rw [cell_of_heap q4.out, Nat.zero_add]; simpa using hv) ?_))
        refine hC'.out.mono ?_
        rintro e w7 ⟨u7, rfl, hown7, hk7⟩
        obtain ⟨A7, cap7, rfl, hd1, hd2, hcell7⟩ := (SliceAt.of_owns hown7).cells1
        unfold maxLen at hd2
        have hcell7' := Lib.hid hcell7
        have hk47 := Lib.hid (hkr4.out.trans hk7)
        clear hk7 hown7 hcell7 hC'
        go_wp2_with fail
        go_loopw [10, 35] (fun v x wr => ∃ (k : Nat) (out : List (Int × Int)), k ≤ n.ents.length ∧ x = .int .i64 k ∧ Hid (((n.ents.take k).map (·.2)).foldl (listStep f M) ([], 0) = (out, 0)) ∧ Hid (wr.ownsRow w7.heap.size 35 2 v out.length (entCells out)) ∧ Hid (Kept (fun _ => False) w7 wr)) (fun _ x _ => n.ents.length - (intOf x).toNat)
        case atStart => exact ⟨0, [], Nat.zero_le _, rfl, Lib.hid rfl, Lib.hid (World.ownsRow_nil _ _ _ _), Lib.hid (Kept.refl _ _)⟩
        case round =>
          obtain ⟨k, out, hk, rfl, hq, hor, hkr⟩ := hrel
          obtain ⟨Ao, capo, rfl, ho1, ho2⟩ := EntsAt.form (show EntsAt wr _ out from SliceAt.of_owns hor.out)
          unfold maxLen at ho2
          by_cases hlt2 : k < n.ents.length
          · obtain ⟨x, hx⟩ : ∃ x, n.ents[k]? = some x := ⟨_, List.getElem?_eq_getElem hlt2⟩
            obtain ⟨b7, off7, rfl, hcb⟩ := hcell7'.out k (.int .i64 x.2) (by simp [pageCellsOf, hx])
            have hcb' := hkr.out.cell hcb id
            have hn1 := Lib.hid (list_next hq.out hx)
            have hkw := Lib.hid (k1.out.trans (hk47.out.trans hkr.out))
            have ct := cell_of_heap ((hk47.out.trans hkr.out).get t1.out id) 0
            simp at ct
            have hloadr : Hid (∀ j v, [Value.pointer (some ⟨A.sb, 0, none⟩)][j]? = some v → wr.cell? ⟨w.heap.size, 0 + j, none⟩ = some v) := Lib.hid (fun j v hj => by rw [Nat.zero_add, cell_of_heap ((hk47.out.trans hkr.out).get t1.out id)]; simpa using hj)
            have hh := ih.out wr (h'.out.fresh hkw.out) hf0 x.2
            rw [e3, Int.natCast_add, Int.natCast_one] at hh
            have hh' := Lib.hid hh
            have hlenx := listF_len h'.out f x.2
            have hleno := listFold_len h'.out f ((n.ents.take k).map (·.2)) ([], 0)
            rw [hq.out, List.length_map, List.length_take] at hleno
            have hpow : 6 ^ f ≤ 6 ^ 8 := Nat.pow_le_pow_right (by omega) (by omega)
            have hmul : min k n.ents.length * 6 ^ f ≤ 6 * 6 ^ 8 := Nat.mul_le_mul (by omega) hpow
            obtain ⟨R, hR⟩ : ∃ R, SM.listF f M x.2 = R := ⟨_, rfl⟩
            rw [hR] at hh' hn1 hlenx
            obtain ⟨out2, er⟩ := R
            dsimp only at hh' hn1 hlenx
            simp only [List.length_nil, Nat.zero_add] at hleno
            have hsum : out.length + out2.length ≤ 100000000 := by
              have : (6 : Nat) ^ 8 = 1679616 := by decide
              omega
            clear hcb hx hR hh hleno hlenx hmul hpow
            go_wp2_with (first | (refine wpList_load_agg 26 rfl rfl rfl _ Try.underlying26 rfl [.pointer (some ⟨A.sb, 0, none⟩)] (by kernel_rfl) hloadr.out ?_))
            refine hh'.out.mono ?_
            rintro e w8 ⟨v8, rfl, hown8, hk8⟩
            obtain ⟨A8, cap8, rfl, hp1, hp2⟩ := EntsAt.form (show EntsAt w8 v8 out2 from SliceAt.of_owns hown8)
            unfold maxLen at hp2
            have hor8 := Lib.hid (ownsRow.keptOf hor.out hk8 (fun _ _ => id))
            have hown8' := Lib.hid hown8
            have hk8' := Lib.hid (hkr.out.trans hk8)
            have hs8 := (hkr.out.trans hk8).size
            clear hown8 hk8
            by_cases h0 : er = 0
            · subst h0
              have hst := Lib.hid (hn1.out.1 rfl)
              have hone : Hid (∀ c ∈ entCells out2, c.oneCell' = true) := Lib.hid (entCells_one _)
              have hsl := Lib.hid (SliceAt.of_owns hown8'.out)
              go_wp2_with (at_builtin; refine wpList_append_src rfl elemEntry (.tmp 50) (.tmp 51) rfl (by rfl) (by rfl) hor8.out hsl.out hone.out (by omega) (by omega) hs8 ?_; intro v2 w2 hown2 hg2 hat2)
              have hk2 := Lib.hid (hk8'.out.grown hg2 (fun k e => .inr (hor8.out.lt k e).1))
              have hown2' := Lib.hid hown2
              clear hown2 hg2 hat2
              go_roundw
              case rel => exact ⟨k + 1, _, by omega, by go_num, hst, Lib.hid (by rw [List.length_append, entCells_append]; exact hown2'.out), hk2⟩
              case measure => simp [intOf]; omega
            · have h0' : ((er : Int) == 0) = false := by simp; omega
              have hend : Hid (SM.listF (f + 1) M root = ([], er)) := Lib.hid (hfold.out.trans (hn1.out.2 h0))
              clear h0
              go_wp2_with fail
              go_ret2
              exact ⟨_, by rw [hend.out]; rfl, by rw [hend.out]; exact World.ownsRow_nil _ _ _ _, k1.out.trans (hk47.out.trans hk8'.out)⟩
          · obtain rfl : k = n.ents.length := by omega
            have hend : Hid (SM.listF (f + 1) M root = (out, 0)) := Lib.hid (by have := hq.out; rw [List.take_length] at this; exact hfold.out.trans this)
            go_wp2_with fail
            go_ret2
            exact ⟨_, by rw [hend.out]; rfl, by rw [hend.out]; exact owns_weaken hor.out (k1.out.trans hk47.out).size, k1.out.trans (hk47.out.trans hkr.out)⟩
    · have hnil := her.out h0
      have hend : Hid (SM.listF (f + 1) M root = (n.ents, er)) := Lib.hid (by rw [hL.out, if_neg (fun e => h0 e.1)])
      have h0' : ((er : Int) == 0) = false := by simp; omega
      have c17 := bx4'.out.c17
      clear hnil hF
      go_wp2_with (first | (refine wpList_alloc_as 33 rfl rfl Z.toArray hZz.out ?_) | (refine wpList_store_whole 33 rfl rfl rfl F rfl (by rw [hFl.out]; exact node_size) 33 _ (heap_alloc_new _ _) (by simp [hFl.out, hZl.out]) hF1.out ?_; rw [hw4'.out]))
      go_ret2
      exact ⟨_, by rw [hend.out]; rfl, by rw [hend.out]; exact owns_weaken hown4.out hk1s, k1.out.trans hkr4.out⟩
end Go.Proofs.Ythmjcbmeiabbgaa
/-
  Trees (package tree): List.
-/
namespace Go.Proofs.Ythmjcbmeiabbgaa
open Go.RowKit
set_option maxRecDepth 100000

theorem treeList {w : World} {A : SA} {M : SM} (h : StoreAt w A M) (root : Int) :
    Calls Try.prog 19 #[.agg #[.pointer (some ⟨A.sb, 0, none⟩)], .int .i64 root] w fun e w' => ∃ v, e = .returned (.tuple #[v, .int .i64 (M.list root).2]) ∧
      w'.ownsRow w.heap.size 35 2 v (M.list root).1.length (entCells (M.list root).1) ∧ Kept (fun _ => False) w w' := by
  obtain ⟨w1, hw1⟩ : ∃ w1, w.alloc (.cells #[.pointer (some ⟨A.sb, 0, none⟩)] 26) = w1 := ⟨_, rfl⟩
  have k1 := Lib.hid (show Kept (fun _ => False) w w1 by rw [← hw1]; exact (Kept.refl _ _).alloc _)
  have t1 := Lib.hid (show w1.heap[w.heap.size]? = some (.cells #[.pointer (some ⟨A.sb, 0, none⟩)] 26 (0, 0)) by rw [← hw1]; exact heap_alloc_new _ _)
  have hw1' := Lib.hid hw1
  have hload : Hid (∀ j v, [Value.pointer (some ⟨A.sb, 0, none⟩)][j]? = some v → w1.cell? ⟨w.heap.size, 0 + j, none⟩ = some v) := Lib.hid (fun j v hj => by rw [Nat.zero_add, cell_of_heap t1.out]; simpa using hj)
  have hl := Lib.hid (treeListF 9 (by omega) (by omega) root (h.fresh k1.out))
  clear hw1 h
  by_cases hr : root = -1
  · subst hr
    have hend : Hid (M.list (-1) = ([], 0)) := Lib.hid (by unfold SM.list; rw [if_pos rfl])
    go_enter Try.func19, Try.ntmps19
    go_wp2_with (first | (refine wpList_box_named 26 rfl rfl _ rfl hw1'.out ?_))
    go_ret2
    exact ⟨_, by rw [hend.out]; rfl, by rw [hend.out]; exact World.ownsRow_nil _ _ _ _, k1.out⟩
  · have hend : Hid (M.list root = SM.listF 9 M root) := Lib.hid (by unfold SM.list; rw [if_neg hr])
    have hrb : (root == -1) = false := by simpa using hr
    clear hr
    go_enter Try.func19, Try.ntmps19
    go_wp2_with (first | (refine wpList_box_named 26 rfl rfl _ rfl hw1'.out ?_) | (refine wpList_load_agg 26 rfl rfl rfl _ Try.underlying26 rfl [.pointer (some ⟨A.sb, 0, none⟩)] (by kernel_rfl) hload.out ?_))
    refine hl.out.mono ?_
    rintro e w3 ⟨v, rfl, hown, hk3⟩
    obtain ⟨Av, cap, rfl, _, _⟩ := EntsAt.form (show EntsAt w3 v _ from SliceAt.of_owns hown)
    have hown' := Lib.hid (owns_weaken hown k1.out.size)
    have hk3' := Lib.hid (k1.out.trans hk3)
    clear hown hk3
    go_wp2_with fail
    go_ret2
    exact ⟨_, by rw [hend.out]; rfl, by rw [hend.out]; exact hown'.out, hk3'.out⟩
end Go.Proofs.Ythmjcbmeiabbgaa
/-
  Trees (package tree): the root over a node's entries.
-/
namespace Go.Proofs.Ythmjcbmeiabbgaa
open Go.RowKit
set_option maxRecDepth 100000

theorem makes_bound (kind : Int) : ∀ (ps : List (List (Int × Int))) (M : SM) (out : List (Int × Int)), (SM.makes kind ps M out).1.log.length ≤ M.log.length + ps.length ∧ (SM.makes kind ps M out).2.1.length ≤ out.length + ps.length
  | [], M, out => ⟨Nat.le_refl _, Nat.le_refl _⟩
  | p :: ps, M, out => by
    rw [makes_cons]
    have hm := make_log M ⟨kind, zeros16, p⟩
    split
    · have := makes_bound kind ps (M.make ⟨kind, zeros16, p⟩).1 (out ++ [((p.getD 0 (0, 0)).1, (M.make ⟨kind, zeros16, p⟩).2.1)])
      rw [List.length_append] at this
      simp only [List.length_cons, List.length_nil] at *
      omega
    · simp only [List.length_cons, List.length_nil]
      omega
theorem split_bound (M : SM) (n : NM) : (M.split n).1.log.length ≤ M.log.length + 2 ∧ (M.split n).2.1.length ≤ 2 := by
  unfold SM.split
  split
  · simp
  · have h1 := makes_bound n.kind (partsOf n.ents) M []
    have h2 : (partsOf n.ents).length ≤ 2 := by unfold partsOf; split <;> (try split) <;> simp
    simp only [List.length_nil] at h1
    omega
theorem top_bound (M : SM) (n : NM) : (M.top n).1.log.length ≤ M.log.length + 4 := by
  unfold SM.top
  have h1 := split_bound M n
  have h2 := split_bound (M.split n).1 ⟨3, List.replicate 16 0, (M.split n).2.1⟩
  dsimp only
  split
  · split
    · split <;> (dsimp only; omega)
    · dsimp only; omega
  · dsimp only; omega
end Go.Proofs.Ythmjcbmeiabbgaa
/-
  Trees (package tree): the root over a node's entries: the walk.
-/
namespace Go.Proofs.Ythmjcbmeiabbgaa
open Go.RowKit
set_option maxRecDepth 100000

set_option maxHeartbeats 4000000 in
theorem treeTop {w : World} {A : SA} {M : SM} (h : StoreAt w A M) {n : NM} {sv : Value} (hv : EntsOff w A sv n.ents) (hfew : M.log.length + 4 < 100000000) :
    Calls Try.prog 52 #[.agg #[.pointer (some ⟨A.sb, 0, none⟩)], .agg (nodeCells n sv).toArray] w fun e w' => ∃ A', e = .returned (.tuple #[.int .i64 (M.top n).2.1, .int .i64 (M.top n).2.2]) ∧ StoreTo A A' (M.top n).1 w w' := by
  obtain ⟨cs, hcs⟩ : ∃ cs, nodeCells n sv = cs := ⟨_, rfl⟩
  obtain ⟨w1, hw1⟩ : ∃ w1, w.alloc (.cells #[.pointer (some ⟨A.sb, 0, none⟩)] 26) = w1 := ⟨_, rfl⟩
  obtain ⟨w2, hw2⟩ : ∃ w2, w1.alloc (.cells cs.toArray 33) = w2 := ⟨_, rfl⟩
  have k1 : Kept (fun _ => False) w w1 := by rw [← hw1]; exact (Kept.refl _ _).alloc _
  have k2 : Kept (fun _ => False) w1 w2 := by rw [← hw2]; exact (Kept.refl _ _).alloc _
  have s1 : w1.heap.size = w.heap.size + 1 := by rw [← hw1]; simp
  have s2 : w2.heap.size = w.heap.size + 2 := by rw [← hw2]; simp [s1]
  have t1 : w1.heap[w.heap.size]? = some (.cells #[.pointer (some ⟨A.sb, 0, none⟩)] 26 (0, 0)) := by rw [← hw1]; exact heap_alloc_new _ _
  have t2 := k2.get t1 id
  have b2 : w2.heap[w.heap.size + 1]? = some (.cells cs.toArray 33 (0, 0)) := by rw [← hw2, ← s1]; exact heap_alloc_new _ _
  have st2 : Safe w2 A w.heap.size := Safe.new h (Nat.le_refl _) (by omega)
  have hT2 := Lib.hid ((StoreTo.refl h).fresh (k1.trans k2))
  have hcl : Hid (cs.length = 18) := Lib.hid (by rw [← hcs]; exact nodeCells_len _ _)
  have hload : Hid (∀ j v, [Value.pointer (some ⟨A.sb, 0, none⟩)][j]? = some v → w2.cell? ⟨w.heap.size, 0 + j, none⟩ = some v) := Lib.hid (fun j v hj => by rw [Nat.zero_add, cell_of_heap t2]; simpa using hj)
  have hloadn : Hid (∀ j v, cs[j]? = some v → w2.cell? ⟨w.heap.size + 1, 0 + j, none⟩ = some v) := Lib.hid (fun j v hj => by rw [Nat.zero_add, cell_of_heap b2]; simpa using hj)
  have hsp := treeSplit (h.fresh (k1.trans k2)) (hv.fresh (k1.trans k2)) (by omega)
  rw [hcs] at hsp
  have hbd := split_bound M n
  have htop : Hid (M.top n = if (M.split n).2.2 = 0 then (if 1 < (M.split n).2.1.length then (if ((M.split n).1.split ⟨3, zeros16, (M.split n).2.1⟩).2.2 = 0 then (((M.split n).1.split ⟨3, zeros16, (M.split n).2.1⟩).1, if ((M.split n).1.split ⟨3, zeros16, (M.split n).2.1⟩).2.1.length = 0 then -1 else (((M.split n).1.split ⟨3, zeros16, (M.split n).2.1⟩).2.1.getD 0 (0, 0)).2, 0) else (((M.split n).1.split ⟨3, zeros16, (M.split n).2.1⟩).1, -1, ((M.split n).1.split ⟨3, zeros16, (M.split n).2.1⟩).2.2)) else ((M.split n).1, if (M.split n).2.1.length = 0 then -1 else ((M.split n).2.1.getD 0 (0, 0)).2, 0)) else ((M.split n).1, -1, (M.split n).2.2)) := Lib.hid rfl
  obtain ⟨R, hR⟩ : ∃ R, M.split n = R := ⟨_, rfl⟩
  rw [hR] at hsp hbd htop
  obtain ⟨M1, out, er⟩ := R
  dsimp only at hsp hbd htop
  have hsp' := Lib.hid hsp
  have hw1' := Lib.hid hw1
  have hw2' := Lib.hid hw2
  have s1' := Lib.hid s1
  have t2' := Lib.hid t2
  have st2' := Lib.hid st2
  obtain ⟨hbd1, hbd2⟩ := hbd
  rw [hcs]
  clear hcs hw1 hw2 k1 k2 s1 s2 t1 t2 b2 st2 h hv hsp hR
  go_enter Try.func52, Try.ntmps52
  go_wp2_with (first | (refine wpList_box_named 26 rfl rfl _ rfl hw1'.out ?_) | (refine wpList_box_named 33 rfl rfl _ rfl hw2'.out ?_; rw [s1'.out]) | (refine wpList_load_agg 26 rfl rfl rfl _ Try.underlying26 rfl [.pointer (some ⟨A.sb, 0, none⟩)] (by kernel_rfl) hload.out ?_) | (refine wpList_load_agg 33 rfl rfl rfl _ Try.underlying33 rfl cs (by rw [hcl.out]; exact node_size) hloadn.out ?_))
  refine hsp'.out.mono ?_
  rintro e w3 ⟨A3, v, rfl, hT3, hO3⟩
  obtain ⟨Av, cap, rfl, hf1, hf2⟩ := hO3.ents.at_.form
  unfold maxLen at hf2
  have t3 := Lib.hid (hT3.get t2'.out st2'.out)
  have st3 := Lib.hid (st2'.out.to hT3)
  have hsb3 := hT3.sb
  have hTT := Lib.hid (hT2.out.trans hT3)
  have hO3' := Lib.hid hO3
  clear hT3 hO3
  by_cases h0 : er = 0
  · subst h0
    rw [if_pos rfl] at htop
    by_cases hl : 1 < out.length
    · rw [if_pos hl] at htop
      have hsp2 := treeSplit hTT.out.store (n := ⟨3, zeros16, out⟩) hO3'.out.ents (by omega)
      have hs2 := Lib.hid hsp2
      have hload3 : Hid (∀ j v, [Value.pointer (some ⟨A.sb, 0, none⟩)][j]? = some v → w3.cell? ⟨w.heap.size, 0 + j, none⟩ = some v) := Lib.hid (fun j v hj => by rw [Nat.zero_add, cell_of_heap t3.out]; simpa using hj)
      obtain ⟨R, hR⟩ : ∃ R, M1.split ⟨3, zeros16, out⟩ = R := ⟨_, rfl⟩
      rw [hR] at hs2 htop
      obtain ⟨M2, out2, er2⟩ := R
      dsimp only at hs2 htop
      have hlb : decide ((1 : Int) < (out.length : Int)) = true := by rw [decide_eq_true_eq]; omega
      rw [hsb3] at hs2
      clear hsp2 hR
      go_wp2_with (first | (refine wpList_load_agg 26 rfl rfl rfl _ Try.underlying26 rfl [.pointer (some ⟨A.sb, 0, none⟩)] (by kernel_rfl) hload3.out ?_) | (refine wpList_exec rfl (exec_build 33 #[(0, .const (.int .i64 3)), (2, .tmp 23)] _ rfl (by simp [Act.eval]) (run_build_part _ _ out _ _ _)) ?_))
      refine hs2.out.mono ?_
      rintro e w4 ⟨A4, v4, rfl, hT4, hO4⟩
      obtain ⟨Av4, cap4, rfl, hg1, hg2⟩ := hO4.ents.at_.form
      unfold maxLen at hg2
      have hTT4 := Lib.hid (hTT.out.trans hT4)
      have hO4' := Lib.hid hO4
      clear hT4 hO4
      by_cases h02 : er2 = 0
      · subst h02
        rw [if_pos rfl] at htop
        by_cases hl2 : out2.length = 0
        · rw [if_pos hl2] at htop
          have hlb2 : ((out2.length : Int) == 0) = true := by simp [hl2]
          go_wp2_with fail
          go_ret2
          exact ⟨A4, by rw [htop.out]; rfl, by rw [htop.out]; exact hTT4.out⟩
        · rw [if_neg hl2] at htop
          obtain ⟨x, hx⟩ : ∃ x, out2[0]? = some x := ⟨_, List.getElem?_eq_getElem (by omega)⟩
          obtain ⟨b, off, rfl, _, hx1, hx2⟩ := EntsAt.get hO4'.out.ents.at_ hx
          have hxd : out2.getD 0 (0, 0) = x := by simp [hx]
          rw [hxd] at htop
          rw [Nat.zero_mul, Nat.add_zero] at hx1 hx2
          have hlb2 : ((out2.length : Int) == 0) = false := by simp; exact fun e => hl2 (by simp [e])
          have hpos : 0 < out2.length := by omega
          clear hx hxd
          go_wp2_with fail
          go_ret2
          exact ⟨A4, by rw [htop.out]; rfl, by rw [htop.out]; exact hTT4.out⟩
      · rw [if_neg h02] at htop
        have h0' : ((er2 : Int) == 0) = false := by simp; omega
        go_wp2_with fail
        go_ret2
        exact ⟨A4, by rw [htop.out]; rfl, by rw [htop.out]; exact hTT4.out⟩
    · rw [if_neg hl] at htop
      have hlb : decide ((1 : Int) < (out.length : Int)) = false := by rw [decide_eq_false_iff_not]; omega
      by_cases hl2 : out.length = 0
      · rw [if_pos hl2] at htop
        have hlb2 : ((out.length : Int) == 0) = true := by simp [hl2]
        go_wp2_with fail
        go_ret2
        exact ⟨A3, by rw [htop.out]; rfl, by rw [htop.out]; exact hTT.out⟩
      · rw [if_neg hl2] at htop
        obtain ⟨x, hx⟩ : ∃ x, out[0]? = some x := ⟨_, List.getElem?_eq_getElem (by omega)⟩
        obtain ⟨b, off, rfl, _, hx1, hx2⟩ := EntsAt.get hO3'.out.ents.at_ hx
        have hxd : out.getD 0 (0, 0) = x := by simp [hx]
        rw [hxd] at htop
        rw [Nat.zero_mul, Nat.add_zero] at hx1 hx2
        have hlb2 : ((out.length : Int) == 0) = false := by simp; exact fun e => hl2 (by simp [e])
        have hpos : 0 < out.length := by omega
        clear hx hxd
        go_wp2_with fail
        go_ret2
        exact ⟨A3, by rw [htop.out]; rfl, by rw [htop.out]; exact hTT.out⟩
  · rw [if_neg h0] at htop
    have h0' : ((er : Int) == 0) = false := by simp; omega
    go_wp2_with fail
    go_ret2
    exact ⟨A3, by rw [htop.out]; rfl, by rw [htop.out]; exact hTT.out⟩
end Go.Proofs.Ythmjcbmeiabbgaa
/-
  slices.Insert at entries: a copy of entries from one block to another (or within one).
-/
namespace Go.Proofs.Ythmjcbmeiabbgaa
open Go.RowKit
set_option maxRecDepth 100000

theorem run_copy_ents (w : World) (ty : TypeId) (g o dLen dCap : Nat) (a : Addr) (sLen sCap : Nat) (cur : Array Value) (t : TypeId) (cs : List Value) (m : Nat)
    (hg : w.heap[g]? = some (.cells cur t (0, 0))) (hm : m = Nat.min sLen dLen) (hn : cs.length = m * 2)
    (hsrc : ∀ j v, cs[j]? = some v → w.cell? (a.add j) = some v) (hfit : o + cs.length ≤ cur.size) (h1 : ∀ v ∈ cs, v.oneCell' = true) :
    (Builtin.copy_ #[31, 31] ty #[.slice (some ⟨g, o, none⟩) dLen dCap, .slice (some a) sLen sCap]).run Try.prog w =
      .ok (goInt m) (w.setRow g (cur.toList.take o ++ cs ++ cur.toList.drop (o + cs.length)).toArray) := by
  have hl := run_loadCells_list (P := Try.prog) w a cs hsrc
  have hst := run_storeCells_at Try.prog g o t cs 0 cur w hg (by simpa using hfit) h1
  obtain ⟨i, z, hq, _, hi, _⟩ := elemEntry.info
  simp [Builtin.copy_, run_underlying elemEntry.ht, Builtin.lenOf, Builtin.firstCells, sizeOf, typeInfo, hq, hi, ← hm, ← hn, hl, hst]
theorem wp_copy_ents {o : Oper} {a : Act} {w : World} {K : Act → World → Prop} {Q : Exit → Act → World → Prop} (d s : Operand)
    (ho : o.op = .call { callee := .builtin .copy, args := #[d, s], argTypes := #[31, 31] })
    {g off dLen dCap sg so sLen sCap m : Nat} (hd : a.eval d = .slice (some ⟨g, off, none⟩) dLen dCap) (hs : a.eval s = .slice (some ⟨sg, so, none⟩) sLen sCap)
    {cur cs : List Value} {t : TypeId} (hg : w.heap[g]? = some (.cells cur.toArray t (0, 0))) (hm : m = Nat.min sLen dLen) (hn : cs.length = m * 2)
    (hsrc : ∀ j v, cs[j]? = some v → w.cell? ⟨sg, so + j, none⟩ = some v) (hfit : off + cs.length ≤ cur.length) (h1 : ∀ v ∈ cs, v.oneCell' = true)
    (h : ∀ w', w'.heap[g]? = some (.cells (splice cur off cs).toArray t (0, 0)) → Kept (fun k => k = g) w w' → K (a.put o.dst (goInt m)) w') :
    o.wp Try.prog a w K Q := by
  have hrun := run_copy_ents w o.type g off dLen dCap ⟨sg, so, none⟩ sLen sCap cur.toArray t cs m hg hm hn (fun j v hj => by rw [addr_add]; exact hsrc j v hj) (by simpa using hfit) h1
  unfold Oper.wp
  simp [execOp, ho, resolve, invoke, builtin, hd, hs, hrun, Result.andThen]
  exact h _ (by simpa [splice] using setRow_heap w g _ _ t _ hg) (Kept.setRow (S := fun k => k = g) (Kept.refl _ _) rfl _)
theorem step_copy_ents {ops : Array Oper} {o : Oper} {a : Act} {w : World} {K : Act → World → Prop} {Q : Exit → Act → World → Prop} {E : Prop} (hgd : o.guard = none) (d s : Operand)
    (ho : o.op = .call { callee := .builtin .copy, args := #[d, s], argTypes := #[31, 31] })
    {g off dLen dCap sg so sLen sCap m : Nat} (hd : a.eval d = .slice (some ⟨g, off, none⟩) dLen dCap) (hs : a.eval s = .slice (some ⟨sg, so, none⟩) sLen sCap)
    {cur cs : List Value} {t : TypeId} (hg : w.heap[g]? = some (.cells cur.toArray t (0, 0))) (hm : m = Nat.min sLen dLen) (hn : cs.length = m * 2)
    (hsrc : ∀ j v, cs[j]? = some v → w.cell? ⟨sg, so + j, none⟩ = some v) (hfit : off + cs.length ≤ cur.length) (h1 : ∀ v ∈ cs, v.oneCell' = true)
    (h : ∀ w', w'.heap[g]? = some (.cells (splice cur off cs).toArray t (0, 0)) → Kept (fun k => k = g) w w' → K (a.put o.dst (goInt m)) w') :
    if Region.wanted o (yielded ops a.tmps) = true then Oper.wp Try.prog o a w K Q else E := by
  rw [if_pos (by simp [Region.wanted, hgd])]
  exact wp_copy_ents d s ho hd hs hg hm hn hsrc hfit h1 h
theorem wpList_copy_ents {ops : Array Oper} {rest : List Oper} {o : Oper} {a : Act} {w : World} {Q : Exit → Act → World → Prop} (hgd : o.guard = none) (d s : Operand)
    (ho : o.op = .call { callee := .builtin .copy, args := #[d, s], argTypes := #[31, 31] })
    {g off dLen dCap sg so sLen sCap m : Nat} (hd : a.eval d = .slice (some ⟨g, off, none⟩) dLen dCap) (hs : a.eval s = .slice (some ⟨sg, so, none⟩) sLen sCap)
    {cur cs : List Value} {t : TypeId} (hg : w.heap[g]? = some (.cells cur.toArray t (0, 0))) (hm : m = Nat.min sLen dLen) (hn : cs.length = m * 2)
    (hsrc : ∀ j v, cs[j]? = some v → w.cell? ⟨sg, so + j, none⟩ = some v) (hfit : off + cs.length ≤ cur.length) (h1 : ∀ v ∈ cs, v.oneCell' = true)
    (h : ∀ w', w'.heap[g]? = some (.cells (splice cur off cs).toArray t (0, 0)) → Kept (fun k => k = g) w w' → wpList Try.prog ops Q rest (a.put o.dst (goInt m)) w') :
    wpList Try.prog ops Q (o :: rest) a w :=
  wpList_plain hgd fun _ hK => wp_copy_ents d s ho hd hs hg hm hn hsrc hfit h1 fun w' h2 h3 => hK _ _ (h w' h2 h3)
end Go.Proofs.Ythmjcbmeiabbgaa
/-
  slices.Insert at entries: at the end.
-/
namespace Go.Proofs.Ythmjcbmeiabbgaa
open Go.RowKit
set_option maxRecDepth 100000

theorem insertEnd {w : World} {base n cap g : Nat} {A : Option Addr} {l : List (Int × Int)} {x : Int × Int} (hown : w.ownsRow base 35 2 (.slice A n cap) n (entCells l)) (hg : w.heap[g]? = some (.cells #[.int .i64 x.1, .int .i64 x.2] 35 (0, 0))) (hbase : base ≤ w.heap.size) (hlen : n ≤ 1000) :
    Calls Try.prog 74 #[.slice A n cap, .int .i64 n, .slice (some ⟨g, 0, none⟩) 1 1] w fun e w' => ∃ v, e = .returned v ∧ w'.ownsRow base 35 2 v (n + 1) (entCells (l ++ [x])) ∧ Kept (fun b => (Value.slice A n cap).ownBlock = some b) w w' := by
  obtain ⟨_, _, _, hv, hc1, hc2, _⟩ := SliceAt.of_owns hown
  cases hv
  unfold maxLen at hc2
  have hown' := Lib.hid hown
  have hsrc := Lib.hid (SliceAt.block_new (size := 2) (ys := [.int .i64 x.1, .int .i64 x.2]) (m := 1) hg (by rfl) (by decide))
  have hst : Hid (entCells (l ++ [x]) = entCells l ++ [.int .i64 x.1, .int .i64 x.2]) := Lib.hid (by rw [entCells_append]; rfl)
  have hA : A = none → n = 0 ∧ cap = 0 := fun e => by
    subst e
    rcases hown.2 with ⟨h1, h2⟩ | ⟨g', c', cur, h1, _⟩
    · cases h1; exact ⟨rfl, rfl⟩
    · cases h1
  clear hown hg
  have hb : Hid (base ≤ w.heap.size) := Lib.hid hbase
  go_enter Try.func74, Try.ntmps74
  cases A with
  | none =>
    obtain ⟨rfl, rfl⟩ := hA rfl
    go_wp2_with (at_builtin; refine wpList_append_src rfl elemEntry (.tmp 23) (.tmp 24) rfl (by rfl) (by rfl) hown'.out hsrc.out (by intro c hc; simp at hc; rcases hc with rfl | rfl <;> rfl) (by omega) (by omega) hb.out ?_; intro v2 w2 hown2 hg2 hat2)
    obtain ⟨_, A2, cap2, rfl, _, _, _⟩ := SliceAt.of_owns hown2
    have hown3 := Lib.hid hown2
    have hk := Lib.hid (Kept.of_grown hg2)
    clear hown2 hg2 hat2
    go_ret
    exact ⟨_, rfl, by rw [hst.out]; exact hown3.out, hk.out⟩
  | some a =>
    obtain ⟨ab, ao, asp⟩ := a
    go_wp2_with (at_builtin; refine wpList_append_src rfl elemEntry (.tmp 23) (.tmp 24) rfl (by rfl) (by rfl) hown'.out hsrc.out (by intro c hc; simp at hc; rcases hc with rfl | rfl <;> rfl) (by omega) (by omega) hb.out ?_; intro v2 w2 hown2 hg2 hat2)
    all_goals (
      obtain ⟨_, A2, cap2, rfl, _, _, _⟩ := SliceAt.of_owns hown2
      have hown3 := Lib.hid hown2
      have hk := Lib.hid (Kept.of_grown hg2)
      clear hown2 hg2 hat2
      go_ret
      exact ⟨_, rfl, by rw [hst.out]; exact hown3.out, hk.out⟩)
end Go.Proofs.Ythmjcbmeiabbgaa
/-
  slices.Insert at entries: in place: the plain part.
-/
namespace Go.Proofs.Ythmjcbmeiabbgaa
open Go.RowKit
set_option maxRecDepth 100000

theorem inplace_cells {cur : List Value} {l : List (Int × Int)} {x : Int × Int} {i n cap : Nat} (hn : n = l.length) (hi : i < n) (hcap : n + 1 ≤ cap) (hcl : cur.length = cap * 2) (hcur : cur.take (n * 2) = entCells l) :
    (splice (splice cur ((i + 1) * 2) (entCells (l.drop i))) (i * 2) (entCells [x])).take ((n + 1) * 2) = entCells (l.take i ++ [x] ++ l.drop i) ∧ (splice (splice cur ((i + 1) * 2) (entCells (l.drop i))) (i * 2) (entCells [x])).length = cap * 2 := by
  have h1 : cur.take (i * 2) = entCells (l.take i) := by
    have : (cur.take (n * 2)).take (i * 2) = (entCells l).take (i * 2) := by rw [hcur]
    rw [List.take_take, Nat.min_eq_left (by omega)] at this
    rw [this, show entCells l = entCells (l.take i) ++ entCells (l.drop i) by rw [← entCells_append, List.take_append_drop], List.take_left' (by rw [entCells_len, List.length_take]; omega)]
  have hd : (entCells (l.drop i)).length = (n - i) * 2 := by rw [entCells_len, List.length_drop, hn]
  have hx : (entCells [x]).length = 2 := by rw [entCells_len]; rfl
  have ht : (entCells (l.take i)).length = i * 2 := by rw [entCells_len, List.length_take]; omega
  obtain ⟨D, hD⟩ : ∃ D, entCells (l.drop i) = D := ⟨_, rfl⟩
  obtain ⟨X, hX⟩ : ∃ X, entCells [x] = X := ⟨_, rfl⟩
  obtain ⟨T, hT⟩ : ∃ T, entCells (l.take i) = T := ⟨_, rfl⟩
  rw [entCells_append, entCells_append, hD, hX, hT]
  rw [hD] at hd; rw [hX] at hx; rw [hT] at ht h1
  obtain ⟨Y, hY⟩ : ∃ Y, (cur.drop (i * 2)).take 2 = Y := ⟨_, rfl⟩
  obtain ⟨R, hR⟩ : ∃ R, cur.drop ((i + 1) * 2 + D.length) = R := ⟨_, rfl⟩
  have hYl : Y.length = 2 := by rw [← hY, List.length_take, List.length_drop]; omega
  have hRl : R.length = cap * 2 - (n + 1) * 2 := by rw [← hR, List.length_drop]; omega
  have e1 : splice cur ((i + 1) * 2) D = T ++ (Y ++ (D ++ R)) := by
    unfold splice
    rw [hR, show (i + 1) * 2 = i * 2 + 2 by omega, List.take_add, h1, hY, List.append_assoc]
  have e2 : splice (T ++ (Y ++ (D ++ R))) (i * 2) X = T ++ (X ++ (D ++ R)) := by
    unfold splice
    rw [← ht, List.take_left, hx, ← hYl, ← List.length_append, ← List.append_assoc T Y, List.drop_left]
  rw [e1, e2]
  refine ⟨?_, by simp only [List.length_append]; omega⟩
  rw [← List.append_assoc, ← List.append_assoc]
  exact List.take_left' (by simp only [List.length_append]; omega)
end Go.Proofs.Ythmjcbmeiabbgaa
