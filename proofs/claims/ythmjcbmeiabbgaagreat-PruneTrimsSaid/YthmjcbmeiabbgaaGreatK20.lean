/-
  Nodes in a store: what can be reached: slices.Clone at ints.
-/
import Derived.Test.YthmjcbmeiabbgaaGreatK12
import Derived.Test.YthmjcbmeiabbgaaGreatK16
import Derived.Test.YthmjcbmeiabbgaaGreatK17
import Derived.Test.YthmjcbmeiabbgaaGreatK18
import Derived.Test.YthmjcbmeiabbgaaGreatK19
import Derived.Lib.LazyBuf
import Derived.WalkArith
set_option linter.unusedVariables false
set_option linter.unusedSimpArgs false
namespace Go.Proofs.YthmjcbmeiabbgaaGreat
open Go.RowKit
set_option maxRecDepth 100000

theorem ints_one (l : List Int) : ∀ c ∈ l.map (Value.int .i64), c.oneCell' = true := by
  intro c hc
  obtain ⟨x, _, rfl⟩ := List.mem_map.1 hc
  rfl
set_option maxHeartbeats 4000000 in
theorem cloneInts {w : World} {v : Value} {l : List Int} (h : SliceAt w v 1 l.length (l.map (Value.int .i64))) (hn : l.length ≤ 1000) :
    Calls Tryz.prog 61 #[v] w fun e w' => ∃ u, e = .returned u ∧ w'.ownsRow w.heap.size 3 1 u l.length (l.map (Value.int .i64)) ∧ Kept (fun _ => False) w w' := by
  obtain ⟨hl, A, cap, rfl, hc1, hc2, hcell⟩ := id h
  have h1 := ints_one l
  cases A with
  | none =>
    have hl0 : l = [] := by
      cases l with
      | nil => rfl
      | cons x l =>
        obtain ⟨b, off, hA, _⟩ := hcell 0 (.int .i64 x) rfl
        cases hA
    subst hl0
    have hnil : ∀ w : World, (binOp .eql 29 (.slice none 0 cap) (.slice none 0 0)).run Tryz.prog w = .ok (.bool true) w := fun w => Go.run_eql_slice_nil w 29 3 none 0 cap Tryz.underlying29
    clear hcell h hl h1
    go_enter Tryz.func61, Tryz.ntmps61

    go_wp2_with (simp only [hnil])
    go_ret
    exact ⟨_, rfl, World.ownsRow_nil _ _ _ _, Kept.refl _ _⟩
  | some a =>
    obtain ⟨w1, hw1⟩ : ∃ w1, w.alloc (.cells #[] 3) = w1 := ⟨_, rfl⟩
    have k1 := Lib.hid (show Kept (fun _ => False) w w1 by rw [← hw1]; exact (Kept.refl _ _).alloc _)
    have hown : Hid (w1.ownsRow w.heap.size 3 1 (.slice (some ⟨w.heap.size, 0, none⟩) 0 0) 0 []) := Lib.hid ⟨rfl, .inr ⟨w.heap.size, 0, #[], rfl, Nat.le_refl _, by rw [← hw1]; exact heap_alloc_new _ _, Nat.le_refl _, Nat.zero_le _, rfl, rfl⟩⟩
    have hs := Lib.hid (SliceAt.fresh h k1.out)
    have h1' := Lib.hid h1
    have hsz := k1.out.size
    have hw1' := Lib.hid hw1
    have hnil : ∀ w : World, (binOp .eql 29 (.slice (some a) l.length cap) (.slice none 0 0)).run Tryz.prog w = .ok (.bool false) w := fun w => Go.run_eql_slice_nil w 29 3 (some a) l.length cap Tryz.underlying29
    clear hcell h hl h1 hw1
    go_enter Tryz.func61, Tryz.ntmps61
    go_wp2_with (first | (simp only [hnil]) | (at_builtin; rw [hw1'.out]; refine wpList_append_src rfl elemInt (.tmp 5) (.tmp 6) rfl (by rfl) (by rfl) hown.out hs.out h1'.out (by omega) (by omega) hsz ?_; intro v2 w2 hown2 hg2 hat2))
    go_ret
    refine ⟨_, rfl, by rw [Nat.zero_add, List.nil_append] at hown2; exact hown2, k1.out.grown hg2 (fun k e => .inr ?_)⟩
    have := (hown.out.lt k e).1
    omega
end Go.Proofs.YthmjcbmeiabbgaaGreat
/-
  Nodes in a store: what can be reached: the map of what was seen; what a round keeps.
-/
namespace Go.Proofs.YthmjcbmeiabbgaaGreat
open Go.RowKit Go.Maps Go.Sort
set_option maxRecDepth 100000

/-- What has a least number. -/
noncomputable def leastF (p : Nat → Prop) : Nat := by classical exact if h : ∃ f, p f then Classical.choose (least_ex h) else 0
where
  least_ex {p : Nat → Prop} (h : ∃ f, p f) : ∃ f, p f ∧ ∀ g, p g → f ≤ g := by
    obtain ⟨f, hf⟩ := h
    induction f using Nat.strongRecOn with
    | _ f ih =>
      by_cases hg : ∃ g, g < f ∧ p g
      · obtain ⟨g, hgf, hg⟩ := hg
        exact ih g hgf hg
      · exact ⟨f, hf, fun g hpg => Nat.le_of_not_lt fun hlt => hg ⟨g, hlt, hpg⟩⟩
theorem leastF_spec {p : Nat → Prop} (h : ∃ f, p f) : p (leastF p) := by
  unfold leastF
  rw [dif_pos h]
  exact (Classical.choose_spec (leastF.least_ex h)).1
theorem leastF_le {p : Nat → Prop} {f : Nat} (h : p f) : leastF p ≤ f := by
  unfold leastF
  rw [dif_pos ⟨f, h⟩]
  exact (Classical.choose_spec (leastF.least_ex ⟨f, h⟩)).2 f h

theorem least_split {p : Nat → Prop} (h : ∃ f, p f) : ∃ f, leastF p = f ∧ p f := ⟨_, rfl, leastF_spec h⟩
/-- What was seen, as a map's datum. -/
def seenD (seen : List Int) : DataW Unit := Maps.setOf (.lit (.int .i64 1)) (seen.map (Lit.int .i64))
theorem seenD_snoc (seen : List Int) (x : Int) : seenD (seen ++ [x]) = (seenD seen).put (.int .i64 x) (.lit (.int .i64 1)) := by
  unfold seenD
  rw [List.map_append]
  exact Maps.setOf_snoc _ _ _
theorem int_key (x : Int) : WideAt.IsKeyLit (.int .i64 x) := by simp [WideAt.IsKeyLit]
theorem seenD_at (x : Int) (seen : List Int) : (seenD seen).atKey (.int .i64 x) (.lit (.int .i64 0)) = .lit (.int .i64 (if x ∈ seen then 1 else 0)) := by
  have key : ∀ (l : List Int) (m : DataW Unit), IsMap m → (l.foldl (fun m x => m.put (Lit.int .i64 x) (.lit (.int .i64 1))) m).atKey (.int .i64 x) (.lit (.int .i64 0)) = if x ∈ l then .lit (.int .i64 1) else m.atKey (.int .i64 x) (.lit (.int .i64 0)) := by
    intro l
    induction l with
    | nil => intro m _; simp
    | cons y l ih =>
      intro m hm
      rw [List.foldl_cons, ih _ (hm.put _ _)]
      by_cases hl : x ∈ l
      · rw [if_pos hl, if_pos (List.mem_cons_of_mem _ hl)]
      · rw [if_neg hl]
        by_cases e : x = y
        · subst e
          rw [if_pos (List.mem_cons_self ..), atKey_put_same hm (int_key x)]
        · rw [if_neg (by simp [e, hl]), atKey_put_other (by intro h; injection h with _ h; exact e h)]
  unfold seenD Maps.setOf
  rw [List.foldl_map, key seen _ isMap_empty]
  split <;> rfl
theorem seenD_keys {w : World} {b n : Nat} {seen : List Int} {R : Value → Option (DataW Unit × List MemPlace)} (hown : w.ownsMap Tryz.prog 3 R b n (seenD seen)) (hn : seen.Nodup) : seen.Perm (intKeys (seenD seen)) := by
  have K : Keyed Tryz.prog 3 := int_keyed Tryz.underlying3
  obtain ⟨es, hD, hpw, _⟩ := hown.entries K
  obtain ⟨es', hD', hko⟩ := hown.keysOf
  obtain rfl : es = es' := by rw [hD] at hD'; simpa using hD'
  have hh : ∀ x, x ∈ seen ↔ has (seenD seen) (.int .i64 x) = true := fun x => by
    unfold seenD
    rw [has_setOf _ _ _ (fun y hy => by obtain ⟨z, _, rfl⟩ := List.mem_map.1 hy; exact int_key z), List.any_map, List.any_eq_true]
    constructor
    · intro h; exact ⟨x, h, by simp [Lit.sameKey]⟩
    · rintro ⟨y, hy, he⟩
      have : y = x := by simpa [Lit.sameKey] using he
      rw [← this]; exact hy
  rw [hD] at hh ⊢
  exact perm_intKeys hpw (fun p hp => by obtain ⟨v, hv⟩ := hko p hp; obtain ⟨x, _, hx, _⟩ := Maps.keyOf_i64 Tryz.underlying3 hv; exact ⟨x, hx⟩) hn hh

/-- What a node that can be gotten is. -/
theorem get_ok {w : World} {A : SA} {M : SM} (h : StoreAt w A M) {x : Int} (h0 : (M.get x).2 = 0) : 0 ≤ x ∧ x < 240 ∧ (M.get x).1.ents.length ≤ 6 ∧ ∀ y ∈ (M.get x).1.ents, 0 ≤ y.2 ∧ y.2 < 240 := by
  unfold SM.get at h0 ⊢
  split at h0
  · rename_i hh
    have hb := heldB_pos hh
    have hs := h.pool.hsize
    rw [if_pos hh]
    cases hn : M.nodeAt x.toNat with
    | none => rw [hn] at h0; cases h0
    | some n =>
      dsimp only
      have hok := nodeAt_ok h hn
      refine ⟨hb.1, by omega, ?_, fun y hy => ⟨(hok.entry hy).2.2.1, (hok.entry hy).2.2.2⟩⟩
      by_cases hk : n.kind = 1
      · have := hok.1
        unfold NM.rightB at this
        rw [if_pos hk] at this
        simp at this
        rw [this]; exact Nat.zero_le _
      · exact (innerOk_of hok hk).le
  · cases h0
theorem ownsMap_kept {w w' : World} {S : Nat → Prop} {k b n : Nat} {R : Value → Option (DataW Unit × List MemPlace)} {D : DataW Unit} (h : w.ownsMap Tryz.prog k R b n D) (kk : Kept S w w') (hb : ¬ S b) : w'.ownsMap Tryz.prog k R b n D := by
  obtain ⟨es, clock, h1, F, hs, hD⟩ := h
  exact ⟨es, clock, kk.get h1 hb, F, hs, hD⟩
/-- The last one is taken off. -/
theorem owns_pop {w : World} {base g n cap : Nat} {xs : List Value} {c : Value} (h : w.ownsRow base 3 1 (.slice (some ⟨g, 0, none⟩) (n + 1) cap) (n + 1) (xs ++ [c])) : w.ownsRow base 3 1 (.slice (some ⟨g, 0, none⟩) n cap) n xs := by
  have hl := h.1
  rw [List.length_append, List.length_singleton] at hl
  refine ⟨by omega, ?_⟩
  rcases h.2 with ⟨e, _⟩ | ⟨g', c', cur, e, h2, h3, h4, h5, h6, h7⟩
  · cases e
  · cases e
    refine .inr ⟨g, cap, cur, rfl, h2, h3, by omega, h5, h6, ?_⟩
    have : (cur.toList.take ((n + 1) * 1)).take (n * 1) = (xs ++ [c]).take (n * 1) := by rw [h7]
    rw [List.take_take, Nat.min_eq_left (by omega)] at this
    rw [this, Nat.mul_one, List.take_left' (by omega)]
/-- What a round of Reach finds. -/
structure ReachAt (w : World) (M : SM) (R : List Int × Nat) (mb base f : Nat) (seen next : List Int) (v : Value) (wr : World) : Prop where
  res : M.reachF f seen next = R
  inv : ReachInv seen next f
  seen_ : wr.ownsMap Tryz.prog 3 (plainElem Tryz.prog 3) mb seen.length (seenD seen)
  next_ : wr.ownsRow base 3 1 v next.length (next.map (Value.int .i64))
  wf : ∀ x ∈ next, -9223372036854775808 ≤ x ∧ x ≤ 9223372036854775807
  kept : Kept (fun _ => False) w wr
def ReachRel (w : World) (M : SM) (R : List Int × Nat) (mb base : Nat) (f : Nat) (v : Value) (wr : World) : Prop := f ≤ 2701 ∧ ∃ seen next, ReachAt w M R mb base f seen next v wr
theorem ownsRow.slice {w : World} {base e n : Nat} {v : Value} {xs : List Value} (h : w.ownsRow base e 1 v n xs) : ∃ A cap, v = .slice A n cap ∧ (0 < n → ∃ g, A = some ⟨g, 0, none⟩) ∧ n ≤ cap ∧ cap ≤ maxLen := by
  rcases h.2 with ⟨rfl, rfl⟩ | ⟨g, cap, cur, rfl, _, _, h3, h4, _⟩
  · exact ⟨none, 0, rfl, fun h => by omega, Nat.le_refl _, Nat.zero_le _⟩
  · exact ⟨_, cap, rfl, fun _ => ⟨g, rfl⟩, h3, h4⟩
end Go.Proofs.YthmjcbmeiabbgaaGreat
/-
  Nodes in a store: what can be reached: the walk.
-/
namespace Go.Proofs.YthmjcbmeiabbgaaGreat
open Go.RowKit Go.Maps
set_option maxRecDepth 100000

set_option maxHeartbeats 8000000 in
theorem reachAny {w : World} {A : SA} {M : SM} (h : StoreAt w A M) {v : Value} {l : List Int} (hv : SliceAt w v 1 l.length (l.map (Value.int .i64))) (hn : l.length ≤ 1000) (hwf : ∀ x ∈ l, -9223372036854775808 ≤ x ∧ x ≤ 9223372036854775807) :
    Calls Tryz.prog 40 #[.pointer (some ⟨A.sb, 0, none⟩), v] w fun e w' => ∃ u, e = .returned (.tuple #[u, .int .i64 (M.reach l).2]) ∧
      w'.ownsRow w.heap.size 3 1 u (M.reach l).1.length ((M.reach l).1.map (Value.int .i64)) ∧ Kept (fun _ => False) w w' := by
  have K : Keyed Tryz.prog 3 := int_keyed Tryz.underlying3
  obtain ⟨R, hR⟩ : ∃ R, M.reachF (1700 + l.length) [] l = R := ⟨_, rfl⟩
  have hreach : Hid (M.reach l = if R.2 = 0 then (R.1.mergeSort leB, 0) else ([], R.2)) := Lib.hid (by unfold SM.reach; rw [hR])
  obtain ⟨Z, hZ⟩ : ∃ Z, nodeCells NM.zero (.slice none 0 0) = Z := ⟨_, rfl⟩
  have hZz : Hid ((Tryz.prog.info? 80).map (·.zero) = some (some (.agg Z.toArray))) := Lib.hid (by rw [← hZ]; exact node_zero)
  have hZl : Hid (Z.length = 18) := Lib.hid (by rw [← hZ]; exact nodeCells_len _ _)
  obtain ⟨mb, hmb⟩ : ∃ mb, w.heap.size = mb := ⟨_, rfl⟩
  obtain ⟨w1, hw1⟩ : ∃ w1, w.alloc (.map #[] 0) = w1 := ⟨_, rfl⟩
  have k1 : Kept (fun _ => False) w w1 := by rw [← hw1]; exact (Kept.refl _ _).alloc _
  have s1 : w1.heap.size = mb + 1 := by rw [← hw1, ← hmb]; simp
  have m1 : w1.ownsMap Tryz.prog 3 (plainElem Tryz.prog 3) mb 0 (seenD []) := by rw [← hw1, ← hmb]; exact World.ownsMap_made w Tryz.prog 3 _
  have hcl := Lib.hid (cloneInts (SliceAt.fresh hv k1) hn)
  obtain ⟨hl, Av, capv, rfl, hcv1, hcv2, _⟩ := id hv
  have hw1' := Lib.hid hw1
  have hmb' := Lib.hid hmb
  have h' := Lib.hid h
  have k1' := Lib.hid k1
  have m1' := Lib.hid m1
  have s1' := Lib.hid s1
  have hR' := Lib.hid hR
  have hwf' := Lib.hid hwf
  have K' := Lib.hid K
  clear h hv hl hw1 hmb k1 m1 s1 hR hwf hZ K
  go_enter Tryz.func40, Tryz.ntmps40
  go_wp2_with (simp only [run_makeMap, hw1'.out, hmb'.out])
  refine hcl.out.mono ?_
  rintro e w2 ⟨u, rfl, hown2, hk2⟩
  rw [s1'.out] at hown2
  have r2 := Lib.hid (show ReachRel w M R mb (mb + 1) (1700 + l.length) u w2 from ⟨by omega, [], l, hR'.out, reach_start l, (by obtain ⟨es, clock, hb, F, hs, hD⟩ := m1'.out; exact ⟨es, clock, hk2.get hb id, F, hs, hD⟩), hown2, hwf'.out, k1'.out.trans hk2⟩)
  obtain ⟨Au, cu, rfl, _⟩ := ownsRow.slice hown2
  clear hown2 hk2
  go_wp2_with fail
  go_loopw [7] (fun v wr => ∃ f, ReachRel w M R mb (mb + 1) f v wr) (fun v wr => leastF fun f => ReachRel w M R mb (mb + 1) f v wr)
  case atStart => exact ⟨_, r2.out⟩
  case round =>
    obtain ⟨f, hf, hfb, seen, next, hat⟩ := least_split hrel
    obtain ⟨An, cn, rfl, hnz, hc1, hc2⟩ := ownsRow.slice hat.next_
    obtain ⟨f, rfl⟩ : ∃ f', f = f' + 1 := ⟨f - 1, by have := hat.inv.fuel; omega⟩
    unfold maxLen at hc2
    rcases List.eq_nil_or_concat next with rfl | ⟨rest, x, hrx⟩
    · have hres : R = (seen, 0) := by rw [← hat.res, reachF_nil]
      have hsz := World.ownsMap.size_le hat.seen_
      have hsl : seen.length ≤ 240 := by have := hat.inv.len; omega
      have hperm := seenD_keys hat.seen_ hat.inv.nodup
      have hsc := Lib.hid (sortedCall mb seen.length (seenD seen) _ wr hat.seen_ (by unfold maxLen; omega) (by omega))
      have hk := Lib.hid hat.kept
      have hkc := Lib.hid (keysCall (some mb) wr)
      have hreach' : Hid (M.reach l = (seen.mergeSort leB, 0)) := Lib.hid (by rw [hreach.out, hres, if_pos rfl])
      have hperm' := Lib.hid hperm
      clear hsz hperm hres hat hf hrel hnz
      simp only [List.length_nil]
      go_wp2_with fail
      refine hkc.out.mono ?_
      rintro e w3 ⟨rfl, rfl⟩
      go_wp2_with fail
      refine hsc.out.mono ?_
      rintro e w4 ⟨v4, ss, rfl, hS, hrow, hk4⟩
      have hs4 := hk.out.size
      go_wp2_with fail
      go_ret2
      have e1 : ss.mergeSort (fun x y => decide (x ≤ y)) = seen.mergeSort leB := mergeSort_of_perm_i (hS.trans hperm'.out.symm)
      have e2 : ss.length = (seen.mergeSort leB).length := by rw [List.length_mergeSort]; exact (hS.trans hperm'.out.symm).length_eq
      rw [e1, e2] at hrow
      exact ⟨v4, by rw [hreach'.out]; rfl, by rw [hreach'.out]; exact owns_weaken hrow (by omega), hk.out.trans hk4⟩
    · rw [List.concat_eq_append] at hrx
      subst hrx
      obtain ⟨m, hm⟩ : ∃ m, rest.length = m := ⟨_, rfl⟩
      have hlen : (rest ++ [x]).length = m + 1 := by rw [List.length_append, hm]; rfl
      obtain ⟨g, rfl⟩ := hnz (by omega)
      have hown := hat.next_
      rw [hlen, List.map_append, List.map_singleton] at hown
      have cx : wr.cell? ⟨g, m, none⟩ = some (.int .i64 x) := by
        have := hown.cells (g := g) rfl m (.int .i64 x) (by rw [List.getElem?_append_right (by rw [List.length_map]; omega), List.length_map, hm, Nat.sub_self]; rfl)
        rw [addr_add, Nat.zero_add] at this
        exact this
      have hown' := owns_pop hown
      have hres := hat.res
      rw [reachF_snoc] at hres
      have hxw := hat.wf x (List.mem_append_right _ (List.mem_singleton.2 rfl))
      have hfm : m ≤ 10000 := by have := hat.inv.fuel; rw [hlen] at this; omega
      have hwl : IntKind.i64.wrap ((m : Int) + 1 - 1) = (m : Int) := by rw [IntKind.wrap_i64]; omega
      have hm0 : (0 : Int) < (m : Int) + 1 := by omega
      have hm1 : (m : Int) < (m : Int) + 1 := by omega
      have hm2 : (m : Int) ≤ (m : Int) + 1 := by omega
      have hm3 : (m : Int) ≤ (cn : Int) := by omega
      rw [hlen] at hc1 hf ⊢
      have hkey : keyOf Tryz.prog 3 (.int .i64 x) = some (.int .i64 x) := keyOf_int_mk Tryz.underlying3 (WalkArith.wf_i64 hxw)
      obtain ⟨c, hlook, hcat, _⟩ := hat.seen_.lookup_int K'.out Tryz.underlying102 Tryz.underlying3 (Tryz.zeroValue3 wr) hkey
      rw [seenD_at] at hcat
      have hcx : c = if x ∈ seen then 1 else 0 := by injection hcat with h; injection h with _ h; exact h.symm
      have hat' := Lib.hid hat
      have hf' := Lib.hid hf
      have hwf2 := Lib.hid (fun y hy => hat.wf y (List.mem_append_left [x] hy))
      have hown2 := Lib.hid hown'
      have hkey' := Lib.hid hkey
      clear hat hf hrel hown hown' hnz hcat hlen hxw hkey
      by_cases hx1 : x = -1
      · rw [if_pos (.inl hx1)] at hres
        subst hx1
        have hnew := Lib.hid (show ReachRel w M R mb (mb + 1) f (.slice (some ⟨g, 0, none⟩) m cn) wr from ⟨by omega, seen, rest, hres, hat'.out.inv.skip, hat'.out.seen_, by rw [hm]; exact hown2.out, hwf2.out, hat'.out.kept⟩)
        clear hres hcx hlook
        go_wp2_with fail
        go_roundw
        case rel => exact ⟨f, hnew.out⟩
        case measure => exact Nat.lt_of_le_of_lt (leastF_le hnew.out) (by rw [hf'.out]; omega)
      · have hx1b : (x == -1) = false := by simpa using hx1
        by_cases hxs : x ∈ seen
        · rw [if_pos (.inr hxs)] at hres
          rw [if_pos hxs] at hcx
          subst hcx
          have hnew := Lib.hid (show ReachRel w M R mb (mb + 1) f (.slice (some ⟨g, 0, none⟩) m cn) wr from ⟨by omega, seen, rest, hres, hat'.out.inv.skip, hat'.out.seen_, by rw [hm]; exact hown2.out, hwf2.out, hat'.out.kept⟩)
          clear hres hxs hx1
          go_wp2_with fail
          go_roundw
          case rel => exact ⟨f, hnew.out⟩
          case measure => exact Nat.lt_of_le_of_lt (leastF_le hnew.out) (by rw [hf'.out]; omega)
        · rw [if_neg (by intro h; exact h.elim hx1 hxs)] at hres
          rw [if_neg hxs] at hcx
          subst hcx
          have hgt := get_any (h'.out.fresh hat'.out.kept) x
          have hok := fun h0 => get_ok h'.out (x := x) h0
          obtain ⟨N, hN⟩ : ∃ N, M.get x = N := ⟨_, rfl⟩
          simp only [hN] at hgt hok hres
          obtain ⟨n, er⟩ := N
          dsimp only at hgt hok hres
          have hgt' := Lib.hid hgt
          have hok' := Lib.hid hok
          have hres' := Lib.hid hres
          have hxs' := Lib.hid hxs
          clear hgt hok hres hN hxs hx1
          go_wp2_with fail
          refine hgt'.out.mono ?_
          rintro e w3 ⟨v3, rfl, hown3, hk3⟩
          obtain ⟨A3, c3, rfl, _⟩ := EntsAt.form (show EntsAt w3 v3 n.ents from SliceAt.of_owns hown3)
          obtain ⟨F, hF⟩ : ∃ F, nodeCells n (.slice A3 n.ents.length c3) = F := ⟨_, rfl⟩
          have hFl : Hid (F.length = 18) := Lib.hid (by rw [← hF]; exact nodeCells_len _ _)
          have hF1 : Hid (∀ v ∈ F, v.oneCell' = true) := Lib.hid (by rw [← hF]; exact nodeCells_one _ _ _ _)
          obtain ⟨nb, hnb⟩ : ∃ nb, w3.heap.size = nb := ⟨_, rfl⟩
          obtain ⟨w4, hw4⟩ : ∃ w4, (w3.alloc (.cells Z.toArray 80)).setRow nb F.toArray = w4 := ⟨_, rfl⟩
          have k4 : Kept (fun _ => False) w3 w4 := by rw [← hw4]; exact ((Kept.refl _ _).alloc _).setRowNew (by omega) _
          have q4 := Lib.hid (show w4.heap[nb]? = some (.cells F.toArray 80 (0, 0)) by rw [← hw4, ← hnb]; exact setRow_heap _ _ _ _ _ _ (heap_alloc_new _ _))
          have hE4 := Lib.hid (SliceAt.fresh (SliceAt.of_owns hown3) k4 : EntsAt w4 (.slice A3 n.ents.length c3) n.ents)
          have hs3 := hk3.size
          have kr4 := Lib.hid (hk3.trans k4)
          have hm4 := ownsMap_kept hat'.out.seen_ kr4.out id
          obtain ⟨c4, hlook4, hcat4, _⟩ := hm4.lookup_int K'.out Tryz.underlying102 Tryz.underlying3 (Tryz.zeroValue3 w4) hkey'.out
          rw [seenD_at, if_neg hxs'.out] at hcat4
          obtain rfl : c4 = 0 := by injection hcat4 with h; injection h with _ h; exact h.symm
          have hm4' := Lib.hid hm4
          have hown4 := Lib.hid (ownsRow.keptOf hown2.out kr4.out (fun _ _ => id))
          have hF' := Lib.hid hF
          have hw4' := Lib.hid hw4
          have hnb' := Lib.hid hnb
          rw [hF]
          have hsl : seen.length ≤ 240 := by have := hat'.out.inv.len; omega
          have hnbg : mb + 1 ≤ nb := by have := hat'.out.kept.size; have := hmb'.out; have := (hown2.out.lt g rfl).1; have := (hown2.out.lt g rfl).2; omega
          have hb3 := Lib.hid (fun b (hb : (Value.slice A3 n.ents.length c3).ownBlock = some b) => (hown3.lt b hb).1)
          have hmw : mb < wr.heap.size := hat'.out.seen_.lt
          clear hown3 hk3 hF k4 hw4 hnb hm4 hcat4 hlook
          by_cases h0 : er = 0
          · subst h0
            have hr0 := hres'.out
            rw [if_pos rfl] at hr0
            have hr0' := Lib.hid hr0
            obtain ⟨hx0, hx240, hn6, hpg⟩ := hok'.out rfl
            have hpg' := Lib.hid hpg
            have hval : plainElem (H := Unit) Tryz.prog 3 (.int .i64 1) = some (.lit (.int .i64 1), []) := plainElem_int Tryz.underlying3 (WalkArith.wf_i64 (by omega))
            have hval' := Lib.hid hval
            clear hr0 hpg hval
            go_wp2_with (first | (refine wpList_alloc_as 80 rfl rfl Z.toArray hZz.out ?_; rw [hnb'.out]) | (refine wpList_store_whole 80 rfl rfl rfl F rfl (by rw [hFl.out]; exact node_size) 80 _ (by rw [← hnb'.out]; exact heap_alloc_new _ _) (by simp [hFl.out, hZl.out]) hF1.out ?_; rw [hw4'.out]) | (refine wpList_mapUpdate_own w4 rfl (.tmp 45) (.tmp 46) (.tmp 48) 102 rfl 3 3 K'.out Tryz.underlying102 (plainElem Tryz.prog 3) mb seen.length (seenD seen) (by rfl) hm4'.out (by unfold maxLen; omega) (.int .i64 x) (.int .i64 1) (.int .i64 x) (by rfl) (by rfl) hkey'.out (.lit (.int .i64 1)) [] hval'.out ?_; intro w5 hm5 hg5) | (refine wpList_load_agg 80 rfl rfl rfl _ Tryz.underlying80 rfl F (by rw [hFl.out]; exact node_size) (fun j v hv => by rw [cell_of_heap ((Kept.of_grown hg5).get q4.out (fun e => by injection e with e; omega)), Nat.zero_add]; simpa using hv) ?_))
            have k45 := Kept.of_grown hg5
            have hE5 : EntsAt w5 (.slice A3 n.ents.length c3) n.ents := SliceAt.kept hE4.out k45 (fun b hb e => by injection e with e; have := hb3.out b hb; omega)
            have hC := children_any (n := n) hE5 (by omega)
            rw [hF'.out] at hC
            have hC' := Lib.hid hC
            clear hC
            refine hC'.out.mono ?_
            rintro e w6 ⟨u6, rfl, hown6, hk6⟩
            obtain ⟨A6, c6, rfl, _⟩ := ownsRow.slice hown6
            have hg1 := (hown2.out.lt g rfl).1
            have hown6n := Lib.hid (ownsRow.keptOf (ownsRow.keptOf hown4.out k45 (fun b hb e => by injection e with e; have := (hown4.out.lt b hb).1; omega)) hk6 (fun _ _ => id))
            have hsl6 := Lib.hid (SliceAt.of_owns hown6)
            have hone6 : Hid (∀ c ∈ pageCellsOf n.ents, c.oneCell' = true) := Lib.hid (fun c hc => by unfold pageCellsOf at hc; obtain ⟨y, _, rfl⟩ := List.mem_map.1 hc; rfl)
            have hw6 := Lib.hid ((((hat'.out.kept.trans kr4.out).grown hg5 (fun k e => .inr (by injection e with e; have := hmb'.out; omega))).trans hk6))
            have hs6 : mb + 1 ≤ w6.heap.size := by have := hw6.out.size; have := kr4.out.size; have := k45.size; have := hk6.size; omega
            have hm6 := Lib.hid (ownsMap_kept hm5 hk6 id)
            clear hown6 hk6 hE5 k45 hm5 hg5
            go_wp2_with (at_builtin; refine wpList_append_src rfl elemInt (.tmp 49) (.tmp 51) rfl (by rfl) (by rfl) hown6n.out hsl6.out hone6.out (by omega) (by omega) hs6 ?_; intro v7 w7 hown7 hg7 hat7)
            have hm7 := ownsMap_kept hm6.out (Kept.of_grown hg7) (fun e => by have := (hown6n.out.lt mb e).1; omega)
            have hnew := Lib.hid (show ReachRel w M R mb (mb + 1) f v7 w7 from ⟨by omega, seen ++ [x], rest ++ n.ents.map (·.2), hr0'.out, hat'.out.inv.more hxs'.out hx0 hx240 (by rw [List.length_map]; exact hn6),
              by rw [seenD_snoc, List.length_append]; exact hm7, by
                have e1 : (rest ++ n.ents.map (·.2)).length = m + n.ents.length := by rw [List.length_append, List.length_map, hm]
                have e2 : (rest ++ n.ents.map (·.2)).map (Value.int .i64) = rest.map (Value.int .i64) ++ pageCellsOf n.ents := by rw [List.map_append, List.map_map]; rfl
                rw [e1, e2]; exact hown7,
              fun y hy => by
                rcases List.mem_append.1 hy with hy | hy
                · exact hwf2.out y hy
                · obtain ⟨z, hz, rfl⟩ := List.mem_map.1 hy
                  have := hpg'.out z hz
                  omega,
              hw6.out.grown hg7 (fun k e => .inr (by have := (hown6n.out.lt k e).1; have := hmb'.out; omega))⟩)
            clear hown7 hg7 hat7 hm7
            go_roundw
            case rel => exact ⟨f, hnew.out⟩
            case measure => exact Nat.lt_of_le_of_lt (leastF_le hnew.out) (by rw [hf'.out]; omega)
          · have hR2 : R = ([], er) := by rw [← hres'.out, if_neg h0]
            have hreach' : Hid (M.reach l = ([], er)) := Lib.hid (by rw [hreach.out, hR2, if_neg h0])
            have h0' : ((er : Int) == 0) = false := by rw [beq_eq_false_iff_ne]; omega
            clear h0 hR2
            go_wp2_with (first | (refine wpList_alloc_as 80 rfl rfl Z.toArray hZz.out ?_; rw [hnb'.out]) | (refine wpList_store_whole 80 rfl rfl rfl F rfl (by rw [hFl.out]; exact node_size) 80 _ (by rw [← hnb'.out]; exact heap_alloc_new _ _) (by simp [hFl.out, hZl.out]) hF1.out ?_; rw [hw4'.out]))
            go_ret2
            exact ⟨_, by rw [hreach'.out]; rfl, by rw [hreach'.out]; exact World.ownsRow_nil _ _ _ _, hat'.out.kept.trans kr4.out⟩
end Go.Proofs.YthmjcbmeiabbgaaGreat
/-
  What a tree finds, and its height, plain; the document's Put, Cut, Find and Trim, plain.
-/
namespace Go.Proofs.YthmjcbmeiabbgaaGreat
open Go.RowKit

/-- The page of a key. -/
def findL : List (Int × Int) → Int → Int
  | [], _ => -1
  | y :: l, key => if y.1 = key then y.2 else findL l key
theorem findL_none : ∀ {l : List (Int × Int)} {key : Int}, (∀ y ∈ l, y.1 ≠ key) → findL l key = -1
  | [], _, _ => rfl
  | y :: l, key, h => by
    unfold findL
    rw [if_neg (h y (List.mem_cons_self ..)), findL_none fun z hz => h z (List.mem_cons_of_mem _ hz)]
theorem findL_skip : ∀ {a l : List (Int × Int)} {key : Int}, (∀ y ∈ a, y.1 ≠ key) → findL (a ++ l) key = findL l key
  | [], _, _, _ => rfl
  | y :: a, l, key, h => by
    rw [List.cons_append, findL, if_neg (h y (List.mem_cons_self ..))]
    exact findL_skip fun z hz => h z (List.mem_cons_of_mem _ hz)
theorem findL_left : ∀ {a l : List (Int × Int)} {key : Int}, (∀ y ∈ l, y.1 ≠ key) → findL (a ++ l) key = findL a key
  | [], _, _, h => findL_none h
  | y :: a, l, key, h => by
    rw [List.cons_append, findL, findL]
    split
    · rfl
    · exact findL_left h
theorem findF_succ (f : Nat) (M : SM) (root key : Int) : SM.findF (f + 1) M root key = if root = -1 then (-1, 0) else
      if (M.tnode root (8 - f)).2 = 0 then
        if atI (M.tnode root (8 - f)).1.ents key < 0 ∨ ((M.tnode root (8 - f)).1.kind = 2 ∧ ((M.tnode root (8 - f)).1.ents.getD (atI (M.tnode root (8 - f)).1.ents key).toNat (0, 0)).1 ≠ key) then (-1, 0)
        else if (M.tnode root (8 - f)).1.kind = 2 then (((M.tnode root (8 - f)).1.ents.getD (atI (M.tnode root (8 - f)).1.ents key).toNat (0, 0)).2, 0)
          else SM.findF f M ((M.tnode root (8 - f)).1.ents.getD (atI (M.tnode root (8 - f)).1.ents key).toNat (0, 0)).2 key
      else (-1, (M.tnode root (8 - f)).2) := rfl
theorem find_ok {m : Nat} {M : SM} {key : Int} : ∀ (h d : Nat) (p : Int) (l : List (Int × Int)), h + d ≤ 8 → Tr m M h p l → Good M l → SM.findF (9 - d) M p key = (findL l key, 0)
  | 0, _, _, _, _, t, _ => t.elim
  | h + 1, d, p, l, hd, t, g => by
    obtain ⟨n, hn, hna, hok, k⟩ := tnode_tr t (d := d) (by omega)
    have ge := k.good g
    have hp0 := (heldB_int t.held).1
    have hb := atI_bound (l := n.ents) key
    rw [show 9 - d = (8 - d) + 1 by omega, findF_succ, show 8 - (8 - d) = d by omega, hn]
    dsimp only
    rw [if_neg (by omega), if_pos rfl]
    by_cases ha : atI n.ents key < 0
    · rw [if_pos (.inl ha), findL_none]
      intro y hy
      obtain ⟨e, he, hle⟩ := k.ge g.1 y hy
      have := atI_neg ge.1 ha e he
      omega
    obtain ⟨i, hi⟩ := Int.eq_ofNat_of_zero_le (show 0 ≤ atI n.ents key by omega)
    have hil : i < n.ents.length := by omega
    rw [hi, Int.toNat_natCast]
    rcases k with ⟨h0, hk, hl⟩ | ⟨h0, hk, hK⟩
    · have hlc := leaf_cut ge.1 hi hil
      by_cases hke : (n.ents.getD i (0, 0)).1 = key
      · rw [if_neg (fun e => by rcases e with e | e; exact absurd e (by omega); exact e.2 hke), if_pos hk]
        have hg : n.ents.getD i (0, 0) = n.ents[i] := by simp [List.getD, List.getElem?_eq_getElem hil]
        have hd' : n.ents.drop i = n.ents[i] :: n.ents.drop (i + 1) := List.drop_eq_getElem_cons hil
        have hlt : ∀ y ∈ n.ents.take i, y.1 < n.ents[i].1 := fun y hy => rises_cut ge.1 i y hy n.ents[i] (by rw [hd']; exact List.mem_cons_self ..)
        rw [hg] at hke ⊢
        rw [← hl]
        have e : n.ents = n.ents.take i ++ n.ents[i] :: n.ents.drop (i + 1) := by rw [← hd', List.take_append_drop]
        have e2 : findL n.ents key = n.ents[i].2 := by
          have e3 : findL (n.ents.take i ++ n.ents[i] :: n.ents.drop (i + 1)) key = n.ents[i].2 := by
            rw [findL_skip (fun y hy => by have := hlt y hy; omega), findL, if_pos hke]
          rw [← e] at e3
          exact e3
        rw [e2]
      · rw [if_pos (.inr ⟨hk, hke⟩), ← hl, findL_none (hlc.2 hke)]
    · rw [if_neg (fun e => by rcases e with e | e; exact absurd e (by omega); have := e.1; omega), if_neg (by omega)]
      obtain ⟨_, hc1, hc2⟩ := atI_cut ge.1 key (c := i + 1) (by rw [hi]; omega)
      have hg : n.ents.getD i (0, 0) = n.ents[i] := by simp [List.getD, List.getElem?_eq_getElem hil]
      have hes : n.ents = n.ents.take i ++ n.ents[i] :: n.ents.drop (i + 1) := by rw [← List.drop_eq_getElem_cons hil, List.take_append_drop]
      rw [hg]
      obtain ⟨e, he⟩ : ∃ e, n.ents[i] = e := ⟨_, rfl⟩
      obtain ⟨es1, he1⟩ : ∃ es1, n.ents.take i = es1 := ⟨_, rfl⟩
      obtain ⟨es2, he2⟩ : ∃ es2, n.ents.drop (i + 1) = es2 := ⟨_, rfl⟩
      have hee1 : e.1 ≤ key := hc1 e (by rw [← he, List.mem_take_iff_getElem]; exact ⟨i, by omega, rfl⟩)
      have hee2 : ∀ f ∈ es2, key < f.1 := fun f hf => hc2 f (by rw [he2]; exact hf)
      rw [he, he1, he2] at hes
      rw [he]
      rw [hes] at hK
      obtain ⟨a, b, hab, hK1, s, tt, y, hst, hT, hy, hye, hK2⟩ := hK.cut
      subst hab hst
      have ga : ∀ z ∈ a, z.1 < key := fun z hz => by
        have hys : y ∈ s ++ tt := List.mem_append_left _ (List.mem_of_mem_head? (by rw [hy]; rfl))
        have := (List.pairwise_append.1 g.1).2.2 z hz y hys
        omega
      have gt : ∀ z ∈ tt, key < z.1 := fun z hz => by
        cases es2 with
        | nil => rw [show tt = [] from hK2] at hz; cases hz
        | cons f es2 =>
          obtain ⟨u, hu, hue⟩ := hK2.head
          have h1 := hee2 f (List.mem_cons_self ..)
          have h2 := head_le g.right.right.1 hu z hz
          omega
      have hr := find_ok (key := key) h (d + 1) e.2 s (by omega) hT.1 g.right.left
      rw [show 9 - (d + 1) = 8 - d by omega] at hr
      rw [hr, findL_skip (fun z hz => by have := ga z hz; omega), findL_left (fun z hz => by have := gt z hz; omega)]
theorem heightF_succ (f : Nat) (M : SM) (root : Int) : SM.heightF (f + 1) M root = if root = -1 then (8 - f, 0) else
      if (M.tnode root (8 - f)).2 = 0 then
        if (M.tnode root (8 - f)).1.kind = 2 then (8 - f + 1, 0) else SM.heightF f M ((M.tnode root (8 - f)).1.ents.getD 0 (0, 0)).2
      else (0, (M.tnode root (8 - f)).2) := rfl
theorem height_ok {m : Nat} {M : SM} : ∀ (h d : Nat) (p : Int) (l : List (Int × Int)), h + d ≤ 8 → Tr m M h p l → SM.heightF (9 - d) M p = (d + h, 0)
  | 0, _, _, _, _, t => t.elim
  | h + 1, d, p, l, hd, t => by
    obtain ⟨n, hn, hna, hok, k⟩ := tnode_tr t (d := d) (by omega)
    have hp0 := (heldB_int t.held).1
    rw [show 9 - d = (8 - d) + 1 by omega, heightF_succ, show 8 - (8 - d) = d by omega, hn]
    dsimp only
    rw [if_neg (by omega), if_pos rfl]
    rcases k with ⟨h0, hk, hl⟩ | ⟨h0, hk, hK⟩
    · rw [if_pos hk, h0]
    · rw [if_neg (by omega)]
      have hin := innerOk_of hok (by omega)
      have hpos := hin.pos
      cases hes : n.ents with
      | nil => rw [hes] at hpos; exact absurd hpos (by decide)
      | cons e es =>
        rw [hes] at hK
        obtain ⟨a, b, x, _, hT, _⟩ := hK
        have := height_ok h (d + 1) e.2 a (by omega) hT.1
        rw [show 9 - (d + 1) = 8 - d by omega] at this
        show SM.heightF (8 - d) M e.2 = _
        rw [this]
        congr 1
        omega
section
variable {K : SM → Prop} {s : Nat} {bl : List Nat} {M : SM} {root : Int} {l : List (Int × Int)} {P : Nat}
theorem OneTree.find (h : OneTree K s bl M root l P) (hP : P ≤ 150) (key : Int) : M.find root key = (findL l key, 0) := by
  obtain ⟨k, hr, hk, _⟩ := h.rooted hP
  rcases hr with ⟨e, el, _⟩ | t
  · subst e el
    rfl
  · exact find_ok k 0 root l (by omega) t h.good
theorem OneTree.height (h : OneTree K s bl M root l P) (hP : P ≤ 150) : ∃ k, M.height root = (k, 0) ∧ k ≤ 5 ∧ (l ≠ [] → 1 ≤ k) := by
  rcases h.root with ⟨e, el⟩ | ⟨k, t, j⟩
  · subst e el
    exact ⟨0, rfl, by omega, fun e => absurd rfl e⟩
  · refine ⟨k, ?_, (led_pages t j hP).1, fun _ => tr_pos t⟩
    have := height_ok k 0 root l (by have := (led_pages t j hP).1; omega) t
    rw [Nat.zero_add] at this
    exact this
end
/-- The document's Put, step by step: what was put out, and whether the new one was. -/
def putStep (x : Int × Int) (s : List (Int × Int) × Bool) (y : Int × Int) : List (Int × Int) × Bool :=
  let s1 := if s.2 = false ∧ x.1 ≤ y.1 then (s.1 ++ [x], true) else s
  (if y.1 ≠ x.1 then s1.1 ++ [y] else s1.1, s1.2)
def refPut (l : List (Int × Int)) (x : Int × Int) : List (Int × Int) :=
  let s := l.foldl (putStep x) ([], false)
  if s.2 then s.1 else s.1 ++ [x]
theorem put_true (x : Int × Int) : ∀ (l a : List (Int × Int)), l.foldl (putStep x) (a, true) = (a ++ l.filter fun y => decide (y.1 ≠ x.1), true)
  | [], a => by simp
  | y :: l, a => by
    rw [List.foldl_cons]
    have : putStep x (a, true) y = (a ++ [y].filter (fun y => decide (y.1 ≠ x.1)), true) := by
      unfold putStep
      by_cases e : y.1 = x.1 <;> simp [e]
    rw [this, put_true x l, List.append_assoc, ← List.filter_append, List.singleton_append]
theorem refPut_eq {l : List (Int × Int)} (hr : RisesK l) (x : Int × Int) : refPut l x = putL l x := by
  have key : ∀ (l a : List (Int × Int)), RisesK l → (let s := l.foldl (putStep x) (a, false); if s.2 then s.1 else s.1 ++ [x]) = a ++ putL l x := by
    intro l
    induction l with
    | nil => intro a _; rfl
    | cons y l ih =>
      intro a hr
      have hr' := List.pairwise_cons.1 hr
      rw [List.foldl_cons]
      by_cases hy : x.1 ≤ y.1
      · have hst : putStep x (a, false) y = (a ++ [x] ++ [y].filter (fun y => decide (y.1 ≠ x.1)), true) := by
          unfold putStep
          by_cases e : y.1 = x.1
          · have : x.1 ≤ x.1 := Int.le_refl _
            simp [e]
          · simp [e, hy]
        have hall : l.filter (fun y => decide (y.1 ≠ x.1)) = l := filter_all fun z hz => by have := hr'.1 z hz; simp; omega
        have h1 : (y :: l).filter (fun z => decide (z.1 < x.1)) = [] := filter_none fun z hz => by
          rcases List.mem_cons.1 hz with rfl | hz
          · simp; omega
          · have := hr'.1 z hz; simp; omega
        have h2 : l.filter (fun z => decide (x.1 < z.1)) = l := filter_all fun z hz => by have := hr'.1 z hz; simp; omega
        rw [hst, put_true]
        dsimp only
        rw [if_pos rfl, hall]
        unfold putL
        rw [h1, List.nil_append, List.append_assoc, List.append_assoc]
        congr 2
        by_cases e : y.1 = x.1
        · have h3 : (y :: l).filter (fun z => decide (x.1 < z.1)) = l := by rw [List.filter_cons_of_neg (by simp; omega), h2]
          rw [h3]
          simp [e]
        · have h3 : (y :: l).filter (fun z => decide (x.1 < z.1)) = y :: l := by rw [List.filter_cons_of_pos (by simp; omega), h2]
          rw [h3]
          simp [e]
      · have hst : putStep x (a, false) y = (a ++ [y], false) := by
          unfold putStep
          have : y.1 ≠ x.1 := by omega
          simp [hy, this]
        rw [hst, ih _ hr'.2]
        unfold putL
        rw [List.filter_cons_of_pos (by simp; omega), List.filter_cons_of_neg (by simp; omega)]
        simp
  have := key l [] hr
  rw [List.nil_append] at this
  exact this
/-- The document's Trim. -/
def refTrim : List Int → List (Int × Int) → List (Int × Int) × Nat
  | [], l => (l, 0)
  | k :: ks, l => if k < 0 ∨ 63 < k then ([], 101) else refTrim ks (cutL l k)
end Go.Proofs.YthmjcbmeiabbgaaGreat
/-
  The document's answer: are two lists of entries the same?
-/
namespace Go.Proofs.YthmjcbmeiabbgaaGreat
open Go.RowKit
set_option maxRecDepth 100000

theorem run_equalIn_entry (d : Nat) (p q : Int × Int) (w : World) : (Op.equalIn (d + 2) 33 (.agg #[.int .i64 p.1, .int .i64 p.2]) (.agg #[.int .i64 q.1, .int .i64 q.2])).run Tryz.prog w = .ok (decide (p = q)) w := by
  obtain ⟨p1, p2⟩ := p
  obtain ⟨q1, q2⟩ := q
  have hi : ∀ w, (isAgg 3).run Tryz.prog w = .ok false w := fun w => by
    unfold isAgg
    rw [Sem.run_bind, run_underlying Tryz.underlying3 w]
    rfl
  have hS : Tryz.prog.underlying 33 = some (.struct (Tryz.prog.fieldsOf 33)) := by kernel_rfl
  have hp : Tryz.prog.stoodInHeld 33 = false := by kernel_rfl
  have hq : ∀ (a b : Int) w, (Op.equalIn (d + 1) 3 (.int .i64 a) (.int .i64 b)).run Tryz.prog w = .ok (a == b) w := fun a b w => run_equalIn_int w d 3 .i64 .i64 a b Tryz.underlying3
  rw [run_equalIn_struct w (d + 1) 33 _ _ hS hp]
  simp only [Program.fieldsOf, Tryz.underlying33]
  by_cases h1 : p1 = q1
  · by_cases h2 : p2 = q2
    · simp [Op.eqFields, part, hi, hq, h1, h2]
    · simp [Op.eqFields, part, hi, hq, h1, h2]
  · simp [Op.eqFields, part, hi, hq, h1]
theorem exec_neq_entry {o : Oper} {a : Act} {x y : Operand} {u : TypeId} (ho : o.op = .binOp .neq 33 x y u) (p q : Int × Int) (hx : a.eval x = .agg #[.int .i64 p.1, .int .i64 p.2]) (hy : a.eval y = .agg #[.int .i64 q.1, .int .i64 q.2]) (w : World) :
    (execOp a.eval o).run Tryz.prog w = .ok (.value (.bool (!decide (p = q)))) w := by
  unfold execOp
  have hm : Tryz.prog.eqGuardType Tryz.prog.depth 33 = false := by kernel_rfl
  have he := run_equalIn_entry 9998 p q w
  simp only [ho, hx, hy, Sem.run_bind, run_eqGuard_agg (hm := hm), Result.andThen_ok, run_neq_struct, he]
  rfl

set_option maxHeartbeats 4000000 in
theorem same10 {w : World} {va vb : Value} {a b : List (Int × Int)} (ha : EntsAt w va a) (hb : EntsAt w vb b) (hla : a.length ≤ 1000000) :
    Calls Tryz.prog 14 #[va, vb] w fun e w' => e = .returned (.bool (decide (a = b))) ∧ Kept (fun _ => False) w w' := by
  obtain ⟨Aa, ca, rfl, ha1, ha2⟩ := ha.form
  obtain ⟨Ab, cb, rfl, hb1, hb2⟩ := hb.form
  unfold maxLen at ha2 hb2
  by_cases hlen : a.length = b.length
  · have hb' : EntsAt w (.slice Ab a.length cb) b := by rw [hlen]; exact hb
    have hr : Hid ((∀ k, k < a.length → a[k]? = b[k]?) → a = b) := Lib.hid (fun h => List.ext_getElem? fun k => by
      by_cases hk : k < a.length
      · exact h k hk
      · rw [List.getElem?_eq_none (by omega), List.getElem?_eq_none (by omega)])
    have hn : Hid (∀ (k : Nat) (x y : Int × Int), a[k]? = some x → b[k]? = some y → x ≠ y → a ≠ b) := Lib.hid (fun k x y hx hy hne e => by subst e; rw [hx] at hy; cases hy; exact hne rfl)
    have hlb : Hid (∀ k, k < a.length → ∃ y, b[k]? = some y) := Lib.hid (fun k hk => ⟨_, List.getElem?_eq_getElem (by omega)⟩)
    rw [← hlen] at hb1 ⊢
    have ha' := Lib.hid ha
    have hb'' := Lib.hid hb'
    clear ha hb hb' hlen
    go_enter Tryz.func14, Tryz.ntmps14
    go_wp2_with fail
    go_loopw [13] (fun i wr => ∃ k : Nat, k ≤ a.length ∧ i = .int .i64 k ∧ Hid (∀ j, j < k → a[j]? = b[j]?) ∧ Kept (fun _ => False) w wr) (fun i _ => a.length - (intOf i).toNat)
    case atStart => exact ⟨0, Nat.zero_le _, rfl, Lib.hid (fun j hj => by omega), Kept.refl _ _⟩
    case round =>
      obtain ⟨k, hk, rfl, hpre, hkk⟩ := hrel
      by_cases hlt : k < a.length
      · obtain ⟨x, hx⟩ : ∃ x, a[k]? = some x := ⟨_, List.getElem?_eq_getElem hlt⟩
        obtain ⟨y, hy⟩ := hlb.out k hlt
        obtain ⟨ba, oa, rfl, hba, hx1, hx2⟩ := EntsAt.get (SliceAt.fresh ha'.out hkk) hx
        obtain ⟨bb, ob, rfl, hbb, hy1, hy2⟩ := EntsAt.get (SliceAt.fresh hb''.out hkk) hy
        have hki : (k : Int) < (a.length : Int) := by omega
        have lx : Hid (∀ W, Kept (fun _ => False) wr W → ∀ j v, [Value.int .i64 x.1, .int .i64 x.2][j]? = some v → W.cell? ⟨ba, oa + k * 2 + j, none⟩ = some v) := Lib.hid (fun W hW j v hj => by
          match j, hj with
          | 0, hj => cases hj; exact hW.cell hx1 id
          | 1, hj => cases hj; exact hW.cell hx2 id)
        have ly : Hid (∀ W, Kept (fun _ => False) wr W → ∀ j v, [Value.int .i64 y.1, .int .i64 y.2][j]? = some v → W.cell? ⟨bb, ob + k * 2 + j, none⟩ = some v) := Lib.hid (fun W hW j v hj => by
          match j, hj with
          | 0, hj => cases hj; exact hW.cell hy1 id
          | 1, hj => cases hj; exact hW.cell hy2 id)
        have hx' := Lib.hid hx
        have hy' := Lib.hid hy
        have hkk' := Lib.hid hkk
        clear hx hy hx1 hx2 hy1 hy2 hkk
        go_wp2_with fail
        refine wp_region_quiet (C := fun w' => Kept (fun _ => False) wr w') (by kernel_rfl) (by kernel_rfl) (Kept.refl _ _).drew ?_
        refine wpQuiet_step (fun K hK => ?_); go_simp; refine ⟨_, fun _ _ => rfl, hK _ ?_⟩; clear hK K
        refine wpQuiet_step (fun K hK => ?_); go_simp; refine ⟨_, fun _ _ => rfl, hK _ ?_⟩; clear hK K
        refine wpQuiet_step (fun K hK => ?_); go_simp; refine ⟨_, fun _ _ => rfl, hK _ ?_⟩; clear hK K
        refine wpQuiet_step (fun K hK => ?_); refine q_on rfl (q_val (.agg [Value.int .i64 x.1, .int .i64 x.2].toArray) (fun W hW => exec_load_agg (g := ba) (off := oa + k * 2) rfl rfl [.int .i64 x.1, .int .i64 x.2] Tryz.underlying33 rfl (by kernel_rfl) (lx.out W hW)) (hK _ ?_)); clear hK K
        refine wpQuiet_step (fun K hK => ?_); go_simp; refine ⟨_, fun _ _ => rfl, hK _ ?_⟩; clear hK K
        refine wpQuiet_step (fun K hK => ?_); go_simp; refine ⟨_, fun _ _ => rfl, hK _ ?_⟩; clear hK K
        refine wpQuiet_step (fun K hK => ?_); go_simp; refine ⟨_, fun _ _ => rfl, hK _ ?_⟩; clear hK K
        refine wpQuiet_step (fun K hK => ?_); refine q_on rfl (q_val (.agg [Value.int .i64 y.1, .int .i64 y.2].toArray) (fun W hW => exec_load_agg (g := bb) (off := ob + k * 2) rfl rfl [.int .i64 y.1, .int .i64 y.2] Tryz.underlying33 rfl (by kernel_rfl) (ly.out W hW)) (hK _ ?_)); clear hK K
        obtain ⟨z, hz⟩ : ∃ z, decide (x = y) = z := ⟨_, rfl⟩
        refine wpQuiet_step (fun K hK => ?_); refine q_on rfl (q_val (.bool (!z)) (fun W hW => by rw [← hz]; exact exec_neq_entry rfl x y rfl rfl W) (hK _ ?_)); clear hK K
        refine wpQuiet_nil ?_
        intro w9 hw9
        have hw9' := Lib.hid hw9
        clear hw9 lx ly
        cases z with
        | true =>
          have hxy := of_decide_eq_true hz
          clear hz
          go_wp2_with fail
          go_roundw
          case rel => exact ⟨k + 1, by omega, by go_num, Lib.hid (fun j hj => by
            by_cases e : j = k
            · rw [e, hx'.out, hy'.out, hxy]
            · exact hpre.out j (by omega)), hkk'.out.trans hw9'.out⟩
          case measure => simp [intOf]; omega
        | false =>
          have he : Hid (decide (a = b) = false) := Lib.hid (by rw [decide_eq_false_iff_not]; exact hn.out k x y hx'.out hy'.out (of_decide_eq_false hz))
          clear hz
          go_wp2_with fail
          go_ret
          exact ⟨by rw [he.out]; rfl, hkk'.out.trans hw9'.out⟩
      · obtain rfl : k = a.length := by omega
        have he : Hid (decide (a = b) = true) := Lib.hid (by simpa using hr.out hpre.out)
        go_wp2_with fail
        go_ret
        exact ⟨by rw [he.out]; rfl, hkk⟩
  · have he : Hid (decide (a = b) = false) := Lib.hid (by rw [decide_eq_false_iff_not]; exact fun e => hlen (by rw [e]))
    clear ha hb
    go_enter Tryz.func14, Tryz.ntmps14
    go_wp2_with fail
    go_ret
    exact ⟨by rw [he.out]; rfl, Kept.refl _ _⟩
end Go.Proofs.YthmjcbmeiabbgaaGreat
/-
  The document's entries: understudyref10.Cut, Find and Put.
-/
namespace Go.Proofs.YthmjcbmeiabbgaaGreat
open Go.RowKit
set_option maxRecDepth 100000

theorem cutL_take {l : List (Int × Int)} {k : Nat} {y : Int × Int} (h : l[k]? = some y) (key : Int) : cutL (l.take (k + 1)) key = cutL (l.take k) key ++ (if y.1 = key then [] else [y]) := by
  rw [List.take_add_one, h]
  unfold cutL
  rw [List.filter_append]
  congr 1
  by_cases e : y.1 = key <;> simp [e]
theorem owns_le' {w : World} {base base' : Nat} {e : TypeId} {sz : Nat} {v : Value} {n : Nat} {xs : List Value} (h : w.ownsRow base e sz v n xs) (hb : base' ≤ base) : w.ownsRow base' e sz v n xs :=
  ⟨h.1, h.2.imp id fun ⟨g, cap, cur, h1, h2, h3⟩ => ⟨g, cap, cur, h1, Nat.le_trans hb h2, h3⟩⟩
/-- Where a loop over entries, with a list of its own, stands. -/
structure RfSt (w0 : World) (u : Value) (out : List (Int × Int)) (wr : World) : Prop where
  kept : Kept (fun _ => False) w0 wr
  row : wr.ownsRow w0.heap.size 33 2 u out.length (entCells out)
theorem RfSt.fresh {w0 wr w' : World} {u : Value} {out : List (Int × Int)} (h : RfSt w0 u out wr) (k : Kept (fun _ => False) wr w') : RfSt w0 u out w' := ⟨h.kept.trans k, ownsRow.keptOf h.row k (fun _ _ => id)⟩

set_option maxHeartbeats 4000000 in
theorem refFind10 {w : World} {va : Value} {l : List (Int × Int)} (hv : EntsAt w va l) (hl : l.length ≤ 1000) (key : Int) :
    Calls Tryz.prog 20 #[va, .int .i64 key] w fun e w' => e = .returned (.int .i64 (findL l key)) ∧ Kept (fun _ => False) w w' := by
  obtain ⟨Av, cap, rfl, hf1, hf2⟩ := hv.form
  unfold maxLen at hf2
  have hv' := Lib.hid hv
  have hdone : Hid (findL (l.drop l.length) key = -1) := Lib.hid (by rw [List.drop_eq_nil_of_le (Nat.le_refl _)]; rfl)
  clear hv
  go_enter Tryz.func20, Tryz.ntmps20
  go_wp2_with fail
  go_loopw [9] (fun i wr => ∃ (k : Nat), k ≤ l.length ∧ i = .int .i64 k ∧ findL l key = findL (l.drop k) key ∧ Hid (RfSt w (.slice none 0 0) [] wr)) (fun i _ => l.length - (intOf i).toNat)
  case atStart => exact ⟨0, Nat.zero_le _, rfl, rfl, Lib.hid ⟨Kept.refl _ _, World.ownsRow_nil _ _ _ _⟩⟩
  case round =>
    obtain ⟨k, hk, rfl, hfk, hI⟩ := hrel
    by_cases hlt : k < l.length
    · obtain ⟨y, hy⟩ : ∃ y, l[k]? = some y := ⟨_, List.getElem?_eq_getElem hlt⟩
      obtain ⟨eb, eo, rfl, heb, hy1c, hy2c⟩ := EntsAt.get (SliceAt.fresh hv'.out (hI.out.kept)) hy
      have hki : (k : Int) < (l.length : Int) := by omega
      have hlo : Hid (∀ i v, [Value.int .i64 y.1, .int .i64 y.2][i]? = some v → wr.cell? ⟨eb, eo + k * 2 + i, none⟩ = some v) := Lib.hid (fun i v hi => by
        match i, hi with
        | 0, hi => cases hi; exact hy1c
        | 1, hi => cases hi; exact hy2c)
      obtain ⟨xb, hxb⟩ : ∃ xb, wr.heap.size = xb := ⟨_, rfl⟩
      obtain ⟨wx, hwx⟩ : ∃ wx, (wr.alloc (.cells #[.int .i64 0, .int .i64 0] 33)).setRow xb #[.int .i64 y.1, .int .i64 y.2] = wx := ⟨_, rfl⟩
      have kx : Kept (fun _ => False) wr wx := by rw [← hwx]; exact ((Kept.refl _ _).alloc _).setRowNew (by omega) _
      have qx : wx.heap[xb]? = some (.cells #[.int .i64 y.1, .int .i64 y.2] 33 (0, 0)) := by rw [← hwx, ← hxb]; exact setRow_heap _ _ _ _ _ _ (heap_alloc_new _ _)
      have cx0 : wx.cell? ⟨xb, 0, none⟩ = some (.int .i64 y.1) := by rw [cell_of_heap qx]; rfl
      have cx1 : wx.cell? ⟨xb, 1, none⟩ = some (.int .i64 y.2) := by rw [cell_of_heap qx]; rfl
      have hlx : Hid (∀ i v, [Value.int .i64 y.1, .int .i64 y.2][i]? = some v → wx.cell? ⟨xb, 0 + i, none⟩ = some v) := Lib.hid (fun i v hi => by rw [cell_of_heap qx, Nat.zero_add]; simpa using hi)
      have Ix := Lib.hid (hI.out.fresh kx)
      have hxb' := Lib.hid hxb
      have hwx' := Lib.hid hwx
      have hy' := Lib.hid hy
      clear hy hy1c hy2c kx qx hxb hwx hI
      have hstep : Hid (findL (l.drop k) key = if y.1 = key then y.2 else findL (l.drop (k + 1)) key) := Lib.hid (by rw [List.drop_eq_getElem_cons hlt]; have e := (List.getElem?_eq_some_iff.1 hy'.out).2; rw [e]; rfl)
      by_cases he : y.1 = key
      · have hbe : (y.1 == key) = true := by simp [he]
        have fin : Hid (findL l key = y.2) := Lib.hid (by rw [hfk, hstep.out, if_pos he])
        clear he hfk
        go_wp2_with (first | (refine wpList_load_agg 33 rfl rfl rfl _ Tryz.underlying33 rfl [.int .i64 y.1, .int .i64 y.2] (by kernel_rfl) hlo.out ?_) | (refine wpList_load_agg 33 rfl rfl rfl _ Tryz.underlying33 rfl [.int .i64 y.1, .int .i64 y.2] (by kernel_rfl) hlx.out ?_) | (refine wpList_alloc_as 33 rfl rfl #[.int .i64 0, .int .i64 0] (by kernel_rfl) ?_; rw [hxb'.out]) | (refine wpList_store_whole 33 rfl rfl rfl [.int .i64 y.1, .int .i64 y.2] rfl (by kernel_rfl) 33 #[.int .i64 0, .int .i64 0] (by rw [← hxb'.out]; exact heap_alloc_new _ _) rfl (by intro c hc; simp at hc; rcases hc with rfl | rfl <;> rfl) ?_; rw [hwx'.out]))
        go_ret
        exact ⟨by rw [fin.out]; rfl, Ix.out.kept⟩
      · have hbe : (y.1 == key) = false := by simp [he]
        have fin : Hid (findL l key = findL (l.drop (k + 1)) key) := Lib.hid (by rw [hfk, hstep.out, if_neg he])
        clear he hfk
        go_wp2_with (first | (refine wpList_load_agg 33 rfl rfl rfl _ Tryz.underlying33 rfl [.int .i64 y.1, .int .i64 y.2] (by kernel_rfl) hlo.out ?_) | (refine wpList_load_agg 33 rfl rfl rfl _ Tryz.underlying33 rfl [.int .i64 y.1, .int .i64 y.2] (by kernel_rfl) hlx.out ?_) | (refine wpList_alloc_as 33 rfl rfl #[.int .i64 0, .int .i64 0] (by kernel_rfl) ?_; rw [hxb'.out]) | (refine wpList_store_whole 33 rfl rfl rfl [.int .i64 y.1, .int .i64 y.2] rfl (by kernel_rfl) 33 #[.int .i64 0, .int .i64 0] (by rw [← hxb'.out]; exact heap_alloc_new _ _) rfl (by intro c hc; simp at hc; rcases hc with rfl | rfl <;> rfl) ?_; rw [hwx'.out]))
        go_roundw
        case rel => exact ⟨k + 1, by omega, by go_num, fin.out, Ix⟩
        case measure => simp [intOf]; omega
    · obtain rfl : k = l.length := by omega
      rw [hdone.out] at hfk
      have fin := Lib.hid hfk
      have kk := Lib.hid hI.out.kept
      go_wp2_with fail
      go_ret
      exact ⟨by rw [fin.out]; rfl, kk.out⟩
set_option maxHeartbeats 4000000 in
theorem refCut10 {w : World} {va : Value} {l : List (Int × Int)} (hv : EntsAt w va l) (hl : l.length ≤ 1000) (key : Int) :
    Calls Tryz.prog 24 #[va, .int .i64 key] w fun e w' => ∃ u, e = .returned (.tuple #[u, .bool (decide ((cutL l key).length < l.length))]) ∧
      w'.ownsRow w.heap.size 33 2 u (cutL l key).length (entCells (cutL l key)) ∧ Kept (fun _ => False) w w' := by
  obtain ⟨Av, cap, rfl, hf1, hf2⟩ := hv.form
  unfold maxLen at hf2
  have hv' := Lib.hid hv
  clear hv
  go_enter Tryz.func24, Tryz.ntmps24
  go_wp2_with fail
  have I0 : Hid (RfSt w (.slice (some ⟨w.heap.size, 0, none⟩) 0 0) (cutL (l.take 0) key) (w.alloc (.cells #[] 33))) := Lib.hid ⟨(Kept.refl _ _).alloc _, owns_empty w w.heap.size w.heap.size 33 2 (Nat.le_refl _) rfl⟩
  go_loopw [6, 12] (fun u i wr => ∃ (k : Nat), k ≤ l.length ∧ i = .int .i64 k ∧ Hid (RfSt w u (cutL (l.take k) key) wr)) (fun _ i _ => l.length - (intOf i).toNat)
  case atStart => exact ⟨0, Nat.zero_le _, rfl, I0⟩
  case round =>
    obtain ⟨k, hk, rfl, hI⟩ := hrel
    obtain ⟨Au, cu, rfl, hu1, hu2⟩ := EntsAt.form (show EntsAt wr _ (cutL (l.take k) key) from SliceAt.of_owns hI.out.row)
    unfold maxLen at hu2
    by_cases hlt : k < l.length
    · obtain ⟨y, hy⟩ : ∃ y, l[k]? = some y := ⟨_, List.getElem?_eq_getElem hlt⟩
      obtain ⟨eb, eo, rfl, heb, hy1c, hy2c⟩ := EntsAt.get (SliceAt.fresh hv'.out (hI.out.kept)) hy
      have hki : (k : Int) < (l.length : Int) := by omega
      have hlo : Hid (∀ i v, [Value.int .i64 y.1, .int .i64 y.2][i]? = some v → wr.cell? ⟨eb, eo + k * 2 + i, none⟩ = some v) := Lib.hid (fun i v hi => by
        match i, hi with
        | 0, hi => cases hi; exact hy1c
        | 1, hi => cases hi; exact hy2c)
      obtain ⟨xb, hxb⟩ : ∃ xb, wr.heap.size = xb := ⟨_, rfl⟩
      obtain ⟨wx, hwx⟩ : ∃ wx, (wr.alloc (.cells #[.int .i64 0, .int .i64 0] 33)).setRow xb #[.int .i64 y.1, .int .i64 y.2] = wx := ⟨_, rfl⟩
      have kx : Kept (fun _ => False) wr wx := by rw [← hwx]; exact ((Kept.refl _ _).alloc _).setRowNew (by omega) _
      have qx : wx.heap[xb]? = some (.cells #[.int .i64 y.1, .int .i64 y.2] 33 (0, 0)) := by rw [← hwx, ← hxb]; exact setRow_heap _ _ _ _ _ _ (heap_alloc_new _ _)
      have cx0 : wx.cell? ⟨xb, 0, none⟩ = some (.int .i64 y.1) := by rw [cell_of_heap qx]; rfl
      have cx1 : wx.cell? ⟨xb, 1, none⟩ = some (.int .i64 y.2) := by rw [cell_of_heap qx]; rfl
      have hlx : Hid (∀ i v, [Value.int .i64 y.1, .int .i64 y.2][i]? = some v → wx.cell? ⟨xb, 0 + i, none⟩ = some v) := Lib.hid (fun i v hi => by rw [cell_of_heap qx, Nat.zero_add]; simpa using hi)
      have Ix := Lib.hid (hI.out.fresh kx)
      have hxb' := Lib.hid hxb
      have hwx' := Lib.hid hwx
      have hy' := Lib.hid hy
      clear hy hy1c hy2c kx qx hxb hwx hI
      have hnext := cutL_take hy'.out key
      by_cases he : y.1 = key
      · have hbe : (y.1 == key) = true := by simp [he]
        rw [if_pos he, List.append_nil] at hnext
        have fin : Hid (RfSt w (.slice Au (cutL (l.take k) key).length cu) (cutL (l.take (k + 1)) key) wx) := Lib.hid (by rw [hnext]; exact Ix.out)
        clear he hnext
        go_wp2_with (first | (refine wpList_load_agg 33 rfl rfl rfl _ Tryz.underlying33 rfl [.int .i64 y.1, .int .i64 y.2] (by kernel_rfl) hlo.out ?_) | (refine wpList_load_agg 33 rfl rfl rfl _ Tryz.underlying33 rfl [.int .i64 y.1, .int .i64 y.2] (by kernel_rfl) hlx.out ?_) | (refine wpList_alloc_as 33 rfl rfl #[.int .i64 0, .int .i64 0] (by kernel_rfl) ?_; rw [hxb'.out]) | (refine wpList_store_whole 33 rfl rfl rfl [.int .i64 y.1, .int .i64 y.2] rfl (by kernel_rfl) 33 #[.int .i64 0, .int .i64 0] (by rw [← hxb'.out]; exact heap_alloc_new _ _) rfl (by intro c hc; simp at hc; rcases hc with rfl | rfl <;> rfl) ?_; rw [hwx'.out]))
        go_roundw
        case rel => exact ⟨k + 1, by omega, by go_num, fin⟩
        case measure => simp [intOf]; omega
      · have hbe : (y.1 == key) = false := by simp [he]
        rw [if_neg he] at hnext
        have hnext' := Lib.hid hnext
        have hcl : (cutL (l.take k) key).length ≤ 1000 := by have h1 : (cutL (l.take k) key).length ≤ (l.take k).length := List.length_filter_le _ _; rw [List.length_take] at h1; omega
        have R5 := Lib.hid (ownsRow.keptOf Ix.out.row ((Kept.refl (fun _ => False) wx).alloc (.cells #[.int .i64 y.1, .int .i64 y.2] 33)) (fun _ _ => id))
        have K5 := Lib.hid (Ix.out.kept.trans ((Kept.refl (fun _ => False) wx).alloc (.cells #[.int .i64 y.1, .int .i64 y.2] 33)))
        clear he hnext
        go_wp2_with (first | (refine wpList_load_agg 33 rfl rfl rfl _ Tryz.underlying33 rfl [.int .i64 y.1, .int .i64 y.2] (by kernel_rfl) hlo.out ?_) | (refine wpList_load_agg 33 rfl rfl rfl _ Tryz.underlying33 rfl [.int .i64 y.1, .int .i64 y.2] (by kernel_rfl) hlx.out ?_) | (refine wpList_alloc_as 33 rfl rfl #[.int .i64 0, .int .i64 0] (by kernel_rfl) ?_; rw [hxb'.out]) | (refine wpList_store_whole 33 rfl rfl rfl [.int .i64 y.1, .int .i64 y.2] rfl (by kernel_rfl) 33 #[.int .i64 0, .int .i64 0] (by rw [← hxb'.out]; exact heap_alloc_new _ _) rfl (by intro c hc; simp at hc; rcases hc with rfl | rfl <;> rfl) ?_; rw [hwx'.out]) | (at_builtin; refine wpList_append_src rfl elemEntry (.tmp 20) (.tmp 22) rfl (by rfl) (by rfl) R5.out (SliceAt.block_new (ys := [.int .i64 y.1, .int .i64 y.2]) (m := 1) (heap_alloc_new _ _) (by rfl) (by decide)) (by intro c hc; simp at hc; rcases hc with rfl | rfl <;> rfl) (by omega) (by omega) K5.out.size ?_; intro v2 w10 hown10 hg10 hat10))
        have fin : Hid (RfSt w v2 (cutL (l.take (k + 1)) key) w10) := Lib.hid (by rw [hnext'.out]; exact ⟨K5.out.trans_new (Kept.of_grown hg10) (fun i hi e => absurd hi (Nat.not_lt.2 (R5.out.lt i e).1)), by rw [entCells_append, List.length_append]; exact hown10⟩)
        clear hown10 hg10 hat10
        go_wp2_with fail
        go_roundw
        case rel => exact ⟨k + 1, by omega, by go_num, fin⟩
        case measure => simp [intOf]; omega
    · obtain rfl : k = l.length := by omega
      rw [List.take_length] at hI
      rw [List.take_length] at hu1
      go_wp2_with fail
      go_ret2
      exact ⟨.slice Au (cutL l key).length cu, by simp, hI.out.row, hI.out.kept⟩
theorem RfSt.app {w1 wx w10 : World} {u v2 : Value} {o : List (Int × Int)} {x : Int × Int} (I : RfSt w1 u o wx)
    (R : (wx.alloc (.cells #[.int .i64 x.1, .int .i64 x.2] 33)).ownsRow w1.heap.size 33 2 u o.length (entCells o))
    (hown : w10.ownsRow w1.heap.size 33 2 v2 (o.length + 1) (entCells o ++ [.int .i64 x.1, .int .i64 x.2]))
    (hg : (wx.alloc (.cells #[.int .i64 x.1, .int .i64 x.2] 33)).grownBy w10 u.ownBlock) :
    RfSt w1 v2 (o ++ [x]) w10 ∧ ∀ c v, wx.cell? c = some v → u.ownBlock ≠ some c.block → w10.cell? c = some v :=
  ⟨⟨(I.kept.trans ((Kept.refl (fun _ => False) wx).alloc _)).trans_new (Kept.of_grown hg) (fun i hi e => absurd hi (Nat.not_lt.2 (R.lt i e).1)), by rw [entCells_append, List.length_append]; exact hown⟩,
    fun _ _ hc hne => (Kept.of_grown hg).cell (((Kept.refl (fun _ => False) wx).alloc _).cell hc id) hne⟩
theorem pair_load {w : World} {b : Nat} {y : Int × Int} (h0 : w.cell? ⟨b, 0, none⟩ = some (.int .i64 y.1)) (h1 : w.cell? ⟨b, 1, none⟩ = some (.int .i64 y.2)) : ∀ i v, [Value.int .i64 y.1, .int .i64 y.2][i]? = some v → w.cell? ⟨b, 0 + i, none⟩ = some v := fun i v hi => by
  match i, hi with
  | 0, hi => cases hi; exact h0
  | 1, hi => cases hi; exact h1
theorem putStep_fst (x y : Int × Int) (s : List (Int × Int) × Bool) : (putStep x s y).1.length ≤ s.1.length + 2 := by
  unfold putStep
  dsimp only
  split <;> split <;> simp
theorem putTake_len (x : Int × Int) (l : List (Int × Int)) : (l.foldl (putStep x) ([], false)).1.length ≤ 2 * l.length := by
  have key : ∀ (l : List (Int × Int)) (s : List (Int × Int) × Bool), (l.foldl (putStep x) s).1.length ≤ s.1.length + 2 * l.length := by
    intro l
    induction l with
    | nil => intro s; simp
    | cons y l ih =>
      intro s
      rw [List.foldl_cons, List.length_cons]
      have h1 := ih (putStep x s y)
      have h2 := putStep_fst x y s
      omega
  simpa using key l ([], false)
theorem putTake_succ {l : List (Int × Int)} {k : Nat} {y : Int × Int} (h : l[k]? = some y) (x : Int × Int) : (l.take (k + 1)).foldl (putStep x) ([], false) = putStep x ((l.take k).foldl (putStep x) ([], false)) y := by
  rw [List.take_add_one, h, List.foldl_append]
  rfl
set_option maxHeartbeats 8000000 in
theorem refPut10 {w : World} {va : Value} {l : List (Int × Int)} (hv : EntsAt w va l) (hl : l.length ≤ 1000) (x : Int × Int) (hx : 0 ≤ x.1 ∧ x.1 ≤ 63) :
    Calls Tryz.prog 11 #[va, .agg #[.int .i64 x.1, .int .i64 x.2]] w fun e w' => ∃ u, e = .returned (.tuple #[u, .int .i64 0]) ∧
      w'.ownsRow w.heap.size 33 2 u (refPut l x).length (entCells (refPut l x)) ∧ Kept (fun _ => False) w w' := by
  obtain ⟨Av, cap, rfl, hf1, hf2⟩ := hv.form
  unfold maxLen at hf2
  obtain ⟨cb, hcb⟩ : ∃ cb, w.heap.size = cb := ⟨_, rfl⟩
  obtain ⟨w1, hw1⟩ : ∃ w1, w.alloc (.cells #[.int .i64 x.1, .int .i64 x.2] 33) = w1 := ⟨_, rfl⟩
  have k1 := Lib.hid (show Kept (fun _ => False) w w1 by rw [← hw1]; exact (Kept.refl _ _).alloc _)
  have t1 := Lib.hid (show w1.heap[cb]? = some (.cells #[.int .i64 x.1, .int .i64 x.2] 33 (0, 0)) by rw [← hw1, ← hcb]; exact heap_alloc_new _ _)
  have hw1' := Lib.hid hw1
  have hcb' := Lib.hid hcb
  have hv' := Lib.hid hv
  have c10 := cell_of_heap t1.out 0
  have c11 := cell_of_heap t1.out 1
  simp at c10 c11
  have hb0 : decide (x.1 < 0) = false := by rw [decide_eq_false_iff_not]; omega
  have hb1 : decide (63 < x.1) = false := by rw [decide_eq_false_iff_not]; omega
  have hX : Hid (∀ W, Kept (fun _ => False) w1 W → ∀ i v, [Value.int .i64 x.1, .int .i64 x.2][i]? = some v → W.cell? ⟨cb, 0 + i, none⟩ = some v) := Lib.hid (fun W hW i v hi => by rw [cell_of_heap (hW.get t1.out id), Nat.zero_add]; simpa using hi)
  clear hv hw1 hx hcb
  go_enter Tryz.func11, Tryz.ntmps11
  go_wp2_with (first | (refine wpList_box_named 33 rfl rfl _ rfl hw1'.out ?_; rw [hcb'.out]))
  have I0 : Hid (RfSt w1 (.slice (some ⟨w1.heap.size, 0, none⟩) 0 0) ((l.take 0).foldl (putStep x) ([], false)).1 (w1.alloc (.cells #[] 33))) := Lib.hid ⟨(Kept.refl _ _).alloc _, owns_empty w1 w1.heap.size w1.heap.size 33 2 (Nat.le_refl _) rfl⟩
  go_loopw [6, 7, 22] (fun u b i wr => ∃ (k : Nat), k ≤ l.length ∧ i = .int .i64 k ∧ b = .bool ((l.take k).foldl (putStep x) ([], false)).2 ∧ Hid (RfSt w1 u ((l.take k).foldl (putStep x) ([], false)).1 wr)) (fun _ _ i _ => l.length - (intOf i).toNat)
  case atStart => exact ⟨0, Nat.zero_le _, rfl, rfl, I0⟩
  case round =>
    obtain ⟨k, hk, rfl, rfl, hI⟩ := hrel
    by_cases hlt : k < l.length
    · obtain ⟨y, hy⟩ : ∃ y, l[k]? = some y := ⟨_, List.getElem?_eq_getElem hlt⟩
      obtain ⟨eb, eo, rfl, heb, hy1c, hy2c⟩ := EntsAt.get (SliceAt.fresh hv'.out (k1.out.trans hI.out.kept)) hy
      have hki : (k : Int) < (l.length : Int) := by omega
      have hlo : Hid (∀ i v, [Value.int .i64 y.1, .int .i64 y.2][i]? = some v → wr.cell? ⟨eb, eo + k * 2 + i, none⟩ = some v) := Lib.hid (fun i v hi => by
        match i, hi with
        | 0, hi => cases hi; exact hy1c
        | 1, hi => cases hi; exact hy2c)
      obtain ⟨xb, hxb⟩ : ∃ xb, wr.heap.size = xb := ⟨_, rfl⟩
      obtain ⟨wx, hwx⟩ : ∃ wx, (wr.alloc (.cells #[.int .i64 0, .int .i64 0] 33)).setRow xb #[.int .i64 y.1, .int .i64 y.2] = wx := ⟨_, rfl⟩
      have kx : Kept (fun _ => False) wr wx := by rw [← hwx]; exact ((Kept.refl _ _).alloc _).setRowNew (by omega) _
      have qx : wx.heap[xb]? = some (.cells #[.int .i64 y.1, .int .i64 y.2] 33 (0, 0)) := by rw [← hwx, ← hxb]; exact setRow_heap _ _ _ _ _ _ (heap_alloc_new _ _)
      have cx0 : wx.cell? ⟨xb, 0, none⟩ = some (.int .i64 y.1) := by rw [cell_of_heap qx]; rfl
      have cx1 : wx.cell? ⟨xb, 1, none⟩ = some (.int .i64 y.2) := by rw [cell_of_heap qx]; rfl
      have hlx : Hid (∀ i v, [Value.int .i64 y.1, .int .i64 y.2][i]? = some v → wx.cell? ⟨xb, 0 + i, none⟩ = some v) := Lib.hid (fun i v hi => by rw [cell_of_heap qx, Nat.zero_add]; simpa using hi)
      have Ix := Lib.hid (hI.out.fresh kx)
      have hxb' := Lib.hid hxb
      have hwx' := Lib.hid hwx
      have hy' := Lib.hid hy
      have hstep := putTake_succ hy x
      have hlen := putTake_len x (l.take k)
      rw [List.length_take] at hlen
      obtain ⟨S, hS⟩ : ∃ S, (l.take k).foldl (putStep x) ([], false) = S := ⟨_, rfl⟩
      rw [hS] at hstep Ix hlen hI
      simp only [hS]
      obtain ⟨o, d⟩ := S
      dsimp only at Ix hlen hI ⊢
      obtain ⟨Au, cu, rfl, hu1, hu2⟩ := EntsAt.form (show EntsAt wr _ o from SliceAt.of_owns hI.out.row)
      unfold maxLen at hu2
      have hrl : Hid (∀ b, (Value.slice Au o.length cu).ownBlock = some b → b < xb) := Lib.hid (fun b hb => by rw [← hxb]; exact (hI.out.row.lt b hb).2)
      have ho : o.length ≤ 2000 := by omega
      have hxl := Lib.hid (hX.out wx Ix.out.kept)
      have cX0 := hxl.out 0 _ rfl
      simp at cX0
      have hstep' := Lib.hid hstep
      clear hy hy1c hy2c kx qx hxb hwx hI hS hstep hlen
      have RX := Lib.hid (ownsRow.keptOf Ix.out.row ((Kept.refl (fun _ => False) wx).alloc (.cells #[.int .i64 x.1, .int .i64 x.2] 33)) (fun _ _ => id))
      have KX := Lib.hid (Ix.out.kept.trans ((Kept.refl (fun _ => False) wx).alloc (.cells #[.int .i64 x.1, .int .i64 x.2] 33)))
      have R5 := Lib.hid (ownsRow.keptOf Ix.out.row ((Kept.refl (fun _ => False) wx).alloc (.cells #[.int .i64 y.1, .int .i64 y.2] 33)) (fun _ _ => id))
      have K5 := Lib.hid (Ix.out.kept.trans ((Kept.refl (fun _ => False) wx).alloc (.cells #[.int .i64 y.1, .int .i64 y.2] 33)))
      by_cases he : y.1 = x.1
      · have hbe : (y.1 == x.1) = true := by simp [he]
        cases d with
        | false =>
          have hge : decide (x.1 ≤ y.1) = true := by rw [decide_eq_true_eq]; omega
          have hn : Hid (putStep x (o, false) y = (o ++ [x], true)) := Lib.hid (by unfold putStep; have : x.1 ≤ x.1 := Int.le_refl _; simp [he])
          clear he
          go_wp2_with (first | (refine wpList_load_agg 33 rfl rfl rfl _ Tryz.underlying33 rfl [.int .i64 y.1, .int .i64 y.2] (by kernel_rfl) hlo.out ?_) | (refine wpList_load_agg 33 rfl rfl rfl _ Tryz.underlying33 rfl [.int .i64 y.1, .int .i64 y.2] (by kernel_rfl) hlx.out ?_) | (refine wpList_alloc_as 33 rfl rfl #[.int .i64 0, .int .i64 0] (by kernel_rfl) ?_; rw [hxb'.out]) | (refine wpList_store_whole 33 rfl rfl rfl [.int .i64 y.1, .int .i64 y.2] rfl (by kernel_rfl) 33 #[.int .i64 0, .int .i64 0] (by rw [← hxb'.out]; exact heap_alloc_new _ _) rfl (by intro c hc; simp at hc; rcases hc with rfl | rfl <;> rfl) ?_; rw [hwx'.out]) | (refine wpList_load_agg 33 rfl rfl rfl _ Tryz.underlying33 rfl [.int .i64 x.1, .int .i64 x.2] (by kernel_rfl) hxl.out ?_) | (at_builtin; refine wpList_append_src rfl elemEntry (.tmp 35) (.tmp 37) rfl (by rfl) (by rfl) RX.out (SliceAt.block_new (ys := [.int .i64 x.1, .int .i64 x.2]) (m := 1) (heap_alloc_new _ _) (by rfl) (by decide)) (by intro c hc; simp at hc; rcases hc with rfl | rfl <;> rfl) (by omega) (by omega) KX.out.size ?_; intro v2 w10 hown10 hg10 hat10; have hap := RfSt.app Ix.out RX.out hown10 hg10; obtain ⟨IA0, hcl⟩ := hap; have IA := Lib.hid IA0; clear IA0; have ca0 := hcl _ _ cx0 (fun e => Nat.lt_irrefl _ (hrl.out _ e)); have ca1 := hcl _ _ cx1 (fun e => Nat.lt_irrefl _ (hrl.out _ e)); have hla := Lib.hid (pair_load ca0 ca1); have cXa := hX.out w10 IA.out.kept 0 _ rfl; simp at cXa; have hoa : (o ++ [x]).length ≤ 2001 := (by rw [List.length_append]; simp; omega); obtain ⟨o2, ho2⟩ : ∃ o2, o ++ [x] = o2 := ⟨_, rfl⟩; rw [ho2] at IA hoa; have RZ := Lib.hid (ownsRow.keptOf IA.out.row ((Kept.refl (fun _ => False) w10).alloc (.cells #[.int .i64 y.1, .int .i64 y.2] 33)) (fun _ _ => id)); have KZ := Lib.hid (IA.out.kept.trans ((Kept.refl (fun _ => False) w10).alloc (.cells #[.int .i64 y.1, .int .i64 y.2] 33))); clear hown10 hg10 hat10 hcl))
          have fin : Hid (RfSt w1 v2 (o ++ [x]) w10) := Lib.hid (by rw [ho2]; exact IA.out)
          go_wp2_with fail
          go_roundw
          case rel => exact ⟨k + 1, by omega, by go_num, by rw [hstep'.out, hn.out], by rw [hstep'.out, hn.out]; exact fin⟩
          case measure => simp [intOf]; omega
        | true =>
          have hn : Hid (putStep x (o, true) y = (o, true)) := Lib.hid (by unfold putStep; simp [he])
          clear he
          go_wp2_with (first | (refine wpList_load_agg 33 rfl rfl rfl _ Tryz.underlying33 rfl [.int .i64 y.1, .int .i64 y.2] (by kernel_rfl) hlo.out ?_) | (refine wpList_load_agg 33 rfl rfl rfl _ Tryz.underlying33 rfl [.int .i64 y.1, .int .i64 y.2] (by kernel_rfl) hlx.out ?_) | (refine wpList_alloc_as 33 rfl rfl #[.int .i64 0, .int .i64 0] (by kernel_rfl) ?_; rw [hxb'.out]) | (refine wpList_store_whole 33 rfl rfl rfl [.int .i64 y.1, .int .i64 y.2] rfl (by kernel_rfl) 33 #[.int .i64 0, .int .i64 0] (by rw [← hxb'.out]; exact heap_alloc_new _ _) rfl (by intro c hc; simp at hc; rcases hc with rfl | rfl <;> rfl) ?_; rw [hwx'.out]) | (refine wpList_load_agg 33 rfl rfl rfl _ Tryz.underlying33 rfl [.int .i64 x.1, .int .i64 x.2] (by kernel_rfl) hxl.out ?_))
          have fin := Ix
          go_roundw
          case rel => exact ⟨k + 1, by omega, by go_num, by rw [hstep'.out, hn.out], by rw [hstep'.out, hn.out]; exact fin⟩
          case measure => simp [intOf]; omega
      · have hbe : (y.1 == x.1) = false := by simp [he]
        cases d with
        | false =>
          by_cases hge0 : x.1 ≤ y.1
          · have hge : decide (x.1 ≤ y.1) = true := by rw [decide_eq_true_eq]; exact hge0
            have hn : Hid (putStep x (o, false) y = (o ++ [x] ++ [y], true)) := Lib.hid (by unfold putStep; simp [he, hge0])
            clear he hge0
            go_wp2_with (first | (refine wpList_load_agg 33 rfl rfl rfl _ Tryz.underlying33 rfl [.int .i64 y.1, .int .i64 y.2] (by kernel_rfl) hlo.out ?_) | (refine wpList_load_agg 33 rfl rfl rfl _ Tryz.underlying33 rfl [.int .i64 y.1, .int .i64 y.2] (by kernel_rfl) hlx.out ?_) | (refine wpList_alloc_as 33 rfl rfl #[.int .i64 0, .int .i64 0] (by kernel_rfl) ?_; rw [hxb'.out]) | (refine wpList_store_whole 33 rfl rfl rfl [.int .i64 y.1, .int .i64 y.2] rfl (by kernel_rfl) 33 #[.int .i64 0, .int .i64 0] (by rw [← hxb'.out]; exact heap_alloc_new _ _) rfl (by intro c hc; simp at hc; rcases hc with rfl | rfl <;> rfl) ?_; rw [hwx'.out]) | (refine wpList_load_agg 33 rfl rfl rfl _ Tryz.underlying33 rfl [.int .i64 x.1, .int .i64 x.2] (by kernel_rfl) hxl.out ?_) | (at_builtin; refine wpList_append_src rfl elemEntry (.tmp 35) (.tmp 37) rfl (by rfl) (by rfl) RX.out (SliceAt.block_new (ys := [.int .i64 x.1, .int .i64 x.2]) (m := 1) (heap_alloc_new _ _) (by rfl) (by decide)) (by intro c hc; simp at hc; rcases hc with rfl | rfl <;> rfl) (by omega) (by omega) KX.out.size ?_; intro v2 w10 hown10 hg10 hat10; have hap := RfSt.app Ix.out RX.out hown10 hg10; obtain ⟨IA0, hcl⟩ := hap; have IA := Lib.hid IA0; clear IA0; have ca0 := hcl _ _ cx0 (fun e => Nat.lt_irrefl _ (hrl.out _ e)); have ca1 := hcl _ _ cx1 (fun e => Nat.lt_irrefl _ (hrl.out _ e)); have hla := Lib.hid (pair_load ca0 ca1); have cXa := hX.out w10 IA.out.kept 0 _ rfl; simp at cXa; have hoa : (o ++ [x]).length ≤ 2001 := (by rw [List.length_append]; simp; omega); obtain ⟨o2, ho2⟩ : ∃ o2, o ++ [x] = o2 := ⟨_, rfl⟩; rw [ho2] at IA hoa; have RZ := Lib.hid (ownsRow.keptOf IA.out.row ((Kept.refl (fun _ => False) w10).alloc (.cells #[.int .i64 y.1, .int .i64 y.2] 33)) (fun _ _ => id)); have KZ := Lib.hid (IA.out.kept.trans ((Kept.refl (fun _ => False) w10).alloc (.cells #[.int .i64 y.1, .int .i64 y.2] 33))); clear hown10 hg10 hat10 hcl) | (at_builtin; refine wpList_append_src rfl elemEntry (.tmp 44) (.tmp 46) rfl (by rfl) (by rfl) RZ.out (SliceAt.block_new (ys := [.int .i64 y.1, .int .i64 y.2]) (m := 1) (heap_alloc_new _ _) (by rfl) (by decide)) (by intro c hc; simp at hc; rcases hc with rfl | rfl <;> rfl) (by omega) (by omega) KZ.out.size ?_; intro v3 w11 hown11 hg11 hat11) | (refine wpList_load_agg 33 rfl rfl rfl _ Tryz.underlying33 rfl [.int .i64 y.1, .int .i64 y.2] (by kernel_rfl) hla.out ?_))
            have fin : Hid (RfSt w1 v3 (o ++ [x] ++ [y]) w11) := Lib.hid (by rw [ho2]; exact ⟨KZ.out.trans_new (Kept.of_grown hg11) (fun i hi e => absurd hi (Nat.not_lt.2 (RZ.out.lt i e).1)), by rw [entCells_append, List.length_append]; exact hown11⟩)
            clear hown11 hg11 hat11
            go_wp2_with fail
            go_roundw
            case rel => exact ⟨k + 1, by omega, by go_num, by rw [hstep'.out, hn.out], by rw [hstep'.out, hn.out]; exact fin⟩
            case measure => simp [intOf]; omega
          · have hge : decide (x.1 ≤ y.1) = false := by rw [decide_eq_false_iff_not]; exact hge0
            have hn : Hid (putStep x (o, false) y = (o ++ [y], false)) := Lib.hid (by unfold putStep; simp [he, hge0])
            clear he hge0
            go_wp2_with (first | (refine wpList_load_agg 33 rfl rfl rfl _ Tryz.underlying33 rfl [.int .i64 y.1, .int .i64 y.2] (by kernel_rfl) hlo.out ?_) | (refine wpList_load_agg 33 rfl rfl rfl _ Tryz.underlying33 rfl [.int .i64 y.1, .int .i64 y.2] (by kernel_rfl) hlx.out ?_) | (refine wpList_alloc_as 33 rfl rfl #[.int .i64 0, .int .i64 0] (by kernel_rfl) ?_; rw [hxb'.out]) | (refine wpList_store_whole 33 rfl rfl rfl [.int .i64 y.1, .int .i64 y.2] rfl (by kernel_rfl) 33 #[.int .i64 0, .int .i64 0] (by rw [← hxb'.out]; exact heap_alloc_new _ _) rfl (by intro c hc; simp at hc; rcases hc with rfl | rfl <;> rfl) ?_; rw [hwx'.out]) | (refine wpList_load_agg 33 rfl rfl rfl _ Tryz.underlying33 rfl [.int .i64 x.1, .int .i64 x.2] (by kernel_rfl) hxl.out ?_) | (at_builtin; refine wpList_append_src rfl elemEntry (.tmp 44) (.tmp 46) rfl (by rfl) (by rfl) R5.out (SliceAt.block_new (ys := [.int .i64 y.1, .int .i64 y.2]) (m := 1) (heap_alloc_new _ _) (by rfl) (by decide)) (by intro c hc; simp at hc; rcases hc with rfl | rfl <;> rfl) (by omega) (by omega) K5.out.size ?_; intro v2 w10 hown10 hg10 hat10))
            have fin : Hid (RfSt w1 v2 (o ++ [y]) w10) := Lib.hid ⟨K5.out.trans_new (Kept.of_grown hg10) (fun i hi e => absurd hi (Nat.not_lt.2 (R5.out.lt i e).1)), by rw [entCells_append, List.length_append]; exact hown10⟩
            clear hown10 hg10 hat10
            go_wp2_with fail
            go_roundw
            case rel => exact ⟨k + 1, by omega, by go_num, by rw [hstep'.out, hn.out], by rw [hstep'.out, hn.out]; exact fin⟩
            case measure => simp [intOf]; omega
        | true =>
          have hn : Hid (putStep x (o, true) y = (o ++ [y], true)) := Lib.hid (by unfold putStep; simp [he])
          clear he
          go_wp2_with (first | (refine wpList_load_agg 33 rfl rfl rfl _ Tryz.underlying33 rfl [.int .i64 y.1, .int .i64 y.2] (by kernel_rfl) hlo.out ?_) | (refine wpList_load_agg 33 rfl rfl rfl _ Tryz.underlying33 rfl [.int .i64 y.1, .int .i64 y.2] (by kernel_rfl) hlx.out ?_) | (refine wpList_alloc_as 33 rfl rfl #[.int .i64 0, .int .i64 0] (by kernel_rfl) ?_; rw [hxb'.out]) | (refine wpList_store_whole 33 rfl rfl rfl [.int .i64 y.1, .int .i64 y.2] rfl (by kernel_rfl) 33 #[.int .i64 0, .int .i64 0] (by rw [← hxb'.out]; exact heap_alloc_new _ _) rfl (by intro c hc; simp at hc; rcases hc with rfl | rfl <;> rfl) ?_; rw [hwx'.out]) | (refine wpList_load_agg 33 rfl rfl rfl _ Tryz.underlying33 rfl [.int .i64 x.1, .int .i64 x.2] (by kernel_rfl) hxl.out ?_) | (at_builtin; refine wpList_append_src rfl elemEntry (.tmp 44) (.tmp 46) rfl (by rfl) (by rfl) R5.out (SliceAt.block_new (ys := [.int .i64 y.1, .int .i64 y.2]) (m := 1) (heap_alloc_new _ _) (by rfl) (by decide)) (by intro c hc; simp at hc; rcases hc with rfl | rfl <;> rfl) (by omega) (by omega) K5.out.size ?_; intro v2 w10 hown10 hg10 hat10))
          have fin : Hid (RfSt w1 v2 (o ++ [y]) w10) := Lib.hid ⟨K5.out.trans_new (Kept.of_grown hg10) (fun i hi e => absurd hi (Nat.not_lt.2 (R5.out.lt i e).1)), by rw [entCells_append, List.length_append]; exact hown10⟩
          clear hown10 hg10 hat10
          go_wp2_with fail
          go_roundw
          case rel => exact ⟨k + 1, by omega, by go_num, by rw [hstep'.out, hn.out], by rw [hstep'.out, hn.out]; exact fin⟩
          case measure => simp [intOf]; omega
    · obtain rfl : k = l.length := by omega
      rw [List.take_length] at hI ⊢
      have hlen := putTake_len x l
      have href : Hid (refPut l x = if (l.foldl (putStep x) ([], false)).2 then (l.foldl (putStep x) ([], false)).1 else (l.foldl (putStep x) ([], false)).1 ++ [x]) := Lib.hid rfl
      obtain ⟨S, hS⟩ : ∃ S, l.foldl (putStep x) ([], false) = S := ⟨_, rfl⟩
      rw [hS] at hI hlen href ⊢
      obtain ⟨o, d⟩ := S
      dsimp only at hI hlen href ⊢
      obtain ⟨Au, cu, rfl, hu1, hu2⟩ := EntsAt.form (show EntsAt wr _ o from SliceAt.of_owns hI.out.row)
      unfold maxLen at hu2
      have hsz1 := Lib.hid k1.out.size
      clear hS
      cases d with
      | true =>
        have hn : Hid (refPut l x = o) := Lib.hid (by rw [href.out]; rfl)
        go_wp2_with fail
        go_ret2
        rw [hn.out]
        exact ⟨.slice Au o.length cu, by rfl, owns_le' hI.out.row hsz1.out, k1.out.trans hI.out.kept⟩
      | false =>
        have hn : Hid (refPut l x = o ++ [x]) := Lib.hid (by rw [href.out]; rfl)
        have hxl := Lib.hid (hX.out wr hI.out.kept)
        have RX := Lib.hid (ownsRow.keptOf hI.out.row ((Kept.refl (fun _ => False) wr).alloc (.cells #[.int .i64 x.1, .int .i64 x.2] 33)) (fun _ _ => id))
        have KX := Lib.hid (hI.out.kept.trans ((Kept.refl (fun _ => False) wr).alloc (.cells #[.int .i64 x.1, .int .i64 x.2] 33)))
        go_wp2_with (first | (refine wpList_load_agg 33 rfl rfl rfl _ Tryz.underlying33 rfl [.int .i64 x.1, .int .i64 x.2] (by kernel_rfl) hxl.out ?_) | (at_builtin; refine wpList_append_src rfl elemEntry (.tmp 51) (.tmp 53) rfl (by rfl) (by rfl) RX.out (SliceAt.block_new (ys := [.int .i64 x.1, .int .i64 x.2]) (m := 1) (heap_alloc_new _ _) (by rfl) (by decide)) (by intro c hc; simp at hc; rcases hc with rfl | rfl <;> rfl) (by omega) (by omega) KX.out.size ?_; intro v2 w10 hown10 hg10 hat10))
        go_ret2
        rw [hn.out, entCells_append, List.length_append]
        exact ⟨v2, by rfl, owns_le' hown10 hsz1.out, k1.out.trans (KX.out.trans_new (Kept.of_grown hg10) (fun i hi e => absurd hi (Nat.not_lt.2 (RX.out.lt i e).1)))⟩

theorem refPutBad10 {w : World} {Av : Option Addr} {n cap : Nat} (x : Int × Int) (hx : x.1 < 0 ∨ 63 < x.1) :
    Calls Tryz.prog 11 #[.slice Av n cap, .agg #[.int .i64 x.1, .int .i64 x.2]] w fun e w' => e = .returned (.tuple #[.slice Av n cap, .int .i64 101]) ∧ Kept (fun _ => False) w w' := by
  obtain ⟨cb, hcb⟩ : ∃ cb, w.heap.size = cb := ⟨_, rfl⟩
  obtain ⟨w1, hw1⟩ : ∃ w1, w.alloc (.cells #[.int .i64 x.1, .int .i64 x.2] 33) = w1 := ⟨_, rfl⟩
  have k1 := Lib.hid (show Kept (fun _ => False) w w1 by rw [← hw1]; exact (Kept.refl _ _).alloc _)
  have t1 := Lib.hid (show w1.heap[cb]? = some (.cells #[.int .i64 x.1, .int .i64 x.2] 33 (0, 0)) by rw [← hw1, ← hcb]; exact heap_alloc_new _ _)
  have hw1' := Lib.hid hw1
  have hcb' := Lib.hid hcb
  have c10 := cell_of_heap t1.out 0
  simp at c10
  clear hw1 hcb
  by_cases h0 : x.1 < 0
  · have hb0 : decide (x.1 < 0) = true := by rw [decide_eq_true_eq]; exact h0
    clear h0 hx
    go_enter Tryz.func11, Tryz.ntmps11
    go_wp2_with (first | (refine wpList_box_named 33 rfl rfl _ rfl hw1'.out ?_; rw [hcb'.out]))
    go_ret2
    exact ⟨rfl, k1.out⟩
  · have hb0 : decide (x.1 < 0) = false := by rw [decide_eq_false_iff_not]; exact h0
    have hb1 : decide (63 < x.1) = true := by rw [decide_eq_true_eq]; omega
    clear h0 hx
    go_enter Tryz.func11, Tryz.ntmps11
    go_wp2_with (first | (refine wpList_box_named 33 rfl rfl _ rfl hw1'.out ?_; rw [hcb'.out]))
    go_ret2
    exact ⟨rfl, k1.out⟩

end Go.Proofs.YthmjcbmeiabbgaaGreat
/-
  Pruners (package prune): Cut.
-/
namespace Go.Proofs.YthmjcbmeiabbgaaGreat
open Go.RowKit
set_option maxRecDepth 100000

theorem cut_log {w : World} {A : SA} {M : SM} (h : StoreAt w A M) (root key : Int) : (M.cut root key).1.log.length ≤ M.log.length + 20 := by
  have h1 := (cutF_log h 9 root key).1
  have h2 := (split_bound (SM.cutF 9 M root key).1 (SM.cutF 9 M root key).2.1).1
  unfold SM.cut
  split
  · dsimp only; omega
  · split
    · dsimp only; omega
    · dsimp only
      split
      · dsimp only; omega
      · split
        · dsimp only; omega
        · split
          · dsimp only; omega
          · split <;> (dsimp only; omega)
set_option maxHeartbeats 8000000 in
theorem pruneCut {w : World} {A : SA} {M : SM} (h : StoreAt w A M) (root key : Int) (hfew : M.log.length + 30 < 100000000) :
    Calls Tryz.prog 23 #[.agg #[.pointer (some ⟨A.sb, 0, none⟩)], .int .i64 root, .int .i64 key] w fun e w' => ∃ A', e = .returned (.tuple #[.int .i64 (M.cut root key).2.1, .bool (M.cut root key).2.2.1, .int .i64 (M.cut root key).2.2.2]) ∧ StoreTo A A' (M.cut root key).1 w w' := by
  obtain ⟨w1, hw1⟩ : ∃ w1, w.alloc (.cells #[.pointer (some ⟨A.sb, 0, none⟩)] 52) = w1 := ⟨_, rfl⟩
  have k1 : Kept (fun _ => False) w w1 := by rw [← hw1]; exact (Kept.refl _ _).alloc _
  have s1 : w1.heap.size = w.heap.size + 1 := by rw [← hw1]; simp
  have t1 : w1.heap[w.heap.size]? = some (.cells #[.pointer (some ⟨A.sb, 0, none⟩)] 52 (0, 0)) := by rw [← hw1]; exact heap_alloc_new _ _
  have k1' := Lib.hid k1
  have hw1' := Lib.hid hw1
  have h' := Lib.hid h
  by_cases hk0 : key < 0
  · have e : Hid (M.cut root key = (M, -1, false, 101)) := Lib.hid (by unfold SM.cut; rw [if_pos (.inl hk0)])
    clear hw1 k1 s1 t1 h
    go_enter Tryz.func23, Tryz.ntmps23
    go_wp2_with (first | (refine wpList_box_named 52 rfl rfl _ rfl hw1'.out ?_))
    go_ret3
    first | exact ⟨A, by rw [e.out]; rfl, by rw [e.out]; exact (StoreTo.refl h'.out).fresh k1'.out⟩ | exact ⟨by rw [e.out]; rfl, A, by rw [e.out]; exact (StoreTo.refl h'.out).fresh k1'.out⟩
  by_cases hk1 : 64 ≤ key
  · have e : Hid (M.cut root key = (M, -1, false, 101)) := Lib.hid (by unfold SM.cut; rw [if_pos (.inr hk1)])
    clear hw1 k1 s1 t1 h
    go_enter Tryz.func23, Tryz.ntmps23
    go_wp2_with (first | (refine wpList_box_named 52 rfl rfl _ rfl hw1'.out ?_))
    go_ret3
    first | exact ⟨A, by rw [e.out]; rfl, by rw [e.out]; exact (StoreTo.refl h'.out).fresh k1'.out⟩ | exact ⟨by rw [e.out]; rfl, A, by rw [e.out]; exact (StoreTo.refl h'.out).fresh k1'.out⟩
  by_cases hr : root = -1
  · subst hr
    have e : Hid (M.cut (-1) key = (M, -1, false, 0)) := Lib.hid (by unfold SM.cut; rw [if_neg (by omega), if_pos rfl])
    clear hw1 k1 s1 t1 h
    go_enter Tryz.func23, Tryz.ntmps23
    go_wp2_with (first | (refine wpList_box_named 52 rfl rfl _ rfl hw1'.out ?_))
    go_ret3
    first | exact ⟨A, by rw [e.out]; rfl, by rw [e.out]; exact (StoreTo.refl h'.out).fresh k1'.out⟩ | exact ⟨by rw [e.out]; rfl, A, by rw [e.out]; exact (StoreTo.refl h'.out).fresh k1'.out⟩
  have hrb : (root == -1) = false := by simpa using hr
  have hP := pruneCutF 9 (by omega) (Nat.le_refl _) root key (h.fresh k1) (by omega)
  have hlog := (cutF_log h 9 root key).1
  have hcut : Hid (M.cut root key = if (SM.cutF 9 M root key).2.2.2 ≠ 0 then ((SM.cutF 9 M root key).1, -1, false, (SM.cutF 9 M root key).2.2.2)
      else if (SM.cutF 9 M root key).2.2.1 = false then ((SM.cutF 9 M root key).1, root, false, 0)
      else if (SM.cutF 9 M root key).2.1.kind = 3 ∧ (SM.cutF 9 M root key).2.1.ents.length = 1 then ((SM.cutF 9 M root key).1, ((SM.cutF 9 M root key).2.1.ents.getD 0 (0, 0)).2, true, 0)
      else if ((SM.cutF 9 M root key).1.split (SM.cutF 9 M root key).2.1).2.2 ≠ 0 ∨ ((SM.cutF 9 M root key).1.split (SM.cutF 9 M root key).2.1).2.1.length = 0 then (((SM.cutF 9 M root key).1.split (SM.cutF 9 M root key).2.1).1, -1, ((SM.cutF 9 M root key).1.split (SM.cutF 9 M root key).2.1).2.2 == 0, ((SM.cutF 9 M root key).1.split (SM.cutF 9 M root key).2.1).2.2)
      else (((SM.cutF 9 M root key).1.split (SM.cutF 9 M root key).2.1).1, (((SM.cutF 9 M root key).1.split (SM.cutF 9 M root key).2.1).2.1.getD 0 (0, 0)).2, true, 0)) := Lib.hid (by unfold SM.cut; rw [if_neg (by omega), if_neg hr])
  obtain ⟨R, hR⟩ : ∃ R, SM.cutF 9 M root key = R := ⟨_, rfl⟩
  rw [hR] at hP hlog
  simp only [hR] at hcut
  obtain ⟨M1, n1, was, er⟩ := R
  dsimp only at hP hlog hcut
  have hP' := Lib.hid hP
  obtain ⟨Z, hZ⟩ : ∃ Z, nodeCells NM.zero (.slice none 0 0) = Z := ⟨_, rfl⟩
  have hZz : Hid ((Tryz.prog.info? 80).map (·.zero) = some (some (.agg Z.toArray))) := Lib.hid (by rw [← hZ]; exact node_zero)
  have hZl : Hid (Z.length = 18) := Lib.hid (by rw [← hZ]; exact nodeCells_len _ _)
  have t1' := Lib.hid t1
  have sf1 : Hid (Safe w1 A w.heap.size) := Lib.hid (Safe.new h (Nat.le_refl _) (by omega))
  have hload1 : Hid (∀ j v, [Value.pointer (some ⟨A.sb, 0, none⟩)][j]? = some v → w1.cell? ⟨w.heap.size, 0 + j, none⟩ = some v) := Lib.hid (fun j v hj => by rw [Nat.zero_add, cell_of_heap t1]; simpa using hj)
  have st1 := Lib.hid ((StoreTo.refl h).fresh k1)
  have hsz1 := s1
  clear hw1 k1 s1 t1 h hP hR hr hZ
  go_enter Tryz.func23, Tryz.ntmps23
  go_wp2_with (first | (refine wpList_box_named 52 rfl rfl _ rfl hw1'.out ?_) | (refine wpList_load_agg 52 rfl rfl rfl _ Tryz.underlying52 rfl [.pointer (some ⟨A.sb, 0, none⟩)] (by kernel_rfl) hload1.out ?_))
  refine hP'.out.mono ?_
  rintro e' w3 ⟨A3, v, rfl, hT3, hO3⟩
  obtain ⟨Av, cap, rfl, hf1, hf2⟩ := EntsAt.form hO3.ents.at_
  unfold maxLen at hf2
  obtain ⟨F, hF⟩ : ∃ F, nodeCells n1 (.slice Av n1.ents.length cap) = F := ⟨_, rfl⟩
  have hFl : Hid (F.length = 18) := Lib.hid (by rw [← hF]; exact nodeCells_len _ _)
  have hF1 : Hid (∀ v ∈ F, v.oneCell' = true) := Lib.hid (by rw [← hF]; exact nodeCells_one _ _ _ _)
  obtain ⟨nb, hnb⟩ : ∃ nb, w3.heap.size = nb := ⟨_, rfl⟩
  obtain ⟨w5, hw5⟩ : ∃ w5, (w3.alloc (.cells Z.toArray 80)).setRow nb F.toArray = w5 := ⟨_, rfl⟩
  have k5 : Kept (fun _ => False) w3 w5 := by rw [← hw5]; exact ((Kept.refl _ _).alloc _).setRowNew (by omega) _
  have q5 := Lib.hid (show w5.heap[nb]? = some (.cells F.toArray 80 (0, 0)) by rw [← hw5, ← hnb]; exact setRow_heap _ _ _ _ _ _ (heap_alloc_new _ _))
  have bx5 : NodeBox w5 nb n1 (.slice Av n1.ents.length cap) := ⟨by rw [hF]; exact q5.out⟩
  have c0 := bx5.c0
  have c17 := bx5.c17
  have t5 := Lib.hid (k5.get (hT3.get t1'.out sf1.out) id)
  have ct5 := cell_of_heap t5.out 0
  simp at ct5
  have hT5 := Lib.hid ((st1.out.trans hT3).fresh k5)
  have hsb := hT3.sb
  have hO5 := Lib.hid (hO3.ents.fresh k5)
  have hSp := treeSplit hT5.out.store hO5.out (by omega)
  rw [hF, hsb] at hSp
  have hSp' := Lib.hid hSp
  have hnb' := Lib.hid hnb
  have hw5' := Lib.hid hw5
  rw [hF]
  clear hT3 hO3 hF hnb hw5 k5 hSp hsb bx5
  by_cases h0 : er = 0
  · subst h0
    rw [if_neg (by simp)] at hcut
    cases was with
    | false =>
      rw [if_pos rfl] at hcut
      go_wp2_with (first | (refine wpList_alloc_as 80 rfl rfl Z.toArray hZz.out ?_; rw [hnb'.out]) | (refine wpList_store_whole 80 rfl rfl rfl F rfl (by rw [hFl.out]; exact node_size) 80 _ (by rw [← hnb'.out]; exact heap_alloc_new _ _) (by simp [hFl.out, hZl.out]) hF1.out ?_; rw [hw5'.out]))
      go_ret3
      first | exact ⟨A3, by rw [hcut.out]; rfl, by rw [hcut.out]; exact hT5.out⟩ | exact ⟨by rw [hcut.out]; rfl, A3, by rw [hcut.out]; exact hT5.out⟩
    | true =>
      rw [if_neg (by simp)] at hcut
      by_cases hone : n1.kind = 3 ∧ n1.ents.length = 1
      · obtain ⟨hk3, hl1⟩ := hone
        rw [if_pos ⟨hk3, hl1⟩] at hcut
        obtain ⟨x, hx⟩ : ∃ x, n1.ents[0]? = some x := ⟨_, List.getElem?_eq_getElem (by omega)⟩
        obtain ⟨b, off, rfl, _, hx1, hx2⟩ := EntsAt.get hO5.out.at_ hx
        have hxd : n1.ents.getD 0 (0, 0) = x := by simp [hx]
        rw [hxd] at hcut
        rw [Nat.zero_mul, Nat.add_zero] at hx1 hx2
        rw [hk3] at c0
        rw [hl1] at c17
        clear hx hxd hk3 hl1 hf1
        go_wp2_with (first | (refine wpList_alloc_as 80 rfl rfl Z.toArray hZz.out ?_; rw [hnb'.out]) | (refine wpList_store_whole 80 rfl rfl rfl F rfl (by rw [hFl.out]; exact node_size) 80 _ (by rw [← hnb'.out]; exact heap_alloc_new _ _) (by simp [hFl.out, hZl.out]) hF1.out ?_; rw [hw5'.out]))
        go_ret3
        first | exact ⟨A3, by rw [hcut.out]; rfl, by rw [hcut.out]; exact hT5.out⟩ | exact ⟨by rw [hcut.out]; rfl, A3, by rw [hcut.out]; exact hT5.out⟩
      · rw [if_neg hone] at hcut
        obtain ⟨R, hR⟩ : ∃ R, M1.split n1 = R := ⟨_, rfl⟩
        rw [hR] at hSp'
        simp only [hR] at hcut
        obtain ⟨M2, out, er2⟩ := R
        dsimp only at hSp' hcut
        clear hR
        have fin : Hid (∀ w6 A6, StoreTo A3 A6 M2 w5 w6 → StoreTo A A6 M2 w w6) := Lib.hid (fun w6 A6 k => hT5.out.trans k)
        by_cases hk3 : n1.kind = 3
        · have hl1 : ((n1.ents.length : Int) == 1) = false := by rw [beq_eq_false_iff_ne]; intro e; exact hone ⟨hk3, by omega⟩
          rw [hk3] at c0
          clear hk3 hone
          go_wp2_with (first | (refine wpList_alloc_as 80 rfl rfl Z.toArray hZz.out ?_; rw [hnb'.out]) | (refine wpList_store_whole 80 rfl rfl rfl F rfl (by rw [hFl.out]; exact node_size) 80 _ (by rw [← hnb'.out]; exact heap_alloc_new _ _) (by simp [hFl.out, hZl.out]) hF1.out ?_; rw [hw5'.out]) | (refine wpList_load_agg 26 rfl rfl rfl _ Tryz.underlying26 rfl [.pointer (some ⟨A.sb, 0, none⟩)] (by kernel_rfl) (fun j v hj => by rw [Nat.zero_add, cell_of_heap t5.out]; simpa using hj) ?_) | (refine wpList_load_agg 80 rfl rfl rfl _ Tryz.underlying80 rfl F (by rw [hFl.out]; exact node_size) (fun j v hv => by rw [cell_of_heap q5.out, Nat.zero_add]; simpa using hv) ?_))
          refine hSp'.out.mono ?_
          rintro e w6 ⟨A6, v6, rfl, hT6, hO6⟩
          obtain ⟨Av6, cap6, rfl, hg1, hg2⟩ := hO6.ents.at_.form
          unfold maxLen at hg2
          have hTT := Lib.hid (fin.out _ _ hT6)
          have hO6' := Lib.hid hO6
          clear hT6 hO6
          by_cases h2 : er2 = 0
          · subst h2
            by_cases hl2 : out.length = 0
            · rw [if_pos (Or.inr hl2)] at hcut
              have hlb2 : ((out.length : Int) == 0) = true := by simp [hl2]
              clear hl2
              go_wp2_with fail
              go_ret3
              first | exact ⟨A6, by rw [hcut.out]; rfl, by rw [hcut.out]; exact hTT.out⟩ | exact ⟨by rw [hcut.out]; rfl, A6, by rw [hcut.out]; exact hTT.out⟩
            · rw [if_neg (by simp only [ne_eq, not_true_eq_false, false_or]; exact hl2)] at hcut
              obtain ⟨x, hx⟩ : ∃ x, out[0]? = some x := ⟨_, List.getElem?_eq_getElem (by omega)⟩
              obtain ⟨b, off, rfl, _, hx1, hx2⟩ := EntsAt.get hO6'.out.ents.at_ hx
              have hxd : out.getD 0 (0, 0) = x := by simp [hx]
              rw [hxd] at hcut
              rw [Nat.zero_mul, Nat.add_zero] at hx1 hx2
              have hlb2 : ((out.length : Int) == 0) = false := by rw [beq_eq_false_iff_ne]; omega
              have hpos : 0 < out.length := by omega
              clear hx hxd hl2
              go_wp2_with fail
              go_ret3
              first | exact ⟨A6, by rw [hcut.out]; rfl, by rw [hcut.out]; exact hTT.out⟩ | exact ⟨by rw [hcut.out]; rfl, A6, by rw [hcut.out]; exact hTT.out⟩
          · rw [if_pos (Or.inl h2)] at hcut
            have h2' : ((er2 : Int) == 0) = false := by rw [beq_eq_false_iff_ne]; omega
            have h2b : ((er2 : Int) != 0) = true := by rw [bne, h2']; rfl
            have h2c : (er2 == 0) = false := by rw [beq_eq_false_iff_ne]; exact h2
            rw [h2c] at hcut
            clear h2
            go_wp2_with fail
            go_ret3
            first | exact ⟨A6, by rw [hcut.out]; rfl, by rw [hcut.out]; exact hTT.out⟩ | exact ⟨by rw [hcut.out]; rfl, A6, by rw [hcut.out]; exact hTT.out⟩
        · have hkb : (n1.kind == 3) = false := by simpa using hk3
          clear hk3 hone
          go_wp2_with (first | (refine wpList_alloc_as 80 rfl rfl Z.toArray hZz.out ?_; rw [hnb'.out]) | (refine wpList_store_whole 80 rfl rfl rfl F rfl (by rw [hFl.out]; exact node_size) 80 _ (by rw [← hnb'.out]; exact heap_alloc_new _ _) (by simp [hFl.out, hZl.out]) hF1.out ?_; rw [hw5'.out]) | (refine wpList_load_agg 26 rfl rfl rfl _ Tryz.underlying26 rfl [.pointer (some ⟨A.sb, 0, none⟩)] (by kernel_rfl) (fun j v hj => by rw [Nat.zero_add, cell_of_heap t5.out]; simpa using hj) ?_) | (refine wpList_load_agg 80 rfl rfl rfl _ Tryz.underlying80 rfl F (by rw [hFl.out]; exact node_size) (fun j v hv => by rw [cell_of_heap q5.out, Nat.zero_add]; simpa using hv) ?_))
          refine hSp'.out.mono ?_
          rintro e w6 ⟨A6, v6, rfl, hT6, hO6⟩
          obtain ⟨Av6, cap6, rfl, hg1, hg2⟩ := hO6.ents.at_.form
          unfold maxLen at hg2
          have hTT := Lib.hid (fin.out _ _ hT6)
          have hO6' := Lib.hid hO6
          clear hT6 hO6
          by_cases h2 : er2 = 0
          · subst h2
            by_cases hl2 : out.length = 0
            · rw [if_pos (Or.inr hl2)] at hcut
              have hlb2 : ((out.length : Int) == 0) = true := by simp [hl2]
              clear hl2
              go_wp2_with fail
              go_ret3
              first | exact ⟨A6, by rw [hcut.out]; rfl, by rw [hcut.out]; exact hTT.out⟩ | exact ⟨by rw [hcut.out]; rfl, A6, by rw [hcut.out]; exact hTT.out⟩
            · rw [if_neg (by simp only [ne_eq, not_true_eq_false, false_or]; exact hl2)] at hcut
              obtain ⟨x, hx⟩ : ∃ x, out[0]? = some x := ⟨_, List.getElem?_eq_getElem (by omega)⟩
              obtain ⟨b, off, rfl, _, hx1, hx2⟩ := EntsAt.get hO6'.out.ents.at_ hx
              have hxd : out.getD 0 (0, 0) = x := by simp [hx]
              rw [hxd] at hcut
              rw [Nat.zero_mul, Nat.add_zero] at hx1 hx2
              have hlb2 : ((out.length : Int) == 0) = false := by rw [beq_eq_false_iff_ne]; omega
              have hpos : 0 < out.length := by omega
              clear hx hxd hl2
              go_wp2_with fail
              go_ret3
              first | exact ⟨A6, by rw [hcut.out]; rfl, by rw [hcut.out]; exact hTT.out⟩ | exact ⟨by rw [hcut.out]; rfl, A6, by rw [hcut.out]; exact hTT.out⟩
          · rw [if_pos (Or.inl h2)] at hcut
            have h2' : ((er2 : Int) == 0) = false := by rw [beq_eq_false_iff_ne]; omega
            have h2b : ((er2 : Int) != 0) = true := by rw [bne, h2']; rfl
            have h2c : (er2 == 0) = false := by rw [beq_eq_false_iff_ne]; exact h2
            rw [h2c] at hcut
            clear h2
            go_wp2_with fail
            go_ret3
            first | exact ⟨A6, by rw [hcut.out]; rfl, by rw [hcut.out]; exact hTT.out⟩ | exact ⟨by rw [hcut.out]; rfl, A6, by rw [hcut.out]; exact hTT.out⟩
  · rw [if_pos h0] at hcut
    have h0' : ((er : Int) == 0) = false := by rw [beq_eq_false_iff_ne]; omega
    clear h0
    go_wp2_with (first | (refine wpList_alloc_as 80 rfl rfl Z.toArray hZz.out ?_; rw [hnb'.out]) | (refine wpList_store_whole 80 rfl rfl rfl F rfl (by rw [hFl.out]; exact node_size) 80 _ (by rw [← hnb'.out]; exact heap_alloc_new _ _) (by simp [hFl.out, hZl.out]) hF1.out ?_; rw [hw5'.out]))
    go_ret3
    first | exact ⟨A3, by rw [hcut.out]; rfl, by rw [hcut.out]; exact hT5.out⟩ | exact ⟨by rw [hcut.out]; rfl, A3, by rw [hcut.out]; exact hT5.out⟩
end Go.Proofs.YthmjcbmeiabbgaaGreat
/-
  Layer 10's laws: the chapter's example.
-/
namespace Go.Proofs.YthmjcbmeiabbgaaGreat
open Go.RowKit
set_option maxRecDepth 100000

theorem alive10_facts : ∃ M1 M2 : SM, (madeM 16 9).put (-1) 5 0 = (M1, 1, 0) ∧ M1.swap (-1) 1 = (M2, 0) ∧ M2.find 1 5 = (0, 0) ∧ M2.find 1 6 = (-1, 0) :=
  ⟨((madeM 16 9).put (-1) 5 0).1, (((madeM 16 9).put (-1) 5 0).1.swap (-1) 1).1, Prod.ext rfl (by kernel_rfl), Prod.ext rfl (by kernel_rfl), by kernel_rfl, by kernel_rfl⟩
/-- A store that is a call's own. -/
structure OwnStore (w : World) (A : SA) (M : SM) (wr : World) : Prop where
  store : StoreAt wr A M
  kept : Kept (fun _ => False) w wr
  new : ∀ k, A.own k → w.heap.size ≤ k
theorem OwnStore.fresh {w wr w' : World} {A : SA} {M : SM} (h : OwnStore w A M wr) (k : Kept (fun _ => False) wr w') : OwnStore w A M w' := ⟨h.store.fresh k, h.kept.trans k, h.new⟩
theorem OwnStore.to {w wr w' : World} {A A' : SA} {M M' : SM} (h : OwnStore w A M wr) (k : StoreTo A A' M' wr w') : OwnStore w A' M' w' := by
  refine ⟨k.store, h.kept.trans_new k.kept (fun i hi e => by have := h.new _ (.inl e); omega), fun j hj => ?_⟩
  have hsz := h.kept.size
  rcases hj with hj | hj | hj
  · rcases k.foot j hj with e | e
    · exact h.new _ (.inl e)
    · omega
  · rw [k.fix.2] at hj; exact h.new _ (.inr (.inl hj))
  · rw [k.fix.1] at hj; exact h.new _ (.inr (.inr hj))
/-- A tree's variable: a box with its store's address. -/
structure TreeVar (wr : World) (A : SA) (b sb : Nat) : Prop where
  heap : wr.heap[b]? = some (.cells #[.pointer (some ⟨sb, 0, none⟩)] 26 (0, 0))
  safe : Safe wr A b
  eq : A.sb = sb
theorem TreeVar.fresh {wr w' : World} {A : SA} {b sb : Nat} (h : TreeVar wr A b sb) (k : Kept (fun _ => False) wr w') : TreeVar w' A b sb := ⟨k.get h.heap id, h.safe.fresh k, h.eq⟩
theorem TreeVar.to {wr w' : World} {A A' : SA} {M' : SM} {b sb : Nat} (h : TreeVar wr A b sb) (k : StoreTo A A' M' wr w') : TreeVar w' A' b sb := ⟨k.get h.heap h.safe, h.safe.to k, k.sb.trans h.eq⟩
theorem TreeVar.load {wr : World} {A : SA} {b sb : Nat} (h : TreeVar wr A b sb) : ∀ j v, [Value.pointer (some ⟨sb, 0, none⟩)][j]? = some v → wr.cell? ⟨b, 0 + j, none⟩ = some v := fun j v hj => by rw [Nat.zero_add, cell_of_heap h.heap]; simpa using hj
/-- The variable is made, and filled. -/
theorem TreeVar.made {w wr : World} {A : SA} {M : SM} (h : OwnStore w A M wr) {b : Nat} (hb : wr.heap.size = b) :
    OwnStore w A M ((wr.alloc (.cells #[.pointer none] 26)).setRow b #[.pointer (some ⟨A.sb, 0, none⟩)]) ∧ TreeVar ((wr.alloc (.cells #[.pointer none] 26)).setRow b #[.pointer (some ⟨A.sb, 0, none⟩)]) A b A.sb := by
  have k : Kept (fun _ => False) wr ((wr.alloc (.cells #[.pointer none] 26)).setRow b #[.pointer (some ⟨A.sb, 0, none⟩)]) := ((Kept.refl _ _).alloc _).setRowNew (by omega) _
  refine ⟨h.fresh k, ⟨by rw [← hb]; exact setRow_heap _ _ _ _ _ _ (heap_alloc_new _ _), Safe.new h.store (by omega) (by simp [World.setRow]; omega), rfl⟩⟩

set_option maxHeartbeats 4000000 in
theorem alive10 (w : World) : Calls Tryz.prog 8 #[] w fun e w' => e = .returned (.bool true) ∧ Kept (fun _ => False) w w' := by
  obtain ⟨M1, M2, e1, e2, e3, e4⟩ := alive10_facts
  have hlog : M1.log.length ≤ 23 := by have := put_log (madeM 16 9) (-1) 5 0; rw [e1] at this; exact this
  have hlog2 : M2.log.length ≤ 23 := by have := swap_log M1 (-1) 1; rw [e2] at this; simp only at this; rw [this]; exact hlog
  have hm := made10 20 (by decide) (by decide) w
  rw [show (min (20 : Int) 244 - 4).toNat = 16 from by decide] at hm
  have hm' := Lib.hid hm
  have e1' := Lib.hid e1
  have e2' := Lib.hid e2
  have e3' := Lib.hid e3
  have e4' := Lib.hid e4
  clear e1 e2 e3 e4 hm
  go_enter Tryz.func8, Tryz.ntmps8
  go_wp2_with fail
  refine hm'.out.mono ?_
  rintro e w2 ⟨A, rfl, hA, hk, hn⟩
  obtain ⟨b, hb⟩ : ∃ b, w2.heap.size = b := ⟨_, rfl⟩
  have hO := TreeVar.made (b := b) ⟨hA, hk, hn⟩ hb
  obtain ⟨w3, hw3⟩ : ∃ w3, (w2.alloc (.cells #[.pointer none] 26)).setRow b #[.pointer (some ⟨A.sb, 0, none⟩)] = w3 := ⟨_, rfl⟩
  rw [hw3] at hO
  obtain ⟨hO3, hT3⟩ := hO
  have hO3 := Lib.hid hO3
  have hT3 := Lib.hid hT3
  have hw3' := Lib.hid hw3
  have hb' := Lib.hid hb
  obtain ⟨sb, hsb⟩ : ∃ sb, A.sb = sb := ⟨_, rfl⟩
  have c3 := cell_of_heap hT3.out.heap 0
  have hP := treePut hO3.out.store (-1) 5 0 (by show 1 + 30 < 100000000; omega)
  rw [e1'.out, hsb] at hP
  have hP' := Lib.hid hP
  rw [hsb] at hw3' hT3 c3 ⊢
  simp at c3
  clear hA hk hn hw3 hb hP
  go_wp2_with (first | (refine wpList_alloc_as 26 rfl rfl #[.pointer none] tree_zero ?_; rw [hb'.out]) | (refine wpList_store_whole 26 rfl rfl rfl [.pointer (some ⟨sb, 0, none⟩)] rfl (by kernel_rfl) 26 #[.pointer none] (by rw [← hb'.out]; exact heap_alloc_new _ _) rfl (by intro c hc; simp at hc; subst hc; rfl) ?_; rw [hw3'.out]) | (refine wpList_load_agg 26 rfl rfl rfl _ Tryz.underlying26 rfl [.pointer (some ⟨sb, 0, none⟩)] (by kernel_rfl) hT3.out.load ?_))
  refine hP'.out.mono ?_
  rintro e w4 ⟨A4, rfl, hT4⟩
  have hO4 := Lib.hid (hO3.out.to hT4)
  have hV4 := Lib.hid (hT3.out.to hT4)
  have hS := treeSwap hO4.out.store (-1) 1
  rw [e2'.out, hV4.out.eq] at hS
  have hS' := Lib.hid hS
  clear hT4 hS c3
  go_wp2_with (first | (refine wpList_load_agg 26 rfl rfl rfl _ Tryz.underlying26 rfl [.pointer (some ⟨sb, 0, none⟩)] (by kernel_rfl) hV4.out.load ?_))
  refine hS'.out.mono ?_
  rintro e w5 ⟨rfl, hT5⟩
  have hO5 := Lib.hid (hO4.out.to hT5)
  have hV5 := Lib.hid (hV4.out.to hT5)
  have hF := treeFind hO5.out.store 1 5
  rw [e3'.out, hV5.out.eq] at hF
  have hF' := Lib.hid hF
  clear hT5 hF
  go_wp2_with (first | (refine wpList_load_agg 26 rfl rfl rfl _ Tryz.underlying26 rfl [.pointer (some ⟨sb, 0, none⟩)] (by kernel_rfl) hV5.out.load ?_))
  refine hF'.out.mono ?_
  rintro e w6 ⟨rfl, hk6⟩
  have hO6 := Lib.hid (hO5.out.fresh hk6)
  have hV6 := Lib.hid (hV5.out.fresh hk6)
  have hF := treeFind hO6.out.store 1 6
  rw [e4'.out, hV6.out.eq] at hF
  have hF' := Lib.hid hF
  clear hk6 hF
  go_wp2_with (first | (refine wpList_load_agg 26 rfl rfl rfl _ Tryz.underlying26 rfl [.pointer (some ⟨sb, 0, none⟩)] (by kernel_rfl) hV6.out.load ?_))
  refine hF'.out.mono ?_
  rintro e w7 ⟨rfl, hk7⟩
  have hO7 := Lib.hid (hO6.out.fresh hk7)
  clear hk7
  go_wp2_with fail
  go_ret
  exact ⟨rfl, hO7.out.kept⟩
end Go.Proofs.YthmjcbmeiabbgaaGreat
/-
  Layer 11's laws: an empty store with a page of a block.
-/
namespace Go.Proofs.YthmjcbmeiabbgaaGreat
open Go.RowKit
set_option maxRecDepth 100000

theorem pruner_zero : (Tryz.prog.info? 52).map (·.zero) = some (some (.agg #[.pointer none])) := by kernel_rfl
set_option maxHeartbeats 4000000 in
theorem made11 (x : Int) (h0 : 5 ≤ x) (h1 : x ≤ 1000) (w : World) :
    Calls Tryz.prog 22 #[.int .i64 x] w fun e w' => ∃ A, e = .returned (.tuple #[.agg #[.pointer (some ⟨A.sb, 0, none⟩)], .int .i64 0, .bool true]) ∧ StoreAt w' A (madeM (min x 244 - 4).toNat 9) ∧ Kept (fun _ => False) w w' ∧ ∀ k, A.own k → w.heap.size ≤ k := by
  obtain ⟨s, hs⟩ : ∃ s, (min x 244 - 4).toNat = s := ⟨_, rfl⟩
  have hsz : Hid (clampN (max 0 (min x 244 - 4)) = s) := Lib.hid (by unfold clampN; omega)
  have hdn : Hid (max 0 (min x 244) = ((s + 4 : Nat) : Int)) := Lib.hid (by omega)
  have hs0 : 0 < s := by omega
  have hs1 : s ≤ 240 := by omega
  obtain ⟨w1, hw1⟩ : ∃ w1, w.alloc (.cells #[.pointer none] 52) = w1 := ⟨_, rfl⟩
  have k1 := Lib.hid (show Kept (fun _ => False) w w1 by rw [← hw1]; exact (Kept.refl _ _).alloc _)
  have t1 := Lib.hid (show w1.heap[w.heap.size]? = some (.cells #[.pointer none] 52 (0, 0)) by rw [← hw1]; exact heap_alloc_new _ _)
  have z1 : Hid (w1.heap.size = w.heap.size + 1) := Lib.hid (by rw [← hw1]; simp)
  have hw1' := Lib.hid hw1
  have hb1 : Hid (∀ w, (Instr.build 78 #[(0, .int .u8 9)]).run Tryz.prog w = .ok (.agg (blockCells (dataN 9).block).toArray) w) := Lib.hid (fun w => run_build _ _ _ _ (by kernel_rfl))
  have hb2 : Hid (∀ w, (Instr.build 80 #[(0, .int .i64 1), (1, .agg (blockCells (dataN 9).block).toArray)]).run Tryz.prog w = .ok (.agg (nodeCells (dataN 9) (.slice none 0 0)).toArray) w) := Lib.hid (fun w => run_build _ _ _ _ (by kernel_rfl))
  obtain ⟨B, hB⟩ : ∃ B, blockCells (dataN 9).block = B := ⟨_, rfl⟩
  obtain ⟨C, hC⟩ : ∃ C, nodeCells (dataN 9) (.slice none 0 0) = C := ⟨_, rfl⟩
  rw [hB] at hb1 hb2
  rw [hC] at hb2
  have hC' := Lib.hid hC
  rw [hs]
  clear hw1 hB hC hs
  go_enter Tryz.func22, Tryz.ntmps22
  go_wp2_with (first | (refine wpList_alloc_as 52 rfl rfl #[.pointer none] pruner_zero ?_; rw [hw1'.out]))
  refine (diskNew (s + 4) (by omega) x hdn.out _).mono ?_
  rintro e w2 ⟨D, rfl, hD, hDn, hDp, hDo, hk2⟩
  have hD' := Lib.hid hD
  have hDn' := Lib.hid hDn
  have hDp' := Lib.hid hDp
  have hDo' := Lib.hid hDo
  have hk2' := Lib.hid hk2
  clear hD hDn hDp hDo hk2
  go_wp2_with fail
  refine (nodesSize x _ (by omega) h1).mono ?_
  rintro e w3 ⟨rfl, rfl⟩
  go_wp2_with fail
  refine (new_any _ _).mono ?_
  rintro e w3 ⟨c, rfl, hnew⟩
  have hP := hnew.pool
  rw [hsz.out] at hP
  have hP' := Lib.hid hP
  have hck := hnew.new
  have hk3 := Lib.hid hnew.kept
  clear hnew hP
  go_wp2_with fail
  refine (nodesNew (hD'.out.fresh hk3.out) hP'.out hDp'.out (fun e => by have := hD'.out.lt _ e; omega) (.inr (by rw [hDn'.out]; exact Nat.le_refl _))).mono ?_
  rintro e w4 ⟨A, rfl, hA, hk4, hAo⟩
  have hA' := Lib.hid hA
  have hk14 := Lib.hid (((hk2'.out.trans hk3.out).trans hk4))
  have hAo' : Hid (∀ k, A.own k → w1.heap.size ≤ k) := Lib.hid (fun k hk => by
    rcases hAo k hk with rfl | h | h
    · have := hk2'.out.size; omega
    · exact hDo'.out _ h
    · have := hk2'.out.size; have := hk3.out.size; omega)
  have hmk := storeMake (n := dataN 9) (sv := .slice none 0 0) hA ⟨sliceNil (by decide), fun _ b hb => by simp [Value.ownBlock] at hb⟩ rfl (dataN_ok 9 (by decide)).2.2 (by show 0 < 100000000; omega)
  rw [make_first s 9 hs0, hC'.out] at hmk
  have hmk' := Lib.hid hmk
  clear hA hk4 hAo hmk
  go_wp2_with (first | (refine wpList_exec rfl (exec_build 78 #[(0, .const (.int .u8 9))] _ rfl (by simp [Act.eval]) (hb1.out _)) ?_) | (refine wpList_exec rfl (exec_build 80 #[(0, .const (.int .i64 1)), (1, .tmp 19)] _ rfl (by simp [Act.eval, Act.put]) (hb2.out _)) ?_))
  refine hmk'.out.mono ?_
  rintro e w5 ⟨A5, rfl, hT5⟩
  have hsb5 := hT5.sb
  have hh := storeHold hT5.store 0
  rw [hold_first s 9 hs0, hsb5] at hh
  have hh' := Lib.hid hh
  have hT5' := Lib.hid hT5
  clear hh hT5 hsb5
  have hbt : Hid (∀ w, (Instr.build 26 #[(0, .pointer (some ⟨A.sb, 0, none⟩))]).run Tryz.prog w = .ok (.agg [Value.pointer (some ⟨A.sb, 0, none⟩)].toArray) w) := Lib.hid (fun w => run_build _ _ _ _ (by kernel_rfl))
  have hbp : Hid (∀ w, (Instr.build 52 #[(0, .agg [Value.pointer (some ⟨A.sb, 0, none⟩)].toArray)]).run Tryz.prog w = .ok (.agg [Value.pointer (some ⟨A.sb, 0, none⟩)].toArray) w) := Lib.hid (fun w => run_build _ _ _ _ (by kernel_rfl))
  go_wp2_with (first | (refine wpList_exec rfl (exec_build 26 #[(0, .tmp 24)] _ rfl (by simp [Act.eval, Act.put]) (hbt.out _)) ?_) | (refine wpList_exec rfl (exec_build 52 #[(0, .tmp 25)] _ rfl (by simp [Act.eval, Act.put]) (hbp.out _)) ?_))
  refine hh'.out.mono ?_
  rintro e w6 ⟨rfl, hT6⟩
  have hT := Lib.hid (hT5'.out.trans hT6)
  have t6 := Lib.hid (hT.out.kept.get (hk14.out.get t1.out id) (fun e => by have := hAo'.out _ (.inl e); have := z1.out; omega))
  have hk6 : Hid (Kept (fun _ => False) w w6) := Lib.hid ((k1.out.trans hk14.out).trans_new hT.out.kept (fun i hi e => by have := hAo'.out _ (.inl e); have := z1.out; omega))
  have c6 := cell_of_heap t6.out 0
  have f6 := free_of_heap t6.out 0
  simp at c6
  have hk46 : Hid (∀ k, A5.own k → w.heap.size + 1 ≤ k) := Lib.hid (fun k hk => by
    have hz := z1.out
    have hsz4 := hk14.out.size
    rcases hk with hk | hk | hk
    · rcases hT.out.foot k hk with h | h
      · have := hAo'.out _ (.inl h); omega
      · omega
    · rw [hT.out.fix.2] at hk
      have := hAo'.out _ (.inr (.inl hk)); omega
    · rw [hT.out.fix.1] at hk
      have := hAo'.out _ (.inr (.inr hk)); omega)
  have hsb : A5.sb = A.sb := hT.out.sb
  clear hT6
  go_wp2_with (first | (refine wpList_store_whole 52 rfl rfl rfl [.pointer (some ⟨A.sb, 0, none⟩)] rfl (by kernel_rfl) 52 #[.pointer none] t6.out rfl (by intro c hc; simp at hc; subst hc; rfl) ?_))
  refine bodyPost_ret (results_row_tmp2 rfl _ _ w.heap.size 52 #[.pointer (some ⟨A.sb, 0, none⟩)] (0, 0) _ rfl (setRow_heap _ _ _ _ 52 (0, 0) t6.out) Tryz.underlying52 rfl (by kernel_rfl)) rfl ?_
  have kS := (Kept.refl (fun i => i = w.heap.size) w6).setRow rfl #[.pointer (some ⟨A.sb, 0, none⟩)]
  exact ⟨A5, by rw [hsb]; rfl, hT.out.store.kept kS (fun i hi e => by have := hk46.out i hi; omega), hk6.out.setRowNew (Nat.le_refl _) _, fun k hk => by have := hk46.out k hk; omega⟩
end Go.Proofs.YthmjcbmeiabbgaaGreat
/-
  understudylaw11.exact: whether as many pages are taken as a tree's nodes are, and some blocks.
-/
namespace Go.Proofs.YthmjcbmeiabbgaaGreat
open Go.RowKit
set_option maxRecDepth 100000

/-- What holds in the loop. -/
structure Ex11St (w1 : World) (A : SA) (M : SM) (l : List Int) (pb : Nat) (u : Value) (wr : World) : Prop where
  to : StoreTo A A M.tidy w1 wr
  box : wr.heap[pb]? = some (.cells #[.pointer (some ⟨A.sb, 0, none⟩)] 52 (0, 0))
  new : pb < w1.heap.size ∧ ¬ A.foot pb
  row : wr.ownsRow w1.heap.size 3 1 u l.length (l.map (Value.int .i64))
theorem Ex11St.fresh {w1 wr w' : World} {A : SA} {M : SM} {l : List Int} {pb : Nat} {u : Value} (h : Ex11St w1 A M l pb u wr) (k : Kept (fun _ => False) wr w') : Ex11St w1 A M l pb u w' :=
  ⟨h.to.fresh k, k.get h.box id, h.new, ownsRow.keptOf h.row k (fun _ _ => id)⟩
set_option maxHeartbeats 8000000 in
theorem exact11 {K : SM → Prop} {s : Nat} {bl : List Nat} {M : SM} {root : Int} {l : List (Int × Int)} {P : Nat} (h : OneTree K s bl M root l P) (hm : Mild M) (hb : bl.Nodup) (hone : bl.length = 1) (hrw : -9223372036854775808 ≤ root ∧ root ≤ 9223372036854775807) {w : World} {A : SA} (hS : StoreAt w A M) :
    Calls Tryz.prog 25 #[.agg #[.pointer (some ⟨A.sb, 0, none⟩)], .int .i64 root] w fun e w' => e = .returned (.bool true) ∧ StoreTo A A M.tidy w w' := by
  obtain ⟨L, hreach, hgets, hcount, hlenL⟩ := exact_count h hm hb
  obtain ⟨pb, hpb⟩ : ∃ pb, w.heap.size = pb := ⟨_, rfl⟩
  obtain ⟨w1, hw1⟩ : ∃ w1, w.alloc (.cells #[.pointer (some ⟨A.sb, 0, none⟩)] 52) = w1 := ⟨_, rfl⟩
  have k1 : Kept (fun _ => False) w w1 := by rw [← hw1]; exact (Kept.refl _ _).alloc _
  have q1 : w1.heap[pb]? = some (.cells #[.pointer (some ⟨A.sb, 0, none⟩)] 52 (0, 0)) := by rw [← hw1, ← hpb]; exact heap_alloc_new _ _
  have S1 := Lib.hid (hS.fresh k1)
  have hsafe : Hid (Safe w1 A pb) := Lib.hid (Safe.new hS (by omega) (lt_of_heap q1))
  have hsz := Lib.hid h.size
  have hs240 := Lib.hid h.exact.size
  have hgets' := Lib.hid hgets
  have hLn' : Hid (L.length ≤ 240) := Lib.hid (by have h1 := h.exact.size; have h2 := hlenL; omega)
  have hreach' := Lib.hid hreach
  have hw1' := Lib.hid hw1
  have hpb' := Lib.hid hpb
  have k1' := Lib.hid k1
  have q1' := Lib.hid q1
  have hc0 := cell_of_heap q1 0
  simp at hc0
  clear hlenL hgets hreach hw1 hpb k1 q1 hm hb h
  go_enter Tryz.func25, Tryz.ntmps25
  go_wp2_with (first | (refine wpList_box_named 52 rfl rfl _ rfl hw1'.out ?_; rw [hpb'.out]))
  refine (storePool S1.out).mono ?_
  rintro e w2 ⟨rfl, rfl⟩
  go_wp2_with fail
  refine (tidy_any S1.out.pool).mono ?_
  rintro e w2 ⟨rfl, hT⟩
  have T2 : Hid (StoreTo A A M.tidy w1 w2) := Lib.hid (S1.out.pooled hT rfl)
  have q2 : Hid (w2.heap[pb]? = some (.cells #[.pointer (some ⟨A.sb, 0, none⟩)] 52 (0, 0))) := Lib.hid (T2.out.get q1'.out hsafe.out)
  have c20 := cell_of_heap q2.out 0
  simp at c20
  have k3 : Kept (fun _ => False) w2 (w2.alloc (.cells #[.int .i64 root] 3)) := (Kept.refl _ _).alloc _
  have hR := reachAny (T2.out.store.fresh k3) (v := .slice (some ⟨w2.heap.size, 0, none⟩) 1 1) (l := [root]) (SliceAt.block_new (heap_alloc_new _ _) rfl (by decide)) (by simp) (fun x hx => by rw [List.mem_singleton.1 hx]; exact hrw)
  rw [hreach'.out] at hR
  dsimp only at hR
  have hR' := Lib.hid hR
  have k3' := Lib.hid k3
  clear hT hc0 hR k3
  go_wp2_with fail
  refine hR'.out.mono ?_
  rintro e w4 ⟨u, rfl, hown4, hk4⟩
  obtain ⟨_, Al, capl, rfl, hcl1, hcl2, _⟩ := SliceAt.of_owns hown4
  unfold maxLen at hcl2
  have hLn : L.length ≤ 240 := hLn'.out
  have E4 : Hid (Ex11St w1 A M L pb (.slice Al L.length capl) w4) := Lib.hid ⟨(T2.out.fresh k3'.out).fresh hk4, hk4.get (k3'.out.get q2.out id) id, ⟨hsafe.out.lt, hsafe.out.off⟩, owns_le' hown4 (Nat.le_trans T2.out.kept.size k3'.out.size)⟩
  clear hown4 hk4 c20
  obtain ⟨Z, hZ⟩ : ∃ Z, nodeCells NM.zero (.slice none 0 0) = Z := ⟨_, rfl⟩
  have hZz : Hid ((Tryz.prog.info? 80).map (·.zero) = some (some (.agg Z.toArray))) := Lib.hid (by rw [← hZ]; exact node_zero)
  have hZl : Hid (Z.length = 18) := Lib.hid (by rw [← hZ]; exact nodeCells_len _ _)
  clear hZ
  go_wp2_with fail
  go_loopw [7, 30] (fun c i wr => ∃ (k : Nat), k ≤ L.length ∧ i = .int .i64 k ∧ c = .int .i64 (((L.take k).countP M.innerB : Nat) : Int) ∧ Hid (Ex11St w1 A M L pb (.slice Al L.length capl) wr)) (fun _ i _ => L.length - (intOf i).toNat)
  case atStart => exact ⟨0, Nat.zero_le _, rfl, rfl, E4⟩
  case round =>
    obtain ⟨k, hkl, rfl, rfl, hI⟩ := hrel
    by_cases hlt : k < L.length
    · obtain ⟨x, hx⟩ : ∃ x, L[k]? = some x := ⟨_, List.getElem?_eq_getElem hlt⟩
      obtain ⟨n, hgn, hinn⟩ := hgets'.out x (List.mem_of_getElem? hx)
      obtain ⟨lb, lo, rfl, hlb, hlc⟩ := ints_cell (SliceAt.of_owns hI.out.row) hx
      have cw0 := cell_of_heap hI.out.box 0
      simp at cw0
      have hg := get_any hI.out.to.store x
      rw [hgn] at hg
      dsimp only at hg
      have hg' := Lib.hid hg
      have hki : (k : Int) < (L.length : Int) := by omega
      have hnext : Hid ((L.take (k + 1)).countP M.innerB = (L.take k).countP M.innerB + (if n.kind = 1 then 0 else 1)) := Lib.hid (by rw [List.take_add_one, hx, List.countP_append]; congr 1; show [x].countP M.innerB = _; rw [List.countP_singleton, hinn]; by_cases e : n.kind = 1 <;> simp [e])
      have hcle : (L.take k).countP M.innerB ≤ 240 := by have h1 := List.countP_le_length (p := M.innerB) (l := L.take k); rw [List.length_take] at h1; omega
      clear hx hgn hg hinn
      go_wp2_with fail
      refine hg'.out.mono ?_
      rintro e w5 ⟨v5, rfl, hown5, hk5⟩
      obtain ⟨F, hF⟩ : ∃ F, nodeCells n v5 = F := ⟨_, rfl⟩
      have hFl : Hid (F.length = 18) := Lib.hid (by rw [← hF]; exact nodeCells_len _ _)
      have hF1 : Hid (∀ v ∈ F, v.oneCell' = true) := Lib.hid (by rw [← hF]; obtain ⟨_, A5, c5, rfl, _⟩ := SliceAt.of_owns hown5; exact nodeCells_one _ _ _ _)
      have hF0 : F[0]? = some (.int .i64 n.kind) := by rw [← hF]; rfl
      obtain ⟨nb, hnb⟩ : ∃ nb, w5.heap.size = nb := ⟨_, rfl⟩
      obtain ⟨w6, hw6⟩ : ∃ w6, (w5.alloc (.cells Z.toArray 80)).setRow nb F.toArray = w6 := ⟨_, rfl⟩
      have k6 : Kept (fun _ => False) w5 w6 := by rw [← hw6]; exact ((Kept.refl _ _).alloc _).setRowNew (by omega) _
      have q6 : w6.heap[nb]? = some (.cells F.toArray 80 (0, 0)) := by rw [← hw6, ← hnb]; exact setRow_heap _ _ _ _ _ _ (heap_alloc_new _ _)
      have c60 : w6.cell? ⟨nb, 0, none⟩ = some (.int .i64 n.kind) := by rw [cell_of_heap q6]; simpa using hF0
      have E6 := Lib.hid ((hI.out.fresh hk5).fresh k6)
      have hnb' := Lib.hid hnb
      have hw6' := Lib.hid hw6
      rw [hF]
      clear hown5 hk5 hF hnb hw6 k6 q6 hI cw0 hlc hF0
      by_cases hkd : n.kind = 1
      · have hb : (n.kind == 1) = true := by simp [hkd]
        have hn : Hid ((L.take (k + 1)).countP M.innerB = (L.take k).countP M.innerB) := Lib.hid (by rw [hnext.out, if_pos hkd, Nat.add_zero])
        clear hkd
        go_wp2_with (first | (refine wpList_alloc_as 80 rfl rfl Z.toArray hZz.out ?_; rw [hnb'.out]) | (refine wpList_store_whole 80 rfl rfl rfl F rfl (by rw [hFl.out]; exact node_size) 80 _ (by rw [← hnb'.out]; exact heap_alloc_new _ _) (by simp [hFl.out, hZl.out]) hF1.out ?_; rw [hw6'.out]))
        go_roundw
        case rel => exact ⟨k + 1, by omega, by go_num, by rw [hn.out], E6⟩
        case measure => simp [intOf]; omega
      · have hb : (n.kind == 1) = false := by simp [hkd]
        have hn : Hid ((L.take (k + 1)).countP M.innerB = (L.take k).countP M.innerB + 1) := Lib.hid (by rw [hnext.out, if_neg hkd])
        clear hkd
        go_wp2_with (first | (refine wpList_alloc_as 80 rfl rfl Z.toArray hZz.out ?_; rw [hnb'.out]) | (refine wpList_store_whole 80 rfl rfl rfl F rfl (by rw [hFl.out]; exact node_size) 80 _ (by rw [← hnb'.out]; exact heap_alloc_new _ _) (by simp [hFl.out, hZl.out]) hF1.out ?_; rw [hw6'.out]))
        go_roundw
        case rel => exact ⟨k + 1, by omega, by go_num, by rw [hn.out]; go_num, E6⟩
        case measure => simp [intOf]; omega
    · obtain rfl : k = L.length := by omega
      rw [List.take_length]
      have Ef := hI
      have cz0 : Hid (wr.cell? ⟨pb, 0, none⟩ = some (.pointer (some ⟨A.sb, 0, none⟩))) := Lib.hid (by have h1 := cell_of_heap hI.out.box 0; simpa using h1)
      obtain ⟨fr, hfr⟩ : ∃ fr, M.tidy.pool.freeCount = fr := ⟨_, rfl⟩
      have hfr' := Lib.hid hfr
      obtain ⟨cn, hcn⟩ : ∃ cn, L.countP M.innerB = cn := ⟨_, rfl⟩
      rw [hfr, hcn] at hcount
      rw [hcn]
      have hs2 : s ≤ 240 := by have h1 := hsz.out; have h2 := hs240.out; omega
      have hsz' : Hid (M.tidy.pool.size = s) := Lib.hid hsz.out
      have a1 : IntKind.i64.wrap ((s : Int) - (fr : Int)) = (s : Int) - (fr : Int) := by rw [IntKind.wrap_i64]; omega
      have a2 : IntKind.i64.wrap ((cn : Int) + 1) = (cn : Int) + 1 := by rw [IntKind.wrap_i64]; omega
      have a3 : (((s : Int) - (fr : Int)) == (cn : Int) + 1) = true := by simp; omega
      clear hI hfr hcn
      go_wp2_with fail
      refine wp_region_quiet (C := fun w' => Kept (fun _ => False) wr w') (by kernel_rfl) (by kernel_rfl) (Kept.refl _ _).drew ?_
      simp only []
      refine wpQuiet_step (fun K hK => ?_); go_simp; refine ⟨_, fun _ _ => rfl, hK _ ?_⟩; clear hK K
      refine wpQuiet_step (fun K hK => ?_); go_simp; refine ⟨_, fun _ _ => rfl, hK _ ?_⟩; clear hK K
      refine wpQuiet_step (fun K hK => ?_); refine q_on rfl (q_val (.pointer (some ⟨A.sb, 0, none⟩)) (fun W hW => by have hc := hW.cell cz0.out id; clear hW; go_simp) (hK _ ?_)); clear hK K
      refine wpQuiet_step (fun K hK => ?_); go_simp; refine ⟨_, fun W hW => Calls.stay hW (storePool (Ef.out.fresh hW).to.store), hK _ ?_⟩; clear hK K
      refine wpQuiet_step (fun K hK => ?_); go_simp; refine ⟨_, fun W hW => Calls.stay hW (by have h := size_any (Ef.out.fresh hW).to.store.pool; rw [hsz'.out] at h; exact h), hK _ ?_⟩; clear hK K
      refine wpQuiet_step (fun K hK => ?_); go_simp; refine ⟨_, fun _ _ => rfl, hK _ ?_⟩; clear hK K
      refine wpQuiet_step (fun K hK => ?_); go_simp; refine ⟨_, fun _ _ => rfl, hK _ ?_⟩; clear hK K
      refine wpQuiet_step (fun K hK => ?_); refine q_on rfl (q_val (.pointer (some ⟨A.sb, 0, none⟩)) (fun W hW => by have hc := hW.cell cz0.out id; clear hW; go_simp) (hK _ ?_)); clear hK K
      refine wpQuiet_step (fun K hK => ?_); go_simp; refine ⟨_, fun W hW => Calls.stay hW (storePool (Ef.out.fresh hW).to.store), hK _ ?_⟩; clear hK K
      refine wpQuiet_step (fun K hK => ?_); go_simp; refine ⟨_, fun W hW => Calls.stay hW (by have h := freeCount_any (Ef.out.fresh hW).to.store.pool; rw [hfr'.out] at h; exact h), hK _ ?_⟩; clear hK K
      refine wpQuiet_step (fun K hK => ?_); go_simp; refine ⟨_, fun _ _ => rfl, hK _ ?_⟩; clear hK K
      refine wpQuiet_step (fun K hK => ?_); go_simp; refine ⟨_, fun _ _ => rfl, hK _ ?_⟩; clear hK K
      refine wpQuiet_step (fun K hK => ?_); go_simp; refine ⟨_, fun _ _ => rfl, hK _ ?_⟩; clear hK K
      refine wpQuiet_step (fun K hK => ?_); go_simp; refine ⟨_, fun _ _ => rfl, hK _ ?_⟩; clear hK K
      refine wpQuiet_step (fun K hK => ?_); go_simp; refine ⟨_, fun _ _ => rfl, hK _ ?_⟩; clear hK K
      refine wpQuiet_nil ?_
      intro wq hwq
      have fin : Hid (StoreTo A A M.tidy w wq) := Lib.hid (StoreTo.before k1'.out (Ef.out.fresh hwq).to)
      clear hwq
      go_wp2_with fail
      go_ret
      exact ⟨rfl, fin.out⟩
end Go.Proofs.YthmjcbmeiabbgaaGreat
/-
  One tree in a store, plain: what the laws on chapter 11 ask.
-/
namespace Go.Proofs.YthmjcbmeiabbgaaGreat
open Go.RowKit

theorem clean_mild {M : SM} (h : Clean M) : Mild M := fun q => by
  have := (h q).1
  omega
section
variable {K : SM → Prop} {s c : Nat} {bl : List Nat} {M : SM} {root : Int} {l : List (Int × Int)} {P : Nat}
theorem OneTree.none (h : OneTree K s bl M root l P) : (root = -1 ↔ l = []) := by
  rcases h.root with ⟨e, el⟩ | ⟨k, t, _⟩
  · exact ⟨fun _ => el, fun _ => e⟩
  · have h0 := (heldB_int t.held).1
    have h1 := tr_ge t
    refine ⟨fun e => ?_, fun e => ?_⟩
    · omega
    · rw [e] at h1
      simp at h1
      omega
theorem OneTree.range (h : OneTree K s bl M root l P) : -1 ≤ root ∧ root < 240 := by
  rcases h.root with ⟨e, _⟩ | ⟨k, t, _⟩
  · omega
  · obtain ⟨h0, h1⟩ := heldB_int t.held
    have := live_lt (M := M) h1
    have := h.exact.size
    omega
theorem OneTree.out (h : OneTree K s bl M root l P) {key : Int} (hk : key < 0 ∨ 63 < key) : cutL l key = l := cutL_none fun y hy => by
  have := h.keys.2 y hy
  omega
end
theorem put_bad (M : SM) (root : Int) {key : Int} (page : Int) (hk : key < 0 ∨ 63 < key) : M.put root key page = (M, -1, 101) := by
  unfold SM.put
  rw [if_pos (by omega)]
theorem cut_bad (M : SM) (root : Int) {key : Int} (hk : key < 0 ∨ 63 < key) : M.cut root key = (M, -1, false, 101) := by
  unfold SM.cut
  rw [if_pos (by omega)]
end Go.Proofs.YthmjcbmeiabbgaaGreat
/-
  Pruners (package prune): Trim.
-/
namespace Go.Proofs.YthmjcbmeiabbgaaGreat
open Go.RowKit
set_option maxRecDepth 100000

/-- Whole numbers that no call of a store writes. -/
structure IntsOff (w : World) (A : SA) (v : Value) (l : List Int) : Prop where
  at_ : SliceAt w v 1 l.length (l.map (Value.int .i64))
  off : l ≠ [] → ∀ b, v.ownBlock = some b → b < w.heap.size ∧ ¬ A.foot b
theorem IntsOff.fresh {w w' : World} {A : SA} {v : Value} {l : List Int} (h : IntsOff w A v l) (k : Kept (fun _ => False) w w') : IntsOff w' A v l :=
  ⟨SliceAt.fresh h.at_ k, fun hl b hb => ⟨Nat.lt_of_lt_of_le (h.off hl b hb).1 k.size, (h.off hl b hb).2⟩⟩
theorem ints_nil {w w' : World} {v : Value} (h : SliceAt w v 1 0 []) : SliceAt w' v 1 0 [] := by
  obtain ⟨h1, A, cap, h2, h3, h4, _⟩ := h
  exact ⟨h1, A, cap, h2, h3, h4, fun j v hj => by simp at hj⟩
theorem IntsOff.to {A A' : SA} {M' : SM} {w w' : World} {v : Value} {l : List Int} (h : IntsOff w A v l) (k : StoreTo A A' M' w w') : IntsOff w' A' v l :=
  ⟨by
    by_cases hl : l = []
    · subst hl; exact ints_nil h.at_
    · exact SliceAt.kept h.at_ k.kept fun b hb => (h.off hl b hb).2, fun hl b hb => ⟨Nat.lt_of_lt_of_le (h.off hl b hb).1 k.kept.size, fun e => (k.foot b e).elim (h.off hl b hb).2 fun e => absurd (h.off hl b hb).1 (Nat.not_lt.2 e)⟩⟩
theorem IntsOff.form {w : World} {A : SA} {v : Value} {l : List Int} (h : IntsOff w A v l) : ∃ Av cap, v = .slice Av l.length cap ∧ l.length ≤ cap ∧ cap ≤ maxLen := by
  obtain ⟨_, Av, cap, hv, h1, h2, _⟩ := h.at_
  exact ⟨Av, cap, hv, h1, h2⟩
theorem IntsOff.get {w : World} {A : SA} {Av : Option Addr} {n cap : Nat} {l : List Int} (h : IntsOff w A (.slice Av n cap) l) {i : Nat} {x : Int} (hx : l[i]? = some x) :
    ∃ b off, Av = some ⟨b, off, none⟩ ∧ b < w.heap.size ∧ w.cell? ⟨b, off + i, none⟩ = some (.int .i64 x) := by
  have hi : i < l.length := (List.getElem?_eq_some_iff.1 hx).1
  obtain ⟨_, A', cap', hv, h1, h2, h3⟩ := id h.at_
  injection hv with e1 e2 e3
  subst e2
  obtain ⟨b, off, hA, hb, hc⟩ := SliceAt.elem h.at_ hi (by decide)
  refine ⟨b, off, hA, hb, ?_⟩
  have := hc 0 (.int .i64 x) (by decide) (by simp [hx])
  simpa using this
theorem trim_cons (x : Int) (ks : List Int) (M : SM) (root : Int) : SM.trim (x :: ks) M root =
    if (M.cut root x).2.2.2 = 0 then
      (if (M.cut root x).2.2.1 = true then (if ((M.cut root x).1.swap root (M.cut root x).2.1).2 = 0 then SM.trim ks ((M.cut root x).1.swap root (M.cut root x).2.1).1 (M.cut root x).2.1 else (((M.cut root x).1.swap root (M.cut root x).2.1).1, -1, ((M.cut root x).1.swap root (M.cut root x).2.1).2))
       else SM.trim ks (M.cut root x).1 (M.cut root x).2.1)
    else ((M.cut root x).1, -1, (M.cut root x).2.2.2) := by
  conv => lhs; unfold SM.trim
  dsimp only
  split
  · split
    · rfl
    · rfl
  · rfl
theorem trim_log {w : World} {A : SA} {M : SM} (h : StoreAt w A M) (root x : Int) : (SM.trim [x] M root).1.log.length ≤ M.log.length + 20 := by
  have h1 := cut_log h root x
  have h2 := swap_log (M.cut root x).1 root (M.cut root x).2.1
  rw [trim_cons]
  split
  · split
    · split
      · show ((M.cut root x).1.swap root (M.cut root x).2.1).1.log.length ≤ _; rw [h2]; exact h1
      · show ((M.cut root x).1.swap root (M.cut root x).2.1).1.log.length ≤ _; rw [h2]; exact h1
    · exact h1
  · exact h1
/-- What holds in the midst of Trim. -/
structure TrimSt (w : World) (A : SA) (M : SM) (ks : List Int) (root : Int) (v : Value) (k : Nat) (root' : Int) (A' : SA) (M' : SM) (wr : World) : Prop where
  to_ : StoreTo A A' M' w wr
  pb : wr.heap[w.heap.size]? = some (.cells #[.pointer (some ⟨A.sb, 0, none⟩)] 52 (0, 0))
  sp : Safe wr A' w.heap.size
  keys : IntsOff wr A' v ks
  rest : SM.trim (ks.drop k) M' root' = SM.trim ks M root
  log : M'.log.length ≤ M.log.length + 20 * k
theorem TrimSt.load {w wr : World} {A A' : SA} {M M' : SM} {ks : List Int} {root root' : Int} {v : Value} {k : Nat} (h : TrimSt w A M ks root v k root' A' M' wr) : ∀ j u, [Value.pointer (some ⟨A.sb, 0, none⟩)][j]? = some u → wr.cell? ⟨w.heap.size, 0 + j, none⟩ = some u := fun j u hj => by rw [Nat.zero_add, cell_of_heap h.pb]; simpa using hj

set_option maxHeartbeats 8000000 in
theorem pruneTrim {w : World} {A : SA} {M : SM} (h : StoreAt w A M) (root : Int) {v : Value} {ks : List Int} (hv : IntsOff w A v ks) (hks : ks.length ≤ 1000) (hfew : M.log.length + 100000 < 100000000) :
    Calls Tryz.prog 29 #[.agg #[.pointer (some ⟨A.sb, 0, none⟩)], .int .i64 root, v] w fun e w' => ∃ A', e = .returned (.tuple #[.int .i64 (SM.trim ks M root).2.1, .int .i64 (SM.trim ks M root).2.2]) ∧ StoreTo A A' (SM.trim ks M root).1 w w' := by
  obtain ⟨Av, cap, rfl, hc1, hc2⟩ := hv.form
  unfold maxLen at hc2
  obtain ⟨w1, hw1⟩ : ∃ w1, w.alloc (.cells #[.pointer (some ⟨A.sb, 0, none⟩)] 52) = w1 := ⟨_, rfl⟩
  have k1 : Kept (fun _ => False) w w1 := by rw [← hw1]; exact (Kept.refl _ _).alloc _
  have I1 : Hid (∃ A' M', TrimSt w A M ks root (.slice Av ks.length cap) 0 root A' M' w1) := Lib.hid ⟨A, M, (StoreTo.refl h).fresh k1, by rw [← hw1]; exact heap_alloc_new _ _, Safe.new h (Nat.le_refl _) (by rw [← hw1]; simp), hv.fresh k1, rfl, Nat.le_refl _⟩
  have hw1' := Lib.hid hw1
  clear hw1 k1 h hv
  go_enter Tryz.func29, Tryz.ntmps29
  go_wp2_with (first | (refine wpList_box_named 52 rfl rfl _ rfl hw1'.out ?_))
  go_loopw [1, 15] (fun r i wr => ∃ (k : Nat) (root' : Int), k ≤ ks.length ∧ i = .int .i64 k ∧ r = .int .i64 root' ∧ Hid (∃ A' M', TrimSt w A M ks root (.slice Av ks.length cap) k root' A' M' wr)) (fun _ i _ => ks.length - (intOf i).toNat)
  case atStart => exact ⟨0, root, Nat.zero_le _, rfl, rfl, I1⟩
  case round =>
    obtain ⟨k, root', hk, rfl, rfl, hI⟩ := hrel
    obtain ⟨A', M', St⟩ := hI.out
    have St' := Lib.hid St
    by_cases hlt : k < ks.length
    · obtain ⟨x, hx⟩ : ∃ x, ks[k]? = some x := ⟨_, List.getElem?_eq_getElem hlt⟩
      obtain ⟨b, off, rfl, hb, hxc⟩ := St.keys.get hx
      have hd : ks.drop k = x :: ks.drop (k + 1) := by rw [List.drop_eq_getElem_cons hlt, (List.getElem?_eq_some_iff.1 hx).2]
      have hrest := St.rest
      rw [hd, trim_cons] at hrest
      have hcut := pruneCut St.to_.store root' x (by have := St.log; omega)
      rw [St.to_.sb] at hcut
      have hlog := cut_log St.to_.store root' x
      have hki : (k : Int) < (ks.length : Int) := by omega
      have hload : Hid (∀ j u, [Value.pointer (some ⟨A.sb, 0, none⟩)][j]? = some u → wr.cell? ⟨w.heap.size, 0 + j, none⟩ = some u) := Lib.hid St.load
      obtain ⟨R, hR⟩ : ∃ R, M'.cut root' x = R := ⟨_, rfl⟩
      rw [hR] at hcut hlog
      simp only [hR] at hrest
      obtain ⟨M1, next, was, er⟩ := R
      dsimp only at hcut hlog hrest
      have hcut' := Lib.hid hcut
      have hrest' := Lib.hid hrest
      have hlog' := Lib.hid hlog
      clear hcut hR hx hd hI St hrest hlog
      go_wp2_with (first | (refine wpList_load_agg 52 rfl rfl rfl _ Tryz.underlying52 rfl [.pointer (some ⟨A.sb, 0, none⟩)] (by kernel_rfl) hload.out ?_))
      refine hcut'.out.mono ?_
      rintro e w3 ⟨A3, rfl, hT3⟩
      have T3 := Lib.hid (St'.out.to_.trans hT3)
      have p3 := Lib.hid (hT3.get St'.out.pb St'.out.sp)
      have s3 := Lib.hid (St'.out.sp.to hT3)
      have K3 := Lib.hid (St'.out.keys.to hT3)
      have ct3 := cell_of_heap p3.out 0
      simp at ct3
      clear hT3
      by_cases h0 : er = 0
      · subst h0
        cases was with
        | false =>
          have hr2 := hrest'.out
          rw [if_pos rfl, if_neg (by decide)] at hr2
          have fin : Hid (∃ A' M', TrimSt w A M ks root (.slice (some ⟨b, off, none⟩) ks.length cap) (k + 1) next A' M' w3) := Lib.hid ⟨A3, M1, T3.out, p3.out, s3.out, K3.out, hr2, by have := hlog'.out; have := St'.out.log; omega⟩
          clear hr2
          go_wp2_with fail
          go_roundw
          case rel => exact ⟨k + 1, next, by omega, by go_num, rfl, fin⟩
          case measure => simp [intOf]; omega
        | true =>
          have hr2 := hrest'.out
          rw [if_pos rfl, if_pos rfl] at hr2
          have hS := treeSwap T3.out.store root' next
          rw [T3.out.sb] at hS
          have hlogS := swap_log M1 root' next
          obtain ⟨R, hRe⟩ : ∃ R, M1.swap root' next = R := ⟨_, rfl⟩
          rw [hRe] at hS hlogS
          simp only [hRe] at hr2
          obtain ⟨M2, es⟩ := R
          dsimp only at hS hr2 hlogS
          have hS' := Lib.hid hS
          have hr2' := Lib.hid hr2
          have hload3 : Hid (∀ j u, [Value.pointer (some ⟨A.sb, 0, none⟩)][j]? = some u → w3.cell? ⟨w.heap.size, 0 + j, none⟩ = some u) := Lib.hid (fun j u hj => by rw [Nat.zero_add, cell_of_heap p3.out]; simpa using hj)
          have hlogS' := Lib.hid hlogS
          clear hS hRe hr2 hlogS
          go_wp2_with (first | (refine wpList_load_agg 26 rfl rfl rfl _ Tryz.underlying26 rfl [.pointer (some ⟨A.sb, 0, none⟩)] (by kernel_rfl) hload3.out ?_))
          refine hS'.out.mono ?_
          rintro e w4 ⟨rfl, hT4⟩
          have T4 := Lib.hid (T3.out.trans hT4)
          have p4 := Lib.hid (hT4.get p3.out s3.out)
          have s4 := Lib.hid (s3.out.to hT4)
          have K4 := Lib.hid (K3.out.to hT4)
          clear hT4
          by_cases h1 : es = 0
          · subst h1
            have hr3 := hr2'.out
            rw [if_pos rfl] at hr3
            have fin : Hid (∃ A' M', TrimSt w A M ks root (.slice (some ⟨b, off, none⟩) ks.length cap) (k + 1) next A' M' w4) := Lib.hid ⟨_, M2, T4.out, p4.out, s4.out, K4.out, hr3, by have := hlog'.out; have := St'.out.log; have := hlogS'.out; rw [this]; omega⟩
            clear hr3
            go_wp2_with fail
            go_roundw
            case rel => exact ⟨k + 1, next, by omega, by go_num, rfl, fin⟩
            case measure => simp [intOf]; omega
          · have h1' : ((es : Int) == 0) = false := by simp; omega
            have hr3 := hr2'.out
            rw [if_neg h1] at hr3
            have hr3' := Lib.hid hr3
            clear hr3 h1
            go_wp2_with fail
            go_ret2
            exact ⟨_, by rw [← hr3'.out]; rfl, by rw [← hr3'.out]; exact T4.out⟩
      · have h0' : ((er : Int) == 0) = false := by simp; omega
        have hr2 := hrest'.out
        rw [if_neg h0] at hr2
        have hr2' := Lib.hid hr2
        clear hr2 h0
        go_wp2_with fail
        go_ret2
        exact ⟨_, by rw [← hr2'.out]; rfl, by rw [← hr2'.out]; exact T3.out⟩
    · obtain rfl : k = ks.length := by omega
      have hr := St.rest
      rw [List.drop_length] at hr
      have hr' : Hid ((M', root', 0) = SM.trim ks M root) := Lib.hid hr
      clear hI St hr
      go_wp2_with fail
      go_ret2
      exact ⟨A', by rw [← hr'.out]; rfl, by rw [← hr'.out]; exact St'.out.to_⟩
end Go.Proofs.YthmjcbmeiabbgaaGreat
/-
  Put and cut again, plain.
-/
namespace Go.Proofs.YthmjcbmeiabbgaaGreat
open Go.RowKit

theorem rises_split : ∀ {l : List (Int × Int)} (_ : RisesK l) (k : Int), l = l.filter (fun y => decide (y.1 < k)) ++ l.filter (fun y => decide (y.1 = k)) ++ l.filter (fun y => decide (k < y.1))
  | [], _, _ => rfl
  | z :: l, hr, k => by
    have hr' := List.pairwise_cons.1 hr
    have ih := rises_split hr'.2 k
    rcases Int.lt_trichotomy z.1 k with h | h | h
    · rw [List.filter_cons_of_pos (by simpa using h), List.filter_cons_of_neg (by simp; omega), List.filter_cons_of_neg (by simp; omega), List.cons_append, List.cons_append, ← ih]
    · have e1 : l.filter (fun y => decide (y.1 < k)) = [] := filter_none fun y hy => by have := hr'.1 y hy; simp; omega
      have e2 : l.filter (fun y => decide (y.1 = k)) = [] := filter_none fun y hy => by have := hr'.1 y hy; simp; omega
      rw [e1, e2, List.nil_append, List.nil_append] at ih
      rw [List.filter_cons_of_neg (by simp; omega), List.filter_cons_of_pos (by simpa using h), List.filter_cons_of_neg (by simp; omega), e1, e2, ← ih]
      rfl
    · have e1 : l.filter (fun y => decide (y.1 < k)) = [] := filter_none fun y hy => by have := hr'.1 y hy; simp; omega
      have e2 : l.filter (fun y => decide (y.1 = k)) = [] := filter_none fun y hy => by have := hr'.1 y hy; simp; omega
      rw [e1, e2, List.nil_append, List.nil_append] at ih
      rw [List.filter_cons_of_neg (by simp; omega), List.filter_cons_of_neg (by simp; omega), List.filter_cons_of_pos (by simpa using h), e1, e2, ← ih]
      rfl
theorem filter_and (l : List (Int × Int)) (p q : Int × Int → Bool) : (l.filter p).filter q = l.filter fun y => q y && p y := List.filter_filter
theorem cut_put {l : List (Int × Int)} (hr : RisesK l) {k : Int} (p : Int) (hn : ∀ y ∈ l, y.1 ≠ k) : cutL (putL l (k, p)) k = l := by
  have e1 : (l.filter fun y => decide (y.1 < k)).filter (fun y => decide (y.1 ≠ k)) = l.filter fun y => decide (y.1 < k) := filter_all fun y hy => by have := (List.mem_filter.1 hy).2; simp at this ⊢; omega
  have e2 : (l.filter fun y => decide (k < y.1)).filter (fun y => decide (y.1 ≠ k)) = l.filter fun y => decide (k < y.1) := filter_all fun y hy => by have := (List.mem_filter.1 hy).2; simp at this ⊢; omega
  have e3 : l.filter (fun y => decide (y.1 = k)) = [] := filter_none fun y hy => by have := hn y hy; simpa using this
  have h := rises_split hr k
  rw [e3, List.append_nil] at h
  unfold cutL putL
  rw [List.filter_append, List.filter_append, e1, e2]
  conv => rhs; rw [h]
  simp
theorem put_cut {l : List (Int × Int)} (hr : RisesK l) {k p : Int} (hk : (k, p) ∈ l) : putL (cutL l k) (k, p) = l := by
  have e1 : (cutL l k).filter (fun y => decide (y.1 < k)) = l.filter fun y => decide (y.1 < k) := by
    unfold cutL
    rw [filter_and]
    refine List.filter_congr fun y _ => ?_
    by_cases h : y.1 < k
    · have : y.1 ≠ k := by omega
      simp [h, this]
    · simp [h]
  have e2 : (cutL l k).filter (fun y => decide (k < y.1)) = l.filter fun y => decide (k < y.1) := by
    unfold cutL
    rw [filter_and]
    refine List.filter_congr fun y _ => ?_
    by_cases h : k < y.1
    · have : y.1 ≠ k := by omega
      simp [h, this]
    · simp [h]
  have e3 : l.filter (fun y => decide (y.1 = k)) = [(k, p)] := by
    obtain ⟨a, b, rfl⟩ := List.append_of_mem hk
    have hp := List.pairwise_append.1 hr
    have hq := List.pairwise_cons.1 hp.2.1
    rw [List.filter_append, List.filter_cons_of_pos (by simp), filter_none (l := a) (fun y hy => by have := hp.2.2 y hy (k, p) (List.mem_cons_self ..); simp at this ⊢; omega),
      filter_none (l := b) (fun y hy => by have := hq.1 y hy; simp at this ⊢; omega)]
    rfl
  have h := rises_split hr k
  rw [e3] at h
  unfold putL
  rw [e1, e2]
  exact h.symm
theorem findL_neg : ∀ {l : List (Int × Int)} {k : Int}, (∀ y ∈ l, 0 ≤ y.2) → findL l k = -1 → ∀ y ∈ l, y.1 ≠ k
  | [], _, _, _, y, hy => by cases hy
  | z :: l, k, h0, hf, y, hy => by
    unfold findL at hf
    have hz := h0 z (List.mem_cons_self ..)
    by_cases e : z.1 = k
    · rw [if_pos e] at hf
      omega
    · rw [if_neg e] at hf
      rcases List.mem_cons.1 hy with rfl | hy
      · exact e
      · exact findL_neg (fun y hy => h0 y (List.mem_cons_of_mem _ hy)) hf y hy
theorem findL_pos : ∀ {l : List (Int × Int)} {k : Int}, findL l k ≠ -1 → (k, findL l k) ∈ l
  | [], _, h => absurd rfl h
  | z :: l, k, h => by
    unfold findL at h ⊢
    by_cases e : z.1 = k
    · rw [if_pos e]
      rw [← e]
      exact List.mem_cons_self ..
    · rw [if_neg e] at h ⊢
      exact List.mem_cons_of_mem _ (findL_pos h)
section
variable {K : SM → Prop} {s c : Nat} {bl : List Nat} {M : SM} {root : Int} {l : List (Int × Int)} {P : Nat}
theorem one_trim (h : OneTree K s bl M root l P) (hB : Besides K c) (hP : P ≤ 150) (hbl : bl.length ≤ 5) (hs : 5 + 73 + c + 20 ≤ s) {key : Int} (k0 : 0 ≤ key) (k1 : key < 64) :
    (SM.trim [key] M root).2.2 = 0 ∧ OneTree K s bl (SM.trim [key] M root).1 (SM.trim [key] M root).2.1 (cutL l key) P := by
  rw [trim_cons]
  rcases one_cut h hB hP hbl hs k0 k1 with ⟨e, e2, _⟩ | ⟨e1, e2, _, _, e3, e4⟩
  · rw [e, e2]
    exact ⟨rfl, h⟩
  · rw [if_pos e1, if_pos e2, if_pos e3]
    exact ⟨rfl, e4⟩
end
end Go.Proofs.YthmjcbmeiabbgaaGreat
