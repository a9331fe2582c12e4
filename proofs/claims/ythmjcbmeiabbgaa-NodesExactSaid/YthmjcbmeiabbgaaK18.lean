/-
  Nodes in a store: what can be reached: slices.Clone at ints.
-/
import Derived.Test.YthmjcbmeiabbgaaK03
import Derived.Test.YthmjcbmeiabbgaaK12
import Derived.Test.YthmjcbmeiabbgaaK16
import Derived.Test.YthmjcbmeiabbgaaK17
import Derived.Lib.LazyBuf
import Derived.WalkArith
set_option linter.unusedVariables false
set_option linter.unusedSimpArgs false
namespace Go.Proofs.Ythmjcbmeiabbgaa
open Go.RowKit
set_option maxRecDepth 100000

theorem ints_one (l : List Int) : ∀ c ∈ l.map (Value.int .i64), c.oneCell' = true := by
  intro c hc
  obtain ⟨x, _, rfl⟩ := List.mem_map.1 hc
  rfl
set_option maxHeartbeats 4000000 in
theorem cloneInts {w : World} {v : Value} {l : List Int} (h : SliceAt w v 1 l.length (l.map (Value.int .i64))) (hn : l.length ≤ 1000) :
    Calls Try.prog 89 #[v] w fun e w' => ∃ u, e = .returned u ∧ w'.ownsRow w.heap.size 3 1 u l.length (l.map (Value.int .i64)) ∧ Kept (fun _ => False) w w' := by
  obtain ⟨hl, A, cap, rfl, hc1, hc2, hcell⟩ := id h
  have h1 := ints_one l
  cases A with
  | none =>
    have hl0 : l = [] := by
      cases l with
      | nil => rfl
      | cons x l =>
        obtain ⟨b, off, hA, _⟩ := hcell 0 (.int .i64 x) rfl
        cases hA
    subst hl0
    have hnil : ∀ w : World, (binOp .eql 22 (.slice none 0 cap) (.slice none 0 0)).run Try.prog w = .ok (.bool true) w := fun w => Go.run_eql_slice_nil w 22 3 none 0 cap Try.underlying22
    clear hcell h hl h1
    go_enter Try.func89, Try.ntmps89

    go_wp2_with (simp only [hnil])
    go_ret
    exact ⟨_, rfl, World.ownsRow_nil _ _ _ _, Kept.refl _ _⟩
  | some a =>
    obtain ⟨w1, hw1⟩ : ∃ w1, w.alloc (.cells #[] 3) = w1 := ⟨_, rfl⟩
    have k1 := Lib.hid (show Kept (fun _ => False) w w1 by rw [← hw1]; exact (Kept.refl _ _).alloc _)
    have hown : Hid (w1.ownsRow w.heap.size 3 1 (.slice (some ⟨w.heap.size, 0, none⟩) 0 0) 0 []) := Lib.hid ⟨rfl, .inr ⟨w.heap.size, 0, #[], rfl, Nat.le_refl _, by rw [← hw1]; exact heap_alloc_new _ _, Nat.le_refl _, Nat.zero_le _, rfl, rfl⟩⟩
    have hs := Lib.hid (SliceAt.fresh h k1.out)
    have h1' := Lib.hid h1
    have hsz := k1.out.size
    have hw1' := Lib.hid hw1
    have hnil : ∀ w : World, (binOp .eql 22 (.slice (some a) l.length cap) (.slice none 0 0)).run Try.prog w = .ok (.bool false) w := fun w => Go.run_eql_slice_nil w 22 3 (some a) l.length cap Try.underlying22
    clear hcell h hl h1 hw1
    go_enter Try.func89, Try.ntmps89
    go_wp2_with (first | (simp only [hnil]) | (at_builtin; rw [hw1'.out]; refine wpList_append_src rfl elemInt (.tmp 5) (.tmp 6) rfl (by rfl) (by rfl) hown.out hs.out h1'.out (by omega) (by omega) hsz ?_; intro v2 w2 hown2 hg2 hat2))
    go_ret
    refine ⟨_, rfl, by rw [Nat.zero_add, List.nil_append] at hown2; exact hown2, k1.out.grown hg2 (fun k e => .inr ?_)⟩
    have := (hown.out.lt k e).1
    omega
end Go.Proofs.Ythmjcbmeiabbgaa
/-
  Nodes in a store: what can be reached: the map of what was seen; what a round keeps.
-/
namespace Go.Proofs.Ythmjcbmeiabbgaa
open Go.RowKit Go.Maps Go.Sort
set_option maxRecDepth 100000

/-- What has a least number. -/
noncomputable def leastF (p : Nat → Prop) : Nat := by classical exact if h : ∃ f, p f then Classical.choose (least_ex h) else 0
where
  least_ex {p : Nat → Prop} (h : ∃ f, p f) : ∃ f, p f ∧ ∀ g, p g → f ≤ g := by
    obtain ⟨f, hf⟩ := h
    induction f using Nat.strongRecOn with
    | _ f ih =>
      by_cases hg : ∃ g, g < f ∧ p g
      · obtain ⟨g, hgf, hg⟩ := hg
        exact ih g hgf hg
      · exact ⟨f, hf, fun g hpg => Nat.le_of_not_lt fun hlt => hg ⟨g, hlt, hpg⟩⟩
theorem leastF_spec {p : Nat → Prop} (h : ∃ f, p f) : p (leastF p) := by
  unfold leastF
  rw [dif_pos h]
  exact (Classical.choose_spec (leastF.least_ex h)).1
theorem leastF_le {p : Nat → Prop} {f : Nat} (h : p f) : leastF p ≤ f := by
  unfold leastF
  rw [dif_pos ⟨f, h⟩]
  exact (Classical.choose_spec (leastF.least_ex ⟨f, h⟩)).2 f h

theorem least_split {p : Nat → Prop} (h : ∃ f, p f) : ∃ f, leastF p = f ∧ p f := ⟨_, rfl, leastF_spec h⟩
/-- What was seen, as a map's datum. -/
def seenD (seen : List Int) : DataW Unit := Maps.setOf (.lit (.int .i64 1)) (seen.map (Lit.int .i64))
theorem seenD_snoc (seen : List Int) (x : Int) : seenD (seen ++ [x]) = (seenD seen).put (.int .i64 x) (.lit (.int .i64 1)) := by
  unfold seenD
  rw [List.map_append]
  exact Maps.setOf_snoc _ _ _
theorem int_key (x : Int) : WideAt.IsKeyLit (.int .i64 x) := by simp [WideAt.IsKeyLit]
theorem seenD_at (x : Int) (seen : List Int) : (seenD seen).atKey (.int .i64 x) (.lit (.int .i64 0)) = .lit (.int .i64 (if x ∈ seen then 1 else 0)) := by
  have key : ∀ (l : List Int) (m : DataW Unit), IsMap m → (l.foldl (fun m x => m.put (Lit.int .i64 x) (.lit (.int .i64 1))) m).atKey (.int .i64 x) (.lit (.int .i64 0)) = if x ∈ l then .lit (.int .i64 1) else m.atKey (.int .i64 x) (.lit (.int .i64 0)) := by
    intro l
    induction l with
    | nil => intro m _; simp
    | cons y l ih =>
      intro m hm
      rw [List.foldl_cons, ih _ (hm.put _ _)]
      by_cases hl : x ∈ l
      · rw [if_pos hl, if_pos (List.mem_cons_of_mem _ hl)]
      · rw [if_neg hl]
        by_cases e : x = y
        · subst e
          rw [if_pos (List.mem_cons_self ..), atKey_put_same hm (int_key x)]
        · rw [if_neg (by simp [e, hl]), atKey_put_other (by intro h; injection h with _ h; exact e h)]
  unfold seenD Maps.setOf
  rw [List.foldl_map, key seen _ isMap_empty]
  split <;> rfl
theorem seenD_keys {w : World} {b n : Nat} {seen : List Int} {R : Value → Option (DataW Unit × List MemPlace)} (hown : w.ownsMap Try.prog 3 R b n (seenD seen)) (hn : seen.Nodup) : seen.Perm (intKeys (seenD seen)) := by
  have K : Keyed Try.prog 3 := int_keyed Try.underlying3
  obtain ⟨es, hD, hpw, _⟩ := hown.entries K
  obtain ⟨es', hD', hko⟩ := hown.keysOf
  obtain rfl : es = es' := by rw [hD] at hD'; simpa using hD'
  have hh : ∀ x, x ∈ seen ↔ has (seenD seen) (.int .i64 x) = true := fun x => by
    unfold seenD
    rw [has_setOf _ _ _ (fun y hy => by obtain ⟨z, _, rfl⟩ := List.mem_map.1 hy; exact int_key z), List.any_map, List.any_eq_true]
    constructor
    · intro h; exact ⟨x, h, by simp [Lit.sameKey]⟩
    · rintro ⟨y, hy, he⟩
      have : y = x := by simpa [Lit.sameKey] using he
      rw [← this]; exact hy
  rw [hD] at hh ⊢
  exact perm_intKeys hpw (fun p hp => by obtain ⟨v, hv⟩ := hko p hp; obtain ⟨x, _, hx, _⟩ := Maps.keyOf_i64 Try.underlying3 hv; exact ⟨x, hx⟩) hn hh

/-- What a node that can be gotten is. -/
theorem get_ok {w : World} {A : SA} {M : SM} (h : StoreAt w A M) {x : Int} (h0 : (M.get x).2 = 0) : 0 ≤ x ∧ x < 240 ∧ (M.get x).1.ents.length ≤ 6 ∧ ∀ y ∈ (M.get x).1.ents, 0 ≤ y.2 ∧ y.2 < 240 := by
  unfold SM.get at h0 ⊢
  split at h0
  · rename_i hh
    have hb := heldB_pos hh
    have hs := h.pool.hsize
    rw [if_pos hh]
    cases hn : M.nodeAt x.toNat with
    | none => rw [hn] at h0; cases h0
    | some n =>
      dsimp only
      have hok := nodeAt_ok h hn
      refine ⟨hb.1, by omega, ?_, fun y hy => ⟨(hok.entry hy).2.2.1, (hok.entry hy).2.2.2⟩⟩
      by_cases hk : n.kind = 1
      · have := hok.1
        unfold NM.rightB at this
        rw [if_pos hk] at this
        simp at this
        rw [this]; exact Nat.zero_le _
      · exact (innerOk_of hok hk).le
  · cases h0
theorem ownsMap_kept {w w' : World} {S : Nat → Prop} {k b n : Nat} {R : Value → Option (DataW Unit × List MemPlace)} {D : DataW Unit} (h : w.ownsMap Try.prog k R b n D) (kk : Kept S w w') (hb : ¬ S b) : w'.ownsMap Try.prog k R b n D := by
  obtain ⟨es, clock, h1, F, hs, hD⟩ := h
  exact ⟨es, clock, kk.get h1 hb, F, hs, hD⟩
/-- The last one is taken off. -/
theorem owns_pop {w : World} {base g n cap : Nat} {xs : List Value} {c : Value} (h : w.ownsRow base 3 1 (.slice (some ⟨g, 0, none⟩) (n + 1) cap) (n + 1) (xs ++ [c])) : w.ownsRow base 3 1 (.slice (some ⟨g, 0, none⟩) n cap) n xs := by
  have hl := h.1
  rw [List.length_append, List.length_singleton] at hl
  refine ⟨by omega, ?_⟩
  rcases h.2 with ⟨e, _⟩ | ⟨g', c', cur, e, h2, h3, h4, h5, h6, h7⟩
  · cases e
  · cases e
    refine .inr ⟨g, cap, cur, rfl, h2, h3, by omega, h5, h6, ?_⟩
    have : (cur.toList.take ((n + 1) * 1)).take (n * 1) = (xs ++ [c]).take (n * 1) := by rw [h7]
    rw [List.take_take, Nat.min_eq_left (by omega)] at this
    rw [this, Nat.mul_one, List.take_left' (by omega)]
/-- What a round of Reach finds. -/
structure ReachAt (w : World) (M : SM) (R : List Int × Nat) (mb base f : Nat) (seen next : List Int) (v : Value) (wr : World) : Prop where
  res : M.reachF f seen next = R
  inv : ReachInv seen next f
  seen_ : wr.ownsMap Try.prog 3 (plainElem Try.prog 3) mb seen.length (seenD seen)
  next_ : wr.ownsRow base 3 1 v next.length (next.map (Value.int .i64))
  wf : ∀ x ∈ next, -9223372036854775808 ≤ x ∧ x ≤ 9223372036854775807
  kept : Kept (fun _ => False) w wr
def ReachRel (w : World) (M : SM) (R : List Int × Nat) (mb base : Nat) (f : Nat) (v : Value) (wr : World) : Prop := f ≤ 2701 ∧ ∃ seen next, ReachAt w M R mb base f seen next v wr
theorem ownsRow.slice {w : World} {base e n : Nat} {v : Value} {xs : List Value} (h : w.ownsRow base e 1 v n xs) : ∃ A cap, v = .slice A n cap ∧ (0 < n → ∃ g, A = some ⟨g, 0, none⟩) ∧ n ≤ cap ∧ cap ≤ maxLen := by
  rcases h.2 with ⟨rfl, rfl⟩ | ⟨g, cap, cur, rfl, _, _, h3, h4, _⟩
  · exact ⟨none, 0, rfl, fun h => by omega, Nat.le_refl _, Nat.zero_le _⟩
  · exact ⟨_, cap, rfl, fun _ => ⟨g, rfl⟩, h3, h4⟩
end Go.Proofs.Ythmjcbmeiabbgaa
/-
  Nodes in a store: what can be reached: the walk.
-/
namespace Go.Proofs.Ythmjcbmeiabbgaa
open Go.RowKit Go.Maps
set_option maxRecDepth 100000

set_option maxHeartbeats 8000000 in
theorem reachAny {w : World} {A : SA} {M : SM} (h : StoreAt w A M) {v : Value} {l : List Int} (hv : SliceAt w v 1 l.length (l.map (Value.int .i64))) (hn : l.length ≤ 1000) (hwf : ∀ x ∈ l, -9223372036854775808 ≤ x ∧ x ≤ 9223372036854775807) :
    Calls Try.prog 67 #[.pointer (some ⟨A.sb, 0, none⟩), v] w fun e w' => ∃ u, e = .returned (.tuple #[u, .int .i64 (M.reach l).2]) ∧
      w'.ownsRow w.heap.size 3 1 u (M.reach l).1.length ((M.reach l).1.map (Value.int .i64)) ∧ Kept (fun _ => False) w w' := by
  have K : Keyed Try.prog 3 := int_keyed Try.underlying3
  obtain ⟨R, hR⟩ : ∃ R, M.reachF (1700 + l.length) [] l = R := ⟨_, rfl⟩
  have hreach : Hid (M.reach l = if R.2 = 0 then (R.1.mergeSort leB, 0) else ([], R.2)) := Lib.hid (by unfold SM.reach; rw [hR])
  obtain ⟨Z, hZ⟩ : ∃ Z, nodeCells NM.zero (.slice none 0 0) = Z := ⟨_, rfl⟩
  have hZz : Hid ((Try.prog.info? 33).map (·.zero) = some (some (.agg Z.toArray))) := Lib.hid (by rw [← hZ]; exact node_zero)
  have hZl : Hid (Z.length = 18) := Lib.hid (by rw [← hZ]; exact nodeCells_len _ _)
  obtain ⟨mb, hmb⟩ : ∃ mb, w.heap.size = mb := ⟨_, rfl⟩
  obtain ⟨w1, hw1⟩ : ∃ w1, w.alloc (.map #[] 0) = w1 := ⟨_, rfl⟩
  have k1 : Kept (fun _ => False) w w1 := by rw [← hw1]; exact (Kept.refl _ _).alloc _
  have s1 : w1.heap.size = mb + 1 := by rw [← hw1, ← hmb]; simp
  have m1 : w1.ownsMap Try.prog 3 (plainElem Try.prog 3) mb 0 (seenD []) := by rw [← hw1, ← hmb]; exact World.ownsMap_made w Try.prog 3 _
  have hcl := Lib.hid (cloneInts (SliceAt.fresh hv k1) hn)
  obtain ⟨hl, Av, capv, rfl, hcv1, hcv2, _⟩ := id hv
  have hw1' := Lib.hid hw1
  have hmb' := Lib.hid hmb
  have h' := Lib.hid h
  have k1' := Lib.hid k1
  have m1' := Lib.hid m1
  have s1' := Lib.hid s1
  have hR' := Lib.hid hR
  have hwf' := Lib.hid hwf
  have K' := Lib.hid K
  clear h hv hl hw1 hmb k1 m1 s1 hR hwf hZ K
  go_enter Try.func67, Try.ntmps67
  go_wp2_with (simp only [run_makeMap, hw1'.out, hmb'.out])
  refine hcl.out.mono ?_
  rintro e w2 ⟨u, rfl, hown2, hk2⟩
  rw [s1'.out] at hown2
  have r2 := Lib.hid (show ReachRel w M R mb (mb + 1) (1700 + l.length) u w2 from ⟨by omega, [], l, hR'.out, reach_start l, (by obtain ⟨es, clock, hb, F, hs, hD⟩ := m1'.out; exact ⟨es, clock, hk2.get hb id, F, hs, hD⟩), hown2, hwf'.out, k1'.out.trans hk2⟩)
  obtain ⟨Au, cu, rfl, _⟩ := ownsRow.slice hown2
  clear hown2 hk2
  go_wp2_with fail
  go_loopw [7] (fun v wr => ∃ f, ReachRel w M R mb (mb + 1) f v wr) (fun v wr => leastF fun f => ReachRel w M R mb (mb + 1) f v wr)
  case atStart => exact ⟨_, r2.out⟩
  case round =>
    obtain ⟨f, hf, hfb, seen, next, hat⟩ := least_split hrel
    obtain ⟨An, cn, rfl, hnz, hc1, hc2⟩ := ownsRow.slice hat.next_
    obtain ⟨f, rfl⟩ : ∃ f', f = f' + 1 := ⟨f - 1, by have := hat.inv.fuel; omega⟩
    unfold maxLen at hc2
    rcases List.eq_nil_or_concat next with rfl | ⟨rest, x, hrx⟩
    · have hres : R = (seen, 0) := by rw [← hat.res, reachF_nil]
      have hsz := World.ownsMap.size_le hat.seen_
      have hsl : seen.length ≤ 240 := by have := hat.inv.len; omega
      have hperm := seenD_keys hat.seen_ hat.inv.nodup
      have hsc := Lib.hid (sortedCall mb seen.length (seenD seen) _ wr hat.seen_ (by unfold maxLen; omega) (by omega))
      have hk := Lib.hid hat.kept
      have hkc := Lib.hid (keysCall (some mb) wr)
      have hreach' : Hid (M.reach l = (seen.mergeSort leB, 0)) := Lib.hid (by rw [hreach.out, hres, if_pos rfl])
      have hperm' := Lib.hid hperm
      clear hsz hperm hres hat hf hrel hnz
      simp only [List.length_nil]
      go_wp2_with fail
      refine hkc.out.mono ?_
      rintro e w3 ⟨rfl, rfl⟩
      go_wp2_with fail
      refine hsc.out.mono ?_
      rintro e w4 ⟨v4, ss, rfl, hS, hrow, hk4⟩
      have hs4 := hk.out.size
      go_wp2_with fail
      go_ret2
      have e1 : ss.mergeSort (fun x y => decide (x ≤ y)) = seen.mergeSort leB := mergeSort_of_perm_i (hS.trans hperm'.out.symm)
      have e2 : ss.length = (seen.mergeSort leB).length := by rw [List.length_mergeSort]; exact (hS.trans hperm'.out.symm).length_eq
      rw [e1, e2] at hrow
      exact ⟨v4, by rw [hreach'.out]; rfl, by rw [hreach'.out]; exact owns_weaken hrow (by omega), hk.out.trans hk4⟩
    · rw [List.concat_eq_append] at hrx
      subst hrx
      obtain ⟨m, hm⟩ : ∃ m, rest.length = m := ⟨_, rfl⟩
      have hlen : (rest ++ [x]).length = m + 1 := by rw [List.length_append, hm]; rfl
      obtain ⟨g, rfl⟩ := hnz (by omega)
      have hown := hat.next_
      rw [hlen, List.map_append, List.map_singleton] at hown
      have cx : wr.cell? ⟨g, m, none⟩ = some (.int .i64 x) := by
        have := hown.cells (g := g) rfl m (.int .i64 x) (by rw [List.getElem?_append_right (by rw [List.length_map]; omega), List.length_map, hm, Nat.sub_self]; rfl)
        rw [addr_add, Nat.zero_add] at this
        exact this
      have hown' := owns_pop hown
      have hres := hat.res
      rw [reachF_snoc] at hres
      have hxw := hat.wf x (List.mem_append_right _ (List.mem_singleton.2 rfl))
      have hfm : m ≤ 10000 := by have := hat.inv.fuel; rw [hlen] at this; omega
      have hwl : IntKind.i64.wrap ((m : Int) + 1 - 1) = (m : Int) := by rw [IntKind.wrap_i64]; omega
      have hm0 : (0 : Int) < (m : Int) + 1 := by omega
      have hm1 : (m : Int) < (m : Int) + 1 := by omega
      have hm2 : (m : Int) ≤ (m : Int) + 1 := by omega
      have hm3 : (m : Int) ≤ (cn : Int) := by omega
      rw [hlen] at hc1 hf ⊢
      have hkey : keyOf Try.prog 3 (.int .i64 x) = some (.int .i64 x) := keyOf_int_mk Try.underlying3 (WalkArith.wf_i64 hxw)
      obtain ⟨c, hlook, hcat, _⟩ := hat.seen_.lookup_int K'.out Try.underlying118 Try.underlying3 (Try.zeroValue3 wr) hkey
      rw [seenD_at] at hcat
      have hcx : c = if x ∈ seen then 1 else 0 := by injection hcat with h; injection h with _ h; exact h.symm
      have hat' := Lib.hid hat
      have hf' := Lib.hid hf
      have hwf2 := Lib.hid (fun y hy => hat.wf y (List.mem_append_left [x] hy))
      have hown2 := Lib.hid hown'
      have hkey' := Lib.hid hkey
      clear hat hf hrel hown hown' hnz hcat hlen hxw hkey
      by_cases hx1 : x = -1
      · rw [if_pos (.inl hx1)] at hres
        subst hx1
        have hnew := Lib.hid (show ReachRel w M R mb (mb + 1) f (.slice (some ⟨g, 0, none⟩) m cn) wr from ⟨by omega, seen, rest, hres, hat'.out.inv.skip, hat'.out.seen_, by rw [hm]; exact hown2.out, hwf2.out, hat'.out.kept⟩)
        clear hres hcx hlook
        go_wp2_with fail
        go_roundw
        case rel => exact ⟨f, hnew.out⟩
        case measure => exact Nat.lt_of_le_of_lt (leastF_le hnew.out) (by rw [hf'.out]; omega)
      · have hx1b : (x == -1) = false := by simpa using hx1
        by_cases hxs : x ∈ seen
        · rw [if_pos (.inr hxs)] at hres
          rw [if_pos hxs] at hcx
          subst hcx
          have hnew := Lib.hid (show ReachRel w M R mb (mb + 1) f (.slice (some ⟨g, 0, none⟩) m cn) wr from ⟨by omega, seen, rest, hres, hat'.out.inv.skip, hat'.out.seen_, by rw [hm]; exact hown2.out, hwf2.out, hat'.out.kept⟩)
          clear hres hxs hx1
          go_wp2_with fail
          go_roundw
          case rel => exact ⟨f, hnew.out⟩
          case measure => exact Nat.lt_of_le_of_lt (leastF_le hnew.out) (by rw [hf'.out]; omega)
        · rw [if_neg (by intro h; exact h.elim hx1 hxs)] at hres
          rw [if_neg hxs] at hcx
          subst hcx
          have hgt := get_any (h'.out.fresh hat'.out.kept) x
          have hok := fun h0 => get_ok h'.out (x := x) h0
          obtain ⟨N, hN⟩ : ∃ N, M.get x = N := ⟨_, rfl⟩
          simp only [hN] at hgt hok hres
          obtain ⟨n, er⟩ := N
          dsimp only at hgt hok hres
          have hgt' := Lib.hid hgt
          have hok' := Lib.hid hok
          have hres' := Lib.hid hres
          have hxs' := Lib.hid hxs
          clear hgt hok hres hN hxs hx1
          go_wp2_with fail
          refine hgt'.out.mono ?_
          rintro e w3 ⟨v3, rfl, hown3, hk3⟩
          obtain ⟨A3, c3, rfl, _⟩ := EntsAt.form (show EntsAt w3 v3 n.ents from SliceAt.of_owns hown3)
          obtain ⟨F, hF⟩ : ∃ F, nodeCells n (.slice A3 n.ents.length c3) = F := ⟨_, rfl⟩
          have hFl : Hid (F.length = 18) := Lib.hid (by rw [← hF]; exact nodeCells_len _ _)
          have hF1 : Hid (∀ v ∈ F, v.oneCell' = true) := Lib.hid (by rw [← hF]; exact nodeCells_one _ _ _ _)
          obtain ⟨nb, hnb⟩ : ∃ nb, w3.heap.size = nb := ⟨_, rfl⟩
          obtain ⟨w4, hw4⟩ : ∃ w4, (w3.alloc (.cells Z.toArray 33)).setRow nb F.toArray = w4 := ⟨_, rfl⟩
          have k4 : Kept (fun _ => False) w3 w4 := by rw [← hw4]; exact ((Kept.refl _ _).alloc _).setRowNew (by omega) _
          have q4 := Lib.hid (show w4.heap[nb]? = some (.cells F.toArray 33 (0, 0)) by rw [← hw4, ← hnb]; exact setRow_heap _ _ _ _ _ _ (heap_alloc_new _ _))
          have hE4 := Lib.hid (SliceAt.fresh (SliceAt.of_owns hown3) k4 : EntsAt w4 (.slice A3 n.ents.length c3) n.ents)
          have hs3 := hk3.size
          have kr4 := Lib.hid (hk3.trans k4)
          have hm4 := ownsMap_kept hat'.out.seen_ kr4.out id
          obtain ⟨c4, hlook4, hcat4, _⟩ := hm4.lookup_int K'.out Try.underlying118 Try.underlying3 (Try.zeroValue3 w4) hkey'.out
          rw [seenD_at, if_neg hxs'.out] at hcat4
          obtain rfl : c4 = 0 := by injection hcat4 with h; injection h with _ h; exact h.symm
          have hm4' := Lib.hid hm4
          have hown4 := Lib.hid (ownsRow.keptOf hown2.out kr4.out (fun _ _ => id))
          have hF' := Lib.hid hF
          have hw4' := Lib.hid hw4
          have hnb' := Lib.hid hnb
          rw [hF]
          have hsl : seen.length ≤ 240 := by have := hat'.out.inv.len; omega
          have hnbg : mb + 1 ≤ nb := by have := hat'.out.kept.size; have := hmb'.out; have := (hown2.out.lt g rfl).1; have := (hown2.out.lt g rfl).2; omega
          have hb3 := Lib.hid (fun b (hb : (Value.slice A3 n.ents.length c3).ownBlock = some b) => (hown3.lt b hb).1)
          have hmw : mb < wr.heap.size := hat'.out.seen_.lt
          clear hown3 hk3 hF k4 hw4 hnb hm4 hcat4 hlook
          by_cases h0 : er = 0
          · subst h0
            have hr0 := hres'.out
            rw [if_pos rfl] at hr0
            have hr0' := Lib.hid hr0
            obtain ⟨hx0, hx240, hn6, hpg⟩ := hok'.out rfl
            have hpg' := Lib.hid hpg
            have hval : plainElem (H := Unit) Try.prog 3 (.int .i64 1) = some (.lit (.int .i64 1), []) := plainElem_int Try.underlying3 (WalkArith.wf_i64 (by omega))
            have hval' := Lib.hid hval
            clear hr0 hpg hval
            go_wp2_with (first | (refine wpList_alloc_as 33 rfl rfl Z.toArray hZz.out ?_; rw [hnb'.out]) | (refine wpList_store_whole 33 rfl rfl rfl F rfl (by rw [hFl.out]; exact node_size) 33 _ (by rw [← hnb'.out]; exact heap_alloc_new _ _) (by simp [hFl.out, hZl.out]) hF1.out ?_; rw [hw4'.out]) | (refine wpList_mapUpdate_own w4 rfl (.tmp 45) (.tmp 46) (.tmp 48) 118 rfl 3 3 K'.out Try.underlying118 (plainElem Try.prog 3) mb seen.length (seenD seen) (by rfl) hm4'.out (by unfold maxLen; omega) (.int .i64 x) (.int .i64 1) (.int .i64 x) (by rfl) (by rfl) hkey'.out (.lit (.int .i64 1)) [] hval'.out ?_; intro w5 hm5 hg5) | (refine wpList_load_agg 33 rfl rfl rfl _ Try.underlying33 rfl F (by rw [hFl.out]; exact node_size) (fun j v hv => by rw [cell_of_heap ((Kept.of_grown hg5).get q4.out (fun e => by injection e with e; omega)), Nat.zero_add]; simpa using hv) ?_))
            have k45 := Kept.of_grown hg5
            have hE5 : EntsAt w5 (.slice A3 n.ents.length c3) n.ents := SliceAt.kept hE4.out k45 (fun b hb e => by injection e with e; have := hb3.out b hb; omega)
            have hC := children_any (n := n) hE5 (by omega)
            rw [hF'.out] at hC
            have hC' := Lib.hid hC
            clear hC
            refine hC'.out.mono ?_
            rintro e w6 ⟨u6, rfl, hown6, hk6⟩
            obtain ⟨A6, c6, rfl, _⟩ := ownsRow.slice hown6
            have hg1 := (hown2.out.lt g rfl).1
            have hown6n := Lib.hid (ownsRow.keptOf (ownsRow.keptOf hown4.out k45 (fun b hb e => by injection e with e; have := (hown4.out.lt b hb).1; omega)) hk6 (fun _ _ => id))
            have hsl6 := Lib.hid (SliceAt.of_owns hown6)
            have hone6 : Hid (∀ c ∈ pageCellsOf n.ents, c.oneCell' = true) := Lib.hid (fun c hc => by unfold pageCellsOf at hc; obtain ⟨y, _, rfl⟩ := List.mem_map.1 hc; rfl)
            have hw6 := Lib.hid ((((hat'.out.kept.trans kr4.out).grown hg5 (fun k e => .inr (by injection e with e; have := hmb'.out; omega))).trans hk6))
            have hs6 : mb + 1 ≤ w6.heap.size := by have := hw6.out.size; have := kr4.out.size; have := k45.size; have := hk6.size; omega
            have hm6 := Lib.hid (ownsMap_kept hm5 hk6 id)
            clear hown6 hk6 hE5 k45 hm5 hg5
            go_wp2_with (at_builtin; refine wpList_append_src rfl elemInt (.tmp 49) (.tmp 51) rfl (by rfl) (by rfl) hown6n.out hsl6.out hone6.out (by omega) (by omega) hs6 ?_; intro v7 w7 hown7 hg7 hat7)
            have hm7 := ownsMap_kept hm6.out (Kept.of_grown hg7) (fun e => by have := (hown6n.out.lt mb e).1; omega)
            have hnew := Lib.hid (show ReachRel w M R mb (mb + 1) f v7 w7 from ⟨by omega, seen ++ [x], rest ++ n.ents.map (·.2), hr0'.out, hat'.out.inv.more hxs'.out hx0 hx240 (by rw [List.length_map]; exact hn6),
              by rw [seenD_snoc, List.length_append]; exact hm7, by
                have e1 : (rest ++ n.ents.map (·.2)).length = m + n.ents.length := by rw [List.length_append, List.length_map, hm]
                have e2 : (rest ++ n.ents.map (·.2)).map (Value.int .i64) = rest.map (Value.int .i64) ++ pageCellsOf n.ents := by rw [List.map_append, List.map_map]; rfl
                rw [e1, e2]; exact hown7,
              fun y hy => by
                rcases List.mem_append.1 hy with hy | hy
                · exact hwf2.out y hy
                · obtain ⟨z, hz, rfl⟩ := List.mem_map.1 hy
                  have := hpg'.out z hz
                  omega,
              hw6.out.grown hg7 (fun k e => .inr (by have := (hown6n.out.lt k e).1; have := hmb'.out; omega))⟩)
            clear hown7 hg7 hat7 hm7
            go_roundw
            case rel => exact ⟨f, hnew.out⟩
            case measure => exact Nat.lt_of_le_of_lt (leastF_le hnew.out) (by rw [hf'.out]; omega)
          · have hR2 : R = ([], er) := by rw [← hres'.out, if_neg h0]
            have hreach' : Hid (M.reach l = ([], er)) := Lib.hid (by rw [hreach.out, hR2, if_neg h0])
            have h0' : ((er : Int) == 0) = false := by rw [beq_eq_false_iff_ne]; omega
            clear h0 hR2
            go_wp2_with (first | (refine wpList_alloc_as 33 rfl rfl Z.toArray hZz.out ?_; rw [hnb'.out]) | (refine wpList_store_whole 33 rfl rfl rfl F rfl (by rw [hFl.out]; exact node_size) 33 _ (by rw [← hnb'.out]; exact heap_alloc_new _ _) (by simp [hFl.out, hZl.out]) hF1.out ?_; rw [hw4'.out]))
            go_ret2
            exact ⟨_, by rw [hreach'.out]; rfl, by rw [hreach'.out]; exact World.ownsRow_nil _ _ _ _, hat'.out.kept.trans kr4.out⟩
end Go.Proofs.Ythmjcbmeiabbgaa
/-
  Layer 10's laws: the chapter's example.
-/
namespace Go.Proofs.Ythmjcbmeiabbgaa
open Go.RowKit
set_option maxRecDepth 100000

theorem alive10_facts : ∃ M1 M2 : SM, (madeM 16 9).put (-1) 5 0 = (M1, 1, 0) ∧ M1.swap (-1) 1 = (M2, 0) ∧ M2.find 1 5 = (0, 0) ∧ M2.find 1 6 = (-1, 0) :=
  ⟨((madeM 16 9).put (-1) 5 0).1, (((madeM 16 9).put (-1) 5 0).1.swap (-1) 1).1, Prod.ext rfl (by kernel_rfl), Prod.ext rfl (by kernel_rfl), by kernel_rfl, by kernel_rfl⟩
/-- A store that is a call's own. -/
structure OwnStore (w : World) (A : SA) (M : SM) (wr : World) : Prop where
  store : StoreAt wr A M
  kept : Kept (fun _ => False) w wr
  new : ∀ k, A.own k → w.heap.size ≤ k
theorem OwnStore.fresh {w wr w' : World} {A : SA} {M : SM} (h : OwnStore w A M wr) (k : Kept (fun _ => False) wr w') : OwnStore w A M w' := ⟨h.store.fresh k, h.kept.trans k, h.new⟩
theorem OwnStore.to {w wr w' : World} {A A' : SA} {M M' : SM} (h : OwnStore w A M wr) (k : StoreTo A A' M' wr w') : OwnStore w A' M' w' := by
  refine ⟨k.store, h.kept.trans_new k.kept (fun i hi e => by have := h.new _ (.inl e); omega), fun j hj => ?_⟩
  have hsz := h.kept.size
  rcases hj with hj | hj | hj
  · rcases k.foot j hj with e | e
    · exact h.new _ (.inl e)
    · omega
  · rw [k.fix.2] at hj; exact h.new _ (.inr (.inl hj))
  · rw [k.fix.1] at hj; exact h.new _ (.inr (.inr hj))
/-- A tree's variable: a box with its store's address. -/
structure TreeVar (wr : World) (A : SA) (b sb : Nat) : Prop where
  heap : wr.heap[b]? = some (.cells #[.pointer (some ⟨sb, 0, none⟩)] 26 (0, 0))
  safe : Safe wr A b
  eq : A.sb = sb
theorem TreeVar.fresh {wr w' : World} {A : SA} {b sb : Nat} (h : TreeVar wr A b sb) (k : Kept (fun _ => False) wr w') : TreeVar w' A b sb := ⟨k.get h.heap id, h.safe.fresh k, h.eq⟩
theorem TreeVar.to {wr w' : World} {A A' : SA} {M' : SM} {b sb : Nat} (h : TreeVar wr A b sb) (k : StoreTo A A' M' wr w') : TreeVar w' A' b sb := ⟨k.get h.heap h.safe, h.safe.to k, k.sb.trans h.eq⟩
theorem TreeVar.load {wr : World} {A : SA} {b sb : Nat} (h : TreeVar wr A b sb) : ∀ j v, [Value.pointer (some ⟨sb, 0, none⟩)][j]? = some v → wr.cell? ⟨b, 0 + j, none⟩ = some v := fun j v hj => by rw [Nat.zero_add, cell_of_heap h.heap]; simpa using hj
/-- The variable is made, and filled. -/
theorem TreeVar.made {w wr : World} {A : SA} {M : SM} (h : OwnStore w A M wr) {b : Nat} (hb : wr.heap.size = b) :
    OwnStore w A M ((wr.alloc (.cells #[.pointer none] 26)).setRow b #[.pointer (some ⟨A.sb, 0, none⟩)]) ∧ TreeVar ((wr.alloc (.cells #[.pointer none] 26)).setRow b #[.pointer (some ⟨A.sb, 0, none⟩)]) A b A.sb := by
  have k : Kept (fun _ => False) wr ((wr.alloc (.cells #[.pointer none] 26)).setRow b #[.pointer (some ⟨A.sb, 0, none⟩)]) := ((Kept.refl _ _).alloc _).setRowNew (by omega) _
  refine ⟨h.fresh k, ⟨by rw [← hb]; exact setRow_heap _ _ _ _ _ _ (heap_alloc_new _ _), Safe.new h.store (by omega) (by simp [World.setRow]; omega), rfl⟩⟩

set_option maxHeartbeats 4000000 in
theorem alive10 (w : World) : Calls Try.prog 13 #[] w fun e w' => e = .returned (.bool true) ∧ Kept (fun _ => False) w w' := by
  obtain ⟨M1, M2, e1, e2, e3, e4⟩ := alive10_facts
  have hlog : M1.log.length ≤ 23 := by have := put_log (madeM 16 9) (-1) 5 0; rw [e1] at this; exact this
  have hlog2 : M2.log.length ≤ 23 := by have := swap_log M1 (-1) 1; rw [e2] at this; simp only at this; rw [this]; exact hlog
  have hm := made10 20 (by decide) (by decide) w
  rw [show (min (20 : Int) 244 - 4).toNat = 16 from by decide] at hm
  have hm' := Lib.hid hm
  have e1' := Lib.hid e1
  have e2' := Lib.hid e2
  have e3' := Lib.hid e3
  have e4' := Lib.hid e4
  clear e1 e2 e3 e4 hm
  go_enter Try.func13, Try.ntmps13
  go_wp2_with fail
  refine hm'.out.mono ?_
  rintro e w2 ⟨A, rfl, hA, hk, hn⟩
  obtain ⟨b, hb⟩ : ∃ b, w2.heap.size = b := ⟨_, rfl⟩
  have hO := TreeVar.made (b := b) ⟨hA, hk, hn⟩ hb
  obtain ⟨w3, hw3⟩ : ∃ w3, (w2.alloc (.cells #[.pointer none] 26)).setRow b #[.pointer (some ⟨A.sb, 0, none⟩)] = w3 := ⟨_, rfl⟩
  rw [hw3] at hO
  obtain ⟨hO3, hT3⟩ := hO
  have hO3 := Lib.hid hO3
  have hT3 := Lib.hid hT3
  have hw3' := Lib.hid hw3
  have hb' := Lib.hid hb
  obtain ⟨sb, hsb⟩ : ∃ sb, A.sb = sb := ⟨_, rfl⟩
  have c3 := cell_of_heap hT3.out.heap 0
  have hP := treePut hO3.out.store (-1) 5 0 (by show 1 + 30 < 100000000; omega)
  rw [e1'.out, hsb] at hP
  have hP' := Lib.hid hP
  rw [hsb] at hw3' hT3 c3 ⊢
  simp at c3
  clear hA hk hn hw3 hb hP
  go_wp2_with (first | (refine wpList_alloc_as 26 rfl rfl #[.pointer none] tree_zero ?_; rw [hb'.out]) | (refine wpList_store_whole 26 rfl rfl rfl [.pointer (some ⟨sb, 0, none⟩)] rfl (by kernel_rfl) 26 #[.pointer none] (by rw [← hb'.out]; exact heap_alloc_new _ _) rfl (by intro c hc; simp at hc; subst hc; rfl) ?_; rw [hw3'.out]) | (refine wpList_load_agg 26 rfl rfl rfl _ Try.underlying26 rfl [.pointer (some ⟨sb, 0, none⟩)] (by kernel_rfl) hT3.out.load ?_))
  refine hP'.out.mono ?_
  rintro e w4 ⟨A4, rfl, hT4⟩
  have hO4 := Lib.hid (hO3.out.to hT4)
  have hV4 := Lib.hid (hT3.out.to hT4)
  have hS := treeSwap hO4.out.store (-1) 1
  rw [e2'.out, hV4.out.eq] at hS
  have hS' := Lib.hid hS
  clear hT4 hS c3
  go_wp2_with (first | (refine wpList_load_agg 26 rfl rfl rfl _ Try.underlying26 rfl [.pointer (some ⟨sb, 0, none⟩)] (by kernel_rfl) hV4.out.load ?_))
  refine hS'.out.mono ?_
  rintro e w5 ⟨rfl, hT5⟩
  have hO5 := Lib.hid (hO4.out.to hT5)
  have hV5 := Lib.hid (hV4.out.to hT5)
  have hF := treeFind hO5.out.store 1 5
  rw [e3'.out, hV5.out.eq] at hF
  have hF' := Lib.hid hF
  clear hT5 hF
  go_wp2_with (first | (refine wpList_load_agg 26 rfl rfl rfl _ Try.underlying26 rfl [.pointer (some ⟨sb, 0, none⟩)] (by kernel_rfl) hV5.out.load ?_))
  refine hF'.out.mono ?_
  rintro e w6 ⟨rfl, hk6⟩
  have hO6 := Lib.hid (hO5.out.fresh hk6)
  have hV6 := Lib.hid (hV5.out.fresh hk6)
  have hF := treeFind hO6.out.store 1 6
  rw [e4'.out, hV6.out.eq] at hF
  have hF' := Lib.hid hF
  clear hk6 hF
  go_wp2_with (first | (refine wpList_load_agg 26 rfl rfl rfl _ Try.underlying26 rfl [.pointer (some ⟨sb, 0, none⟩)] (by kernel_rfl) hV6.out.load ?_))
  refine hF'.out.mono ?_
  rintro e w7 ⟨rfl, hk7⟩
  have hO7 := Lib.hid (hO6.out.fresh hk7)
  clear hk7
  go_wp2_with fail
  go_ret
  exact ⟨rfl, hO7.out.kept⟩
end Go.Proofs.Ythmjcbmeiabbgaa
/-
  Layer 9's laws: an empty store.
-/
namespace Go.Proofs.Ythmjcbmeiabbgaa
open Go.RowKit
set_option maxRecDepth 100000

/-- An empty store of so many pages. -/
def emptyM (s : Nat) : SM := ⟨PM.fresh0 s, []⟩
set_option maxHeartbeats 4000000 in
theorem made09 (x : Int) (h0 : 4 ≤ x) (h1 : x ≤ 1000) (w : World) :
    Calls Try.prog 31 #[.int .i64 x] w fun e w' => ∃ A, e = .returned (.pointer (some ⟨A.sb, 0, none⟩)) ∧ OwnStore w A (emptyM (min x 244 - 4).toNat) w' := by
  obtain ⟨s, hs⟩ : ∃ s, (min x 244 - 4).toNat = s := ⟨_, rfl⟩
  have hsz : Hid (clampN (max 0 (min x 244 - 4)) = s) := Lib.hid (by unfold clampN; omega)
  have hdn : Hid (max 0 (min x 244) = ((s + 4 : Nat) : Int)) := Lib.hid (by omega)
  have hs1 : s ≤ 240 := by omega
  rw [hs]
  clear hs
  go_enter Try.func31, Try.ntmps31
  go_wp2_with fail
  refine (diskNew (s + 4) (by omega) x hdn.out _).mono ?_
  rintro e w2 ⟨D, rfl, hD, hDn, hDp, hDo, hk2⟩
  have hD' := Lib.hid hD
  have hDn' := Lib.hid hDn
  have hDp' := Lib.hid hDp
  have hDo' := Lib.hid hDo
  have hk2' := Lib.hid hk2
  clear hD hDn hDp hDo hk2
  go_wp2_with fail
  refine (nodesSize x _ (by omega) h1).mono ?_
  rintro e w3 ⟨rfl, rfl⟩
  go_wp2_with fail
  refine (new_any _ _).mono ?_
  rintro e w3 ⟨c, rfl, hnew⟩
  have hP := hnew.pool
  rw [hsz.out] at hP
  have hP' := Lib.hid hP
  have hck := hnew.new
  have hk3 := Lib.hid hnew.kept
  clear hnew hP
  go_wp2_with fail
  refine (nodesNew (hD'.out.fresh hk3.out) hP'.out hDp'.out (fun e => by have := hD'.out.lt _ e; omega) (.inr (by rw [hDn'.out]; exact Nat.le_refl _))).mono ?_
  rintro e w4 ⟨A, rfl, hA, hk4, hAo⟩
  go_wp2_with fail
  go_ret
  refine ⟨A, rfl, hA, (hk2'.out.trans hk3.out).trans hk4, fun k hk => ?_⟩
  rcases hAo k hk with rfl | h | h
  · have := hk2'.out.size; omega
  · exact hDo'.out _ h
  · have := hk2'.out.size; have := hk3.out.size; omega
end Go.Proofs.Ythmjcbmeiabbgaa
/-
  Entries that are written out.
-/
namespace Go.Proofs.Ythmjcbmeiabbgaa
open Go.RowKit
set_option maxRecDepth 100000

/-- Entries that are written out. -/
theorem ents_new {w : World} {A : SA} {M : SM} (h : StoreAt w A M) (l : List (Int × Int)) (hl : l.length ≤ 1000) : StoreAt (w.alloc (.cells (entCells l).toArray 35)) A M ∧ EntsOff (w.alloc (.cells (entCells l).toArray 35)) A (.slice (some ⟨w.heap.size, 0, none⟩) l.length l.length) l := by
  refine ⟨h.fresh ((Kept.refl _ _).alloc _), SliceAt.block_new (heap_alloc_new _ _) (entCells_len _) (by unfold maxLen; omega), fun _ b hb => ?_⟩
  simp [Value.ownBlock] at hb
  subst hb
  exact ⟨by simp, fun e => Nat.lt_irrefl _ (h.lt (.inl e))⟩
end Go.Proofs.Ythmjcbmeiabbgaa
/-
  Layer 9's laws: the chapter's example.
-/
namespace Go.Proofs.Ythmjcbmeiabbgaa
open Go.RowKit
set_option maxRecDepth 100000

theorem exec_eql_block {o : Oper} {a : Act} {w : World} {x y : Operand} {u : TypeId} (ho : o.op = .binOp .eql 30 x y u) (l m : List Nat) (hx : a.eval x = .agg (blockCells l).toArray) (hy : a.eval y = .agg (blockCells m).toArray) :
    (execOp a.eval o).run Try.prog w = .ok (.value (.bool ((List.range 16).all fun i => ((l.getD i 0 : Nat) : Int) == ((m.getD i 0 : Nat) : Int)))) w :=
  exec_eql_arr ho (fun i => ((l.getD i 0 : Nat) : Int)) (fun i => ((m.getD i 0 : Nat) : Int)) hx hy (by kernel_rfl) Try.underlying30 Try.underlying5 (by kernel_rfl)
theorem block_self (l : List Nat) : ((List.range 16).all fun i => ((l.getD i 0 : Nat) : Int) == ((l.getD i 0 : Nat) : Int)) = true := by
  rw [List.all_eq_true]
  intro i _
  exact beq_self_eq_true _
theorem exec_same_block {o : Oper} {a : Act} {w : World} {x y : Operand} {u : TypeId} (ho : o.op = .binOp .eql 30 x y u) (l : List Nat) (hx : a.eval x = .agg (blockCells l).toArray) (hy : a.eval y = .agg (blockCells l).toArray) :
    (execOp a.eval o).run Try.prog w = .ok (.value (.bool true)) w := by rw [exec_eql_block ho l l hx hy, block_self]

def leaf9 : NM := ⟨2, List.replicate 16 0, [(3, 0)]⟩
def m9a : SM := ((emptyM 6).make (dataN 7)).1
def m9b : SM := (m9a.make leaf9).1
def m9c : SM := (m9b.hold 1).1
def m9d : SM := (m9c.drop 1).1
theorem m9_a : (emptyM 6).make (dataN 7) = (m9a, 0, 0) := Prod.ext rfl (by kernel_rfl)
theorem m9_b : m9a.make leaf9 = (m9b, 1, 0) := Prod.ext rfl (by kernel_rfl)
theorem m9_c : m9b.hold 1 = (m9c, 0) := Prod.ext rfl (by kernel_rfl)
theorem m9_r : ∃ l : List Int, m9c.reach [1] = (l, 0) ∧ l.length = 2 := by
  have h : m9c.reachF (1700 + 1) [] [1] = ([1, 0], 0) := by kernel_rfl
  refine ⟨[1, 0].mergeSort leB, ?_, by rw [List.length_mergeSort]; rfl⟩
  unfold SM.reach
  rw [show [(1 : Int)].length = 1 from rfl, h]
  rfl
theorem m9_g : m9c.get 0 = (dataN 7, 0) := by kernel_rfl
theorem m9_d : m9c.drop 1 = (m9d, 0) := Prod.ext rfl (by kernel_rfl)
theorem m9_f : m9d.pool.freeCount = 6 := by kernel_rfl
theorem m9_log : m9a.log.length ≤ 100 := of_decide_eq_true (by kernel_rfl)
set_option maxHeartbeats 4000000 in
theorem alive09 (w : World) : Calls Try.prog 35 #[] w fun e w' => e = .returned (.bool true) ∧ Kept (fun _ => False) w w' := by
  have e1 := m9_a
  have e2 := m9_b
  have e3 := m9_c
  obtain ⟨lr, e4, hlr⟩ := m9_r
  have e5 := m9_g
  have e6 := m9_d
  have e7 := m9_f
  have hl := m9_log
  generalize m9a = M1 at *
  generalize m9b = M2 at *
  generalize m9c = M3 at *
  generalize m9d = M4 at *
  have e1' := Lib.hid e1
  have e2' := Lib.hid e2
  have e3' := Lib.hid e3
  have e4' := Lib.hid e4
  have e5' := Lib.hid e5
  have e6' := Lib.hid e6
  have e7' := Lib.hid e7
  have hm := made09 10 (by decide) (by decide) w
  rw [show (min (10 : Int) 244 - 4).toNat = 6 from by decide] at hm
  have hm' := Lib.hid hm
  have hb1 : Hid (∀ w, (Instr.build 30 #[(0, .int .u8 7)]).run Try.prog w = .ok (.agg (blockCells (dataN 7).block).toArray) w) := Lib.hid (fun w => run_build _ _ _ _ (by kernel_rfl))
  have hb2 : Hid (∀ w, (Instr.build 33 #[(0, .int .i64 1), (1, .agg (blockCells (dataN 7).block).toArray)]).run Try.prog w = .ok (.agg (nodeCells (dataN 7) (.slice none 0 0)).toArray) w) := Lib.hid (fun w => run_build _ _ _ _ (by kernel_rfl))
  obtain ⟨B, hB⟩ : ∃ B, blockCells (dataN 7).block = B := ⟨_, rfl⟩
  obtain ⟨C, hC⟩ : ∃ C, nodeCells (dataN 7) (.slice none 0 0) = C := ⟨_, rfl⟩
  rw [hB] at hb1 hb2
  rw [hC] at hb2
  have hC' := Lib.hid hC
  have hB' := Lib.hid hB
  clear e1 e2 e3 e4 e5 e6 e7 hm hB hC
  go_enter Try.func35, Try.ntmps35
  go_wp2_with fail
  refine hm'.out.mono ?_
  rintro e w2 ⟨A, rfl, hO⟩
  have hO2 := Lib.hid hO
  obtain ⟨sb, hsb⟩ : ∃ sb, A.sb = sb := ⟨_, rfl⟩
  have hmk := storeMake (n := dataN 7) (sv := .slice none 0 0) hO.store ⟨sliceNil (by decide), fun _ b hb => by simp [Value.ownBlock] at hb⟩ rfl (dataN_ok 7 (by decide)).2.2 (by show 0 < 100000000; omega)
  rw [e1'.out, hC'.out, hsb] at hmk
  have hmk' := Lib.hid hmk
  have hpl := storePool hO.store
  rw [hsb] at hpl
  have hpl' := Lib.hid hpl
  have hsb' := Lib.hid hsb
  rw [hsb]
  clear hmk hO hpl hsb
  go_wp2_with fail
  refine hpl'.out.mono ?_
  rintro e w3 ⟨rfl, rfl⟩
  go_wp2_with (first | (refine wpList_exec rfl (exec_build 30 #[(0, .const (.int .u8 7))] _ rfl (by simp [Act.eval]) (hb1.out _)) ?_) | (refine wpList_exec rfl (exec_build 33 #[(0, .const (.int .i64 1)), (1, .tmp 22)] _ rfl (by simp [Act.eval, Act.put]) (hb2.out _)) ?_))
  refine hmk'.out.mono ?_
  rintro e w4 ⟨A4, rfl, hT4⟩
  have hO4 := Lib.hid (hO2.out.to hT4)
  have hsb4 := Lib.hid (hT4.sb.trans hsb'.out)
  clear hT4
  obtain ⟨hS5, hE5⟩ := ents_new hO4.out.store [(3, 0)] (by decide)
  have hmk := storeMake (n := leaf9) hS5 hE5 rfl (fun b hb => by rw [List.eq_of_mem_replicate hb]; decide) (by show M1.log.length < 100000000; omega)
  rw [e2'.out, hsb4.out] at hmk
  obtain ⟨L, hL⟩ : ∃ L, nodeCells leaf9 (.slice (some ⟨w4.heap.size, 0, none⟩) 1 1) = L := ⟨_, rfl⟩
  have hbl : Hid (∀ w, (Instr.build 33 #[(0, .int .i64 2), (2, .slice (some ⟨w4.heap.size, 0, none⟩) 1 1)]).run Try.prog w = .ok (.agg L.toArray) w) := Lib.hid (fun w => by rw [← hL]; exact run_build_part _ _ [(3, 0)] _ _ _)
  have hmk2 : Hid (Calls Try.prog 32 #[.pointer (some ⟨sb, 0, none⟩), .agg L.toArray] (w4.alloc (.cells #[.int .i64 3, .int .i64 0] 35)) fun e w' => ∃ A', e = .returned (.tuple #[.int .i64 1, .int .i64 0]) ∧ StoreTo A4 A' M2 (w4.alloc (.cells #[.int .i64 3, .int .i64 0] 35)) w') := Lib.hid (by rw [← hL]; exact hmk)
  have k4 : Kept (fun _ => False) w4 (w4.alloc (.cells #[.int .i64 3, .int .i64 0] 35)) := (Kept.refl _ _).alloc _
  have k4' := Lib.hid k4
  clear hmk hL hS5 hE5 k4
  go_wp2_with (first | (refine wpList_exec rfl (exec_build 33 #[(0, .const (.int .i64 2)), (2, .tmp 31)] _ rfl (by simp [Act.eval, Act.put]) (hbl.out _)) ?_))
  refine hmk2.out.mono ?_
  rintro e w6 ⟨A6, rfl, hT6⟩
  have hO6 := Lib.hid ((hO4.out.fresh k4'.out).to hT6)
  have hsb6 := Lib.hid (hT6.sb.trans hsb4.out)
  have hh := storeHold hO6.out.store 1
  rw [e3'.out, hsb6.out] at hh
  have hh' := Lib.hid hh
  clear hT6 hh
  go_wp2_with fail
  refine hh'.out.mono ?_
  rintro e w7 ⟨rfl, hT7⟩
  have hO7 := Lib.hid (hO6.out.to hT7)
  have k7 : Kept (fun _ => False) w7 (w7.alloc (.cells #[.int .i64 1] 3)) := (Kept.refl _ _).alloc _
  have hr := reachAny (hO7.out.fresh k7).store (l := [1]) (SliceAt.block_new (heap_alloc_new _ _) rfl (by decide)) (by decide) (by intro x hx; rw [List.mem_singleton] at hx; omega)
  rw [e4'.out, hsb6.out] at hr
  have hr' := Lib.hid hr
  have k7' := Lib.hid k7
  clear hT7 hr k7
  go_wp2_with fail
  refine hr'.out.mono ?_
  rintro e w8 ⟨u8, rfl, hown8, hk8⟩
  obtain ⟨A8, c8, rfl, _⟩ := ownsRow.slice hown8
  have hO8 := Lib.hid ((hO7.out.fresh k7'.out).fresh hk8)
  have hg := get_any hO8.out.store 0
  rw [e5'.out, hsb6.out] at hg
  have hg' := Lib.hid hg
  clear hown8 hk8 hg
  rw [hlr]
  go_wp2_with fail
  refine hg'.out.mono ?_
  rintro e w9 ⟨v9, rfl, hown9, hk9⟩
  obtain ⟨A9, c9, rfl, _⟩ := EntsAt.form (show EntsAt w9 v9 [] from SliceAt.of_owns hown9)
  obtain ⟨Z, hZ⟩ : ∃ Z, nodeCells NM.zero (.slice none 0 0) = Z := ⟨_, rfl⟩
  have hZz : Hid ((Try.prog.info? 33).map (·.zero) = some (some (.agg Z.toArray))) := Lib.hid (by rw [← hZ]; exact node_zero)
  have hZl : Hid (Z.length = 18) := Lib.hid (by rw [← hZ]; exact nodeCells_len _ _)
  obtain ⟨F, hF⟩ : ∃ F, nodeCells (dataN 7) (.slice A9 0 c9) = F := ⟨_, rfl⟩
  have hFl : Hid (F.length = 18) := Lib.hid (by rw [← hF]; exact nodeCells_len _ _)
  have hF1 : Hid (∀ v ∈ F, v.oneCell' = true) := Lib.hid (by rw [← hF]; exact nodeCells_one _ _ _ _)
  obtain ⟨nb, hnb⟩ : ∃ nb, w9.heap.size = nb := ⟨_, rfl⟩
  obtain ⟨w10, hw10⟩ : ∃ w10, (w9.alloc (.cells Z.toArray 33)).setRow nb F.toArray = w10 := ⟨_, rfl⟩
  have k10 : Kept (fun _ => False) w9 w10 := by rw [← hw10]; exact ((Kept.refl _ _).alloc _).setRowNew (by omega) _
  have bx10 : NodeBox w10 nb (dataN 7) (.slice A9 0 c9) := ⟨by rw [hF, ← hw10, ← hnb]; exact setRow_heap _ _ _ _ _ _ (heap_alloc_new _ _)⟩
  have s10 : w10.heap.size = nb + 1 := by rw [← hw10, ← hnb]; simp [World.setRow]
  have hO10 := Lib.hid ((hO8.out.fresh hk9).fresh k10)
  have sf10 := Lib.hid (Safe.new (hO8.out.fresh hk9).store (b := nb) (by omega) (by omega) : Safe w10 A6 nb)
  have hdr := storeDrop hO10.out.store 1
  rw [e6'.out, hsb6.out] at hdr
  have hdr' := Lib.hid hdr
  have bx10' := Lib.hid bx10
  have hnb' := Lib.hid hnb
  have hw10' := Lib.hid hw10
  rw [show nodeCells (dataN 7) (.slice A9 ([] : List (Int × Int)).length c9) = F from hF]
  clear hown9 hk9 hZ hF hnb hw10 k10 bx10 s10 hdr
  go_wp2_with (first | (refine wpList_alloc_as 33 rfl rfl Z.toArray hZz.out ?_; rw [hnb'.out]) | (refine wpList_store_whole 33 rfl rfl rfl F rfl (by rw [hFl.out]; exact node_size) 33 _ (by rw [← hnb'.out]; exact heap_alloc_new _ _) (by simp [hFl.out, hZl.out]) hF1.out ?_; rw [hw10'.out]))
  refine hdr'.out.mono ?_
  rintro e w11 ⟨rfl, hT11⟩
  have hO11 := Lib.hid (hO10.out.to hT11)
  have bx11 : NodeBox w11 nb (dataN 7) (.slice A9 0 c9) := ⟨hT11.get bx10'.out.heap sf10.out⟩
  have hcb := bx11.cb
  rw [hB'.out] at hcb
  have hcb' := Lib.hid hcb
  have hBl : Hid (B.length = 16) := Lib.hid (by rw [← hB'.out]; exact blockCells_len _)
  have hpl := storePool hO11.out.store
  rw [hsb6.out] at hpl
  have hpl' := Lib.hid hpl
  clear hT11 bx11 hcb hpl
  go_wp2_with (first | (refine wpList_exec_g (by rfl) (exec_load_agg rfl (by rfl) B Try.underlying30 rfl (by rw [hBl.out]; exact block_size) hcb'.out) ?_) | (refine wpList_exec_g (by rfl) (exec_build 30 #[(0, .const (.int .u8 7))] _ rfl (by simp [Act.eval]) (hb1.out _)) ?_) | (refine wpList_exec_g (by rfl) (exec_same_block rfl (dataN 7).block (by rw [hB'.out]; rfl) (by rw [hB'.out]; rfl)) ?_))
  refine hpl'.out.mono ?_
  rintro e w12 ⟨rfl, rfl⟩
  go_wp2_with fail
  refine (freeCount_any hO11.out.store.pool).mono ?_
  rintro e w12 ⟨rfl, rfl⟩
  rw [e7'.out]
  go_wp2_with fail
  go_ret
  exact ⟨rfl, hO11.out.kept⟩
end Go.Proofs.Ythmjcbmeiabbgaa
/-
  NodesUndo, NodesExact: a world of theirs in memory: a store, and its roots.
-/
namespace Go.Proofs.Ythmjcbmeiabbgaa
open Go.RowKit
set_option maxRecDepth 100000

theorem StoreTo.ownTo {A A' : SA} {M' : SM} {W w' : World} (k : StoreTo A A' M' W w') {j : Nat} (hj : A'.own j) : A.own j ∨ W.heap.size ≤ j := by
  rcases hj with hj | hj | hj
  · exact (k.foot j hj).imp .inl id
  · rw [k.fix.2] at hj; exact .inl (.inr (.inl hj))
  · rw [k.fix.1] at hj; exact .inl (.inr (.inr hj))
/-- A world: a box of a store's address and a slice of roots that is its own. -/
structure WorldSt (w1 : World) (A : SA) (M : SM) (sb wb : Nat) (roots : List Int) (v : Value) (wr : World) : Prop where
  own : OwnStore w1 A M wr
  eq : A.sb = sb
  head : wr.heap[wb]? = some (.cells #[.pointer (some ⟨sb, 0, none⟩), v] 73 (0, 0))
  new : w1.heap.size ≤ wb
  notOwn : ¬ A.own wb
  row : wr.ownsRow w1.heap.size 3 1 v roots.length (roots.map (Value.int .i64))
  off : ∀ b, v.ownBlock = some b → ¬ A.own b
section
variable {w1 : World} {A A' : SA} {M M' : SM} {sb wb : Nat} {roots : List Int} {v : Value} {wr w' : World}
theorem WorldSt.lt (h : WorldSt w1 A M sb wb roots v wr) : wb < wr.heap.size := lt_of_heap h.head
theorem WorldSt.safe (h : WorldSt w1 A M sb wb roots v wr) : Safe wr A wb := ⟨h.lt, fun e => h.notOwn (.inl e)⟩
theorem WorldSt.fresh (h : WorldSt w1 A M sb wb roots v wr) (k : Kept (fun _ => False) wr w') : WorldSt w1 A M sb wb roots v w' :=
  ⟨h.own.fresh k, h.eq, k.get h.head id, h.new, h.notOwn, ownsRow.keptOf h.row k (fun _ _ => id), h.off⟩
theorem WorldSt.to (h : WorldSt w1 A M sb wb roots v wr) (k : StoreTo A A' M' wr w') : WorldSt w1 A' M' sb wb roots v w' :=
  ⟨h.own.to k, k.sb.trans h.eq, k.get h.head h.safe, h.new, fun e => (k.ownTo e).elim h.notOwn fun e => absurd h.lt (Nat.not_lt.2 e), ownsRow.keptOf h.row k.kept (fun b hb e => h.off b hb (.inl e)),
    fun b hb e => (k.ownTo e).elim (h.off b hb) fun e => absurd (h.row.lt b hb).2 (Nat.not_lt.2 e)⟩
theorem WorldSt.c0 (h : WorldSt w1 A M sb wb roots v wr) : wr.cell? ⟨wb, 0, none⟩ = some (.pointer (some ⟨sb, 0, none⟩)) := by rw [cell_of_heap h.head]; rfl
theorem WorldSt.c1 (h : WorldSt w1 A M sb wb roots v wr) : wr.cell? ⟨wb, 1, none⟩ = some v := by rw [cell_of_heap h.head]; rfl
theorem WorldSt.form (h : WorldSt w1 A M sb wb roots v wr) : ∃ Av cap, v = .slice Av roots.length cap ∧ roots.length ≤ cap ∧ cap ≤ maxLen := by
  obtain ⟨_, Av, cap, hv, h1, h2, _⟩ := SliceAt.of_owns h.row
  exact ⟨Av, cap, hv, h1, h2⟩
theorem ints_get {w : World} {Av : Option Addr} {n cap : Nat} {l : List Int} (h : SliceAt w (.slice Av n cap) 1 l.length (l.map (Value.int .i64))) {i : Nat} {x : Int} (hx : l[i]? = some x) :
    ∃ b off, Av = some ⟨b, off, none⟩ ∧ b < w.heap.size ∧ w.cell? ⟨b, off + i, none⟩ = some (.int .i64 x) := by
  have hi : i < l.length := (List.getElem?_eq_some_iff.1 hx).1
  obtain ⟨_, A', cap', hv, h1, h2, h3⟩ := id h
  injection hv with e1 e2 e3
  subst e2
  obtain ⟨b, off, hA, hb, hc⟩ := SliceAt.elem h hi (by decide)
  refine ⟨b, off, hA, hb, ?_⟩
  have := hc 0 (.int .i64 x) (by decide) (by simp [hx])
  simpa using this
theorem WorldSt.get (h : WorldSt w1 A M sb wb roots v wr) {Av : Option Addr} {n cap : Nat} (hv : v = .slice Av n cap) {i : Nat} {x : Int} (hx : roots[i]? = some x) :
    ∃ b off, Av = some ⟨b, off, none⟩ ∧ b < wr.heap.size ∧ wr.cell? ⟨b, off + i, none⟩ = some (.int .i64 x) := by
  subst hv
  exact ints_get (SliceAt.of_owns h.row) hx
/-- The roots' row is another block than the box. -/
theorem ownsRow.ne_type {w : World} {base : Nat} {e : TypeId} {sz : Nat} {v : Value} {n : Nat} {xs : List Value} (h : w.ownsRow base e sz v n xs) {b : Nat} {c : Array Value} {t : TypeId} {f : Nat × Nat} (hb : w.heap[b]? = some (.cells c t f)) (hne : t ≠ e) : v.ownBlock ≠ some b := by
  intro hv
  rcases h.2 with ⟨rfl, _⟩ | ⟨g, cap, cur, rfl, _, hg, _⟩
  · simp [Value.ownBlock] at hv
  · simp [Value.ownBlock] at hv
    subst hv
    rw [hb] at hg
    cases hg
    exact hne rfl
/-- Another row of roots stands in the box. -/
theorem WorldSt.put (h : WorldSt w1 A M sb wb roots v wr) {rs : List Int} {v' : Value} (hrow : wr.ownsRow w1.heap.size 3 1 v' rs.length (rs.map (Value.int .i64))) (hoff : ∀ b, v'.ownBlock = some b → ¬ A.own b) :
    WorldSt w1 A M sb wb rs v' (wr.setCell ⟨wb, 1, none⟩ v') := by
  have k := (Kept.refl (fun i => i = wb) wr).setCell (p := ⟨wb, 1, none⟩) rfl v'
  have hne : v'.ownBlock ≠ some wb := ownsRow.ne_type hrow h.head (by decide)
  refine ⟨⟨h.own.store.kept k (fun i hi e => h.notOwn (e ▸ hi)), h.own.kept.trans_new k (fun i hi e => by have := h.new; omega), h.own.new⟩, h.eq, ?_, h.new, h.notOwn, ownsRow.keptOf hrow k (fun b hb e => hne (by rw [hb, e])), hoff⟩
  rw [heap_setCell_same h.head]
  rfl
/-- An append to the roots' row, and the row in its place. -/
theorem WorldSt.append (h : WorldSt w1 A M sb wb roots v wr) {r : Int} {v' : Value} (hrow : w'.ownsRow w1.heap.size 3 1 v' (roots.length + 1) (roots.map (Value.int .i64) ++ [.int .i64 r])) (hg : wr.grownBy w' v.ownBlock) (hb : v'.ownBlock = v.ownBlock ∨ v'.ownBlock = some wr.heap.size) :
    w'.cell? ⟨wb, 1, none⟩ = some v ∧ w'.frozen? ⟨wb, 1, none⟩ = false ∧ WorldSt w1 A M sb wb (roots ++ [r]) v' (w'.setCell ⟨wb, 1, none⟩ v') := by
  have kg : Kept (fun i => v.ownBlock = some i) wr w' := Kept.of_grown hg
  have hne : v.ownBlock ≠ some wb := ownsRow.ne_type h.row h.head (by decide)
  have hh : w'.heap[wb]? = some (.cells #[.pointer (some ⟨sb, 0, none⟩), v] 73 (0, 0)) := kg.get h.head hne
  have hst : StoreAt w' A M := h.own.store.kept kg (fun i hi e => h.off i e hi)
  have hkk : Kept (fun _ => False) w1 w' := h.own.kept.trans_new kg (fun i hi e => by have := (h.row.lt i e).1; omega)
  have h3 : ∀ b, v'.ownBlock = some b → ¬ A.own b := fun b hb' e => by
    rcases hb with hb | hb
    · exact h.off b (by rw [← hb]; exact hb') e
    · rw [hb] at hb'
      cases hb'
      exact Nat.lt_irrefl _ (h.own.store.lt e)
  have hrow' : w'.ownsRow w1.heap.size 3 1 v' (roots ++ [r]).length ((roots ++ [r]).map (Value.int .i64)) := by
    rw [List.length_append, List.map_append]; exact hrow
  have k := (Kept.refl (fun i => i = wb) w').setCell (p := ⟨wb, 1, none⟩) rfl v'
  have hne' : v'.ownBlock ≠ some wb := ownsRow.ne_type hrow hh (by decide)
  refine ⟨by rw [cell_of_heap hh]; rfl, free_of_heap hh 1, ⟨⟨hst.kept k (fun i hi e => h.notOwn (e ▸ hi)), hkk.trans_new k (fun i hi e => by have := h.new; omega), h.own.new⟩, h.eq, ?_, h.new, h.notOwn, ownsRow.keptOf hrow' k (fun b hb e => hne' (by rw [hb, e])), h3⟩⟩
  rw [heap_setCell_same hh]
  rfl
end
/-- What is written elsewhere. -/
theorem WorldSt.kept {w1 : World} {A : SA} {M : SM} {sb wb : Nat} {roots : List Int} {v : Value} {wr w' : World} {S : Nat → Prop} (h : WorldSt w1 A M sb wb roots v wr) (k : Kept S wr w') (h1 : ∀ i, A.own i → ¬ S i) (h2 : ¬ S wb) (h3 : ∀ b, v.ownBlock = some b → ¬ S b) (h4 : ∀ i, i < w1.heap.size → ¬ S i) : WorldSt w1 A M sb wb roots v w' :=
  ⟨⟨h.own.store.kept k h1, h.own.kept.trans_new k (fun i hi e => absurd e (h4 i hi)), h.own.new⟩, h.eq, k.get h.head h2, h.new, h.notOwn, ownsRow.keptOf h.row k h3, h.off⟩
theorem ownsRow.ne_row {w : World} {base base' : Nat} {e e' : TypeId} {sz sz' : Nat} {v v' : Value} {n n' : Nat} {xs xs' : List Value} (h : w.ownsRow base e sz v n xs) (h' : w.ownsRow base' e' sz' v' n' xs') (hne : e ≠ e') {b : Nat} (hb : v.ownBlock = some b) : v'.ownBlock ≠ some b := by
  rcases h.2 with ⟨rfl, _⟩ | ⟨g, cap, cur, rfl, _, hg, _⟩
  · simp [Value.ownBlock] at hb
  · simp [Value.ownBlock] at hb
    subst hb
    exact ownsRow.ne_type h' hg hne
/-- What is neither a store's, nor a world's, is as it was. -/
def Off (w : World) (A : SA) (wb : Nat) (v : Value) (A' : SA) (w' : World) : Prop :=
  ∀ b o, w.heap[b]? = some o → ¬ A.foot b → b ≠ wb → v.ownBlock ≠ some b → w'.heap[b]? = some o ∧ ¬ A'.foot b ∧ (¬ A.own b → ¬ A'.own b)
theorem Off.refl (w : World) (A : SA) (wb : Nat) (v : Value) : Off w A wb v A w := fun _ _ h hA _ _ => ⟨h, hA, id⟩
theorem Off.fresh {w w' w2 : World} {A A' : SA} {wb : Nat} {v : Value} (h : Off w A wb v A' w') (k : Kept (fun _ => False) w' w2) : Off w A wb v A' w2 := fun b o hb h1 h2 h3 =>
  ⟨k.get (h b o hb h1 h2 h3).1 id, (h b o hb h1 h2 h3).2⟩
theorem Off.to {w w' w2 : World} {A A' A2 : SA} {M2 : SM} {wb : Nat} {v : Value} (h : Off w A wb v A' w') (k : StoreTo A' A2 M2 w' w2) : Off w A wb v A2 w2 := fun b o hb h1 h2 h3 => by
  obtain ⟨g1, g2, g3⟩ := h b o hb h1 h2 h3
  exact ⟨k.kept.get g1 g2, fun e => (k.foot b e).elim g2 fun e => absurd (lt_of_heap g1) (Nat.not_lt.2 e), fun g e => (k.ownTo e).elim (g3 g) fun e => absurd (lt_of_heap g1) (Nat.not_lt.2 e)⟩
theorem Off.kept {w w' w2 : World} {A A' : SA} {wb : Nat} {v : Value} {S : Nat → Prop} (h : Off w A wb v A' w') (k : Kept S w' w2) (hS : ∀ i, i < w.heap.size → S i → i = wb ∨ v.ownBlock = some i) : Off w A wb v A' w2 := fun b o hb h1 h2 h3 => by
  obtain ⟨g1, g2⟩ := h b o hb h1 h2 h3
  exact ⟨k.get g1 (fun e => (hS b (lt_of_heap hb) e).elim h2 h3), g2⟩
/-- Another world over the same store. -/
theorem WorldSt.other {w1 : World} {A A' : SA} {M M' : SM} {sb wb kb : Nat} {roots kr kr' : List Int} {v kv kv' : Value} {wr w' : World} (h : WorldSt w1 A M sb wb roots v wr) (h' : WorldSt w1 A M sb kb kr kv wr) (k : WorldSt w1 A' M' sb kb kr' kv' w') (o : Off wr A kb kv A' w') (hne : wb ≠ kb) (hv : ∀ b, v.ownBlock = some b → kv.ownBlock ≠ some b) :
    WorldSt w1 A' M' sb wb roots v w' := by
  have h1 := o wb _ h.head (fun e => h.notOwn (.inl e)) hne (ownsRow.ne_type h'.row h.head (by decide))
  refine ⟨k.own, k.eq, h1.1, h.new, h1.2.2 h.notOwn, ⟨h.row.1, ?_⟩, fun b hb => ?_⟩
  · rcases h.row.2 with h0 | ⟨g, cap, cur, rfl, hb, hg, hr⟩
    · exact .inl h0
    · have h2 := o g _ hg (fun e => h.off g rfl (.inl e)) (fun e => by subst e; rw [h'.head] at hg; injection hg with hg; injection hg with _ h2; exact absurd h2 (by decide)) (hv g rfl)
      exact .inr ⟨g, cap, cur, rfl, hb, h2.1, hr⟩
  · rcases h.row.2 with ⟨rfl, _⟩ | ⟨g, cap, cur, rfl, hb', hg, hr⟩
    · simp [Value.ownBlock] at hb
    · have h2 := o g _ hg (fun e => h.off g rfl (.inl e)) (fun e => by subst e; rw [h'.head] at hg; injection hg with hg; injection hg with _ h2; exact absurd h2 (by decide)) (hv g rfl)
      simp [Value.ownBlock] at hb
      subst hb
      exact h2.2.2 (h.off g rfl)
/-- An act, as cells. -/
def actCells (a : ActM) (kv : Value) : List Value := [.int .i64 a.kind, .int .i64 a.at_, kv] ++ blockCells a.block
theorem actCells_len (a : ActM) (kv : Value) : (actCells a kv).length = 19 := by unfold actCells; rw [List.length_append, blockCells_len]; rfl
end Go.Proofs.Ythmjcbmeiabbgaa
/-
  NodesExact: is each page held as often as it should be: the walk.
-/
namespace Go.Proofs.Ythmjcbmeiabbgaa
open Go.RowKit
set_option maxRecDepth 100000

def heldCells (f : Nat → Nat) : List Value := (List.range 240).map fun i => Value.int .i64 ((f i : Nat) : Int)
theorem heldCells_len (f : Nat → Nat) : (heldCells f).length = 240 := by simp [heldCells]
theorem heldCells_get (f : Nat → Nat) {i : Nat} (hi : i < 240) : (heldCells f)[i]? = some (.int .i64 (f i)) := by simp [heldCells, hi]
theorem heldCells_one (f : Nat → Nat) : ∀ v ∈ heldCells f, v.oneCell' = true := by
  intro v hv
  unfold heldCells at hv
  obtain ⟨i, _, rfl⟩ := List.mem_map.1 hv
  rfl
theorem held_zero : (Try.prog.info? 116).map (·.zero) = some (some (.agg (heldCells fun _ => 0).toArray)) := by kernel_rfl
theorem held_size : (Try.prog.info? 116).map (·.size) = some 240 := by kernel_rfl
theorem heldCells_set (f : Nat → Nat) {q : Nat} (hq : q < 240) : (heldCells f).toArray.setIfInBounds q (.int .i64 ((f q : Int) + 1)) = (heldCells fun p => if p = q then f p + 1 else f p).toArray := by
  apply Array.ext_getElem?
  intro j
  rw [Array.getElem?_setIfInBounds]
  by_cases hj : j < 240
  · simp only [List.getElem?_toArray, heldCells_get _ hj]
    by_cases e : q = j
    · subst e
      simp [heldCells_len, hq]
    · have e' : ¬ j = q := fun z => e z.symm
      simp [e, e']
  · have h1 : (heldCells f).toArray[j]? = none := by simp [heldCells_len]; omega
    have h2 : (heldCells fun p => if p = q then f p + 1 else f p).toArray[j]? = none := by simp [heldCells_len]; omega
    rw [h1, h2, if_neg (by omega)]
/-- What holds in the midst of exact. -/
structure ExSt (w0 : World) (u : Value) (l : List Int) (hb : Nat) (f : Nat → Nat) (wr : World) : Prop where
  kept : Kept (fun _ => False) w0 wr
  row : wr.ownsRow w0.heap.size 3 1 u l.length (l.map (Value.int .i64))
  hd : wr.heap[hb]? = some (.cells (heldCells f).toArray 116 (0, 0))
  new : w0.heap.size ≤ hb
section
variable {w0 : World} {u : Value} {l : List Int} {hb : Nat} {f : Nat → Nat} {wr w' : World}
theorem ExSt.fresh (h : ExSt w0 u l hb f wr) (k : Kept (fun _ => False) wr w') : ExSt w0 u l hb f w' := ⟨h.kept.trans k, ownsRow.keptOf h.row k (fun _ _ => id), k.get h.hd id, h.new⟩
theorem ExSt.cell (h : ExSt w0 u l hb f wr) {q : Nat} (hq : q < 240) : wr.cell? ⟨hb, q, none⟩ = some (.int .i64 (f q)) := by
  rw [cell_of_heap h.hd]
  simpa using heldCells_get f hq
theorem ExSt.free (h : ExSt w0 u l hb f wr) (q : Nat) : wr.frozen? ⟨hb, q, none⟩ = false := free_of_heap h.hd q
theorem ExSt.inc (h : ExSt w0 u l hb f wr) {q : Nat} (hq : q < 240) : ExSt w0 u l hb (fun p => if p = q then f p + 1 else f p) (wr.setCell ⟨hb, q, none⟩ (.int .i64 ((f q : Int) + 1))) := by
  have k := (Kept.refl (fun i => i = hb) wr).setCell (p := ⟨hb, q, none⟩) rfl (.int .i64 ((f q : Int) + 1))
  refine ⟨h.kept.setNew h.new _, ownsRow.keptOf h.row k (fun b hb' e => ownsRow.ne_type h.row h.hd (by decide) (e ▸ hb')), ?_, h.new⟩
  rw [heap_setCell_same h.hd, heldCells_set f hq]
end
theorem count_next {roots : List Int} {k q : Nat} (hr : roots[k]? = some (q : Int)) : (fun p : Nat => if p = q then (roots.take k).count (p : Int) + 1 else (roots.take k).count (p : Int)) = fun p : Nat => (roots.take (k + 1)).count (p : Int) := by
  funext p
  have hk : k < roots.length := (List.getElem?_eq_some_iff.1 hr).1
  have : roots.take (k + 1) = roots.take k ++ [(q : Int)] := by
    rw [List.take_add_one, hr]; rfl
  rw [this, List.count_append, List.count_singleton]
  by_cases e : p = q
  · subst e; simp
  · have : ¬ ((q : Int) == (p : Int)) = true := by simp; omega
    rw [if_neg e, if_neg this]
    rfl

theorem owns_le {w : World} {base base' : Nat} {e : TypeId} {sz : Nat} {v : Value} {n : Nat} {xs : List Value} (h : w.ownsRow base e sz v n xs) (hb : base' ≤ base) : w.ownsRow base' e sz v n xs :=
  ⟨h.1, h.2.imp id fun ⟨g, cap, cur, h1, h2, h3⟩ => ⟨g, cap, cur, h1, Nat.le_trans hb h2, h3⟩⟩
theorem occ_next {f : Nat → Nat} {es : List (Int × Int)} {j q : Nat} {y1 : Int} (hy : es[j]? = some (y1, (q : Int))) : (fun p => if p = q then f p + occ (es.take j) p + 1 else f p + occ (es.take j) p) = fun p => f p + occ (es.take (j + 1)) p := by
  funext p
  have : es.take (j + 1) = es.take j ++ [(y1, (q : Int))] := by rw [List.take_add_one, hy]; rfl
  rw [this]
  unfold occ
  rw [List.countP_append, List.countP_cons, List.countP_nil]
  by_cases e : p = q
  · subst e; simp; omega
  · have : ¬ (((y1, (q : Int)) : Int × Int).2 == (p : Int)) = true := by simp; omega
    rw [if_neg e, if_neg this]
    omega
theorem occs_next {M : SM} {l : List Int} {k : Nat} {x : Int} {es : List (Int × Int)} {f : Nat → Nat} (hx : l[k]? = some x) (he : M.ents x.toNat = es) :
    (fun p => f p + ((l.take k).map fun x => occ (M.ents x.toNat) p).sum + occ es p) = fun p => f p + ((l.take (k + 1)).map fun x => occ (M.ents x.toNat) p).sum := by
  funext p
  have : l.take (k + 1) = l.take k ++ [x] := by rw [List.take_add_one, hx]; rfl
  rw [this, List.map_append, List.sum_append, List.map_cons, List.map_nil, List.sum_cons, List.sum_nil, he]
  omega
theorem occs_le {M : SM} {l : List Int} {k : Nat} {x : Int} {es : List (Int × Int)} {j : Nat} (hx : l[k]? = some x) (he : M.ents x.toNat = es) (p : Nat) :
    ((l.take k).map fun x => occ (M.ents x.toNat) p).sum + occ (es.take j) p ≤ (l.map fun x => occ (M.ents x.toNat) p).sum := by
  have hk : k < l.length := (List.getElem?_eq_some_iff.1 hx).1
  have h1 : l = l.take k ++ x :: l.drop (k + 1) := by
    have := (List.getElem?_eq_some_iff.1 hx).2
    rw [← this, List.getElem_cons_drop, List.take_append_drop]
  have h2 : occ (es.take j) p ≤ occ es p := by
    unfold occ
    exact List.Sublist.countP_le (List.take_sublist j es)
  conv => rhs; rw [h1]
  rw [List.map_append, List.sum_append, List.map_cons, List.sum_cons, he]
  omega

set_option maxHeartbeats 16000000 in
theorem worldExact {w1 wr : World} {A : SA} {M : SM} {sb wb : Nat} {roots : List Int} {v : Value} (h : WorldSt w1 A M sb wb roots v wr) (hI : WInv M roots) (hroots : roots.length ≤ 1000) :
    Calls Try.prog 42 #[.pointer (some ⟨wb, 0, none⟩)] wr fun e w' => e = .returned (.bool true) ∧ Kept (fun _ => False) wr w' := by
  obtain ⟨w0, hw0⟩ : ∃ w0, wr = w0 := ⟨_, rfl⟩
  rw [hw0] at h ⊢
  clear hw0
  obtain ⟨Av, capv, rfl, hcv1, hcv2⟩ := h.form
  unfold maxLen at hcv2
  obtain ⟨l, hreach, hget, hcount⟩ := winv_exact hI
  have hroot : Hid (∀ (k : Nat) (r : Int), roots[k]? = some r → 0 ≤ r ∧ r < 240) := Lib.hid (fun k r hr => held_bound hI.exact (hI.held r (List.mem_of_getElem? hr)))
  have hre := reachAny (h.own.store.fresh (Kept.refl (fun _ => False) w0).drew) (SliceAt.fresh (SliceAt.of_owns h.row) (Kept.refl (fun _ => False) w0).drew) hroots (fun x hx => by have := held_bound hI.exact (hI.held x hx); omega)
  rw [hreach, h.eq] at hre
  have hre' := Lib.hid hre
  have hcntle : Hid (∀ p : Nat, M.pool.countI p ≤ 255) := Lib.hid (fun p => by unfold PM.countI; split; (have := hI.exact.cntLe (Int.toNat (p : Int)); omega); omega)
  have h' := Lib.hid h
  have hget' := Lib.hid hget
  have hcount' := Lib.hid hcount
  clear h hI hre hreach hget hcount
  go_enter Try.func42, Try.ntmps42
  go_wp2_with fail
  refine wp_region_held_drew (S := fun W => W.cell? ⟨wb, 0, none⟩ = some (.pointer (some ⟨sb, 0, none⟩)) ∧ W.cell? ⟨wb, 1, none⟩ = some (.slice Av roots.length capv)) (by kernel_rfl) ⟨h'.out.c0, h'.out.c1⟩ (fun hH => ?_)
  refine wpAnyH_take (i := 0) (v := .pointer (some ⟨wb, 0, none⟩)) rfl (by kernel_rfl) (by kernel_rfl) (by kernel_rfl) (fun _ _ _ h => h) (Or.inl ⟨by rfl, fun W hW => by go_simp⟩) (by assumption) ?_
  simp only [Act.put, List.getElem_toArray, List.getElem_cons_zero, List.getElem_cons_succ, List.setIfInBounds_toArray, List.set_cons_zero, List.set_cons_succ]
  refine wpAnyH_take (i := 1) (v := .pointer (some ⟨wb, 0, none⟩)) rfl (by kernel_rfl) (by kernel_rfl) (by kernel_rfl) (fun _ _ _ h => h) (Or.inl ⟨by rfl, fun W hW => by go_simp⟩) (by assumption) ?_
  simp only [Act.put, List.getElem_toArray, List.getElem_cons_zero, List.getElem_cons_succ, List.setIfInBounds_toArray, List.set_cons_zero, List.set_cons_succ]
  refine wpAnyH_take (i := 2) (v := .pointer (some ⟨wb, 0, none⟩)) rfl (by kernel_rfl) (by kernel_rfl) (by kernel_rfl) (fun _ _ _ h => h) (Or.inl ⟨by rfl, fun W hW => by go_simp⟩) (by assumption) ?_
  simp only [Act.put, List.getElem_toArray, List.getElem_cons_zero, List.getElem_cons_succ, List.setIfInBounds_toArray, List.set_cons_zero, List.set_cons_succ]
  refine wpAnyH_take (i := 3) (v := .pointer (some ⟨sb, 0, none⟩)) rfl (by kernel_rfl) (by kernel_rfl) (by kernel_rfl) (fun _ _ _ h => h) (Or.inl ⟨by rfl, fun W hW => by have hc := hW.1; clear hW; go_simp⟩) (by assumption) ?_
  simp only [Act.put, List.getElem_toArray, List.getElem_cons_zero, List.getElem_cons_succ, List.setIfInBounds_toArray, List.set_cons_zero, List.set_cons_succ]
  refine wpAnyH_take (i := 4) (v := .pointer (some ⟨wb, 0, none⟩)) rfl (by kernel_rfl) (by kernel_rfl) (by kernel_rfl) (fun _ _ _ h => h) (Or.inl ⟨by rfl, fun W hW => by go_simp⟩) (by assumption) ?_
  simp only [Act.put, List.getElem_toArray, List.getElem_cons_zero, List.getElem_cons_succ, List.setIfInBounds_toArray, List.set_cons_zero, List.set_cons_succ]
  refine wpAnyH_take (i := 5) (v := .pointer (some ⟨wb, 0, none⟩)) rfl (by kernel_rfl) (by kernel_rfl) (by kernel_rfl) (fun _ _ _ h => h) (Or.inl ⟨by rfl, fun W hW => by go_simp⟩) (by assumption) ?_
  simp only [Act.put, List.getElem_toArray, List.getElem_cons_zero, List.getElem_cons_succ, List.setIfInBounds_toArray, List.set_cons_zero, List.set_cons_succ]
  refine wpAnyH_take (i := 6) (v := .pointer (some ⟨wb, 1, none⟩)) rfl (by kernel_rfl) (by kernel_rfl) (by kernel_rfl) (fun _ _ _ h => h) (Or.inl ⟨by rfl, fun W hW => by go_simp⟩) (by assumption) ?_
  simp only [Act.put, List.getElem_toArray, List.getElem_cons_zero, List.getElem_cons_succ, List.setIfInBounds_toArray, List.set_cons_zero, List.set_cons_succ]
  refine wpAnyH_take (i := 7) (v := .slice Av roots.length capv) rfl (by kernel_rfl) (by kernel_rfl) (by kernel_rfl) (fun _ _ _ h => h) (Or.inl ⟨by rfl, fun W hW => by have hc := hW.2; clear hW; go_simp⟩) (by assumption) ?_
  simp only [Act.put, List.getElem_toArray, List.getElem_cons_zero, List.getElem_cons_succ, List.setIfInBounds_toArray, List.set_cons_zero, List.set_cons_succ]
  refine wpAnyH_ready (rs := [8]) (by kernel_rfl) (by simp) ?_
  refine AllReadyH.cons rfl (fun K hK => ?_) ?_
  · rw [if_pos (by rfl)]
    simp only [Go.wp_at_zero, Go.wp_at_succ]
    go_simp
    refine hre'.out.mono ?_
    rintro e w2 ⟨u, rfl, hown2, hk2⟩
    have kk2 : Kept (fun _ => False) w0 w2 := (Kept.refl (fun _ => False) w0).drew.trans hk2
    have W2 := h'.out.fresh kk2
    obtain ⟨_, Al, capl, rfl, hcl1, hcl2, _⟩ := SliceAt.of_owns hown2
    unfold maxLen at hcl2
    refine hK.out _ _ ⟨W2.c0, W2.c1⟩ (fun hH2 => ?_)
    clear hK K
    try simp only [Act.put, List.getElem_toArray, List.getElem_cons_zero, List.getElem_cons_succ, List.setIfInBounds_toArray, List.set_cons_zero, List.set_cons_succ]
    refine wpAnyH_take (i := 9) (v := .tuple #[.slice Al l.length capl, .int .i64 0]) rfl (by kernel_rfl) (by kernel_rfl) (by kernel_rfl) (fun _ _ _ h => h) (Or.inl ⟨by rfl, fun W hW => by go_simp⟩) (by assumption) ?_
    simp only [Act.put, List.getElem_toArray, List.getElem_cons_zero, List.getElem_cons_succ, List.setIfInBounds_toArray, List.set_cons_zero, List.set_cons_succ]
    refine wpAnyH_take (i := 10) (v := .slice Al l.length capl) rfl (by kernel_rfl) (by kernel_rfl) (by kernel_rfl) (fun _ _ _ h => h) (Or.inl ⟨by rfl, fun W hW => by go_simp⟩) (by assumption) ?_
    simp only [Act.put, List.getElem_toArray, List.getElem_cons_zero, List.getElem_cons_succ, List.setIfInBounds_toArray, List.set_cons_zero, List.set_cons_succ]
    refine wpAnyH_take (i := 11) (v := .int .i64 0) rfl (by kernel_rfl) (by kernel_rfl) (by kernel_rfl) (fun _ _ _ h => h) (Or.inl ⟨by rfl, fun W hW => by go_simp⟩) (by assumption) ?_
    simp only [Act.put, List.getElem_toArray, List.getElem_cons_zero, List.getElem_cons_succ, List.setIfInBounds_toArray, List.set_cons_zero, List.set_cons_succ]
    refine wpAnyH_take (i := 12) (v := .slice Al l.length capl) rfl (by kernel_rfl) (by kernel_rfl) (by kernel_rfl) (fun _ _ _ h => h) (Or.inl ⟨by rfl, fun W hW => by go_simp⟩) (by assumption) ?_
    simp only [Act.put, List.getElem_toArray, List.getElem_cons_zero, List.getElem_cons_succ, List.setIfInBounds_toArray, List.set_cons_zero, List.set_cons_succ]
    refine wpAnyH_take (i := 13) (v := .int .i64 0) rfl (by kernel_rfl) (by kernel_rfl) (by kernel_rfl) (fun _ _ _ h => h) (Or.inl ⟨by rfl, fun W hW => by go_simp⟩) (by assumption) ?_
    simp only [Act.put, List.getElem_toArray, List.getElem_cons_zero, List.getElem_cons_succ, List.setIfInBounds_toArray, List.set_cons_zero, List.set_cons_succ]
    refine wpAnyH_done (by kernel_rfl) ?_ _
    have c20 := W2.c0
    have c21 := W2.c1
    have hown2' := Lib.hid hown2
    have kk2' := Lib.hid kk2
    clear hH hH2 W2 hk2 hown2 kk2
    obtain ⟨Zh, hZh⟩ : ∃ Zh, heldCells (fun _ => 0) = Zh := ⟨_, rfl⟩
    have hZhl : Hid (Zh.length = 240) := Lib.hid (by rw [← hZh]; exact heldCells_len _)
    have hZh1 : Hid (∀ v ∈ Zh, v.oneCell' = true) := Lib.hid (by rw [← hZh]; exact heldCells_one _)
    have hZhz : Hid ((Try.prog.info? 116).map (·.zero) = some (some (.agg Zh.toArray))) := Lib.hid (by rw [← hZh]; exact held_zero)
    have hZhb : Hid (∀ w, (Instr.build 116 #[]).run Try.prog w = .ok (.agg Zh.toArray) w) := Lib.hid (fun w => by rw [← hZh]; exact run_build _ _ _ _ (by kernel_rfl))
    obtain ⟨hb, hhb⟩ : ∃ hb, w2.heap.size = hb := ⟨_, rfl⟩
    obtain ⟨w3, hw3⟩ : ∃ w3, (w2.alloc (.cells Zh.toArray 116)).setRow hb Zh.toArray = w3 := ⟨_, rfl⟩
    have k3 : Kept (fun _ => False) w2 w3 := by rw [← hw3]; exact ((Kept.refl _ _).alloc _).setRowNew (by omega) _
    have q3 : w3.heap[hb]? = some (.cells Zh.toArray 116 (0, 0)) := by rw [← hw3, ← hhb]; exact setRow_heap _ _ _ _ _ _ (heap_alloc_new _ _)
    have E3 : ExSt w0 (.slice Al l.length capl) l hb (fun _ => 0) w3 := ⟨kk2'.out.trans k3, ownsRow.keptOf hown2'.out k3 (fun _ _ => id), by rw [hZh]; exact q3, by have := kk2'.out.size; omega⟩
    have E3' := Lib.hid E3
    have c31 := (h'.out.fresh E3.kept).c1
    have hhb' := Lib.hid hhb
    have hw3' := Lib.hid hw3
    clear E3 k3 q3 hhb hw3 hZh c20 c21
    go_wp2_with (first | (refine wpList_exec rfl (exec_build 116 #[] _ rfl (by simp [Act.eval]) (hZhb.out _)) ?_) | (refine wpList_alloc_as 116 rfl rfl Zh.toArray hZhz.out ?_; rw [hhb'.out]) | (refine wpList_store_whole 116 rfl rfl rfl Zh rfl (by rw [hZhl.out]; exact held_size) 116 _ (by rw [← hhb'.out]; exact heap_alloc_new _ _) (by simp [hZhl.out]) hZh1.out ?_; rw [hw3'.out]))
    go_loopw [36] (fun i wr => ∃ (k : Nat), k ≤ roots.length ∧ i = .int .i64 k ∧ Hid (ExSt w0 (.slice Al l.length capl) l hb (fun p : Nat => (roots.take k).count (p : Int)) wr)) (fun i _ => roots.length - (intOf i).toNat)
    case atStart => exact ⟨0, Nat.zero_le _, rfl, E3'⟩
    case round =>
      obtain ⟨k, hkl, rfl, hE⟩ := hrel
      by_cases hlt : k < roots.length
      · obtain ⟨r, hr⟩ : ∃ r, roots[k]? = some r := ⟨_, List.getElem?_eq_getElem hlt⟩
        obtain ⟨hr0, hr240⟩ := hroot.out k r hr
        obtain ⟨q, rfl⟩ := Int.eq_ofNat_of_zero_le hr0
        have hq : q < 240 := by omega
        obtain ⟨rb, ro, rfl, hrb, hrc⟩ := (h'.out.fresh hE.out.kept).get rfl hr
        have hfin := hE.out.inc hq
        have hcq := hE.out.cell hq
        have hfq := hE.out.free q
        have hcnt : (roots.take k).count (q : Int) ≤ 1000 := Nat.le_trans List.count_le_length (by rw [List.length_take]; omega)
        have hwr : IntKind.i64.wrap (((roots.take k).count (q : Int) : Int) + 1) = ((roots.take k).count (q : Int) : Int) + 1 := by rw [IntKind.wrap_i64]; omega
        have hki : (k : Int) < (roots.length : Int) := by omega
        have hqi : (q : Int) < 240 := by omega
        have hfe : Hid ((fun p : Nat => if p = q then (roots.take k).count (p : Int) + 1 else (roots.take k).count (p : Int)) = fun p : Nat => (roots.take (k + 1)).count (p : Int)) := Lib.hid (count_next hr)
        have fin : Hid (∀ wz, wz = wr.setCell ⟨hb, q, none⟩ (.int .i64 (((roots.take k).count (q : Int) : Int) + 1)) → ExSt w0 (.slice Al l.length capl) l hb (fun p : Nat => (roots.take (k + 1)).count (p : Int)) wz) := Lib.hid (fun wz hz => by rw [hz, ← hfe.out]; exact hfin)
        clear hr hfin
        go_wp2_with fail
        go_roundw
        case rel => exact ⟨k + 1, by omega, by go_num, Lib.hid (fin.out _ rfl)⟩
        case measure => simp [intOf]; omega
      · obtain rfl : k = roots.length := by omega
        rw [List.take_length] at hE
        have E0 : Hid (ExSt w0 (.slice Al l.length capl) l hb (fun p => roots.count (p : Int) + ((l.take 0).map fun x => occ (M.ents x.toNat) p).sum) wr) := hE
        clear hE
        go_wp2_with fail
        go_loopw [48] (fun i wr => ∃ (k : Nat), k ≤ l.length ∧ i = .int .i64 k ∧ Hid (ExSt w0 (.slice Al l.length capl) l hb (fun p => roots.count (p : Int) + ((l.take k).map fun x => occ (M.ents x.toNat) p).sum) wr)) (fun i _ => l.length - (intOf i).toNat)
        case atStart => exact ⟨0, Nat.zero_le _, rfl, E0⟩
        case round =>
          obtain ⟨k, hkl, rfl, hE⟩ := hrel
          by_cases hlt : k < l.length
          · obtain ⟨x, hx⟩ : ∃ x, l[k]? = some x := ⟨_, List.getElem?_eq_getElem hlt⟩
            obtain ⟨hx0, hx1, n, hgn, hen, hok, hents⟩ := hget'.out x (List.mem_of_getElem? hx)
            obtain ⟨lb, lo, rfl, hlb, hlc⟩ := ints_get (SliceAt.of_owns hE.out.row) hx
            have cw0 := (h'.out.fresh hE.out.kept).c0
            have hg := get_any (h'.out.fresh hE.out.kept).own.store x
            rw [hgn, h'.out.eq] at hg
            dsimp only at hg
            have hg' := Lib.hid hg
            have hn6 := hok.len6
            have hki : (k : Int) < (l.length : Int) := by omega
            have hd0 : decide (x < 0) = false := by rw [decide_eq_false_iff_not]; omega
            have hd1 : decide (240 ≤ x) = false := by rw [decide_eq_false_iff_not]; omega
            have hx' := Lib.hid hx
            have hen' := Lib.hid hen
            have hents' := Lib.hid hents
            obtain ⟨Z, hZ⟩ : ∃ Z, nodeCells NM.zero (.slice none 0 0) = Z := ⟨_, rfl⟩
            have hZz : Hid ((Try.prog.info? 33).map (·.zero) = some (some (.agg Z.toArray))) := Lib.hid (by rw [← hZ]; exact node_zero)
            have hZl : Hid (Z.length = 18) := Lib.hid (by rw [← hZ]; exact nodeCells_len _ _)
            clear hx hen hents hok hgn hg hZ hx0 hx1
            go_wp2_with fail
            refine hg'.out.mono ?_
            rintro e w5 ⟨v5, rfl, hown5, hk5⟩
            obtain ⟨A5, c5, rfl, hf51, hf52⟩ := EntsAt.form (show EntsAt w5 v5 n.ents from SliceAt.of_owns hown5)
            unfold maxLen at hf52
            obtain ⟨F, hF⟩ : ∃ F, nodeCells n (.slice A5 n.ents.length c5) = F := ⟨_, rfl⟩
            have hFl : Hid (F.length = 18) := Lib.hid (by rw [← hF]; exact nodeCells_len _ _)
            have hF1 : Hid (∀ v ∈ F, v.oneCell' = true) := Lib.hid (by rw [← hF]; exact nodeCells_one _ _ _ _)
            obtain ⟨nb, hnb⟩ : ∃ nb, w5.heap.size = nb := ⟨_, rfl⟩
            obtain ⟨w6, hw6⟩ : ∃ w6, (w5.alloc (.cells Z.toArray 33)).setRow nb F.toArray = w6 := ⟨_, rfl⟩
            have k6 : Kept (fun _ => False) w5 w6 := by rw [← hw6]; exact ((Kept.refl _ _).alloc _).setRowNew (by omega) _
            have bx6 : NodeBox w6 nb n (.slice A5 n.ents.length c5) := ⟨by rw [hF, ← hw6, ← hnb]; exact setRow_heap _ _ _ _ _ _ (heap_alloc_new _ _)⟩
            have c617 := bx6.c17
            have R6 : Hid (w6.ownsRow w0.heap.size 35 2 (.slice A5 n.ents.length c5) n.ents.length (entCells n.ents)) := Lib.hid (ownsRow.keptOf (owns_le hown5 hE.out.kept.size) k6 (fun _ _ => id))
            have E6 := Lib.hid ((hE.out.fresh hk5).fresh k6)
            have hnb' := Lib.hid hnb
            have hw6' := Lib.hid hw6
            rw [hF]
            clear hown5 hk5 hF hnb hw6 k6 bx6 hE cw0 hlc
            go_wp2_with (first | (refine wpList_alloc_as 33 rfl rfl Z.toArray hZz.out ?_; rw [hnb'.out]) | (refine wpList_store_whole 33 rfl rfl rfl F rfl (by rw [hFl.out]; exact node_size) 33 _ (by rw [← hnb'.out]; exact heap_alloc_new _ _) (by simp [hFl.out, hZl.out]) hF1.out ?_; rw [hw6'.out]))
            go_loopw [74] (fun i wr => ∃ (j : Nat), j ≤ n.ents.length ∧ i = .int .i64 j ∧ Hid (ExSt w0 (.slice (some ⟨lb, lo, none⟩) l.length capl) l hb (fun p => roots.count (p : Int) + ((l.take k).map fun x => occ (M.ents x.toNat) p).sum + occ (n.ents.take j) p) wr ∧ wr.ownsRow w0.heap.size 35 2 (.slice A5 n.ents.length c5) n.ents.length (entCells n.ents))) (fun i _ => n.ents.length - (intOf i).toNat)
            case atStart => exact ⟨0, Nat.zero_le _, rfl, Lib.hid ⟨E6.out, R6.out⟩⟩
            case round =>
              obtain ⟨j, hj, rfl, hER⟩ := hrel
              by_cases hjt : j < n.ents.length
              · obtain ⟨y, hy⟩ : ∃ y, n.ents[j]? = some y := ⟨_, List.getElem?_eq_getElem hjt⟩
                obtain ⟨hy0, hy1⟩ := hents'.out y (List.mem_of_getElem? hy)
                obtain ⟨y1, y2⟩ := y
                dsimp only at hy0 hy1
                obtain ⟨q, rfl⟩ := Int.eq_ofNat_of_zero_le hy0
                have hq : q < 240 := by omega
                obtain ⟨eb, eo, rfl, heb, hy1c, hy2c⟩ := EntsAt.get (show EntsAt wr _ n.ents from SliceAt.of_owns hER.out.2) hy
                have hlo : Hid (∀ i v, [Value.int .i64 y1, .int .i64 (q : Int)][i]? = some v → wr.cell? ⟨eb, eo + j * 2 + i, none⟩ = some v) := Lib.hid (fun i v hi => by
                  match i, hi with
                  | 0, hi => cases hi; exact hy1c
                  | 1, hi => cases hi; exact hy2c)
                obtain ⟨xb, hxb⟩ : ∃ xb, wr.heap.size = xb := ⟨_, rfl⟩
                obtain ⟨wx, hwx⟩ : ∃ wx, (wr.alloc (.cells #[.int .i64 0, .int .i64 0] 35)).setRow xb #[.int .i64 y1, .int .i64 (q : Int)] = wx := ⟨_, rfl⟩
                have kx : Kept (fun _ => False) wr wx := by rw [← hwx]; exact ((Kept.refl _ _).alloc _).setRowNew (by omega) _
                have qx : wx.heap[xb]? = some (.cells #[.int .i64 y1, .int .i64 (q : Int)] 35 (0, 0)) := by rw [← hwx, ← hxb]; exact setRow_heap _ _ _ _ _ _ (heap_alloc_new _ _)
                have cx1 : wx.cell? ⟨xb, 1, none⟩ = some (.int .i64 (q : Int)) := by rw [cell_of_heap qx]; rfl
                have Ex := hER.out.1.fresh kx
                have hfin := Ex.inc hq
                have hcq := Ex.cell hq
                have hfq := Ex.free q
                have Rx := ownsRow.keptOf hER.out.2 kx (fun _ _ => id)
                have kh := (Kept.refl (fun i => i = hb) wx).setCell (p := ⟨hb, q, none⟩) rfl (.int .i64 (((roots.count (q : Int) + ((l.take k).map fun x => occ (M.ents x.toNat) q).sum + occ (n.ents.take j) q : Nat) : Int) + 1))
                have Rf := ownsRow.keptOf Rx kh (fun b hb' e => ownsRow.ne_type Rx Ex.hd (by decide) (e ▸ hb'))
                have hbd : roots.count (q : Int) + ((l.take k).map fun x => occ (M.ents x.toNat) q).sum + occ (n.ents.take j) q ≤ 10000 := by have h1 := occs_le (M := M) (j := j) hx'.out hen'.out q; have h2 := hcount'.out q; have h3 := hcntle.out q; omega
                obtain ⟨fq, hfqe⟩ : ∃ fq, roots.count (q : Int) + ((l.take k).map fun x => occ (M.ents x.toNat) q).sum + occ (n.ents.take j) q = fq := ⟨_, rfl⟩
                have hfe := occ_next (f := fun p => roots.count (p : Int) + ((l.take k).map fun x => occ (M.ents x.toNat) p).sum) hy
                rw [hfe] at hfin
                simp only [hfqe] at hfin hcq hbd Rf
                have hwr : IntKind.i64.wrap ((fq : Int) + 1) = (fq : Int) + 1 := by rw [IntKind.wrap_i64]; omega
                have hji : (j : Int) < (n.ents.length : Int) := by omega
                have hqi : (q : Int) < 240 := by omega
                have fin := Lib.hid (And.intro hfin Rf)
                have hxb' := Lib.hid hxb
                have hwx' := Lib.hid hwx
                clear hy hy0 hy1c hy2c hfin Rf Rx Ex kx qx hxb hwx hfe hfqe hER kh
                go_wp2_with (first | (refine wpList_load_agg 35 rfl rfl rfl _ Try.underlying35 rfl [.int .i64 y1, .int .i64 (q : Int)] (by kernel_rfl) hlo.out ?_) | (refine wpList_alloc_as 35 rfl rfl #[.int .i64 0, .int .i64 0] (by kernel_rfl) ?_; rw [hxb'.out]) | (refine wpList_store_whole 35 rfl rfl rfl [.int .i64 y1, .int .i64 (q : Int)] rfl (by kernel_rfl) 35 #[.int .i64 0, .int .i64 0] (by rw [← hxb'.out]; exact heap_alloc_new _ _) rfl (by intro c hc; simp at hc; rcases hc with rfl | rfl <;> rfl) ?_; rw [hwx'.out]))
                go_roundw
                case rel => exact ⟨j + 1, by omega, by go_num, fin⟩
                case measure => simp [intOf]; omega
              · obtain rfl : j = n.ents.length := by omega
                have fin : Hid (ExSt w0 (.slice (some ⟨lb, lo, none⟩) l.length capl) l hb (fun p => roots.count (p : Int) + ((l.take (k + 1)).map fun x => occ (M.ents x.toNat) p).sum) wr) := Lib.hid (by
                  have h1 := hER.out.1
                  rw [List.take_length] at h1
                  rw [occs_next (M := M) hx'.out hen'.out] at h1
                  exact h1)
                clear hER
                go_wp2_with fail
                go_roundw
                case rel => exact ⟨k + 1, by omega, by go_num, fin⟩
                case measure => simp [intOf]; omega
          · obtain rfl : k = l.length := by omega
            rw [List.take_length] at hE
            obtain ⟨f, hf⟩ : ∃ f : Nat → Nat, (fun p : Nat => roots.count (p : Int) + (l.map fun x => occ (M.ents x.toNat) p).sum) = f := ⟨_, rfl⟩
            rw [hf] at hE
            have hcnt : Hid (∀ p : Nat, M.pool.countI p = (f p : Int)) := Lib.hid (fun p => by rw [← hf]; exact hcount'.out p)
            obtain ⟨F, hF⟩ : ∃ F, heldCells f = F := ⟨_, rfl⟩
            have hFl : Hid (F.length = 240) := Lib.hid (by rw [← hF]; exact heldCells_len _)
            have hFg : Hid (∀ p, p < 240 → F[p]? = some (.int .i64 (f p))) := Lib.hid (fun p hp => by rw [← hF]; exact heldCells_get f hp)
            have hload : Hid (∀ j v, F[j]? = some v → wr.cell? ⟨hb, 0 + j, none⟩ = some v) := Lib.hid (fun j v hv => by rw [cell_of_heap hE.out.hd, Nat.zero_add, hF]; simpa using hv)
            have Wr := Lib.hid (h'.out.fresh hE.out.kept)
            have cw0 := Wr.out.c0
            have kk := Lib.hid hE.out.kept
            clear hE hf hF
            go_wp2_with (refine wpList_load_agg 116 rfl rfl rfl _ Try.underlying116 rfl F (by rw [hFl.out]; exact held_size) hload.out ?_)
            go_loopw [87] (fun i wz => ∃ (p : Nat), p ≤ 240 ∧ i = .int .i64 p ∧ wz = wr) (fun i _ => 240 - (intOf i).toNat)
            case atStart => exact ⟨0, by omega, rfl, rfl⟩
            case round =>
              obtain ⟨p, hp, rfl, rfl⟩ := hrel
              by_cases hlt : p < 240
              · have hix := fun wx => run_index_agg (P := Try.prog) Try.underlying116 Try.underlying3 rfl (by kernel_rfl) F hlt (hFg.out p hlt) .i64 wx
                have hpl := storePool Wr.out.own.store
                rw [Wr.out.eq] at hpl
                have hpl' := Lib.hid hpl
                have hct := count_any Wr.out.own.store.pool (p : Int)
                rw [hcnt.out p] at hct
                have hct' := Lib.hid hct
                have hn : (p : Int) < 240 := by omega
                clear hpl hct
                go_wp2_with fail
                refine hpl'.out.mono ?_
                rintro e w7 ⟨rfl, rfl⟩
                go_wp2_with fail
                refine hct'.out.mono ?_
                rintro e w7 ⟨rfl, rfl⟩
                go_wp2_with fail
                go_roundw
                case rel => exact ⟨p + 1, by omega, by go_num, trivial⟩
                case measure => simp [intOf]; omega
              · obtain rfl : p = 240 := by omega
                go_wp2_with fail
                go_ret
                exact ⟨rfl, kk.out⟩
  exact AllReadyH.nil
end Go.Proofs.Ythmjcbmeiabbgaa
