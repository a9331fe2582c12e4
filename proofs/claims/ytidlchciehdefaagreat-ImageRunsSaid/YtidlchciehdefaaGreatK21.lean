/-
 Nodes in a store: what can be reached: slices.Clone at ints.
-/
import Derived.Test.YtidlchciehdefaaGreatK12
import Derived.Test.YtidlchciehdefaaGreatK17
import Derived.Test.YtidlchciehdefaaGreatK20
import Derived.Lib.LazyBuf
set_option linter.unusedVariables false
set_option linter.unusedSimpArgs false
namespace Go.Proofs.YtidlchciehdefaaGreat
open Go.RowKit
set_option maxRecDepth 100000

theorem ints_one (l : List Int) : ∀ c ∈ l.map (Value.int .i64), c.oneCell' = true := by
 intro c hc
 obtain ⟨x, _, rfl⟩ := List.mem_map.1 hc
 rfl
set_option maxHeartbeats 4000000 in
theorem cloneInts {w : World} {v : Value} {l : List Int} (h : SliceAt w v 1 l.length (l.map (Value.int .i64))) (hn : l.length ≤ 1000) :
  Calls Tryz.prog 123 #[v] w fun e w' => ∃ u, e = .returned u ∧ w'.ownsRow w.heap.size 3 1 u l.length (l.map (Value.int .i64)) ∧ Kept (fun _ => False) w w' := by
 obtain ⟨hl, A, cap, rfl, hc1, hc2, hcell⟩ := id h
 have h1 := ints_one l
 cases A with
 | none =>
  have hl0 : l = [] := by
   cases l with
   | nil => rfl
   | cons x l =>
    obtain ⟨b, off, hA, _⟩ := hcell 0 (.int .i64 x) rfl
    cases hA
  subst hl0
  have hnil : ∀ w : World, (binOp .eql 38 (.slice none 0 cap) (.slice none 0 0)).run Tryz.prog w = .ok (.bool true) w := fun w => Go.run_eql_slice_nil w 38 3 none 0 cap Tryz.underlying38
  clear hcell h hl h1
  go_enter Tryz.func123, Tryz.ntmps123

  go_wp2_with (simp only [hnil])
  go_ret
  exact ⟨_, rfl, World.ownsRow_nil _ _ _ _, Kept.refl _ _⟩
 | some a =>
  obtain ⟨w1, hw1⟩ : ∃ w1, w.alloc (.cells #[] 3) = w1 := ⟨_, rfl⟩
  have k1 := h_ (show Kept (fun _ => False) w w1 by rw [← hw1]; exact (Kept.refl _ _).alloc _)
  have hown : Hid (w1.ownsRow w.heap.size 3 1 (.slice (some ⟨w.heap.size, 0, none⟩) 0 0) 0 []) := h_ ⟨rfl, .inr ⟨w.heap.size, 0, #[], rfl, Nat.le_refl _, by rw [← hw1]; exact heap_alloc_new _ _, Nat.le_refl _, Nat.zero_le _, rfl, rfl⟩⟩
  have hs := h_ (SliceAt.fresh h k1.out)
  have h1' := h_ h1
  have hsz := k1.out.size
  have hw1' := h_ hw1
  have hnil : ∀ w : World, (binOp .eql 38 (.slice (some a) l.length cap) (.slice none 0 0)).run Tryz.prog w = .ok (.bool false) w := fun w => Go.run_eql_slice_nil w 38 3 (some a) l.length cap Tryz.underlying38
  clear hcell h hl h1 hw1
  go_enter Tryz.func123, Tryz.ntmps123
  go_wp2_with (first | (simp only [hnil]) | (at_builtin; rw [hw1'.out]; refine wpList_append_src rfl elemInt (.tmp 5) (.tmp 6) rfl (by rfl) (by rfl) hown.out hs.out h1'.out (by omega) (by omega) hsz ?_; intro v2 w2 hown2 hg2 hat2))
  go_ret
  refine ⟨_, rfl, by rw [Nat.zero_add, List.nil_append] at hown2; exact hown2, k1.out.grown hg2 (fun k e => .inr ?_)⟩
  have := (hown.out.lt k e).1
  omega
end Go.Proofs.YtidlchciehdefaaGreat
/-
 Nodes in a store: what can be reached: the map of what was seen; what a round keeps.
-/
namespace Go.Proofs.YtidlchciehdefaaGreat
open Go.RowKit Go.Maps Go.Sort
set_option maxRecDepth 100000

noncomputable def leastF (p : Nat → Prop) : Nat := by classical exact if h : ∃ f, p f then Classical.choose (least_ex h) else 0
where
 least_ex {p : Nat → Prop} (h : ∃ f, p f) : ∃ f, p f ∧ ∀ g, p g → f ≤ g := by
  obtain ⟨f, hf⟩ := h
  induction f using Nat.strongRecOn with
  | _ f ih =>
   by_cases hg : ∃ g, g < f ∧ p g
   ·obtain ⟨g, hgf, hg⟩ := hg
    exact ih g hgf hg
   ·exact ⟨f, hf, fun g hpg => Nat.le_of_not_lt fun hlt => hg ⟨g, hlt, hpg⟩⟩
theorem leastF_spec {p : Nat → Prop} (h : ∃ f, p f) : p (leastF p) := by
 unfold leastF
 rw [dif_pos h]
 exact (Classical.choose_spec (leastF.least_ex h)).1
theorem leastF_le {p : Nat → Prop} {f : Nat} (h : p f) : leastF p ≤ f := by
 unfold leastF
 rw [dif_pos ⟨f, h⟩]
 exact (Classical.choose_spec (leastF.least_ex ⟨f, h⟩)).2 f h

theorem least_split {p : Nat → Prop} (h : ∃ f, p f) : ∃ f, leastF p = f ∧ p f := ⟨_, rfl, leastF_spec h⟩
def seenD (seen : List Int) : DataW Unit := Maps.setOf (.lit (.int .i64 1)) (seen.map (Lit.int .i64))
theorem seenD_snoc (seen : List Int) (x : Int) : seenD (seen ++ [x]) = (seenD seen).put (.int .i64 x) (.lit (.int .i64 1)) := by
 unfold seenD
 rw [List.map_append]
 exact Maps.setOf_snoc _ _ _
theorem int_key (x : Int) : WideAt.IsKeyLit (.int .i64 x) := by simp [WideAt.IsKeyLit]
theorem seenD_at (x : Int) (seen : List Int) : (seenD seen).atKey (.int .i64 x) (.lit (.int .i64 0)) = .lit (.int .i64 (if x ∈ seen then 1 else 0)) := by
 have key : ∀ (l : List Int) (m : DataW Unit), IsMap m → (l.foldl (fun m x => m.put (Lit.int .i64 x) (.lit (.int .i64 1))) m).atKey (.int .i64 x) (.lit (.int .i64 0)) = if x ∈ l then .lit (.int .i64 1) else m.atKey (.int .i64 x) (.lit (.int .i64 0)) := by
  intro l
  induction l with
  | nil => intro m _; simp
  | cons y l ih =>
   intro m hm
   rw [List.foldl_cons, ih _ (hm.put _ _)]
   by_cases hl : x ∈ l
   ·rw [if_pos hl, if_pos (List.mem_cons_of_mem _ hl)]
   ·rw [if_neg hl]
    by_cases e : x = y
    ·subst e
     rw [if_pos (List.mem_cons_self ..), atKey_put_same hm (int_key x)]
    ·rw [if_neg (by simp [e, hl]), atKey_put_other (by intro h; injection h with _ h; exact e h)]
 unfold seenD Maps.setOf
 rw [List.foldl_map, key seen _ isMap_empty]
 split <;> rfl
theorem seenD_keys {w : World} {b n : Nat} {seen : List Int} {R : Value → Option (DataW Unit × List MemPlace)} (hown : w.ownsMap Tryz.prog 3 R b n (seenD seen)) (hn : seen.Nodup) : seen.Perm (intKeys (seenD seen)) := by
 have K : Keyed Tryz.prog 3 := int_keyed Tryz.underlying3
 obtain ⟨es, hD, hpw, _⟩ := hown.entries K
 obtain ⟨es', hD', hko⟩ := hown.keysOf
 obtain rfl : es = es' := by rw [hD] at hD'; simpa using hD'
 have hh : ∀ x, x ∈ seen ↔ has (seenD seen) (.int .i64 x) = true := fun x => by
  unfold seenD
  rw [has_setOf _ _ _ (fun y hy => by obtain ⟨z, _, rfl⟩ := List.mem_map.1 hy; exact int_key z), List.any_map, List.any_eq_true]
  constructor
  ·intro h; exact ⟨x, h, by simp [Lit.sameKey]⟩
  ·rintro ⟨y, hy, he⟩
   have : y = x := by simpa [Lit.sameKey] using he
   rw [← this]; exact hy
 rw [hD] at hh ⊢
 exact perm_intKeys hpw (fun p hp => by obtain ⟨v, hv⟩ := hko p hp; obtain ⟨x, _, hx, _⟩ := Maps.keyOf_i64 Tryz.underlying3 hv; exact ⟨x, hx⟩) hn hh

theorem get_ok {w : World} {A : SA} {M : SM} (h : StoreAt w A M) {x : Int} (h0 : (M.get x).2 = 0) : 0 ≤ x ∧ x < 240 ∧ (M.get x).1.ents.length ≤ 6 ∧ ∀ y ∈ (M.get x).1.ents, 0 ≤ y.2 ∧ y.2 < 240 := by
 unfold SM.get at h0 ⊢
 split at h0
 ·rename_i hh
  have hb := heldB_pos hh
  have hs := h.pool.hsize
  rw [if_pos hh]
  cases hn : M.nodeAt x.toNat with
  | none => rw [hn] at h0; cases h0
  | some n =>
   dsimp only
   have hok := nodeAt_ok h hn
   refine ⟨hb.1, by omega, ?_, fun y hy => ⟨(hok.entry hy).2.2.1, (hok.entry hy).2.2.2⟩⟩
   by_cases hk : n.kind = 1
   ·have := hok.1
    unfold NM.rightB at this
    rw [if_pos hk] at this
    simp at this
    rw [this]; exact Nat.zero_le _
   ·exact (innerOk_of hok hk).le
 ·cases h0
theorem ownsMap_kept {w w' : World} {S : Nat → Prop} {k b n : Nat} {R : Value → Option (DataW Unit × List MemPlace)} {D : DataW Unit} (h : w.ownsMap Tryz.prog k R b n D) (kk : Kept S w w') (hb : ¬ S b) : w'.ownsMap Tryz.prog k R b n D := by
 obtain ⟨es, clock, h1, F, hs, hD⟩ := h
 exact ⟨es, clock, kk.get h1 hb, F, hs, hD⟩
theorem owns_pop {w : World} {base g n cap : Nat} {xs : List Value} {c : Value} (h : w.ownsRow base 3 1 (.slice (some ⟨g, 0, none⟩) (n + 1) cap) (n + 1) (xs ++ [c])) : w.ownsRow base 3 1 (.slice (some ⟨g, 0, none⟩) n cap) n xs := by
 have hl := h.1
 rw [List.length_append, List.length_singleton] at hl
 refine ⟨by omega, ?_⟩
 rcases h.2 with ⟨e, _⟩ | ⟨g', c', cur, e, h2, h3, h4, h5, h6, h7⟩
 ·cases e
 ·cases e
  refine .inr ⟨g, cap, cur, rfl, h2, h3, by omega, h5, h6, ?_⟩
  have : (cur.toList.take ((n + 1) * 1)).take (n * 1) = (xs ++ [c]).take (n * 1) := by rw [h7]
  rw [List.take_take, Nat.min_eq_left (by omega)] at this
  rw [this, Nat.mul_one, List.take_left' (by omega)]
structure ReachAt (w : World) (M : SM) (R : List Int × Nat) (mb base f : Nat) (seen next : List Int) (v : Value) (wr : World) : Prop where
 res : M.reachF f seen next = R
 inv : ReachInv seen next f
 seen_ : wr.ownsMap Tryz.prog 3 (plainElem Tryz.prog 3) mb seen.length (seenD seen)
 next_ : wr.ownsRow base 3 1 v next.length (next.map (Value.int .i64))
 wf : ∀ x ∈ next, -9223372036854775808 ≤ x ∧ x ≤ 9223372036854775807
 kept : Kept (fun _ => False) w wr
def ReachRel (w : World) (M : SM) (R : List Int × Nat) (mb base : Nat) (f : Nat) (v : Value) (wr : World) : Prop := f ≤ 2701 ∧ ∃ seen next, ReachAt w M R mb base f seen next v wr
theorem ownsRow.slice {w : World} {base e n : Nat} {v : Value} {xs : List Value} (h : w.ownsRow base e 1 v n xs) : ∃ A cap, v = .slice A n cap ∧ (0 < n → ∃ g, A = some ⟨g, 0, none⟩) ∧ n ≤ cap ∧ cap ≤ maxLen := by
 rcases h.2 with ⟨rfl, rfl⟩ | ⟨g, cap, cur, rfl, _, _, h3, h4, _⟩
 ·exact ⟨none, 0, rfl, fun h => by omega, Nat.le_refl _, Nat.zero_le _⟩
 ·exact ⟨_, cap, rfl, fun _ => ⟨g, rfl⟩, h3, h4⟩
end Go.Proofs.YtidlchciehdefaaGreat
