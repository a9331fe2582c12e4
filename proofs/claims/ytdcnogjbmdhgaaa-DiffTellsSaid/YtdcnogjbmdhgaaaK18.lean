/-
 Nodes in a store: what can be reached: slices.Clone at ints.
-/
import Derived.Test.YtdcnogjbmdhgaaaK04
import Derived.Test.YtdcnogjbmdhgaaaK09
import Derived.Test.YtdcnogjbmdhgaaaK16
import Derived.Lib.LazyBuf
set_option linter.unusedVariables false
set_option linter.unusedSimpArgs false
namespace Go.Proofs.Ytdcnogjbmdhgaaa
open Go.RowKit
set_option maxRecDepth 100000

end Go.Proofs.Ytdcnogjbmdhgaaa
/-
 Nodes in a store: what can be reached: the map of what was seen; what a round keeps.
-/
namespace Go.Proofs.Ytdcnogjbmdhgaaa
open Go.RowKit Go.Maps Go.Sort
set_option maxRecDepth 100000

noncomputable def leastF (p : Nat → Prop) : Nat := by classical exact if h : ∃ f, p f then Classical.choose (least_ex h) else 0
where
 least_ex {p : Nat → Prop} (h : ∃ f, p f) : ∃ f, p f ∧ ∀ g, p g → f ≤ g := by
  obtain ⟨f, hf⟩ := h
  induction f using Nat.strongRecOn with
  | _ f ih =>
   by_cases hg : ∃ g, g < f ∧ p g
   ·obtain ⟨g, hgf, hg⟩ := hg
    exact ih g hgf hg
   ·exact ⟨f, hf, fun g hpg => Nat.le_of_not_lt fun hlt => hg ⟨g, hlt, hpg⟩⟩
theorem leastF_spec {p : Nat → Prop} (h : ∃ f, p f) : p (leastF p) := by
 unfold leastF
 rw [dif_pos h]
 exact (Classical.choose_spec (leastF.least_ex h)).1
theorem leastF_le {p : Nat → Prop} {f : Nat} (h : p f) : leastF p ≤ f := by
 unfold leastF
 rw [dif_pos ⟨f, h⟩]
 exact (Classical.choose_spec (leastF.least_ex ⟨f, h⟩)).2 f h

theorem least_split {p : Nat → Prop} (h : ∃ f, p f) : ∃ f, leastF p = f ∧ p f := ⟨_, rfl, leastF_spec h⟩
def seenD (seen : List Int) : DataW Unit := Maps.setOf (.lit (.int .i64 1)) (seen.map (Lit.int .i64))
theorem seenD_snoc (seen : List Int) (x : Int) : seenD (seen ++ [x]) = (seenD seen).put (.int .i64 x) (.lit (.int .i64 1)) := by
 unfold seenD
 rw [List.map_append]
 exact Maps.setOf_snoc _ _ _
theorem int_key (x : Int) : WideAt.IsKeyLit (.int .i64 x) := by simp [WideAt.IsKeyLit]
theorem seenD_at (x : Int) (seen : List Int) : (seenD seen).atKey (.int .i64 x) (.lit (.int .i64 0)) = .lit (.int .i64 (if x ∈ seen then 1 else 0)) := by
 have key : ∀ (l : List Int) (m : DataW Unit), IsMap m → (l.foldl (fun m x => m.put (Lit.int .i64 x) (.lit (.int .i64 1))) m).atKey (.int .i64 x) (.lit (.int .i64 0)) = if x ∈ l then .lit (.int .i64 1) else m.atKey (.int .i64 x) (.lit (.int .i64 0)) := by
  intro l
  induction l with
  | nil => intro m _; simp
  | cons y l ih =>
   intro m hm
   rw [List.foldl_cons, ih _ (hm.put _ _)]
   by_cases hl : x ∈ l
   ·rw [if_pos hl, if_pos (List.mem_cons_of_mem _ hl)]
   ·rw [if_neg hl]
    by_cases e : x = y
    ·subst e
     rw [if_pos (List.mem_cons_self ..), atKey_put_same hm (int_key x)]
    ·rw [if_neg (by simp [e, hl]), atKey_put_other (by intro h; injection h with _ h; exact e h)]
 unfold seenD Maps.setOf
 rw [List.foldl_map, key seen _ isMap_empty]
 split <;> rfl
theorem get_ok {w : World} {A : SA} {M : SM} (h : StoreAt w A M) {x : Int} (h0 : (M.get x).2 = 0) : 0 ≤ x ∧ x < 240 ∧ (M.get x).1.ents.length ≤ 6 ∧ ∀ y ∈ (M.get x).1.ents, 0 ≤ y.2 ∧ y.2 < 240 := by
 unfold SM.get at h0 ⊢
 split at h0
 ·rename_i hh
  have hb := heldB_pos hh
  have hs := h.pool.hsize
  rw [if_pos hh]
  cases hn : M.nodeAt x.toNat with
  | none => rw [hn] at h0; cases h0
  | some n =>
   dsimp only
   have hok := nodeAt_ok h hn
   refine ⟨hb.1, by omega, ?_, fun y hy => ⟨(hok.entry hy).2.2.1, (hok.entry hy).2.2.2⟩⟩
   by_cases hk : n.kind = 1
   ·have := hok.1
    unfold NM.rightB at this
    rw [if_pos hk] at this
    simp at this
    rw [this]; exact Nat.zero_le _
   ·exact (innerOk_of hok hk).le
 ·cases h0
theorem ownsMap_kept {w w' : World} {S : Nat → Prop} {k b n : Nat} {R : Value → Option (DataW Unit × List MemPlace)} {D : DataW Unit} (h : w.ownsMap Try.prog k R b n D) (kk : Kept S w w') (hb : ¬ S b) : w'.ownsMap Try.prog k R b n D := by
 obtain ⟨es, clock, h1, F, hs, hD⟩ := h
 exact ⟨es, clock, kk.get h1 hb, F, hs, hD⟩
theorem ownsRow.slice {w : World} {base e n : Nat} {v : Value} {xs : List Value} (h : w.ownsRow base e 1 v n xs) : ∃ A cap, v = .slice A n cap ∧ (0 < n → ∃ g, A = some ⟨g, 0, none⟩) ∧ n ≤ cap ∧ cap ≤ maxLen := by
 rcases h.2 with ⟨rfl, rfl⟩ | ⟨g, cap, cur, rfl, _, _, h3, h4, _⟩
 ·exact ⟨none, 0, rfl, fun h => by omega, Nat.le_refl _, Nat.zero_le _⟩
 ·exact ⟨_, cap, rfl, fun _ => ⟨g, rfl⟩, h3, h4⟩
end Go.Proofs.Ytdcnogjbmdhgaaa
