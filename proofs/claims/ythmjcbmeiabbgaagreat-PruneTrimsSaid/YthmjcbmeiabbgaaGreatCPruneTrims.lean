/-
  PruneTrims: any keys taken out of any tree, at once. No conditions.
-/
import Derived.Test.YthmjcbmeiabbgaaGreatK22
import Derived.Test.YthmjcbmeiabbgaaGreatK24
set_option linter.unusedVariables false
set_option linter.unusedSimpArgs false
namespace Go.Proofs.YthmjcbmeiabbgaaGreat.pruneTrims
open Go.ChangeShapes Go.WideShapes Go.ChangeAt Go.RowKit
set_option maxRecDepth 100000

theorem walk {w : World} (va : Value) (l : List Int) (hl : IntsAt w va l) (vb : Value) (ks : List Int) (hk : IntsAt w vb ks) : Calls Tryz.prog 6 #[va, vb] w fun e w' => e = .returned (.bool true) ∧ Kept (fun _ => False) w w' := walkIn va l hl.val vb ks hk.val
set_option maxRecDepth 100000 in
theorem lifted (os : Os) (started : os.Started) (H : Type) (enc : TypeId × Value → H) :
    ReturnsInHanded {} Tryz.checked os 6 .any (Rows.pruneTrimsSpec.pre6 enc Tryz.prog Tryz.f6 Rows.pruneTrimsRow.domain false) (Rows.pruneTrimsSpec.post enc Tryz.prog Tryz.f6 false true false false) := by
  refine law_lift os started 6 Tryz.f6 Tryz.func6 (by kernel_rfl) Rows.pruneTrimsSpec rfl ?_ rfl (by kernel_rfl)
    (ChangeSpec.witness6 (enc := enc) (C := Tryz.checked) false ⟨#[], #[.slice none 0 0, .slice none 0 0], []⟩ 8 (by kernel_rfl) (by kernel_rfl) (by kernel_rfl) (by kernel_rfl)) ?_
  · intro ds hds
    rw [Tryz.params6] at hds
    match ds, hds with
    | [_, _], _ => rfl
  · intro W base args ds p hval hA
    rw [Tryz.params6] at hA hval
    obtain ⟨v0, vs0, d0, ds0, p0, q0, hargs, rfl, rfl, h0, r0⟩ := trodAll_cons hA
    obtain ⟨v1, vs1, d1, ds1, p1, q1, rfl, rfl, rfl, h1, r1⟩ := trodAll_cons r0
    obtain ⟨rfl, rfl, rfl⟩ := trodAll_nil r1
    obtain rfl : args = #[v0, v1] := by cases args; simp_all
    obtain ⟨a0, w0⟩ := open_ints Tryz.underlying29 Tryz.underlying3 (by kernel_rfl) (hval 0 29 v0 rfl rfl) h0
    obtain ⟨a1, w1⟩ := open_ints Tryz.underlying29 Tryz.underlying3 (by kernel_rfl) (hval 1 29 v1 rfl rfl) h1
    exact (walk v0 a0 w0 v1 a1 w1).mono fun e W' ⟨he, hk⟩ => ⟨he, hk.below (Nat.le_refl _) (fun _ _ h => h)⟩

theorem over : Rows.pruneTrimsRow.holds Tryz.pinned (OpenSpec.ofChange Rows.pruneTrimsSpec) :=
  OpenClaim.holds_of_wide 6 Tryz.f6 rfl rfl rfl rfl rfl rfl rfl ⟨rfl, rfl, rfl, rfl, rfl⟩ rfl rfl rfl rfl rfl (by kernel_rfl) Tryz.func6 (joined_of _ _ _ _ rfl rfl rfl (by kernel_rfl))
    (of_decide_eq_true (by kernel_rfl)) (by unfold Func.isWrapper; rw [if_neg (by decide +kernel)]; exact ⟨rfl, rfl⟩)
    (fun os started H enc _ => lifted os started H enc)

theorem proved : Rows.PruneTrimsSaid := over
#print axioms proved
end Go.Proofs.YthmjcbmeiabbgaaGreat.pruneTrims
