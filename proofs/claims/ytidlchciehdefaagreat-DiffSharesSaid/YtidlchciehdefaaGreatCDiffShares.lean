/-
  DiffShares: what is shared isn't looked at. No conditions.
-/
import Derived.Test.YtidlchciehdefaaGreatK29
import Derived.Test.YtidlchciehdefaaGreatK33
import Derived.Test.YtidlchciehdefaaGreatK35
set_option linter.unusedVariables false
set_option linter.unusedSimpArgs false
namespace Go.Proofs.YtidlchciehdefaaGreat.diffShares
open Go.ChangeShapes Go.WideShapes Go.ChangeAt Go.RowKit
set_option maxRecDepth 100000

theorem walk {w : World} (v : Value) (l : List (Int × Int)) (hl : PairsAt w v l) (c : Int × Int) :
    Calls Tryz.prog 14 #[v, .agg #[.int .i64 c.1, .int .i64 c.2]] w fun e w' => e = .returned (.bool true) ∧ Kept (fun _ => False) w w' := sharesWalk v l (pairs_ents hl) c
set_option maxRecDepth 100000 in
theorem lifted (os : Os) (started : os.Started) (H : Type) (enc : TypeId × Value → H) :
    ReturnsInHanded {} Tryz.checked os 14 .any (Rows.diffSharesSpec.pre6 enc Tryz.prog Tryz.f14 Rows.diffSharesRow.domain false) (Rows.diffSharesSpec.post enc Tryz.prog Tryz.f14 false true false false) := by
  refine law_lift os started 14 Tryz.f14 Tryz.func14 (by kernel_rfl) Rows.diffSharesSpec rfl ?_ rfl (by kernel_rfl)
    (ChangeSpec.witness6 (enc := enc) (C := Tryz.checked) false ⟨#[], #[.slice none 0 0, .agg #[.int .i64 0, .int .i64 0]], []⟩ 8 (by kernel_rfl) (by kernel_rfl) (by kernel_rfl) (by kernel_rfl)) ?_
  · intro ds hds
    rw [Tryz.params14] at hds
    match ds, hds with
    | [_, _], _ => rfl
  · intro W base args ds p hval hA
    rw [Tryz.params14] at hA hval
    obtain ⟨v0, vs0, d0, ds0, p0, q0, hargs, rfl, rfl, h0, r0⟩ := trodAll_cons hA
    obtain ⟨v1, vs1, d1, ds1, p1, q1, rfl, rfl, rfl, h1, r1⟩ := trodAll_cons r0
    obtain ⟨rfl, rfl, rfl⟩ := trodAll_nil r1
    obtain rfl : args = #[v0, v1] := by cases args; simp_all
    obtain ⟨a0, w0⟩ := open_pairs Tryz.underlying87 Tryz.underlying92 rfl rfl rfl Tryz.underlying3 Tryz.underlying3 (by kernel_rfl) (by kernel_rfl) (by kernel_rfl) (hval 0 87 v0 rfl rfl) h0
    obtain ⟨a1, rfl, w1⟩ := open_change (hval 1 92 v1 rfl rfl) h1
    exact (walk v0 a0 w0 a1).mono fun e W' ⟨he, hk⟩ => ⟨he, hk.below (Nat.le_refl _) (fun _ _ h => h)⟩

theorem over : Rows.diffSharesRow.holds Tryz.pinned (OpenSpec.ofChange Rows.diffSharesSpec) :=
  OpenClaim.holds_of_wide 14 Tryz.f14 rfl rfl rfl rfl rfl rfl rfl ⟨rfl, rfl, rfl, rfl, rfl⟩ rfl rfl rfl rfl rfl (by kernel_rfl) Tryz.func14 (joined_of _ _ _ _ rfl rfl rfl (by kernel_rfl))
    (of_decide_eq_true (by kernel_rfl)) (by unfold Func.isWrapper; rw [if_neg (by decide +kernel)]; exact ⟨rfl, rfl⟩)
    (fun os started H enc _ => lifted os started H enc)

theorem proved : Rows.DiffSharesSaid := over
#print axioms proved
end Go.Proofs.YtidlchciehdefaaGreat.diffShares
