/-
  ImageSums: the same blocks, the same sum. No conditions.
-/
import Derived.Test.YtidlchciehdefaaGreatK21
import Derived.Test.YtidlchciehdefaaGreatK23
set_option linter.unusedVariables false
set_option linter.unusedSimpArgs false
namespace Go.Proofs.YtidlchciehdefaaGreat.imageSums
open Go.ChangeShapes Go.WideShapes Go.ChangeAt Go.RowKit
set_option maxRecDepth 100000

theorem walk {w : World} (va : Value) (l : List ActI) (hl : SliceOf w 20 (ActIP w) va l) (key : Int) (_hb : -9223372036854775808 ≤ key ∧ key ≤ 9223372036854775807) (bl : List Nat) (h16 : bl.length = 16) (h256 : ∀ c ∈ bl, c < 256) : Calls Tryz.prog 4 #[va, .int .i64 key, .agg (blockCells bl).toArray] w fun e w' => e = .returned (.bool true) ∧ Kept (fun _ => False) w w' := walkIn va l (acts_in hl) key bl h16 h256
set_option maxRecDepth 100000 in
theorem lifted (os : Os) (started : os.Started) (H : Type) (enc : TypeId × Value → H) :
    ReturnsInHanded {} Tryz.checked os 4 .any (Rows.imageSumsSpec.pre6 enc Tryz.prog Tryz.f4 Rows.imageSumsRow.domain false) (Rows.imageSumsSpec.post enc Tryz.prog Tryz.f4 false true false false) := by
  refine law_lift os started 4 Tryz.f4 Tryz.func4 (by kernel_rfl) Rows.imageSumsSpec rfl ?_ rfl (by kernel_rfl)
    (ChangeSpec.witness6 (enc := enc) (C := Tryz.checked) false ⟨#[], #[.slice none 0 0, .int .i64 0, .agg (Array.replicate 16 (.int .u8 0))], []⟩ 8 (by kernel_rfl) (by kernel_rfl) (by kernel_rfl) (by kernel_rfl)) ?_
  · intro ds hds
    rw [Tryz.params4] at hds
    match ds, hds with
    | [_, _, _], _ => rfl
  · intro W base args ds p hval hA
    rw [Tryz.params4] at hA hval
    obtain ⟨v0, vs0, d0, ds0, p0, q0, hargs, rfl, rfl, h0, r0⟩ := trodAll_cons hA
    obtain ⟨v1, vs1, d1, ds1, p1, q1, rfl, rfl, rfl, h1, r1⟩ := trodAll_cons r0
    obtain ⟨v2, vs2, d2, ds2, p2, q2, rfl, rfl, rfl, h2, r2⟩ := trodAll_cons r1
    obtain ⟨rfl, rfl, rfl⟩ := trodAll_nil r2
    obtain rfl : args = #[v0, v1, v2] := by cases args; simp_all
    obtain ⟨a0, w0⟩ := open_actsI (hval 0 22 v0 rfl rfl) h0
    obtain ⟨a1, rfl, rfl, rfl, w1⟩ := open_int Tryz.underlying3 (hval 1 3 v1 rfl rfl) h1
    obtain ⟨a2, rfl, y2, z2⟩ := open_block (hval 2 35 v2 rfl rfl) h2
    exact (walk v0 a0 w0 a1 (wf_i64 w1) a2 y2 z2).mono fun e W' ⟨he, hk⟩ => ⟨he, hk.below (Nat.le_refl _) (fun _ _ h => h)⟩

theorem over : Rows.imageSumsRow.holds Tryz.pinned (OpenSpec.ofChange Rows.imageSumsSpec) :=
  OpenClaim.holds_of_wide 4 Tryz.f4 rfl rfl rfl rfl rfl rfl rfl ⟨rfl, rfl, rfl, rfl, rfl⟩ rfl rfl rfl rfl rfl (by kernel_rfl) Tryz.func4 (joined_of _ _ _ _ rfl rfl rfl (by kernel_rfl))
    (of_decide_eq_true (by kernel_rfl)) (by unfold Func.isWrapper; rw [if_neg (by decide +kernel)]; exact ⟨rfl, rfl⟩)
    (fun os started H enc _ => lifted os started H enc)

theorem proved : Rows.ImageSumsSaid := over
#print axioms proved
end Go.Proofs.YtidlchciehdefaaGreat.imageSums
