/-
  DeltaBack: there and back. No conditions.
-/
import Derived.Test.YtidlchciehdefaaGreatK40
import Derived.Test.YtidlchciehdefaaGreatK42
import Derived.Test.YtidlchciehdefaaGreatK44
set_option linter.unusedVariables false
set_option linter.unusedSimpArgs false
namespace Go.Proofs.YtidlchciehdefaaGreat.deltaBack
open Go.ChangeShapes Go.WideShapes Go.ChangeAt Go.RowKit
set_option maxRecDepth 100000

theorem walk {w : World} (v : Value) (l : List ItemM) (hl : SliceOf w 18 ItemP v l) (u : Value) (k : List ItemM) (hk : SliceOf w 18 ItemP u k) :
    Calls Tryz.prog 12 #[v, u] w fun e w' => e = .returned (.bool true) ∧ Kept (fun _ => False) w w' := backWalk v l (items_in hl) (items_ok hl) u k (items_in hk) (items_ok hk)
set_option maxRecDepth 100000 in
theorem lifted (os : Os) (started : os.Started) (H : Type) (enc : TypeId × Value → H) :
    ReturnsInHanded {} Tryz.checked os 12 .any (Rows.deltaBackSpec.pre6 enc Tryz.prog Tryz.f12 Rows.deltaBackRow.domain false) (Rows.deltaBackSpec.post enc Tryz.prog Tryz.f12 false true false false) := by
  refine law_lift os started 12 Tryz.f12 Tryz.func12 (by kernel_rfl) Rows.deltaBackSpec rfl ?_ rfl (by kernel_rfl)
    (ChangeSpec.witness6 (enc := enc) (C := Tryz.checked) false ⟨#[], #[.slice none 0 0, .slice none 0 0], []⟩ 8 (by kernel_rfl) (by kernel_rfl) (by kernel_rfl) (by kernel_rfl)) ?_
  · intro ds hds
    rw [Tryz.params12] at hds
    match ds, hds with
    | [_, _], _ => rfl
  · intro W base args ds p hval hA
    rw [Tryz.params12] at hA hval
    obtain ⟨v0, vs0, d0, ds0, p0, q0, hargs, rfl, rfl, h0, r0⟩ := trodAll_cons hA
    obtain ⟨v1, vs1, d1, ds1, p1, q1, rfl, rfl, rfl, h1, r1⟩ := trodAll_cons r0
    obtain ⟨rfl, rfl, rfl⟩ := trodAll_nil r1
    obtain rfl : args = #[v0, v1] := by cases args; simp_all
    obtain ⟨a0, w0⟩ := open_items (hval 0 63 v0 rfl rfl) h0
    obtain ⟨a1, w1⟩ := open_items (hval 1 63 v1 rfl rfl) h1
    exact (walk v0 a0 w0 v1 a1 w1).mono fun e W' ⟨he, hk⟩ => ⟨he, hk.below (Nat.le_refl _) (fun _ _ h => h)⟩

theorem over : Rows.deltaBackRow.holds Tryz.pinned (OpenSpec.ofChange Rows.deltaBackSpec) :=
  OpenClaim.holds_of_wide 12 Tryz.f12 rfl rfl rfl rfl rfl rfl rfl ⟨rfl, rfl, rfl, rfl, rfl⟩ rfl rfl rfl rfl rfl (by kernel_rfl) Tryz.func12 (joined_of _ _ _ _ rfl rfl rfl (by kernel_rfl))
    (of_decide_eq_true (by kernel_rfl)) (by unfold Func.isWrapper; rw [if_neg (by decide +kernel)]; exact ⟨rfl, rfl⟩)
    (fun os started H enc _ => lifted os started H enc)

theorem proved : Rows.DeltaBackSaid := over
#print axioms proved
end Go.Proofs.YtidlchciehdefaaGreat.deltaBack
