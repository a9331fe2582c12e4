/-
  DeltaApplies: items on an image, all or none. No conditions.
-/
import Derived.Test.YtidlchciehdefaaGreatK42
import Derived.Test.YtidlchciehdefaaGreatK44
import Derived.Test.YtidlchciehdefaaGreatK46
set_option linter.unusedVariables false
set_option linter.unusedSimpArgs false
namespace Go.Proofs.YtidlchciehdefaaGreat.deltaApplies
open Go.ChangeShapes Go.WideShapes Go.ChangeAt Go.RowKit
set_option maxRecDepth 100000

theorem walk {w : World} (pages : Int) (_ : -9223372036854775808 ≤ pages ∧ pages ≤ 9223372036854775807) (v : Value) (l : List ItemM) (hl : SliceOf w 18 ItemP v l) (u : Value) (k : List ItemM) (hk : SliceOf w 18 ItemP u k) :
    Calls Tryz.prog 10 #[.int .i64 pages, v, u] w fun e w' => e = .returned (.bool true) ∧ Kept (fun _ => False) w w' := appliesWalk pages v l (items_in hl) (items_ok hl) u k (items_in hk) (items_ok hk)
set_option maxRecDepth 100000 in
theorem lifted (os : Os) (started : os.Started) (H : Type) (enc : TypeId × Value → H) :
    ReturnsInHanded {} Tryz.checked os 10 .any (Rows.deltaAppliesSpec.pre6 enc Tryz.prog Tryz.f10 Rows.deltaAppliesRow.domain false) (Rows.deltaAppliesSpec.post enc Tryz.prog Tryz.f10 false true false false) := by
  refine law_lift os started 10 Tryz.f10 Tryz.func10 (by kernel_rfl) Rows.deltaAppliesSpec rfl ?_ rfl (by kernel_rfl)
    (ChangeSpec.witness6 (enc := enc) (C := Tryz.checked) false ⟨#[], #[.int .i64 0, .slice none 0 0, .slice none 0 0], []⟩ 8 (by kernel_rfl) (by kernel_rfl) (by kernel_rfl) (by kernel_rfl)) ?_
  · intro ds hds
    rw [Tryz.params10] at hds
    match ds, hds with
    | [_, _, _], _ => rfl
  · intro W base args ds p hval hA
    rw [Tryz.params10] at hA hval
    obtain ⟨v0, vs0, d0, ds0, p0, q0, hargs, rfl, rfl, h0, r0⟩ := trodAll_cons hA
    obtain ⟨v1, vs1, d1, ds1, p1, q1, rfl, rfl, rfl, h1, r1⟩ := trodAll_cons r0
    obtain ⟨v2, vs2, d2, ds2, p2, q2, rfl, rfl, rfl, h2, r2⟩ := trodAll_cons r1
    obtain ⟨rfl, rfl, rfl⟩ := trodAll_nil r2
    obtain rfl : args = #[v0, v1, v2] := by cases args; simp_all
    obtain ⟨a0, rfl, rfl, rfl, w0⟩ := open_int Tryz.underlying3 (hval 0 3 v0 rfl rfl) h0
    obtain ⟨a1, w1⟩ := open_items (hval 1 63 v1 rfl rfl) h1
    obtain ⟨a2, w2⟩ := open_items (hval 2 63 v2 rfl rfl) h2
    exact (walk a0 (wf_i64 w0) v1 a1 w1 v2 a2 w2).mono fun e W' ⟨he, hk⟩ => ⟨he, hk.below (Nat.le_refl _) (fun _ _ h => h)⟩

theorem over : Rows.deltaAppliesRow.holds Tryz.pinned (OpenSpec.ofChange Rows.deltaAppliesSpec) :=
  OpenClaim.holds_of_wide 10 Tryz.f10 rfl rfl rfl rfl rfl rfl rfl ⟨rfl, rfl, rfl, rfl, rfl⟩ rfl rfl rfl rfl rfl (by kernel_rfl) Tryz.func10 (joined_of _ _ _ _ rfl rfl rfl (by kernel_rfl))
    (of_decide_eq_true (by kernel_rfl)) (by unfold Func.isWrapper; rw [if_neg (by decide +kernel)]; exact ⟨rfl, rfl⟩)
    (fun os started H enc _ => lifted os started H enc)

theorem proved : Rows.DeltaAppliesSaid := over
#print axioms proved
end Go.Proofs.YtidlchciehdefaaGreat.deltaApplies
