/-
  DeltaCarries: what leads from one image to another carries. No conditions.
-/
import Derived.Test.YtidlchciehdefaaGreatK40
import Derived.Test.YtidlchciehdefaaGreatK44
import Derived.Test.YtidlchciehdefaaGreatK46
set_option linter.unusedVariables false
set_option linter.unusedSimpArgs false
namespace Go.Proofs.YtidlchciehdefaaGreat.deltaCarries
open Go.ChangeShapes Go.WideShapes Go.ChangeAt Go.RowKit
set_option maxRecDepth 100000

theorem walk {w : World} (v : Value) (l : List ItemM) (hl : SliceOf w 18 ItemP v l) (u : Value) (k : List ItemM) (hk : SliceOf w 18 ItemP u k) (size : Int) (_ : -9223372036854775808 ≤ size ∧ size ≤ 9223372036854775807) :
    Calls Tryz.prog 11 #[v, u, .int .i64 size] w fun e w' => e = .returned (.bool true) ∧ Kept (fun _ => False) w w' := carriesWalk v l (items_in hl) (items_ok hl) u k (items_in hk) (items_ok hk) size
set_option maxRecDepth 100000 in
theorem lifted (os : Os) (started : os.Started) (H : Type) (enc : TypeId × Value → H) :
    ReturnsInHanded {} Tryz.checked os 11 .any (Rows.deltaCarriesSpec.pre6 enc Tryz.prog Tryz.f11 Rows.deltaCarriesRow.domain false) (Rows.deltaCarriesSpec.post enc Tryz.prog Tryz.f11 false true false false) := by
  refine law_lift os started 11 Tryz.f11 Tryz.func11 (by kernel_rfl) Rows.deltaCarriesSpec rfl ?_ rfl (by kernel_rfl)
    (ChangeSpec.witness6 (enc := enc) (C := Tryz.checked) false ⟨#[], #[.slice none 0 0, .slice none 0 0, .int .i64 0], []⟩ 8 (by kernel_rfl) (by kernel_rfl) (by kernel_rfl) (by kernel_rfl)) ?_
  · intro ds hds
    rw [Tryz.params11] at hds
    match ds, hds with
    | [_, _, _], _ => rfl
  · intro W base args ds p hval hA
    rw [Tryz.params11] at hA hval
    obtain ⟨v0, vs0, d0, ds0, p0, q0, hargs, rfl, rfl, h0, r0⟩ := trodAll_cons hA
    obtain ⟨v1, vs1, d1, ds1, p1, q1, rfl, rfl, rfl, h1, r1⟩ := trodAll_cons r0
    obtain ⟨v2, vs2, d2, ds2, p2, q2, rfl, rfl, rfl, h2, r2⟩ := trodAll_cons r1
    obtain ⟨rfl, rfl, rfl⟩ := trodAll_nil r2
    obtain rfl : args = #[v0, v1, v2] := by cases args; simp_all
    obtain ⟨a0, w0⟩ := open_items (hval 0 63 v0 rfl rfl) h0
    obtain ⟨a1, w1⟩ := open_items (hval 1 63 v1 rfl rfl) h1
    obtain ⟨a2, rfl, rfl, rfl, w2⟩ := open_int Tryz.underlying3 (hval 2 3 v2 rfl rfl) h2
    exact (walk v0 a0 w0 v1 a1 w1 a2 (wf_i64 w2)).mono fun e W' ⟨he, hk⟩ => ⟨he, hk.below (Nat.le_refl _) (fun _ _ h => h)⟩

theorem over : Rows.deltaCarriesRow.holds Tryz.pinned (OpenSpec.ofChange Rows.deltaCarriesSpec) :=
  OpenClaim.holds_of_wide 11 Tryz.f11 rfl rfl rfl rfl rfl rfl rfl ⟨rfl, rfl, rfl, rfl, rfl⟩ rfl rfl rfl rfl rfl (by kernel_rfl) Tryz.func11 (joined_of _ _ _ _ rfl rfl rfl (by kernel_rfl))
    (of_decide_eq_true (by kernel_rfl)) (by unfold Func.isWrapper; rw [if_neg (by decide +kernel)]; exact ⟨rfl, rfl⟩)
    (fun os started H enc _ => lifted os started H enc)

theorem proved : Rows.DeltaCarriesSaid := over
#print axioms proved
end Go.Proofs.YtidlchciehdefaaGreat.deltaCarries
