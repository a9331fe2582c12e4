/-
  NodesExact: each page is held as often as needed. No conditions.
-/
import Derived.Test.YthmjcbmeiabbgaaK23
set_option linter.unusedVariables false
set_option linter.unusedSimpArgs false
namespace Go.Proofs.Ythmjcbmeiabbgaa.nodesExact
open Go.ChangeShapes Go.WideShapes Go.ChangeAt Go.RowKit
set_option maxRecDepth 100000

theorem walk {w : World} (pages : Int) (_hb : -9223372036854775808 ≤ pages ∧ pages ≤ 9223372036854775807) (va : Value) (al : List ActM) (ha : SliceOf w 19 (ActP w) va al) : Calls Try.prog 11 #[.int .i64 pages, va] w fun e w' => e = .returned (.bool true) ∧ Kept (fun _ => False) w w' := nodesExactWalk pages va al ha
set_option maxRecDepth 100000 in
theorem lifted (os : Os) (started : os.Started) (H : Type) (enc : TypeId × Value → H) :
    ReturnsInHanded {} Try.checked os 11 .any (Rows.nodesExactSpec.pre6 enc Try.prog Try.f11 Rows.nodesExactRow.domain false) (Rows.nodesExactSpec.post enc Try.prog Try.f11 false true false false) := by
  refine law_lift os started 11 Try.f11 Try.func11 (by kernel_rfl) Rows.nodesExactSpec rfl ?_ rfl (by kernel_rfl)
    (ChangeSpec.witness6 (enc := enc) (C := Try.checked) false ⟨#[], #[.int .i64 0, .slice none 0 0], []⟩ 8 (by kernel_rfl) (by kernel_rfl) (by kernel_rfl) (by kernel_rfl)) ?_
  · intro ds hds
    rw [Try.params11] at hds
    match ds, hds with
    | [_, _], _ => rfl
  · intro W base args ds p hval hA
    rw [Try.params11] at hA hval
    obtain ⟨v0, vs0, d0, ds0, p0, q0, hargs, rfl, rfl, h0, r0⟩ := trodAll_cons hA
    obtain ⟨v1, vs1, d1, ds1, p1, q1, rfl, rfl, rfl, h1, r1⟩ := trodAll_cons r0
    obtain ⟨rfl, rfl, rfl⟩ := trodAll_nil r1
    obtain rfl : args = #[v0, v1] := by cases args; simp_all
    obtain ⟨a0, rfl, rfl, rfl, w0⟩ := open_int Try.underlying3 (hval 0 3 v0 rfl rfl) h0
    obtain ⟨a1, w1⟩ := open_acts (hval 1 70 v1 rfl rfl) h1
    exact (walk a0 (wf_i64 w0) v1 a1 w1).mono fun e W' ⟨he, hk⟩ => ⟨he, hk.below (Nat.le_refl _) (fun _ _ h => h)⟩

theorem over : Rows.nodesExactRow.holds Try.pinned (OpenSpec.ofChange Rows.nodesExactSpec) :=
  OpenClaim.holds_of_wide 11 Try.f11 rfl rfl rfl rfl rfl rfl rfl ⟨rfl, rfl, rfl, rfl, rfl⟩ rfl rfl rfl rfl rfl (by kernel_rfl) Try.func11 (joined_of _ _ _ _ rfl rfl rfl (by kernel_rfl))
    (of_decide_eq_true (by kernel_rfl)) (by unfold Func.isWrapper; rw [if_neg (by decide +kernel)]; exact ⟨rfl, rfl⟩)
    (fun os started H enc _ => lifted os started H enc)

theorem proved : Rows.NodesExactSaid := over
#print axioms proved
end Go.Proofs.Ythmjcbmeiabbgaa.nodesExact
