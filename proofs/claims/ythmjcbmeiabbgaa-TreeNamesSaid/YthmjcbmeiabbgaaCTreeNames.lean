/-
  TreeNames: with no input, the law answers true. No conditions.
-/
import Derived.Test.YthmjcbmeiabbgaaK16
import Derived.Test.YthmjcbmeiabbgaaK18
set_option linter.unusedVariables false
set_option linter.unusedSimpArgs false
namespace Go.Proofs.Ythmjcbmeiabbgaa.treeNames
open Go.ChangeShapes Go.WideShapes Go.ChangeAt Go.RowKit
set_option maxRecDepth 100000

set_option maxHeartbeats 4000000 in
theorem walk (w : World) : Calls Try.prog 5 #[] w fun e w' => e = .returned (.bool true) ∧ Kept (fun _ => False) w w' := by
  have e1 : Hid ((madeM 16 9).put (-1) 64 0 = (madeM 16 9, -1, 101)) := Lib.hid rfl
  have e2 : Hid ((madeM 16 9).put (-1) (-1) 0 = (madeM 16 9, -1, 101)) := Lib.hid rfl
  have e3 : Hid ((madeM 16 9).list (-1) = ([], 0)) := Lib.hid rfl
  have e4 : Hid ((madeM 16 9).height (-1) = (0, 0)) := Lib.hid rfl
  have e5 : Hid ((madeM 16 9).find (-1) 3 = (-1, 0)) := Lib.hid rfl
  have hm := fun w => made10 20 (by decide) (by decide) w
  rw [show (min (20 : Int) 244 - 4).toNat = 16 from by decide] at hm
  have hm' := Lib.hid hm
  clear hm
  go_enter Try.func5, Try.ntmps5
  go_wp2_with fail
  refine (alive10 _).mono ?_
  rintro e w1 ⟨rfl, k1⟩
  have k1' := Lib.hid k1
  clear k1
  go_wp2_with fail
  refine (hm'.out _).mono ?_
  rintro e w2 ⟨A, rfl, hA, hk, hn⟩
  obtain ⟨b, hb⟩ : ∃ b, w2.heap.size = b := ⟨_, rfl⟩
  have hO := TreeVar.made (b := b) ⟨hA, hk, hn⟩ hb
  obtain ⟨w3, hw3⟩ : ∃ w3, (w2.alloc (.cells #[.pointer none] 26)).setRow b #[.pointer (some ⟨A.sb, 0, none⟩)] = w3 := ⟨_, rfl⟩
  rw [hw3] at hO
  obtain ⟨hO3, hT3⟩ := hO
  have hO3 := Lib.hid hO3
  have hT3 := Lib.hid hT3
  have hw3' := Lib.hid hw3
  have hb' := Lib.hid hb
  obtain ⟨sb, hsb⟩ : ∃ sb, A.sb = sb := ⟨_, rfl⟩
  have hP := treePut hO3.out.store (-1) 64 0 (by show 1 + 30 < 100000000; omega)
  rw [e1.out, hsb] at hP
  have hP' := Lib.hid hP
  rw [hsb] at hw3' hT3 ⊢
  clear hA hk hn hw3 hb hP
  go_wp2_with (first | (refine wpList_alloc_as 26 rfl rfl #[.pointer none] tree_zero ?_; rw [hb'.out]) | (refine wpList_store_whole 26 rfl rfl rfl [.pointer (some ⟨sb, 0, none⟩)] rfl (by kernel_rfl) 26 #[.pointer none] (by rw [← hb'.out]; exact heap_alloc_new _ _) rfl (by intro c hc; simp at hc; subst hc; rfl) ?_; rw [hw3'.out]) | (refine wpList_load_agg 26 rfl rfl rfl _ Try.underlying26 rfl [.pointer (some ⟨sb, 0, none⟩)] (by kernel_rfl) hT3.out.load ?_))
  refine hP'.out.mono ?_
  rintro e w4 ⟨A4, rfl, hT4⟩
  have hO4 := Lib.hid (hO3.out.to hT4)
  have hV4 := Lib.hid (hT3.out.to hT4)
  have hP := treePut hO4.out.store (-1) (-1) 0 (by show 1 + 30 < 100000000; omega)
  rw [e2.out, hV4.out.eq] at hP
  have hP' := Lib.hid hP
  clear hT4 hP
  go_wp2_with (first | (refine wpList_load_agg 26 rfl rfl rfl _ Try.underlying26 rfl [.pointer (some ⟨sb, 0, none⟩)] (by kernel_rfl) hV4.out.load ?_))
  refine hP'.out.mono ?_
  rintro e w5 ⟨A5, rfl, hT5⟩
  have hO5 := Lib.hid (hO4.out.to hT5)
  have hV5 := Lib.hid (hV4.out.to hT5)
  have hL := treeList hO5.out.store (-1)
  rw [e3.out, hV5.out.eq] at hL
  have hL' := Lib.hid hL
  clear hT5 hL
  go_wp2_with (first | (refine wpList_load_agg 26 rfl rfl rfl _ Try.underlying26 rfl [.pointer (some ⟨sb, 0, none⟩)] (by kernel_rfl) hV5.out.load ?_))
  refine hL'.out.mono ?_
  rintro e w6 ⟨v, rfl, hown, hk6⟩
  obtain ⟨Av, cap, rfl, _⟩ := EntsAt.form (show EntsAt w6 v [] from SliceAt.of_owns hown)
  have hO6 := Lib.hid (hO5.out.fresh hk6)
  have hV6 := Lib.hid (hV5.out.fresh hk6)
  have hF := treeHeight hO6.out.store (-1)
  rw [e4.out, hV6.out.eq] at hF
  have hF' := Lib.hid hF
  clear hk6 hF hown
  go_wp2_with (first | (refine wpList_load_agg 26 rfl rfl rfl _ Try.underlying26 rfl [.pointer (some ⟨sb, 0, none⟩)] (by kernel_rfl) hV6.out.load ?_))
  refine hF'.out.mono ?_
  rintro e w7 ⟨rfl, hk7⟩
  have hO7 := Lib.hid (hO6.out.fresh hk7)
  have hV7 := Lib.hid (hV6.out.fresh hk7)
  have hF := treeFind hO7.out.store (-1) 3
  rw [e5.out, hV7.out.eq] at hF
  have hF' := Lib.hid hF
  clear hk7 hF
  go_wp2_with (first | (refine wpList_load_agg 26 rfl rfl rfl _ Try.underlying26 rfl [.pointer (some ⟨sb, 0, none⟩)] (by kernel_rfl) hV7.out.load ?_))
  refine hF'.out.mono ?_
  rintro e w8 ⟨rfl, hk8⟩
  have hO8 := Lib.hid (hO7.out.fresh hk8)
  clear hk8
  go_wp2_with fail
  go_ret
  exact ⟨rfl, k1'.out.trans hO8.out.kept⟩
set_option maxRecDepth 100000 in
theorem lifted (os : Os) (started : os.Started) (H : Type) (enc : TypeId × Value → H) :
    ReturnsInHanded {} Try.checked os 5 .any (Rows.treeNamesSpec.pre6 enc Try.prog Try.f5 Rows.treeNamesRow.domain false) (Rows.treeNamesSpec.post enc Try.prog Try.f5 false true false false) := by
  refine law_lift os started 5 Try.f5 Try.func5 (by kernel_rfl) Rows.treeNamesSpec rfl ?_ rfl (by kernel_rfl)
    (ChangeSpec.witness6 (enc := enc) (C := Try.checked) false ⟨#[], #[], []⟩ 8 (by kernel_rfl) (by kernel_rfl) (by kernel_rfl) (by kernel_rfl)) ?_
  · intro ds hds
    rw [Try.params5] at hds
    match ds, hds with
    | [], _ => rfl
  · intro W base args ds p hval hA
    rw [Try.params5] at hA hval
    obtain ⟨hargs, rfl, rfl⟩ := trodAll_nil hA
    obtain rfl : args = #[] := by cases args; simp_all
    exact (walk  W).mono fun e W' ⟨he, hk⟩ => ⟨he, hk.below (Nat.le_refl _) (fun _ _ h => h)⟩

theorem over : Rows.treeNamesRow.holds Try.pinned (OpenSpec.ofChange Rows.treeNamesSpec) :=
  OpenClaim.holds_of_wide 5 Try.f5 rfl rfl rfl rfl rfl rfl rfl ⟨rfl, rfl, rfl, rfl, rfl⟩ rfl rfl rfl rfl rfl (by kernel_rfl) Try.func5 (joined_of _ _ _ _ rfl rfl rfl (by kernel_rfl))
    (of_decide_eq_true (by kernel_rfl)) (by unfold Func.isWrapper; rw [if_neg (by decide +kernel)]; exact ⟨rfl, rfl⟩)
    (fun os started H enc _ => lifted os started H enc)

theorem proved : Rows.TreeNamesSaid := over
#print axioms proved
end Go.Proofs.Ythmjcbmeiabbgaa.treeNames
