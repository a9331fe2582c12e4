/-
  NodesNames: with no input, the law answers true. No conditions.
-/
import Derived.Test.YthmjcbmeiabbgaaK16
import Derived.Test.YthmjcbmeiabbgaaK18
set_option linter.unusedVariables false
set_option linter.unusedSimpArgs false
namespace Go.Proofs.Ythmjcbmeiabbgaa.nodesNames
open Go.ChangeShapes Go.WideShapes Go.ChangeAt Go.RowKit
set_option maxRecDepth 100000

set_option maxHeartbeats 4000000 in
theorem walk (w : World) : Calls Try.prog 8 #[] w fun e w' => e = .returned (.bool true) ∧ Kept (fun _ => False) w w' := by
  have e1 : Hid ((emptyM 1).get 0 = (.zero, 73)) := Lib.hid rfl
  have e2 : Hid ((emptyM 1).make .zero = (emptyM 1, -1, 81)) := Lib.hid rfl
  have e3 : Hid ((emptyM 1).hold 0 = (emptyM 1, 73)) := Lib.hid rfl
  have e4 : Hid ((emptyM 1).drop 0 = (emptyM 1, 73)) := Lib.hid rfl
  have hm := made09 5 (by decide) (by decide) w
  rw [show (min (5 : Int) 244 - 4).toNat = 1 from by decide] at hm
  have hm' := Lib.hid hm
  obtain ⟨Z, hZ⟩ : ∃ Z, nodeCells NM.zero (.slice none 0 0) = Z := ⟨_, rfl⟩
  have hZz : Hid ((Try.prog.info? 33).map (·.zero) = some (some (.agg Z.toArray))) := Lib.hid (by rw [← hZ]; exact node_zero)
  have hZl : Hid (Z.length = 18) := Lib.hid (by rw [← hZ]; exact nodeCells_len _ _)
  have hbz : Hid (∀ w, (Instr.build 33 #[]).run Try.prog w = .ok (.agg Z.toArray) w) := Lib.hid (fun w => by rw [← hZ]; exact run_build _ _ _ _ (by kernel_rfl))
  have hZ' := Lib.hid hZ
  clear hm hZ
  go_enter Try.func8, Try.ntmps8
  go_wp2_with fail
  refine hm'.out.mono ?_
  rintro e w2 ⟨A, rfl, hO⟩
  have hO2 := Lib.hid hO
  obtain ⟨sb, hsb⟩ : ∃ sb, A.sb = sb := ⟨_, rfl⟩
  have hg := get_any hO.store 0
  rw [e1.out, hsb] at hg
  have hg' := Lib.hid hg
  have hsb' := Lib.hid hsb
  rw [hsb]
  clear hg hsb hO
  go_wp2_with fail
  refine hg'.out.mono ?_
  rintro e w3 ⟨v, rfl, hown, hk3⟩
  obtain ⟨Av, cap, rfl, _⟩ := EntsAt.form (show EntsAt w3 v [] from SliceAt.of_owns hown)
  obtain ⟨F, hF⟩ : ∃ F, nodeCells NM.zero (.slice Av 0 cap) = F := ⟨_, rfl⟩
  have hFl : Hid (F.length = 18) := Lib.hid (by rw [← hF]; exact nodeCells_len _ _)
  have hF1 : Hid (∀ v ∈ F, v.oneCell' = true) := Lib.hid (by rw [← hF]; exact nodeCells_one _ _ _ _)
  obtain ⟨nb, hnb⟩ : ∃ nb, w3.heap.size = nb := ⟨_, rfl⟩
  obtain ⟨w4, hw4⟩ : ∃ w4, (w3.alloc (.cells Z.toArray 33)).setRow nb F.toArray = w4 := ⟨_, rfl⟩
  have k4 : Kept (fun _ => False) w3 w4 := by rw [← hw4]; exact ((Kept.refl _ _).alloc _).setRowNew (by omega) _
  have hO4 := Lib.hid ((hO2.out.fresh hk3).fresh k4)
  have hmk := storeMake (n := .zero) (sv := .slice none 0 0) hO4.out.store ⟨sliceNil (by decide), fun b hb => by simp [Value.ownBlock] at hb⟩ rfl (fun b hb => by rw [List.eq_of_mem_replicate hb]; decide) (by show 0 < 100000000; omega)
  rw [e2.out, hsb'.out, hZ'.out] at hmk
  have hmk' := Lib.hid hmk
  have hw4' := Lib.hid hw4
  have hnb' := Lib.hid hnb
  rw [show nodeCells NM.zero (.slice Av ([] : List (Int × Int)).length cap) = F from hF]
  clear hown hk3 hF hnb hw4 k4 hmk
  go_wp2_with (first | (refine wpList_alloc_as 33 rfl rfl Z.toArray hZz.out ?_; rw [hnb'.out]) | (refine wpList_store_whole 33 rfl rfl rfl F rfl (by rw [hFl.out]; exact node_size) 33 _ (by rw [← hnb'.out]; exact heap_alloc_new _ _) (by simp [hFl.out, hZl.out]) hF1.out ?_; rw [hw4'.out]) | (refine wpList_exec rfl (exec_build 33 #[] _ rfl (by simp) (hbz.out _)) ?_))
  refine hmk'.out.mono ?_
  rintro e w5 ⟨A5, rfl, hT5⟩
  have hO5 := Lib.hid (hO4.out.to hT5)
  have hsb5 := Lib.hid (hT5.sb.trans hsb'.out)
  have hh := storeHold hO5.out.store 0
  rw [e3.out, hsb5.out] at hh
  have hh' := Lib.hid hh
  clear hT5 hh
  go_wp2_with fail
  refine hh'.out.mono ?_
  rintro e w6 ⟨rfl, hT6⟩
  have hO6 := Lib.hid (hO5.out.to hT6)
  have hd := storeDrop hO6.out.store 0
  rw [e4.out, hsb5.out] at hd
  have hd' := Lib.hid hd
  clear hT6 hd
  go_wp2_with fail
  refine hd'.out.mono ?_
  rintro e w7 ⟨rfl, hT7⟩
  have hO7 := Lib.hid (hO6.out.to hT7)
  clear hT7
  go_wp2_with fail
  refine (alive09 _).mono ?_
  rintro e w8 ⟨rfl, hk8⟩
  have hO8 := Lib.hid (hO7.out.fresh hk8)
  clear hk8
  go_wp2_with fail
  refine (nodesSize 3 _ (by decide) (by decide)).mono ?_
  rintro e w9 ⟨rfl, rfl⟩
  go_wp2_with fail
  refine (nodesSize 244 _ (by decide) (by decide)).mono ?_
  rintro e w9 ⟨rfl, rfl⟩
  go_wp2_with fail
  refine (nodesSize 900 _ (by decide) (by decide)).mono ?_
  rintro e w9 ⟨rfl, rfl⟩
  go_wp2_with fail
  go_ret
  exact ⟨rfl, hO8.out.kept⟩
set_option maxRecDepth 100000 in
theorem lifted (os : Os) (started : os.Started) (H : Type) (enc : TypeId × Value → H) :
    ReturnsInHanded {} Try.checked os 8 .any (Rows.nodesNamesSpec.pre6 enc Try.prog Try.f8 Rows.nodesNamesRow.domain false) (Rows.nodesNamesSpec.post enc Try.prog Try.f8 false true false false) := by
  refine law_lift os started 8 Try.f8 Try.func8 (by kernel_rfl) Rows.nodesNamesSpec rfl ?_ rfl (by kernel_rfl)
    (ChangeSpec.witness6 (enc := enc) (C := Try.checked) false ⟨#[], #[], []⟩ 8 (by kernel_rfl) (by kernel_rfl) (by kernel_rfl) (by kernel_rfl)) ?_
  · intro ds hds
    rw [Try.params8] at hds
    match ds, hds with
    | [], _ => rfl
  · intro W base args ds p hval hA
    rw [Try.params8] at hA hval
    obtain ⟨hargs, rfl, rfl⟩ := trodAll_nil hA
    obtain rfl : args = #[] := by cases args; simp_all
    exact (walk  W).mono fun e W' ⟨he, hk⟩ => ⟨he, hk.below (Nat.le_refl _) (fun _ _ h => h)⟩

theorem over : Rows.nodesNamesRow.holds Try.pinned (OpenSpec.ofChange Rows.nodesNamesSpec) :=
  OpenClaim.holds_of_wide 8 Try.f8 rfl rfl rfl rfl rfl rfl rfl ⟨rfl, rfl, rfl, rfl, rfl⟩ rfl rfl rfl rfl rfl (by kernel_rfl) Try.func8 (joined_of _ _ _ _ rfl rfl rfl (by kernel_rfl))
    (of_decide_eq_true (by kernel_rfl)) (by unfold Func.isWrapper; rw [if_neg (by decide +kernel)]; exact ⟨rfl, rfl⟩)
    (fun os started H enc _ => lifted os started H enc)

theorem proved : Rows.NodesNamesSaid := over
#print axioms proved
end Go.Proofs.Ythmjcbmeiabbgaa.nodesNames
