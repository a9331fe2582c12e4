/-
  ImageNames: blocks that there aren't. No conditions.
-/
import Derived.Test.YtidlchciehdefaaGreatK20
import Derived.Test.YtidlchciehdefaaGreatK22
set_option linter.unusedVariables false
set_option linter.unusedSimpArgs false
namespace Go.Proofs.YtidlchciehdefaaGreat.imageNames
open Go.ChangeShapes Go.WideShapes Go.ChangeAt Go.RowKit
set_option maxRecDepth 100000

set_option maxHeartbeats 8000000 in
theorem walk (w : World) : Calls Tryz.prog 6 #[] w fun e w' => e = .returned (.bool true) ∧ Kept (fun _ => False) w w' := by
  have hm := fun w => made13 20 (by decide) (by decide) w
  rw [show (min (20 : Int) 244 - 4).toNat = 16 from by decide] at hm
  have hm' := Lib.hid hm
  obtain ⟨M, hM⟩ : ∃ M, newM 16 = M := ⟨_, rfl⟩
  rw [hM] at hm'
  have hlog : Hid (M.log.length = 0) := Lib.hid (by rw [← hM]; rfl)
  obtain ⟨Z, hZ⟩ : ∃ Z, blockCells zeros16 = Z := ⟨_, rfl⟩
  have hZb : Hid (byteCells zeros16 = Z) := Lib.hid (by rw [← hZ, blockCells_eq _ rfl])
  have hZz : Hid ((Tryz.prog.info? 35).map (·.zero) = some (some (.agg Z.toArray))) := Lib.hid (by rw [← hZb.out]; exact block_zero)
  have hZl : Hid (Z.length = 16) := Lib.hid (by rw [← hZ]; rfl)
  have hZ1 : Hid (∀ v ∈ Z, v.oneCell' = true) := Lib.hid (by rw [← hZ]; exact blockCells_one _)
  have hbz : Hid (∀ w, (Instr.build 35 #[]).run Tryz.prog w = .ok (.agg Z.toArray) w) := Lib.hid (fun w => by rw [← hZb.out]; exact run_build_block w)
  have hw1 : Hid (M.write (-1) (-1) zeros16 = (M, -1, 101)) := Lib.hid (by unfold SM.write; rw [if_pos (.inl (by decide))])
  have hc1 : Hid (M.clear (-1) [3, 64] = (M, -1, 101)) := Lib.hid (by unfold SM.clear; rw [if_pos ⟨64, by simp, .inr (by decide)⟩])
  have hZe := Lib.hid hZ
  clear hm hZ hM
  go_enter Tryz.func6, Tryz.ntmps6
  go_wp2_with fail
  refine (imageAlive _).mono ?_
  rintro e w0 ⟨rfl, k0⟩
  have k0' := Lib.hid k0
  clear k0
  go_wp2_with fail
  refine (hm'.out _).mono ?_
  rintro e w1 ⟨A, rfl, hA, hk, hn⟩
  obtain ⟨b, hbb⟩ : ∃ b, w1.heap.size = b := ⟨_, rfl⟩
  have hO := ImVar.made (b := b) ⟨hA, hk, hn⟩ hbb
  obtain ⟨w2, hw2⟩ : ∃ w2, (w1.alloc (.cells #[.pointer none] 32)).setRow b #[.pointer (some ⟨A.sb, 0, none⟩)] = w2 := ⟨_, rfl⟩
  rw [hw2] at hO
  obtain ⟨hO2, hV2⟩ := hO
  have O2 := Lib.hid hO2
  have V2 := Lib.hid hV2
  have hw2' := Lib.hid hw2
  have hb' := Lib.hid hbb
  obtain ⟨sb, hsb⟩ : ∃ sb, A.sb = sb := ⟨_, rfl⟩
  have hR := imageRead_bad hO2.store (-1) (key := 64) (by decide)
  rw [hsb, hZb.out] at hR
  have hR' := Lib.hid hR
  rw [hsb] at hw2' V2 ⊢
  have hld2 := Lib.hid V2.out.load
  clear hA hk hn hw2 hbb hO2 hV2 hR
  go_wp2_with (first | (refine wpList_alloc_as 32 rfl rfl #[.pointer none] images_zero ?_; rw [hb'.out]) | (refine wpList_store_whole 32 rfl rfl rfl [.pointer (some ⟨sb, 0, none⟩)] rfl images_size 32 #[.pointer none] (by rw [← hb'.out]; exact heap_alloc_new _ _) rfl (by intro c hc; simp at hc; subst hc; rfl) ?_; rw [hw2'.out]) | (refine wpList_load_agg 32 rfl rfl rfl _ Tryz.underlying32 rfl [.pointer (some ⟨sb, 0, none⟩)] (by kernel_rfl) hld2.out ?_))
  refine hR'.out.mono ?_
  rintro e w3 ⟨rfl, hk3⟩
  have O3 := Lib.hid (O2.out.fresh hk3)
  have V3 := Lib.hid (V2.out.fresh hk3)
  obtain ⟨zb, hzb⟩ : ∃ zb, w3.heap.size = zb := ⟨_, rfl⟩
  obtain ⟨w4, hw4⟩ : ∃ w4, (w3.alloc (.cells Z.toArray 35)).setRow zb Z.toArray = w4 := ⟨_, rfl⟩
  have k4 : Kept (fun _ => False) w3 w4 := by rw [← hw4]; exact ((Kept.refl _ _).alloc _).setRowNew (by omega) _
  have O4 := Lib.hid (O3.out.fresh k4)
  have V4 := Lib.hid (V3.out.fresh k4)
  have hw4' := Lib.hid hw4
  have hzb' := Lib.hid hzb
  have hWr := imageWrite O4.out.store (-1) (-1) (b := zeros16) rfl zeros_ok.2.1 (by have := hlog.out; omega)
  rw [hw1.out, V4.out.eq, hZe.out] at hWr
  dsimp only at hWr
  have hWr' := Lib.hid hWr
  have hld4 := Lib.hid V4.out.load
  clear hk3 k4 hw4 hzb hWr
  go_wp2_with (first | (refine wpList_alloc_as 35 rfl rfl Z.toArray hZz.out ?_; rw [hzb'.out]) | (refine wpList_store_whole 35 rfl rfl rfl Z rfl (by rw [hZl.out]; exact block_size) 35 Z.toArray (by rw [← hzb'.out]; exact heap_alloc_new _ _) (by simp [hZl.out, hZl.out]) hZ1.out ?_; rw [hw4'.out]) | (refine wpList_load_agg 32 rfl rfl rfl _ Tryz.underlying32 rfl [.pointer (some ⟨sb, 0, none⟩)] (by kernel_rfl) hld4.out ?_) | (refine wpList_exec rfl (exec_build 35 #[] _ rfl (by simp [Act.eval]) (hbz.out _)) ?_))
  refine hWr'.out.mono ?_
  rintro e w5 ⟨A5, rfl, hT5⟩
  have O5 := Lib.hid (O4.out.to hT5)
  have V5 := Lib.hid (V4.out.to hT5)
  have kx : Kept (fun _ => False) w5 (w5.alloc (.cells #[.int .i64 3, .int .i64 64] 3)) := (Kept.refl _ _).alloc _
  have hkeys : IntsOff (w5.alloc (.cells #[.int .i64 3, .int .i64 64] 3)) A5 (.slice (some ⟨w5.heap.size, 0, none⟩) 2 2) [3, 64] := ⟨SliceAt.block_new (heap_alloc_new _ _) rfl (by decide), fun _ b hb => by
    simp [Value.ownBlock] at hb
    subst hb
    exact ⟨by simp, fun e => Nat.lt_irrefl _ (O5.out.store.lt (.inl e))⟩⟩
  have hCl := imageClear (O5.out.store.fresh kx) (-1) hkeys (by simp) (by have := hlog.out; omega)
  rw [V5.out.eq, hc1.out] at hCl
  dsimp only at hCl
  have hCl' := Lib.hid hCl
  have hld5 := Lib.hid V5.out.load
  have kx' := Lib.hid kx
  clear hT5 kx hkeys hCl
  go_wp2_with (first | (refine wpList_load_agg 32 rfl rfl rfl _ Tryz.underlying32 rfl [.pointer (some ⟨sb, 0, none⟩)] (by kernel_rfl) hld5.out ?_))
  refine hCl'.out.mono ?_
  rintro e w6 ⟨A6, rfl, hT6⟩
  have O6 := Lib.hid ((O5.out.fresh kx'.out).to hT6)
  have V6 := Lib.hid ((V5.out.fresh kx'.out).to hT6)
  have hCp := imageCopy O6.out.store (-1)
  rw [V6.out.eq, if_pos rfl, if_pos rfl, if_pos rfl] at hCp
  have hCp' := Lib.hid hCp
  have hld6 := Lib.hid V6.out.load
  clear hT6 hCp
  go_wp2_with (first | (refine wpList_load_agg 32 rfl rfl rfl _ Tryz.underlying32 rfl [.pointer (some ⟨sb, 0, none⟩)] (by kernel_rfl) hld6.out ?_))
  refine hCp'.out.mono ?_
  rintro e w7 ⟨rfl, hT7⟩
  have kk : Hid (Kept (fun _ => False) w w7) := Lib.hid (k0'.out.trans (O6.out.to hT7).kept)
  clear hT7
  go_wp2_with fail
  go_ret
  exact ⟨rfl, kk.out⟩
set_option maxRecDepth 100000 in
theorem lifted (os : Os) (started : os.Started) (H : Type) (enc : TypeId × Value → H) :
    ReturnsInHanded {} Tryz.checked os 6 .any (Rows.imageNamesSpec.pre6 enc Tryz.prog Tryz.f6 Rows.imageNamesRow.domain false) (Rows.imageNamesSpec.post enc Tryz.prog Tryz.f6 false true false false) := by
  refine law_lift os started 6 Tryz.f6 Tryz.func6 (by kernel_rfl) Rows.imageNamesSpec rfl ?_ rfl (by kernel_rfl)
    (ChangeSpec.witness6 (enc := enc) (C := Tryz.checked) false ⟨#[], #[], []⟩ 8 (by kernel_rfl) (by kernel_rfl) (by kernel_rfl) (by kernel_rfl)) ?_
  · intro ds hds
    rw [Tryz.params6] at hds
    match ds, hds with
    | [], _ => rfl
  · intro W base args ds p hval hA
    rw [Tryz.params6] at hA hval
    obtain ⟨hargs, rfl, rfl⟩ := trodAll_nil hA
    obtain rfl : args = #[] := by cases args; simp_all
    exact (walk  W).mono fun e W' ⟨he, hk⟩ => ⟨he, hk.below (Nat.le_refl _) (fun _ _ h => h)⟩

theorem over : Rows.imageNamesRow.holds Tryz.pinned (OpenSpec.ofChange Rows.imageNamesSpec) :=
  OpenClaim.holds_of_wide 6 Tryz.f6 rfl rfl rfl rfl rfl rfl rfl ⟨rfl, rfl, rfl, rfl, rfl⟩ rfl rfl rfl rfl rfl (by kernel_rfl) Tryz.func6 (joined_of _ _ _ _ rfl rfl rfl (by kernel_rfl))
    (of_decide_eq_true (by kernel_rfl)) (by unfold Func.isWrapper; rw [if_neg (by decide +kernel)]; exact ⟨rfl, rfl⟩)
    (fun os started H enc _ => lifted os started H enc)

theorem proved : Rows.ImageNamesSaid := over
#print axioms proved
end Go.Proofs.YtidlchciehdefaaGreat.imageNames
