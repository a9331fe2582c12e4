/-
  DeltaNames: the error and the limit have their numbers; items that can't be. No conditions.
-/
import Derived.Test.YtidlchciehdefaaGreatK37
import Derived.Test.YtidlchciehdefaaGreatK42
set_option linter.unusedVariables false
set_option linter.unusedSimpArgs false
namespace Go.Proofs.YtidlchciehdefaaGreat.deltaNames
open Go.ChangeShapes Go.WideShapes Go.ChangeAt Go.RowKit
set_option maxRecDepth 100000

def bad1 : List ItemM := [⟨64, true, zeros16⟩]
def bad2 : List ItemM := [⟨3, false, blk 1⟩]
theorem bad1_ok : ∀ x ∈ bad1, x.ok := by
  intro x hx
  simp only [bad1, List.mem_cons, List.not_mem_nil, or_false] at hx
  subst hx
  exact ⟨zeros_ok.1, zeros_ok.2.1⟩
theorem bad2_ok : ∀ x ∈ bad2, x.ok := by
  intro x hx
  simp only [bad2, List.mem_cons, List.not_mem_nil, or_false] at hx
  subst hx
  exact ⟨blk_len 1, blk_lt (by decide)⟩
set_option maxHeartbeats 8000000 in
theorem walk (w : World) : Calls Tryz.prog 7 #[] w fun e w' => e = .returned (.bool true) ∧ Kept (fun _ => False) w w' := by
  have hm := fun w => made17 60 (by decide) (by decide) w
  rw [show (min (60 : Int) 244 - 4).toNat = 56 from by decide] at hm
  have hm' := Lib.hid hm
  have hW' := Lib.hid (del_bad (xs := bad1) (by decide) (newM 56) (-1))
  have hV' := Lib.hid (del_bad (xs := bad2) (by decide) (newM 56) (-1))
  obtain ⟨C1, hC1⟩ : ∃ C, blockCells (blk 1) = C := ⟨_, rfl⟩
  obtain ⟨X1, hX1⟩ : ∃ X, itemCells ⟨64, true, zeros16⟩ = X := ⟨_, rfl⟩
  obtain ⟨X2, hX2⟩ : ∃ X, itemCells ⟨3, false, blk 1⟩ = X := ⟨_, rfl⟩
  have bc1 : Hid (∀ w, (Instr.build 35 #[(0, .int .u8 1)]).run Tryz.prog w = .ok (.agg C1.toArray) w) := Lib.hid (fun w => by rw [← hC1]; exact run_build _ _ _ _ (by kernel_rfl))
  have bx1 : Hid (∀ w, (Instr.build 61 #[(0, .int .i64 64), (1, .bool true)]).run Tryz.prog w = .ok (.agg X1.toArray) w) := Lib.hid (fun w => by rw [← hX1]; exact run_build _ _ _ _ (by kernel_rfl))
  have bx2 : Hid (∀ w, (Instr.build 61 #[(0, .int .i64 3), (2, .agg C1.toArray)]).run Tryz.prog w = .ok (.agg X2.toArray) w) := Lib.hid (fun w => by rw [← hX2, ← hC1]; exact run_build _ _ _ _ (by kernel_rfl))
  have l1 : Hid (X1.length = 18) := Lib.hid (by rw [← hX1]; exact itemCells_len _)
  have l2 : Hid (X2.length = 18) := Lib.hid (by rw [← hX2]; exact itemCells_len _)
  have hX : Hid (bad1.flatMap itemCells = X1) := Lib.hid (by rw [← hX1]; simp [bad1])
  have hY : Hid (bad2.flatMap itemCells = X2) := Lib.hid (by rw [← hX2]; simp [bad2])
  have hCh := fun w => deltaChunks 0 3 (by decide) (by decide) w
  rw [show chunksI 0 3 = 1 by decide] at hCh
  have hCi := fun w => deltaChunks (-5) 0 (by decide) (by decide) w
  rw [show chunksI (-5) 0 = 1 by decide] at hCi
  have hCh' := Lib.hid hCh
  have hCi' := Lib.hid hCi
  clear hm hC1 hX1 hX2 hCh hCi
  go_enter Tryz.func7, Tryz.ntmps7
  go_wp2_with fail
  refine (hm'.out _).mono ?_
  rintro e w1 ⟨A, rfl, hA, hk, hn⟩
  obtain ⟨vb, hvb⟩ : ∃ vb, w1.heap.size = vb := ⟨_, rfl⟩
  have hO := ImVar.made (b := vb) ⟨hA, hk, hn⟩ hvb
  obtain ⟨w2, hw2⟩ : ∃ w2, (w1.alloc (.cells #[.pointer none] 32)).setRow vb #[.pointer (some ⟨A.sb, 0, none⟩)] = w2 := ⟨_, rfl⟩
  rw [hw2] at hO
  obtain ⟨hO2, hV2⟩ := hO
  have O2 := Lib.hid hO2
  have V2 := Lib.hid hV2
  have hw2' := Lib.hid hw2
  have hvb' := Lib.hid hvb
  obtain ⟨sb, hsb⟩ : ∃ sb, A.sb = sb := ⟨_, rfl⟩
  obtain ⟨w3, hw3⟩ : ∃ w3, w2.alloc (.cells X1.toArray 61) = w3 := ⟨_, rfl⟩
  have k3 : Kept (fun _ => False) w2 w3 := by rw [← hw3]; exact (Kept.refl _ _).alloc _
  have hAp := deltaApply (hO2.store.fresh k3) (-1) (v := .slice (some ⟨w2.heap.size, 0, none⟩) 1 1) (l := bad1) (by rw [← hw3]; exact items_lit hO2.store hX.out (by decide) rfl) (by decide) bad1_ok (by show 0 + 200000 < 100000000; omega)
  rw [hW'.out, hsb] at hAp
  dsimp only at hAp
  have hAp' := Lib.hid hAp
  have O3 := Lib.hid (O2.out.fresh k3)
  have V3 := Lib.hid (V2.out.fresh k3)
  have hw3' := Lib.hid hw3
  rw [hsb] at hw2' V2 V3 ⊢
  have hld2 := Lib.hid V2.out.load
  clear hA hk hn hw2 hvb hO2 hV2 hAp hw3 k3
  go_wp2_with (first | (refine wpList_alloc_as 32 rfl rfl #[.pointer none] images_zero ?_; rw [hvb'.out]) | (refine wpList_store_whole 32 rfl rfl rfl [.pointer (some ⟨sb, 0, none⟩)] rfl images_size 32 #[.pointer none] (by rw [← hvb'.out]; exact heap_alloc_new _ _) rfl (by intro c hc; simp at hc; subst hc; rfl) ?_; rw [hw2'.out]) | (refine wpList_load_agg 32 rfl rfl rfl _ Tryz.underlying32 rfl [.pointer (some ⟨sb, 0, none⟩)] (by kernel_rfl) hld2.out ?_) | (refine wpList_exec rfl (exec_build 61 #[(0, .const (.int .i64 64)), (1, .const (.bool true))] _ rfl (by simp [Act.eval]) (bx1.out _)) ?_) | (refine wpList_exec rfl (exec_buildSlice 63 1 #[(0, .tmp 9)] #[(0, .agg X1.toArray)] rfl (by simp [Act.eval, Act.put]) (run_buildSlice_item _ l1.out)) ?_; rw [hw3'.out]))
  refine hAp'.out.mono ?_
  rintro e w4 ⟨A4, rfl, hT4⟩
  have O4 := Lib.hid (O3.out.to hT4)
  have V4 := Lib.hid (V3.out.to hT4)
  obtain ⟨w5, hw5⟩ : ∃ w5, w4.alloc (.cells X2.toArray 61) = w5 := ⟨_, rfl⟩
  have k5 : Kept (fun _ => False) w4 w5 := by rw [← hw5]; exact (Kept.refl _ _).alloc _
  have hAq := deltaApply (O4.out.store.fresh k5) (-1) (v := .slice (some ⟨w4.heap.size, 0, none⟩) 1 1) (l := bad2) (by rw [← hw5]; exact items_lit O4.out.store hY.out (by decide) rfl) (by decide) bad2_ok (by show 0 + 200000 < 100000000; omega)
  rw [hV'.out, V4.out.eq] at hAq
  dsimp only at hAq
  have hAq' := Lib.hid hAq
  have O5 := Lib.hid (O4.out.fresh k5)
  have hld4 := Lib.hid V4.out.load
  have hw5' := Lib.hid hw5
  clear hT4 hAq hw5 k5
  go_wp2_with (first | (refine wpList_load_agg 32 rfl rfl rfl _ Tryz.underlying32 rfl [.pointer (some ⟨sb, 0, none⟩)] (by kernel_rfl) hld4.out ?_) | (refine wpList_exec rfl (exec_build 35 #[(0, .const (.int .u8 1))] _ rfl (by simp [Act.eval]) (bc1.out _)) ?_) | (refine wpList_exec rfl (exec_build 61 #[(0, .const (.int .i64 3)), (2, .tmp 16)] #[(0, .int .i64 3), (2, .agg C1.toArray)] rfl (by simp [Act.eval, Act.put]) (bx2.out _)) ?_) | (refine wpList_exec rfl (exec_buildSlice 63 1 #[(0, .tmp 17)] #[(0, .agg X2.toArray)] rfl (by simp [Act.eval, Act.put]) (run_buildSlice_item _ l2.out)) ?_; rw [hw5'.out]))
  refine hAq'.out.mono ?_
  rintro e w6 ⟨A6, rfl, hT6⟩
  have O6 := Lib.hid (O5.out.to hT6)
  clear hT6
  go_wp2_with fail
  refine (deltaAlive _).mono ?_
  rintro e w7 ⟨rfl, k7⟩
  have K7 := Lib.hid (O6.out.kept.trans k7)
  clear k7
  go_wp2_with fail
  refine (hCh'.out _).mono ?_
  rintro e w8 ⟨rfl, k8⟩
  have K8 := Lib.hid (K7.out.trans k8)
  clear k8
  go_wp2_with fail
  refine (hCi'.out _).mono ?_
  rintro e w9 ⟨rfl, k9⟩
  have K9 := Lib.hid (K8.out.trans k9)
  clear k9
  go_wp2_with fail
  go_ret
  exact ⟨rfl, K9.out⟩
set_option maxRecDepth 100000 in
theorem lifted (os : Os) (started : os.Started) (H : Type) (enc : TypeId × Value → H) :
    ReturnsInHanded {} Tryz.checked os 7 .any (Rows.deltaNamesSpec.pre6 enc Tryz.prog Tryz.f7 Rows.deltaNamesRow.domain false) (Rows.deltaNamesSpec.post enc Tryz.prog Tryz.f7 false true false false) := by
  refine law_lift os started 7 Tryz.f7 Tryz.func7 (by kernel_rfl) Rows.deltaNamesSpec rfl ?_ rfl (by kernel_rfl)
    (ChangeSpec.witness6 (enc := enc) (C := Tryz.checked) false ⟨#[], #[], []⟩ 8 (by kernel_rfl) (by kernel_rfl) (by kernel_rfl) (by kernel_rfl)) ?_
  · intro ds hds
    rw [Tryz.params7] at hds
    match ds, hds with
    | [], _ => rfl
  · intro W base args ds p hval hA
    rw [Tryz.params7] at hA hval
    obtain ⟨hargs, rfl, rfl⟩ := trodAll_nil hA
    obtain rfl : args = #[] := by cases args; simp_all
    exact (walk  W).mono fun e W' ⟨he, hk⟩ => ⟨he, hk.below (Nat.le_refl _) (fun _ _ h => h)⟩

theorem over : Rows.deltaNamesRow.holds Tryz.pinned (OpenSpec.ofChange Rows.deltaNamesSpec) :=
  OpenClaim.holds_of_wide 7 Tryz.f7 rfl rfl rfl rfl rfl rfl rfl ⟨rfl, rfl, rfl, rfl, rfl⟩ rfl rfl rfl rfl rfl (by kernel_rfl) Tryz.func7 (joined_of _ _ _ _ rfl rfl rfl (by kernel_rfl))
    (of_decide_eq_true (by kernel_rfl)) (by unfold Func.isWrapper; rw [if_neg (by decide +kernel)]; exact ⟨rfl, rfl⟩)
    (fun os started H enc _ => lifted os started H enc)

theorem proved : Rows.DeltaNamesSaid := over
#print axioms proved
end Go.Proofs.YtidlchciehdefaaGreat.deltaNames
