/-
  DeltaRights: which items can be. No conditions.
-/
import Derived.Test.YtidlchciehdefaaGreatK37
import Derived.Test.YtidlchciehdefaaGreatK42
import Derived.Test.YtidlchciehdefaaGreatK44
set_option linter.unusedVariables false
set_option linter.unusedSimpArgs false
namespace Go.Proofs.YtidlchciehdefaaGreat.deltaRights
open Go.ChangeShapes Go.WideShapes Go.ChangeAt Go.RowKit
set_option maxRecDepth 100000

set_option maxHeartbeats 4000000 in
theorem walk (x : ItemM) (hx : x.ok) (w : World) : Calls Tryz.prog 9 #[.agg (itemCells x).toArray] w fun e w' => e = .returned (.bool true) ∧ Kept (fun _ => False) w w' := by
  have hR := fun w => deltaRight hx w
  have hS := fun w => ref17Right hx w
  obtain ⟨z, hz⟩ : ∃ z, rightB x = z := ⟨_, rfl⟩
  rw [hz] at hR hS
  obtain ⟨I, hI⟩ : ∃ I, itemCells x = I := ⟨_, rfl⟩
  have hIl : Hid (I.length = 18) := Lib.hid (by rw [← hI]; exact itemCells_len _)
  rw [hI] at hR hS ⊢
  obtain ⟨xb, hxb⟩ : ∃ xb, w.heap.size = xb := ⟨_, rfl⟩
  obtain ⟨w1, hw1⟩ : ∃ w1, w.alloc (.cells I.toArray 61) = w1 := ⟨_, rfl⟩
  have k1 : Kept (fun _ => False) w w1 := by rw [← hw1]; exact (Kept.refl _ _).alloc _
  have q1 : w1.heap[xb]? = some (.cells I.toArray 61 (0, 0)) := by rw [← hw1, ← hxb]; exact heap_alloc_new _ _
  have hld : Hid (∀ W, Kept (fun _ => False) w1 W → ∀ j v, I[j]? = some v → W.cell? ⟨xb, 0 + j, none⟩ = some v) := Lib.hid (fun W hW j v hj => by rw [Nat.zero_add, cell_of_heap (hW.get q1 id)]; simpa using hj)
  have k1' := Lib.hid k1
  have hw1' := Lib.hid hw1
  have hxb' := Lib.hid hxb
  have hR' := Lib.hid hR
  have hS' := Lib.hid hS
  have hzz : (z == z) = true := by cases z <;> rfl
  clear hI hw1 hxb k1 q1 hR hS hz
  go_enter Tryz.func9, Tryz.ntmps9
  go_wp2_with (first | (refine wpList_box_named 61 rfl rfl _ rfl hw1'.out ?_; rw [hxb'.out]))
  refine wp_region_quiet (C := fun w' => Kept (fun _ => False) w1 w') (by kernel_rfl) (by kernel_rfl) (Kept.refl _ _).drew ?_
  simp only []
  refine wpQuiet_step (fun K hK => ?_); go_simp; refine ⟨_, fun W hW => (deltaAlive W).mono (fun _ _ ⟨he, hk⟩ => ⟨he, hW.trans hk⟩), hK _ ?_⟩; clear hK K
  refine wpQuiet_step (fun K hK => ?_); go_simp; refine ⟨_, fun _ _ => rfl, hK _ ?_⟩; clear hK K
  refine wpQuiet_step (fun K hK => ?_); refine q_on rfl (q_val (.agg I.toArray) (fun W hW => exec_load_agg (g := xb) (off := 0) rfl (by rfl) I Tryz.underlying61 rfl (by rw [hIl.out]; exact item_size) (hld.out W hW)) (hK _ ?_)); clear hK K
  refine wpQuiet_step (fun K hK => ?_); go_simp; refine ⟨_, fun W hW => (hR'.out W).mono (fun _ _ ⟨he, hk⟩ => ⟨he, hW.trans hk⟩), hK _ ?_⟩; clear hK K
  refine wpQuiet_step (fun K hK => ?_); refine q_on rfl (q_val (.agg I.toArray) (fun W hW => exec_load_agg (g := xb) (off := 0) rfl (by rfl) I Tryz.underlying61 rfl (by rw [hIl.out]; exact item_size) (hld.out W hW)) (hK _ ?_)); clear hK K
  refine wpQuiet_step (fun K hK => ?_); go_simp; refine ⟨_, fun W hW => (hS'.out W).mono (fun _ _ ⟨he, hk⟩ => ⟨he, hW.trans hk⟩), hK _ ?_⟩; clear hK K
  refine wpQuiet_step (fun K hK => ?_); go_simp; refine ⟨_, fun _ _ => rfl, hK _ ?_⟩; clear hK K
  refine wpQuiet_step (fun K hK => ?_); go_simp; refine ⟨_, fun _ _ => rfl, hK _ ?_⟩; clear hK K
  refine wpQuiet_step (fun K hK => ?_); go_simp; refine ⟨_, fun _ _ => rfl, hK _ ?_⟩; clear hK K
  refine wpQuiet_nil ?_
  intro wq hwq
  have fin := Lib.hid (k1'.out.trans hwq)
  clear hwq
  go_wp2_with fail
  go_ret
  exact ⟨rfl, fin.out⟩
set_option maxRecDepth 100000 in
theorem lifted (os : Os) (started : os.Started) (H : Type) (enc : TypeId × Value → H) :
    ReturnsInHanded {} Tryz.checked os 9 .any (Rows.deltaRightsSpec.pre6 enc Tryz.prog Tryz.f9 Rows.deltaRightsRow.domain false) (Rows.deltaRightsSpec.post enc Tryz.prog Tryz.f9 false true false false) := by
  refine law_lift os started 9 Tryz.f9 Tryz.func9 (by kernel_rfl) Rows.deltaRightsSpec rfl ?_ rfl (by kernel_rfl)
    (ChangeSpec.witness6 (enc := enc) (C := Tryz.checked) false ⟨#[], #[.agg (#[.int .i64 0, .bool false] ++ Array.replicate 16 (.int .u8 0))], []⟩ 8 (by kernel_rfl) (by kernel_rfl) (by kernel_rfl) (by kernel_rfl)) ?_
  · intro ds hds
    rw [Tryz.params9] at hds
    match ds, hds with
    | [_], _ => rfl
  · intro W base args ds p hval hA
    rw [Tryz.params9] at hA hval
    obtain ⟨v0, vs0, d0, ds0, p0, q0, hargs, rfl, rfl, h0, r0⟩ := trodAll_cons hA
    obtain ⟨rfl, rfl, rfl⟩ := trodAll_nil r0
    obtain rfl : args = #[v0] := by cases args; simp_all
    obtain ⟨a0, rfl, w0⟩ := open_item (hval 0 61 v0 rfl rfl) h0
    exact (walk a0 w0 W).mono fun e W' ⟨he, hk⟩ => ⟨he, hk.below (Nat.le_refl _) (fun _ _ h => h)⟩

theorem over : Rows.deltaRightsRow.holds Tryz.pinned (OpenSpec.ofChange Rows.deltaRightsSpec) :=
  OpenClaim.holds_of_wide 9 Tryz.f9 rfl rfl rfl rfl rfl rfl rfl ⟨rfl, rfl, rfl, rfl, rfl⟩ rfl rfl rfl rfl rfl (by kernel_rfl) Tryz.func9 (joined_of _ _ _ _ rfl rfl rfl (by kernel_rfl))
    (of_decide_eq_true (by kernel_rfl)) (by unfold Func.isWrapper; rw [if_neg (by decide +kernel)]; exact ⟨rfl, rfl⟩)
    (fun os started H enc _ => lifted os started H enc)

theorem proved : Rows.DeltaRightsSaid := over
#print axioms proved
end Go.Proofs.YtidlchciehdefaaGreat.deltaRights
