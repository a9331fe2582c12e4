/-
  PruneNames: with no input, the law answers true. No conditions.
-/
import Derived.Test.YthmjcbmeiabbgaaK18
import Derived.Test.YthmjcbmeiabbgaaK20
set_option linter.unusedVariables false
set_option linter.unusedSimpArgs false
namespace Go.Proofs.Ythmjcbmeiabbgaa.pruneNames
open Go.ChangeShapes Go.WideShapes Go.ChangeAt Go.RowKit
set_option maxRecDepth 100000

def mb : SM := (SM.build [(7, 0)] (madeM 26 9) (-1)).1
def mc : SM := (mb.cut 1 7).1
theorem mb_eq : SM.build [(7, 0)] (madeM 26 9) (-1) = (mb, 1, 0) := Prod.ext rfl (by kernel_rfl)
theorem mc_eq : mb.cut 1 7 = (mc, -1, true, 0) := Prod.ext rfl (by kernel_rfl)
theorem mb_log : mb.log.length ≤ 100 := of_decide_eq_true (by kernel_rfl)
set_option maxHeartbeats 4000000 in
theorem walk (w : World) : Calls Try.prog 7 #[] w fun e w' => e = .returned (.bool true) ∧ Kept (fun _ => False) w w' := by
  have e1 : (madeM 26 9).cut (-1) 64 = (madeM 26 9, -1, false, 101) := rfl
  have e2 : (madeM 26 9).cut (-1) 5 = (madeM 26 9, -1, false, 0) := rfl
  have e3 := mb_eq
  have e4 := mc_eq
  have hl := mb_log
  have hm := made11 30 (by decide) (by decide) w
  rw [show (min (30 : Int) 244 - 4).toNat = 26 from by decide] at hm
  have hm' := Lib.hid hm
  have e1' := Lib.hid e1
  have e2' := Lib.hid e2
  generalize mb = M1 at *
  generalize mc = M2 at *
  have e3' := Lib.hid e3
  have e4' := Lib.hid e4
  clear e1 e2 e3 e4 hm
  go_enter Try.func7, Try.ntmps7
  go_wp2_with fail
  refine hm'.out.mono ?_
  rintro e w2 ⟨A, rfl, hA, hk, hn⟩
  obtain ⟨b, hb⟩ : ∃ b, w2.heap.size = b := ⟨_, rfl⟩
  have hO := PrVar.made (b := b) ⟨hA, hk, hn⟩ hb
  obtain ⟨w3, hw3⟩ : ∃ w3, (w2.alloc (.cells #[.pointer none] 57)).setRow b #[.pointer (some ⟨A.sb, 0, none⟩)] = w3 := ⟨_, rfl⟩
  rw [hw3] at hO
  obtain ⟨hO3, hT3⟩ := hO
  have hO3 := Lib.hid hO3
  have hT3 := Lib.hid hT3
  have hw3' := Lib.hid hw3
  have hb' := Lib.hid hb
  obtain ⟨sb, hsb⟩ : ∃ sb, A.sb = sb := ⟨_, rfl⟩
  rw [hsb] at hw3' hT3 ⊢
  clear hA hk hn hw3 hb
  go_wp2_with (first | (refine wpList_alloc_as 57 rfl rfl #[.pointer none] pruner_zero ?_; rw [hb'.out]) | (refine wpList_store_whole 57 rfl rfl rfl [.pointer (some ⟨sb, 0, none⟩)] rfl (by kernel_rfl) 57 #[.pointer none] (by rw [← hb'.out]; exact heap_alloc_new _ _) rfl (by intro c hc; simp at hc; subst hc; rfl) ?_; rw [hw3'.out]))
  refine (alive11 _).mono ?_
  rintro e w4 ⟨rfl, k4⟩
  have hO4 := Lib.hid (hO3.out.fresh k4)
  have hV4 := Lib.hid (hT3.out.fresh k4)
  have hC := pruneCut hO4.out.store (-1) 64 (by show 1 + 30 < 100000000; omega)
  rw [e1'.out, hV4.out.eq] at hC
  have hC' := Lib.hid hC
  clear k4 hC
  go_wp2_with (first | (refine wpList_load_agg 57 rfl rfl rfl _ Try.underlying57 rfl [.pointer (some ⟨sb, 0, none⟩)] (by kernel_rfl) hV4.out.load ?_))
  refine hC'.out.mono ?_
  rintro e w5 ⟨A5, rfl, hT5⟩
  have hO5 := Lib.hid (hO4.out.to hT5)
  have hV5 := Lib.hid (hV4.out.to hT5)
  have hC := pruneCut hO5.out.store (-1) 5 (by show 1 + 30 < 100000000; omega)
  rw [e2'.out, hV5.out.eq] at hC
  have hC' := Lib.hid hC
  clear hT5 hC
  go_wp2_with (first | (refine wpList_load_agg 57 rfl rfl rfl _ Try.underlying57 rfl [.pointer (some ⟨sb, 0, none⟩)] (by kernel_rfl) hV5.out.load ?_))
  refine hC'.out.mono ?_
  rintro e w6 ⟨A6, rfl, hT6⟩
  have hO6 := Lib.hid (hO5.out.to hT6)
  have hV6 := Lib.hid (hV5.out.to hT6)
  clear hT6
  go_wp2_with (first | (refine wpList_load_agg 26 rfl rfl rfl _ Try.underlying26 rfl [.pointer (some ⟨sb, 0, none⟩)] (by kernel_rfl) hV6.out.load ?_))
  obtain ⟨hS7, hE7⟩ := ents_new hO6.out.store [(7, 0)] (by decide)
  have hB := treeBuild hS7 hE7 (by decide) (by show 1 + 100000 < 100000000; omega)
  rw [e3'.out, hV6.out.eq] at hB
  refine hB.mono ?_
  rintro e w7 ⟨A7, rfl, hT7⟩
  have hk6 : Kept (fun _ => False) w6 (w6.alloc (.cells (entCells [((7 : Int), (0 : Int))]).toArray 35)) := (Kept.refl _ _).alloc _
  have hO7 := Lib.hid ((hO6.out.fresh hk6).to hT7)
  have hV7 := Lib.hid ((hV6.out.fresh hk6).to hT7)
  have hC := pruneCut hO7.out.store 1 7 (by show M1.log.length + 30 < 100000000; omega)
  rw [e4'.out, hV7.out.eq] at hC
  have hC' := Lib.hid hC
  clear hB hT7 hk6 hC hS7 hE7
  go_wp2_with (first | (refine wpList_load_agg 57 rfl rfl rfl _ Try.underlying57 rfl [.pointer (some ⟨sb, 0, none⟩)] (by kernel_rfl) hV7.out.load ?_))
  refine hC'.out.mono ?_
  rintro e w8 ⟨A8, rfl, hT8⟩
  have hO8 := Lib.hid (hO7.out.to hT8)
  clear hT8
  go_wp2_with fail
  go_ret
  exact ⟨rfl, hO8.out.kept⟩
set_option maxRecDepth 100000 in
theorem lifted (os : Os) (started : os.Started) (H : Type) (enc : TypeId × Value → H) :
    ReturnsInHanded {} Try.checked os 7 .any (Rows.pruneNamesSpec.pre6 enc Try.prog Try.f7 Rows.pruneNamesRow.domain false) (Rows.pruneNamesSpec.post enc Try.prog Try.f7 false true false false) := by
  refine law_lift os started 7 Try.f7 Try.func7 (by kernel_rfl) Rows.pruneNamesSpec rfl ?_ rfl (by kernel_rfl)
    (ChangeSpec.witness6 (enc := enc) (C := Try.checked) false ⟨#[], #[], []⟩ 8 (by kernel_rfl) (by kernel_rfl) (by kernel_rfl) (by kernel_rfl)) ?_
  · intro ds hds
    rw [Try.params7] at hds
    match ds, hds with
    | [], _ => rfl
  · intro W base args ds p hval hA
    rw [Try.params7] at hA hval
    obtain ⟨hargs, rfl, rfl⟩ := trodAll_nil hA
    obtain rfl : args = #[] := by cases args; simp_all
    exact (walk  W).mono fun e W' ⟨he, hk⟩ => ⟨he, hk.below (Nat.le_refl _) (fun _ _ h => h)⟩

theorem over : Rows.pruneNamesRow.holds Try.pinned (OpenSpec.ofChange Rows.pruneNamesSpec) :=
  OpenClaim.holds_of_wide 7 Try.f7 rfl rfl rfl rfl rfl rfl rfl ⟨rfl, rfl, rfl, rfl, rfl⟩ rfl rfl rfl rfl rfl (by kernel_rfl) Try.func7 (joined_of _ _ _ _ rfl rfl rfl (by kernel_rfl))
    (of_decide_eq_true (by kernel_rfl)) (by unfold Func.isWrapper; rw [if_neg (by decide +kernel)]; exact ⟨rfl, rfl⟩)
    (fun os started H enc _ => lifted os started H enc)

theorem proved : Rows.PruneNamesSaid := over
#print axioms proved
end Go.Proofs.Ythmjcbmeiabbgaa.pruneNames
