/-
  PoolClones: whatever size, counts and acts are, the law answers true. No conditions.
-/
import Derived.Test.YtgajongbbaccjaaPoolL
import Derived.Test.YtgajongbbaccjaaPoolD
import Derived.Test.YtgajongbbaccjaaLaw
namespace Go.Proofs.Ytgajongbbaccjaa.poolClones
open Go.ChangeShapes Go.WideShapes Go.ChangeAt Go.RowKit
set_option maxRecDepth 100000

theorem sz_take (p : PM) : p.takeTo.size = p.size := by unfold PM.takeTo; split <;> rfl
theorem sz_hold (p : PM) (i : Int) : (p.holdTo i).size = p.size := by unfold PM.holdTo; split <;> rfl
theorem sz_drop (p : PM) (i : Int) : (p.dropAll i).size = p.size := by unfold PM.dropAll PM.dropTo; split <;> (try split) <;> rfl

set_option maxHeartbeats 2000000 in
theorem walk (size : Int) (_hs : -9223372036854775808 ≤ size ∧ size ≤ 9223372036854775807) (c : Nat → Nat) (hc : ∀ i, c i ≤ 255) (_hc240 : ∀ i, 240 ≤ i → c i = 0) (v : Value) (l : List (Int × Int)) {w : World} (hl : PairsAt w v l) :
    Calls Try.prog 6 #[.int .i64 size, .agg (cntList c).toArray, v] w fun e w' => e = .returned (.bool true) ∧ Fresh w w' := by
  obtain ⟨⟨A, cap, rfl, hcap, hmax, hget⟩, hwf⟩ := hl
  unfold maxLen at hmax
  by_cases hlong : 150 < l.length
  · go_enter Try.func6, Try.ntmps6
    go_wp2_with fail
    refine (poolAlive_any _).mono ?_
    rintro e w1 ⟨rfl, k1⟩
    go_wp2_with fail
    go_ret
    exact ⟨rfl, ((Kept.refl _ _).alloc _).trans k1⟩
  by_cases hbad : ∃ i, clampN size ≤ i ∧ i < 240 ∧ c i ≠ 0
  · obtain ⟨i, hi1, hi2, hi3⟩ := hbad
    go_enter Try.func6, Try.ntmps6
    go_wp2_with fail
    refine (poolAlive_any _).mono ?_
    rintro e w1 ⟨rfl, k1⟩
    have hbox : w1.heap[w.heap.size]? = some (.cells (cntList c).toArray 30 (0, 0)) := k1.get (heap_alloc_new w _) id
    have k0 : Fresh w w1 := ((Kept.refl _ _).alloc _).trans k1
    go_wp2_with (refine wpList_load_agg 30 rfl rfl rfl _ Try.underlying30 rfl (cntList c) (by rw [cntList_len]; kernel_rfl) (fun j v hv => by rw [cell_of_heap hbox, Nat.zero_add]; simpa using hv) ?_)
    refine (load_bad size c _ i hi1 hi2 hi3).mono ?_
    rintro e w2 ⟨rfl, k2⟩
    go_wp2_with fail
    go_ret
    exact ⟨rfl, k0.trans k2⟩
  have hz : ∀ i, clampN size ≤ i → i < 240 → c i = 0 := fun i h1 h2 => by
    by_cases h : c i = 0
    · exact h
    · exact absurd ⟨i, h1, h2, h⟩ hbad
  clear hbad
  have hget' := Lib.hid hget; clear hget
  have hc' := Lib.hid hc; clear hc
  have hz' := Lib.hid hz; clear hz
  go_enter Try.func6, Try.ntmps6
  go_wp2_with fail
  refine (poolAlive_any _).mono ?_
  rintro e w1 ⟨rfl, k1⟩
  have hbox : w1.heap[w.heap.size]? = some (.cells (cntList c).toArray 30 (0, 0)) := k1.get (heap_alloc_new w _) id
  have k0 : Fresh w w1 := ((Kept.refl _ _).alloc _).trans k1
  go_wp2_with (refine wpList_load_agg 30 rfl rfl rfl _ Try.underlying30 rfl (cntList c) (by rw [cntList_len]; kernel_rfl) (fun j v hv => by rw [cell_of_heap hbox, Nat.zero_add]; simpa using hv) ?_)
  refine (load_ok size c _ hc'.out hz'.out).mono ?_
  rintro e w2 ⟨b, rfl, h2⟩
  obtain ⟨P, hP⟩ : ∃ P, P = PM.loaded (clampN size) c := ⟨_, rfl⟩
  rw [← hP] at h2
  have hP' := Lib.hid hP; clear hP
  have hbox2 := h2.kept.get hbox id
  have k2 := k0.trans h2.kept
  go_wp2_with fail
  refine (clone_any h2.pool).mono ?_
  rintro e w3 ⟨q, rfl, h3⟩
  have hbox3 := h3.kept.get hbox2 id
  have p3 := h2.pool.kept h3.kept id
  have k3 := k2.trans h3.kept
  have hqb : ¬ b = q := fun e => by have := lt_of_heap h2.pool.heap; have := h3.new; omega
  have hqx : ¬ w.heap.size = q := fun e => by have := lt_of_heap hbox2; have := h3.new; omega
  have hqw : w.heap.size ≤ q := by have := k2.size; have := h3.new; omega
  go_wp2_with fail
  refine (freeCount_any p3).mono ?_
  rintro e w4 ⟨rfl, rfl⟩
  go_wp2_with fail
  go_loopw [35] (fun i wr => ∃ k : Nat, k ≤ l.length ∧ i = .int .i64 k ∧ Kept (fun j => j = q) w3 wr ∧ ∃ Q, PoolAt wr q Q ∧ Q.size = P.size) (fun i _ => l.length - (intOf i).toNat)
  case atStart => exact ⟨0, Nat.zero_le _, rfl, Kept.refl _ _, P, h3.pool, rfl⟩
  case round =>
    obtain ⟨k, hk, rfl, hkk, Q, hQ, hQs⟩ := hrel
    by_cases hlt : k < l.length
    · obtain ⟨x, hx⟩ : ∃ x, l[k]? = some x := ⟨_, List.getElem?_eq_getElem hlt⟩
      obtain ⟨ab, ao, rfl, hab, c1, c2⟩ := hget'.out k x hx
      have c1' := hkk.cell (k3.cell c1 id) (fun e => by simp at e; omega)
      have c2' := hkk.cell (k3.cell c2 id) (fun e => by simp at e; omega)
      have hqlt := lt_of_heap hQ.heap
      have hQa := fun o => hQ.kept ((Kept.refl (fun _ => False) wr).alloc o) id
      have hka := fun o => hkk.alloc o
      clear c1 c2
      have hx' := Lib.hid hx; clear hx
      have hQs' := Lib.hid hQs; clear hQs
      obtain ⟨x1, x2⟩ := x
      dsimp only at c1' c2'
      by_cases g0 : x1 = 0
      · subst g0
        go_wp2_with fail
        refine (take_all (hQa _)).mono ?_
        rintro e w5 ⟨rfl, h5⟩
        have k5 := (hka _).trans h5.kept
        go_wp2_with fail
        go_roundw
        case rel => exact ⟨k + 1, by omega, by go_num, k5, _, h5.pool, by rw [sz_take]; exact hQs'.out⟩
        case measure => simp [intOf]; omega
      by_cases g1 : x1 = 1
      · subst g1
        go_wp2_with fail
        refine (hold_all (hQa _) x2).mono ?_
        rintro e w5 ⟨rfl, h5⟩
        have k5 := (hka _).trans h5.kept
        go_wp2_with fail
        go_roundw
        case rel => exact ⟨k + 1, by omega, by go_num, k5, _, h5.pool, by rw [sz_hold]; exact hQs'.out⟩
        case measure => simp [intOf]; omega
      by_cases g2 : x1 = 2
      · subst g2
        go_wp2_with fail
        refine (drop_all (hQa _) x2).mono ?_
        rintro e w5 ⟨rfl, h5⟩
        have k5 := (hka _).trans h5.kept
        go_wp2_with fail
        go_roundw
        case rel => exact ⟨k + 1, by omega, by go_num, k5, _, h5.pool, by rw [sz_drop]; exact hQs'.out⟩
        case measure => simp [intOf]; omega
      by_cases g3 : x1 = 3
      · subst g3
        go_wp2_with fail
        refine (commit_any (hQa _)).mono ?_
        rintro e w5 ⟨rfl, h5⟩
        have k5 := (hka _).trans h5.kept
        go_wp2_with fail
        go_roundw
        case rel => exact ⟨k + 1, by omega, by go_num, k5, _, h5.pool, by exact hQs'.out⟩
        case measure => simp [intOf]; omega
      have e0 : (x1 == 0) = false := by simpa using g0
      have e1 : (x1 == 1) = false := by simpa using g1
      have e2 : (x1 == 2) = false := by simpa using g2
      have e3 : (x1 == 3) = false := by simpa using g3
      clear g0 g1 g2 g3
      go_wp2_with fail
      go_roundw
      case rel => exact ⟨k + 1, by omega, by go_num, hka _, Q, hQa _, hQs'.out⟩
      case measure => simp [intOf]; omega
    · obtain rfl : k = l.length := by omega
      obtain ⟨wo, rfl⟩ : ∃ wo : World, wo = wr := ⟨_, rfl⟩
      have p5 := p3.kept hkk hqb
      have hbox5 := hkk.get hbox3 hqx
      have k5 : Fresh w wo := k3.then_new hkk (fun j e => e ▸ hqw)
      have hsP : Hid (P.size = clampN size) := by show P.size = _; rw [hP'.out]; rfl
      have hfr : ∀ i : Int, P.freshB i = false := fun i => by rw [hP'.out]; simp [PM.freshB, PM.loaded]
      have hcn : ∀ i : Nat, i < 240 → P.countI i = (c i : Int) := fun i hi => by
        have hz'' := hz'.out
        unfold PM.countI
        by_cases ht : P.thereB i = true
        · rw [if_pos ht, hP'.out]; rfl
        · rw [if_neg ht]
          have : clampN size ≤ i := by
            have hs := hsP.out
            simp only [PM.thereB, decide_eq_true_eq] at ht
            omega
          rw [hz'' i this hi]; rfl
      have hcn' := Lib.hid hcn; clear hcn
      have hfr' := Lib.hid hfr; clear hfr
      go_wp2_with fail
      go_loopw [13] (fun i wr => ∃ k : Nat, k ≤ 240 ∧ i = .int .i64 k ∧ Fresh wo wr) (fun i _ => 240 - (intOf i).toNat)
      case atStart => exact ⟨0, by omega, rfl, Kept.refl _ _⟩
      case round =>
        obtain ⟨k, hk, rfl, hkk'⟩ := hrel
        by_cases hlt : k < 240
        · have hc5 : wr.cell? ⟨w.heap.size, k, none⟩ = some (.int .u8 (c k)) := by
            rw [cell_of_heap (hkk'.get hbox5 id)]; simpa using cntList_get c k hlt
          have hck : c k ≤ 255 := hc'.out k
          have p6 := p5.kept hkk' id
          have hk240 : (k : Int) < 240 := by omega
          go_wp2_with fail
          go_quiet ((first | (go_at_call 35; have hq := fun n => fresh_any (p6.drewN n) k; rw [hfr'.out k] at hq; exact quiet_eq (hq _)) | (go_at_call 31; have hq := fun n => count_any (p6.drewN n) k; rw [hcn'.out k hlt] at hq; exact quiet_eq (hq _))))
          go_wp2_with fail
          go_roundw
          case rel => exact ⟨k + 1, by omega, by go_num, hkk'.drewN _⟩
          case measure => simp [intOf]; omega
        · obtain rfl : k = 240 := by omega
          have p6 := p5.kept hkk' id
          have q6 := hQ.kept hkk' id
          have k6 := k5.trans hkk'
          have hbox6 := hkk'.get hbox5 id
          have hqs' : Hid (Q.size = P.size) := hQs
          go_wp2_with fail
          have hcv : Hid (P.cntVals = cntList c) := by show P.cntVals = _; rw [hP'.out]; rfl
          refine wp_region_quiet (C := fun w' => Fresh wr w') (by kernel_rfl) (by kernel_rfl) (Kept.refl _ _).drew ?_
          simp only []
          refine wpQuiet_step (fun K hK => ?_); go_simp; refine ⟨_, fun _ _ => rfl, hK _ ?_⟩; clear hK K
          refine wpQuiet_step (fun K hK => ?_); go_simp; refine ⟨_, fun W hW => Calls.stay hW (freeCount_any (p6.kept hW id)), hK _ ?_⟩; clear hK K
          refine wpQuiet_step (fun K hK => ?_); go_simp; refine ⟨_, fun _ _ => rfl, hK _ ?_⟩; clear hK K
          refine wpQuiet_step (fun K hK => ?_); go_simp; refine ⟨_, fun _ _ => rfl, hK _ ?_⟩; clear hK K
          refine wpQuiet_step (fun K hK => ?_); go_simp; refine ⟨_, fun _ _ => rfl, hK _ ?_⟩; clear hK K
          refine wpQuiet_step (fun K hK => ?_); go_simp; refine ⟨_, fun _ _ => rfl, hK _ ?_⟩; clear hK K
          refine wpQuiet_step (fun K hK => ?_); go_simp; refine ⟨_, fun W hW => Calls.stay hW (size_any (p6.kept hW id)), hK _ ?_⟩; clear hK K
          refine wpQuiet_step (fun K hK => ?_); go_simp; refine ⟨_, fun _ _ => rfl, hK _ ?_⟩; clear hK K
          refine wpQuiet_step (fun K hK => ?_); go_simp; refine ⟨_, fun W hW => Calls.stay hW (by have := size_any (q6.kept hW id); rw [hqs'.out] at this; exact this), hK _ ?_⟩; clear hK K
          refine wpQuiet_step (fun K hK => ?_); go_simp; refine ⟨_, fun _ _ => rfl, hK _ ?_⟩; clear hK K
          refine wpQuiet_step (fun K hK => ?_); go_simp; refine ⟨_, fun _ _ => rfl, hK _ ?_⟩; clear hK K
          refine wpQuiet_step (fun K hK => ?_); go_simp; refine ⟨_, fun _ _ => rfl, hK _ ?_⟩; clear hK K
          refine wpQuiet_step (fun K hK => ?_); go_simp; refine ⟨_, fun _ _ => rfl, hK _ ?_⟩; clear hK K
          refine wpQuiet_step (fun K hK => ?_); go_simp; refine ⟨_, fun W hW => by have := counts_any (p6.kept hW id); rw [hcv.out] at this; exact this.mono fun _ _ ⟨he, hk⟩ => ⟨he, hW.trans hk⟩, hK _ ?_⟩; clear hK K
          refine wpQuiet_step (fun K hK => ?_); refine q_on rfl (q_val (.agg (cntList c).toArray) (fun W hW => exec_load_agg (g := w.heap.size) (off := 0) rfl rfl (cntList c) Try.underlying30 rfl (by rw [cntList_len]; kernel_rfl) (fun j v hv => by rw [cell_of_heap (hW.get hbox6 id), Nat.zero_add]; simpa using hv)) (hK _ ?_)); clear hK K
          refine wpQuiet_step (fun K hK => ?_); refine q_on rfl (q_val (.bool true) (fun W hW => by rw [exec_eql_arr (P := Try.prog) (k := .u8) rfl (fun i => (c i : Int)) (fun i => (c i : Int)) rfl rfl (by kernel_rfl) Try.underlying30 Try.underlying5 (by kernel_rfl)]; simp) (hK _ ?_)); clear hK K
          refine wpQuiet_step (fun K hK => ?_); go_simp; refine ⟨_, fun _ _ => rfl, hK _ ?_⟩; clear hK K
          refine wpQuiet_step (fun K hK => ?_); go_simp; refine ⟨_, fun _ _ => rfl, hK _ ?_⟩; clear hK K
          refine wpQuiet_nil ?_
          intro w9 hw9
          go_wp2_with fail
          go_ret
          exact ⟨rfl, k6.trans hw9⟩
set_option maxRecDepth 100000 in
theorem lifted (os : Os) (started : os.Started) (H : Type) (enc : TypeId × Value → H) :
    ReturnsInHanded {} Try.checked os 6 .any (Rows.poolClonesSpec.pre6 enc Try.prog Try.f6 Rows.poolClonesRow.domain false) (Rows.poolClonesSpec.post enc Try.prog Try.f6 false true false false) := by
  refine law_lift os started 6 Try.f6 Try.func6 (by kernel_rfl) Rows.poolClonesSpec rfl ?_ rfl (by kernel_rfl)
    (ChangeSpec.witness6 (enc := enc) (C := Try.checked) false ⟨#[], #[.int .i64 0, .agg (Array.replicate 240 (.int .u8 0)), .slice none 0 0], []⟩ 8 (by kernel_rfl) (by kernel_rfl) (by kernel_rfl) (by kernel_rfl)) ?_
  · intro ds hds
    rw [Try.params6] at hds
    match ds, hds with
    | [_, _, _], _ => rfl
  · intro W base args ds p hval hA
    rw [Try.params6] at hA hval
    obtain ⟨v0, vs0, d0, ds0, p0, q0, hargs, rfl, rfl, h0, r0⟩ := trodAll_cons hA
    obtain ⟨v1, vs1, d1, ds1, p1, q1, rfl, rfl, rfl, h1, r1⟩ := trodAll_cons r0
    obtain ⟨v2, vs2, d2, ds2, p2, q2, rfl, rfl, rfl, h2, r2⟩ := trodAll_cons r1
    obtain ⟨rfl, rfl, rfl⟩ := trodAll_nil r2
    obtain rfl : args = #[v0, v1, v2] := by cases args; simp_all
    obtain ⟨a0, rfl, rfl, rfl, w0⟩ := open_int Try.underlying3 (hval 0 3 v0 rfl rfl) h0
    obtain ⟨a1, rfl, w1, z1⟩ := open_bytes (n := 240) Try.underlying30 Try.underlying5 (by kernel_rfl) (by kernel_rfl) (hval 1 30 v1 rfl rfl) h1
    obtain ⟨a2, w2⟩ := open_pairs Try.underlying37 Try.underlying39 rfl rfl rfl Try.underlying3 Try.underlying3 (by kernel_rfl) (by kernel_rfl) (by kernel_rfl) (hval 2 37 v2 rfl rfl) h2
    exact (walk a0 (wf_i64 w0) a1 w1 z1 v2 a2 w2).mono fun e W' ⟨he, hk⟩ => ⟨he, hk.below (Nat.le_refl _) (fun _ _ h => h)⟩

theorem over : Rows.poolClonesRow.holds Try.pinned (OpenSpec.ofChange Rows.poolClonesSpec) :=
  OpenClaim.holds_of_wide 6 Try.f6 rfl rfl rfl rfl rfl rfl rfl ⟨rfl, rfl, rfl, rfl, rfl⟩ rfl rfl rfl rfl rfl (by kernel_rfl) Try.func6 (joined_of _ _ _ _ rfl rfl rfl (by kernel_rfl))
    (of_decide_eq_true (by kernel_rfl)) (by unfold Func.isWrapper; rw [if_neg (by decide +kernel)]; exact ⟨rfl, rfl⟩)
    (fun os started H enc _ => lifted os started H enc)

theorem proved : Rows.PoolClonesSaid := over
#print axioms proved
end Go.Proofs.Ytgajongbbaccjaa.poolClones
