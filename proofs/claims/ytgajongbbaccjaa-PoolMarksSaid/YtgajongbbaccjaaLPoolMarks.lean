/-
  PoolMarks: whatever size, front and acts are, the law answers true. No conditions.
-/
import Derived.Test.YtgajongbbaccjaaPoolL
import Derived.Test.YtgajongbbaccjaaPoolP
import Derived.Test.YtgajongbbaccjaaLaw
namespace Go.Proofs.Ytgajongbbaccjaa.poolMarks
open Go.ChangeShapes Go.WideShapes Go.ChangeAt Go.RowKit
set_option maxRecDepth 100000

set_option maxHeartbeats 2000000 in
theorem walk (size : Int) (_hs : -9223372036854775808 ≤ size ∧ size ≤ 9223372036854775807) (v1 : Value) (l1 : List (Int × Int)) {w : World} (hl1 : PairsAt w v1 l1) (v2 : Value) (l2 : List (Int × Int)) (hl2 : PairsAt w v2 l2) :
    Calls Try.prog 5 #[.int .i64 size, v1, v2] w fun e w' => e = .returned (.bool true) ∧ Fresh w w' := by
  obtain ⟨⟨A1, cap1, rfl, hcap1, hmax1, hget1⟩, _⟩ := hl1
  obtain ⟨⟨A2, cap2, rfl, hcap2, hmax2, hget2⟩, _⟩ := hl2
  unfold maxLen at hmax1 hmax2
  have hget1' := Lib.hid hget1; clear hget1
  have hget2' := Lib.hid hget2; clear hget2
  by_cases hlong1 : 100 < l1.length
  · go_enter Try.func5, Try.ntmps5
    go_wp2_with fail
    refine (poolAlive_any _).mono ?_
    rintro e w1 ⟨rfl, k1⟩
    go_wp2_with fail
    go_ret
    exact ⟨rfl, k1⟩
  by_cases hlong2 : 100 < l2.length
  · go_enter Try.func5, Try.ntmps5
    go_wp2_with fail
    refine (poolAlive_any _).mono ?_
    rintro e w1 ⟨rfl, k1⟩
    go_wp2_with fail
    go_ret
    exact ⟨rfl, k1⟩
  go_enter Try.func5, Try.ntmps5
  go_wp2_with fail
  refine (poolAlive_any _).mono ?_
  rintro e w1 ⟨rfl, k1⟩
  go_wp2_with fail
  refine (new_any _ _).mono ?_
  rintro e w2 ⟨b, rfl, h2⟩
  have hb : w.heap.size ≤ b := Nat.le_trans k1.size h2.new
  have k2 := k1.trans h2.kept
  go_wp2_with fail
  go_loopw [32] (fun i wr => ∃ k : Nat, k ≤ l1.length ∧ i = .int .i64 k ∧ ∃ Q, PoolAt wr b Q ∧ FrontInv Q ∧ Kept (fun j => j = b) w2 wr) (fun i _ => l1.length - (intOf i).toNat)
  case atStart => exact ⟨0, Nat.zero_le _, rfl, _, h2.pool, FrontInv.new _, Kept.refl _ _⟩
  case round =>
    obtain ⟨k, hk, rfl, Q, hQ, hF, hkk⟩ := hrel
    by_cases hlt : k < l1.length
    · obtain ⟨y, hy⟩ : ∃ y, l1[k]? = some y := ⟨_, List.getElem?_eq_getElem hlt⟩
      obtain ⟨ab, ao, rfl, hab, c1, c2⟩ := hget1'.out k y hy
      have c1' := hkk.cell (k2.cell c1 id) (fun e => by simp at e; omega)
      have c2' := hkk.cell (k2.cell c2 id) (fun e => by simp at e; omega)
      have hQa := fun o => hQ.kept ((Kept.refl (fun _ => False) wr).alloc o) id
      have hka := fun o => hkk.alloc o
      have hQa' := Lib.hid hQa; clear hQa
      have hka' := Lib.hid hka; clear hka
      have hF' := Lib.hid hF; clear hF
      clear c1 c2
      have hy' := Lib.hid hy; clear hy
      obtain ⟨x1, x2⟩ := y
      dsimp only at c1' c2'
      by_cases g0 : x1 = 0
      · subst g0
        have tk := fun o => take_all (hQa'.out o)
        rcases hti : Q.takeIx with _ | i
        · have e1 : Q.takeErr = 71 := by simp [PM.takeErr, hti]
          rw [e1] at tk
          have tk' := Lib.hid tk; clear tk e1 hti
          go_wp2_with fail
          refine (tk'.out _).mono ?_
          rintro e w5 ⟨rfl, h5⟩
          have k5 := (hka'.out _).trans h5.kept
          go_wp2_with fail
          go_roundw
          case rel => exact ⟨k + 1, by omega, by go_num, _, h5.pool, hF'.out.take, k5⟩
          case measure => simp [intOf]; omega
        · have e1 : Q.takeErr = 0 := by simp [PM.takeErr, hti]
          rw [e1] at tk
          have tk' := Lib.hid tk; clear tk e1 hti
          go_wp2_with fail
          refine (tk'.out _).mono ?_
          rintro e w5 ⟨rfl, h5⟩
          have k5 := (hka'.out _).trans h5.kept
          go_wp2_with fail
          refine (hold_all h5.pool _).mono ?_
          rintro e w6 ⟨rfl, h6⟩
          have k6 := k5.trans h6.kept
          go_wp2_with fail
          go_roundw
          case rel => exact ⟨k + 1, by omega, by go_num, _, h6.pool, hF'.out.take.hold _, k6⟩
          case measure => simp [intOf]; omega
      by_cases g2 : x1 = 2
      · subst g2
        go_wp2_with fail
        refine (drop_all (hQa'.out _) x2).mono ?_
        rintro e w5 ⟨rfl, h5⟩
        have k5 := (hka'.out _).trans h5.kept
        go_wp2_with fail
        go_roundw
        case rel => exact ⟨k + 1, by omega, by go_num, _, h5.pool, hF'.out.drop _, k5⟩
        case measure => simp [intOf]; omega
      by_cases g3 : x1 = 3
      · subst g3
        go_wp2_with fail
        refine (commit_any (hQa'.out _)).mono ?_
        rintro e w5 ⟨rfl, h5⟩
        have k5 := (hka'.out _).trans h5.kept
        go_wp2_with fail
        go_roundw
        case rel => exact ⟨k + 1, by omega, by go_num, _, h5.pool, FrontInv.commit _, k5⟩
        case measure => simp [intOf]; omega
      have e0 : (x1 == 0) = false := by simpa using g0
      have e2 : (x1 == 2) = false := by simpa using g2
      have e3 : (x1 == 3) = false := by simpa using g3
      clear g0 g2 g3
      go_wp2_with fail
      go_roundw
      case rel => exact ⟨k + 1, by omega, by go_num, Q, hQa'.out _, hF'.out, hka'.out _⟩
      case measure => simp [intOf]; omega
    · obtain rfl : k = l1.length := by omega
      have k3 : Fresh w wr := k2.then_new hkk (fun j e => e ▸ hb)
      obtain ⟨w3, rfl⟩ : ∃ w3 : World, w3 = wr := ⟨_, rfl⟩
      clear hkk h2 k1 k2 hlt hk
      go_wp2_with fail
      refine (mark_any hQ).mono ?_
      rintro e w4 ⟨q, rfl, hnew, hq4, h4⟩
      have hqb : q ≠ b := fun e => by have := lt_of_heap hQ.heap; omega
      have hqw : w.heap.size ≤ q := Nat.le_trans k3.size hnew
      have k4 : Fresh w w4 := k3.then_new h4.kept (fun j e => e ▸ hb)
      have hcp := Lib.hid hQ.hcnt
      have hst := Lib.hid (MarkInv.start hF)
      clear hF hQ
      go_wp2_with fail
      refine (counts_any hq4).mono ?_
      rintro e w5 ⟨rfl, k45⟩
      have hcv : Hid ((Q.turned 1 2).cntVals = cntList Q.cnt) := rfl
      rw [hcv.out]
      have p5 := h4.pool.kept k45 id
      have q5 := hq4.kept k45 id
      have k5 := k4.trans k45
      go_wp2_with (first | (refine wpList_alloc_as 41 rfl rfl (.agg cntZero) cnt_zero ?_) | (refine wpList_store_whole 41 rfl rfl rfl (cntList Q.cnt) rfl (by rw [cntList_len, cnt_cells]) 41 cntZero (heap_alloc_new w5 _) (by rw [cntList_len, cntZero_size]) (cntList_one _) ?_))
      obtain ⟨x, hx⟩ : ∃ x, x = w5.heap.size := ⟨_, rfl⟩
      obtain ⟨w6, hw6⟩ : ∃ w6, w6 = (w5.alloc (.cells cntZero 41)).setRow w5.heap.size (cntList Q.cnt).toArray := ⟨_, rfl⟩
      rw [← hw6]
      have k56 : Fresh w5 w6 := by rw [hw6]; exact ((Kept.refl _ _).alloc _).setRowNew (Nat.le_refl _) _
      have hx6 : w6.heap[x]? = some (.cells (cntList Q.cnt).toArray 41 (0, 0)) := by
        rw [hw6, hx, setRow_heap _ _ cntZero _ 41 (0, 0) (heap_alloc_new w5 _)]
      have hxb : x ≠ b := by have := lt_of_heap p5.heap; omega
      rw [← hx]
      have p6 := p5.kept k56 id
      have q6 := q5.kept k56 id
      have k6 := k5.trans k56
      clear hw6 hx p5 q5 k5 k56 k45 k4 k3 h4 hq4
      go_loopw [67] (fun i wr => ∃ k : Nat, k ≤ l2.length ∧ i = .int .i64 k ∧ ∃ Q', PoolAt wr b Q' ∧ MarkInv Q' Q.cnt ∧ Q'.size = Q.size ∧ Kept (fun j => j = b) w6 wr) (fun i _ => l2.length - (intOf i).toNat)
      case atStart => exact ⟨0, Nat.zero_le _, rfl, _, p6, hst.out, rfl, Kept.refl _ _⟩
      case round =>
        obtain ⟨k, hk, rfl, R, hR, hM, hsz, hkk⟩ := hrel
        by_cases hlt : k < l2.length
        · obtain ⟨y, hy⟩ : ∃ y, l2[k]? = some y := ⟨_, List.getElem?_eq_getElem hlt⟩
          obtain ⟨ab, ao, rfl, hab, c1, c2⟩ := hget2'.out k y hy
          have c1' := hkk.cell (k6.cell c1 id) (fun e => by simp at e; omega)
          have c2' := hkk.cell (k6.cell c2 id) (fun e => by simp at e; omega)
          have hQa := fun o => hR.kept ((Kept.refl (fun _ => False) wr).alloc o) id
          have hka := fun o => hkk.alloc o
          have hQa' := Lib.hid hQa; clear hQa
          have hka' := Lib.hid hka; clear hka
          have hM' := Lib.hid hM; clear hM
          have hsz' := Lib.hid hsz; clear hsz
          clear c1 c2
          have hy' := Lib.hid hy; clear hy
          obtain ⟨x1, x2⟩ := y
          dsimp only at c1' c2'
          by_cases g0 : x1 = 0
          · subst g0
            have ts := hM'.out.take
            have tk := fun o => take_all (hQa'.out o)
            rcases hti : R.takeIx with _ | i
            · have e1 : R.takeErr = 71 := by simp [PM.takeErr, hti]
              rw [e1] at tk
              have tk' := Lib.hid tk; clear tk e1
              have ts' := Lib.hid ts; clear ts hti
              go_wp2_with fail
              refine (tk'.out _).mono ?_
              rintro e w7 ⟨rfl, h7⟩
              have k7 := (hka'.out _).trans h7.kept
              go_wp2_with fail
              go_roundw
              case rel => exact ⟨k + 1, by omega, by go_num, _, h7.pool, ts'.out.1, by rw [sz_take]; exact hsz'.out, k7⟩
              case measure => simp [intOf]; omega
            · have e1 : R.takeErr = 0 := by simp [PM.takeErr, hti]
              have e2 : R.takeAns = i := by simp [PM.takeAns, hti]
              have hil : i < 240 := Nat.lt_of_lt_of_le (PM.takeN_some hti).1 hR.hsize
              have hB0 := ts.2 i hti
              rw [e1, e2] at tk
              have tk' := Lib.hid tk; clear tk e1 e2
              have ts' := Lib.hid ts; clear ts hti
              have hB0' := Lib.hid hB0; clear hB0
              go_wp2_with fail
              refine (tk'.out _).mono ?_
              rintro e w7 ⟨rfl, h7⟩
              have k7 := (hka'.out _).trans h7.kept
              have hcell : w7.cell? ⟨x, i, none⟩ = some (.int .u8 0) := by
                rw [cell_of_heap (k7.get hx6 hxb)]
                have := cntList_get Q.cnt i hil
                rw [hB0'.out] at this
                simpa using this
              have hil' : (i : Int) < 240 := by omega
              go_wp2_with fail
              go_roundw
              case rel => exact ⟨k + 1, by omega, by go_num, _, h7.pool, ts'.out.1, by rw [sz_take]; exact hsz'.out, k7⟩
              case measure => simp [intOf]; omega
          by_cases g1 : x1 = 1
          · subst g1
            go_wp2_with fail
            refine (hold_all (hQa'.out _) x2).mono ?_
            rintro e w7 ⟨rfl, h7⟩
            have k7 := (hka'.out _).trans h7.kept
            go_wp2_with fail
            go_roundw
            case rel => exact ⟨k + 1, by omega, by go_num, _, h7.pool, hM'.out.hold _, by rw [sz_hold]; exact hsz'.out, k7⟩
            case measure => simp [intOf]; omega
          by_cases g2 : x1 = 2
          · subst g2
            go_wp2_with fail
            refine (drop_all (hQa'.out _) x2).mono ?_
            rintro e w7 ⟨rfl, h7⟩
            have k7 := (hka'.out _).trans h7.kept
            go_wp2_with fail
            go_roundw
            case rel => exact ⟨k + 1, by omega, by go_num, _, h7.pool, hM'.out.drop _, by rw [sz_drop]; exact hsz'.out, k7⟩
            case measure => simp [intOf]; omega
          have e0 : (x1 == 0) = false := by simpa using g0
          have e1 : (x1 == 1) = false := by simpa using g1
          have e2 : (x1 == 2) = false := by simpa using g2
          clear g0 g1 g2
          go_wp2_with fail
          go_roundw
          case rel => exact ⟨k + 1, by omega, by go_num, R, hQa'.out _, hM'.out, hsz'.out, hka'.out _⟩
          case measure => simp [intOf]; omega
        · have hx7 := hkk.get hx6 hxb
          have q7 := q6.kept hkk hqb
          have k7 : Fresh w wr := k6.then_new hkk (fun j e => e ▸ hb)
          have hsz' : Hid (R.size = (Q.turned 1 2).size) := hsz
          clear hsz hM
          obtain ⟨w8, rfl⟩ : ∃ w8 : World, w8 = wr := ⟨_, rfl⟩
          go_wp2_with fail
          refine wp_region_quiet (C := fun w' => Fresh w8 w') (by kernel_rfl) (by kernel_rfl) (Kept.refl _ _).drew ?_
          simp only []
          refine wpQuiet_step (fun K hK => ?_); go_simp; refine ⟨_, fun _ _ => rfl, hK _ ?_⟩; clear hK K
          refine wpQuiet_step (fun K hK => ?_); go_simp; refine ⟨_, fun W hW => by have := counts_any (q7.kept hW id); rw [hcv.out] at this; exact this.mono fun _ _ ⟨he, hk⟩ => ⟨he, hW.trans hk⟩, hK _ ?_⟩; clear hK K
          refine wpQuiet_step (fun K hK => ?_); refine q_on rfl (q_val (.agg (cntList Q.cnt).toArray) (fun W hW => exec_load_agg (g := x) (off := 0) rfl rfl (cntList Q.cnt) Try.underlying41 rfl (by rw [cntList_len, cnt_cells]) (fun j v hv => by rw [cell_of_heap (hW.get hx7 id), Nat.zero_add]; simpa using hv)) (hK _ ?_)); clear hK K
          refine wpQuiet_step (fun K hK => ?_); refine q_on rfl (q_val (.bool true) (fun W hW => by rw [exec_eql_arr (P := Try.prog) (k := .u8) rfl (fun i => (Q.cnt i : Int)) (fun i => (Q.cnt i : Int)) rfl rfl (by kernel_rfl) Try.underlying41 Try.underlying5 (by kernel_rfl)]; simp) (hK _ ?_)); clear hK K
          refine wpQuiet_step (fun K hK => ?_); go_simp; refine ⟨_, fun _ _ => rfl, hK _ ?_⟩; clear hK K
          refine wpQuiet_step (fun K hK => ?_); go_simp; refine ⟨_, fun _ _ => rfl, hK _ ?_⟩; clear hK K
          refine wpQuiet_step (fun K hK => ?_); go_simp; refine ⟨_, fun W hW => Calls.stay hW (size_any (q7.kept hW id)), hK _ ?_⟩; clear hK K
          refine wpQuiet_step (fun K hK => ?_); go_simp; refine ⟨_, fun _ _ => rfl, hK _ ?_⟩; clear hK K
          refine wpQuiet_step (fun K hK => ?_); go_simp; refine ⟨_, fun W hW => Calls.stay hW (by have := size_any (hR.kept hW id); rw [hsz'.out] at this; exact this), hK _ ?_⟩; clear hK K
          refine wpQuiet_step (fun K hK => ?_); go_simp; refine ⟨_, fun _ _ => rfl, hK _ ?_⟩; clear hK K
          refine wpQuiet_step (fun K hK => ?_); go_simp; refine ⟨_, fun _ _ => rfl, hK _ ?_⟩; clear hK K
          refine wpQuiet_step (fun K hK => ?_); go_simp; refine ⟨_, fun _ _ => rfl, hK _ ?_⟩; clear hK K
          refine wpQuiet_nil ?_
          intro w9 hw9
          go_wp2_with fail
          go_ret
          exact ⟨rfl, k7.trans hw9⟩
set_option maxRecDepth 100000 in
theorem lifted (os : Os) (started : os.Started) (H : Type) (enc : TypeId × Value → H) :
    ReturnsInHanded {} Try.checked os 5 .any (Rows.poolMarksSpec.pre6 enc Try.prog Try.f5 Rows.poolMarksRow.domain false) (Rows.poolMarksSpec.post enc Try.prog Try.f5 false true false false) := by
  refine law_lift os started 5 Try.f5 Try.func5 (by kernel_rfl) Rows.poolMarksSpec rfl ?_ rfl (by kernel_rfl)
    (ChangeSpec.witness6 (enc := enc) (C := Try.checked) false ⟨#[], #[.int .i64 0, .slice none 0 0, .slice none 0 0], []⟩ 8 (by kernel_rfl) (by kernel_rfl) (by kernel_rfl) (by kernel_rfl)) ?_
  · intro ds hds
    rw [Try.params5] at hds
    match ds, hds with
    | [_, _, _], _ => rfl
  · intro W base args ds p hval hA
    rw [Try.params5] at hA hval
    obtain ⟨v0, vs0, d0, ds0, p0, q0, hargs, rfl, rfl, h0, r0⟩ := trodAll_cons hA
    obtain ⟨v1, vs1, d1, ds1, p1, q1, rfl, rfl, rfl, h1, r1⟩ := trodAll_cons r0
    obtain ⟨v2, vs2, d2, ds2, p2, q2, rfl, rfl, rfl, h2, r2⟩ := trodAll_cons r1
    obtain ⟨rfl, rfl, rfl⟩ := trodAll_nil r2
    obtain rfl : args = #[v0, v1, v2] := by cases args; simp_all
    obtain ⟨a0, rfl, rfl, rfl, w0⟩ := open_int Try.underlying3 (hval 0 3 v0 rfl rfl) h0
    obtain ⟨a1, w1⟩ := open_pairs Try.underlying37 Try.underlying39 rfl rfl rfl Try.underlying3 Try.underlying3 (by kernel_rfl) (by kernel_rfl) (by kernel_rfl) (hval 1 37 v1 rfl rfl) h1
    obtain ⟨a2, w2⟩ := open_pairs Try.underlying37 Try.underlying39 rfl rfl rfl Try.underlying3 Try.underlying3 (by kernel_rfl) (by kernel_rfl) (by kernel_rfl) (hval 2 37 v2 rfl rfl) h2
    exact (walk a0 (wf_i64 w0) v1 a1 w1 v2 a2 w2).mono fun e W' ⟨he, hk⟩ => ⟨he, hk.below (Nat.le_refl _) (fun _ _ h => h)⟩

theorem over : Rows.poolMarksRow.holds Try.pinned (OpenSpec.ofChange Rows.poolMarksSpec) :=
  OpenClaim.holds_of_wide 5 Try.f5 rfl rfl rfl rfl rfl rfl rfl ⟨rfl, rfl, rfl, rfl, rfl⟩ rfl rfl rfl rfl rfl (by kernel_rfl) Try.func5 (joined_of _ _ _ _ rfl rfl rfl (by kernel_rfl))
    (of_decide_eq_true (by kernel_rfl)) (by unfold Func.isWrapper; rw [if_neg (by decide +kernel)]; exact ⟨rfl, rfl⟩)
    (fun os started H enc _ => lifted os started H enc)

theorem proved : Rows.PoolMarksSaid := over
#print axioms proved
end Go.Proofs.Ytgajongbbaccjaa.poolMarks
