/-
  PoolTurns: whatever size, times and committed are, the law answers true. No conditions.
-/
import Derived.Test.YtgajongbbaccjaaPoolL
import Derived.Test.YtgajongbbaccjaaLaw
namespace Go.Proofs.Ytgajongbbaccjaa.poolTurns
open Go.ChangeShapes Go.WideShapes Go.ChangeAt Go.RowKit

/-- A pool of n pages of which the first one alone has a count c and a state s. -/
def TP (n c s : Nat) : PM := { size := n, cnt := fun j => if j = 0 then c else 0, st := fun j => if j = 0 then s else 0 }
theorem tp_fresh (n : Nat) : PM.fresh0 n = TP n 0 0 := by simp [PM.fresh0, TP]
theorem tp_st (n c s v : Nat) : (TP n c s).setSt 0 v = TP n c v := by
  simp only [PM.setSt, TP, PM.mk.injEq, true_and]
  funext j; split <;> rfl
theorem tp_cnt (n c s v : Nat) : (TP n c s).setCnt 0 v = TP n v s := by
  simp only [PM.setCnt, TP, PM.mk.injEq, true_and, and_true]
  funext j; split <;> rfl
theorem tp_commit (n c s : Nat) : (TP n c s).committed = TP n c 0 := by simp [PM.committed, TP]
theorem tp_freeB0 (n c s : Nat) : (TP n c s).freeB 0 = (c == 0 && s == 0) := by simp [PM.freeB, TP]
theorem tp_freeB (n c s j : Nat) (hj : j ≠ 0) : (TP n c s).freeB j = true := by simp [PM.freeB, TP, hj]
theorem tp_freeN (n c s k : Nat) : (TP n c s).freeN (k + 1) = k + (if c == 0 && s == 0 then 1 else 0) := by
  induction k with
  | zero => simp [PM.freeN, tp_freeB0]
  | succ k ih => rw [PM.freeN, ih, tp_freeB _ _ _ _ (by omega)]; simp; omega
theorem tp_free (n c s : Nat) (hn : 1 ≤ n) : (TP n c s).freeCount = if c == 0 && s == 0 then n else n - 1 := by
  obtain ⟨k, rfl⟩ : ∃ k, n = k + 1 := ⟨n - 1, by omega⟩
  unfold PM.freeCount
  show (TP (k + 1) c s).freeN (k + 1) = _
  rw [tp_freeN]
  split <;> omega
theorem tp_held (n c s : Nat) (hn : 1 ≤ n) : (TP n c s).heldB (0 : Nat) = (decide (0 < c) || s == 1 || s == 2) := by
  have : (TP n c s).thereB (0 : Nat) = true := by simp [PM.thereB, TP]; omega
  simp only [PM.heldB, PM.freshB, this, Bool.true_and, Int.toNat_natCast]
  simp [TP, Bool.or_assoc]
theorem tp_dropTo (n c s : Nat) : (TP n c s).dropTo 0 = if 1 < c then TP n (c - 1) s else TP n 0 (PM.lastSt s) := by
  unfold PM.dropTo
  rw [show (TP n c s).cnt 0 = c from rfl, show (TP n c s).st 0 = s from rfl, tp_cnt, tp_cnt, tp_st]
theorem tp_count (n c s : Nat) (hn : 1 ≤ n) : (TP n c s).countI (0 : Nat) = c := by
  have h : (TP n c s).thereB (0 : Nat) = true := by simp [PM.thereB, TP]; omega
  unfold PM.countI
  rw [if_pos h]
  rfl

set_option maxRecDepth 100000
theorem walk (size : Int) (_hs : -9223372036854775808 ≤ size ∧ size ≤ 9223372036854775807) (times : Int) (_ht : -9223372036854775808 ≤ times ∧ times ≤ 9223372036854775807) (co : Bool) (w : World) :
    Calls Try.prog 4 #[.int .i64 size, .int .i64 times, .bool co] w fun e w' => e = .returned (.bool true) ∧ Fresh w w' := by
  by_cases hbad : size < 1 ∨ size > 240 ∨ times < 1 ∨ times > 255
  · rcases Int.lt_or_le size 1 with h1 | h1
    · go_enter Try.func4, Try.ntmps4
      go_wp2_with fail
      refine (poolAlive_any _).mono ?_
      rintro e w1 ⟨rfl, k1⟩
      go_wp2_with fail
      go_ret
      exact ⟨rfl, k1⟩
    rcases Int.lt_or_le 240 size with h2 | h2
    · go_enter Try.func4, Try.ntmps4
      go_wp2_with fail
      refine (poolAlive_any _).mono ?_
      rintro e w1 ⟨rfl, k1⟩
      go_wp2_with fail
      go_ret
      exact ⟨rfl, k1⟩
    rcases Int.lt_or_le times 1 with h3 | h3
    · go_enter Try.func4, Try.ntmps4
      go_wp2_with fail
      refine (poolAlive_any _).mono ?_
      rintro e w1 ⟨rfl, k1⟩
      go_wp2_with fail
      go_ret
      exact ⟨rfl, k1⟩
    have h4 : 255 < times := by omega
    go_enter Try.func4, Try.ntmps4
    go_wp2_with fail
    refine (poolAlive_any _).mono ?_
    rintro e w1 ⟨rfl, k1⟩
    go_wp2_with fail
    go_ret
    exact ⟨rfl, k1⟩
  · obtain ⟨n, rfl⟩ := Int.eq_ofNat_of_zero_le (show 0 ≤ size by omega)
    obtain ⟨t, rfl⟩ := Int.eq_ofNat_of_zero_le (show 0 ≤ times by omega)
    have b1 : 1 ≤ n := by omega
    have b2 : n ≤ 240 := by omega
    have b3 : 1 ≤ t := by omega
    have b4 : t ≤ 255 := by omega
    clear hbad
    have hcl : Hid (clampN (n : Int) = n) := by unfold clampN Hid; omega
    go_enter Try.func4, Try.ntmps4
    go_wp2_with fail
    refine (poolAlive_any _).mono ?_
    rintro e w1 ⟨rfl, k1⟩
    go_wp2_with fail
    refine (new_any _ _).mono ?_
    rintro e w2 ⟨b, rfl, h2⟩
    rw [hcl.out, tp_fresh] at h2
    have hb : w.heap.size ≤ b := Nat.le_trans k1.size h2.new
    have k2 := k1.trans h2.kept
    go_wp2_with fail
    refine (take_some h2.pool 0 b1 (by rw [tp_freeB0]; rfl) (by omega)).mono ?_
    rintro e w3 ⟨rfl, h3⟩
    have k3 := h3.after k2 hb
    rw [tp_st] at h3
    go_wp2_with fail
    refine (freeCount_any h3.pool).mono ?_
    rintro e w4 ⟨rfl, rfl⟩
    rw [tp_free _ _ _ b1, if_neg (by decide)]
    have e1 : Hid (((n - 1 : Nat) : Int) = (n : Int) - 1) := by unfold Hid; omega
    rw [e1.out]
    go_wp2_with fail
    go_loopw [10] (fun i wr => ∃ k : Nat, k ≤ t ∧ i = .int .i64 k ∧ PoolAt wr b (TP n k 1) ∧ Fresh w wr) (fun i _ => t - (intOf i).toNat)
    case atStart => exact ⟨0, Nat.zero_le _, rfl, h3.pool, k3⟩
    case round =>
      obtain ⟨k, hk, rfl, hpk, hkk⟩ := hrel
      by_cases hlt : k < t
      · go_wp2_with fail
        refine (hold_ok hpk 0 (by rw [tp_held _ _ _ b1]; simp) (by show k < 255; omega)).mono ?_
        rintro e w5 ⟨rfl, h5⟩
        have k5 := h5.after hkk hb
        rw [tp_cnt] at h5
        go_wp2_with fail
        go_roundw
        case rel => exact ⟨k + 1, by omega, by go_num, h5.pool, k5⟩
        case measure => simp [intOf]; omega
      · obtain rfl : k = t := by omega
        clear hlt hk
        obtain ⟨wo, rfl⟩ : ∃ wo : World, wo = wr := ⟨_, rfl⟩
        by_cases h255 : k = 255
        · have hb255 : ((k : Int) == 255) = true := by simp; omega
          have h255' := Lib.hid h255; clear h255
          cases co
          · go_wp2_with fail
            refine (hold_full hpk 0 (by rw [tp_held _ _ _ b1]; simp) (by show k = 255; exact h255'.out)).mono ?_
            rintro e w6 ⟨rfl, rfl⟩
            go_wp2_with fail
            have k7 := hkk
            have p7 := hpk
            go_loopw [11, 12, 13] (fun i _ _ wr => ∃ q : Nat, q ≤ k ∧ i = .int .i64 q ∧ PoolAt wr b (if q < k then TP n (k - q) 1 else TP n 0 0) ∧ Fresh w wr) (fun i _ _ _ => k - (intOf i).toNat)
            case atStart => exact ⟨0, Nat.zero_le _, rfl, by rw [if_pos (by omega)]; exact p7, k7⟩
            case round =>
              obtain ⟨q, hq, rfl, hpq, hkq⟩ := hrel
              by_cases hlt : q < k
              · rw [if_pos hlt] at hpq
                have hd := drop_held hpq 0 (by rw [tp_held _ _ _ b1]; simp)
                rw [tp_dropTo, show (TP n (k - q) 1).cnt 0 = k - q from rfl] at hd
                by_cases hl : q + 1 < k
                · have e2 : decide (k - q ≤ 1) = false := by simp; omega
                  rw [e2, if_pos (by omega)] at hd
                  have e3 : ((q : Int) == (k : Int) - 1) = false := by simp; omega
                  go_wp2_with fail
                  refine hd.mono ?_
                  rintro e w9 ⟨rfl, h9⟩
                  have k9 := h9.after hkq hb
                  clear e2
                  go_wp2_with fail
                  go_roundw
                  case rel => exact ⟨q + 1, by omega, by go_num, by rw [if_pos (by omega)]; exact h9.pool, k9⟩
                  case measure => simp [intOf]; omega
                · have e2 : decide (k - q ≤ 1) = true := by simp; omega
                  rw [e2, if_neg (by omega)] at hd
                  have e3 : ((q : Int) == (k : Int) - 1) = true := by simp; omega
                  go_wp2_with fail
                  refine hd.mono ?_
                  rintro e w9 ⟨rfl, h9⟩
                  have k9 := h9.after hkq hb
                  clear e2
                  go_wp2_with fail
                  go_roundw
                  case rel => exact ⟨q + 1, by omega, by go_num, by rw [if_neg (by omega)]; exact h9.pool, k9⟩
                  case measure => simp [intOf]; omega
              · rw [if_neg hlt] at hpq
                go_wp2_with fail
                refine (drop_free hpq 0 (by have := tp_held n 0 0 b1; simpa using this)).mono ?_
                rintro e w11 ⟨rfl, rfl⟩
                go_wp2_with fail
                have k12 := hkq
                have p12 := hpq
                refine (freeCount_any p12).mono ?_
                rintro e w13 ⟨rfl, rfl⟩
                rw [tp_free _ _ _ b1, if_pos (by decide)]
                go_wp2_with fail
                refine (count_any p12 0).mono ?_
                rintro e w14 ⟨rfl, rfl⟩
                rw [show PM.countI (TP n 0 0) 0 = 0 from tp_count n 0 0 b1]
                go_wp2_with fail
                go_ret
                exact ⟨rfl, k12⟩
          · go_wp2_with fail
            refine (hold_full hpk 0 (by rw [tp_held _ _ _ b1]; simp) (by show k = 255; exact h255'.out)).mono ?_
            rintro e w6 ⟨rfl, rfl⟩
            go_wp2_with fail
            refine (commit_any hpk).mono ?_
            rintro e w7 ⟨rfl, h7⟩
            have k7 := h7.after hkk hb
            have p7 := h7.pool
            rw [tp_commit] at p7
            go_wp2_with fail
            go_loopw [11, 12, 13] (fun i _ _ wr => ∃ q : Nat, q ≤ k ∧ i = .int .i64 q ∧ PoolAt wr b (if q < k then TP n (k - q) 0 else TP n 0 4) ∧ Fresh w wr) (fun i _ _ _ => k - (intOf i).toNat)
            case atStart => exact ⟨0, Nat.zero_le _, rfl, by rw [if_pos (by omega)]; exact p7, k7⟩
            case round =>
              obtain ⟨q, hq, rfl, hpq, hkq⟩ := hrel
              by_cases hlt : q < k
              · rw [if_pos hlt] at hpq
                have hd := drop_held hpq 0 (by rw [tp_held _ _ _ b1]; simp; omega)
                rw [tp_dropTo, show (TP n (k - q) 0).cnt 0 = k - q from rfl] at hd
                by_cases hl : q + 1 < k
                · have e2 : decide (k - q ≤ 1) = false := by simp; omega
                  rw [e2, if_pos (by omega)] at hd
                  have e3 : ((q : Int) == (k : Int) - 1) = false := by simp; omega
                  go_wp2_with fail
                  refine hd.mono ?_
                  rintro e w9 ⟨rfl, h9⟩
                  have k9 := h9.after hkq hb
                  clear e2
                  go_wp2_with fail
                  go_roundw
                  case rel => exact ⟨q + 1, by omega, by go_num, by rw [if_pos (by omega)]; exact h9.pool, k9⟩
                  case measure => simp [intOf]; omega
                · have e2 : decide (k - q ≤ 1) = true := by simp; omega
                  rw [e2, if_neg (by omega)] at hd
                  have e3 : ((q : Int) == (k : Int) - 1) = true := by simp; omega
                  go_wp2_with fail
                  refine hd.mono ?_
                  rintro e w9 ⟨rfl, h9⟩
                  have k9 := h9.after hkq hb
                  clear e2
                  go_wp2_with fail
                  go_roundw
                  case rel => exact ⟨q + 1, by omega, by go_num, by rw [if_neg (by omega)]; exact h9.pool, k9⟩
                  case measure => simp [intOf]; omega
              · rw [if_neg hlt] at hpq
                go_wp2_with fail
                refine (freeCount_any hpq).mono ?_
                rintro e w10 ⟨rfl, rfl⟩
                rw [tp_free _ _ _ b1, if_neg (by decide), e1.out]
                go_wp2_with fail
                refine (drop_free hpq 0 (by have := tp_held n 0 4 b1; simpa using this)).mono ?_
                rintro e w11 ⟨rfl, rfl⟩
                go_wp2_with fail
                refine (commit_any hpq).mono ?_
                rintro e w12 ⟨rfl, h12⟩
                have k12 := h12.after hkq hb
                have p12 := h12.pool
                rw [tp_commit] at p12
                go_wp2_with fail
                refine (freeCount_any p12).mono ?_
                rintro e w13 ⟨rfl, rfl⟩
                rw [tp_free _ _ _ b1, if_pos (by decide)]
                go_wp2_with fail
                refine (count_any p12 0).mono ?_
                rintro e w14 ⟨rfl, rfl⟩
                rw [show PM.countI (TP n 0 0) 0 = 0 from tp_count n 0 0 b1]
                go_wp2_with fail
                go_ret
                exact ⟨rfl, k12⟩
        · have hb255 : ((k : Int) == 255) = false := by simp; omega
          have h255' := Lib.hid h255; clear h255
          cases co
          · go_wp2_with fail
            have k7 := hkk
            have p7 := hpk
            go_loopw [11, 12, 13] (fun i _ _ wr => ∃ q : Nat, q ≤ k ∧ i = .int .i64 q ∧ PoolAt wr b (if q < k then TP n (k - q) 1 else TP n 0 0) ∧ Fresh w wr) (fun i _ _ _ => k - (intOf i).toNat)
            case atStart => exact ⟨0, Nat.zero_le _, rfl, by rw [if_pos (by omega)]; exact p7, k7⟩
            case round =>
              obtain ⟨q, hq, rfl, hpq, hkq⟩ := hrel
              by_cases hlt : q < k
              · rw [if_pos hlt] at hpq
                have hd := drop_held hpq 0 (by rw [tp_held _ _ _ b1]; simp)
                rw [tp_dropTo, show (TP n (k - q) 1).cnt 0 = k - q from rfl] at hd
                by_cases hl : q + 1 < k
                · have e2 : decide (k - q ≤ 1) = false := by simp; omega
                  rw [e2, if_pos (by omega)] at hd
                  have e3 : ((q : Int) == (k : Int) - 1) = false := by simp; omega
                  go_wp2_with fail
                  refine hd.mono ?_
                  rintro e w9 ⟨rfl, h9⟩
                  have k9 := h9.after hkq hb
                  clear e2
                  go_wp2_with fail
                  go_roundw
                  case rel => exact ⟨q + 1, by omega, by go_num, by rw [if_pos (by omega)]; exact h9.pool, k9⟩
                  case measure => simp [intOf]; omega
                · have e2 : decide (k - q ≤ 1) = true := by simp; omega
                  rw [e2, if_neg (by omega)] at hd
                  have e3 : ((q : Int) == (k : Int) - 1) = true := by simp; omega
                  go_wp2_with fail
                  refine hd.mono ?_
                  rintro e w9 ⟨rfl, h9⟩
                  have k9 := h9.after hkq hb
                  clear e2
                  go_wp2_with fail
                  go_roundw
                  case rel => exact ⟨q + 1, by omega, by go_num, by rw [if_neg (by omega)]; exact h9.pool, k9⟩
                  case measure => simp [intOf]; omega
              · rw [if_neg hlt] at hpq
                go_wp2_with fail
                refine (drop_free hpq 0 (by have := tp_held n 0 0 b1; simpa using this)).mono ?_
                rintro e w11 ⟨rfl, rfl⟩
                go_wp2_with fail
                have k12 := hkq
                have p12 := hpq
                refine (freeCount_any p12).mono ?_
                rintro e w13 ⟨rfl, rfl⟩
                rw [tp_free _ _ _ b1, if_pos (by decide)]
                go_wp2_with fail
                refine (count_any p12 0).mono ?_
                rintro e w14 ⟨rfl, rfl⟩
                rw [show PM.countI (TP n 0 0) 0 = 0 from tp_count n 0 0 b1]
                go_wp2_with fail
                go_ret
                exact ⟨rfl, k12⟩
          · go_wp2_with fail
            refine (commit_any hpk).mono ?_
            rintro e w7 ⟨rfl, h7⟩
            have k7 := h7.after hkk hb
            have p7 := h7.pool
            rw [tp_commit] at p7
            go_wp2_with fail
            go_loopw [11, 12, 13] (fun i _ _ wr => ∃ q : Nat, q ≤ k ∧ i = .int .i64 q ∧ PoolAt wr b (if q < k then TP n (k - q) 0 else TP n 0 4) ∧ Fresh w wr) (fun i _ _ _ => k - (intOf i).toNat)
            case atStart => exact ⟨0, Nat.zero_le _, rfl, by rw [if_pos (by omega)]; exact p7, k7⟩
            case round =>
              obtain ⟨q, hq, rfl, hpq, hkq⟩ := hrel
              by_cases hlt : q < k
              · rw [if_pos hlt] at hpq
                have hd := drop_held hpq 0 (by rw [tp_held _ _ _ b1]; simp; omega)
                rw [tp_dropTo, show (TP n (k - q) 0).cnt 0 = k - q from rfl] at hd
                by_cases hl : q + 1 < k
                · have e2 : decide (k - q ≤ 1) = false := by simp; omega
                  rw [e2, if_pos (by omega)] at hd
                  have e3 : ((q : Int) == (k : Int) - 1) = false := by simp; omega
                  go_wp2_with fail
                  refine hd.mono ?_
                  rintro e w9 ⟨rfl, h9⟩
                  have k9 := h9.after hkq hb
                  clear e2
                  go_wp2_with fail
                  go_roundw
                  case rel => exact ⟨q + 1, by omega, by go_num, by rw [if_pos (by omega)]; exact h9.pool, k9⟩
                  case measure => simp [intOf]; omega
                · have e2 : decide (k - q ≤ 1) = true := by simp; omega
                  rw [e2, if_neg (by omega)] at hd
                  have e3 : ((q : Int) == (k : Int) - 1) = true := by simp; omega
                  go_wp2_with fail
                  refine hd.mono ?_
                  rintro e w9 ⟨rfl, h9⟩
                  have k9 := h9.after hkq hb
                  clear e2
                  go_wp2_with fail
                  go_roundw
                  case rel => exact ⟨q + 1, by omega, by go_num, by rw [if_neg (by omega)]; exact h9.pool, k9⟩
                  case measure => simp [intOf]; omega
              · rw [if_neg hlt] at hpq
                go_wp2_with fail
                refine (freeCount_any hpq).mono ?_
                rintro e w10 ⟨rfl, rfl⟩
                rw [tp_free _ _ _ b1, if_neg (by decide), e1.out]
                go_wp2_with fail
                refine (drop_free hpq 0 (by have := tp_held n 0 4 b1; simpa using this)).mono ?_
                rintro e w11 ⟨rfl, rfl⟩
                go_wp2_with fail
                refine (commit_any hpq).mono ?_
                rintro e w12 ⟨rfl, h12⟩
                have k12 := h12.after hkq hb
                have p12 := h12.pool
                rw [tp_commit] at p12
                go_wp2_with fail
                refine (freeCount_any p12).mono ?_
                rintro e w13 ⟨rfl, rfl⟩
                rw [tp_free _ _ _ b1, if_pos (by decide)]
                go_wp2_with fail
                refine (count_any p12 0).mono ?_
                rintro e w14 ⟨rfl, rfl⟩
                rw [show PM.countI (TP n 0 0) 0 = 0 from tp_count n 0 0 b1]
                go_wp2_with fail
                go_ret
                exact ⟨rfl, k12⟩
set_option maxRecDepth 100000 in
theorem lifted (os : Os) (started : os.Started) (H : Type) (enc : TypeId × Value → H) :
    ReturnsInHanded {} Try.checked os 4 .any (Rows.poolTurnsSpec.pre6 enc Try.prog Try.f4 Rows.poolTurnsRow.domain false) (Rows.poolTurnsSpec.post enc Try.prog Try.f4 false true false false) := by
  refine law_lift os started 4 Try.f4 Try.func4 (by kernel_rfl) Rows.poolTurnsSpec rfl ?_ rfl (by kernel_rfl)
    (ChangeSpec.witness6 (enc := enc) (C := Try.checked) false ⟨#[], #[.int .i64 0, .int .i64 0, .bool false], []⟩ 8 (by kernel_rfl) (by kernel_rfl) (by kernel_rfl) (by kernel_rfl)) ?_
  · intro ds hds
    rw [Try.params4] at hds
    match ds, hds with
    | [_, _, _], _ => rfl
  · intro W base args ds p hval hA
    rw [Try.params4] at hA hval
    obtain ⟨v0, vs0, d0, ds0, p0, q0, hargs, rfl, rfl, h0, r0⟩ := trodAll_cons hA
    obtain ⟨v1, vs1, d1, ds1, p1, q1, rfl, rfl, rfl, h1, r1⟩ := trodAll_cons r0
    obtain ⟨v2, vs2, d2, ds2, p2, q2, rfl, rfl, rfl, h2, r2⟩ := trodAll_cons r1
    obtain ⟨rfl, rfl, rfl⟩ := trodAll_nil r2
    obtain rfl : args = #[v0, v1, v2] := by cases args; simp_all
    obtain ⟨a0, rfl, rfl, rfl, w0⟩ := open_int Try.underlying3 (hval 0 3 v0 rfl rfl) h0
    obtain ⟨a1, rfl, rfl, rfl, w1⟩ := open_int Try.underlying3 (hval 1 3 v1 rfl rfl) h1
    obtain ⟨a2, rfl, rfl, rfl⟩ := open_bool Try.underlying4 (hval 2 4 v2 rfl rfl) h2
    exact (walk a0 (wf_i64 w0) a1 (wf_i64 w1) a2 W).mono fun e W' ⟨he, hk⟩ => ⟨he, hk.below (Nat.le_refl _) (fun _ _ h => h)⟩

theorem over : Rows.poolTurnsRow.holds Try.pinned (OpenSpec.ofChange Rows.poolTurnsSpec) :=
  OpenClaim.holds_of_wide 4 Try.f4 rfl rfl rfl rfl rfl rfl rfl ⟨rfl, rfl, rfl, rfl, rfl⟩ rfl rfl rfl rfl rfl (by kernel_rfl) Try.func4 (joined_of _ _ _ _ rfl rfl rfl (by kernel_rfl))
    (of_decide_eq_true (by kernel_rfl)) (by unfold Func.isWrapper; rw [if_neg (by decide +kernel)]; exact ⟨rfl, rfl⟩)
    (fun os started H enc _ => lifted os started H enc)

theorem proved : Rows.PoolTurnsSaid := over
#print axioms proved
end Go.Proofs.Ytgajongbbaccjaa.poolTurns
