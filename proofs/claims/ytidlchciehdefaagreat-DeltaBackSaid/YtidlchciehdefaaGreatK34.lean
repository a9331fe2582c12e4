/-
 Layer 17: one chunk, as the document has it (understudyref17.Chunk).
-/
import Derived.Test.YtidlchciehdefaaGreatK33
set_option linter.unusedVariables false
set_option linter.unusedSimpArgs false
namespace Go.Proofs.YtidlchciehdefaaGreat
open Go.RowKit
set_option maxRecDepth 100000

theorem chunkL_nil (s : Nat) (k : Int) : chunkL [] s k = [] := by
 unfold chunkL
 split <;> simp
theorem tailAt {W : World} {b off cap : Nat} {l : List ItemM} (h : ItemsAt W (.slice (some ⟨b, off, none⟩) l.length cap) l) (m : Nat) (hm : m ≤ l.length) :
  SliceAt W (.slice (some ⟨b, off + m * 18, none⟩) (l.length - m) (cap - m)) 18 (l.length - m) ((l.drop m).flatMap itemCells) := by
 obtain ⟨hl, A', cap', hv, h1, h2, h3⟩ := h
 injection hv with e1 e2 e3
 subst e1 e3
 refine ⟨by rw [items_len, List.length_drop], _, _, rfl, by omega, by omega, fun j u hj => ⟨b, off + m * 18, rfl, ?_⟩⟩
 rw [items_drop, List.getElem?_drop] at hj
 obtain ⟨b', off', hA', hc⟩ := h3 _ u hj
 injection hA' with e
 injection e with e1 e2
 subst e1 e2
 rw [Nat.add_assoc]
 exact hc
theorem headAt {W : World} {A : Option Addr} {cap n : Nat} {l : List ItemM} (h : SliceAt W (.slice A n cap) 18 n (l.flatMap itemCells)) (hn : n = l.length) (s : Nat) (hs : s ≤ n) :
  SliceAt W (.slice A s cap) 18 s ((l.take s).flatMap itemCells) := by
 obtain ⟨hl, A', cap', hv, h1, h2, h3⟩ := h
 injection hv with e1 e2 e3
 subst e1 e3
 refine ⟨by rw [items_len, List.length_take, Nat.min_eq_left (by omega)], _, _, rfl, by omega, h2, fun j u hj => ?_⟩
 rw [items_take, List.getElem?_take] at hj
 split at hj
 ·exact h3 j u hj
 ·cases hj
theorem empty_at (W : World) : ItemsAt W (.slice none 0 0) [] := ⟨rfl, none, 0, rfl, Nat.le_refl _, Nat.zero_le _, fun j u hj => by simp at hj⟩
set_option maxHeartbeats 4000000 in
theorem ref17Chunk {w : World} {v : Value} {l : List ItemM} (hv : ItemsAt w v l) (hn : l.length ≤ 1000) (size k : Int) (hk : 0 ≤ k) (hk2 : k ≤ 9223372036854775807) :
  Calls Tryz.prog 35 #[v, .int .i64 size, .int .i64 k] w fun e w' => ∃ u, e = .returned u ∧ ItemsAt w' u (chunkL l (boundI size).toNat k) ∧ Kept (fun _ => False) w w' := by
 obtain ⟨_, A, cap, rfl, hc1, hc2, hcell⟩ := id hv
 unfold maxLen at hc2
 by_cases hnil : l = []
 ·subst hnil
  have hvE := h_ hv
  clear hv hcell
  have hz : Hid (∀ k, chunkL [] (boundI size).toNat k = []) := h_ (fun k => chunkL_nil _ k)
  by_cases hk0 : 0 < k
  ·have e0 : decide ((0 : Int) < k) = true := decide_eq_true hk0
   have e1 : (k == 0) = false := by simp; omega
   have e2 : (k != 0) = true := by simp; omega
   have e3 : decide (k = 0) = false := by simp; omega
   have e4 : (!(k == 0)) = true := by simp; omega
   by_cases a1 : size < 1
   ·have d1 : decide (size < 1) = true := decide_eq_true a1
    have hs : (boundI size).toNat = 1 := by unfold boundI; omega
    go_enter Tryz.func35, Tryz.ntmps35
    go_wp2_with fail
    go_loopw [0, 2] (fun v i wr => v = .slice A 0 cap ∧ i = .int .i64 k ∧ Hid (wr = w)) (fun _ _ _ => 0)
    case atStart => exact ⟨rfl, rfl, h_ rfl⟩
    case round =>
     obtain ⟨rfl, rfl, hwr⟩ := hrel
     go_wp2_with fail
     go_ret
     refine ⟨_, rfl, ?_, ?_⟩
     ·rw [hz.out]; exact empty_at _
     ·rw [hwr.out]; exact Kept.refl _ _
   have d1 : decide (size < 1) = false := decide_eq_false a1
   by_cases a2 : 4 < size
   ·have d2 : decide ((4 : Int) < size) = true := decide_eq_true a2
    have hs : (boundI size).toNat = 4 := by unfold boundI; omega
    go_enter Tryz.func35, Tryz.ntmps35
    go_wp2_with fail
    go_loopw [0, 2] (fun v i wr => v = .slice A 0 cap ∧ i = .int .i64 k ∧ Hid (wr = w)) (fun _ _ _ => 0)
    case atStart => exact ⟨rfl, rfl, h_ rfl⟩
    case round =>
     obtain ⟨rfl, rfl, hwr⟩ := hrel
     go_wp2_with fail
     go_ret
     refine ⟨_, rfl, ?_, ?_⟩
     ·rw [hz.out]; exact empty_at _
     ·rw [hwr.out]; exact Kept.refl _ _
   have d2 : decide ((4 : Int) < size) = false := decide_eq_false a2
   obtain ⟨s, hsz⟩ : ∃ s : Nat, size = s := ⟨size.toNat, by omega⟩
   subst hsz
   have hs : (boundI (s : Int)).toNat = s := by unfold boundI; omega
   go_enter Tryz.func35, Tryz.ntmps35
   go_wp2_with fail
   go_loopw [0, 2] (fun v i wr => v = .slice A 0 cap ∧ i = .int .i64 k ∧ Hid (wr = w)) (fun _ _ _ => 0)
   case atStart => exact ⟨rfl, rfl, h_ rfl⟩
   case round =>
    obtain ⟨rfl, rfl, hwr⟩ := hrel
    go_wp2_with fail
    go_ret
    refine ⟨_, rfl, ?_, ?_⟩
    ·rw [hz.out]; exact empty_at _
    ·rw [hwr.out]; exact Kept.refl _ _
  ·obtain rfl : k = 0 := by omega
   by_cases a1 : size < 1
   ·have d1 : decide (size < 1) = true := decide_eq_true a1
    have hs : (boundI size).toNat = 1 := by unfold boundI; omega
    go_enter Tryz.func35, Tryz.ntmps35
    go_wp2_with fail
    go_loopw [0, 2] (fun v i wr => v = .slice A 0 cap ∧ i = .int .i64 0 ∧ Hid (wr = w)) (fun _ _ _ => 0)
    case atStart => exact ⟨rfl, rfl, h_ rfl⟩
    case round =>
     obtain ⟨rfl, rfl, hwr⟩ := hrel
     go_wp2_with fail
     go_ret
     refine ⟨_, rfl, ?_, ?_⟩
     ·rw [hz.out, hwr.out]; exact hvE.out
     ·rw [hwr.out]; exact Kept.refl _ _
   have d1 : decide (size < 1) = false := decide_eq_false a1
   by_cases a2 : 4 < size
   ·have d2 : decide ((4 : Int) < size) = true := decide_eq_true a2
    have hs : (boundI size).toNat = 4 := by unfold boundI; omega
    go_enter Tryz.func35, Tryz.ntmps35
    go_wp2_with fail
    go_loopw [0, 2] (fun v i wr => v = .slice A 0 cap ∧ i = .int .i64 0 ∧ Hid (wr = w)) (fun _ _ _ => 0)
    case atStart => exact ⟨rfl, rfl, h_ rfl⟩
    case round =>
     obtain ⟨rfl, rfl, hwr⟩ := hrel
     go_wp2_with fail
     go_ret
     refine ⟨_, rfl, ?_, ?_⟩
     ·rw [hz.out, hwr.out]; exact hvE.out
     ·rw [hwr.out]; exact Kept.refl _ _
   have d2 : decide ((4 : Int) < size) = false := decide_eq_false a2
   obtain ⟨s, hsz⟩ : ∃ s : Nat, size = s := ⟨size.toNat, by omega⟩
   subst hsz
   have hs : (boundI (s : Int)).toNat = s := by unfold boundI; omega
   go_enter Tryz.func35, Tryz.ntmps35
   go_wp2_with fail
   go_loopw [0, 2] (fun v i wr => v = .slice A 0 cap ∧ i = .int .i64 0 ∧ Hid (wr = w)) (fun _ _ _ => 0)
   case atStart => exact ⟨rfl, rfl, h_ rfl⟩
   case round =>
    obtain ⟨rfl, rfl, hwr⟩ := hrel
    go_wp2_with fail
    go_ret
    refine ⟨_, rfl, ?_, ?_⟩
    ·rw [hz.out, hwr.out]; exact hvE.out
    ·rw [hwr.out]; exact Kept.refl _ _
 have hlen : 0 < l.length := List.length_pos_iff.2 hnil
 obtain ⟨b, off, rfl⟩ : ∃ b off, A = some ⟨b, off, none⟩ := by
  obtain ⟨b, off, hA, _⟩ := hcell 0 _ (List.getElem?_eq_getElem (by rw [items_len]; omega))
  exact ⟨b, off, hA⟩
 have hv' := h_ hv
 clear hv hcell hnil
 by_cases a1 : size < 1
 ·have d1 : decide (size < 1) = true := decide_eq_true a1
  have hs : (boundI size).toNat = 1 := by unfold boundI; omega
  rw [hs]
  clear hs
  go_enter Tryz.func35, Tryz.ntmps35
  go_wp2_with fail
  go_loopw [0, 2] (fun v i wr => ∃ (m n' c' o : Nat) (q : Int), v = .slice (some ⟨b, o, none⟩) n' c' ∧ i = .int .i64 q ∧ n' ≤ 1000 ∧ n' ≤ c' ∧ c' ≤ 2 ^ 63 - 1 ∧ 0 < n' ∧ 0 ≤ q ∧ Hid (q = k - m ∧ n' = l.length - m * 1 ∧ c' = cap - m * 1 ∧ m * 1 < l.length ∧ wr = w ∧ o = off + m * 1 * 18)) (fun v _ _ => lenOfV v)
  case atStart => exact ⟨0, l.length, cap, off, k, rfl, rfl, hn, hc1, hc2, hlen, hk, h_ ⟨by omega, by omega, by omega, by omega, rfl, by omega⟩⟩
  case round =>
   obtain ⟨m, n', c', o, q, rfl, rfl, hn1, hn2, hc3, hn0, hq, hH⟩ := hrel
   by_cases hq0 : 0 < q
   ·have e1 : decide ((0 : Int) < q) = true := decide_eq_true hq0
    have e2 : decide ((0 : Int) < (n' : Int)) = true := decide_eq_true (by omega)
    by_cases hle : n' ≤ 1
    ·have e3 : decide ((n' : Int) ≤ 1) = true := decide_eq_true (by omega)
     have fin : Hid (chunkL l 1 k = [] ∧ wr = w) := h_ ⟨chunkL_end (N := m + 1) (by rw [Nat.add_mul, Nat.one_mul]; have h1 := hH.out.2.1; omega) (.inr (by have h1 := hH.out.1; omega)), hH.out.2.2.2.2.1⟩
     go_wp2_with fail
     go_ret
     refine ⟨_, rfl, ?_, ?_⟩
     ·rw [fin.out.1]; exact empty_at _
     ·rw [fin.out.2]; exact Kept.refl _ _
    ·have e3 : decide ((n' : Int) ≤ 1) = false := decide_eq_false (by omega)
     have e4 : (1 : Int) ≤ (n' : Int) := by omega
     have e5 : (1 : Int) ≤ (c' : Int) := by omega
     have hw1 : IntKind.i64.wrap (q - 1) = q - 1 := by rw [IntKind.wrap_i64]; have h1 := hH.out.1; omega
     have fin : Hid (q - 1 = k - ((m + 1 : Nat) : Int) ∧ n' - 1 = l.length - (m + 1) * 1 ∧ c' - 1 = cap - (m + 1) * 1 ∧ (m + 1) * 1 < l.length ∧ wr = w ∧ o + 1 * 18 = off + (m + 1) * 1 * 18) := h_ (by
      obtain ⟨h1, h2, h3, h4, h5, h7⟩ := hH.out
      have h6 : (m + 1) * 1 = m * 1 + 1 := by rw [Nat.add_mul, Nat.one_mul]
      exact ⟨by omega, by omega, by omega, by omega, h5, by rw [h6, h7, Nat.add_mul (m * 1) 1 18]; omega⟩)
     go_wp2_with fail
     go_roundw
     case rel => exact ⟨m + 1, n' - 1, c' - 1, o + 1 * 18, q - 1, by first | rfl | go_num, by first | rfl | go_num, by omega, by omega, by omega, by omega, by omega, fin⟩
     case measure => simp [lenOfV] <;> omega
   ·obtain rfl : q = 0 := by omega
    have hwr := hH.out.2.2.2.2.1
    subst hwr
    have hT := tailAt hv'.out (m * 1) (Nat.le_of_lt hH.out.2.2.2.1)
    rw [← hH.out.2.1, ← hH.out.2.2.1, ← hH.out.2.2.2.2.2] at hT
    have hC : chunkL l 1 k = (l.drop (m * 1)).take 1 := by
     have h1 := hH.out.1
     obtain rfl : k = (m : Int) := by omega
     exact chunkL_at
    have hlD : n' = (l.drop (m * 1)).length := by rw [List.length_drop]; exact hH.out.2.1
    by_cases hgt : 1 < n'
    ·have e3 : decide (1 < (n' : Int)) = true := decide_eq_true (by omega)
     have e5 : (1 : Int) ≤ (c' : Int) := by omega
     have e6 : (0 : Int) ≤ (1 : Int) := by omega
     have fin := h_ (headAt hT hlD 1 (by omega))
     have hCl : Hid (1 = (chunkL l 1 k).length) := h_ (by rw [hC, List.length_take, ← hlD]; omega)
     rw [← hC] at fin
     clear hT hC hlD
     go_wp2_with fail
     go_ret
     refine ⟨_, rfl, ?_, Kept.refl _ _⟩
     unfold ItemsAt
     rw [← hCl.out]
     exact fin.out
    ·have e3 : decide (1 < (n' : Int)) = false := decide_eq_false (by omega)
     have hCe : chunkL l 1 k = l.drop (m * 1) := by rw [hC, List.take_of_length_le (by omega)]
     rw [← hCe] at hT hlD
     have fin := h_ hT
     have hCl := h_ hlD
     clear hT hC hlD hCe
     go_wp2_with fail
     go_ret
     refine ⟨_, rfl, ?_, Kept.refl _ _⟩
     unfold ItemsAt
     rw [← hCl.out]
     exact fin.out
 have d1 : decide (size < 1) = false := decide_eq_false a1
 by_cases a2 : 4 < size
 ·have d2 : decide ((4 : Int) < size) = true := decide_eq_true a2
  have hs : (boundI size).toNat = 4 := by unfold boundI; omega
  rw [hs]
  clear hs
  go_enter Tryz.func35, Tryz.ntmps35
  go_wp2_with fail
  go_loopw [0, 2] (fun v i wr => ∃ (m n' c' o : Nat) (q : Int), v = .slice (some ⟨b, o, none⟩) n' c' ∧ i = .int .i64 q ∧ n' ≤ 1000 ∧ n' ≤ c' ∧ c' ≤ 2 ^ 63 - 1 ∧ 0 < n' ∧ 0 ≤ q ∧ Hid (q = k - m ∧ n' = l.length - m * 4 ∧ c' = cap - m * 4 ∧ m * 4 < l.length ∧ wr = w ∧ o = off + m * 4 * 18)) (fun v _ _ => lenOfV v)
  case atStart => exact ⟨0, l.length, cap, off, k, rfl, rfl, hn, hc1, hc2, hlen, hk, h_ ⟨by omega, by omega, by omega, by omega, rfl, by omega⟩⟩
  case round =>
   obtain ⟨m, n', c', o, q, rfl, rfl, hn1, hn2, hc3, hn0, hq, hH⟩ := hrel
   by_cases hq0 : 0 < q
   ·have e1 : decide ((0 : Int) < q) = true := decide_eq_true hq0
    have e2 : decide ((0 : Int) < (n' : Int)) = true := decide_eq_true (by omega)
    by_cases hle : n' ≤ 4
    ·have e3 : decide ((n' : Int) ≤ 4) = true := decide_eq_true (by omega)
     have fin : Hid (chunkL l 4 k = [] ∧ wr = w) := h_ ⟨chunkL_end (N := m + 1) (by rw [Nat.add_mul, Nat.one_mul]; have h1 := hH.out.2.1; omega) (.inr (by have h1 := hH.out.1; omega)), hH.out.2.2.2.2.1⟩
     go_wp2_with fail
     go_ret
     refine ⟨_, rfl, ?_, ?_⟩
     ·rw [fin.out.1]; exact empty_at _
     ·rw [fin.out.2]; exact Kept.refl _ _
    ·have e3 : decide ((n' : Int) ≤ 4) = false := decide_eq_false (by omega)
     have e4 : (4 : Int) ≤ (n' : Int) := by omega
     have e5 : (4 : Int) ≤ (c' : Int) := by omega
     have hw1 : IntKind.i64.wrap (q - 1) = q - 1 := by rw [IntKind.wrap_i64]; have h1 := hH.out.1; omega
     have fin : Hid (q - 1 = k - ((m + 1 : Nat) : Int) ∧ n' - 4 = l.length - (m + 1) * 4 ∧ c' - 4 = cap - (m + 1) * 4 ∧ (m + 1) * 4 < l.length ∧ wr = w ∧ o + 4 * 18 = off + (m + 1) * 4 * 18) := h_ (by
      obtain ⟨h1, h2, h3, h4, h5, h7⟩ := hH.out
      have h6 : (m + 1) * 4 = m * 4 + 4 := by rw [Nat.add_mul, Nat.one_mul]
      exact ⟨by omega, by omega, by omega, by omega, h5, by rw [h6, h7, Nat.add_mul (m * 4) 4 18]; omega⟩)
     go_wp2_with fail
     go_roundw
     case rel => exact ⟨m + 1, n' - 4, c' - 4, o + 4 * 18, q - 1, by first | rfl | go_num, by first | rfl | go_num, by omega, by omega, by omega, by omega, by omega, fin⟩
     case measure => simp [lenOfV] <;> omega
   ·obtain rfl : q = 0 := by omega
    have hwr := hH.out.2.2.2.2.1
    subst hwr
    have hT := tailAt hv'.out (m * 4) (Nat.le_of_lt hH.out.2.2.2.1)
    rw [← hH.out.2.1, ← hH.out.2.2.1, ← hH.out.2.2.2.2.2] at hT
    have hC : chunkL l 4 k = (l.drop (m * 4)).take 4 := by
     have h1 := hH.out.1
     obtain rfl : k = (m : Int) := by omega
     exact chunkL_at
    have hlD : n' = (l.drop (m * 4)).length := by rw [List.length_drop]; exact hH.out.2.1
    by_cases hgt : 4 < n'
    ·have e3 : decide (4 < (n' : Int)) = true := decide_eq_true (by omega)
     have e5 : (4 : Int) ≤ (c' : Int) := by omega
     have e6 : (0 : Int) ≤ (4 : Int) := by omega
     have fin := h_ (headAt hT hlD 4 (by omega))
     have hCl : Hid (4 = (chunkL l 4 k).length) := h_ (by rw [hC, List.length_take, ← hlD]; omega)
     rw [← hC] at fin
     clear hT hC hlD
     go_wp2_with fail
     go_ret
     refine ⟨_, rfl, ?_, Kept.refl _ _⟩
     unfold ItemsAt
     rw [← hCl.out]
     exact fin.out
    ·have e3 : decide (4 < (n' : Int)) = false := decide_eq_false (by omega)
     have hCe : chunkL l 4 k = l.drop (m * 4) := by rw [hC, List.take_of_length_le (by omega)]
     rw [← hCe] at hT hlD
     have fin := h_ hT
     have hCl := h_ hlD
     clear hT hC hlD hCe
     go_wp2_with fail
     go_ret
     refine ⟨_, rfl, ?_, Kept.refl _ _⟩
     unfold ItemsAt
     rw [← hCl.out]
     exact fin.out
 have d2 : decide ((4 : Int) < size) = false := decide_eq_false a2
 obtain ⟨s, hsz⟩ : ∃ s : Nat, size = s := ⟨size.toNat, by omega⟩
 subst hsz
 have hs : (boundI (s : Int)).toNat = s := by unfold boundI; omega
 rw [hs]
 clear hs
 go_enter Tryz.func35, Tryz.ntmps35
 go_wp2_with fail
 go_loopw [0, 2] (fun v i wr => ∃ (m n' c' o : Nat) (q : Int), v = .slice (some ⟨b, o, none⟩) n' c' ∧ i = .int .i64 q ∧ n' ≤ 1000 ∧ n' ≤ c' ∧ c' ≤ 2 ^ 63 - 1 ∧ 0 < n' ∧ 0 ≤ q ∧ Hid (q = k - m ∧ n' = l.length - m * s ∧ c' = cap - m * s ∧ m * s < l.length ∧ wr = w ∧ o = off + m * s * 18)) (fun v _ _ => lenOfV v)
 case atStart => exact ⟨0, l.length, cap, off, k, rfl, rfl, hn, hc1, hc2, hlen, hk, h_ ⟨by omega, by omega, by omega, by omega, rfl, by omega⟩⟩
 case round =>
  obtain ⟨m, n', c', o, q, rfl, rfl, hn1, hn2, hc3, hn0, hq, hH⟩ := hrel
  by_cases hq0 : 0 < q
  ·have e1 : decide ((0 : Int) < q) = true := decide_eq_true hq0
   have e2 : decide ((0 : Int) < (n' : Int)) = true := decide_eq_true (by omega)
   by_cases hle : n' ≤ s
   ·have e3 : decide ((n' : Int) ≤ s) = true := decide_eq_true (by omega)
    have fin : Hid (chunkL l s k = [] ∧ wr = w) := h_ ⟨chunkL_end (N := m + 1) (by rw [Nat.add_mul, Nat.one_mul]; have h1 := hH.out.2.1; omega) (.inr (by have h1 := hH.out.1; omega)), hH.out.2.2.2.2.1⟩
    go_wp2_with fail
    go_ret
    refine ⟨_, rfl, ?_, ?_⟩
    ·rw [fin.out.1]; exact empty_at _
    ·rw [fin.out.2]; exact Kept.refl _ _
   ·have e3 : decide ((n' : Int) ≤ s) = false := decide_eq_false (by omega)
    have e4 : (s : Int) ≤ (n' : Int) := by omega
    have e5 : (s : Int) ≤ (c' : Int) := by omega
    have hw1 : IntKind.i64.wrap (q - 1) = q - 1 := by rw [IntKind.wrap_i64]; have h1 := hH.out.1; omega
    have fin : Hid (q - 1 = k - ((m + 1 : Nat) : Int) ∧ n' - s = l.length - (m + 1) * s ∧ c' - s = cap - (m + 1) * s ∧ (m + 1) * s < l.length ∧ wr = w ∧ o + s * 18 = off + (m + 1) * s * 18) := h_ (by
     obtain ⟨h1, h2, h3, h4, h5, h7⟩ := hH.out
     have h6 : (m + 1) * s = m * s + s := by rw [Nat.add_mul, Nat.one_mul]
     exact ⟨by omega, by omega, by omega, by omega, h5, by rw [h6, h7, Nat.add_mul (m * s) s 18]; omega⟩)
    go_wp2_with fail
    go_roundw
    case rel => exact ⟨m + 1, n' - s, c' - s, o + s * 18, q - 1, by first | rfl | go_num, by first | rfl | go_num, by omega, by omega, by omega, by omega, by omega, fin⟩
    case measure => simp [lenOfV] <;> omega
  ·obtain rfl : q = 0 := by omega
   have hwr := hH.out.2.2.2.2.1
   subst hwr
   have hT := tailAt hv'.out (m * s) (Nat.le_of_lt hH.out.2.2.2.1)
   rw [← hH.out.2.1, ← hH.out.2.2.1, ← hH.out.2.2.2.2.2] at hT
   have hC : chunkL l s k = (l.drop (m * s)).take s := by
    have h1 := hH.out.1
    obtain rfl : k = (m : Int) := by omega
    exact chunkL_at
   have hlD : n' = (l.drop (m * s)).length := by rw [List.length_drop]; exact hH.out.2.1
   by_cases hgt : s < n'
   ·have e3 : decide ((s : Int) < (n' : Int)) = true := decide_eq_true (by omega)
    have e5 : (s : Int) ≤ (c' : Int) := by omega
    have e6 : (0 : Int) ≤ (s : Int) := by omega
    have fin := h_ (headAt hT hlD s (by omega))
    have hCl : Hid (s = (chunkL l s k).length) := h_ (by rw [hC, List.length_take, ← hlD]; omega)
    rw [← hC] at fin
    clear hT hC hlD
    go_wp2_with fail
    go_ret
    refine ⟨_, rfl, ?_, Kept.refl _ _⟩
    unfold ItemsAt
    rw [← hCl.out]
    exact fin.out
   ·have e3 : decide ((s : Int) < (n' : Int)) = false := decide_eq_false (by omega)
    have hCe : chunkL l s k = l.drop (m * s) := by rw [hC, List.take_of_length_le (by omega)]
    rw [← hCe] at hT hlD
    have fin := h_ hT
    have hCl := h_ hlD
    clear hT hC hlD hCe
    go_wp2_with fail
    go_ret
    refine ⟨_, rfl, ?_, Kept.refl _ _⟩
    unfold ItemsAt
    rw [← hCl.out]
    exact fin.out
end Go.Proofs.YtidlchciehdefaaGreat
