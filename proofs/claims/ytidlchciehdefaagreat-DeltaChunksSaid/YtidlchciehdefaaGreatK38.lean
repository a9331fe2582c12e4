/-
 Layer 17: DeltaChunks' walk.
-/
import Derived.Test.YtidlchciehdefaaGreatK37
set_option linter.unusedVariables false
set_option linter.unusedSimpArgs false
namespace Go.Proofs.YtidlchciehdefaaGreat
open Go.RowKit
set_option maxRecDepth 100000

theorem chunks_all (n : Nat) (size : Int) : (n : Int) ≤ chunksI n size * boundI size ∧ 1 ≤ chunksI n size ∧ (n ≤ 200 → chunksI n size ≤ 201) := by
 have h := boundI_in size
 unfold chunksI
 rcases h with h | h | h | h <;> rw [h] <;> split
 all_goals first | omega | (split <;> omega)
theorem take_chunk (l : List ItemM) (s i : Nat) : l.take (i * s) ++ chunkL l s i = l.take ((i + 1) * s) := by
 rw [chunkL_at, Nat.add_mul, Nat.one_mul, List.take_add]
structure ChSt (w : World) (l : List ItemM) (s i : Nat) (v : Value) (wr : World) : Prop where
 kept : Kept (fun _ => False) w wr
 row : wr.ownsRow w.heap.size 61 18 v (l.take (i * s)).length ((l.take (i * s)).flatMap itemCells)
set_option maxHeartbeats 16000000 in
theorem chunksWalk {w : World} (v : Value) (l : List ItemM) (hv : ItemsAt w v l) (hok : ∀ x ∈ l, x.ok) (size k0 : Int) (hk0 : -9223372036854775808 ≤ k0 ∧ k0 ≤ 9223372036854775807) :
  Calls Tryz.prog 8 #[v, .int .i64 size, .int .i64 k0] w fun e w' => e = .returned (.bool true) ∧ Kept (fun _ => False) w w' := by
 obtain ⟨_, A, cap, rfl, hc1, hc2, _⟩ := id hv
 unfold maxLen at hc2
 by_cases hbig : 200 < l.length
 ·have d0 : decide ((200 : Int) < (l.length : Int)) = true := decide_eq_true (by omega)
  clear hv hok
  go_enter Tryz.func8, Tryz.ntmps8
  go_wp2_with fail
  refine (deltaAlive _).mono ?_
  rintro e w1 ⟨rfl, k1⟩
  have K1 := h_ k1
  clear k1
  go_wp2_with fail
  go_ret
  exact ⟨rfl, K1.out⟩
 have d0 : decide ((200 : Int) < (l.length : Int)) = false := decide_eq_false (by omega)
 have hv' := h_ hv
 have hok' := h_ hok
 have hall := chunks_all l.length size
 obtain ⟨N, hN⟩ : ∃ N, chunksI l.length size = N := ⟨_, rfl⟩
 obtain ⟨s, hs⟩ : ∃ s : Nat, boundI size = s := ⟨(boundI size).toNat, by have := boundI_in size; omega⟩
 have hs4 : s ≤ 4 := by have := boundI_in size; omega
 have hA := fun w => deltaChunks l.length size (by omega) (by omega) w
 have hB := fun w => ref17Chunks l.length size (by omega) (by omega) w
 have hC := fun W (k : Int) (hK : Kept (fun _ => False) w W) => deltaChunk (SliceAt.fresh hv hK) (by omega) size k
 rw [hN] at hA hB hall
 rw [hs, Int.toNat_natCast] at hC
 rw [hs] at hall
 have hA' := h_ hA
 have hB' := h_ hB
 have hC' := h_ hC
 have hN1 : 1 ≤ N := hall.2.1
 have hN2 : N ≤ 201 := hall.2.2 (by omega)
 have hNs := h_ hall.1
 have hNN : (N == N) = true := by simp
 have hNn : (N != N) = false := by simp
 have hD : Hid (∀ W, Kept (fun _ => False) w W → 0 ≤ k0 → Calls Tryz.prog 35 #[.slice A l.length cap, .int .i64 size, .int .i64 k0] W fun e w' => ∃ u, e = .returned u ∧ ItemsAt w' u (chunkL l s k0) ∧ Kept (fun _ => False) W w') := h_ (fun W hK h0 => by
  have := ref17Chunk (SliceAt.fresh hv hK) (by omega) size k0 h0 hk0.2
  rw [hs, Int.toNat_natCast] at this
  exact this)
 have hcok : Hid (∀ x ∈ chunkL l s k0, x.ok) := h_ (fun x hx => hok x (by
  unfold chunkL at hx
  split at hx
  ·cases hx
  ·exact List.mem_of_mem_drop (List.mem_of_mem_take hx)))
 clear hv hok hA hB hC hall hN hs
 by_cases hneg : k0 < 0
 ·have d1 : decide ((0 : Int) ≤ k0) = false := decide_eq_false (by omega)
  have d2 : decide (k0 < 0) = true := decide_eq_true hneg
  have hCn : chunkL l s k0 = [] := by unfold chunkL; rw [if_pos hneg]
  have hC0 := fun W hK => hC'.out W k0 hK
  rw [hCn] at hC0
  have hC0' := h_ hC0
  clear hC0 hCn
  go_enter Tryz.func8, Tryz.ntmps8
  go_wp2_with fail
  refine (deltaAlive _).mono ?_
  rintro e w1 ⟨rfl, k1⟩
  have K1 := h_ k1
  clear k1
  go_wp2_with fail
  refine (hA'.out _).mono ?_
  rintro e w2 ⟨rfl, k2⟩
  have K2 := h_ (K1.out.trans k2)
  clear k2
  go_wp2_with fail
  refine (hB'.out _).mono ?_
  rintro e w2' ⟨rfl, rfl⟩
  go_wp2_with fail
  refine (hC0'.out _ K2.out).mono ?_
  rintro e w3 ⟨u, rfl, hown3, k3⟩
  obtain ⟨_, Au, cu, rfl, hu1, hu2, _⟩ := SliceAt.of_owns hown3
  have Kc := h_ (K2.out.trans k3)
  clear k3 hown3
  obtain ⟨wd, hwd⟩ : ∃ wd, w3.alloc (.cells #[] 61) = wd := ⟨_, rfl⟩
  have S0 : Hid (ChSt w l s 0 (.slice (some ⟨w3.heap.size, 0, none⟩) 0 0) wd) := h_ ⟨Kc.out.trans (by rw [← hwd]; exact (Kept.refl _ _).alloc _), by
   rw [Nat.zero_mul, List.take_zero]
   exact ⟨rfl, .inr ⟨w3.heap.size, 0, #[], rfl, Kc.out.size, by rw [← hwd]; exact heap_alloc_new _ _, Nat.le_refl _, Nat.zero_le _, rfl, rfl⟩⟩⟩
  have hwd' := h_ hwd
  clear hwd
  go_wp2_with fail
  rw [hwd'.out]
  go_loopw [8, 9] (fun v i wr => ∃ (k : Nat), (k : Int) ≤ N ∧ i = .int .i64 k ∧ Hid (ChSt w l s k v wr)) (fun _ i _ => (N - intOf i).toNat)
  case atStart => exact ⟨0, by omega, rfl, S0⟩
  case round =>
   obtain ⟨k, hk, rfl, hS⟩ := hrel
   obtain ⟨_, Av, cv, rfl, hv1, hv2, _⟩ := SliceAt.of_owns hS.out.row
   unfold maxLen at hv2
   by_cases hlt : (k : Int) < N
   ·have hki : decide ((k : Int) < N) = true := decide_eq_true hlt
    have hCk := hC'.out wr (k : Int) hS.out.kept
    have hw1 : IntKind.i64.wrap ((k : Int) + 1) = (k : Int) + 1 := by rw [IntKind.wrap_i64]; omega
    go_wp2_with fail
    refine hCk.mono ?_
    rintro e w4 ⟨u, rfl, hown4, hk4⟩
    obtain ⟨_, Au, cu, rfl, hu1, hu2, _⟩ := SliceAt.of_owns hown4
    have S4 := h_ (ownsRow.keptOf hS.out.row hk4 (fun _ _ => id))
    have sl4 := h_ (SliceAt.of_owns hown4)
    have one4 := h_ (items_one (chunkL l s k))
    have K4 := h_ (hS.out.kept.trans hk4)
    have hsz4 : Hid (w.heap.size ≤ w4.heap.size) := h_ K4.out.size
    have hlc : (l.take (k * s)).length ≤ 200 := by rw [List.length_take]; omega
    have hld : (chunkL l s k).length ≤ 200 := by rw [chunkL_at, List.length_take, List.length_drop]; omega
    have hcat : Hid ((l.take (k * s)).length + (chunkL l s k).length = (l.take ((k + 1) * s)).length ∧ (l.take (k * s)).flatMap itemCells ++ (chunkL l s k).flatMap itemCells = (l.take ((k + 1) * s)).flatMap itemCells) := h_ ⟨by rw [← take_chunk l s k, List.length_append], by rw [← take_chunk l s k, List.flatMap_append]⟩
    obtain ⟨X, hX⟩ : ∃ X, (l.take (k * s)).flatMap itemCells = X := ⟨_, rfl⟩
    obtain ⟨Y, hY⟩ : ∃ Y, (chunkL l s k).flatMap itemCells = Y := ⟨_, rfl⟩
    obtain ⟨a, ha⟩ : ∃ a, (l.take (k * s)).length = a := ⟨_, rfl⟩
    obtain ⟨b, hb⟩ : ∃ b, (chunkL l s k).length = b := ⟨_, rfl⟩
    rw [hX, ha] at S4
    rw [hY, hb] at sl4
    rw [hY] at one4
    rw [hX, hY, ha, hb] at hcat
    rw [ha] at hlc hv1 ⊢
    rw [hb] at hld hu1 ⊢
    clear hown4 hk4 hX hY ha hb
    go_wp2_with (at_builtin; refine wpList_append_src rfl elemItem (.tmp 59) (.tmp 63) rfl (by rfl) (by rfl) S4.out sl4.out one4.out (by omega) (by omega) hsz4.out ?_; intro v8 w8 hown8 hg8 hat8)
    have fin : Hid (ChSt w l s (k + 1) v8 w8) := h_ ⟨K4.out.grown hg8 (fun r e => .inr (by have := (S4.out.lt r e).1; exact this)), by rw [hcat.out.1, hcat.out.2] at hown8; exact hown8⟩
    clear hown8 hg8 hat8
    go_wp2_with fail
    go_roundw
    case rel => exact ⟨k + 1, by omega, by go_num, fin⟩
    case measure => simp [intOf] <;> omega
   ·have hki : decide ((k : Int) < N) = false := decide_eq_false hlt
    have hall : l.take (k * s) = l := List.take_of_length_le (by
     have h1 := hNs.out
     have h2 : (k : Int) = N := by omega
     rw [← h2] at h1
     have h3 : ((k * s : Nat) : Int) = (k : Int) * (s : Int) := by push_cast; rfl
     omega)
    have hr := SliceAt.of_owns hS.out.row
    rw [hall] at hr hv1 ⊢
    have hSm := ref17Same (u := .slice Av l.length cv) (l := l) hr (SliceAt.fresh hv'.out hS.out.kept) hok'.out
    have hSm' := h_ hSm
    have K5 := h_ hS.out.kept
    clear hr hSm hS hall
    go_wp2_with fail
    refine hSm'.out.mono ?_
    rintro e w5 ⟨rfl, k5⟩
    have fin := h_ (K5.out.trans k5)
    clear k5
    go_wp2_with fail
    go_ret
    exact ⟨rfl, fin.out⟩
 ·have hpos : 0 ≤ k0 := by omega
  have d1 : decide ((0 : Int) ≤ k0) = true := decide_eq_true hpos
  have d2 : decide (k0 < 0) = false := decide_eq_false hneg
  go_enter Tryz.func8, Tryz.ntmps8
  go_wp2_with fail
  refine (deltaAlive _).mono ?_
  rintro e w1 ⟨rfl, k1⟩
  have K1 := h_ k1
  clear k1
  go_wp2_with fail
  refine (hA'.out _).mono ?_
  rintro e w2 ⟨rfl, k2⟩
  have K2 := h_ (K1.out.trans k2)
  clear k2
  go_wp2_with fail
  refine (hB'.out _).mono ?_
  rintro e w2' ⟨rfl, rfl⟩
  go_wp2_with fail
  refine (hC'.out _ k0 K2.out).mono ?_
  rintro e w3 ⟨u, rfl, hown3, k3⟩
  have S3 := h_ (SliceAt.of_owns hown3)
  have K3 := h_ (K2.out.trans k3)
  clear k3 hown3
  go_wp2_with fail
  refine (hD.out _ K3.out hpos).mono ?_
  rintro e w4 ⟨u2, rfl, S4, k4⟩
  have S5 := h_ (ref17Same (SliceAt.fresh S3.out k4) S4 hcok.out)
  have K4 := h_ (K3.out.trans k4)
  clear k4 S4
  go_wp2_with fail
  refine S5.out.mono ?_
  rintro e w5 ⟨rfl, k5⟩
  have Kc := h_ (K4.out.trans k5)
  clear k5
  obtain ⟨wd, hwd⟩ : ∃ wd, w5.alloc (.cells #[] 61) = wd := ⟨_, rfl⟩
  have S0 : Hid (ChSt w l s 0 (.slice (some ⟨w5.heap.size, 0, none⟩) 0 0) wd) := h_ ⟨Kc.out.trans (by rw [← hwd]; exact (Kept.refl _ _).alloc _), by
   rw [Nat.zero_mul, List.take_zero]
   exact ⟨rfl, .inr ⟨w5.heap.size, 0, #[], rfl, Kc.out.size, by rw [← hwd]; exact heap_alloc_new _ _, Nat.le_refl _, Nat.zero_le _, rfl, rfl⟩⟩⟩
  have hwd' := h_ hwd
  clear hwd
  go_wp2_with fail
  rw [hwd'.out]
  go_loopw [8, 9] (fun v i wr => ∃ (k : Nat), (k : Int) ≤ N ∧ i = .int .i64 k ∧ Hid (ChSt w l s k v wr)) (fun _ i _ => (N - intOf i).toNat)
  case atStart => exact ⟨0, by omega, rfl, S0⟩
  case round =>
   obtain ⟨k, hk, rfl, hS⟩ := hrel
   obtain ⟨_, Av, cv, rfl, hv1, hv2, _⟩ := SliceAt.of_owns hS.out.row
   unfold maxLen at hv2
   by_cases hlt : (k : Int) < N
   ·have hki : decide ((k : Int) < N) = true := decide_eq_true hlt
    have hCk := hC'.out wr (k : Int) hS.out.kept
    have hw1 : IntKind.i64.wrap ((k : Int) + 1) = (k : Int) + 1 := by rw [IntKind.wrap_i64]; omega
    go_wp2_with fail
    refine hCk.mono ?_
    rintro e w4 ⟨u, rfl, hown4, hk4⟩
    obtain ⟨_, Au, cu, rfl, hu1, hu2, _⟩ := SliceAt.of_owns hown4
    have S4 := h_ (ownsRow.keptOf hS.out.row hk4 (fun _ _ => id))
    have sl4 := h_ (SliceAt.of_owns hown4)
    have one4 := h_ (items_one (chunkL l s k))
    have K4 := h_ (hS.out.kept.trans hk4)
    have hsz4 : Hid (w.heap.size ≤ w4.heap.size) := h_ K4.out.size
    have hlc : (l.take (k * s)).length ≤ 200 := by rw [List.length_take]; omega
    have hld : (chunkL l s k).length ≤ 200 := by rw [chunkL_at, List.length_take, List.length_drop]; omega
    have hcat : Hid ((l.take (k * s)).length + (chunkL l s k).length = (l.take ((k + 1) * s)).length ∧ (l.take (k * s)).flatMap itemCells ++ (chunkL l s k).flatMap itemCells = (l.take ((k + 1) * s)).flatMap itemCells) := h_ ⟨by rw [← take_chunk l s k, List.length_append], by rw [← take_chunk l s k, List.flatMap_append]⟩
    obtain ⟨X, hX⟩ : ∃ X, (l.take (k * s)).flatMap itemCells = X := ⟨_, rfl⟩
    obtain ⟨Y, hY⟩ : ∃ Y, (chunkL l s k).flatMap itemCells = Y := ⟨_, rfl⟩
    obtain ⟨a, ha⟩ : ∃ a, (l.take (k * s)).length = a := ⟨_, rfl⟩
    obtain ⟨b, hb⟩ : ∃ b, (chunkL l s k).length = b := ⟨_, rfl⟩
    rw [hX, ha] at S4
    rw [hY, hb] at sl4
    rw [hY] at one4
    rw [hX, hY, ha, hb] at hcat
    rw [ha] at hlc hv1 ⊢
    rw [hb] at hld hu1 ⊢
    clear hown4 hk4 hX hY ha hb
    go_wp2_with (at_builtin; refine wpList_append_src rfl elemItem (.tmp 59) (.tmp 63) rfl (by rfl) (by rfl) S4.out sl4.out one4.out (by omega) (by omega) hsz4.out ?_; intro v8 w8 hown8 hg8 hat8)
    have fin : Hid (ChSt w l s (k + 1) v8 w8) := h_ ⟨K4.out.grown hg8 (fun r e => .inr (by have := (S4.out.lt r e).1; exact this)), by rw [hcat.out.1, hcat.out.2] at hown8; exact hown8⟩
    clear hown8 hg8 hat8
    go_wp2_with fail
    go_roundw
    case rel => exact ⟨k + 1, by omega, by go_num, fin⟩
    case measure => simp [intOf] <;> omega
   ·have hki : decide ((k : Int) < N) = false := decide_eq_false hlt
    have hall : l.take (k * s) = l := List.take_of_length_le (by
     have h1 := hNs.out
     have h2 : (k : Int) = N := by omega
     rw [← h2] at h1
     have h3 : ((k * s : Nat) : Int) = (k : Int) * (s : Int) := by push_cast; rfl
     omega)
    have hr := SliceAt.of_owns hS.out.row
    rw [hall] at hr hv1 ⊢
    have hSm := ref17Same (u := .slice Av l.length cv) (l := l) hr (SliceAt.fresh hv'.out hS.out.kept) hok'.out
    have hSm' := h_ hSm
    have K5 := h_ hS.out.kept
    clear hr hSm hS hall
    go_wp2_with fail
    refine hSm'.out.mono ?_
    rintro e w5 ⟨rfl, k5⟩
    have fin := h_ (K5.out.trans k5)
    clear k5
    go_wp2_with fail
    go_ret
    exact ⟨rfl, fin.out⟩
end Go.Proofs.YtidlchciehdefaaGreat
