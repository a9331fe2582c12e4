/-
 Layer 12: two with lists that are too long.
-/
import Derived.Test.YtdcnogjbmdhgaaaK12
import Derived.Test.YtdcnogjbmdhgaaaK16
import Derived.Test.YtdcnogjbmdhgaaaK22
import Derived.Test.YtdcnogjbmdhgaaaK25
import Derived.Test.YtdcnogjbmdhgaaaK26
import Derived.Deep.RegionHeld3
set_option linter.unusedVariables false
set_option linter.unusedSimpArgs false
namespace Go.Proofs.Ytdcnogjbmdhgaaa
open Go.RowKit
set_option maxRecDepth 100000

set_option maxHeartbeats 16000000 in
theorem two12_long0 {w : World} {A : SA} {M : SM} (h : StoreAt w A M) {ns : List Nat} (hns : ns.length = 4) {vp v0 v1 : Value} {l0 l1 : List (Int × Int)} (hp : PagesAt w vp ns A) (hv0 : EntsOff w A v0 l0) (hv1 : EntsOff w A v1 l1) (hl0 : 70 < l0.length) :
  Calls Try.prog 7 #[.agg #[.pointer (some ⟨A.sb, 0, none⟩)], vp, .agg #[v0, v1]] w fun e w' => ∃ A' M' a b X0 n0 c0 X1 n1 c1, e = .returned (.tuple #[.agg #[.int .i64 a, .int .i64 b], .agg #[.slice X0 n0 c0, .slice X1 n1 c1], .bool false]) ∧ StoreTo A A' M' w w' := by
 obtain ⟨A0, c0, rfl, ha1, ha2⟩ := hv0.at_.form
 obtain ⟨A1, c1, rfl, hb1, hb2⟩ := hv1.at_.form
 obtain ⟨_, Ap, cp, rfl, hp1, hp2, _⟩ := id hp.at_
 unfold maxLen at ha2 hb2 hp2
 have hne : ns ≠ [] := fun e => by rw [e] at hns; cases hns
 obtain ⟨sb, hsb⟩ : ∃ sb, A.sb = sb := ⟨_, rfl⟩
 obtain ⟨db, hdb⟩ : ∃ b, w.heap.size = b := ⟨_, rfl⟩
 obtain ⟨w1, hw1⟩ : ∃ u, w.alloc (.cells #[.pointer (some ⟨sb, 0, none⟩)] 31) = u := ⟨_, rfl⟩
 obtain ⟨lb, hlb⟩ : ∃ b, w1.heap.size = b := ⟨_, rfl⟩
 obtain ⟨w2, hw2⟩ : ∃ u, w1.alloc (.cells #[.slice A0 l0.length c0, .slice A1 l1.length c1] 23) = u := ⟨_, rfl⟩
 obtain ⟨rr, hrr⟩ : ∃ b, w2.heap.size = b := ⟨_, rfl⟩
 obtain ⟨w3, hw3⟩ : ∃ u, w2.alloc (.cells #[.int .i64 0, .int .i64 0] 35) = u := ⟨_, rfl⟩
 obtain ⟨lr, hlr⟩ : ∃ b, w3.heap.size = b := ⟨_, rfl⟩
 obtain ⟨w4, hw4⟩ : ∃ u, w3.alloc (.cells #[.slice none 0 0, .slice none 0 0] 37) = u := ⟨_, rfl⟩
 obtain ⟨rB, hrB⟩ : ∃ b, w4.heap.size = b := ⟨_, rfl⟩
 obtain ⟨w5, hw5⟩ : ∃ u, (w4.alloc (.cells #[.int .i64 0, .int .i64 0] 35)).setRow rB #[.int .i64 (-1), .int .i64 (-1)] = u := ⟨_, rfl⟩
 obtain ⟨lB, hlB⟩ : ∃ b, w5.heap.size = b := ⟨_, rfl⟩
 obtain ⟨w6, hw6⟩ : ∃ u, (w5.alloc (.cells #[.slice none 0 0, .slice none 0 0] 37)).setRow lB #[.slice none 0 0, .slice none 0 0] = u := ⟨_, rfl⟩
 have k1 : Kept (fun _ => False) w w1 := by rw [← hw1]; exact (Kept.refl _ _).alloc _
 have k2 : Kept (fun _ => False) w1 w2 := by rw [← hw2]; exact (Kept.refl _ _).alloc _
 have k3 : Kept (fun _ => False) w2 w3 := by rw [← hw3]; exact (Kept.refl _ _).alloc _
 have k4 : Kept (fun _ => False) w3 w4 := by rw [← hw4]; exact (Kept.refl _ _).alloc _
 have k5 : Kept (fun _ => False) w4 w5 := by rw [← hw5]; exact ((Kept.refl _ _).alloc _).setRowNew (by omega) _
 have k6 : Kept (fun _ => False) w5 w6 := by rw [← hw6]; exact ((Kept.refl _ _).alloc _).setRowNew (by omega) _
 have q1 : w1.heap[db]? = some (.cells #[.pointer (some ⟨sb, 0, none⟩)] 31 (0, 0)) := by rw [← hw1, ← hdb]; exact heap_alloc_new _ _
 have q2 : w2.heap[lb]? = some (.cells #[.slice A0 l0.length c0, .slice A1 l1.length c1] 23 (0, 0)) := by rw [← hw2, ← hlb]; exact heap_alloc_new _ _
 have q3 : w3.heap[rr]? = some (.cells #[.int .i64 0, .int .i64 0] 35 (0, 0)) := by rw [← hw3, ← hrr]; exact heap_alloc_new _ _
 have q4 : w4.heap[lr]? = some (.cells #[.slice none 0 0, .slice none 0 0] 37 (0, 0)) := by rw [← hw4, ← hlr]; exact heap_alloc_new _ _
 have q5 : w5.heap[rB]? = some (.cells #[.int .i64 (-1), .int .i64 (-1)] 35 (0, 0)) := by rw [← hw5, ← hrB]; exact setRow_heap _ _ _ _ _ _ (heap_alloc_new _ _)
 have q6 : w6.heap[lB]? = some (.cells #[.slice none 0 0, .slice none 0 0] 37 (0, 0)) := by rw [← hw6, ← hlB]; exact setRow_heap _ _ _ _ _ _ (heap_alloc_new _ _)
 have e1 := lt_of_heap q1
 have e2 := lt_of_heap q2
 have e3 := lt_of_heap q3
 have e4 := lt_of_heap q4
 have e5 := lt_of_heap q5
 have e6 := lt_of_heap q6
 have K6 := ((((k1.trans k2).trans k3).trans k4).trans k5).trans k6
 have hord : w.heap.size ≤ db ∧ db < lb ∧ lb < rr ∧ rr < lr ∧ lr < rB ∧ rB < lB := by omega
 have hIn : Hid (TwoIn w.heap.size db lb rr lr rB lB (.slice A0 l0.length c0) (.slice A1 l1.length c1) (.slice Ap ns.length cp) l0 l1) := h_ ⟨hord, fun hl b hb => (hv0.off hl b hb).1, fun hl b hb => (hv1.off hl b hb).1, fun b hb => (hp.off hne b hb).1⟩
 have S0 : Hid (∃ B, TwoSt w A sb db lb rr lr rB lB (.slice A0 l0.length c0) (.slice A1 l1.length c1) (.slice Ap ns.length cp) ns l0 l1 (-1) (-1) (.slice none 0 0) (.slice none 0 0) w6 B M) := h_ ⟨A, (StoreTo.refl h).fresh K6, ((((k2.trans k3).trans k4).trans k5).trans k6).get q1 id, (((k3.trans k4).trans k5).trans k6).get q2 id, ((k4.trans k5).trans k6).get q3 id, (k5.trans k6).get q4 id, k6.get q5 id, q6, fun b hb => ⟨by simp at hb; omega, fun e => by have := h.lt e; simp at hb; omega⟩, hv0.fresh K6, hv1.fresh K6, hp.fresh K6⟩
 have hp4 := h_ hp
 have hw1' := h_ hw1
 have hw2' := h_ hw2
 have hw3' := h_ hw3
 have hw4' := h_ hw4
 have hw5' := h_ hw5
 have hw6' := h_ hw6
 have hdb' := h_ hdb
 have hlb' := h_ hlb
 have hrr' := h_ hrr
 have hlr' := h_ hlr
 have hrB' := h_ hrB
 have hlB' := h_ hlB
 have hsb' := h_ hsb
 rw [hsb]
 clear h hp hv0 hv1 hw1 hw2 hw3 hw4 hw5 hw6 hdb hlb hrr hlr hrB hlB k1 k2 k3 k4 k5 k6 q1 q2 q3 q4 q5 q6 e1 e2 e3 e4 e5 e6 K6 hord hsb
 go_enter Try.func7, Try.ntmps7
 go_wp2_with (first | (refine wpList_box_named 31 rfl rfl _ rfl hw1'.out ?_; rw [hdb'.out]) | (refine wpList_box_named 23 rfl rfl _ rfl hw2'.out ?_; rw [hlb'.out]) | (refine wpList_alloc_as 35 rfl rfl #[.int .i64 0, .int .i64 0] (by kernel_rfl) ?_; first | rw [hw3'.out, hrr'.out] | rw [hrB'.out]) | (refine wpList_alloc_as 37 rfl rfl #[.slice none 0 0, .slice none 0 0] (by kernel_rfl) ?_; first | rw [hw4'.out, hlr'.out] | rw [hlB'.out]) | (refine wpList_store_whole 35 rfl rfl rfl [.int .i64 (-1), .int .i64 (-1)] rfl (by kernel_rfl) 35 #[.int .i64 0, .int .i64 0] (by rw [← hrB'.out]; exact heap_alloc_new _ _) rfl (by intro c hc; simp at hc; subst hc; rfl) ?_; rw [hw5'.out]) | (refine wpList_store_whole 37 rfl rfl rfl [.slice none 0 0, .slice none 0 0] rfl (by kernel_rfl) 37 #[.slice none 0 0, .slice none 0 0] (by rw [← hlB'.out]; exact heap_alloc_new _ _) rfl (by intro c hc; simp at hc; subst hc; rfl) ?_; rw [hw6'.out]))
 go_loopw [23] (fun i wr => i = .int .i64 0 ∧ Hid (∃ B, TwoSt w A sb db lb rr lr rB lB (.slice A0 l0.length c0) (.slice A1 l1.length c1) (.slice Ap ns.length cp) ns l0 l1 (-1) (-1) (.slice none 0 0) (.slice none 0 0) wr B M)) (fun i _ => (2 - intOf i).toNat)
 case atStart => exact ⟨rfl, S0⟩
 case round =>
  obtain ⟨rfl, hI⟩ := hrel
  obtain ⟨B, St⟩ := hI.out
  have clj := cell_of_heap St.cl 0
  simp at clj
  have dl : decide ((70 : Int) < (l0.length : Int)) = true := decide_eq_true (by omega)
  have S := h_ St
  have Sd := h_ (S.out.fresh (Kept.refl _ _).drew)
  obtain ⟨o1, o2, o3, o4, o5, o6⟩ := hIn.out.ord
  clear hI St
  go_wp2_with fail
  refine wp_region_held_drew (S := fun W => W.heap[rB]? = some (.cells #[.int .i64 (-1), .int .i64 (-1)] 35 (0, 0)) ∧ W.heap[lB]? = some (.cells #[.slice none 0 0, .slice none 0 0] 37 (0, 0))) (by kernel_rfl) ⟨Sd.out.c9, Sd.out.c10⟩ (fun hS => ?_)
  refine wpAnyH_take (i := 0) (v := .agg #[.int .i64 (-1), .int .i64 (-1)]) rfl (by kernel_rfl) (by kernel_rfl) (by kernel_rfl) (fun _ _ _ h => h) (Or.inl ⟨by rfl, fun W hW => exec_load_agg rfl (by rfl) [.int .i64 (-1), .int .i64 (-1)] Try.underlying35 rfl (by kernel_rfl) (fun j v hj => by rw [Nat.zero_add, cell_of_heap hW.1]; simpa using hj)⟩) (by assumption) ?_
  simp only [Act.put, q1_, q2_, q3_, List.setIfInBounds_toArray, q5_, q6_]
  refine wpAnyH_take (i := 1) (v := .agg #[.slice none 0 0, .slice none 0 0]) rfl (by kernel_rfl) (by kernel_rfl) (by kernel_rfl) (fun _ _ _ h => h) (Or.inl ⟨by rfl, fun W hW => exec_load_agg rfl (by rfl) [.slice none 0 0, .slice none 0 0] Try.underlying37 rfl (by kernel_rfl) (fun j v hj => by rw [Nat.zero_add, cell_of_heap hW.2]; simpa using hj)⟩) (by assumption) ?_
  simp only [Act.put, q1_, q2_, q3_, List.setIfInBounds_toArray, q5_, q6_]
  refine wpAnyH_ready (rs := [2]) (by kernel_rfl) (by simp) ?_
  refine AllReadyH.cons rfl (fun K hK => ?_) AllReadyH.nil
  have k1 : Kept (fun j => j = rr) wr.drew (wr.drew.setRow rr #[.int .i64 (-1), .int .i64 (-1)]) := Kept.setRow (S := fun j => j = rr) (Kept.refl _ _) rfl _
  refine step_store_whole 35 rfl rfl (g := rr) (by rfl) [.int .i64 (-1), .int .i64 (-1)] rfl (by kernel_rfl) 35 #[.int .i64 0, .int .i64 0] Sd.out.c6 rfl (by intro c hc; simp at hc; (first | (rcases hc with rfl | rfl <;> rfl) | (subst hc; rfl))) ?_
  refine hK.out _ _ ⟨k1.get hS.1 (by omega), k1.get hS.2 (by omega)⟩ (fun hS2 => ?_)
  clear hK K
  try simp only [Act.put, q1_, q2_, q3_, List.setIfInBounds_toArray, q5_, q6_]
  have h2 := k1.get Sd.out.c7 (by omega)
  have h1 : (wr.drew.setRow rr #[.int .i64 (-1), .int .i64 (-1)]).heap[rr]? = some (.cells #[.int .i64 (-1), .int .i64 (-1)] _ (0, 0)) := setRow_heap _ _ _ _ _ _ Sd.out.c6
  have k2 : Kept (fun j => j = lr) (wr.drew.setRow rr #[.int .i64 (-1), .int .i64 (-1)]) ((wr.drew.setRow rr #[.int .i64 (-1), .int .i64 (-1)]).setRow lr #[.slice none 0 0, .slice none 0 0]) := Kept.setRow (S := fun j => j = lr) (Kept.refl _ _) rfl _
  have g1 := k2.get h1 (by omega)
  have g2 : ((wr.drew.setRow rr #[.int .i64 (-1), .int .i64 (-1)]).setRow lr #[.slice none 0 0, .slice none 0 0]).heap[lr]? = some (.cells #[.slice none 0 0, .slice none 0 0] _ (0, 0)) := setRow_heap _ _ _ _ _ _ h2
  have ap : ∀ c ∈ [db, lb, rr, lr, rB, lB], ¬ B.own c := fun c hc => (Sd.out.ap c hc).off
  have fin : Hid (StoreTo A B M w ((wr.drew.setRow rr #[.int .i64 (-1), .int .i64 (-1)]).setRow lr #[.slice none 0 0, .slice none 0 0])) := h_ ((Sd.out.to_.apart k1 (ap rr (by simp)) (by omega)).apart k2 (ap lr (by simp)) (by omega))
  refine wpAnyH_ready (rs := [3]) (by kernel_rfl) (by simp) ?_
  refine AllReadyH.cons rfl (fun K hK => ?_) ?_
  ·refine step_store_whole 37 rfl rfl (g := lr) (by rfl) [.slice none 0 0, .slice none 0 0] rfl (by kernel_rfl) 37 #[.slice none 0 0, .slice none 0 0] h2 rfl (by intro c hc; simp at hc; (first | (rcases hc with rfl | rfl <;> rfl) | (subst hc; rfl))) ?_
   refine hK.out _ _ ⟨k2.get hS2.1 (by omega), k2.get hS2.2 (by omega)⟩ (fun hS3 => ?_)
   clear hK K
   try simp only [Act.put, q1_, q2_, q3_, List.setIfInBounds_toArray, q5_, q6_]
   refine wpAnyH_take (i := 4) (v := .bool false) rfl (by kernel_rfl) (by kernel_rfl) (by kernel_rfl) (fun _ _ _ h => h) (Or.inl ⟨by rfl, fun W hW => by go_simp⟩) (by assumption) ?_
   simp only [Act.put, q1_, q2_, q3_, List.setIfInBounds_toArray, q5_, q6_]
   refine wpAnyH_done (by kernel_rfl) ?_ _
   clear hS hS2 hS3 k1 k2 h1 h2
   go_wp2_with fail
   refine bodyPost_ret (results_two rfl _ _ rr lr 35 37 #[.int .i64 (-1), .int .i64 (-1)] #[.slice none 0 0, .slice none 0 0] (0, 0) (0, 0) _ _ rfl g1 Try.underlying35 rfl (by kernel_rfl) rfl g2 Try.underlying37 rfl (by kernel_rfl)) rfl ?_
   exact ⟨B, M, _, _, _, _, _, _, _, _, rfl, fin.out⟩
  exact AllReadyH.nil
set_option maxHeartbeats 16000000 in
theorem two12_long1 {w : World} {A : SA} {M M1 : SM} (h : StoreAt w A M) {ns : List Nat} (hns : ns.length = 4) {vp v0 v1 : Value} {l0 l1 : List (Int × Int)} (hp : PagesAt w vp ns A) (hv0 : EntsOff w A v0 l0) (hv1 : EntsOff w A v1 l1) (hl0 : l0.length ≤ 70) (hl1 : 70 < l1.length) {r0 : Int}
  (H0 : SM.changes (ownL ns l0) M (-1) = (M1, r0, 0)) (g0 : M.log.length ≤ 10000) :
  Calls Try.prog 7 #[.agg #[.pointer (some ⟨A.sb, 0, none⟩)], vp, .agg #[v0, v1]] w fun e w' => ∃ A' M' a b X0 n0 c0 X1 n1 c1, e = .returned (.tuple #[.agg #[.int .i64 a, .int .i64 b], .agg #[.slice X0 n0 c0, .slice X1 n1 c1], .bool false]) ∧ StoreTo A A' M' w w' := by
 obtain ⟨A0, c0, rfl, ha1, ha2⟩ := hv0.at_.form
 obtain ⟨A1, c1, rfl, hb1, hb2⟩ := hv1.at_.form
 obtain ⟨_, Ap, cp, rfl, hp1, hp2, _⟩ := id hp.at_
 unfold maxLen at ha2 hb2 hp2
 have hne : ns ≠ [] := fun e => by rw [e] at hns; cases hns
 obtain ⟨sb, hsb⟩ : ∃ sb, A.sb = sb := ⟨_, rfl⟩
 obtain ⟨db, hdb⟩ : ∃ b, w.heap.size = b := ⟨_, rfl⟩
 obtain ⟨w1, hw1⟩ : ∃ u, w.alloc (.cells #[.pointer (some ⟨sb, 0, none⟩)] 31) = u := ⟨_, rfl⟩
 obtain ⟨lb, hlb⟩ : ∃ b, w1.heap.size = b := ⟨_, rfl⟩
 obtain ⟨w2, hw2⟩ : ∃ u, w1.alloc (.cells #[.slice A0 l0.length c0, .slice A1 l1.length c1] 23) = u := ⟨_, rfl⟩
 obtain ⟨rr, hrr⟩ : ∃ b, w2.heap.size = b := ⟨_, rfl⟩
 obtain ⟨w3, hw3⟩ : ∃ u, w2.alloc (.cells #[.int .i64 0, .int .i64 0] 35) = u := ⟨_, rfl⟩
 obtain ⟨lr, hlr⟩ : ∃ b, w3.heap.size = b := ⟨_, rfl⟩
 obtain ⟨w4, hw4⟩ : ∃ u, w3.alloc (.cells #[.slice none 0 0, .slice none 0 0] 37) = u := ⟨_, rfl⟩
 obtain ⟨rB, hrB⟩ : ∃ b, w4.heap.size = b := ⟨_, rfl⟩
 obtain ⟨w5, hw5⟩ : ∃ u, (w4.alloc (.cells #[.int .i64 0, .int .i64 0] 35)).setRow rB #[.int .i64 (-1), .int .i64 (-1)] = u := ⟨_, rfl⟩
 obtain ⟨lB, hlB⟩ : ∃ b, w5.heap.size = b := ⟨_, rfl⟩
 obtain ⟨w6, hw6⟩ : ∃ u, (w5.alloc (.cells #[.slice none 0 0, .slice none 0 0] 37)).setRow lB #[.slice none 0 0, .slice none 0 0] = u := ⟨_, rfl⟩
 have k1 : Kept (fun _ => False) w w1 := by rw [← hw1]; exact (Kept.refl _ _).alloc _
 have k2 : Kept (fun _ => False) w1 w2 := by rw [← hw2]; exact (Kept.refl _ _).alloc _
 have k3 : Kept (fun _ => False) w2 w3 := by rw [← hw3]; exact (Kept.refl _ _).alloc _
 have k4 : Kept (fun _ => False) w3 w4 := by rw [← hw4]; exact (Kept.refl _ _).alloc _
 have k5 : Kept (fun _ => False) w4 w5 := by rw [← hw5]; exact ((Kept.refl _ _).alloc _).setRowNew (by omega) _
 have k6 : Kept (fun _ => False) w5 w6 := by rw [← hw6]; exact ((Kept.refl _ _).alloc _).setRowNew (by omega) _
 have q1 : w1.heap[db]? = some (.cells #[.pointer (some ⟨sb, 0, none⟩)] 31 (0, 0)) := by rw [← hw1, ← hdb]; exact heap_alloc_new _ _
 have q2 : w2.heap[lb]? = some (.cells #[.slice A0 l0.length c0, .slice A1 l1.length c1] 23 (0, 0)) := by rw [← hw2, ← hlb]; exact heap_alloc_new _ _
 have q3 : w3.heap[rr]? = some (.cells #[.int .i64 0, .int .i64 0] 35 (0, 0)) := by rw [← hw3, ← hrr]; exact heap_alloc_new _ _
 have q4 : w4.heap[lr]? = some (.cells #[.slice none 0 0, .slice none 0 0] 37 (0, 0)) := by rw [← hw4, ← hlr]; exact heap_alloc_new _ _
 have q5 : w5.heap[rB]? = some (.cells #[.int .i64 (-1), .int .i64 (-1)] 35 (0, 0)) := by rw [← hw5, ← hrB]; exact setRow_heap _ _ _ _ _ _ (heap_alloc_new _ _)
 have q6 : w6.heap[lB]? = some (.cells #[.slice none 0 0, .slice none 0 0] 37 (0, 0)) := by rw [← hw6, ← hlB]; exact setRow_heap _ _ _ _ _ _ (heap_alloc_new _ _)
 have e1 := lt_of_heap q1
 have e2 := lt_of_heap q2
 have e3 := lt_of_heap q3
 have e4 := lt_of_heap q4
 have e5 := lt_of_heap q5
 have e6 := lt_of_heap q6
 have K6 := ((((k1.trans k2).trans k3).trans k4).trans k5).trans k6
 have hord : w.heap.size ≤ db ∧ db < lb ∧ lb < rr ∧ rr < lr ∧ lr < rB ∧ rB < lB := by omega
 have hIn : Hid (TwoIn w.heap.size db lb rr lr rB lB (.slice A0 l0.length c0) (.slice A1 l1.length c1) (.slice Ap ns.length cp) l0 l1) := h_ ⟨hord, fun hl b hb => (hv0.off hl b hb).1, fun hl b hb => (hv1.off hl b hb).1, fun b hb => (hp.off hne b hb).1⟩
 have S0 : Hid (∃ B, TwoSt w A sb db lb rr lr rB lB (.slice A0 l0.length c0) (.slice A1 l1.length c1) (.slice Ap ns.length cp) ns l0 l1 (-1) (-1) (.slice none 0 0) (.slice none 0 0) w6 B M) := h_ ⟨A, (StoreTo.refl h).fresh K6, ((((k2.trans k3).trans k4).trans k5).trans k6).get q1 id, (((k3.trans k4).trans k5).trans k6).get q2 id, ((k4.trans k5).trans k6).get q3 id, (k5.trans k6).get q4 id, k6.get q5 id, q6, fun b hb => ⟨by simp at hb; omega, fun e => by have := h.lt e; simp at hb; omega⟩, hv0.fresh K6, hv1.fresh K6, hp.fresh K6⟩
 have hp4 := h_ hp
 have H0' := h_ H0
 have hw1' := h_ hw1
 have hw2' := h_ hw2
 have hw3' := h_ hw3
 have hw4' := h_ hw4
 have hw5' := h_ hw5
 have hw6' := h_ hw6
 have hdb' := h_ hdb
 have hlb' := h_ hlb
 have hrr' := h_ hrr
 have hlr' := h_ hlr
 have hrB' := h_ hrB
 have hlB' := h_ hlB
 have hsb' := h_ hsb
 rw [hsb]
 clear H0 h hp hv0 hv1 hw1 hw2 hw3 hw4 hw5 hw6 hdb hlb hrr hlr hrB hlB k1 k2 k3 k4 k5 k6 q1 q2 q3 q4 q5 q6 e1 e2 e3 e4 e5 e6 K6 hord hsb
 go_enter Try.func7, Try.ntmps7
 go_wp2_with (first | (refine wpList_box_named 31 rfl rfl _ rfl hw1'.out ?_; rw [hdb'.out]) | (refine wpList_box_named 23 rfl rfl _ rfl hw2'.out ?_; rw [hlb'.out]) | (refine wpList_alloc_as 35 rfl rfl #[.int .i64 0, .int .i64 0] (by kernel_rfl) ?_; first | rw [hw3'.out, hrr'.out] | rw [hrB'.out]) | (refine wpList_alloc_as 37 rfl rfl #[.slice none 0 0, .slice none 0 0] (by kernel_rfl) ?_; first | rw [hw4'.out, hlr'.out] | rw [hlB'.out]) | (refine wpList_store_whole 35 rfl rfl rfl [.int .i64 (-1), .int .i64 (-1)] rfl (by kernel_rfl) 35 #[.int .i64 0, .int .i64 0] (by rw [← hrB'.out]; exact heap_alloc_new _ _) rfl (by intro c hc; simp at hc; subst hc; rfl) ?_; rw [hw5'.out]) | (refine wpList_store_whole 37 rfl rfl rfl [.slice none 0 0, .slice none 0 0] rfl (by kernel_rfl) 37 #[.slice none 0 0, .slice none 0 0] (by rw [← hlB'.out]; exact heap_alloc_new _ _) rfl (by intro c hc; simp at hc; subst hc; rfl) ?_; rw [hw6'.out]))
 go_loopw [23] (fun i wr => (i = .int .i64 0 ∧ Hid (∃ B, TwoSt w A sb db lb rr lr rB lB (.slice A0 l0.length c0) (.slice A1 l1.length c1) (.slice Ap ns.length cp) ns l0 l1 (-1) (-1) (.slice none 0 0) (.slice none 0 0) wr B M)) ∨ (i = .int .i64 1 ∧ Hid (∃ B L0, TwoSt w A sb db lb rr lr rB lB (.slice A0 l0.length c0) (.slice A1 l1.length c1) (.slice Ap ns.length cp) ns l0 l1 r0 (-1) L0 (.slice none 0 0) wr B M1 ∧ ListAt lB wr B L0 ((ownL ns l0).foldl chgL [])))) (fun i _ => (2 - intOf i).toNat)
 case atStart => exact .inl ⟨rfl, S0⟩
 case round =>
  rcases hrel with ⟨rfl, hI⟩ | ⟨rfl, hI⟩
  ·obtain ⟨B, St⟩ := hI.out
   have hL := h_ (show True from trivial)
   have St0 := h_ St
   have clj := cell_of_heap St.cl 0
   simp at clj
   have dl : decide ((70 : Int) < (l0.length : Int)) = false := decide_eq_false (by omega)
   obtain ⟨wo, hwo⟩ : ∃ wo, wr.alloc (.cells #[] 41) = wo := ⟨_, rfl⟩
   have O0 : Hid (OwnSt wr ns l0 0 (.slice (some ⟨wr.heap.size, 0, none⟩) 0 0) wo) := h_ ⟨by rw [← hwo]; exact (Kept.refl _ _).alloc _, by rw [List.take_zero, ← hwo]; exact owns_empty wr wr.heap.size wr.heap.size 41 2 (Nat.le_refl _) rfl⟩
   have hwo' := h_ hwo
   have clo := cell_of_heap (((Kept.refl (fun _ => False) wr).alloc (.cells #[] 41)).get St.cl id) 0
   simp at clo
   clear hwo St
   go_wp2_with fail
   rw [hwo'.out]
   obtain ⟨wz, hwz⟩ : ∃ u, wr = u := ⟨_, rfl⟩
   rw [hwz] at hI St0 clj O0 hwo' ⊢
   clear hwz hI
   have St' := St0
   go_loopw [12, 38] (fun v i wr => ∃ (k : Nat), k ≤ l0.length ∧ i = .int .i64 k ∧ Hid (OwnSt wz ns l0 k v wr)) (fun _ i _ => l0.length - (intOf i).toNat)
   case atStart => exact ⟨0, Nat.zero_le _, rfl, O0⟩
   case round =>
    obtain ⟨k, hk, rfl, hO⟩ := hrel
    obtain ⟨_, Av, cv, rfl, hv1, hv2, _⟩ := SliceAt.of_owns hO.out.row
    unfold maxLen at hv2
    have hbnd := ownL_len ns (l0.take k)
    have hlk : (l0.take k).length ≤ 70 := by rw [List.length_take]; omega
    by_cases hlt : k < l0.length
    ·obtain ⟨x, hx⟩ : ∃ x, l0[k]? = some x := ⟨_, List.getElem?_eq_getElem hlt⟩
     obtain ⟨xk, xp⟩ := x
     have St := St'.out.fresh hO.out.kept
     obtain ⟨eb, eo, hA0, heb, hx0, hx1⟩ := St.e0.at_.get hx
     have hki : (k : Int) < (l0.length : Int) := by omega
     have hown := ownL_step (ns := ns) hx
     have hlo : Hid (∀ i v, [Value.int .i64 xk, .int .i64 xp][i]? = some v → wr.cell? ⟨eb, eo + k * 2 + i, none⟩ = some v) := h_ (fun i v hi => by
      match i, hi with
      | 0, hi => cases hi; exact hx0
      | 1, hi => cases hi; exact hx1)
     obtain ⟨xb, hxb⟩ : ∃ xb, wr.heap.size = xb := ⟨_, rfl⟩
     obtain ⟨wx, hwx⟩ : ∃ wx, (wr.alloc (.cells #[.int .i64 0, .int .i64 0] 41)).setRow xb #[.int .i64 xk, .int .i64 xp] = wx := ⟨_, rfl⟩
     have kx : Kept (fun _ => False) wr wx := by rw [← hwx]; exact ((Kept.refl _ _).alloc _).setRowNew (by omega) _
     have qx : wx.heap[xb]? = some (.cells #[.int .i64 xk, .int .i64 xp] 41 (0, 0)) := by rw [← hwx, ← hxb]; exact setRow_heap _ _ _ _ _ _ (heap_alloc_new _ _)
     have cx0 := cell_of_heap qx 0
     have cx1 := cell_of_heap qx 1
     simp at cx0 cx1
     have Ox := h_ (hO.out.fresh kx)
     have hxn : Hid (wz.heap.size ≤ xb) := h_ (by have := hO.out.kept.size; omega)
     have hxb' := h_ hxb
     have hwx' := h_ hwx
     by_cases h0 : 0 ≤ xk
     ·have d0 : decide (0 ≤ xk) = true := decide_eq_true h0
      by_cases h1 : xk < 64
      ·have d1 : decide (xk < 64) = true := decide_eq_true h1
       by_cases hm : xp = -1
       ·subst hm
        have hfin : Hid (ownL ns (l0.take (k + 1)) = ownL ns (l0.take k) ++ [(xk, -1)]) := h_ (by rw [hown, ownC_none h0 h1])
        have hlx : Hid (∀ i v, [Value.int .i64 xk, .int .i64 (-1)][i]? = some v → wx.cell? ⟨xb, 0 + i, none⟩ = some v) := h_ (fun i v hi => by rw [cell_of_heap qx, Nat.zero_add]; simpa using hi)
        subst hA0
        clear hx hx0 hx1 hO St hown kx qx hxb hwx heb
        go_wp2_with (first | (refine wpList_load_agg 41 rfl rfl rfl _ Try.underlying41 rfl [.int .i64 xk, .int .i64 (-1)] (by kernel_rfl) hlo.out ?_) | (refine wpList_load_agg 41 rfl rfl rfl _ Try.underlying41 rfl [.int .i64 xk, .int .i64 (-1)] (by kernel_rfl) hlx.out ?_) | (refine wpList_alloc_as 41 rfl rfl #[.int .i64 0, .int .i64 0] (by kernel_rfl) ?_; rw [hxb'.out]) | (refine wpList_store_whole 41 rfl rfl rfl [.int .i64 xk, .int .i64 (-1)] rfl (by kernel_rfl) 41 #[.int .i64 0, .int .i64 0] (by rw [← hxb'.out]; exact heap_alloc_new _ _) rfl (by intro c hc; simp at hc; rcases hc with rfl | rfl <;> rfl) ?_; rw [hwx'.out]) | (at_builtin; refine wpList_append_src rfl elemChange (.tmp 61) (.tmp 63) rfl (by rfl) (by rfl) (ownsRow.keptOf Ox.out.row ((Kept.refl (fun _ => False) wx).alloc _) (fun _ _ => id)) (SliceAt.block_new (ys := [.int .i64 xk, .int .i64 (-1)]) (m := 1) (heap_alloc_new _ _) rfl (by decide)) (by intro c hc; simp at hc; rcases hc with rfl | rfl <;> rfl) (by omega) (by omega) (Nat.le_trans Ox.out.kept.size ((Kept.refl (fun _ => False) _).alloc _).size) ?_; intro v7 w7 hown7 hg7 hat7))
        have fin : Hid (OwnSt wz ns l0 (k + 1) v7 w7) := h_ (Ox.out.more ((Kept.refl (fun _ => False) wx).alloc _) hfin.out hown7 hg7)
        clear hown7 hg7 hat7
        go_wp2_with fail
        go_roundw
        case rel => exact ⟨k + 1, by omega, by go_num, fin⟩
        case measure => simp [intOf] <;> omega
       ·have hb : (xp == -1) = false := by simp [hm]
        have hb2 : (xp != -1) = true := by simp [hm]
        obtain ⟨q, hq⟩ : ∃ q, clampQ xp = q := ⟨_, rfl⟩
        have hq4 : q < ns.length := by rw [hns, ← hq]; unfold clampQ; omega
        have hqc : max 0 (min xp 3) = (q : Int) := by rw [← hq]; unfold clampQ; omega
        obtain ⟨p, hp⟩ : ∃ p, ns[q]? = some p := ⟨_, List.getElem?_eq_getElem hq4⟩
        obtain ⟨pb, po, hAp, hpb, hcp⟩ := PagesAt.get (St.pg.fresh kx) hp
        have hfin : Hid (ownL ns (l0.take (k + 1)) = ownL ns (l0.take k) ++ [(xk, (p : Int))]) := h_ (by rw [hown, ownC_some h0 h1 hm (by rw [hq]; exact hp)])
        have hq3 : (q : Int) < 4 := by omega
        have fx := free_of_heap qx 1
        obtain ⟨wy, hwy⟩ : ∃ wy, wx.setCell ⟨xb, 1, none⟩ (.int .i64 (p : Int)) = wy := ⟨_, rfl⟩
        have ky : Kept (fun j => j = xb) wx wy := by rw [← hwy]; exact Kept.setCell (S := fun j => j = xb) (Kept.refl _ _) rfl _
        have qy : wy.heap[xb]? = some (.cells #[.int .i64 xk, .int .i64 (p : Int)] 41 (0, 0)) := by rw [← hwy, heap_setCell_same qx]; rfl
        have hly : Hid (∀ i v, [Value.int .i64 xk, .int .i64 (p : Int)][i]? = some v → wy.cell? ⟨xb, 0 + i, none⟩ = some v) := h_ (fun i v hi => by rw [cell_of_heap qy, Nat.zero_add]; simpa using hi)
        have Oy := h_ (hO.out.later kx ky (by omega) hxn.out)
        have hwy' := h_ hwy
        subst hA0 hAp
        clear hx hx0 hx1 hO St hown kx qx hxb hwx heb ky qy hwy hp hq hq4 hpb h0 h1 hm
        go_wp2_with (first | (refine wpList_load_agg 41 rfl rfl rfl _ Try.underlying41 rfl [.int .i64 xk, .int .i64 xp] (by kernel_rfl) hlo.out ?_) | (refine wpList_load_agg 41 rfl rfl rfl _ Try.underlying41 rfl [.int .i64 xk, .int .i64 (p : Int)] (by kernel_rfl) hly.out ?_) | (refine wpList_alloc_as 41 rfl rfl #[.int .i64 0, .int .i64 0] (by kernel_rfl) ?_; rw [hxb'.out]) | (refine wpList_store_whole 41 rfl rfl rfl [.int .i64 xk, .int .i64 xp] rfl (by kernel_rfl) 41 #[.int .i64 0, .int .i64 0] (by rw [← hxb'.out]; exact heap_alloc_new _ _) rfl (by intro c hc; simp at hc; rcases hc with rfl | rfl <;> rfl) ?_; rw [hwx'.out]) | (rw [hwy'.out]; refine wpList_load_agg 41 rfl rfl rfl _ Try.underlying41 rfl [.int .i64 xk, .int .i64 (p : Int)] (by kernel_rfl) hly.out ?_) | (at_builtin; refine wpList_append_src rfl elemChange (.tmp 61) (.tmp 63) rfl (by rfl) (by rfl) (ownsRow.keptOf Oy.out.row ((Kept.refl (fun _ => False) wy).alloc _) (fun _ _ => id)) (SliceAt.block_new (ys := [.int .i64 xk, .int .i64 (p : Int)]) (m := 1) (heap_alloc_new _ _) rfl (by decide)) (by intro c hc; simp at hc; rcases hc with rfl | rfl <;> rfl) (by omega) (by omega) (Nat.le_trans Oy.out.kept.size ((Kept.refl (fun _ => False) _).alloc _).size) ?_; intro v7 w7 hown7 hg7 hat7))
        have fin : Hid (OwnSt wz ns l0 (k + 1) v7 w7) := h_ (Oy.out.more ((Kept.refl (fun _ => False) wy).alloc _) hfin.out hown7 hg7)
        clear hown7 hg7 hat7
        go_wp2_with fail
        go_roundw
        case rel => exact ⟨k + 1, by omega, by go_num, fin⟩
        case measure => simp [intOf] <;> omega
      ·have d1 : decide (xk < 64) = false := decide_eq_false h1
       have fin : Hid (OwnSt wz ns l0 (k + 1) (.slice Av (ownL ns (l0.take k)).length cv) wx) := h_ (Ox.out.skip (by rw [hown, ownC_skip (by omega)]))
       subst hA0
       clear hx hx0 hx1 hO St hown kx qx hxb hwx heb
       go_wp2_with (first | (refine wpList_load_agg 41 rfl rfl rfl _ Try.underlying41 rfl [.int .i64 xk, .int .i64 xp] (by kernel_rfl) hlo.out ?_) | (refine wpList_alloc_as 41 rfl rfl #[.int .i64 0, .int .i64 0] (by kernel_rfl) ?_; rw [hxb'.out]) | (refine wpList_store_whole 41 rfl rfl rfl [.int .i64 xk, .int .i64 xp] rfl (by kernel_rfl) 41 #[.int .i64 0, .int .i64 0] (by rw [← hxb'.out]; exact heap_alloc_new _ _) rfl (by intro c hc; simp at hc; rcases hc with rfl | rfl <;> rfl) ?_; rw [hwx'.out]))
       go_roundw
       case rel => exact ⟨k + 1, by omega, by go_num, fin⟩
       case measure => simp [intOf] <;> omega
     ·have d0 : decide (0 ≤ xk) = false := decide_eq_false h0
      have fin : Hid (OwnSt wz ns l0 (k + 1) (.slice Av (ownL ns (l0.take k)).length cv) wx) := h_ (Ox.out.skip (by rw [hown, ownC_skip (by omega)]))
      subst hA0
      clear hx hx0 hx1 hO St hown kx qx hxb hwx heb
      go_wp2_with (first | (refine wpList_load_agg 41 rfl rfl rfl _ Try.underlying41 rfl [.int .i64 xk, .int .i64 xp] (by kernel_rfl) hlo.out ?_) | (refine wpList_alloc_as 41 rfl rfl #[.int .i64 0, .int .i64 0] (by kernel_rfl) ?_; rw [hxb'.out]) | (refine wpList_store_whole 41 rfl rfl rfl [.int .i64 xk, .int .i64 xp] rfl (by kernel_rfl) 41 #[.int .i64 0, .int .i64 0] (by rw [← hxb'.out]; exact heap_alloc_new _ _) rfl (by intro c hc; simp at hc; rcases hc with rfl | rfl <;> rfl) ?_; rw [hwx'.out]))
      go_roundw
      case rel => exact ⟨k + 1, by omega, by go_num, fin⟩
      case measure => simp [intOf] <;> omega
    ·obtain rfl : k = l0.length := by omega
     have hki : decide ((l0.length : Int) < (l0.length : Int)) = false := decide_eq_false (by omega)
     have hrow := hO.out.row
     have hkp := hO.out.kept
     rw [List.take_length] at hrow hbnd hv1 ⊢
     have S1 := h_ (St'.out.fresh hkp)
     obtain ⟨cs, hcs⟩ : ∃ cs, ownL ns l0 = cs := ⟨_, rfl⟩
     have hgood0 := ownL_good hns l0
     rw [hcs] at hrow hbnd hv1 hgood0 ⊢
     have hgood := h_ hgood0
     clear hgood0
     have EC : Hid (EntsOff wr B (.slice Av cs.length cv) cs) := h_ ⟨SliceAt.of_owns hrow, fun _ b hb => ⟨(hrow.lt b hb).2, fun e => by have := (hrow.lt b hb).1; have := St'.out.to_.store.lt (.inl e); omega⟩⟩
     have hH := H0'.out
     rw [hcs] at hH
     have hH' := h_ hH
     clear hH
     obtain ⟨we, hwe⟩ : ∃ we, wr.alloc (.cells #[] 58) = we := ⟨_, rfl⟩
     have ke : Kept (fun _ => False) wr we := by rw [← hwe]; exact (Kept.refl _ _).alloc _
     have S2 := h_ (S1.out.fresh ke)
     have EC2 := h_ (EC.out.fresh ke)
     have hfar : lB < wr.heap.size := (S1.out.ap lB (by simp)).lt
     have EN : Hid (ListAt lB we B (.slice (some ⟨wr.heap.size, 0, none⟩) 0 0) []) := h_ ⟨⟨sliceNil (Nat.zero_le _), fun h => absurd rfl h⟩, fun h => absurd rfl h⟩
     have hsz : lB < we.heap.size := Nat.lt_of_lt_of_le hfar ke.size
     have hwe' := h_ hwe
     have hcs' := h_ hcs
     clear hO hkp hrow ke hwe hcs
     have hLg : Hid (RisesK ([] : List (Int × Int)) ∧ ∀ y ∈ ([] : List (Int × Int)), 0 ≤ y.1 ∧ y.1 < 64) := h_ ⟨List.Pairwise.nil, fun y hy => by cases hy⟩
     have CA := diffApply S2.out.to_.store (-1) EC2.out (by omega) (by omega)
     rw [hH'.out, S2.out.to_.sb, hsb'.out] at CA
     have CA' : Hid (Calls Try.prog 15 #[.agg #[.pointer (some ⟨sb, 0, none⟩)], .int .i64 (-1), .slice Av cs.length cv] _ fun e w' => ∃ A', e = .returned (.tuple #[.int .i64 r0, .int .i64 0]) ∧ StoreTo B A' M1 _ w') := h_ CA
     have hld := h_ S2.out.load
     clear CA
     go_wp2_with (first | (rw [hwe'.out]; (refine wpList_load_agg 31 rfl rfl rfl _ Try.underlying31 rfl [.pointer (some ⟨sb, 0, none⟩)] (by kernel_rfl) hld.out ?_)) | (refine wpList_load_agg 31 rfl rfl rfl _ Try.underlying31 rfl [.pointer (some ⟨sb, 0, none⟩)] (by kernel_rfl) hld.out ?_))
     refine CA'.out.mono ?_
     rintro e wf ⟨B2, rfl, hT⟩
     have S3 := h_ (S2.out.to hne hT)
     have EC3 := h_ (EC2.out.to hT)
     have LI3 := h_ (EN.out.to hT)
     have hs3 : lB < wf.heap.size := (S3.out.ap lB (by simp)).lt
     have CB := h_ (ref12Apply LI3.out.off.at_ EC3.out.at_ hLg.out (by omega) (fun x hx => ⟨(hgood.out x hx).1, (hgood.out x hx).2.1⟩))
     clear hT hld
     go_wp2_with fail
     refine CB.out.mono ?_
     rintro e wg ⟨u, rfl, R⟩
     have S4 := h_ (S3.out.fresh R.kept)
     have LU := h_ (list_made S3.out.to_.store hs3 LI3.out R)
     obtain ⟨Au, cu, rfl, hu1, hu2⟩ := LU.out.off.at_.form
     have g9 := cell_of_heap S4.out.c9 0
     have f9 := free_of_heap S4.out.c9 0
     simp at g9
     have S5 := h_ (S4.out.roots hIn.out (o := 0) (v := .int .i64 r0) (s0 := r0) (s1 := (-1)) rfl)
     have g10 := cell_of_heap S5.out.c10 0
     have f10 := free_of_heap S5.out.c10 0
     simp at g10
     obtain ⟨wh, hwh⟩ : ∃ wh, (wg.setCell ⟨rB, 0, none⟩ (.int .i64 r0)).setCell ⟨lB, 0, none⟩ (.slice Au (cs.foldl chgL []).length cu) = wh := ⟨_, rfl⟩
     have kk1 : Kept (fun i => i = rB) wg (wg.setCell ⟨rB, 0, none⟩ (.int .i64 r0)) := Kept.setCell (S := fun i => i = rB) (Kept.refl _ _) rfl _
     have kk2 : Kept (fun i => i = lB) (wg.setCell ⟨rB, 0, none⟩ (.int .i64 r0)) wh := by rw [← hwh]; exact Kept.setCell (S := fun i => i = lB) (Kept.refl _ _) rfl _
     have hrl : rB ≤ lB := by have := hIn.out.ord; omega
     have fin : Hid (∃ B L0, TwoSt w A sb db lb rr lr rB lB (.slice A0 l0.length c0) (.slice A1 l1.length c1) (.slice Ap ns.length cp) ns l0 l1 r0 (-1) L0 (.slice none 0 0) wh B M1 ∧ ListAt lB wh B L0 ((ownL ns l0).foldl chgL [])) := h_ ⟨B2, _, by rw [← hwh]; exact S5.out.lists hIn.out rfl, by rw [hcs'.out]; exact (LU.out.apart kk1 hrl).apart kk2 (Nat.le_refl _)⟩
     have hwh' := h_ hwh
     clear R kk1 kk2 hwh
     go_wp2_with fail
     rw [hwh'.out]
     go_roundw
     case rel => exact .inr ⟨by first | rfl | go_num, fin⟩
     case measure => simp [intOf] <;> omega
  ·obtain ⟨B, L0, St, hL0⟩ := hI.out
   obtain ⟨AL, cL, rfl, hL1, hL2⟩ := hL0.off.at_.form
   obtain ⟨LL, hLL⟩ : ∃ LL, (ownL ns l0).foldl chgL [] = LL := ⟨_, rfl⟩
   rw [hLL] at St hL1
   clear hL0 hLL
   have clj := cell_of_heap St.cl 1
   simp at clj
   have dl : decide ((70 : Int) < (l1.length : Int)) = true := decide_eq_true (by omega)
   have S := h_ St
   have Sd := h_ (S.out.fresh (Kept.refl _ _).drew)
   obtain ⟨o1, o2, o3, o4, o5, o6⟩ := hIn.out.ord
   clear hI St
   go_wp2_with fail
   refine wp_region_held_drew (S := fun W => W.heap[rB]? = some (.cells #[.int .i64 r0, .int .i64 (-1)] 35 (0, 0)) ∧ W.heap[lB]? = some (.cells #[.slice AL LL.length cL, .slice none 0 0] 37 (0, 0))) (by kernel_rfl) ⟨Sd.out.c9, Sd.out.c10⟩ (fun hS => ?_)
   refine wpAnyH_take (i := 0) (v := .agg #[.int .i64 r0, .int .i64 (-1)]) rfl (by kernel_rfl) (by kernel_rfl) (by kernel_rfl) (fun _ _ _ h => h) (Or.inl ⟨by rfl, fun W hW => exec_load_agg rfl (by rfl) [.int .i64 r0, .int .i64 (-1)] Try.underlying35 rfl (by kernel_rfl) (fun j v hj => by rw [Nat.zero_add, cell_of_heap hW.1]; simpa using hj)⟩) (by assumption) ?_
   simp only [Act.put, q1_, q2_, q3_, List.setIfInBounds_toArray, q5_, q6_]
   refine wpAnyH_take (i := 1) (v := .agg #[.slice AL LL.length cL, .slice none 0 0]) rfl (by kernel_rfl) (by kernel_rfl) (by kernel_rfl) (fun _ _ _ h => h) (Or.inl ⟨by rfl, fun W hW => exec_load_agg rfl (by rfl) [.slice AL LL.length cL, .slice none 0 0] Try.underlying37 rfl (by kernel_rfl) (fun j v hj => by rw [Nat.zero_add, cell_of_heap hW.2]; simpa using hj)⟩) (by assumption) ?_
   simp only [Act.put, q1_, q2_, q3_, List.setIfInBounds_toArray, q5_, q6_]
   refine wpAnyH_ready (rs := [2]) (by kernel_rfl) (by simp) ?_
   refine AllReadyH.cons rfl (fun K hK => ?_) AllReadyH.nil
   have k1 : Kept (fun j => j = rr) wr.drew (wr.drew.setRow rr #[.int .i64 r0, .int .i64 (-1)]) := Kept.setRow (S := fun j => j = rr) (Kept.refl _ _) rfl _
   refine step_store_whole 35 rfl rfl (g := rr) (by rfl) [.int .i64 r0, .int .i64 (-1)] rfl (by kernel_rfl) 35 #[.int .i64 0, .int .i64 0] Sd.out.c6 rfl (by intro c hc; simp at hc; (first | (rcases hc with rfl | rfl <;> rfl) | (subst hc; rfl))) ?_
   refine hK.out _ _ ⟨k1.get hS.1 (by omega), k1.get hS.2 (by omega)⟩ (fun hS2 => ?_)
   clear hK K
   try simp only [Act.put, q1_, q2_, q3_, List.setIfInBounds_toArray, q5_, q6_]
   have h2 := k1.get Sd.out.c7 (by omega)
   have h1 : (wr.drew.setRow rr #[.int .i64 r0, .int .i64 (-1)]).heap[rr]? = some (.cells #[.int .i64 r0, .int .i64 (-1)] _ (0, 0)) := setRow_heap _ _ _ _ _ _ Sd.out.c6
   have k2 : Kept (fun j => j = lr) (wr.drew.setRow rr #[.int .i64 r0, .int .i64 (-1)]) ((wr.drew.setRow rr #[.int .i64 r0, .int .i64 (-1)]).setRow lr #[.slice AL LL.length cL, .slice none 0 0]) := Kept.setRow (S := fun j => j = lr) (Kept.refl _ _) rfl _
   have g1 := k2.get h1 (by omega)
   have g2 : ((wr.drew.setRow rr #[.int .i64 r0, .int .i64 (-1)]).setRow lr #[.slice AL LL.length cL, .slice none 0 0]).heap[lr]? = some (.cells #[.slice AL LL.length cL, .slice none 0 0] _ (0, 0)) := setRow_heap _ _ _ _ _ _ h2
   have ap : ∀ c ∈ [db, lb, rr, lr, rB, lB], ¬ B.own c := fun c hc => (Sd.out.ap c hc).off
   have fin : Hid (StoreTo A B M1 w ((wr.drew.setRow rr #[.int .i64 r0, .int .i64 (-1)]).setRow lr #[.slice AL LL.length cL, .slice none 0 0])) := h_ ((Sd.out.to_.apart k1 (ap rr (by simp)) (by omega)).apart k2 (ap lr (by simp)) (by omega))
   refine wpAnyH_ready (rs := [3]) (by kernel_rfl) (by simp) ?_
   refine AllReadyH.cons rfl (fun K hK => ?_) ?_
   ·refine step_store_whole 37 rfl rfl (g := lr) (by rfl) [.slice AL LL.length cL, .slice none 0 0] rfl (by kernel_rfl) 37 #[.slice none 0 0, .slice none 0 0] h2 rfl (by intro c hc; simp at hc; (first | (rcases hc with rfl | rfl <;> rfl) | (subst hc; rfl))) ?_
    refine hK.out _ _ ⟨k2.get hS2.1 (by omega), k2.get hS2.2 (by omega)⟩ (fun hS3 => ?_)
    clear hK K
    try simp only [Act.put, q1_, q2_, q3_, List.setIfInBounds_toArray, q5_, q6_]
    refine wpAnyH_take (i := 4) (v := .bool false) rfl (by kernel_rfl) (by kernel_rfl) (by kernel_rfl) (fun _ _ _ h => h) (Or.inl ⟨by rfl, fun W hW => by go_simp⟩) (by assumption) ?_
    simp only [Act.put, q1_, q2_, q3_, List.setIfInBounds_toArray, q5_, q6_]
    refine wpAnyH_done (by kernel_rfl) ?_ _
    clear hS hS2 hS3 k1 k2 h1 h2
    go_wp2_with fail
    refine bodyPost_ret (results_two rfl _ _ rr lr 35 37 #[.int .i64 r0, .int .i64 (-1)] #[.slice AL LL.length cL, .slice none 0 0] (0, 0) (0, 0) _ _ rfl g1 Try.underlying35 rfl (by kernel_rfl) rfl g2 Try.underlying37 rfl (by kernel_rfl)) rfl ?_
    exact ⟨B, M1, _, _, _, _, _, _, _, _, rfl, fin.out⟩
   exact AllReadyH.nil

theorem run_equalIn_change (d : Nat) (p q : Int × Int) (w : World) : (Op.equalIn (d + 2) 41 (.agg #[.int .i64 p.1, .int .i64 p.2]) (.agg #[.int .i64 q.1, .int .i64 q.2])).run Try.prog w = .ok (decide (p = q)) w := by
 obtain ⟨p1, p2⟩ := p
 obtain ⟨q1, q2⟩ := q
 have hi : ∀ w, (isAgg 3).run Try.prog w = .ok false w := fun w => by
  unfold isAgg
  rw [Sem.run_bind, run_underlying Try.underlying3 w]
  rfl
 have hS : Try.prog.underlying 41 = some (.struct (Try.prog.fieldsOf 41)) := by kernel_rfl
 have hp : Try.prog.stoodInHeld 41 = false := by kernel_rfl
 have hq : ∀ (a b : Int) w, (Op.equalIn (d + 1) 3 (.int .i64 a) (.int .i64 b)).run Try.prog w = .ok (a == b) w := fun a b w => run_equalIn_int w d 3 .i64 .i64 a b Try.underlying3
 rw [run_equalIn_struct w (d + 1) 41 _ _ hS hp]
 simp only [Program.fieldsOf, Try.underlying41]
 by_cases h1 : p1 = q1
 ·by_cases h2 : p2 = q2
  ·simp [Op.eqFields, part, hi, hq, h1, h2]
  ·simp [Op.eqFields, part, hi, hq, h1, h2]
 ·simp [Op.eqFields, part, hi, hq, h1]
theorem exec_eql_change {o : Oper} {a : Act} {x y : Operand} {u : TypeId} (ho : o.op = .binOp .eql 41 x y u) (p q : Int × Int) (hx : a.eval x = .agg #[.int .i64 p.1, .int .i64 p.2]) (hy : a.eval y = .agg #[.int .i64 q.1, .int .i64 q.2]) (w : World) :
  (execOp a.eval o).run Try.prog w = .ok (.value (.bool (decide (p = q)))) w := by
 unfold execOp
 have hm : Try.prog.eqGuardType Try.prog.depth 41 = false := by kernel_rfl
 have he := run_equalIn_change 9998 p q w
 simp only [ho, hx, hy, Sem.run_bind, run_eqGuard_agg (hm := hm), Result.andThen_ok, run_eql_struct, he]
 rfl
structure DifSt (w0 : World) (db sb g p0 p1 p2 : Nat) (wr : World) (A : SA) (M : SM) : Prop where
 own : OwnStore w0 A M wr
 box : wr.heap[db]? = some (.cells #[.pointer (some ⟨sb, 0, none⟩)] 31 (0, 0))
 bsafe : Safe wr A db
 eq : A.sb = sb
 c0 : wr.cell? ⟨g, 0, none⟩ = some (.int .i64 p0)
 c1 : wr.cell? ⟨g, 0 + 1, none⟩ = some (.int .i64 p1)
 c2 : wr.cell? ⟨g, 0 + 2, none⟩ = some (.int .i64 p2)
 gsafe : Safe wr A g
theorem DifSt.fresh {w0 wr w' : World} {db sb g p0 p1 p2 : Nat} {A : SA} {M : SM} (h : DifSt w0 db sb g p0 p1 p2 wr A M) (k : Kept (fun _ => False) wr w') : DifSt w0 db sb g p0 p1 p2 w' A M :=
 ⟨h.own.fresh k, k.get h.box id, h.bsafe.fresh k, h.eq, k.cell h.c0 id, k.cell h.c1 id, k.cell h.c2 id, h.gsafe.fresh k⟩
theorem DifSt.to {w0 wr w' : World} {db sb g p0 p1 p2 : Nat} {A A' : SA} {M M' : SM} (h : DifSt w0 db sb g p0 p1 p2 wr A M) (k : StoreTo A A' M' wr w') : DifSt w0 db sb g p0 p1 p2 w' A' M' :=
 ⟨h.own.to k, k.get h.box h.bsafe, h.bsafe.to k, k.sb.trans h.eq, k.kept.cell h.c0 h.gsafe.off, k.kept.cell h.c1 h.gsafe.off, k.kept.cell h.c2 h.gsafe.off, h.gsafe.to k⟩
theorem DifSt.load {w0 wr : World} {db sb g p0 p1 p2 : Nat} {A : SA} {M : SM} (h : DifSt w0 db sb g p0 p1 p2 wr A M) : ∀ j v, [Value.pointer (some ⟨sb, 0, none⟩)][j]? = some v → wr.cell? ⟨db, 0 + j, none⟩ = some v := fun j v hj => by rw [Nat.zero_add, cell_of_heap h.box]; simpa using hj
theorem two_cells {W : World} {b off : Nat} {x y : Value} (h1 : W.cell? ⟨b, off, none⟩ = some x) (h2 : W.cell? ⟨b, off + 1, none⟩ = some y) : ∀ j v, [x, y][j]? = some v → W.cell? ⟨b, off + j, none⟩ = some v
 | 0, v, hj => by rw [Nat.add_zero, h1]; simpa using hj
 | 1, v, hj => by rw [h2]; simpa using hj
 | j + 2, v, hj => by simp at hj
set_option maxHeartbeats 16000000 in
theorem diffAlive (w : World) : Calls Try.prog 5 #[] w fun e w' => e = .returned (.bool true) ∧ Kept (fun _ => False) w w' := by
 have hm := made12 w
 have hm' := h_ hm
 clear hm
 go_enter Try.func5, Try.ntmps5
 go_wp2_with fail
 refine hm'.out.mono ?_
 rintro e w2 ⟨A, M, ns, v, rfl, hA, h4, hone, hnd, hrow, hoff, hlg, hk, hnew⟩
 rcases hrow.2 with ⟨_, h0⟩ | ⟨g, cp, cur, rfl, hb, hg, hn, hm2, hs, ht⟩
 ·exact absurd h0 (by decide)
 obtain ⟨p0, p1, p2, p3, rfl⟩ : ∃ p0 p1 p2 p3, ns = [p0, p1, p2, p3] := by
  match ns, h4 with
  | [a, b, c, d], _ => exact ⟨a, b, c, d, rfl⟩
 have hsl := SliceAt.of_owns hrow
 have e0 := hsl.cell0 (j := 0) (v := .int .i64 p0) rfl
 have e1 := hsl.cell0 (j := 1) (v := .int .i64 p1) rfl
 have e2 := hsl.cell0 (j := 2) (v := .int .i64 p2) rfl
 have hgl := (hrow.lt g rfl).2
 obtain ⟨_, _, _, e4, hcp1, hcp2, _⟩ := hsl
 cases e4
 unfold maxLen at hcp2
 obtain ⟨M1, a, hbd, h1, hlg1⟩ := alive12_build hone h4 (p0 := p0) (p1 := p1) (by simp) (by simp)
 obtain ⟨db, hdb⟩ : ∃ db, w2.heap.size = db := ⟨_, rfl⟩
 obtain ⟨w3, hw3⟩ : ∃ w3, (w2.alloc (.cells #[.pointer none] 31)).setRow db #[.pointer (some ⟨A.sb, 0, none⟩)] = w3 := ⟨_, rfl⟩
 have k3 : Kept (fun _ => False) w2 w3 := by rw [← hw3]; exact ((Kept.refl _ _).alloc _).setRowNew (by omega) _
 have q3 : w3.heap[db]? = some (.cells #[.pointer (some ⟨A.sb, 0, none⟩)] 31 (0, 0)) := by rw [← hw3, ← hdb]; exact setRow_heap _ _ _ _ _ _ (heap_alloc_new _ _)
 have S3 : DifSt w db A.sb g p0 p1 p2 w3 A M := ⟨⟨hA.fresh k3, hk.trans k3, hnew⟩, q3, Safe.new hA (by omega) (lt_of_heap q3), rfl, k3.cell e0 id, k3.cell e1 id, k3.cell e2 id, ⟨Nat.lt_of_lt_of_le hgl k3.size, fun e => hoff g rfl (.inl e)⟩⟩
 obtain ⟨sb, hsb⟩ : ∃ sb, A.sb = sb := ⟨_, rfl⟩
 rw [hsb] at hw3 S3 ⊢
 have S3 := h_ S3
 have hw3' := h_ hw3
 have hdb' := h_ hdb
 have hone' := h_ hone
 have h1' := h_ h1
 have hbd' := h_ hbd
 clear hA hone hnd hrow hoff hk hnew hb hg hn hs ht e0 e1 e2 hgl hdb hw3 k3 q3 hbd h1 hm2
 go_wp2_with (first | (refine wpList_alloc_as 31 rfl rfl #[.pointer none] differ_zero ?_; rw [hdb'.out]) | (refine wpList_store_whole 31 rfl rfl rfl [.pointer (some ⟨sb, 0, none⟩)] rfl (by kernel_rfl) 31 #[.pointer none] (by rw [← hdb'.out]; exact heap_alloc_new _ _) rfl (by intro c hc; simp at hc; subst hc; rfl) ?_; rw [hw3'.out]))
 refine wp_region_held_drew (S := fun W => W.heap[db]? = some (.cells #[.pointer (some ⟨sb, 0, none⟩)] 31 (0, 0)) ∧ W.cell? ⟨g, 0, none⟩ = some (.int .i64 p0) ∧ W.cell? ⟨g, 0 + 1, none⟩ = some (.int .i64 p1) ∧ W.cell? ⟨g, 0 + 2, none⟩ = some (.int .i64 p2)) (by kernel_rfl) ⟨S3.out.box, S3.out.c0, S3.out.c1, S3.out.c2⟩ (fun hS => ?_)
 refine wpAnyH_take (i := 0) (v := .pointer (some ⟨db, 0, none⟩)) rfl (by kernel_rfl) (by kernel_rfl) (by kernel_rfl) (fun _ _ _ h => h) (Or.inl ⟨by rfl, fun W hW => by go_simp⟩) (by assumption) ?_
 simp only [Act.put, q1_, q2_, q3_, List.setIfInBounds_toArray, q5_, q6_]
 refine wpAnyH_take (i := 1) (v := .pointer (some ⟨db, 0, none⟩)) rfl (by kernel_rfl) (by kernel_rfl) (by kernel_rfl) (fun _ _ _ h => h) (Or.inl ⟨by rfl, fun W hW => by go_simp⟩) (by assumption) ?_
 simp only [Act.put, q1_, q2_, q3_, List.setIfInBounds_toArray, q5_, q6_]
 refine wpAnyH_take (i := 2) (v := .agg #[.pointer (some ⟨sb, 0, none⟩)]) rfl (by kernel_rfl) (by kernel_rfl) (by kernel_rfl) (fun _ _ _ h => h) (Or.inl ⟨by rfl, fun W hW => exec_load_agg rfl (by rfl) [.pointer (some ⟨sb, 0, none⟩)] Try.underlying27 rfl (by kernel_rfl) (fun j v hj => by rw [cell_of_heap hW.1, Nat.zero_add]; simpa using hj)⟩) (by assumption) ?_
 simp only [Act.put, q1_, q2_, q3_, List.setIfInBounds_toArray, q5_, q6_]
 refine wpAnyH_take (i := 3) (v := .slice (some ⟨g, 0, none⟩) 4 cp) rfl (by kernel_rfl) (by kernel_rfl) (by kernel_rfl) (fun _ _ _ h => h) (Or.inl ⟨by rfl, fun W hW => by go_simp⟩) (by assumption) ?_
 simp only [Act.put, q1_, q2_, q3_, List.setIfInBounds_toArray, q5_, q6_]
 refine wpAnyH_take (i := 4) (v := .pointer (some ⟨g, 0, none⟩)) rfl (by kernel_rfl) (by kernel_rfl) (by kernel_rfl) (fun _ _ _ h => h) (Or.inl ⟨by rfl, fun W hW => by go_simp⟩) (by assumption) ?_
 simp only [Act.put, q1_, q2_, q3_, List.setIfInBounds_toArray, q5_, q6_]
 refine wpAnyH_take (i := 5) (v := .int .i64 p0) rfl (by kernel_rfl) (by kernel_rfl) (by kernel_rfl) (fun _ _ _ h => h) (Or.inl ⟨by rfl, fun W hW => by have hc := hW.2.1; clear hW; go_simp⟩) (by assumption) ?_
 simp only [Act.put, q1_, q2_, q3_, List.setIfInBounds_toArray, q5_, q6_]
 refine wpAnyH_take (i := 6) (v := .agg #[.int .i64 1, .int .i64 p0]) rfl (by kernel_rfl) (by kernel_rfl) (by kernel_rfl) (fun _ _ _ h => h) (Or.inl ⟨by rfl, fun W hW => by go_simp⟩) (by assumption) ?_
 simp only [Act.put, q1_, q2_, q3_, List.setIfInBounds_toArray, q5_, q6_]
 refine wpAnyH_take (i := 7) (v := .slice (some ⟨g, 0, none⟩) 4 cp) rfl (by kernel_rfl) (by kernel_rfl) (by kernel_rfl) (fun _ _ _ h => h) (Or.inl ⟨by rfl, fun W hW => by go_simp⟩) (by assumption) ?_
 simp only [Act.put, q1_, q2_, q3_, List.setIfInBounds_toArray, q5_, q6_]
 refine wpAnyH_take (i := 8) (v := .pointer (some ⟨g, 0 + 1, none⟩)) rfl (by kernel_rfl) (by kernel_rfl) (by kernel_rfl) (fun _ _ _ h => h) (Or.inl ⟨by rfl, fun W hW => by go_simp⟩) (by assumption) ?_
 simp only [Act.put, q1_, q2_, q3_, List.setIfInBounds_toArray, q5_, q6_]
 refine wpAnyH_take (i := 9) (v := .int .i64 p1) rfl (by kernel_rfl) (by kernel_rfl) (by kernel_rfl) (fun _ _ _ h => h) (Or.inl ⟨by rfl, fun W hW => by have hc := hW.2.2.1; clear hW; go_simp⟩) (by assumption) ?_
 simp only [Act.put, q1_, q2_, q3_, List.setIfInBounds_toArray, q5_, q6_]
 refine wpAnyH_take (i := 10) (v := .agg #[.int .i64 2, .int .i64 p1]) rfl (by kernel_rfl) (by kernel_rfl) (by kernel_rfl) (fun _ _ _ h => h) (Or.inl ⟨by rfl, fun W hW => by go_simp⟩) (by assumption) ?_
 simp only [Act.put, q1_, q2_, q3_, List.setIfInBounds_toArray, q5_, q6_]
 refine wpAnyH_ready (rs := [11]) (by kernel_rfl) (by simp) ?_
 refine AllReadyH.cons rfl (fun K hK => ?_) ?_
 ·rw [if_pos (by rfl)]
  simp only [Go.wp_at_zero, Go.wp_at_succ]
  go_simp
  have k4 : Kept (fun _ => False) w3 (w3.drew.alloc (.cells #[.int .i64 1, .int .i64 p0, .int .i64 2, .int .i64 p1] 58)) := (Kept.refl _ _).drew.alloc _
  have S4 := S3.out.fresh k4
  refine hK.out _ _ ⟨S4.box, S4.c0, S4.c1, S4.c2⟩ (fun hS4 => ?_)
  clear hK K
  try simp only [Act.put, q1_, q2_, q3_, List.setIfInBounds_toArray, q5_, q6_]
  obtain ⟨hS4', hE4⟩ := ents_new (S3.out.fresh ((Kept.refl (fun _ => False) w3).drew)).own.store (exA p0 p1) (by show 2 ≤ 1000; omega)
  have hB := treeBuild hS4' hE4 (by show 2 ≤ 1000; omega) (by omega)
  rw [hbd'.out, S3.out.eq] at hB
  dsimp only at hB
  have hB' := h_ hB
  have S4 := h_ S4
  clear hS4' hE4 hB k4
  refine wpAnyH_ready (rs := [12]) (by kernel_rfl) (by simp) ?_
  refine AllReadyH.cons rfl (fun K hK => ?_) ?_
  ·rw [if_pos (by rfl)]
   simp only [Go.wp_at_zero, Go.wp_at_succ]
   go_simp
   refine hB'.out.mono ?_
   rintro e w5 ⟨A5, rfl, hT5⟩
   have S5 := S4.out.to hT5
   refine hK.out _ _ ⟨S5.box, S5.c0, S5.c1, S5.c2⟩ (fun hS5 => ?_)
   clear hK K
   try simp only [Act.put, q1_, q2_, q3_, List.setIfInBounds_toArray, q5_, q6_]
   have S5 := h_ S5
   refine wpAnyH_take (i := 13) (v := .tuple #[.int .i64 a, .int .i64 0]) rfl (by kernel_rfl) (by kernel_rfl) (by kernel_rfl) (fun _ _ _ h => h) (Or.inl ⟨by rfl, fun W hW => by go_simp⟩) (by assumption) ?_
   simp only [Act.put, q1_, q2_, q3_, List.setIfInBounds_toArray, q5_, q6_]
   refine wpAnyH_take (i := 14) (v := .int .i64 a) rfl (by kernel_rfl) (by kernel_rfl) (by kernel_rfl) (fun _ _ _ h => h) (Or.inl ⟨by rfl, fun W hW => by go_simp⟩) (by assumption) ?_
   simp only [Act.put, q1_, q2_, q3_, List.setIfInBounds_toArray, q5_, q6_]
   refine wpAnyH_take (i := 15) (v := .int .i64 0) rfl (by kernel_rfl) (by kernel_rfl) (by kernel_rfl) (fun _ _ _ h => h) (Or.inl ⟨by rfl, fun W hW => by go_simp⟩) (by assumption) ?_
   simp only [Act.put, q1_, q2_, q3_, List.setIfInBounds_toArray, q5_, q6_]
   refine wpAnyH_take (i := 16) (v := .int .i64 a) rfl (by kernel_rfl) (by kernel_rfl) (by kernel_rfl) (fun _ _ _ h => h) (Or.inl ⟨by rfl, fun W hW => by go_simp⟩) (by assumption) ?_
   simp only [Act.put, q1_, q2_, q3_, List.setIfInBounds_toArray, q5_, q6_]
   refine wpAnyH_take (i := 17) (v := .int .i64 0) rfl (by kernel_rfl) (by kernel_rfl) (by kernel_rfl) (fun _ _ _ h => h) (Or.inl ⟨by rfl, fun W hW => by go_simp⟩) (by assumption) ?_
   simp only [Act.put, q1_, q2_, q3_, List.setIfInBounds_toArray, q5_, q6_]
   refine wpAnyH_done (by kernel_rfl) ?_ _
   clear hS hS4 hS5 hT5 hB'
   obtain ⟨M2, b, M3, hpt, hsw, hra, hrb, hlg3⟩ := alive12_put h1'.out h4 (p2 := p2) (by simp) (by simp) (by simp)
   have hra' := h_ hra
   have hrb' := h_ hrb
   have hsw' := h_ hsw
   have hP := treePut (S5.out.fresh ((Kept.refl (fun _ => False) w5).drew)).own.store a 9 (p2 : Int) (by omega)
   rw [hpt, S5.out.eq] at hP
   dsimp only at hP
   have hP' := h_ hP
   clear hpt hra hrb hsw hP
   go_wp2_with fail
   refine wp_region_held_drew (S := fun W => W.heap[db]? = some (.cells #[.pointer (some ⟨sb, 0, none⟩)] 31 (0, 0)) ∧ W.cell? ⟨g, 0, none⟩ = some (.int .i64 p0) ∧ W.cell? ⟨g, 0 + 1, none⟩ = some (.int .i64 p1) ∧ W.cell? ⟨g, 0 + 2, none⟩ = some (.int .i64 p2)) (by kernel_rfl) ⟨S5.out.box, S5.out.c0, S5.out.c1, S5.out.c2⟩ (fun hS => ?_)
   refine wpAnyH_take (i := 0) (v := .pointer (some ⟨db, 0, none⟩)) rfl (by kernel_rfl) (by kernel_rfl) (by kernel_rfl) (fun _ _ _ h => h) (Or.inl ⟨by rfl, fun W hW => by go_simp⟩) (by assumption) ?_
   simp only [Act.put, q1_, q2_, q3_, List.setIfInBounds_toArray, q5_, q6_]
   refine wpAnyH_take (i := 1) (v := .pointer (some ⟨db, 0, none⟩)) rfl (by kernel_rfl) (by kernel_rfl) (by kernel_rfl) (fun _ _ _ h => h) (Or.inl ⟨by rfl, fun W hW => by go_simp⟩) (by assumption) ?_
   simp only [Act.put, q1_, q2_, q3_, List.setIfInBounds_toArray, q5_, q6_]
   refine wpAnyH_take (i := 2) (v := .agg #[.pointer (some ⟨sb, 0, none⟩)]) rfl (by kernel_rfl) (by kernel_rfl) (by kernel_rfl) (fun _ _ _ h => h) (Or.inl ⟨by rfl, fun W hW => exec_load_agg rfl (by rfl) [.pointer (some ⟨sb, 0, none⟩)] Try.underlying27 rfl (by kernel_rfl) (fun j v hj => by rw [cell_of_heap hW.1, Nat.zero_add]; simpa using hj)⟩) (by assumption) ?_
   simp only [Act.put, q1_, q2_, q3_, List.setIfInBounds_toArray, q5_, q6_]
   refine wpAnyH_take (i := 3) (v := .int .i64 a) rfl (by kernel_rfl) (by kernel_rfl) (by kernel_rfl) (fun _ _ _ h => h) (Or.inl ⟨by rfl, fun W hW => by go_simp⟩) (by assumption) ?_
   simp only [Act.put, q1_, q2_, q3_, List.setIfInBounds_toArray, q5_, q6_]
   refine wpAnyH_take (i := 4) (v := .slice (some ⟨g, 0, none⟩) 4 cp) rfl (by kernel_rfl) (by kernel_rfl) (by kernel_rfl) (fun _ _ _ h => h) (Or.inl ⟨by rfl, fun W hW => by go_simp⟩) (by assumption) ?_
   simp only [Act.put, q1_, q2_, q3_, List.setIfInBounds_toArray, q5_, q6_]
   refine wpAnyH_take (i := 5) (v := .pointer (some ⟨g, 0 + 2, none⟩)) rfl (by kernel_rfl) (by kernel_rfl) (by kernel_rfl) (fun _ _ _ h => h) (Or.inl ⟨by rfl, fun W hW => by go_simp⟩) (by assumption) ?_
   simp only [Act.put, q1_, q2_, q3_, List.setIfInBounds_toArray, q5_, q6_]
   refine wpAnyH_take (i := 6) (v := .int .i64 p2) rfl (by kernel_rfl) (by kernel_rfl) (by kernel_rfl) (fun _ _ _ h => h) (Or.inl ⟨by rfl, fun W hW => by have hc := hW.2.2.2; clear hW; go_simp⟩) (by assumption) ?_
   simp only [Act.put, q1_, q2_, q3_, List.setIfInBounds_toArray, q5_, q6_]
   refine wpAnyH_ready (rs := [7]) (by kernel_rfl) (by simp) ?_
   refine AllReadyH.cons rfl (fun K hK => ?_) ?_
   ·rw [if_pos (by rfl)]
    simp only [Go.wp_at_zero, Go.wp_at_succ]
    go_simp
    refine hP'.out.mono ?_
    rintro e w6 ⟨A6, rfl, hT6⟩
    have S6 := (S5.out.fresh ((Kept.refl (fun _ => False) w5).drew)).to hT6
    refine hK.out _ _ ⟨S6.box, S6.c0, S6.c1, S6.c2⟩ (fun hS6 => ?_)
    clear hK K
    try simp only [Act.put, q1_, q2_, q3_, List.setIfInBounds_toArray, q5_, q6_]
    have S6 := h_ S6
    refine wpAnyH_take (i := 8) (v := .tuple #[.int .i64 b, .int .i64 0]) rfl (by kernel_rfl) (by kernel_rfl) (by kernel_rfl) (fun _ _ _ h => h) (Or.inl ⟨by rfl, fun W hW => by go_simp⟩) (by assumption) ?_
    simp only [Act.put, q1_, q2_, q3_, List.setIfInBounds_toArray, q5_, q6_]
    refine wpAnyH_take (i := 9) (v := .int .i64 b) rfl (by kernel_rfl) (by kernel_rfl) (by kernel_rfl) (fun _ _ _ h => h) (Or.inl ⟨by rfl, fun W hW => by go_simp⟩) (by assumption) ?_
    simp only [Act.put, q1_, q2_, q3_, List.setIfInBounds_toArray, q5_, q6_]
    refine wpAnyH_take (i := 10) (v := .int .i64 0) rfl (by kernel_rfl) (by kernel_rfl) (by kernel_rfl) (fun _ _ _ h => h) (Or.inl ⟨by rfl, fun W hW => by go_simp⟩) (by assumption) ?_
    simp only [Act.put, q1_, q2_, q3_, List.setIfInBounds_toArray, q5_, q6_]
    refine wpAnyH_take (i := 11) (v := .int .i64 b) rfl (by kernel_rfl) (by kernel_rfl) (by kernel_rfl) (fun _ _ _ h => h) (Or.inl ⟨by rfl, fun W hW => by go_simp⟩) (by assumption) ?_
    simp only [Act.put, q1_, q2_, q3_, List.setIfInBounds_toArray, q5_, q6_]
    refine wpAnyH_take (i := 12) (v := .int .i64 0) rfl (by kernel_rfl) (by kernel_rfl) (by kernel_rfl) (fun _ _ _ h => h) (Or.inl ⟨by rfl, fun W hW => by go_simp⟩) (by assumption) ?_
    simp only [Act.put, q1_, q2_, q3_, List.setIfInBounds_toArray, q5_, q6_]
    refine wpAnyH_done (by kernel_rfl) ?_ _
    clear hS hS6 hT6 hP'
    have hlg3' : M3.log.length ≤ 1000 := by omega
    have hW := treeSwap S6.out.own.store (-1) b
    rw [hsw'.out, S6.out.eq] at hW
    dsimp only at hW
    have hW' := h_ hW
    clear hW
    go_wp2_with (first | (refine wpList_load_agg 27 rfl rfl rfl _ Try.underlying27 rfl [.pointer (some ⟨sb, 0, none⟩)] (by kernel_rfl) S6.out.load ?_))
    refine hW'.out.mono ?_
    rintro e w7 ⟨rfl, hT7⟩
    have S7 := h_ (S6.out.to hT7)
    clear hT7 hW'
    have hC := diffChanges S7.out.own.store hra'.out hrb'.out
    rw [S7.out.eq] at hC
    rw [ch_ab] at hC
    have hC' := h_ hC
    clear hC
    go_wp2_with (first | (refine wpList_load_agg 31 rfl rfl rfl _ Try.underlying31 rfl [.pointer (some ⟨sb, 0, none⟩)] (by kernel_rfl) S7.out.load ?_))
    refine hC'.out.mono ?_
    rintro e w8 ⟨v8, rfl, hown8, kc8⟩
    have S8 := h_ (S7.out.fresh kc8)
    have hE8 : EntsAt w8 v8 [(9, (p2 : Int))] := SliceAt.of_owns hown8
    obtain ⟨Av8, cap8, rfl, u1, u2⟩ := EntsAt.form hE8
    obtain ⟨b8, off8, rfl, _, c1, c2⟩ := EntsAt.get hE8 (i := 0) (x := (9, (p2 : Int))) rfl
    rw [Nat.zero_mul, Nat.add_zero] at c1 c2
    have c1' := h_ c1
    have c2' := h_ c2
    clear hown8 hE8 kc8 c1 c2 hC'
    have hC := diffChanges S8.out.own.store hrb'.out hra'.out
    rw [S8.out.eq] at hC
    rw [ch_ba] at hC
    have hC' := h_ hC
    clear hC
    go_wp2_with (first | (refine wpList_load_agg 31 rfl rfl rfl _ Try.underlying31 rfl [.pointer (some ⟨sb, 0, none⟩)] (by kernel_rfl) S8.out.load ?_))
    refine hC'.out.mono ?_
    rintro e w9 ⟨v9, rfl, hown9, kc9⟩
    have S9 := h_ (S8.out.fresh kc9)
    have hE9 : EntsAt w9 v9 [(9, (-1 : Int))] := SliceAt.of_owns hown9
    obtain ⟨Av9, cap9, rfl, u3, u4⟩ := EntsAt.form hE9
    obtain ⟨b9, off9, rfl, _, c3, c4⟩ := EntsAt.get hE9 (i := 0) (x := (9, (-1 : Int))) rfl
    rw [Nat.zero_mul, Nat.add_zero] at c3 c4
    have c3' := h_ c3
    have c4' := h_ c4
    have c1'' := h_ (kc9.cell c1'.out id)
    have c2'' := h_ (kc9.cell c2'.out id)
    clear hown9 hE9 kc9 c3 c4 hC' c1' c2'
    unfold maxLen at u2 u4
    simp only [List.length_cons, List.length_nil, Nat.zero_add] at u1 u2 u3 u4 ⊢
    go_wp2_with fail
    refine wp_region_quiet (C := fun w' => Kept (fun _ => False) w9 w') (by kernel_rfl) (by kernel_rfl) (Kept.refl _ _).drew ?_
    simp only []
    refine wpQuiet_step (fun K hK => ?_); go_simp; refine ⟨_, fun _ _ => rfl, hK _ ?_⟩; clear hK K
    refine wpQuiet_step (fun K hK => ?_); go_simp; refine ⟨_, fun _ _ => rfl, hK _ ?_⟩; clear hK K
    refine wpQuiet_step (fun K hK => ?_); go_simp; refine ⟨_, fun _ _ => rfl, hK _ ?_⟩; clear hK K
    refine wpQuiet_step (fun K hK => ?_); go_simp; refine ⟨_, fun _ _ => rfl, hK _ ?_⟩; clear hK K
    refine wpQuiet_step (fun K hK => ?_); go_simp; refine ⟨_, fun _ _ => rfl, hK _ ?_⟩; clear hK K
    refine wpQuiet_step (fun K hK => ?_); go_simp; refine ⟨_, fun _ _ => rfl, hK _ ?_⟩; clear hK K
    refine wpQuiet_step (fun K hK => ?_); go_simp; refine ⟨_, fun _ _ => rfl, hK _ ?_⟩; clear hK K
    refine wpQuiet_step (fun K hK => ?_); go_simp; refine ⟨_, fun _ _ => rfl, hK _ ?_⟩; clear hK K
    refine wpQuiet_step (fun K hK => ?_); go_simp; refine ⟨_, fun _ _ => rfl, hK _ ?_⟩; clear hK K
    refine wpQuiet_step (fun K hK => ?_); go_simp; refine ⟨_, fun _ _ => rfl, hK _ ?_⟩; clear hK K
    refine wpQuiet_step (fun K hK => ?_); go_simp; refine ⟨_, fun _ _ => rfl, hK _ ?_⟩; clear hK K
    refine wpQuiet_step (fun K hK => ?_); go_simp; refine ⟨_, fun _ _ => rfl, hK _ ?_⟩; clear hK K
    refine wpQuiet_step (fun K hK => ?_); go_simp; refine ⟨_, fun _ _ => rfl, hK _ ?_⟩; clear hK K
    refine wpQuiet_step (fun K hK => ?_); go_simp; refine ⟨_, fun _ _ => rfl, hK _ ?_⟩; clear hK K
    refine wpQuiet_step (fun K hK => ?_); go_simp; refine ⟨_, fun _ _ => rfl, hK _ ?_⟩; clear hK K
    refine wpQuiet_step (fun K hK => ?_); go_simp; refine ⟨_, fun _ _ => rfl, hK _ ?_⟩; clear hK K
    refine wpQuiet_step (fun K hK => ?_); go_simp; refine ⟨_, fun _ _ => rfl, hK _ ?_⟩; clear hK K
    refine wpQuiet_step (fun K hK => ?_); go_simp; refine ⟨_, fun _ _ => rfl, hK _ ?_⟩; clear hK K
    refine wpQuiet_step (fun K hK => ?_); go_simp; refine ⟨_, fun _ _ => rfl, hK _ ?_⟩; clear hK K
    refine wpQuiet_step (fun K hK => ?_); go_simp; refine ⟨_, fun _ _ => rfl, hK _ ?_⟩; clear hK K
    refine wpQuiet_step (fun K hK => ?_); go_simp; refine ⟨_, fun _ _ => rfl, hK _ ?_⟩; clear hK K
    refine wpQuiet_step (fun K hK => ?_); go_simp; refine ⟨_, fun _ _ => rfl, hK _ ?_⟩; clear hK K
    refine wpQuiet_step (fun K hK => ?_); go_simp; refine ⟨_, fun _ _ => rfl, hK _ ?_⟩; clear hK K
    refine wpQuiet_step (fun K hK => ?_); go_simp; refine ⟨_, fun _ _ => rfl, hK _ ?_⟩; clear hK K
    refine wpQuiet_step (fun K hK => ?_); go_simp; refine ⟨_, fun _ _ => rfl, hK _ ?_⟩; clear hK K
    refine wpQuiet_step (fun K hK => ?_); go_simp; refine ⟨_, fun _ _ => rfl, hK _ ?_⟩; clear hK K
    refine wpQuiet_step (fun K hK => ?_); refine q_on rfl (q_val (.agg #[.int .i64 9, .int .i64 p2]) (fun W hW => exec_load_agg (g := b8) (off := off8) rfl (by rfl) [.int .i64 9, .int .i64 p2] Try.underlying41 rfl (by kernel_rfl) (two_cells (hW.cell c1''.out id) (hW.cell c2''.out id))) (hK _ ?_)); clear hK K
    refine wpQuiet_step (fun K hK => ?_); go_simp; refine ⟨_, fun _ _ => rfl, hK _ ?_⟩; clear hK K
    refine wpQuiet_step (fun K hK => ?_); go_simp; refine ⟨_, fun _ _ => rfl, hK _ ?_⟩; clear hK K
    refine wpQuiet_step (fun K hK => ?_); refine q_on rfl (q_val (.int .i64 p2) (fun W hW => by have hc := hW.cell S9.out.c2 id; clear hW; go_simp) (hK _ ?_)); clear hK K
    refine wpQuiet_step (fun K hK => ?_); go_simp; refine ⟨_, fun _ _ => rfl, hK _ ?_⟩; clear hK K
    refine wpQuiet_step (fun K hK => ?_); refine q_on rfl (q_val (.bool true) (fun W hW => by rw [exec_eql_change rfl (9, (p2 : Int)) (9, (p2 : Int)) (by rfl) (by rfl)]; simp) (hK _ ?_)); clear hK K
    refine wpQuiet_step (fun K hK => ?_); go_simp; refine ⟨_, fun _ _ => rfl, hK _ ?_⟩; clear hK K
    refine wpQuiet_step (fun K hK => ?_); go_simp; refine ⟨_, fun _ _ => rfl, hK _ ?_⟩; clear hK K
    refine wpQuiet_step (fun K hK => ?_); go_simp; refine ⟨_, fun _ _ => rfl, hK _ ?_⟩; clear hK K
    refine wpQuiet_step (fun K hK => ?_); go_simp; refine ⟨_, fun _ _ => rfl, hK _ ?_⟩; clear hK K
    refine wpQuiet_step (fun K hK => ?_); go_simp; refine ⟨_, fun _ _ => rfl, hK _ ?_⟩; clear hK K
    refine wpQuiet_step (fun K hK => ?_); go_simp; refine ⟨_, fun _ _ => rfl, hK _ ?_⟩; clear hK K
    refine wpQuiet_step (fun K hK => ?_); go_simp; refine ⟨_, fun _ _ => rfl, hK _ ?_⟩; clear hK K
    refine wpQuiet_step (fun K hK => ?_); go_simp; refine ⟨_, fun _ _ => rfl, hK _ ?_⟩; clear hK K
    refine wpQuiet_step (fun K hK => ?_); go_simp; refine ⟨_, fun _ _ => rfl, hK _ ?_⟩; clear hK K
    refine wpQuiet_step (fun K hK => ?_); refine q_on rfl (q_val (.agg #[.int .i64 9, .int .i64 (-1)]) (fun W hW => exec_load_agg (g := b9) (off := off9) rfl (by rfl) [.int .i64 9, .int .i64 (-1)] Try.underlying41 rfl (by kernel_rfl) (two_cells (hW.cell c3'.out id) (hW.cell c4'.out id))) (hK _ ?_)); clear hK K
    refine wpQuiet_step (fun K hK => ?_); go_simp; refine ⟨_, fun _ _ => rfl, hK _ ?_⟩; clear hK K
    refine wpQuiet_step (fun K hK => ?_); refine q_on rfl (q_val (.bool true) (fun W hW => by rw [exec_eql_change rfl (9, (-1 : Int)) (9, (-1 : Int)) (by rfl) (by rfl)]; simp) (hK _ ?_)); clear hK K
    refine wpQuiet_step (fun K hK => ?_); go_simp; refine ⟨_, fun _ _ => rfl, hK _ ?_⟩; clear hK K
    refine wpQuiet_step (fun K hK => ?_); go_simp; refine ⟨_, fun _ _ => rfl, hK _ ?_⟩; clear hK K
    refine wpQuiet_nil ?_
    intro wq hwq
    go_wp2_with fail
    go_ret
    exact ⟨rfl, S9.out.own.kept.trans hwq⟩
   exact AllReadyH.nil
  exact AllReadyH.nil
 exact AllReadyH.nil

structure ShSt (w : World) (db sb : Nat) (wr : World) (A : SA) (M : SM) : Prop where
 own : OwnStore w A M wr
 cd : wr.heap[db]? = some (.cells #[.pointer (some ⟨sb, 0, none⟩)] 31 (0, 0))
 sd : Safe wr A db
 eq : A.sb = sb
theorem ShSt.fresh {w wr w' : World} {db sb : Nat} {A : SA} {M : SM} (h : ShSt w db sb wr A M) (k : Kept (fun _ => False) wr w') : ShSt w db sb w' A M := ⟨h.own.fresh k, k.get h.cd id, h.sd.fresh k, h.eq⟩
theorem ShSt.to {w wr w' : World} {db sb : Nat} {A A' : SA} {M M' : SM} (h : ShSt w db sb wr A M) (k : StoreTo A A' M' wr w') : ShSt w db sb w' A' M' := ⟨h.own.to k, k.get h.cd h.sd, h.sd.to k, k.sb.trans h.eq⟩
theorem ShSt.load {w wr : World} {db sb : Nat} {A : SA} {M : SM} (h : ShSt w db sb wr A M) : ∀ j v, [Value.pointer (some ⟨sb, 0, none⟩)][j]? = some v → wr.cell? ⟨db, 0 + j, none⟩ = some v := ptr_load' h.cd
section
variable {K : SM → Prop} {c : Nat} {ns : List Nat} {M N : SM} {ts : List IM} {t : IM} {k : Nat}
theorem Forest.same {K' : SM → Prop} (h : Forest K ns M ts) (hk : K' N) (hs : N.pool.size = M.pool.size) (hc : ∀ q, N.pool.cnt q = M.pool.cnt q) (hl : ∀ q, N.live q = M.live q) (hn : ∀ q, M.live q = true → N.nodeAt q = M.nodeAt q) : Forest K' ns N ts := by
 have g := grown_same hs hl hn
 refine ⟨exact_same h.exact hs hc hl hn, hs.trans h.size, hk, fun q hq hq0 => h.loose q (by rw [← hl]; exact hq) (by rw [← hc]; exact hq0), fun b hb => ?_, fun i hi => ⟨(h.tree i hi).1.grown g, (h.tree i hi).2⟩⟩
 obtain ⟨a, d, e1, e2, e3⟩ := h.data b hb
 exact ⟨by rw [hl]; exact a, d, by rw [hn b a]; exact e1, e2, e3⟩
theorem Forest.list (h : Forest K ns M ts) (ht : t ∈ ts) (hP : t.P ≤ 240) : M.list t.root = (t.l, 0) := (h.tree t ht).1.list hP
end

structure OwnPt (w : World) (pre : List (Int × Int)) (v : Value) (wr : World) : Prop where
 kept : Kept (fun _ => False) w wr
 row : wr.ownsRow w.heap.size 41 2 v pre.length (entCells pre)
section
variable {w wr w' : World} {pre : List (Int × Int)} {v : Value}
theorem OwnPt.fresh (h : OwnPt w pre v wr) (q : Kept (fun _ => False) wr w') : OwnPt w pre v w' := ⟨h.kept.trans q, ownsRow.keptOf h.row q (fun _ _ => id)⟩
theorem OwnPt.later (h : OwnPt w pre v wr) {w1 : World} {xb : Nat} (k1 : Kept (fun _ => False) wr w1) (k2 : Kept (fun j => j = xb) w1 w') (hx : wr.heap.size ≤ xb) (hn : w.heap.size ≤ xb) : OwnPt w pre v w' := by
 have h1 := h.fresh k1
 refine ⟨h1.kept.trans_new k2 (fun i hi e => by omega), ownsRow.keptOf h1.row k2 (fun b hb e => ?_)⟩
 have := (h.row.lt b hb).2
 omega
theorem OwnPt.more (h : OwnPt w pre v wr) {w1 : World} (k1 : Kept (fun _ => False) wr w1) (x : Int × Int) {v7 : Value}
  (ho : w'.ownsRow w.heap.size 41 2 v7 (pre.length + 1) (entCells pre ++ [.int .i64 x.1, .int .i64 x.2])) (hg : w1.grownBy w' v.ownBlock) : OwnPt w (pre ++ [x]) v7 w' := by
 refine ⟨(h.kept.trans k1).trans_new (Kept.of_grown hg) (fun i hi e => ?_), ?_⟩
 ·exact absurd (h.row.lt i e).1 (Nat.not_le.2 hi)
 ·rw [List.length_append, entCells_append]
  exact ho
end
section
variable {w wr w' : World} {db sb cb rb lb : Nat} {u0 u1 vp : Value} {ns : List Nat} {l1 LL : List (Int × Int)} {r0 : Int} {L0 L1 : Value} {A A' : SA} {M M' : SM}
end
end Go.Proofs.Ytdcnogjbmdhgaaa
