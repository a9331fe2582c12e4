/-
 Layer 12: DiffTells' walk.
-/
import Derived.Test.YtdcnogjbmdhgaaaK28
import Derived.Test.YtdcnogjbmdhgaaaK29
set_option linter.unusedVariables false
set_option linter.unusedSimpArgs false
namespace Go.Proofs.Ytdcnogjbmdhgaaa
open Go.RowKit
set_option maxRecDepth 100000

theorem EntsOff.madeC {A : SA} {M : SM} {w w' : World} {v : Value} {l : List (Int × Int)} (h : w'.ownsRow w.heap.size 41 2 v l.length (entCells l)) (hs : StoreAt w A M) : EntsOff w' A v l :=
 ⟨SliceAt.of_owns h, fun _ b hb => ⟨(h.lt b hb).2, fun e => absurd (hs.lt (.inl e)) (Nat.not_lt.2 (h.lt b hb).1)⟩⟩
theorem RootIs.list {M : SM} {r : Int} {l : List (Int × Int)} (h : RootIs 1 M r l) : M.list r = (l, 0) := by
 rcases h.tree with ⟨e1, e2⟩ | ⟨k, hk, t⟩
 ·exact listR_ok (m := 1) (h := 0) (.inl ⟨e1, e2, rfl⟩) (by omega)
 ·exact listR_ok (.inr t) hk
structure TelS (w : World) (db sb lb : Nat) (la lb0 : List (Int × Int)) (L0 L1 : Value) (wr : World) (A : SA) (M : SM) : Prop where
 st : ShSt w db sb wr A M
 ct : wr.heap[lb]? = some (.cells #[L0, L1] 37 (0, 0))
 sq : Safe wr A lb
 eA : EntsOff wr A L0 la
 eB : EntsOff wr A L1 lb0
section
variable {w wr w' : World} {db sb lb : Nat} {la lb0 : List (Int × Int)} {L0 L1 : Value} {A A' : SA} {M M' : SM}
theorem TelS.fresh (h : TelS w db sb lb la lb0 L0 L1 wr A M) (k : Kept (fun _ => False) wr w') : TelS w db sb lb la lb0 L0 L1 w' A M := ⟨h.st.fresh k, k.get h.ct id, h.sq.fresh k, h.eA.fresh k, h.eB.fresh k⟩
theorem TelS.to (h : TelS w db sb lb la lb0 L0 L1 wr A M) (k : StoreTo A A' M' wr w') : TelS w db sb lb la lb0 L0 L1 w' A' M' := ⟨h.st.to k, k.get h.ct h.sq, h.sq.to k, h.eA.to k, h.eB.to k⟩
end
set_option maxHeartbeats 16000000 in
theorem diffTellsWalk {w : World} (v0 v1 : Value) (l0 l1 : List (Int × Int)) (hv0 : EntsAt w v0 l0) (hv1 : EntsAt w v1 l1) (ap : Bool) :
  Calls Try.prog 4 #[.agg #[v0, v1], .bool ap] w fun e w' => e = .returned (.bool true) ∧ Kept (fun _ => False) w w' := by
 obtain ⟨A0, c0, rfl, ha1, ha2⟩ := hv0.form
 obtain ⟨A1, c1, rfl, hb1, hb2⟩ := hv1.form
 unfold maxLen at ha2 hb2
 obtain ⟨cb, hcb⟩ : ∃ b, w.heap.size = b := ⟨_, rfl⟩
 obtain ⟨wb, hwb⟩ : ∃ u, w.alloc (.cells #[.slice A0 l0.length c0, .slice A1 l1.length c1] 23) = u := ⟨_, rfl⟩
 have kb := h_ (show Kept (fun _ => False) w wb by rw [← hwb]; exact (Kept.refl _ _).alloc _)
 have qb := h_ (show wb.heap[cb]? = some (.cells #[.slice A0 l0.length c0, .slice A1 l1.length c1] 23 (0, 0)) by rw [← hwb, ← hcb]; exact heap_alloc_new _ _)
 have hwb' := h_ hwb
 have hcb' := h_ hcb
 have hv0' := h_ hv0
 have hv1' := h_ hv1
 have hm := fun w => made12 w
 have hm' := h_ hm
 clear hwb hcb hv0 hv1 hm
 by_cases hl : 70 < l0.length
 ·have d0 : decide ((70 : Int) < (l0.length : Int)) = true := decide_eq_true (by omega)
  go_enter Try.func4, Try.ntmps4
  go_wp2_with (first | (refine wpList_box_named 23 rfl rfl _ rfl hwb'.out ?_; rw [hcb'.out]))
  refine (diffAlive _).mono ?_
  rintro e w1 ⟨rfl, k1⟩
  have K1 := h_ (kb.out.trans k1)
  have kk1 := h_ k1
  clear k1
  go_wp2_with fail
  refine (hm'.out _).mono ?_
  rintro e w2 ⟨A, M, ns, vp, rfl, hA, h4, hone, hnd, hrow, hoff, hlg, hk, hnew⟩
  obtain ⟨_, Ap, cp, rfl, hp1, hp2, _⟩ := SliceAt.of_owns hrow
  unfold maxLen at hp2
  have h4' := h_ h4
  obtain ⟨db, hdb⟩ : ∃ b, w2.heap.size = b := ⟨_, rfl⟩
  obtain ⟨sb, hsb⟩ : ∃ s, A.sb = s := ⟨_, rfl⟩
  rw [hsb]
  obtain ⟨w3, hw3⟩ : ∃ u, (w2.alloc (.cells #[.pointer none] 31)).setRow db #[.pointer (some ⟨sb, 0, none⟩)] = u := ⟨_, rfl⟩
  have k3 : Kept (fun _ => False) w2 w3 := by rw [← hw3]; exact ((Kept.refl _ _).alloc _).setRowNew (by omega) _
  have q3 : w3.heap[db]? = some (.cells #[.pointer (some ⟨sb, 0, none⟩)] 31 (0, 0)) := by rw [← hw3, ← hdb]; exact setRow_heap _ _ _ _ _ _ (heap_alloc_new _ _)
  have qc := ((kk1.out.trans hk).trans k3).get qb.out id
  have O3 : OwnStore w A M w3 := ⟨hA.fresh k3, (K1.out.trans hk).trans k3, fun j hj => Nat.le_trans K1.out.size (hnew j hj)⟩
  have hcbO : ¬ A.own cb := fun e => by have := hnew cb e; have := lt_of_heap (kk1.out.get qb.out id); omega
  have hld3 := h_ (ptr_load' q3)
  have hlb3 : Hid (∀ j v, [Value.slice A0 l0.length c0, .slice A1 l1.length c1][j]? = some v → w3.cell? ⟨cb, 0 + j, none⟩ = some v) := h_ (fun j v hj => by rw [Nat.zero_add, cell_of_heap qc]; simpa using hj)
  have S3 := h_ (show ShSt w db sb w3 A M from ⟨O3, q3, ⟨lt_of_heap q3, fun e => by have := hA.lt (.inl e); omega⟩, hsb⟩)
  have old : Hid (∀ (v : Value) (l : List (Int × Int)), EntsAt w v l → EntsOff w3 A v l) := h_ (fun v l hv => ⟨SliceAt.fresh hv O3.kept, fun hne b hb => by
   obtain ⟨b', e1, e2⟩ := SliceAt.block hv (by have := List.length_pos_iff.2 hne; omega)
   rw [hb] at e1
   cases e1
   exact ⟨Nat.lt_of_lt_of_le e2 O3.kept.size, fun e => by have := O3.new b (.inl e); omega⟩⟩)
  have EP := h_ (show PagesAt w3 (.slice Ap 4 cp) ns A from ⟨SliceAt.fresh (by rw [h4]; exact SliceAt.of_owns hrow) k3, fun _ b hb => ⟨Nat.lt_of_lt_of_le (hrow.lt b hb).2 k3.size, fun e => hoff b hb (.inl e)⟩⟩)
  have qc' := h_ qc
  have hcs : Hid (Safe w3 A cb) := h_ ⟨lt_of_heap qc, fun e => hcbO (.inl e)⟩
  have hw3' := h_ hw3
  have hdb' := h_ hdb
  have hone' := h_ hone
  have hnd' := h_ hnd
  clear hA h4 hone hnd hrow hoff hk hnew hdb hsb hw3 k3 q3 qc O3 hcbO
  have CT := two12_long0 S3.out.own.store h4'.out EP.out (old.out _ _ hv0'.out) (old.out _ _ hv1'.out) hl
  rw [S3.out.eq] at CT
  have CT' := h_ CT
  clear CT
  go_wp2_with (first | (refine wpList_alloc_as 31 rfl rfl #[.pointer none] differ_zero ?_; rw [hdb'.out]) | (refine wpList_store_whole 31 rfl rfl rfl [.pointer (some ⟨sb, 0, none⟩)] rfl differ_size 31 #[.pointer none] (by rw [← hdb'.out]; exact heap_alloc_new _ _) rfl (by intro c hc; simp at hc; subst hc; rfl) ?_; rw [hw3'.out]) | (refine wpList_load_agg 31 rfl rfl rfl _ Try.underlying31 rfl [.pointer (some ⟨sb, 0, none⟩)] (by kernel_rfl) hld3.out ?_) | (refine wpList_load_agg 23 rfl rfl rfl _ Try.underlying23 rfl [.slice A0 l0.length c0, .slice A1 l1.length c1] (by kernel_rfl) hlb3.out ?_))
  refine CT'.out.mono ?_
  rintro e w6 ⟨A6, M6, ra, rc, X0, n0, d0', X1, n1, d1', rfl, hT6⟩
  have S6 := h_ (S3.out.to hT6)
  have Q6 := h_ (hT6.get qc'.out hcs.out)
  clear hT6
  obtain ⟨rb, hrb⟩ : ∃ b, w6.heap.size = b := ⟨_, rfl⟩
  obtain ⟨wa, hwa⟩ : ∃ u, w6.alloc (.cells #[.int .i64 0, .int .i64 0] 35) = u := ⟨_, rfl⟩
  obtain ⟨lb, hlb⟩ : ∃ b, wa.heap.size = b := ⟨_, rfl⟩
  obtain ⟨wc, hwc⟩ : ∃ u, (wa.alloc (.cells #[.slice none 0 0, .slice none 0 0] 37)).setRow rb #[.int .i64 ra, .int .i64 rc] = u := ⟨_, rfl⟩
  obtain ⟨wd, hwd⟩ : ∃ u, wc.setRow lb #[.slice X0 n0 d0', .slice X1 n1 d1'] = u := ⟨_, rfl⟩
  have ka : Kept (fun _ => False) w6 wa := by rw [← hwa]; exact (Kept.refl _ _).alloc _
  have qa : wa.heap[rb]? = some (.cells #[.int .i64 0, .int .i64 0] 35 (0, 0)) := by rw [← hwa, ← hrb]; exact heap_alloc_new _ _
  have kab : Kept (fun _ => False) wa (wa.alloc (.cells #[.slice none 0 0, .slice none 0 0] 37)) := (Kept.refl _ _).alloc _
  have qb2 := kab.get qa id
  have ql : (wa.alloc (.cells #[.slice none 0 0, .slice none 0 0] 37)).heap[lb]? = some (.cells #[.slice none 0 0, .slice none 0 0] 37 (0, 0)) := by rw [← hlb]; exact heap_alloc_new _ _
  have e1 := lt_of_heap qa
  have kc : Kept (fun j => j = rb) (wa.alloc (.cells #[.slice none 0 0, .slice none 0 0] 37)) wc := by rw [← hwc]; exact Kept.setRow (S := fun j => j = rb) (Kept.refl _ _) rfl _
  have qcr : wc.heap[rb]? = some (.cells #[.int .i64 ra, .int .i64 rc] 35 (0, 0)) := by rw [← hwc]; exact setRow_heap _ _ _ _ _ _ qb2
  have qcl := kc.get ql (by omega)
  have kd : Kept (fun j => j = lb) wc wd := by rw [← hwd]; exact Kept.setRow (S := fun j => j = lb) (Kept.refl _ _) rfl _
  have qdl : wd.heap[lb]? = some (.cells #[.slice X0 n0 d0', .slice X1 n1 d1'] 37 (0, 0)) := by rw [← hwd]; exact setRow_heap _ _ _ _ _ _ qcl
  have qdr := kd.get qcr (by omega)
  have k6d : Kept (fun _ => False) w6 wd := ((ka.trans kab).trans_new kc (fun i hi e => by omega)).trans_new kd (fun i hi e => by omega)
  have hwa' := h_ hwa
  have hwc' := h_ hwc
  have hwd' := h_ hwd
  have hrb' := h_ hrb
  have hlb' := h_ hlb
  have Qb2 := h_ qb2
  have Qcl := h_ qcl
  have K6d := h_ k6d
  have cq := k6d.get Q6.out id
  have cq0 := cell_of_heap cq 0
  have cq1 := cell_of_heap cq 1
  simp at cq0 cq1
  clear hrb hwa hlb hwc hwd ka qa kab qb2 ql e1 kc qcr qcl kd qdl qdr k6d cq
  go_wp2_with (first | (refine wpList_alloc_as 35 rfl rfl #[.int .i64 0, .int .i64 0] (by kernel_rfl) ?_; rw [hwa'.out, hrb'.out]) | (refine wpList_alloc_as 37 rfl rfl #[.slice none 0 0, .slice none 0 0] (by kernel_rfl) ?_; rw [hlb'.out]) | (refine wpList_store_whole 35 rfl rfl rfl [.int .i64 ra, .int .i64 rc] rfl (by kernel_rfl) 35 #[.int .i64 0, .int .i64 0] Qb2.out rfl (by intro c hc; simp at hc; (first | (rcases hc with rfl | rfl <;> rfl) | (subst hc; rfl))) ?_; rw [hwc'.out]) | (refine wpList_store_whole 37 rfl rfl rfl [.slice X0 n0 d0', .slice X1 n1 d1'] rfl (by kernel_rfl) 37 #[.slice none 0 0, .slice none 0 0] Qcl.out rfl (by intro c hc; simp at hc; (first | (rcases hc with rfl | rfl <;> rfl) | (subst hc; rfl))) ?_; rw [hwd'.out]))
  go_ret
  exact ⟨rfl, S6.out.own.kept.trans K6d.out⟩
 have d0 : decide ((70 : Int) < (l0.length : Int)) = false := decide_eq_false (by omega)
 by_cases hl1 : 70 < l1.length
 ·have d1 : decide ((70 : Int) < (l1.length : Int)) = true := decide_eq_true (by omega)
  go_enter Try.func4, Try.ntmps4
  go_wp2_with (first | (refine wpList_box_named 23 rfl rfl _ rfl hwb'.out ?_; rw [hcb'.out]))
  refine (diffAlive _).mono ?_
  rintro e w1 ⟨rfl, k1⟩
  have K1 := h_ (kb.out.trans k1)
  have kk1 := h_ k1
  clear k1
  go_wp2_with fail
  refine (hm'.out _).mono ?_
  rintro e w2 ⟨A, M, ns, vp, rfl, hA, h4, hone, hnd, hrow, hoff, hlg, hk, hnew⟩
  obtain ⟨_, Ap, cp, rfl, hp1, hp2, _⟩ := SliceAt.of_owns hrow
  unfold maxLen at hp2
  have h4' := h_ h4
  obtain ⟨db, hdb⟩ : ∃ b, w2.heap.size = b := ⟨_, rfl⟩
  obtain ⟨sb, hsb⟩ : ∃ s, A.sb = s := ⟨_, rfl⟩
  rw [hsb]
  obtain ⟨w3, hw3⟩ : ∃ u, (w2.alloc (.cells #[.pointer none] 31)).setRow db #[.pointer (some ⟨sb, 0, none⟩)] = u := ⟨_, rfl⟩
  have k3 : Kept (fun _ => False) w2 w3 := by rw [← hw3]; exact ((Kept.refl _ _).alloc _).setRowNew (by omega) _
  have q3 : w3.heap[db]? = some (.cells #[.pointer (some ⟨sb, 0, none⟩)] 31 (0, 0)) := by rw [← hw3, ← hdb]; exact setRow_heap _ _ _ _ _ _ (heap_alloc_new _ _)
  have qc := ((kk1.out.trans hk).trans k3).get qb.out id
  have O3 : OwnStore w A M w3 := ⟨hA.fresh k3, (K1.out.trans hk).trans k3, fun j hj => Nat.le_trans K1.out.size (hnew j hj)⟩
  have hcbO : ¬ A.own cb := fun e => by have := hnew cb e; have := lt_of_heap (kk1.out.get qb.out id); omega
  have hld3 := h_ (ptr_load' q3)
  have hlb3 : Hid (∀ j v, [Value.slice A0 l0.length c0, .slice A1 l1.length c1][j]? = some v → w3.cell? ⟨cb, 0 + j, none⟩ = some v) := h_ (fun j v hj => by rw [Nat.zero_add, cell_of_heap qc]; simpa using hj)
  have S3 := h_ (show ShSt w db sb w3 A M from ⟨O3, q3, ⟨lt_of_heap q3, fun e => by have := hA.lt (.inl e); omega⟩, hsb⟩)
  have old : Hid (∀ (v : Value) (l : List (Int × Int)), EntsAt w v l → EntsOff w3 A v l) := h_ (fun v l hv => ⟨SliceAt.fresh hv O3.kept, fun hne b hb => by
   obtain ⟨b', e1, e2⟩ := SliceAt.block hv (by have := List.length_pos_iff.2 hne; omega)
   rw [hb] at e1
   cases e1
   exact ⟨Nat.lt_of_lt_of_le e2 O3.kept.size, fun e => by have := O3.new b (.inl e); omega⟩⟩)
  have EP := h_ (show PagesAt w3 (.slice Ap 4 cp) ns A from ⟨SliceAt.fresh (by rw [h4]; exact SliceAt.of_owns hrow) k3, fun _ b hb => ⟨Nat.lt_of_lt_of_le (hrow.lt b hb).2 k3.size, fun e => hoff b hb (.inl e)⟩⟩)
  have qc' := h_ qc
  have hcs : Hid (Safe w3 A cb) := h_ ⟨lt_of_heap qc, fun e => hcbO (.inl e)⟩
  have hw3' := h_ hw3
  have hdb' := h_ hdb
  have hone' := h_ hone
  have hnd' := h_ hnd
  clear hA h4 hone hnd hrow hoff hk hnew hdb hsb hw3 k3 q3 qc O3 hcbO
  obtain ⟨M1, M1h, M2, M3, M4, M5, r0, r1, rb', rc', la, lb', TO⟩ := tells_ok hone'.out h4'.out hnd'.out hlg (l0 := l0) (l1 := []) (by omega) (by decide) true
  have CT := two12_long1 S3.out.own.store h4'.out EP.out (old.out _ _ hv0'.out) (old.out _ _ hv1'.out) (by omega) hl1 TO.h0 (by omega)
  rw [S3.out.eq] at CT
  have CT' := h_ CT
  clear CT
  go_wp2_with (first | (refine wpList_alloc_as 31 rfl rfl #[.pointer none] differ_zero ?_; rw [hdb'.out]) | (refine wpList_store_whole 31 rfl rfl rfl [.pointer (some ⟨sb, 0, none⟩)] rfl differ_size 31 #[.pointer none] (by rw [← hdb'.out]; exact heap_alloc_new _ _) rfl (by intro c hc; simp at hc; subst hc; rfl) ?_; rw [hw3'.out]) | (refine wpList_load_agg 31 rfl rfl rfl _ Try.underlying31 rfl [.pointer (some ⟨sb, 0, none⟩)] (by kernel_rfl) hld3.out ?_) | (refine wpList_load_agg 23 rfl rfl rfl _ Try.underlying23 rfl [.slice A0 l0.length c0, .slice A1 l1.length c1] (by kernel_rfl) hlb3.out ?_))
  refine CT'.out.mono ?_
  rintro e w6 ⟨A6, M6, ra, rc, X0, n0, d0', X1, n1, d1', rfl, hT6⟩
  have S6 := h_ (S3.out.to hT6)
  have Q6 := h_ (hT6.get qc'.out hcs.out)
  clear hT6
  obtain ⟨rb, hrb⟩ : ∃ b, w6.heap.size = b := ⟨_, rfl⟩
  obtain ⟨wa, hwa⟩ : ∃ u, w6.alloc (.cells #[.int .i64 0, .int .i64 0] 35) = u := ⟨_, rfl⟩
  obtain ⟨lb, hlb⟩ : ∃ b, wa.heap.size = b := ⟨_, rfl⟩
  obtain ⟨wc, hwc⟩ : ∃ u, (wa.alloc (.cells #[.slice none 0 0, .slice none 0 0] 37)).setRow rb #[.int .i64 ra, .int .i64 rc] = u := ⟨_, rfl⟩
  obtain ⟨wd, hwd⟩ : ∃ u, wc.setRow lb #[.slice X0 n0 d0', .slice X1 n1 d1'] = u := ⟨_, rfl⟩
  have ka : Kept (fun _ => False) w6 wa := by rw [← hwa]; exact (Kept.refl _ _).alloc _
  have qa : wa.heap[rb]? = some (.cells #[.int .i64 0, .int .i64 0] 35 (0, 0)) := by rw [← hwa, ← hrb]; exact heap_alloc_new _ _
  have kab : Kept (fun _ => False) wa (wa.alloc (.cells #[.slice none 0 0, .slice none 0 0] 37)) := (Kept.refl _ _).alloc _
  have qb2 := kab.get qa id
  have ql : (wa.alloc (.cells #[.slice none 0 0, .slice none 0 0] 37)).heap[lb]? = some (.cells #[.slice none 0 0, .slice none 0 0] 37 (0, 0)) := by rw [← hlb]; exact heap_alloc_new _ _
  have e1 := lt_of_heap qa
  have kc : Kept (fun j => j = rb) (wa.alloc (.cells #[.slice none 0 0, .slice none 0 0] 37)) wc := by rw [← hwc]; exact Kept.setRow (S := fun j => j = rb) (Kept.refl _ _) rfl _
  have qcr : wc.heap[rb]? = some (.cells #[.int .i64 ra, .int .i64 rc] 35 (0, 0)) := by rw [← hwc]; exact setRow_heap _ _ _ _ _ _ qb2
  have qcl := kc.get ql (by omega)
  have kd : Kept (fun j => j = lb) wc wd := by rw [← hwd]; exact Kept.setRow (S := fun j => j = lb) (Kept.refl _ _) rfl _
  have qdl : wd.heap[lb]? = some (.cells #[.slice X0 n0 d0', .slice X1 n1 d1'] 37 (0, 0)) := by rw [← hwd]; exact setRow_heap _ _ _ _ _ _ qcl
  have qdr := kd.get qcr (by omega)
  have k6d : Kept (fun _ => False) w6 wd := ((ka.trans kab).trans_new kc (fun i hi e => by omega)).trans_new kd (fun i hi e => by omega)
  have hwa' := h_ hwa
  have hwc' := h_ hwc
  have hwd' := h_ hwd
  have hrb' := h_ hrb
  have hlb' := h_ hlb
  have Qb2 := h_ qb2
  have Qcl := h_ qcl
  have K6d := h_ k6d
  have cq := k6d.get Q6.out id
  have cq0 := cell_of_heap cq 0
  have cq1 := cell_of_heap cq 1
  simp at cq0 cq1
  clear hrb hwa hlb hwc hwd ka qa kab qb2 ql e1 kc qcr qcl kd qdl qdr k6d cq
  go_wp2_with (first | (refine wpList_alloc_as 35 rfl rfl #[.int .i64 0, .int .i64 0] (by kernel_rfl) ?_; rw [hwa'.out, hrb'.out]) | (refine wpList_alloc_as 37 rfl rfl #[.slice none 0 0, .slice none 0 0] (by kernel_rfl) ?_; rw [hlb'.out]) | (refine wpList_store_whole 35 rfl rfl rfl [.int .i64 ra, .int .i64 rc] rfl (by kernel_rfl) 35 #[.int .i64 0, .int .i64 0] Qb2.out rfl (by intro c hc; simp at hc; (first | (rcases hc with rfl | rfl <;> rfl) | (subst hc; rfl))) ?_; rw [hwc'.out]) | (refine wpList_store_whole 37 rfl rfl rfl [.slice X0 n0 d0', .slice X1 n1 d1'] rfl (by kernel_rfl) 37 #[.slice none 0 0, .slice none 0 0] Qcl.out rfl (by intro c hc; simp at hc; (first | (rcases hc with rfl | rfl <;> rfl) | (subst hc; rfl))) ?_; rw [hwd'.out]))
  go_ret
  exact ⟨rfl, S6.out.own.kept.trans K6d.out⟩
 have d1 : decide ((70 : Int) < (l1.length : Int)) = false := decide_eq_false (by omega)
 cases ap with
 | false =>
  go_enter Try.func4, Try.ntmps4
  go_wp2_with (first | (refine wpList_box_named 23 rfl rfl _ rfl hwb'.out ?_; rw [hcb'.out]))
  refine (diffAlive _).mono ?_
  rintro e w1 ⟨rfl, k1⟩
  have K1 := h_ (kb.out.trans k1)
  have kk1 := h_ k1
  clear k1
  go_wp2_with fail
  refine (hm'.out _).mono ?_
  rintro e w2 ⟨A, M, ns, vp, rfl, hA, h4, hone, hnd, hrow, hoff, hlg, hk, hnew⟩
  obtain ⟨_, Ap, cp, rfl, hp1, hp2, _⟩ := SliceAt.of_owns hrow
  unfold maxLen at hp2
  have h4' := h_ h4
  obtain ⟨db, hdb⟩ : ∃ b, w2.heap.size = b := ⟨_, rfl⟩
  obtain ⟨sb, hsb⟩ : ∃ s, A.sb = s := ⟨_, rfl⟩
  rw [hsb]
  obtain ⟨w3, hw3⟩ : ∃ u, (w2.alloc (.cells #[.pointer none] 31)).setRow db #[.pointer (some ⟨sb, 0, none⟩)] = u := ⟨_, rfl⟩
  have k3 : Kept (fun _ => False) w2 w3 := by rw [← hw3]; exact ((Kept.refl _ _).alloc _).setRowNew (by omega) _
  have q3 : w3.heap[db]? = some (.cells #[.pointer (some ⟨sb, 0, none⟩)] 31 (0, 0)) := by rw [← hw3, ← hdb]; exact setRow_heap _ _ _ _ _ _ (heap_alloc_new _ _)
  have qc := ((kk1.out.trans hk).trans k3).get qb.out id
  have O3 : OwnStore w A M w3 := ⟨hA.fresh k3, (K1.out.trans hk).trans k3, fun j hj => Nat.le_trans K1.out.size (hnew j hj)⟩
  have hcbO : ¬ A.own cb := fun e => by have := hnew cb e; have := lt_of_heap (kk1.out.get qb.out id); omega
  have hld3 := h_ (ptr_load' q3)
  have hlb3 : Hid (∀ j v, [Value.slice A0 l0.length c0, .slice A1 l1.length c1][j]? = some v → w3.cell? ⟨cb, 0 + j, none⟩ = some v) := h_ (fun j v hj => by rw [Nat.zero_add, cell_of_heap qc]; simpa using hj)
  have S3 := h_ (show ShSt w db sb w3 A M from ⟨O3, q3, ⟨lt_of_heap q3, fun e => by have := hA.lt (.inl e); omega⟩, hsb⟩)
  have old : Hid (∀ (v : Value) (l : List (Int × Int)), EntsAt w v l → EntsOff w3 A v l) := h_ (fun v l hv => ⟨SliceAt.fresh hv O3.kept, fun hne b hb => by
   obtain ⟨b', e1, e2⟩ := SliceAt.block hv (by have := List.length_pos_iff.2 hne; omega)
   rw [hb] at e1
   cases e1
   exact ⟨Nat.lt_of_lt_of_le e2 O3.kept.size, fun e => by have := O3.new b (.inl e); omega⟩⟩)
  have EP := h_ (show PagesAt w3 (.slice Ap 4 cp) ns A from ⟨SliceAt.fresh (by rw [h4]; exact SliceAt.of_owns hrow) k3, fun _ b hb => ⟨Nat.lt_of_lt_of_le (hrow.lt b hb).2 k3.size, fun e => hoff b hb (.inl e)⟩⟩)
  have qc' := h_ qc
  have hcs : Hid (Safe w3 A cb) := h_ ⟨lt_of_heap qc, fun e => hcbO (.inl e)⟩
  have hw3' := h_ hw3
  have hdb' := h_ hdb
  have hone' := h_ hone
  have hnd' := h_ hnd
  clear hA h4 hone hnd hrow hoff hk hnew hdb hsb hw3 k3 q3 qc O3 hcbO
  obtain ⟨M1, M1h, M2, M3, M4, M5, r0, r1, rb0, rc, la, lb0, TO⟩ := tells_ok hone'.out h4'.out hnd'.out hlg (l0 := l0) (l1 := l1) (by omega) (by omega) false
  have CT := two12 S3.out.own.store h4'.out EP.out (old.out _ _ hv0'.out) (old.out _ _ hv1'.out) (by omega) (by omega) TO.h0 TO.hh TO.h1 (by omega) TO.g1
  rw [S3.out.eq, TO.ea, TO.eb] at CT
  have CT' := h_ CT
  have TO' := h_ TO
  clear CT TO
  go_wp2_with (first | (refine wpList_alloc_as 31 rfl rfl #[.pointer none] differ_zero ?_; rw [hdb'.out]) | (refine wpList_store_whole 31 rfl rfl rfl [.pointer (some ⟨sb, 0, none⟩)] rfl differ_size 31 #[.pointer none] (by rw [← hdb'.out]; exact heap_alloc_new _ _) rfl (by intro c hc; simp at hc; subst hc; rfl) ?_; rw [hw3'.out]) | (refine wpList_load_agg 31 rfl rfl rfl _ Try.underlying31 rfl [.pointer (some ⟨sb, 0, none⟩)] (by kernel_rfl) hld3.out ?_) | (refine wpList_load_agg 23 rfl rfl rfl _ Try.underlying23 rfl [.slice A0 l0.length c0, .slice A1 l1.length c1] (by kernel_rfl) hlb3.out ?_))
  refine CT'.out.mono ?_
  rintro e w6 ⟨A6, L0, L1, rfl, hT6, hE0, hE1⟩
  obtain ⟨AL, cL, rfl, hL1, hL2⟩ := hE0.at_.form
  obtain ⟨AK, cK, rfl, hK1, hK2⟩ := hE1.at_.form
  unfold maxLen at hL2 hK2
  have S6 := h_ (S3.out.to hT6)
  have Q6 := h_ (hT6.get qc'.out hcs.out)
  have F6 := h_ hE0
  have G6 := h_ hE1
  clear hT6 hE0 hE1
  obtain ⟨rb, hrb⟩ : ∃ b, w6.heap.size = b := ⟨_, rfl⟩
  obtain ⟨wa, hwa⟩ : ∃ u, w6.alloc (.cells #[.int .i64 0, .int .i64 0] 35) = u := ⟨_, rfl⟩
  obtain ⟨lb, hlb⟩ : ∃ b, wa.heap.size = b := ⟨_, rfl⟩
  obtain ⟨wc, hwc⟩ : ∃ u, (wa.alloc (.cells #[.slice none 0 0, .slice none 0 0] 37)).setRow rb #[.int .i64 r0, .int .i64 r1] = u := ⟨_, rfl⟩
  obtain ⟨wd, hwd⟩ : ∃ u, wc.setRow lb #[.slice AL la.length cL, .slice AK lb0.length cK] = u := ⟨_, rfl⟩
  have ka : Kept (fun _ => False) w6 wa := by rw [← hwa]; exact (Kept.refl _ _).alloc _
  have qa : wa.heap[rb]? = some (.cells #[.int .i64 0, .int .i64 0] 35 (0, 0)) := by rw [← hwa, ← hrb]; exact heap_alloc_new _ _
  have kab : Kept (fun _ => False) wa (wa.alloc (.cells #[.slice none 0 0, .slice none 0 0] 37)) := (Kept.refl _ _).alloc _
  have qb2 := kab.get qa id
  have ql : (wa.alloc (.cells #[.slice none 0 0, .slice none 0 0] 37)).heap[lb]? = some (.cells #[.slice none 0 0, .slice none 0 0] 37 (0, 0)) := by rw [← hlb]; exact heap_alloc_new _ _
  have e1 := lt_of_heap qa
  have kc : Kept (fun j => j = rb) (wa.alloc (.cells #[.slice none 0 0, .slice none 0 0] 37)) wc := by rw [← hwc]; exact Kept.setRow (S := fun j => j = rb) (Kept.refl _ _) rfl _
  have qcr : wc.heap[rb]? = some (.cells #[.int .i64 r0, .int .i64 r1] 35 (0, 0)) := by rw [← hwc]; exact setRow_heap _ _ _ _ _ _ qb2
  have qcl := kc.get ql (by omega)
  have kd : Kept (fun j => j = lb) wc wd := by rw [← hwd]; exact Kept.setRow (S := fun j => j = lb) (Kept.refl _ _) rfl _
  have qdl : wd.heap[lb]? = some (.cells #[.slice AL la.length cL, .slice AK lb0.length cK] 37 (0, 0)) := by rw [← hwd]; exact setRow_heap _ _ _ _ _ _ qcl
  have qdr := kd.get qcr (by omega)
  have k6d : Kept (fun _ => False) w6 wd := ((ka.trans kab).trans_new kc (fun i hi e => by omega)).trans_new kd (fun i hi e => by omega)
  have hwa' := h_ hwa
  have hwc' := h_ hwc
  have hwd' := h_ hwd
  have hrb' := h_ hrb
  have hlb' := h_ hlb
  have Qb2 := h_ qb2
  have Qcl := h_ qcl
  have K6d := h_ k6d
  have cq := k6d.get Q6.out id
  have cq0 := cell_of_heap cq 0
  have cq1 := cell_of_heap cq 1
  simp at cq0 cq1
  have S7 : Hid (TelS w db sb lb la lb0 (.slice AL la.length cL) (.slice AK lb0.length cK) wd A6 M2) := h_ ⟨S6.out.fresh k6d, qdl, ⟨lt_of_heap qdl, fun e => by have := S6.out.own.store.lt (.inl e); omega⟩, F6.out.fresh k6d, G6.out.fresh k6d⟩
  have QR : Hid (wd.heap[rb]? = some (.cells #[.int .i64 r0, .int .i64 r1] 35 (0, 0))) := h_ qdr
  have lat := TO'.out.lena
  have lbt := TO'.out.lenb
  obtain ⟨X, hX⟩ : ∃ X, changesL la lb0 = X := ⟨_, rfl⟩
  obtain ⟨Z, hZ⟩ : ∃ Z, changesL lb0 la = Z := ⟨_, rfl⟩
  have hX64 : X.length ≤ 64 := by rw [← hX]; exact changes_le _ _
  have hZ64 : Z.length ≤ 64 := by rw [← hZ]; exact changes_le _ _
  have hX := h_ hX
  have hZ := h_ hZ
  clear hrb hwa hlb hwc hwd ka qa kab qb2 ql e1 kc qcr qcl kd qdl qdr k6d cq
  go_wp2_with (first | (refine wpList_alloc_as 35 rfl rfl #[.int .i64 0, .int .i64 0] (by kernel_rfl) ?_; rw [hwa'.out, hrb'.out]) | (refine wpList_alloc_as 37 rfl rfl #[.slice none 0 0, .slice none 0 0] (by kernel_rfl) ?_; rw [hlb'.out]) | (refine wpList_store_whole 35 rfl rfl rfl [.int .i64 r0, .int .i64 r1] rfl (by kernel_rfl) 35 #[.int .i64 0, .int .i64 0] Qb2.out rfl (by intro c hc; simp at hc; (first | (rcases hc with rfl | rfl <;> rfl) | (subst hc; rfl))) ?_; rw [hwc'.out]) | (refine wpList_store_whole 37 rfl rfl rfl [.slice AL la.length cL, .slice AK lb0.length cK] rfl (by kernel_rfl) 37 #[.slice none 0 0, .slice none 0 0] Qcl.out rfl (by intro c hc; simp at hc; (first | (rcases hc with rfl | rfl <;> rfl) | (subst hc; rfl))) ?_; rw [hwd'.out]))
  refine wp_region_quiet (C := fun w' => Kept (fun _ => False) wd w') (by kernel_rfl) (by kernel_rfl) (Kept.refl _ _).drew ?_
  simp only []
  refine wpQuiet_step (fun K hK => ?_); go_simp; refine ⟨_, fun _ _ => rfl, hK _ ?_⟩; clear hK K
  refine wpQuiet_step (fun K hK => ?_); refine q_on rfl (q_val (.int .i64 r0) (fun W hW => by have hc := cell_of_heap (hW.get QR.out id) 0; simp at hc; clear hW; go_simp) (hK _ ?_)); clear hK K
  refine wpQuiet_step (fun K hK => ?_); go_simp; refine ⟨_, fun _ _ => rfl, hK _ ?_⟩; clear hK K
  refine wpQuiet_step (fun K hK => ?_); refine q_on rfl (q_val (.int .i64 r1) (fun W hW => by have hc := cell_of_heap (hW.get QR.out id) 1; simp at hc; clear hW; go_simp) (hK _ ?_)); clear hK K
  refine wpQuiet_step (fun K hK => ?_); go_simp; refine ⟨_, fun _ _ => rfl, hK _ ?_⟩; clear hK K
  refine wpQuiet_step (fun K hK => ?_); go_simp; refine ⟨_, fun _ _ => rfl, hK _ ?_⟩; clear hK K
  refine wpQuiet_nil ?_
  intro w8 hk8
  have S8 := h_ (S7.out.fresh hk8)
  clear hk8 cq0 cq1
  have hM3 := TO'.out.h2' rfl
  have S9 : Hid (TelS w db sb lb la lb0 (.slice AL la.length cL) (.slice AK lb0.length cK) w8 A6 M3) := h_ (by rw [hM3.1]; exact S8.out)
  have hrr := hM3.2
  rw [hrr] at TO'
  clear hM3 hrr S8 rb0
  obtain ⟨rb, hrb⟩ : ∃ u, r1 = u := ⟨_, rfl⟩
  rw [hrb] at TO' ⊢
  clear hrb
  have hld := h_ S9.out.st.load
  have CC := diffChanges S9.out.st.own.store TO'.out.a3 TO'.out.b3
  rw [hX.out, S9.out.st.eq] at CC
  have CC' : Hid (Calls Try.prog 10 #[.agg #[.pointer (some ⟨sb, 0, none⟩)], .int .i64 r0, .int .i64 rb] w8 fun e w' => ∃ v, e = .returned (.tuple #[v, .int .i64 0]) ∧ w'.ownsRow w8.heap.size 41 2 v X.length (entCells X) ∧ Kept (fun _ => False) w8 w') := h_ CC
  clear CC
  go_wp2_with (first | (refine wpList_load_agg 31 rfl rfl rfl _ Try.underlying31 rfl [.pointer (some ⟨sb, 0, none⟩)] (by kernel_rfl) hld.out ?_))
  refine CC'.out.mono ?_
  rintro e y1 ⟨v1, rfl, hrow1, ky1⟩
  obtain ⟨_, B1, d1, rfl, hB1, hD1, _⟩ := SliceAt.of_owns hrow1
  unfold maxLen at hD1
  have E1 := h_ (EntsOff.madeC hrow1 S9.out.st.own.store)
  have T1 := h_ (S9.out.fresh ky1)
  clear hrow1 ky1
  have hld := h_ T1.out.st.load
  have CC := diffChanges T1.out.st.own.store TO'.out.b3 TO'.out.a3
  rw [hZ.out, T1.out.st.eq] at CC
  have CC' : Hid (Calls Try.prog 10 #[.agg #[.pointer (some ⟨sb, 0, none⟩)], .int .i64 rb, .int .i64 r0] y1 fun e w' => ∃ v, e = .returned (.tuple #[v, .int .i64 0]) ∧ w'.ownsRow y1.heap.size 41 2 v Z.length (entCells Z) ∧ Kept (fun _ => False) y1 w') := h_ CC
  clear CC
  go_wp2_with (first | (refine wpList_load_agg 31 rfl rfl rfl _ Try.underlying31 rfl [.pointer (some ⟨sb, 0, none⟩)] (by kernel_rfl) hld.out ?_))
  refine CC'.out.mono ?_
  rintro e y2 ⟨v2, rfl, hrow2, ky2⟩
  obtain ⟨_, B2, d2, rfl, hB2, hD2, _⟩ := SliceAt.of_owns hrow2
  unfold maxLen at hD2
  have E2 := h_ (EntsOff.madeC hrow2 T1.out.st.own.store)
  have T2 := h_ (T1.out.fresh ky2)
  have E12 := h_ (E1.out.fresh ky2)
  clear hrow2 ky2
  have ct0 := cell_of_heap T2.out.ct 0
  have ct1 := cell_of_heap T2.out.ct 1
  simp at ct0 ct1
  have CR := ref12Changes T2.out.eA.at_ T2.out.eB.at_ (by omega) (by omega)
  rw [hX.out] at CR
  have CR' := h_ CR
  clear CR
  go_wp2_with fail
  refine CR'.out.mono ?_
  rintro e y3 ⟨v3, rfl, hrow3, ky3⟩
  obtain ⟨_, B3, d3, rfl, hB3, hD3, _⟩ := SliceAt.of_owns hrow3
  unfold maxLen at hD3
  have T3 := h_ (T2.out.fresh ky3)
  have E13 := h_ (E12.out.fresh ky3)
  have E23 := h_ (E2.out.fresh ky3)
  have CS := ref12Same (a := X) (b := X) E13.out.at_ (SliceAt.of_owns hrow3) (by omega)
  rw [decide_eq_true rfl] at CS
  have CS' := h_ CS
  clear CS hrow3 ky3 CR' ct0 ct1
  go_wp2_with fail
  refine CS'.out.mono ?_
  rintro e y4 ⟨rfl, ky4⟩
  have T4 := h_ (T3.out.fresh ky4)
  have E14 := h_ (E13.out.fresh ky4)
  have E24 := h_ (E23.out.fresh ky4)
  clear CS' ky4
  have ct0 := cell_of_heap T4.out.ct 0
  have ct1 := cell_of_heap T4.out.ct 1
  simp at ct0 ct1
  have CR := ref12Changes T4.out.eB.at_ T4.out.eA.at_ (by omega) (by omega)
  rw [hZ.out] at CR
  have CR' := h_ CR
  clear CR
  go_wp2_with fail
  refine CR'.out.mono ?_
  rintro e y5 ⟨v5, rfl, hrow5, ky5⟩
  obtain ⟨_, B5, d5, rfl, hB5, hD5, _⟩ := SliceAt.of_owns hrow5
  unfold maxLen at hD5
  have T5 := h_ (T4.out.fresh ky5)
  have E15 := h_ (E14.out.fresh ky5)
  have E25 := h_ (E24.out.fresh ky5)
  have CS := ref12Same (a := Z) (b := Z) E25.out.at_ (SliceAt.of_owns hrow5) (by omega)
  rw [decide_eq_true rfl] at CS
  have CS' := h_ CS
  clear CS hrow5 ky5 CR' ct0 ct1
  go_wp2_with fail
  refine CS'.out.mono ?_
  rintro e y6 ⟨rfl, ky6⟩
  have T6 := h_ (T5.out.fresh ky6)
  have E16 := h_ (E15.out.fresh ky6)
  clear CS' ky6
  by_cases hr : r0 = -1
  ·have hb2 : (r0 != -1) = false := by simp [hr]
   have hM := TO'.out.h4
   rw [if_pos hr] at hM
   injection hM with hM _
   have T7 : Hid (TelS w db sb lb la lb0 (.slice AL la.length cL) (.slice AK lb0.length cK) y6 A6 M4) := h_ (by rw [← hM]; exact T6.out)
   have E17 := h_ E16.out
   clear hr hM
   have hld := h_ T7.out.st.load
   have CA := diffApply T7.out.st.own.store r0 E17.out (by omega) (by have := TO'.out.g4; omega)
   rw [← hX.out, TO'.out.h5, hX.out, T7.out.st.eq] at CA
   have CA' : Hid (Calls Try.prog 15 #[.agg #[.pointer (some ⟨sb, 0, none⟩)], .int .i64 r0, .slice B1 X.length d1] y6 fun e w' => ∃ A', e = .returned (.tuple #[.int .i64 rc, .int .i64 0]) ∧ StoreTo A6 A' M5 y6 w') := h_ CA
   clear CA
   go_wp2_with (first | (refine wpList_load_agg 31 rfl rfl rfl _ Try.underlying31 rfl [.pointer (some ⟨sb, 0, none⟩)] (by kernel_rfl) hld.out ?_))
   refine CA'.out.mono ?_
   rintro e y8 ⟨A8, rfl, hT8⟩
   have T8 := h_ (T7.out.to hT8)
   clear hT8 CA'
   have hld8 := h_ T8.out.st.load
   have CL := treeList T8.out.st.own.store rc
   rw [TO'.out.c5.list, T8.out.st.eq] at CL
   have CL' : Hid (Calls Try.prog 16 #[.agg #[.pointer (some ⟨sb, 0, none⟩)], .int .i64 rc] y8 fun e w' => ∃ v, e = .returned (.tuple #[v, .int .i64 0]) ∧ w'.ownsRow y8.heap.size 58 2 v lb0.length (entCells lb0) ∧ Kept (fun _ => False) y8 w') := h_ CL
   clear CL
   go_wp2_with (first | (refine wpList_load_agg 27 rfl rfl rfl _ Try.underlying27 rfl [.pointer (some ⟨sb, 0, none⟩)] (by kernel_rfl) hld8.out ?_))
   refine CL'.out.mono ?_
   rintro e y9 ⟨v9, rfl, hrow9, ky9⟩
   obtain ⟨_, B9, d9, rfl, hB9, hD9, _⟩ := SliceAt.of_owns hrow9
   unfold maxLen at hD9
   have T9 := h_ (T8.out.fresh ky9)
   have E9 : Hid (EntsAt y9 (.slice B9 lb0.length d9) lb0) := h_ (SliceAt.of_owns hrow9)
   clear hrow9 ky9 CL'
   have hld9 := h_ T9.out.st.load
   have CL := treeList T9.out.st.own.store r0
   rw [TO'.out.a5.list, T9.out.st.eq] at CL
   have CL' : Hid (Calls Try.prog 16 #[.agg #[.pointer (some ⟨sb, 0, none⟩)], .int .i64 r0] y9 fun e w' => ∃ v, e = .returned (.tuple #[v, .int .i64 0]) ∧ w'.ownsRow y9.heap.size 58 2 v la.length (entCells la) ∧ Kept (fun _ => False) y9 w') := h_ CL
   clear CL
   go_wp2_with (first | (refine wpList_load_agg 27 rfl rfl rfl _ Try.underlying27 rfl [.pointer (some ⟨sb, 0, none⟩)] (by kernel_rfl) hld9.out ?_))
   refine CL'.out.mono ?_
   rintro e y10 ⟨v10, rfl, hrow10, ky10⟩
   obtain ⟨_, B10, d10, rfl, hB10, hD10, _⟩ := SliceAt.of_owns hrow10
   unfold maxLen at hD10
   have T10 := h_ (T9.out.fresh ky10)
   have E10 : Hid (EntsAt y10 (.slice B10 la.length d10) la) := h_ (SliceAt.of_owns hrow10)
   have E910 : Hid (EntsAt y10 (.slice B9 lb0.length d9) lb0) := h_ (SliceAt.fresh E9.out ky10)
   clear hrow10 ky10 CL'
   have ct1 := cell_of_heap T10.out.ct 1
   simp at ct1
   have CS := same10 (a := lb0) (b := lb0) E910.out T10.out.eB.at_ (by omega)
   rw [decide_eq_true rfl] at CS
   have CS' := h_ CS
   clear CS
   go_wp2_with fail
   refine CS'.out.mono ?_
   rintro e y11 ⟨rfl, ky11⟩
   have T11 := h_ (T10.out.fresh ky11)
   have E1011 : Hid (EntsAt y11 (.slice B10 la.length d10) la) := h_ (SliceAt.fresh E10.out ky11)
   clear ky11 CS' ct1
   have ct0 := cell_of_heap T11.out.ct 0
   simp at ct0
   have CS := same10 (a := la) (b := la) E1011.out T11.out.eA.at_ (by omega)
   rw [decide_eq_true rfl] at CS
   have CS' := h_ CS
   clear CS
   go_wp2_with fail
   refine CS'.out.mono ?_
   rintro e y12 ⟨rfl, ky12⟩
   have fin := h_ (T11.out.st.own.kept.trans ky12)
   clear ky12 CS' ct0
   go_wp2_with fail
   go_ret
   exact ⟨rfl, fin.out⟩
  ·have hb2 : (r0 != -1) = true := by simp [hr]
   have hM := TO'.out.h4
   rw [if_neg hr] at hM
   have CH := storeHold T6.out.st.own.store r0
   rw [hM, T6.out.st.eq] at CH
   have CH' : Hid (Calls Try.prog 14 #[.pointer (some ⟨sb, 0, none⟩), .int .i64 r0] y6 fun e w' => e = .returned (.int .i64 0) ∧ StoreTo A6 A6 M4 y6 w') := h_ CH
   have cd6 := cell_of_heap T6.out.st.cd 0
   simp at cd6
   clear CH hM hr
   go_wp2_with fail
   refine CH'.out.mono ?_
   rintro e y7 ⟨rfl, hT7⟩
   have T7 := h_ (T6.out.to hT7)
   have E17 := h_ (E16.out.to hT7)
   clear hT7 CH' cd6
   have hld := h_ T7.out.st.load
   have CA := diffApply T7.out.st.own.store r0 E17.out (by omega) (by have := TO'.out.g4; omega)
   rw [← hX.out, TO'.out.h5, hX.out, T7.out.st.eq] at CA
   have CA' : Hid (Calls Try.prog 15 #[.agg #[.pointer (some ⟨sb, 0, none⟩)], .int .i64 r0, .slice B1 X.length d1] y7 fun e w' => ∃ A', e = .returned (.tuple #[.int .i64 rc, .int .i64 0]) ∧ StoreTo A6 A' M5 y7 w') := h_ CA
   clear CA
   go_wp2_with (first | (refine wpList_load_agg 31 rfl rfl rfl _ Try.underlying31 rfl [.pointer (some ⟨sb, 0, none⟩)] (by kernel_rfl) hld.out ?_))
   refine CA'.out.mono ?_
   rintro e y8 ⟨A8, rfl, hT8⟩
   have T8 := h_ (T7.out.to hT8)
   clear hT8 CA'
   have hld8 := h_ T8.out.st.load
   have CL := treeList T8.out.st.own.store rc
   rw [TO'.out.c5.list, T8.out.st.eq] at CL
   have CL' : Hid (Calls Try.prog 16 #[.agg #[.pointer (some ⟨sb, 0, none⟩)], .int .i64 rc] y8 fun e w' => ∃ v, e = .returned (.tuple #[v, .int .i64 0]) ∧ w'.ownsRow y8.heap.size 58 2 v lb0.length (entCells lb0) ∧ Kept (fun _ => False) y8 w') := h_ CL
   clear CL
   go_wp2_with (first | (refine wpList_load_agg 27 rfl rfl rfl _ Try.underlying27 rfl [.pointer (some ⟨sb, 0, none⟩)] (by kernel_rfl) hld8.out ?_))
   refine CL'.out.mono ?_
   rintro e y9 ⟨v9, rfl, hrow9, ky9⟩
   obtain ⟨_, B9, d9, rfl, hB9, hD9, _⟩ := SliceAt.of_owns hrow9
   unfold maxLen at hD9
   have T9 := h_ (T8.out.fresh ky9)
   have E9 : Hid (EntsAt y9 (.slice B9 lb0.length d9) lb0) := h_ (SliceAt.of_owns hrow9)
   clear hrow9 ky9 CL'
   have hld9 := h_ T9.out.st.load
   have CL := treeList T9.out.st.own.store r0
   rw [TO'.out.a5.list, T9.out.st.eq] at CL
   have CL' : Hid (Calls Try.prog 16 #[.agg #[.pointer (some ⟨sb, 0, none⟩)], .int .i64 r0] y9 fun e w' => ∃ v, e = .returned (.tuple #[v, .int .i64 0]) ∧ w'.ownsRow y9.heap.size 58 2 v la.length (entCells la) ∧ Kept (fun _ => False) y9 w') := h_ CL
   clear CL
   go_wp2_with (first | (refine wpList_load_agg 27 rfl rfl rfl _ Try.underlying27 rfl [.pointer (some ⟨sb, 0, none⟩)] (by kernel_rfl) hld9.out ?_))
   refine CL'.out.mono ?_
   rintro e y10 ⟨v10, rfl, hrow10, ky10⟩
   obtain ⟨_, B10, d10, rfl, hB10, hD10, _⟩ := SliceAt.of_owns hrow10
   unfold maxLen at hD10
   have T10 := h_ (T9.out.fresh ky10)
   have E10 : Hid (EntsAt y10 (.slice B10 la.length d10) la) := h_ (SliceAt.of_owns hrow10)
   have E910 : Hid (EntsAt y10 (.slice B9 lb0.length d9) lb0) := h_ (SliceAt.fresh E9.out ky10)
   clear hrow10 ky10 CL'
   have ct1 := cell_of_heap T10.out.ct 1
   simp at ct1
   have CS := same10 (a := lb0) (b := lb0) E910.out T10.out.eB.at_ (by omega)
   rw [decide_eq_true rfl] at CS
   have CS' := h_ CS
   clear CS
   go_wp2_with fail
   refine CS'.out.mono ?_
   rintro e y11 ⟨rfl, ky11⟩
   have T11 := h_ (T10.out.fresh ky11)
   have E1011 : Hid (EntsAt y11 (.slice B10 la.length d10) la) := h_ (SliceAt.fresh E10.out ky11)
   clear ky11 CS' ct1
   have ct0 := cell_of_heap T11.out.ct 0
   simp at ct0
   have CS := same10 (a := la) (b := la) E1011.out T11.out.eA.at_ (by omega)
   rw [decide_eq_true rfl] at CS
   have CS' := h_ CS
   clear CS
   go_wp2_with fail
   refine CS'.out.mono ?_
   rintro e y12 ⟨rfl, ky12⟩
   have fin := h_ (T11.out.st.own.kept.trans ky12)
   clear ky12 CS' ct0
   go_wp2_with fail
   go_ret
   exact ⟨rfl, fin.out⟩
 | true =>
  go_enter Try.func4, Try.ntmps4
  go_wp2_with (first | (refine wpList_box_named 23 rfl rfl _ rfl hwb'.out ?_; rw [hcb'.out]))
  refine (diffAlive _).mono ?_
  rintro e w1 ⟨rfl, k1⟩
  have K1 := h_ (kb.out.trans k1)
  have kk1 := h_ k1
  clear k1
  go_wp2_with fail
  refine (hm'.out _).mono ?_
  rintro e w2 ⟨A, M, ns, vp, rfl, hA, h4, hone, hnd, hrow, hoff, hlg, hk, hnew⟩
  obtain ⟨_, Ap, cp, rfl, hp1, hp2, _⟩ := SliceAt.of_owns hrow
  unfold maxLen at hp2
  have h4' := h_ h4
  obtain ⟨db, hdb⟩ : ∃ b, w2.heap.size = b := ⟨_, rfl⟩
  obtain ⟨sb, hsb⟩ : ∃ s, A.sb = s := ⟨_, rfl⟩
  rw [hsb]
  obtain ⟨w3, hw3⟩ : ∃ u, (w2.alloc (.cells #[.pointer none] 31)).setRow db #[.pointer (some ⟨sb, 0, none⟩)] = u := ⟨_, rfl⟩
  have k3 : Kept (fun _ => False) w2 w3 := by rw [← hw3]; exact ((Kept.refl _ _).alloc _).setRowNew (by omega) _
  have q3 : w3.heap[db]? = some (.cells #[.pointer (some ⟨sb, 0, none⟩)] 31 (0, 0)) := by rw [← hw3, ← hdb]; exact setRow_heap _ _ _ _ _ _ (heap_alloc_new _ _)
  have qc := ((kk1.out.trans hk).trans k3).get qb.out id
  have O3 : OwnStore w A M w3 := ⟨hA.fresh k3, (K1.out.trans hk).trans k3, fun j hj => Nat.le_trans K1.out.size (hnew j hj)⟩
  have hcbO : ¬ A.own cb := fun e => by have := hnew cb e; have := lt_of_heap (kk1.out.get qb.out id); omega
  have hld3 := h_ (ptr_load' q3)
  have hlb3 : Hid (∀ j v, [Value.slice A0 l0.length c0, .slice A1 l1.length c1][j]? = some v → w3.cell? ⟨cb, 0 + j, none⟩ = some v) := h_ (fun j v hj => by rw [Nat.zero_add, cell_of_heap qc]; simpa using hj)
  have S3 := h_ (show ShSt w db sb w3 A M from ⟨O3, q3, ⟨lt_of_heap q3, fun e => by have := hA.lt (.inl e); omega⟩, hsb⟩)
  have old : Hid (∀ (v : Value) (l : List (Int × Int)), EntsAt w v l → EntsOff w3 A v l) := h_ (fun v l hv => ⟨SliceAt.fresh hv O3.kept, fun hne b hb => by
   obtain ⟨b', e1, e2⟩ := SliceAt.block hv (by have := List.length_pos_iff.2 hne; omega)
   rw [hb] at e1
   cases e1
   exact ⟨Nat.lt_of_lt_of_le e2 O3.kept.size, fun e => by have := O3.new b (.inl e); omega⟩⟩)
  have EP := h_ (show PagesAt w3 (.slice Ap 4 cp) ns A from ⟨SliceAt.fresh (by rw [h4]; exact SliceAt.of_owns hrow) k3, fun _ b hb => ⟨Nat.lt_of_lt_of_le (hrow.lt b hb).2 k3.size, fun e => hoff b hb (.inl e)⟩⟩)
  have qc' := h_ qc
  have hcs : Hid (Safe w3 A cb) := h_ ⟨lt_of_heap qc, fun e => hcbO (.inl e)⟩
  have hw3' := h_ hw3
  have hdb' := h_ hdb
  have hone' := h_ hone
  have hnd' := h_ hnd
  clear hA h4 hone hnd hrow hoff hk hnew hdb hsb hw3 k3 q3 qc O3 hcbO
  obtain ⟨M1, M1h, M2, M3, M4, M5, r0, r1, rb0, rc, la, lb0, TO⟩ := tells_ok hone'.out h4'.out hnd'.out hlg (l0 := l0) (l1 := l1) (by omega) (by omega) true
  have CT := two12 S3.out.own.store h4'.out EP.out (old.out _ _ hv0'.out) (old.out _ _ hv1'.out) (by omega) (by omega) TO.h0 TO.hh TO.h1 (by omega) TO.g1
  rw [S3.out.eq, TO.ea, TO.eb] at CT
  have CT' := h_ CT
  have TO' := h_ TO
  clear CT TO
  go_wp2_with (first | (refine wpList_alloc_as 31 rfl rfl #[.pointer none] differ_zero ?_; rw [hdb'.out]) | (refine wpList_store_whole 31 rfl rfl rfl [.pointer (some ⟨sb, 0, none⟩)] rfl differ_size 31 #[.pointer none] (by rw [← hdb'.out]; exact heap_alloc_new _ _) rfl (by intro c hc; simp at hc; subst hc; rfl) ?_; rw [hw3'.out]) | (refine wpList_load_agg 31 rfl rfl rfl _ Try.underlying31 rfl [.pointer (some ⟨sb, 0, none⟩)] (by kernel_rfl) hld3.out ?_) | (refine wpList_load_agg 23 rfl rfl rfl _ Try.underlying23 rfl [.slice A0 l0.length c0, .slice A1 l1.length c1] (by kernel_rfl) hlb3.out ?_))
  refine CT'.out.mono ?_
  rintro e w6 ⟨A6, L0, L1, rfl, hT6, hE0, hE1⟩
  obtain ⟨AL, cL, rfl, hL1, hL2⟩ := hE0.at_.form
  obtain ⟨AK, cK, rfl, hK1, hK2⟩ := hE1.at_.form
  unfold maxLen at hL2 hK2
  have S6 := h_ (S3.out.to hT6)
  have Q6 := h_ (hT6.get qc'.out hcs.out)
  have F6 := h_ hE0
  have G6 := h_ hE1
  clear hT6 hE0 hE1
  obtain ⟨rb, hrb⟩ : ∃ b, w6.heap.size = b := ⟨_, rfl⟩
  obtain ⟨wa, hwa⟩ : ∃ u, w6.alloc (.cells #[.int .i64 0, .int .i64 0] 35) = u := ⟨_, rfl⟩
  obtain ⟨lb, hlb⟩ : ∃ b, wa.heap.size = b := ⟨_, rfl⟩
  obtain ⟨wc, hwc⟩ : ∃ u, (wa.alloc (.cells #[.slice none 0 0, .slice none 0 0] 37)).setRow rb #[.int .i64 r0, .int .i64 r1] = u := ⟨_, rfl⟩
  obtain ⟨wd, hwd⟩ : ∃ u, wc.setRow lb #[.slice AL la.length cL, .slice AK lb0.length cK] = u := ⟨_, rfl⟩
  have ka : Kept (fun _ => False) w6 wa := by rw [← hwa]; exact (Kept.refl _ _).alloc _
  have qa : wa.heap[rb]? = some (.cells #[.int .i64 0, .int .i64 0] 35 (0, 0)) := by rw [← hwa, ← hrb]; exact heap_alloc_new _ _
  have kab : Kept (fun _ => False) wa (wa.alloc (.cells #[.slice none 0 0, .slice none 0 0] 37)) := (Kept.refl _ _).alloc _
  have qb2 := kab.get qa id
  have ql : (wa.alloc (.cells #[.slice none 0 0, .slice none 0 0] 37)).heap[lb]? = some (.cells #[.slice none 0 0, .slice none 0 0] 37 (0, 0)) := by rw [← hlb]; exact heap_alloc_new _ _
  have e1 := lt_of_heap qa
  have kc : Kept (fun j => j = rb) (wa.alloc (.cells #[.slice none 0 0, .slice none 0 0] 37)) wc := by rw [← hwc]; exact Kept.setRow (S := fun j => j = rb) (Kept.refl _ _) rfl _
  have qcr : wc.heap[rb]? = some (.cells #[.int .i64 r0, .int .i64 r1] 35 (0, 0)) := by rw [← hwc]; exact setRow_heap _ _ _ _ _ _ qb2
  have qcl := kc.get ql (by omega)
  have kd : Kept (fun j => j = lb) wc wd := by rw [← hwd]; exact Kept.setRow (S := fun j => j = lb) (Kept.refl _ _) rfl _
  have qdl : wd.heap[lb]? = some (.cells #[.slice AL la.length cL, .slice AK lb0.length cK] 37 (0, 0)) := by rw [← hwd]; exact setRow_heap _ _ _ _ _ _ qcl
  have qdr := kd.get qcr (by omega)
  have k6d : Kept (fun _ => False) w6 wd := ((ka.trans kab).trans_new kc (fun i hi e => by omega)).trans_new kd (fun i hi e => by omega)
  have hwa' := h_ hwa
  have hwc' := h_ hwc
  have hwd' := h_ hwd
  have hrb' := h_ hrb
  have hlb' := h_ hlb
  have Qb2 := h_ qb2
  have Qcl := h_ qcl
  have K6d := h_ k6d
  have cq := k6d.get Q6.out id
  have cq0 := cell_of_heap cq 0
  have cq1 := cell_of_heap cq 1
  simp at cq0 cq1
  have S7 : Hid (TelS w db sb lb la lb0 (.slice AL la.length cL) (.slice AK lb0.length cK) wd A6 M2) := h_ ⟨S6.out.fresh k6d, qdl, ⟨lt_of_heap qdl, fun e => by have := S6.out.own.store.lt (.inl e); omega⟩, F6.out.fresh k6d, G6.out.fresh k6d⟩
  have QR : Hid (wd.heap[rb]? = some (.cells #[.int .i64 r0, .int .i64 r1] 35 (0, 0))) := h_ qdr
  have lat := TO'.out.lena
  have lbt := TO'.out.lenb
  obtain ⟨X, hX⟩ : ∃ X, changesL la lb0 = X := ⟨_, rfl⟩
  obtain ⟨Z, hZ⟩ : ∃ Z, changesL lb0 la = Z := ⟨_, rfl⟩
  have hX64 : X.length ≤ 64 := by rw [← hX]; exact changes_le _ _
  have hZ64 : Z.length ≤ 64 := by rw [← hZ]; exact changes_le _ _
  have hX := h_ hX
  have hZ := h_ hZ
  clear hrb hwa hlb hwc hwd ka qa kab qb2 ql e1 kc qcr qcl kd qdl qdr k6d cq
  go_wp2_with (first | (refine wpList_alloc_as 35 rfl rfl #[.int .i64 0, .int .i64 0] (by kernel_rfl) ?_; rw [hwa'.out, hrb'.out]) | (refine wpList_alloc_as 37 rfl rfl #[.slice none 0 0, .slice none 0 0] (by kernel_rfl) ?_; rw [hlb'.out]) | (refine wpList_store_whole 35 rfl rfl rfl [.int .i64 r0, .int .i64 r1] rfl (by kernel_rfl) 35 #[.int .i64 0, .int .i64 0] Qb2.out rfl (by intro c hc; simp at hc; (first | (rcases hc with rfl | rfl <;> rfl) | (subst hc; rfl))) ?_; rw [hwc'.out]) | (refine wpList_store_whole 37 rfl rfl rfl [.slice AL la.length cL, .slice AK lb0.length cK] rfl (by kernel_rfl) 37 #[.slice none 0 0, .slice none 0 0] Qcl.out rfl (by intro c hc; simp at hc; (first | (rcases hc with rfl | rfl <;> rfl) | (subst hc; rfl))) ?_; rw [hwd'.out]))
  refine wp_region_quiet (C := fun w' => Kept (fun _ => False) wd w') (by kernel_rfl) (by kernel_rfl) (Kept.refl _ _).drew ?_
  simp only []
  refine wpQuiet_step (fun K hK => ?_); go_simp; refine ⟨_, fun _ _ => rfl, hK _ ?_⟩; clear hK K
  refine wpQuiet_step (fun K hK => ?_); refine q_on rfl (q_val (.int .i64 r0) (fun W hW => by have hc := cell_of_heap (hW.get QR.out id) 0; simp at hc; clear hW; go_simp) (hK _ ?_)); clear hK K
  refine wpQuiet_step (fun K hK => ?_); go_simp; refine ⟨_, fun _ _ => rfl, hK _ ?_⟩; clear hK K
  refine wpQuiet_step (fun K hK => ?_); refine q_on rfl (q_val (.int .i64 r1) (fun W hW => by have hc := cell_of_heap (hW.get QR.out id) 1; simp at hc; clear hW; go_simp) (hK _ ?_)); clear hK K
  refine wpQuiet_step (fun K hK => ?_); go_simp; refine ⟨_, fun _ _ => rfl, hK _ ?_⟩; clear hK K
  refine wpQuiet_step (fun K hK => ?_); go_simp; refine ⟨_, fun _ _ => rfl, hK _ ?_⟩; clear hK K
  refine wpQuiet_nil ?_
  intro w8 hk8
  have S8 := h_ (S7.out.fresh hk8)
  clear hk8 cq0 cq1
  have hldb := h_ (show ∀ j v, [Value.pointer (some ⟨sb, 0, none⟩)][j]? = some v → w8.cell? ⟨db, 0 + j, none⟩ = some v from S8.out.st.load)
  have cc1 := cell_of_heap S8.out.ct 1
  simp at cc1
  have CB := treeBuild S8.out.st.own.store S8.out.eB (by omega) (by have := TO'.out.g2; omega)
  rw [TO'.out.h2 rfl, S8.out.st.eq] at CB
  have CB' : Hid (Calls Try.prog 9 #[.agg #[.pointer (some ⟨sb, 0, none⟩)], .slice AK lb0.length cK] w8 fun e w' => ∃ A', e = .returned (.tuple #[.int .i64 rb0, .int .i64 0]) ∧ StoreTo A6 A' M3 w8 w') := h_ CB
  clear CB
  go_wp2_with (first | (refine wpList_load_agg 27 rfl rfl rfl _ Try.underlying27 rfl [.pointer (some ⟨sb, 0, none⟩)] (by kernel_rfl) hldb.out ?_))
  refine CB'.out.mono ?_
  rintro e w9 ⟨A9, rfl, hT9⟩
  have S9 := h_ (S8.out.to hT9)
  clear hT9 hldb cc1 CB'
  obtain ⟨rb, hrb⟩ : ∃ u, rb0 = u := ⟨_, rfl⟩
  rw [hrb] at TO' ⊢
  clear hrb
  have hld := h_ S9.out.st.load
  have CC := diffChanges S9.out.st.own.store TO'.out.a3 TO'.out.b3
  rw [hX.out, S9.out.st.eq] at CC
  have CC' : Hid (Calls Try.prog 10 #[.agg #[.pointer (some ⟨sb, 0, none⟩)], .int .i64 r0, .int .i64 rb] w9 fun e w' => ∃ v, e = .returned (.tuple #[v, .int .i64 0]) ∧ w'.ownsRow w9.heap.size 41 2 v X.length (entCells X) ∧ Kept (fun _ => False) w9 w') := h_ CC
  clear CC
  go_wp2_with (first | (refine wpList_load_agg 31 rfl rfl rfl _ Try.underlying31 rfl [.pointer (some ⟨sb, 0, none⟩)] (by kernel_rfl) hld.out ?_))
  refine CC'.out.mono ?_
  rintro e y1 ⟨v1, rfl, hrow1, ky1⟩
  obtain ⟨_, B1, d1, rfl, hB1, hD1, _⟩ := SliceAt.of_owns hrow1
  unfold maxLen at hD1
  have E1 := h_ (EntsOff.madeC hrow1 S9.out.st.own.store)
  have T1 := h_ (S9.out.fresh ky1)
  clear hrow1 ky1
  have hld := h_ T1.out.st.load
  have CC := diffChanges T1.out.st.own.store TO'.out.b3 TO'.out.a3
  rw [hZ.out, T1.out.st.eq] at CC
  have CC' : Hid (Calls Try.prog 10 #[.agg #[.pointer (some ⟨sb, 0, none⟩)], .int .i64 rb, .int .i64 r0] y1 fun e w' => ∃ v, e = .returned (.tuple #[v, .int .i64 0]) ∧ w'.ownsRow y1.heap.size 41 2 v Z.length (entCells Z) ∧ Kept (fun _ => False) y1 w') := h_ CC
  clear CC
  go_wp2_with (first | (refine wpList_load_agg 31 rfl rfl rfl _ Try.underlying31 rfl [.pointer (some ⟨sb, 0, none⟩)] (by kernel_rfl) hld.out ?_))
  refine CC'.out.mono ?_
  rintro e y2 ⟨v2, rfl, hrow2, ky2⟩
  obtain ⟨_, B2, d2, rfl, hB2, hD2, _⟩ := SliceAt.of_owns hrow2
  unfold maxLen at hD2
  have E2 := h_ (EntsOff.madeC hrow2 T1.out.st.own.store)
  have T2 := h_ (T1.out.fresh ky2)
  have E12 := h_ (E1.out.fresh ky2)
  clear hrow2 ky2
  have ct0 := cell_of_heap T2.out.ct 0
  have ct1 := cell_of_heap T2.out.ct 1
  simp at ct0 ct1
  have CR := ref12Changes T2.out.eA.at_ T2.out.eB.at_ (by omega) (by omega)
  rw [hX.out] at CR
  have CR' := h_ CR
  clear CR
  go_wp2_with fail
  refine CR'.out.mono ?_
  rintro e y3 ⟨v3, rfl, hrow3, ky3⟩
  obtain ⟨_, B3, d3, rfl, hB3, hD3, _⟩ := SliceAt.of_owns hrow3
  unfold maxLen at hD3
  have T3 := h_ (T2.out.fresh ky3)
  have E13 := h_ (E12.out.fresh ky3)
  have E23 := h_ (E2.out.fresh ky3)
  have CS := ref12Same (a := X) (b := X) E13.out.at_ (SliceAt.of_owns hrow3) (by omega)
  rw [decide_eq_true rfl] at CS
  have CS' := h_ CS
  clear CS hrow3 ky3 CR' ct0 ct1
  go_wp2_with fail
  refine CS'.out.mono ?_
  rintro e y4 ⟨rfl, ky4⟩
  have T4 := h_ (T3.out.fresh ky4)
  have E14 := h_ (E13.out.fresh ky4)
  have E24 := h_ (E23.out.fresh ky4)
  clear CS' ky4
  have ct0 := cell_of_heap T4.out.ct 0
  have ct1 := cell_of_heap T4.out.ct 1
  simp at ct0 ct1
  have CR := ref12Changes T4.out.eB.at_ T4.out.eA.at_ (by omega) (by omega)
  rw [hZ.out] at CR
  have CR' := h_ CR
  clear CR
  go_wp2_with fail
  refine CR'.out.mono ?_
  rintro e y5 ⟨v5, rfl, hrow5, ky5⟩
  obtain ⟨_, B5, d5, rfl, hB5, hD5, _⟩ := SliceAt.of_owns hrow5
  unfold maxLen at hD5
  have T5 := h_ (T4.out.fresh ky5)
  have E15 := h_ (E14.out.fresh ky5)
  have E25 := h_ (E24.out.fresh ky5)
  have CS := ref12Same (a := Z) (b := Z) E25.out.at_ (SliceAt.of_owns hrow5) (by omega)
  rw [decide_eq_true rfl] at CS
  have CS' := h_ CS
  clear CS hrow5 ky5 CR' ct0 ct1
  go_wp2_with fail
  refine CS'.out.mono ?_
  rintro e y6 ⟨rfl, ky6⟩
  have T6 := h_ (T5.out.fresh ky6)
  have E16 := h_ (E15.out.fresh ky6)
  clear CS' ky6
  by_cases hr : r0 = -1
  ·have hb2 : (r0 != -1) = false := by simp [hr]
   have hM := TO'.out.h4
   rw [if_pos hr] at hM
   injection hM with hM _
   have T7 : Hid (TelS w db sb lb la lb0 (.slice AL la.length cL) (.slice AK lb0.length cK) y6 A9 M4) := h_ (by rw [← hM]; exact T6.out)
   have E17 := h_ E16.out
   clear hr hM
   have hld := h_ T7.out.st.load
   have CA := diffApply T7.out.st.own.store r0 E17.out (by omega) (by have := TO'.out.g4; omega)
   rw [← hX.out, TO'.out.h5, hX.out, T7.out.st.eq] at CA
   have CA' : Hid (Calls Try.prog 15 #[.agg #[.pointer (some ⟨sb, 0, none⟩)], .int .i64 r0, .slice B1 X.length d1] y6 fun e w' => ∃ A', e = .returned (.tuple #[.int .i64 rc, .int .i64 0]) ∧ StoreTo A9 A' M5 y6 w') := h_ CA
   clear CA
   go_wp2_with (first | (refine wpList_load_agg 31 rfl rfl rfl _ Try.underlying31 rfl [.pointer (some ⟨sb, 0, none⟩)] (by kernel_rfl) hld.out ?_))
   refine CA'.out.mono ?_
   rintro e y8 ⟨A8, rfl, hT8⟩
   have T8 := h_ (T7.out.to hT8)
   clear hT8 CA'
   have hld8 := h_ T8.out.st.load
   have CL := treeList T8.out.st.own.store rc
   rw [TO'.out.c5.list, T8.out.st.eq] at CL
   have CL' : Hid (Calls Try.prog 16 #[.agg #[.pointer (some ⟨sb, 0, none⟩)], .int .i64 rc] y8 fun e w' => ∃ v, e = .returned (.tuple #[v, .int .i64 0]) ∧ w'.ownsRow y8.heap.size 58 2 v lb0.length (entCells lb0) ∧ Kept (fun _ => False) y8 w') := h_ CL
   clear CL
   go_wp2_with (first | (refine wpList_load_agg 27 rfl rfl rfl _ Try.underlying27 rfl [.pointer (some ⟨sb, 0, none⟩)] (by kernel_rfl) hld8.out ?_))
   refine CL'.out.mono ?_
   rintro e y9 ⟨v9, rfl, hrow9, ky9⟩
   obtain ⟨_, B9, d9, rfl, hB9, hD9, _⟩ := SliceAt.of_owns hrow9
   unfold maxLen at hD9
   have T9 := h_ (T8.out.fresh ky9)
   have E9 : Hid (EntsAt y9 (.slice B9 lb0.length d9) lb0) := h_ (SliceAt.of_owns hrow9)
   clear hrow9 ky9 CL'
   have hld9 := h_ T9.out.st.load
   have CL := treeList T9.out.st.own.store r0
   rw [TO'.out.a5.list, T9.out.st.eq] at CL
   have CL' : Hid (Calls Try.prog 16 #[.agg #[.pointer (some ⟨sb, 0, none⟩)], .int .i64 r0] y9 fun e w' => ∃ v, e = .returned (.tuple #[v, .int .i64 0]) ∧ w'.ownsRow y9.heap.size 58 2 v la.length (entCells la) ∧ Kept (fun _ => False) y9 w') := h_ CL
   clear CL
   go_wp2_with (first | (refine wpList_load_agg 27 rfl rfl rfl _ Try.underlying27 rfl [.pointer (some ⟨sb, 0, none⟩)] (by kernel_rfl) hld9.out ?_))
   refine CL'.out.mono ?_
   rintro e y10 ⟨v10, rfl, hrow10, ky10⟩
   obtain ⟨_, B10, d10, rfl, hB10, hD10, _⟩ := SliceAt.of_owns hrow10
   unfold maxLen at hD10
   have T10 := h_ (T9.out.fresh ky10)
   have E10 : Hid (EntsAt y10 (.slice B10 la.length d10) la) := h_ (SliceAt.of_owns hrow10)
   have E910 : Hid (EntsAt y10 (.slice B9 lb0.length d9) lb0) := h_ (SliceAt.fresh E9.out ky10)
   clear hrow10 ky10 CL'
   have ct1 := cell_of_heap T10.out.ct 1
   simp at ct1
   have CS := same10 (a := lb0) (b := lb0) E910.out T10.out.eB.at_ (by omega)
   rw [decide_eq_true rfl] at CS
   have CS' := h_ CS
   clear CS
   go_wp2_with fail
   refine CS'.out.mono ?_
   rintro e y11 ⟨rfl, ky11⟩
   have T11 := h_ (T10.out.fresh ky11)
   have E1011 : Hid (EntsAt y11 (.slice B10 la.length d10) la) := h_ (SliceAt.fresh E10.out ky11)
   clear ky11 CS' ct1
   have ct0 := cell_of_heap T11.out.ct 0
   simp at ct0
   have CS := same10 (a := la) (b := la) E1011.out T11.out.eA.at_ (by omega)
   rw [decide_eq_true rfl] at CS
   have CS' := h_ CS
   clear CS
   go_wp2_with fail
   refine CS'.out.mono ?_
   rintro e y12 ⟨rfl, ky12⟩
   have fin := h_ (T11.out.st.own.kept.trans ky12)
   clear ky12 CS' ct0
   go_wp2_with fail
   go_ret
   exact ⟨rfl, fin.out⟩
  ·have hb2 : (r0 != -1) = true := by simp [hr]
   have hM := TO'.out.h4
   rw [if_neg hr] at hM
   have CH := storeHold T6.out.st.own.store r0
   rw [hM, T6.out.st.eq] at CH
   have CH' : Hid (Calls Try.prog 14 #[.pointer (some ⟨sb, 0, none⟩), .int .i64 r0] y6 fun e w' => e = .returned (.int .i64 0) ∧ StoreTo A9 A9 M4 y6 w') := h_ CH
   have cd6 := cell_of_heap T6.out.st.cd 0
   simp at cd6
   clear CH hM hr
   go_wp2_with fail
   refine CH'.out.mono ?_
   rintro e y7 ⟨rfl, hT7⟩
   have T7 := h_ (T6.out.to hT7)
   have E17 := h_ (E16.out.to hT7)
   clear hT7 CH' cd6
   have hld := h_ T7.out.st.load
   have CA := diffApply T7.out.st.own.store r0 E17.out (by omega) (by have := TO'.out.g4; omega)
   rw [← hX.out, TO'.out.h5, hX.out, T7.out.st.eq] at CA
   have CA' : Hid (Calls Try.prog 15 #[.agg #[.pointer (some ⟨sb, 0, none⟩)], .int .i64 r0, .slice B1 X.length d1] y7 fun e w' => ∃ A', e = .returned (.tuple #[.int .i64 rc, .int .i64 0]) ∧ StoreTo A9 A' M5 y7 w') := h_ CA
   clear CA
   go_wp2_with (first | (refine wpList_load_agg 31 rfl rfl rfl _ Try.underlying31 rfl [.pointer (some ⟨sb, 0, none⟩)] (by kernel_rfl) hld.out ?_))
   refine CA'.out.mono ?_
   rintro e y8 ⟨A8, rfl, hT8⟩
   have T8 := h_ (T7.out.to hT8)
   clear hT8 CA'
   have hld8 := h_ T8.out.st.load
   have CL := treeList T8.out.st.own.store rc
   rw [TO'.out.c5.list, T8.out.st.eq] at CL
   have CL' : Hid (Calls Try.prog 16 #[.agg #[.pointer (some ⟨sb, 0, none⟩)], .int .i64 rc] y8 fun e w' => ∃ v, e = .returned (.tuple #[v, .int .i64 0]) ∧ w'.ownsRow y8.heap.size 58 2 v lb0.length (entCells lb0) ∧ Kept (fun _ => False) y8 w') := h_ CL
   clear CL
   go_wp2_with (first | (refine wpList_load_agg 27 rfl rfl rfl _ Try.underlying27 rfl [.pointer (some ⟨sb, 0, none⟩)] (by kernel_rfl) hld8.out ?_))
   refine CL'.out.mono ?_
   rintro e y9 ⟨v9, rfl, hrow9, ky9⟩
   obtain ⟨_, B9, d9, rfl, hB9, hD9, _⟩ := SliceAt.of_owns hrow9
   unfold maxLen at hD9
   have T9 := h_ (T8.out.fresh ky9)
   have E9 : Hid (EntsAt y9 (.slice B9 lb0.length d9) lb0) := h_ (SliceAt.of_owns hrow9)
   clear hrow9 ky9 CL'
   have hld9 := h_ T9.out.st.load
   have CL := treeList T9.out.st.own.store r0
   rw [TO'.out.a5.list, T9.out.st.eq] at CL
   have CL' : Hid (Calls Try.prog 16 #[.agg #[.pointer (some ⟨sb, 0, none⟩)], .int .i64 r0] y9 fun e w' => ∃ v, e = .returned (.tuple #[v, .int .i64 0]) ∧ w'.ownsRow y9.heap.size 58 2 v la.length (entCells la) ∧ Kept (fun _ => False) y9 w') := h_ CL
   clear CL
   go_wp2_with (first | (refine wpList_load_agg 27 rfl rfl rfl _ Try.underlying27 rfl [.pointer (some ⟨sb, 0, none⟩)] (by kernel_rfl) hld9.out ?_))
   refine CL'.out.mono ?_
   rintro e y10 ⟨v10, rfl, hrow10, ky10⟩
   obtain ⟨_, B10, d10, rfl, hB10, hD10, _⟩ := SliceAt.of_owns hrow10
   unfold maxLen at hD10
   have T10 := h_ (T9.out.fresh ky10)
   have E10 : Hid (EntsAt y10 (.slice B10 la.length d10) la) := h_ (SliceAt.of_owns hrow10)
   have E910 : Hid (EntsAt y10 (.slice B9 lb0.length d9) lb0) := h_ (SliceAt.fresh E9.out ky10)
   clear hrow10 ky10 CL'
   have ct1 := cell_of_heap T10.out.ct 1
   simp at ct1
   have CS := same10 (a := lb0) (b := lb0) E910.out T10.out.eB.at_ (by omega)
   rw [decide_eq_true rfl] at CS
   have CS' := h_ CS
   clear CS
   go_wp2_with fail
   refine CS'.out.mono ?_
   rintro e y11 ⟨rfl, ky11⟩
   have T11 := h_ (T10.out.fresh ky11)
   have E1011 : Hid (EntsAt y11 (.slice B10 la.length d10) la) := h_ (SliceAt.fresh E10.out ky11)
   clear ky11 CS' ct1
   have ct0 := cell_of_heap T11.out.ct 0
   simp at ct0
   have CS := same10 (a := la) (b := la) E1011.out T11.out.eA.at_ (by omega)
   rw [decide_eq_true rfl] at CS
   have CS' := h_ CS
   clear CS
   go_wp2_with fail
   refine CS'.out.mono ?_
   rintro e y12 ⟨rfl, ky12⟩
   have fin := h_ (T11.out.st.own.kept.trans ky12)
   clear ky12 CS' ct0
   go_wp2_with fail
   go_ret
   exact ⟨rfl, fin.out⟩
end Go.Proofs.Ytdcnogjbmdhgaaa
