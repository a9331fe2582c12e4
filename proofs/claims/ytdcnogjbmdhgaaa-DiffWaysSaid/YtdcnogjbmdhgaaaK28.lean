/-
 Layer 12: DiffWays' walk.
-/
import Derived.Test.YtdcnogjbmdhgaaaK12
import Derived.Test.YtdcnogjbmdhgaaaK26
import Derived.Test.YtdcnogjbmdhgaaaK27
set_option linter.unusedVariables false
set_option linter.unusedSimpArgs false
namespace Go.Proofs.Ytdcnogjbmdhgaaa
open Go.RowKit
set_option maxRecDepth 100000

theorem run_build_change (w : World) (a b : Int) : (Instr.build 41 #[(0, .int .i64 a), (1, .int .i64 b)]).run Try.prog w = .ok (.agg #[.int .i64 a, .int .i64 b]) w := run_build _ _ _ _ (by kernel_rfl)
def ownW (ns : List Nat) (c : Int × Int) : List (Int × Int) := if 0 ≤ c.1 ∧ c.1 < 64 ∧ c.2 ≠ -1 then [(c.1, ((ns.getD (clampQ c.2) 0 : Nat) : Int))] else []
theorem ownW_skip {ns : List Nat} {c : Int × Int} (h : ¬ (0 ≤ c.1 ∧ c.1 < 64 ∧ c.2 ≠ -1)) : ownW ns c = [] := by unfold ownW; rw [if_neg h]
theorem ownW_some {ns : List Nat} {k p : Int} {q : Nat} (h0 : 0 ≤ k) (h1 : k < 64) (hp : ¬ p = -1) (hq : ns[clampQ p]? = some q) : ownW ns (k, p) = [(k, (q : Int))] := by
 unfold ownW
 rw [if_pos ⟨h0, h1, hp⟩, List.getD_eq_getElem?_getD, hq]
 rfl
theorem ownW_step {ns : List Nat} {l : List (Int × Int)} {k : Nat} {x : Int × Int} (h : l[k]? = some x) : (l.take (k + 1)).flatMap (ownW ns) = (l.take k).flatMap (ownW ns) ++ ownW ns x := by
 rw [List.take_add_one, h, List.flatMap_append]
 simp
theorem ownW_len (ns : List Nat) : ∀ l : List (Int × Int), (l.flatMap (ownW ns)).length ≤ l.length
 | [] => Nat.le_refl _
 | x :: l => by
  have ih := ownW_len ns l
  rw [List.flatMap_cons, List.length_append, List.length_cons]
  have : (ownW ns x).length ≤ 1 := by unfold ownW; split <;> simp
  omega
theorem ownW_good {ns : List Nat} (h4 : ns.length = 4) (l : List (Int × Int)) : ∀ x ∈ l.flatMap (ownW ns), 0 ≤ x.1 ∧ x.1 < 64 ∧ ∃ b ∈ ns, x.2 = ((b : Nat) : Int) := fun x hx => by
 obtain ⟨c, _, hx⟩ := List.mem_flatMap.1 hx
 unfold ownW at hx
 split at hx
 ·rename_i h
  rw [List.mem_singleton] at hx
  subst hx
  have hq : clampQ c.2 < ns.length := by rw [h4]; unfold clampQ; omega
  refine ⟨h.1, h.2.1, ns[clampQ c.2], List.getElem_mem hq, ?_⟩
  show ((ns.getD (clampQ c.2) 0 : Nat) : Int) = _
  rw [List.getD_eq_getElem?_getD, List.getElem?_eq_getElem hq]
  rfl
 ·cases hx
structure WayEnd (la lb lc AB BC AC CA : List (Int × Int)) : Prop where
 ab : AB.length ≤ 64
 bc : BC.length ≤ 64
 ac : AC.length ≤ 64
 ca : CA.length ≤ 64
 kab : ∀ x ∈ AB, 0 ≤ x.1 ∧ x.1 < 64
 kbc : ∀ x ∈ BC, 0 ≤ x.1 ∧ x.1 < 64
 kac : ∀ x ∈ AC, 0 ≤ x.1 ∧ x.1 < 64
 kca : ∀ x ∈ CA, 0 ≤ x.1 ∧ x.1 < 64
 l1 : AC.length = CA.length
 l2 : AC.length ≤ AB.length + BC.length
 f1 : (AB ++ BC).foldl chgL la = lc
 f2 : AC.foldl chgL la = lc
 f3 : CA.foldl chgL lc = la
theorem changes_le (la lb : List (Int × Int)) : (changesL la lb).length ≤ 64 := by
 rw [changes_count]
 exact Nat.le_trans List.countP_le_length (by rw [List.length_range]; exact Nat.le_refl _)
theorem way_end {la lb lc : List (Int × Int)} (ha : ListOk la) (hb : ListOk lb) (hc : ListOk lc) : ∃ AB BC AC CA, changesL la lb = AB ∧ changesL lb lc = BC ∧ changesL la lc = AC ∧ changesL lc la = CA ∧ WayEnd la lb lc AB BC AC CA := by
 have key : ∀ (l l' : List (Int × Int)), ∀ x ∈ changesL l l', 0 ≤ x.1 ∧ x.1 < 64 := fun l l' x hx => ⟨(mem_changes.1 hx).1, (mem_changes.1 hx).2.1⟩
 refine ⟨_, _, _, _, rfl, rfl, rfl, rfl, changes_le _ _, changes_le _ _, changes_le _ _, changes_le _ _, key _ _, key _ _, key _ _, key _ _, changes_back _ _, changes_way _ _ _, ?_, changes_lead ha hc, changes_lead hc ha⟩
 rw [List.foldl_append, changes_lead ha hb, changes_lead hb hc]
structure WayS (w : World) (db sb rb lb : Nat) (vm vp : Value) (ns : List Nat) (more la lc0 : List (Int × Int)) (r0 r1 : Int) (L0 L1 : Value) (wr : World) (A : SA) (M : SM) : Prop where
 st : ShSt w db sb wr A M
 cr : wr.heap[rb]? = some (.cells #[.int .i64 r0, .int .i64 r1] 35 (0, 0))
 sr : Safe wr A rb
 ct : wr.heap[lb]? = some (.cells #[L0, L1] 37 (0, 0))
 sq : Safe wr A lb
 eA : EntsOff wr A L0 la
 eB : EntsOff wr A L1 lc0
 eM : EntsOff wr A vm more
 pg : PagesAt wr vp ns A
section
variable {w wr w' : World} {db sb rb lb : Nat} {vm vp : Value} {ns : List Nat} {more la lc0 : List (Int × Int)} {r0 r1 : Int} {L0 L1 : Value} {A A' : SA} {M M' : SM}
theorem WayS.fresh (h : WayS w db sb rb lb vm vp ns more la lc0 r0 r1 L0 L1 wr A M) (k : Kept (fun _ => False) wr w') : WayS w db sb rb lb vm vp ns more la lc0 r0 r1 L0 L1 w' A M :=
 ⟨h.st.fresh k, k.get h.cr id, h.sr.fresh k, k.get h.ct id, h.sq.fresh k, h.eA.fresh k, h.eB.fresh k, h.eM.fresh k, h.pg.fresh k⟩
theorem WayS.to (h : WayS w db sb rb lb vm vp ns more la lc0 r0 r1 L0 L1 wr A M) (hn : ns ≠ []) (k : StoreTo A A' M' wr w') : WayS w db sb rb lb vm vp ns more la lc0 r0 r1 L0 L1 w' A' M' :=
 ⟨h.st.to k, k.get h.cr h.sr, h.sr.to k, k.get h.ct h.sq, h.sq.to k, h.eA.to k, h.eB.to k, h.eM.to k, h.pg.to hn k⟩
end
set_option maxHeartbeats 16000000 in
theorem diffWaysWalk {w : World} (v0 v1 : Value) (l0 l1 : List (Int × Int)) (hv0 : EntsAt w v0 l0) (hv1 : EntsAt w v1 l1) (vm : Value) (more : List (Int × Int)) (hvm : EntsAt w vm more) :
  Calls Try.prog 3 #[.agg #[v0, v1], vm] w fun e w' => e = .returned (.bool true) ∧ Kept (fun _ => False) w w' := by
 obtain ⟨A0, c0, rfl, ha1, ha2⟩ := hv0.form
 obtain ⟨A1, c1, rfl, hb1, hb2⟩ := hv1.form
 obtain ⟨Am, cm, rfl, hm1, hm2⟩ := hvm.form
 unfold maxLen at ha2 hb2 hm2
 obtain ⟨cb, hcb⟩ : ∃ b, w.heap.size = b := ⟨_, rfl⟩
 obtain ⟨wb, hwb⟩ : ∃ u, w.alloc (.cells #[.slice A0 l0.length c0, .slice A1 l1.length c1] 23) = u := ⟨_, rfl⟩
 have kb := h_ (show Kept (fun _ => False) w wb by rw [← hwb]; exact (Kept.refl _ _).alloc _)
 have qb := h_ (show wb.heap[cb]? = some (.cells #[.slice A0 l0.length c0, .slice A1 l1.length c1] 23 (0, 0)) by rw [← hwb, ← hcb]; exact heap_alloc_new _ _)
 have hwb' := h_ hwb
 have hcb' := h_ hcb
 have hv0' := h_ hv0
 have hv1' := h_ hv1
 have hvm' := h_ hvm
 have hm := fun w => made12 w
 have hm' := h_ hm
 have hcw : Hid (w.heap.size ≤ cb) := h_ (by omega)
 clear hwb hcb hv0 hv1 hvm hm
 by_cases hl : 70 < l0.length
 ·have d0 : decide ((70 : Int) < (l0.length : Int)) = true := decide_eq_true (by omega)
  go_enter Try.func3, Try.ntmps3
  go_wp2_with (first | (refine wpList_box_named 23 rfl rfl _ rfl hwb'.out ?_; rw [hcb'.out]))
  refine (diffAlive _).mono ?_
  rintro e w1 ⟨rfl, k1⟩
  have K1 := h_ (kb.out.trans k1)
  have kk1 := h_ k1
  clear k1
  go_wp2_with fail
  refine (hm'.out _).mono ?_
  rintro e w2 ⟨A, M, ns, vp, rfl, hA, h4, hone, hnd, hrow, hoff, hlg, hk, hnew⟩
  obtain ⟨_, Ap, cp, rfl, hp1, hp2, _⟩ := SliceAt.of_owns hrow
  unfold maxLen at hp2
  have h4' := h_ h4
  obtain ⟨db, hdb⟩ : ∃ b, w2.heap.size = b := ⟨_, rfl⟩
  obtain ⟨sb, hsb⟩ : ∃ s, A.sb = s := ⟨_, rfl⟩
  rw [hsb]
  obtain ⟨w3, hw3⟩ : ∃ u, (w2.alloc (.cells #[.pointer none] 31)).setRow db #[.pointer (some ⟨sb, 0, none⟩)] = u := ⟨_, rfl⟩
  have k3 : Kept (fun _ => False) w2 w3 := by rw [← hw3]; exact ((Kept.refl _ _).alloc _).setRowNew (by omega) _
  have q3 : w3.heap[db]? = some (.cells #[.pointer (some ⟨sb, 0, none⟩)] 31 (0, 0)) := by rw [← hw3, ← hdb]; exact setRow_heap _ _ _ _ _ _ (heap_alloc_new _ _)
  have qc := ((kk1.out.trans hk).trans k3).get qb.out id
  have O3 : OwnStore w A M w3 := ⟨hA.fresh k3, (K1.out.trans hk).trans k3, fun j hj => Nat.le_trans K1.out.size (hnew j hj)⟩
  have hcbO : ¬ A.own cb := fun e => by have := hnew cb e; have := lt_of_heap (kk1.out.get qb.out id); omega
  have hld3 := h_ (ptr_load' q3)
  have hlb3 : Hid (∀ j v, [Value.slice A0 l0.length c0, .slice A1 l1.length c1][j]? = some v → w3.cell? ⟨cb, 0 + j, none⟩ = some v) := h_ (fun j v hj => by rw [Nat.zero_add, cell_of_heap qc]; simpa using hj)
  have S3 := h_ (show ShSt w db sb w3 A M from ⟨O3, q3, ⟨lt_of_heap q3, fun e => by have := hA.lt (.inl e); omega⟩, hsb⟩)
  have old : Hid (∀ (v : Value) (l : List (Int × Int)), EntsAt w v l → EntsOff w3 A v l) := h_ (fun v l hv => ⟨SliceAt.fresh hv O3.kept, fun hne b hb => by
   obtain ⟨b', e1, e2⟩ := SliceAt.block hv (by have := List.length_pos_iff.2 hne; omega)
   rw [hb] at e1
   cases e1
   exact ⟨Nat.lt_of_lt_of_le e2 O3.kept.size, fun e => by have := O3.new b (.inl e); omega⟩⟩)
  have EP := h_ (show PagesAt w3 (.slice Ap 4 cp) ns A from ⟨SliceAt.fresh (by rw [h4]; exact SliceAt.of_owns hrow) k3, fun _ b hb => ⟨Nat.lt_of_lt_of_le (hrow.lt b hb).2 k3.size, fun e => hoff b hb (.inl e)⟩⟩)
  have qc' := h_ qc
  have hcs : Hid (Safe w3 A cb) := h_ ⟨lt_of_heap qc, fun e => hcbO (.inl e)⟩
  have hw3' := h_ hw3
  have hdb' := h_ hdb
  have hone' := h_ hone
  have hnd' := h_ hnd
  clear hA h4 hone hnd hrow hoff hk hnew hdb hsb hw3 k3 q3 qc O3 hcbO
  have CT := two12_long0 S3.out.own.store h4'.out EP.out (old.out _ _ hv0'.out) (old.out _ _ hv1'.out) hl
  rw [S3.out.eq] at CT
  have CT' := h_ CT
  clear CT
  go_wp2_with (first | (refine wpList_alloc_as 31 rfl rfl #[.pointer none] differ_zero ?_; rw [hdb'.out]) | (refine wpList_store_whole 31 rfl rfl rfl [.pointer (some ⟨sb, 0, none⟩)] rfl differ_size 31 #[.pointer none] (by rw [← hdb'.out]; exact heap_alloc_new _ _) rfl (by intro c hc; simp at hc; subst hc; rfl) ?_; rw [hw3'.out]) | (refine wpList_load_agg 31 rfl rfl rfl _ Try.underlying31 rfl [.pointer (some ⟨sb, 0, none⟩)] (by kernel_rfl) hld3.out ?_) | (refine wpList_load_agg 23 rfl rfl rfl _ Try.underlying23 rfl [.slice A0 l0.length c0, .slice A1 l1.length c1] (by kernel_rfl) hlb3.out ?_))
  refine CT'.out.mono ?_
  rintro e w6 ⟨A6, M6, ra, rc, X0, n0, d0', X1, n1, d1', rfl, hT6⟩
  have S6 := h_ (S3.out.to hT6)
  have Q6 := h_ (hT6.get qc'.out hcs.out)
  clear hT6
  obtain ⟨rb, hrb⟩ : ∃ b, w6.heap.size = b := ⟨_, rfl⟩
  obtain ⟨wa, hwa⟩ : ∃ u, w6.alloc (.cells #[.int .i64 0, .int .i64 0] 35) = u := ⟨_, rfl⟩
  obtain ⟨lb, hlb⟩ : ∃ b, wa.heap.size = b := ⟨_, rfl⟩
  obtain ⟨wc, hwc⟩ : ∃ u, (wa.alloc (.cells #[.slice none 0 0, .slice none 0 0] 37)).setRow rb #[.int .i64 ra, .int .i64 rc] = u := ⟨_, rfl⟩
  obtain ⟨wd, hwd⟩ : ∃ u, wc.setRow lb #[.slice X0 n0 d0', .slice X1 n1 d1'] = u := ⟨_, rfl⟩
  have ka : Kept (fun _ => False) w6 wa := by rw [← hwa]; exact (Kept.refl _ _).alloc _
  have qa : wa.heap[rb]? = some (.cells #[.int .i64 0, .int .i64 0] 35 (0, 0)) := by rw [← hwa, ← hrb]; exact heap_alloc_new _ _
  have kab : Kept (fun _ => False) wa (wa.alloc (.cells #[.slice none 0 0, .slice none 0 0] 37)) := (Kept.refl _ _).alloc _
  have qb2 := kab.get qa id
  have ql : (wa.alloc (.cells #[.slice none 0 0, .slice none 0 0] 37)).heap[lb]? = some (.cells #[.slice none 0 0, .slice none 0 0] 37 (0, 0)) := by rw [← hlb]; exact heap_alloc_new _ _
  have e1 := lt_of_heap qa
  have kc : Kept (fun j => j = rb) (wa.alloc (.cells #[.slice none 0 0, .slice none 0 0] 37)) wc := by rw [← hwc]; exact Kept.setRow (S := fun j => j = rb) (Kept.refl _ _) rfl _
  have qcr : wc.heap[rb]? = some (.cells #[.int .i64 ra, .int .i64 rc] 35 (0, 0)) := by rw [← hwc]; exact setRow_heap _ _ _ _ _ _ qb2
  have qcl := kc.get ql (by omega)
  have kd : Kept (fun j => j = lb) wc wd := by rw [← hwd]; exact Kept.setRow (S := fun j => j = lb) (Kept.refl _ _) rfl _
  have qdl : wd.heap[lb]? = some (.cells #[.slice X0 n0 d0', .slice X1 n1 d1'] 37 (0, 0)) := by rw [← hwd]; exact setRow_heap _ _ _ _ _ _ qcl
  have qdr := kd.get qcr (by omega)
  have k6d : Kept (fun _ => False) w6 wd := ((ka.trans kab).trans_new kc (fun i hi e => by omega)).trans_new kd (fun i hi e => by omega)
  have hwa' := h_ hwa
  have hwc' := h_ hwc
  have hwd' := h_ hwd
  have hrb' := h_ hrb
  have hlb' := h_ hlb
  have Qb2 := h_ qb2
  have Qcl := h_ qcl
  have K6d := h_ k6d
  have cq := k6d.get Q6.out id
  have cq0 := cell_of_heap cq 0
  have cq1 := cell_of_heap cq 1
  simp at cq0 cq1
  clear hrb hwa hlb hwc hwd ka qa kab qb2 ql e1 kc qcr qcl kd qdl qdr k6d cq
  go_wp2_with (first | (refine wpList_alloc_as 35 rfl rfl #[.int .i64 0, .int .i64 0] (by kernel_rfl) ?_; rw [hwa'.out, hrb'.out]) | (refine wpList_alloc_as 37 rfl rfl #[.slice none 0 0, .slice none 0 0] (by kernel_rfl) ?_; rw [hlb'.out]) | (refine wpList_store_whole 35 rfl rfl rfl [.int .i64 ra, .int .i64 rc] rfl (by kernel_rfl) 35 #[.int .i64 0, .int .i64 0] Qb2.out rfl (by intro c hc; simp at hc; (first | (rcases hc with rfl | rfl <;> rfl) | (subst hc; rfl))) ?_; rw [hwc'.out]) | (refine wpList_store_whole 37 rfl rfl rfl [.slice X0 n0 d0', .slice X1 n1 d1'] rfl (by kernel_rfl) 37 #[.slice none 0 0, .slice none 0 0] Qcl.out rfl (by intro c hc; simp at hc; (first | (rcases hc with rfl | rfl <;> rfl) | (subst hc; rfl))) ?_; rw [hwd'.out]))
  go_ret
  exact ⟨rfl, S6.out.own.kept.trans K6d.out⟩
 have d0 : decide ((70 : Int) < (l0.length : Int)) = false := decide_eq_false (by omega)
 by_cases hl1 : 70 < l1.length
 ·have d1 : decide ((70 : Int) < (l1.length : Int)) = true := decide_eq_true (by omega)
  go_enter Try.func3, Try.ntmps3
  go_wp2_with (first | (refine wpList_box_named 23 rfl rfl _ rfl hwb'.out ?_; rw [hcb'.out]))
  refine (diffAlive _).mono ?_
  rintro e w1 ⟨rfl, k1⟩
  have K1 := h_ (kb.out.trans k1)
  have kk1 := h_ k1
  clear k1
  go_wp2_with fail
  refine (hm'.out _).mono ?_
  rintro e w2 ⟨A, M, ns, vp, rfl, hA, h4, hone, hnd, hrow, hoff, hlg, hk, hnew⟩
  obtain ⟨_, Ap, cp, rfl, hp1, hp2, _⟩ := SliceAt.of_owns hrow
  unfold maxLen at hp2
  have h4' := h_ h4
  obtain ⟨db, hdb⟩ : ∃ b, w2.heap.size = b := ⟨_, rfl⟩
  obtain ⟨sb, hsb⟩ : ∃ s, A.sb = s := ⟨_, rfl⟩
  rw [hsb]
  obtain ⟨w3, hw3⟩ : ∃ u, (w2.alloc (.cells #[.pointer none] 31)).setRow db #[.pointer (some ⟨sb, 0, none⟩)] = u := ⟨_, rfl⟩
  have k3 : Kept (fun _ => False) w2 w3 := by rw [← hw3]; exact ((Kept.refl _ _).alloc _).setRowNew (by omega) _
  have q3 : w3.heap[db]? = some (.cells #[.pointer (some ⟨sb, 0, none⟩)] 31 (0, 0)) := by rw [← hw3, ← hdb]; exact setRow_heap _ _ _ _ _ _ (heap_alloc_new _ _)
  have qc := ((kk1.out.trans hk).trans k3).get qb.out id
  have O3 : OwnStore w A M w3 := ⟨hA.fresh k3, (K1.out.trans hk).trans k3, fun j hj => Nat.le_trans K1.out.size (hnew j hj)⟩
  have hcbO : ¬ A.own cb := fun e => by have := hnew cb e; have := lt_of_heap (kk1.out.get qb.out id); omega
  have hld3 := h_ (ptr_load' q3)
  have hlb3 : Hid (∀ j v, [Value.slice A0 l0.length c0, .slice A1 l1.length c1][j]? = some v → w3.cell? ⟨cb, 0 + j, none⟩ = some v) := h_ (fun j v hj => by rw [Nat.zero_add, cell_of_heap qc]; simpa using hj)
  have S3 := h_ (show ShSt w db sb w3 A M from ⟨O3, q3, ⟨lt_of_heap q3, fun e => by have := hA.lt (.inl e); omega⟩, hsb⟩)
  have old : Hid (∀ (v : Value) (l : List (Int × Int)), EntsAt w v l → EntsOff w3 A v l) := h_ (fun v l hv => ⟨SliceAt.fresh hv O3.kept, fun hne b hb => by
   obtain ⟨b', e1, e2⟩ := SliceAt.block hv (by have := List.length_pos_iff.2 hne; omega)
   rw [hb] at e1
   cases e1
   exact ⟨Nat.lt_of_lt_of_le e2 O3.kept.size, fun e => by have := O3.new b (.inl e); omega⟩⟩)
  have EP := h_ (show PagesAt w3 (.slice Ap 4 cp) ns A from ⟨SliceAt.fresh (by rw [h4]; exact SliceAt.of_owns hrow) k3, fun _ b hb => ⟨Nat.lt_of_lt_of_le (hrow.lt b hb).2 k3.size, fun e => hoff b hb (.inl e)⟩⟩)
  have qc' := h_ qc
  have hcs : Hid (Safe w3 A cb) := h_ ⟨lt_of_heap qc, fun e => hcbO (.inl e)⟩
  have hw3' := h_ hw3
  have hdb' := h_ hdb
  have hone' := h_ hone
  have hnd' := h_ hnd
  clear hA h4 hone hnd hrow hoff hk hnew hdb hsb hw3 k3 q3 qc O3 hcbO
  obtain ⟨M1, M1h, M2, M3, r0, r1, rc', la, lb', lc, WO⟩ := ways_ok hone'.out h4'.out hnd'.out hlg (l0 := l0) (l1 := []) (own := []) (by omega) (by decide) (fun x hx => by cases hx)
  have CT := two12_long1 S3.out.own.store h4'.out EP.out (old.out _ _ hv0'.out) (old.out _ _ hv1'.out) (by omega) hl1 WO.h0 (by omega)
  rw [S3.out.eq] at CT
  have CT' := h_ CT
  clear CT
  go_wp2_with (first | (refine wpList_alloc_as 31 rfl rfl #[.pointer none] differ_zero ?_; rw [hdb'.out]) | (refine wpList_store_whole 31 rfl rfl rfl [.pointer (some ⟨sb, 0, none⟩)] rfl differ_size 31 #[.pointer none] (by rw [← hdb'.out]; exact heap_alloc_new _ _) rfl (by intro c hc; simp at hc; subst hc; rfl) ?_; rw [hw3'.out]) | (refine wpList_load_agg 31 rfl rfl rfl _ Try.underlying31 rfl [.pointer (some ⟨sb, 0, none⟩)] (by kernel_rfl) hld3.out ?_) | (refine wpList_load_agg 23 rfl rfl rfl _ Try.underlying23 rfl [.slice A0 l0.length c0, .slice A1 l1.length c1] (by kernel_rfl) hlb3.out ?_))
  refine CT'.out.mono ?_
  rintro e w6 ⟨A6, M6, ra, rc, X0, n0, d0', X1, n1, d1', rfl, hT6⟩
  have S6 := h_ (S3.out.to hT6)
  have Q6 := h_ (hT6.get qc'.out hcs.out)
  clear hT6
  obtain ⟨rb, hrb⟩ : ∃ b, w6.heap.size = b := ⟨_, rfl⟩
  obtain ⟨wa, hwa⟩ : ∃ u, w6.alloc (.cells #[.int .i64 0, .int .i64 0] 35) = u := ⟨_, rfl⟩
  obtain ⟨lb, hlb⟩ : ∃ b, wa.heap.size = b := ⟨_, rfl⟩
  obtain ⟨wc, hwc⟩ : ∃ u, (wa.alloc (.cells #[.slice none 0 0, .slice none 0 0] 37)).setRow rb #[.int .i64 ra, .int .i64 rc] = u := ⟨_, rfl⟩
  obtain ⟨wd, hwd⟩ : ∃ u, wc.setRow lb #[.slice X0 n0 d0', .slice X1 n1 d1'] = u := ⟨_, rfl⟩
  have ka : Kept (fun _ => False) w6 wa := by rw [← hwa]; exact (Kept.refl _ _).alloc _
  have qa : wa.heap[rb]? = some (.cells #[.int .i64 0, .int .i64 0] 35 (0, 0)) := by rw [← hwa, ← hrb]; exact heap_alloc_new _ _
  have kab : Kept (fun _ => False) wa (wa.alloc (.cells #[.slice none 0 0, .slice none 0 0] 37)) := (Kept.refl _ _).alloc _
  have qb2 := kab.get qa id
  have ql : (wa.alloc (.cells #[.slice none 0 0, .slice none 0 0] 37)).heap[lb]? = some (.cells #[.slice none 0 0, .slice none 0 0] 37 (0, 0)) := by rw [← hlb]; exact heap_alloc_new _ _
  have e1 := lt_of_heap qa
  have kc : Kept (fun j => j = rb) (wa.alloc (.cells #[.slice none 0 0, .slice none 0 0] 37)) wc := by rw [← hwc]; exact Kept.setRow (S := fun j => j = rb) (Kept.refl _ _) rfl _
  have qcr : wc.heap[rb]? = some (.cells #[.int .i64 ra, .int .i64 rc] 35 (0, 0)) := by rw [← hwc]; exact setRow_heap _ _ _ _ _ _ qb2
  have qcl := kc.get ql (by omega)
  have kd : Kept (fun j => j = lb) wc wd := by rw [← hwd]; exact Kept.setRow (S := fun j => j = lb) (Kept.refl _ _) rfl _
  have qdl : wd.heap[lb]? = some (.cells #[.slice X0 n0 d0', .slice X1 n1 d1'] 37 (0, 0)) := by rw [← hwd]; exact setRow_heap _ _ _ _ _ _ qcl
  have qdr := kd.get qcr (by omega)
  have k6d : Kept (fun _ => False) w6 wd := ((ka.trans kab).trans_new kc (fun i hi e => by omega)).trans_new kd (fun i hi e => by omega)
  have hwa' := h_ hwa
  have hwc' := h_ hwc
  have hwd' := h_ hwd
  have hrb' := h_ hrb
  have hlb' := h_ hlb
  have Qb2 := h_ qb2
  have Qcl := h_ qcl
  have K6d := h_ k6d
  have cq := k6d.get Q6.out id
  have cq0 := cell_of_heap cq 0
  have cq1 := cell_of_heap cq 1
  simp at cq0 cq1
  clear hrb hwa hlb hwc hwd ka qa kab qb2 ql e1 kc qcr qcl kd qdl qdr k6d cq
  go_wp2_with (first | (refine wpList_alloc_as 35 rfl rfl #[.int .i64 0, .int .i64 0] (by kernel_rfl) ?_; rw [hwa'.out, hrb'.out]) | (refine wpList_alloc_as 37 rfl rfl #[.slice none 0 0, .slice none 0 0] (by kernel_rfl) ?_; rw [hlb'.out]) | (refine wpList_store_whole 35 rfl rfl rfl [.int .i64 ra, .int .i64 rc] rfl (by kernel_rfl) 35 #[.int .i64 0, .int .i64 0] Qb2.out rfl (by intro c hc; simp at hc; (first | (rcases hc with rfl | rfl <;> rfl) | (subst hc; rfl))) ?_; rw [hwc'.out]) | (refine wpList_store_whole 37 rfl rfl rfl [.slice X0 n0 d0', .slice X1 n1 d1'] rfl (by kernel_rfl) 37 #[.slice none 0 0, .slice none 0 0] Qcl.out rfl (by intro c hc; simp at hc; (first | (rcases hc with rfl | rfl <;> rfl) | (subst hc; rfl))) ?_; rw [hwd'.out]))
  go_ret
  exact ⟨rfl, S6.out.own.kept.trans K6d.out⟩
 have d1 : decide ((70 : Int) < (l1.length : Int)) = false := decide_eq_false (by omega)
 by_cases hm2 : 70 < more.length
 ·have dm : decide ((70 : Int) < (more.length : Int)) = true := decide_eq_true (by omega)
  go_enter Try.func3, Try.ntmps3
  go_wp2_with (first | (refine wpList_box_named 23 rfl rfl _ rfl hwb'.out ?_; rw [hcb'.out]))
  refine (diffAlive _).mono ?_
  rintro e w1 ⟨rfl, k1⟩
  have K1 := h_ (kb.out.trans k1)
  have kk1 := h_ k1
  clear k1
  go_wp2_with fail
  refine (hm'.out _).mono ?_
  rintro e w2 ⟨A, M, ns, vp, rfl, hA, h4, hone, hnd, hrow, hoff, hlg, hk, hnew⟩
  obtain ⟨_, Ap, cp, rfl, hp1, hp2, _⟩ := SliceAt.of_owns hrow
  unfold maxLen at hp2
  have h4' := h_ h4
  obtain ⟨db, hdb⟩ : ∃ b, w2.heap.size = b := ⟨_, rfl⟩
  obtain ⟨sb, hsb⟩ : ∃ s, A.sb = s := ⟨_, rfl⟩
  rw [hsb]
  obtain ⟨w3, hw3⟩ : ∃ u, (w2.alloc (.cells #[.pointer none] 31)).setRow db #[.pointer (some ⟨sb, 0, none⟩)] = u := ⟨_, rfl⟩
  have k3 : Kept (fun _ => False) w2 w3 := by rw [← hw3]; exact ((Kept.refl _ _).alloc _).setRowNew (by omega) _
  have q3 : w3.heap[db]? = some (.cells #[.pointer (some ⟨sb, 0, none⟩)] 31 (0, 0)) := by rw [← hw3, ← hdb]; exact setRow_heap _ _ _ _ _ _ (heap_alloc_new _ _)
  have qc := ((kk1.out.trans hk).trans k3).get qb.out id
  have O3 : OwnStore w A M w3 := ⟨hA.fresh k3, (K1.out.trans hk).trans k3, fun j hj => Nat.le_trans K1.out.size (hnew j hj)⟩
  have hcbO : ¬ A.own cb := fun e => by have := hnew cb e; have := lt_of_heap (kk1.out.get qb.out id); omega
  have hld3 := h_ (ptr_load' q3)
  have hlb3 : Hid (∀ j v, [Value.slice A0 l0.length c0, .slice A1 l1.length c1][j]? = some v → w3.cell? ⟨cb, 0 + j, none⟩ = some v) := h_ (fun j v hj => by rw [Nat.zero_add, cell_of_heap qc]; simpa using hj)
  have S3 := h_ (show ShSt w db sb w3 A M from ⟨O3, q3, ⟨lt_of_heap q3, fun e => by have := hA.lt (.inl e); omega⟩, hsb⟩)
  have old : Hid (∀ (v : Value) (l : List (Int × Int)), EntsAt w v l → EntsOff w3 A v l) := h_ (fun v l hv => ⟨SliceAt.fresh hv O3.kept, fun hne b hb => by
   obtain ⟨b', e1, e2⟩ := SliceAt.block hv (by have := List.length_pos_iff.2 hne; omega)
   rw [hb] at e1
   cases e1
   exact ⟨Nat.lt_of_lt_of_le e2 O3.kept.size, fun e => by have := O3.new b (.inl e); omega⟩⟩)
  have EP := h_ (show PagesAt w3 (.slice Ap 4 cp) ns A from ⟨SliceAt.fresh (by rw [h4]; exact SliceAt.of_owns hrow) k3, fun _ b hb => ⟨Nat.lt_of_lt_of_le (hrow.lt b hb).2 k3.size, fun e => hoff b hb (.inl e)⟩⟩)
  have qc' := h_ qc
  have hcs : Hid (Safe w3 A cb) := h_ ⟨lt_of_heap qc, fun e => hcbO (.inl e)⟩
  have hw3' := h_ hw3
  have hdb' := h_ hdb
  have hone' := h_ hone
  have hnd' := h_ hnd
  clear hA h4 hone hnd hrow hoff hk hnew hdb hsb hw3 k3 q3 qc O3 hcbO
  obtain ⟨M1, M1h, M2, M3, r0, r1, rc, la, lc0, lc, WO⟩ := ways_ok hone'.out h4'.out hnd'.out hlg (l0 := l0) (l1 := l1) (own := []) (by omega) (by omega) (fun x hx => by cases hx)
  have CT := two12 S3.out.own.store h4'.out EP.out (old.out _ _ hv0'.out) (old.out _ _ hv1'.out) (by omega) (by omega) WO.h0 WO.hh WO.h1 (by omega) WO.g1
  rw [S3.out.eq, WO.ea, WO.eb] at CT
  have CT' := h_ CT
  have WO' := h_ WO
  clear CT WO
  go_wp2_with (first | (refine wpList_alloc_as 31 rfl rfl #[.pointer none] differ_zero ?_; rw [hdb'.out]) | (refine wpList_store_whole 31 rfl rfl rfl [.pointer (some ⟨sb, 0, none⟩)] rfl differ_size 31 #[.pointer none] (by rw [← hdb'.out]; exact heap_alloc_new _ _) rfl (by intro c hc; simp at hc; subst hc; rfl) ?_; rw [hw3'.out]) | (refine wpList_load_agg 31 rfl rfl rfl _ Try.underlying31 rfl [.pointer (some ⟨sb, 0, none⟩)] (by kernel_rfl) hld3.out ?_) | (refine wpList_load_agg 23 rfl rfl rfl _ Try.underlying23 rfl [.slice A0 l0.length c0, .slice A1 l1.length c1] (by kernel_rfl) hlb3.out ?_))
  refine CT'.out.mono ?_
  rintro e w6 ⟨A6, L0, L1, rfl, hT6, hE0, hE1⟩
  obtain ⟨AL, cL, rfl, hL1, hL2⟩ := hE0.at_.form
  obtain ⟨AK, cK, rfl, hK1, hK2⟩ := hE1.at_.form
  unfold maxLen at hL2 hK2
  have S6 := h_ (S3.out.to hT6)
  have Q6 := h_ (hT6.get qc'.out hcs.out)
  have F6 := h_ hE0
  have G6 := h_ hE1
  have X6 := h_ ((old.out _ _ hvm'.out).to hT6)
  have P6 := h_ (EP.out.to (fun e => by have := h4'.out; rw [e] at this; cases this) hT6)
  clear hT6 hE0 hE1
  obtain ⟨rb, hrb⟩ : ∃ b, w6.heap.size = b := ⟨_, rfl⟩
  obtain ⟨wa, hwa⟩ : ∃ u, w6.alloc (.cells #[.int .i64 0, .int .i64 0] 35) = u := ⟨_, rfl⟩
  obtain ⟨lb, hlb⟩ : ∃ b, wa.heap.size = b := ⟨_, rfl⟩
  obtain ⟨wc, hwc⟩ : ∃ u, (wa.alloc (.cells #[.slice none 0 0, .slice none 0 0] 37)).setRow rb #[.int .i64 r0, .int .i64 r1] = u := ⟨_, rfl⟩
  obtain ⟨wd, hwd⟩ : ∃ u, wc.setRow lb #[.slice AL la.length cL, .slice AK lc0.length cK] = u := ⟨_, rfl⟩
  have ka : Kept (fun _ => False) w6 wa := by rw [← hwa]; exact (Kept.refl _ _).alloc _
  have qa : wa.heap[rb]? = some (.cells #[.int .i64 0, .int .i64 0] 35 (0, 0)) := by rw [← hwa, ← hrb]; exact heap_alloc_new _ _
  have kab : Kept (fun _ => False) wa (wa.alloc (.cells #[.slice none 0 0, .slice none 0 0] 37)) := (Kept.refl _ _).alloc _
  have qb2 := kab.get qa id
  have ql : (wa.alloc (.cells #[.slice none 0 0, .slice none 0 0] 37)).heap[lb]? = some (.cells #[.slice none 0 0, .slice none 0 0] 37 (0, 0)) := by rw [← hlb]; exact heap_alloc_new _ _
  have e1 := lt_of_heap qa
  have kc : Kept (fun j => j = rb) (wa.alloc (.cells #[.slice none 0 0, .slice none 0 0] 37)) wc := by rw [← hwc]; exact Kept.setRow (S := fun j => j = rb) (Kept.refl _ _) rfl _
  have qcr : wc.heap[rb]? = some (.cells #[.int .i64 r0, .int .i64 r1] 35 (0, 0)) := by rw [← hwc]; exact setRow_heap _ _ _ _ _ _ qb2
  have qcl := kc.get ql (by omega)
  have kd : Kept (fun j => j = lb) wc wd := by rw [← hwd]; exact Kept.setRow (S := fun j => j = lb) (Kept.refl _ _) rfl _
  have qdl : wd.heap[lb]? = some (.cells #[.slice AL la.length cL, .slice AK lc0.length cK] 37 (0, 0)) := by rw [← hwd]; exact setRow_heap _ _ _ _ _ _ qcl
  have qdr := kd.get qcr (by omega)
  have k6d : Kept (fun _ => False) w6 wd := ((ka.trans kab).trans_new kc (fun i hi e => by omega)).trans_new kd (fun i hi e => by omega)
  have hwa' := h_ hwa
  have hwc' := h_ hwc
  have hwd' := h_ hwd
  have hrb' := h_ hrb
  have hlb' := h_ hlb
  have Qb2 := h_ qb2
  have Qcl := h_ qcl
  have K6d := h_ k6d
  have cq := k6d.get Q6.out id
  have cq0 := cell_of_heap cq 0
  have cq1 := cell_of_heap cq 1
  simp at cq0 cq1
  clear hrb hwa hlb hwc hwd ka qa kab qb2 ql e1 kc qcr qcl kd qdl qdr k6d cq
  go_wp2_with (first | (refine wpList_alloc_as 35 rfl rfl #[.int .i64 0, .int .i64 0] (by kernel_rfl) ?_; rw [hwa'.out, hrb'.out]) | (refine wpList_alloc_as 37 rfl rfl #[.slice none 0 0, .slice none 0 0] (by kernel_rfl) ?_; rw [hlb'.out]) | (refine wpList_store_whole 35 rfl rfl rfl [.int .i64 r0, .int .i64 r1] rfl (by kernel_rfl) 35 #[.int .i64 0, .int .i64 0] Qb2.out rfl (by intro c hc; simp at hc; (first | (rcases hc with rfl | rfl <;> rfl) | (subst hc; rfl))) ?_; rw [hwc'.out]) | (refine wpList_store_whole 37 rfl rfl rfl [.slice AL la.length cL, .slice AK lc0.length cK] rfl (by kernel_rfl) 37 #[.slice none 0 0, .slice none 0 0] Qcl.out rfl (by intro c hc; simp at hc; (first | (rcases hc with rfl | rfl <;> rfl) | (subst hc; rfl))) ?_; rw [hwd'.out]))
  go_ret
  exact ⟨rfl, S6.out.own.kept.trans K6d.out⟩
 have dm : decide ((70 : Int) < (more.length : Int)) = false := decide_eq_false (by omega)
 go_enter Try.func3, Try.ntmps3
 go_wp2_with (first | (refine wpList_box_named 23 rfl rfl _ rfl hwb'.out ?_; rw [hcb'.out]))
 refine (diffAlive _).mono ?_
 rintro e w1 ⟨rfl, k1⟩
 have K1 := h_ (kb.out.trans k1)
 have kk1 := h_ k1
 clear k1
 go_wp2_with fail
 refine (hm'.out _).mono ?_
 rintro e w2 ⟨A, M, ns, vp, rfl, hA, h4, hone, hnd, hrow, hoff, hlg, hk, hnew⟩
 obtain ⟨_, Ap, cp, rfl, hp1, hp2, _⟩ := SliceAt.of_owns hrow
 unfold maxLen at hp2
 have h4' := h_ h4
 obtain ⟨db, hdb⟩ : ∃ b, w2.heap.size = b := ⟨_, rfl⟩
 obtain ⟨sb, hsb⟩ : ∃ s, A.sb = s := ⟨_, rfl⟩
 rw [hsb]
 obtain ⟨w3, hw3⟩ : ∃ u, (w2.alloc (.cells #[.pointer none] 31)).setRow db #[.pointer (some ⟨sb, 0, none⟩)] = u := ⟨_, rfl⟩
 have k3 : Kept (fun _ => False) w2 w3 := by rw [← hw3]; exact ((Kept.refl _ _).alloc _).setRowNew (by omega) _
 have q3 : w3.heap[db]? = some (.cells #[.pointer (some ⟨sb, 0, none⟩)] 31 (0, 0)) := by rw [← hw3, ← hdb]; exact setRow_heap _ _ _ _ _ _ (heap_alloc_new _ _)
 have qc := ((kk1.out.trans hk).trans k3).get qb.out id
 have O3 : OwnStore w A M w3 := ⟨hA.fresh k3, (K1.out.trans hk).trans k3, fun j hj => Nat.le_trans K1.out.size (hnew j hj)⟩
 have hcbO : ¬ A.own cb := fun e => by have := hnew cb e; have := lt_of_heap (kk1.out.get qb.out id); omega
 have hld3 := h_ (ptr_load' q3)
 have hlb3 : Hid (∀ j v, [Value.slice A0 l0.length c0, .slice A1 l1.length c1][j]? = some v → w3.cell? ⟨cb, 0 + j, none⟩ = some v) := h_ (fun j v hj => by rw [Nat.zero_add, cell_of_heap qc]; simpa using hj)
 have S3 := h_ (show ShSt w db sb w3 A M from ⟨O3, q3, ⟨lt_of_heap q3, fun e => by have := hA.lt (.inl e); omega⟩, hsb⟩)
 have old : Hid (∀ (v : Value) (l : List (Int × Int)), EntsAt w v l → EntsOff w3 A v l) := h_ (fun v l hv => ⟨SliceAt.fresh hv O3.kept, fun hne b hb => by
  obtain ⟨b', e1, e2⟩ := SliceAt.block hv (by have := List.length_pos_iff.2 hne; omega)
  rw [hb] at e1
  cases e1
  exact ⟨Nat.lt_of_lt_of_le e2 O3.kept.size, fun e => by have := O3.new b (.inl e); omega⟩⟩)
 have EP := h_ (show PagesAt w3 (.slice Ap 4 cp) ns A from ⟨SliceAt.fresh (by rw [h4]; exact SliceAt.of_owns hrow) k3, fun _ b hb => ⟨Nat.lt_of_lt_of_le (hrow.lt b hb).2 k3.size, fun e => hoff b hb (.inl e)⟩⟩)
 have qc' := h_ qc
 have hcs : Hid (Safe w3 A cb) := h_ ⟨lt_of_heap qc, fun e => hcbO (.inl e)⟩
 have hw3' := h_ hw3
 have hdb' := h_ hdb
 have hone' := h_ hone
 have hnd' := h_ hnd
 clear hA h4 hone hnd hrow hoff hk hnew hdb hsb hw3 k3 q3 qc O3 hcbO
 obtain ⟨M1, M1h, M2, M3, r0, r1, rc, la, lc0, lc, WO⟩ := ways_ok hone'.out h4'.out hnd'.out hlg (l0 := l0) (l1 := l1) (own := more.flatMap (ownW ns)) (by omega) (by omega) (ownW_good h4'.out more)
 have CT := two12 S3.out.own.store h4'.out EP.out (old.out _ _ hv0'.out) (old.out _ _ hv1'.out) (by omega) (by omega) WO.h0 WO.hh WO.h1 (by omega) WO.g1
 rw [S3.out.eq, WO.ea, WO.eb] at CT
 have CT' := h_ CT
 have WO' := h_ WO
 clear CT WO
 go_wp2_with (first | (refine wpList_alloc_as 31 rfl rfl #[.pointer none] differ_zero ?_; rw [hdb'.out]) | (refine wpList_store_whole 31 rfl rfl rfl [.pointer (some ⟨sb, 0, none⟩)] rfl differ_size 31 #[.pointer none] (by rw [← hdb'.out]; exact heap_alloc_new _ _) rfl (by intro c hc; simp at hc; subst hc; rfl) ?_; rw [hw3'.out]) | (refine wpList_load_agg 31 rfl rfl rfl _ Try.underlying31 rfl [.pointer (some ⟨sb, 0, none⟩)] (by kernel_rfl) hld3.out ?_) | (refine wpList_load_agg 23 rfl rfl rfl _ Try.underlying23 rfl [.slice A0 l0.length c0, .slice A1 l1.length c1] (by kernel_rfl) hlb3.out ?_))
 refine CT'.out.mono ?_
 rintro e w6 ⟨A6, L0, L1, rfl, hT6, hE0, hE1⟩
 obtain ⟨AL, cL, rfl, hL1, hL2⟩ := hE0.at_.form
 obtain ⟨AK, cK, rfl, hK1, hK2⟩ := hE1.at_.form
 unfold maxLen at hL2 hK2
 have S6 := h_ (S3.out.to hT6)
 have Q6 := h_ (hT6.get qc'.out hcs.out)
 have F6 := h_ hE0
 have G6 := h_ hE1
 have X6 := h_ ((old.out _ _ hvm'.out).to hT6)
 have P6 := h_ (EP.out.to (fun e => by have := h4'.out; rw [e] at this; cases this) hT6)
 clear hT6 hE0 hE1
 obtain ⟨rb, hrb⟩ : ∃ b, w6.heap.size = b := ⟨_, rfl⟩
 obtain ⟨wa, hwa⟩ : ∃ u, w6.alloc (.cells #[.int .i64 0, .int .i64 0] 35) = u := ⟨_, rfl⟩
 obtain ⟨lb, hlb⟩ : ∃ b, wa.heap.size = b := ⟨_, rfl⟩
 obtain ⟨wc, hwc⟩ : ∃ u, (wa.alloc (.cells #[.slice none 0 0, .slice none 0 0] 37)).setRow rb #[.int .i64 r0, .int .i64 r1] = u := ⟨_, rfl⟩
 obtain ⟨wd, hwd⟩ : ∃ u, wc.setRow lb #[.slice AL la.length cL, .slice AK lc0.length cK] = u := ⟨_, rfl⟩
 have ka : Kept (fun _ => False) w6 wa := by rw [← hwa]; exact (Kept.refl _ _).alloc _
 have qa : wa.heap[rb]? = some (.cells #[.int .i64 0, .int .i64 0] 35 (0, 0)) := by rw [← hwa, ← hrb]; exact heap_alloc_new _ _
 have kab : Kept (fun _ => False) wa (wa.alloc (.cells #[.slice none 0 0, .slice none 0 0] 37)) := (Kept.refl _ _).alloc _
 have qb2 := kab.get qa id
 have ql : (wa.alloc (.cells #[.slice none 0 0, .slice none 0 0] 37)).heap[lb]? = some (.cells #[.slice none 0 0, .slice none 0 0] 37 (0, 0)) := by rw [← hlb]; exact heap_alloc_new _ _
 have e1 := lt_of_heap qa
 have kc : Kept (fun j => j = rb) (wa.alloc (.cells #[.slice none 0 0, .slice none 0 0] 37)) wc := by rw [← hwc]; exact Kept.setRow (S := fun j => j = rb) (Kept.refl _ _) rfl _
 have qcr : wc.heap[rb]? = some (.cells #[.int .i64 r0, .int .i64 r1] 35 (0, 0)) := by rw [← hwc]; exact setRow_heap _ _ _ _ _ _ qb2
 have qcl := kc.get ql (by omega)
 have kd : Kept (fun j => j = lb) wc wd := by rw [← hwd]; exact Kept.setRow (S := fun j => j = lb) (Kept.refl _ _) rfl _
 have qdl : wd.heap[lb]? = some (.cells #[.slice AL la.length cL, .slice AK lc0.length cK] 37 (0, 0)) := by rw [← hwd]; exact setRow_heap _ _ _ _ _ _ qcl
 have qdr := kd.get qcr (by omega)
 have k6d : Kept (fun _ => False) w6 wd := ((ka.trans kab).trans_new kc (fun i hi e => by omega)).trans_new kd (fun i hi e => by omega)
 have hwa' := h_ hwa
 have hwc' := h_ hwc
 have hwd' := h_ hwd
 have hrb' := h_ hrb
 have hlb' := h_ hlb
 have Qb2 := h_ qb2
 have Qcl := h_ qcl
 have K6d := h_ k6d
 have cq := k6d.get Q6.out id
 have cq0 := cell_of_heap cq 0
 have cq1 := cell_of_heap cq 1
 simp at cq0 cq1
 have S7 : Hid (WayS w db sb rb lb (.slice Am more.length cm) (.slice Ap 4 cp) ns more la lc0 r0 r1 (.slice AL la.length cL) (.slice AK lc0.length cK) wd A6 M2) := h_ ⟨S6.out.fresh k6d, qdr, ⟨lt_of_heap qdr, fun e => by have := S6.out.own.store.lt (.inl e); omega⟩, qdl, ⟨lt_of_heap qdl, fun e => by have := S6.out.own.store.lt (.inl e); omega⟩, F6.out.fresh k6d, G6.out.fresh k6d, X6.out.fresh k6d, P6.out.fresh k6d⟩
 obtain ⟨wo, hwo⟩ : ∃ wo, wd.alloc (.cells #[] 41) = wo := ⟨_, rfl⟩
 have O0 : Hid (([] : List (Int × Int)) = (more.take 0).flatMap (ownW ns) ∧ OwnPt wd [] (.slice (some ⟨wd.heap.size, 0, none⟩) 0 0) wo) := h_ ⟨rfl, by rw [← hwo]; exact (Kept.refl _ _).alloc _, by rw [← hwo]; exact owns_empty wd wd.heap.size wd.heap.size 41 2 (Nat.le_refl _) rfl⟩
 have hwo' := h_ hwo
 clear hwo
 clear hrb hwa hlb hwc hwd ka qa kab qb2 ql e1 kc qcr qcl kd qdl qdr k6d cq
 go_wp2_with (first | (refine wpList_alloc_as 35 rfl rfl #[.int .i64 0, .int .i64 0] (by kernel_rfl) ?_; rw [hwa'.out, hrb'.out]) | (refine wpList_alloc_as 37 rfl rfl #[.slice none 0 0, .slice none 0 0] (by kernel_rfl) ?_; rw [hlb'.out]) | (refine wpList_store_whole 35 rfl rfl rfl [.int .i64 r0, .int .i64 r1] rfl (by kernel_rfl) 35 #[.int .i64 0, .int .i64 0] Qb2.out rfl (by intro c hc; simp at hc; (first | (rcases hc with rfl | rfl <;> rfl) | (subst hc; rfl))) ?_; rw [hwc'.out]) | (refine wpList_store_whole 37 rfl rfl rfl [.slice AL la.length cL, .slice AK lc0.length cK] rfl (by kernel_rfl) 37 #[.slice none 0 0, .slice none 0 0] Qcl.out rfl (by intro c hc; simp at hc; (first | (rcases hc with rfl | rfl <;> rfl) | (subst hc; rfl))) ?_; rw [hwd'.out]))
 rw [hwo'.out]
 obtain ⟨wz, hwz⟩ : ∃ u, wd = u := ⟨_, rfl⟩
 rw [hwz] at S7 O0 hwo' hwd' cq0 cq1 ⊢
 clear hwz
 go_loopw [11, 72] (fun v i wr => ∃ (k : Nat) (pre : List (Int × Int)), k ≤ more.length ∧ i = .int .i64 k ∧ Hid (pre = (more.take k).flatMap (ownW ns) ∧ OwnPt wz pre v wr)) (fun _ i _ => more.length - (intOf i).toNat)
 case atStart => exact ⟨0, [], Nat.zero_le _, rfl, O0⟩
 case round =>
  obtain ⟨k, pre, hk, rfl, hOO⟩ := hrel
  have hpre := h_ hOO.out.1
  have hO := h_ hOO.out.2
  clear hOO
  obtain ⟨_, Av, cv, rfl, hv1, hv2, _⟩ := SliceAt.of_owns hO.out.row
  unfold maxLen at hv2
  have hbnd : pre.length ≤ 70 := by have := ownW_len ns (more.take k); rw [← hpre.out, List.length_take] at this; omega
  by_cases hlt : k < more.length
  ·obtain ⟨x, hx⟩ : ∃ x, more[k]? = some x := ⟨_, List.getElem?_eq_getElem hlt⟩
   obtain ⟨xk, xp⟩ := x
   have St := S7.out.fresh hO.out.kept
   obtain ⟨eb, eo, hA1, heb, hx0, hx1⟩ := St.eM.at_.get hx
   have hki : (k : Int) < (more.length : Int) := by omega
   have hown := ownW_step (ns := ns) hx
   have hlo : Hid (∀ i v, [Value.int .i64 xk, .int .i64 xp][i]? = some v → wr.cell? ⟨eb, eo + k * 2 + i, none⟩ = some v) := h_ (fun i v hi => by
    match i, hi with
    | 0, hi => cases hi; exact hx0
    | 1, hi => cases hi; exact hx1)
   obtain ⟨xb, hxb⟩ : ∃ xb, wr.heap.size = xb := ⟨_, rfl⟩
   obtain ⟨wx, hwx⟩ : ∃ wx, (wr.alloc (.cells #[.int .i64 0, .int .i64 0] 41)).setRow xb #[.int .i64 xk, .int .i64 xp] = wx := ⟨_, rfl⟩
   have kx : Kept (fun _ => False) wr wx := by rw [← hwx]; exact ((Kept.refl _ _).alloc _).setRowNew (by omega) _
   have qx : wx.heap[xb]? = some (.cells #[.int .i64 xk, .int .i64 xp] 41 (0, 0)) := by rw [← hwx, ← hxb]; exact setRow_heap _ _ _ _ _ _ (heap_alloc_new _ _)
   have cx0 := cell_of_heap qx 0
   have cx1 := cell_of_heap qx 1
   simp at cx0 cx1
   have Ox := h_ (hO.out.fresh kx)
   have hxb' := h_ hxb
   have hwx' := h_ hwx
   subst hA1
   by_cases hin : 0 ≤ xk ∧ xk < 64 ∧ xp ≠ -1
   ·obtain ⟨h0, h1, h2⟩ := hin
    obtain ⟨q, hq⟩ : ∃ q, clampQ xp = q := ⟨_, rfl⟩
    have hq4 : q < ns.length := by rw [h4'.out, ← hq]; unfold clampQ; omega
    have hqc : max 0 (min xp 3) = (q : Int) := by rw [← hq]; unfold clampQ; omega
    obtain ⟨p, hp⟩ : ∃ p, ns[q]? = some p := ⟨_, List.getElem?_eq_getElem hq4⟩
    obtain ⟨pb, po, hAp, hpb, hcp0⟩ := PagesAt.get S7.out.pg hp
    have hcp := (hO.out.kept.trans kx).cell hcp0 id
    have hfin : Hid (pre ++ [(xk, (p : Int))] = (more.take (k + 1)).flatMap (ownW ns)) := h_ (by rw [hown, ownW_some h0 h1 h2 (by rw [hq]; exact hp), hpre.out])
    have hq3 : (q : Int) < 4 := by have := h4'.out; omega
    have e0 : decide (0 ≤ xk) = true := decide_eq_true h0
    have e1 : decide (xk < 64) = true := decide_eq_true h1
    have e2 : (xp != -1) = true := by simp [h2]
    have hbt : Hid (∀ w, (Instr.build 41 #[(0, .int .i64 xk), (1, .int .i64 (p : Int))]).run Try.prog w = .ok (.agg #[.int .i64 xk, .int .i64 (p : Int)]) w) := h_ (fun w => run_build_change w _ _)
    have hxn : Hid (wz.heap.size ≤ xb) := h_ (by have := hO.out.kept.size; omega)
    have hnx : Hid ((Value.slice Av pre.length cv).ownBlock ≠ some xb) := h_ (fun e => by have := (hO.out.row.lt _ e).2; omega)
    have hnp : Hid ((Value.slice Av pre.length cv).ownBlock ≠ some pb) := h_ (fun e => by have h1 := (hO.out.row.lt _ e).1; omega)
    subst hAp
    clear hx hx0 hx1 hO St hown kx qx hxb hwx heb hp hq hq4 hpb hcp0 h0 h1 h2
    go_wp2_with (first | (refine wpList_load_agg 41 rfl rfl rfl _ Try.underlying41 rfl [.int .i64 xk, .int .i64 xp] (by kernel_rfl) hlo.out ?_) | (refine wpList_alloc_as 41 rfl rfl #[.int .i64 0, .int .i64 0] (by kernel_rfl) ?_; rw [hxb'.out]) | (refine wpList_store_whole 41 rfl rfl rfl [.int .i64 xk, .int .i64 xp] rfl (by kernel_rfl) 41 #[.int .i64 0, .int .i64 0] (by rw [← hxb'.out]; exact heap_alloc_new _ _) rfl (by intro c hc; simp at hc; rcases hc with rfl | rfl <;> rfl) ?_; rw [hwx'.out]))
    refine wp_region_held_drew (S := fun W => W.cell? ⟨xb, 0, none⟩ = some (.int .i64 xk) ∧ W.cell? ⟨xb, 1, none⟩ = some (.int .i64 xp) ∧ W.cell? ⟨pb, po + q, none⟩ = some (.int .i64 (p : Int))) (by kernel_rfl) ⟨cx0, cx1, hcp⟩ (fun hH => ?_)
    refine wpAnyH_take (i := 0) (v := .slice Av pre.length cv) rfl (by kernel_rfl) (by kernel_rfl) (by kernel_rfl) (fun _ _ _ h => h) (Or.inl ⟨by rfl, fun W hW => by go_simp⟩) (by assumption) ?_
    simp only [Act.put, q1_, q2_, q3_, List.setIfInBounds_toArray, q5_, q6_]
    refine wpAnyH_take (i := 1) (v := .pointer (some ⟨xb, 0, none⟩)) rfl (by kernel_rfl) (by kernel_rfl) (by kernel_rfl) (fun _ _ _ h => h) (Or.inl ⟨by rfl, fun W hW => by go_simp⟩) (by assumption) ?_
    simp only [Act.put, q1_, q2_, q3_, List.setIfInBounds_toArray, q5_, q6_]
    refine wpAnyH_take (i := 2) (v := .int .i64 xk) rfl (by kernel_rfl) (by kernel_rfl) (by kernel_rfl) (fun _ _ _ h => h) (Or.inl ⟨by rfl, fun W hW => by have hc := hW.1; clear hW; go_simp⟩) (by assumption) ?_
    simp only [Act.put, q1_, q2_, q3_, List.setIfInBounds_toArray, q5_, q6_]
    refine wpAnyH_take (i := 3) (v := .slice (some ⟨pb, po, none⟩) 4 cp) rfl (by kernel_rfl) (by kernel_rfl) (by kernel_rfl) (fun _ _ _ h => h) (Or.inl ⟨by rfl, fun W hW => by go_simp⟩) (by assumption) ?_
    simp only [Act.put, q1_, q2_, q3_, List.setIfInBounds_toArray, q5_, q6_]
    refine wpAnyH_take (i := 4) (v := .pointer (some ⟨xb, 1, none⟩)) rfl (by kernel_rfl) (by kernel_rfl) (by kernel_rfl) (fun _ _ _ h => h) (Or.inl ⟨by rfl, fun W hW => by go_simp⟩) (by assumption) ?_
    simp only [Act.put, q1_, q2_, q3_, List.setIfInBounds_toArray, q5_, q6_]
    refine wpAnyH_take (i := 5) (v := .int .i64 xp) rfl (by kernel_rfl) (by kernel_rfl) (by kernel_rfl) (fun _ _ _ h => h) (Or.inl ⟨by rfl, fun W hW => by have hc := hW.2.1; clear hW; go_simp⟩) (by assumption) ?_
    simp only [Act.put, q1_, q2_, q3_, List.setIfInBounds_toArray, q5_, q6_]
    refine wpAnyH_take (i := 6) (v := .int .i64 (min xp 3)) rfl (by kernel_rfl) (by kernel_rfl) (by kernel_rfl) (fun _ _ _ h => h) (Or.inl ⟨by rfl, fun W hW => by go_simp⟩) (by assumption) ?_
    simp only [Act.put, q1_, q2_, q3_, List.setIfInBounds_toArray, q5_, q6_]
    refine wpAnyH_take (i := 7) (v := .int .i64 (q : Int)) rfl (by kernel_rfl) (by kernel_rfl) (by kernel_rfl) (fun _ _ _ h => h) (Or.inl ⟨by rfl, fun W hW => by go_simp⟩) (by assumption) ?_
    simp only [Act.put, q1_, q2_, q3_, List.setIfInBounds_toArray, q5_, q6_]
    refine wpAnyH_take (i := 8) (v := .pointer (some ⟨pb, po + q, none⟩)) rfl (by kernel_rfl) (by kernel_rfl) (by kernel_rfl) (fun _ _ _ h => h) (Or.inl ⟨by rfl, fun W hW => by go_simp⟩) (by assumption) ?_
    simp only [Act.put, q1_, q2_, q3_, List.setIfInBounds_toArray, q5_, q6_]
    refine wpAnyH_take (i := 9) (v := .int .i64 (p : Int)) rfl (by kernel_rfl) (by kernel_rfl) (by kernel_rfl) (fun _ _ _ h => h) (Or.inl ⟨by rfl, fun W hW => by have hc := hW.2.2; clear hW; go_simp⟩) (by assumption) ?_
    simp only [Act.put, q1_, q2_, q3_, List.setIfInBounds_toArray, q5_, q6_]
    refine wpAnyH_take (i := 10) (v := .agg #[.int .i64 xk, .int .i64 (p : Int)]) rfl (by kernel_rfl) (by kernel_rfl) (by kernel_rfl) (fun _ _ _ h => h) (Or.inl ⟨by rfl, fun W hW => exec_build 41 #[(0, .tmp 91), (1, .tmp 98)] _ rfl (by simp [Act.eval]) (hbt.out _)⟩) (by assumption) ?_
    simp only [Act.put, q1_, q2_, q3_, List.setIfInBounds_toArray, q5_, q6_]
    refine wpAnyH_ready (rs := [11]) (by kernel_rfl) (by simp) ?_
    refine AllReadyH.cons rfl (fun K hK => ?_) ?_
    ·rw [if_pos (by rfl)]
     simp only [Go.wp_at_zero, Go.wp_at_succ]
     go_simp
     have kN : Kept (fun _ => False) wx (wx.alloc (.cells #[.int .i64 xk, .int .i64 (p : Int)] 41)).drew := ((Kept.refl _ _).alloc _).drew
     have qN : (wx.alloc (.cells #[.int .i64 xk, .int .i64 (p : Int)] 41)).drew.heap[wx.heap.size]? = some (.cells #[.int .i64 xk, .int .i64 (p : Int)] 41 (0, 0)) := heap_alloc_new _ _
     have ON := h_ (Ox.out.fresh kN)
     refine hK.out _ _ ⟨kN.cell cx0 id, kN.cell cx1 id, kN.cell hcp id⟩ (fun hH6 => ?_)
     clear hK K
     try simp only [Act.put, q1_, q2_, q3_, List.setIfInBounds_toArray, q5_, q6_]
     obtain ⟨wN, hwN⟩ : ∃ wN, (wx.alloc (.cells #[.int .i64 xk, .int .i64 (p : Int)] 41)).drew = wN := ⟨_, rfl⟩
     rw [hwN] at kN qN ON hH6 ⊢
     refine wpAnyH_ready (rs := [12]) (by kernel_rfl) (by simp) ?_
     refine AllReadyH.cons rfl (fun K hK => ?_) ?_
     ·refine step_append_src rfl elemChange (.tmp 89) (.tmp 100) rfl (by rfl) (by rfl) ON.out.row (SliceAt.block_new (ys := [.int .i64 xk, .int .i64 (p : Int)]) (m := 1) qN (by rfl) (by decide)) (by intro c hc; simp at hc; rcases hc with rfl | rfl <;> rfl) (by omega) (by omega) ON.out.kept.size ?_
      intro v7 w7 hown7 hg7 hat7
      have fin : Hid (pre ++ [(xk, (p : Int))] = (more.take (k + 1)).flatMap (ownW ns) ∧ OwnPt wz (pre ++ [(xk, (p : Int))]) v7 w7) := h_ ⟨hfin.out, ON.out.more (Kept.refl _ _) (xk, (p : Int)) hown7 hg7⟩
      have k7 : Kept (fun j => (Value.slice Av pre.length cv).ownBlock = some j) wN w7 := Kept.of_grown hg7
      refine hK.out _ _ ⟨k7.cell (kN.cell cx0 id) (fun e => hnx.out e), k7.cell (kN.cell cx1 id) (fun e => hnx.out e), k7.cell (kN.cell hcp id) (fun e => hnp.out e)⟩ (fun hH7 => ?_)
      clear hK K
      try simp only [Act.put, q1_, q2_, q3_, List.setIfInBounds_toArray, q5_, q6_]
      refine wpAnyH_take (i := 13) (v := v7) rfl (by kernel_rfl) (by kernel_rfl) (by kernel_rfl) (fun _ _ _ h => h) (Or.inl ⟨by rfl, fun W hW => by go_simp⟩) (by assumption) ?_
      simp only [Act.put, q1_, q2_, q3_, List.setIfInBounds_toArray, q5_, q6_]
      refine wpAnyH_done (by kernel_rfl) ?_ _
      clear hH hH6 hH7 hown7 hg7 hat7 kN qN ON hwN k7
      go_wp2_with fail
      go_roundw
      case rel => exact ⟨k + 1, _, by omega, by go_num, fin⟩
      case measure => simp [intOf] <;> omega
     exact AllReadyH.nil
    exact AllReadyH.nil
   ·have hfin : Hid (pre = (more.take (k + 1)).flatMap (ownW ns)) := h_ (by rw [hown, ownW_skip hin, List.append_nil, hpre.out])
    have fin : Hid (pre = (more.take (k + 1)).flatMap (ownW ns) ∧ OwnPt wz pre (.slice Av pre.length cv) wx) := h_ ⟨hfin.out, Ox.out⟩
    clear hx hx0 hx1 hO St hown kx qx hxb hwx heb
    by_cases h0 : 0 ≤ xk
    ·have e0 : decide (0 ≤ xk) = true := decide_eq_true h0
     by_cases h1 : xk < 64
     ·have e1 : decide (xk < 64) = true := decide_eq_true h1
      have e2 : (xp != -1) = false := by have : xp = -1 := Classical.byContradiction fun h => hin ⟨h0, h1, h⟩; simp [this]
      clear h0 h1 hin
      go_wp2_with (first | (refine wpList_load_agg 41 rfl rfl rfl _ Try.underlying41 rfl [.int .i64 xk, .int .i64 xp] (by kernel_rfl) hlo.out ?_) | (refine wpList_alloc_as 41 rfl rfl #[.int .i64 0, .int .i64 0] (by kernel_rfl) ?_; rw [hxb'.out]) | (refine wpList_store_whole 41 rfl rfl rfl [.int .i64 xk, .int .i64 xp] rfl (by kernel_rfl) 41 #[.int .i64 0, .int .i64 0] (by rw [← hxb'.out]; exact heap_alloc_new _ _) rfl (by intro c hc; simp at hc; rcases hc with rfl | rfl <;> rfl) ?_; rw [hwx'.out]))
      go_roundw
      case rel => exact ⟨k + 1, _, by omega, by go_num, fin⟩
      case measure => simp [intOf] <;> omega
     ·have e1 : decide (xk < 64) = false := decide_eq_false h1
      clear h0 h1 hin
      go_wp2_with (first | (refine wpList_load_agg 41 rfl rfl rfl _ Try.underlying41 rfl [.int .i64 xk, .int .i64 xp] (by kernel_rfl) hlo.out ?_) | (refine wpList_alloc_as 41 rfl rfl #[.int .i64 0, .int .i64 0] (by kernel_rfl) ?_; rw [hxb'.out]) | (refine wpList_store_whole 41 rfl rfl rfl [.int .i64 xk, .int .i64 xp] rfl (by kernel_rfl) 41 #[.int .i64 0, .int .i64 0] (by rw [← hxb'.out]; exact heap_alloc_new _ _) rfl (by intro c hc; simp at hc; rcases hc with rfl | rfl <;> rfl) ?_; rw [hwx'.out]))
      go_roundw
      case rel => exact ⟨k + 1, _, by omega, by go_num, fin⟩
      case measure => simp [intOf] <;> omega
    ·have e0 : decide (0 ≤ xk) = false := decide_eq_false h0
     clear h0 hin
     go_wp2_with (first | (refine wpList_load_agg 41 rfl rfl rfl _ Try.underlying41 rfl [.int .i64 xk, .int .i64 xp] (by kernel_rfl) hlo.out ?_) | (refine wpList_alloc_as 41 rfl rfl #[.int .i64 0, .int .i64 0] (by kernel_rfl) ?_; rw [hxb'.out]) | (refine wpList_store_whole 41 rfl rfl rfl [.int .i64 xk, .int .i64 xp] rfl (by kernel_rfl) 41 #[.int .i64 0, .int .i64 0] (by rw [← hxb'.out]; exact heap_alloc_new _ _) rfl (by intro c hc; simp at hc; rcases hc with rfl | rfl <;> rfl) ?_; rw [hwx'.out]))
     go_roundw
     case rel => exact ⟨k + 1, _, by omega, by go_num, fin⟩
     case measure => simp [intOf] <;> omega
  ·obtain rfl : k = more.length := by omega
   have hki : decide ((more.length : Int) < (more.length : Int)) = false := decide_eq_false (by omega)
   have hrow := hO.out.row
   have hkp := hO.out.kept
   have hpe := hpre.out
   rw [List.take_length] at hpe
   have hns : ns ≠ [] := fun e => by have := h4'.out; rw [e] at this; cases this
   have S8 := h_ (S7.out.fresh hkp)
   have EC : Hid (EntsAt wr (.slice Av pre.length cv) pre) := h_ (SliceAt.of_owns hrow)
   have hgo : Hid (∀ x ∈ pre, 0 ≤ x.1 ∧ x.1 < 64) := h_ (by rw [hpe]; exact fun x hx => ⟨(ownW_good h4'.out more x hx).1, (ownW_good h4'.out more x hx).2.1⟩)
   have hec : Hid (pre.foldl chgL lc0 = lc) := h_ (by rw [hpe]; exact WO'.out.ec)
   obtain ⟨AB, BC, AC, CA, hAB, hBC, hAC, hCA, WE⟩ := way_end WO'.out.a WO'.out.b WO'.out.c
   have WE := h_ WE
   have hAB := h_ hAB
   have hBC := h_ hBC
   have hAC := h_ hAC
   have hCA := h_ hCA
   have lct := WO'.out.lenc
   have lat := WO'.out.lena
   have lbt := WO'.out.lenb
   have cc1 := cell_of_heap S8.out.ct 1
   simp at cc1
   have CR := h_ (ref12Apply S8.out.eB.at_ EC.out ⟨WO'.out.b.rises, WO'.out.b.keys⟩ (by omega) hgo.out)
   clear hO hkp hrow hpre hpe
   go_wp2_with fail
   refine CR.out.mono ?_
   rintro e w9 ⟨u, rfl, R⟩
   have hE := R.ents
   rw [List.take_length, hec.out] at hE
   obtain ⟨Au, cu, rfl, hu1, hu2⟩ := hE.form
   unfold maxLen at hu2
   have S9 := h_ (S8.out.fresh R.kept)
   have ET : Hid (EntsOff w9 A6 (.slice Au lc.length cu) lc) := h_ ⟨hE, fun hne b hb => by
    obtain ⟨b', e1, e2⟩ := SliceAt.block hE (by have := List.length_pos_iff.2 hne; omega)
    rw [hb] at e1
    cases e1
    refine ⟨e2, fun e => ?_⟩
    rcases R.own with h | h
    ·have hl : lc.length = lc0.length := by injection h
     have hne0 : lc0 ≠ [] := fun e0 => by rw [e0] at hl; exact hne (List.eq_nil_of_length_eq_zero hl)
     rw [h] at hb
     exact (S8.out.eB.off hne0 b hb).2 e
    ·have h1 := h b hb
     have h2 := S8.out.st.own.store.lt (.inl e)
     omega⟩
   have hldb := h_ (show ∀ j v, [Value.pointer (some ⟨sb, 0, none⟩)][j]? = some v → w9.cell? ⟨db, 0 + j, none⟩ = some v from S9.out.st.load)
   have CB := treeBuild S9.out.st.own.store ET.out (by omega) (by have := WO'.out.g2; omega)
   rw [WO'.out.h2, S9.out.st.eq] at CB
   have CB' : Hid (Calls Try.prog 9 #[.agg #[.pointer (some ⟨sb, 0, none⟩)], .slice Au lc.length cu] w9 fun e w' => ∃ A', e = .returned (.tuple #[.int .i64 rc, .int .i64 0]) ∧ StoreTo A6 A' M3 w9 w') := h_ CB
   clear CB R hE CR EC cc1
   go_wp2_with (first | (refine wpList_load_agg 27 rfl rfl rfl _ Try.underlying27 rfl [.pointer (some ⟨sb, 0, none⟩)] (by kernel_rfl) hldb.out ?_))
   refine CB'.out.mono ?_
   rintro e w10 ⟨A10, rfl, hT10⟩
   have S10 := h_ (S9.out.to hns hT10)
   have T10 := h_ (ET.out.to hT10)
   clear hT10 hldb
   have hld := h_ S10.out.st.load
   have CC := diffChanges S10.out.st.own.store WO'.out.a3 WO'.out.b3
   rw [hAB.out, S10.out.st.eq] at CC
   have CC' : Hid (Calls Try.prog 10 #[.agg #[.pointer (some ⟨sb, 0, none⟩)], .int .i64 r0, .int .i64 r1] w10 fun e w' => ∃ v, e = .returned (.tuple #[v, .int .i64 0]) ∧ w'.ownsRow w10.heap.size 41 2 v AB.length (entCells AB) ∧ Kept (fun _ => False) w10 w') := h_ CC
   have cr0 := cell_of_heap S10.out.cr 0
   have cr1 := cell_of_heap S10.out.cr 1
   simp at cr0 cr1
   clear CC
   go_wp2_with (first | (refine wpList_load_agg 31 rfl rfl rfl _ Try.underlying31 rfl [.pointer (some ⟨sb, 0, none⟩)] (by kernel_rfl) hld.out ?_))
   refine CC'.out.mono ?_
   rintro e y1 ⟨v1, rfl, hrow1, ky1⟩
   obtain ⟨_, B1, d1, rfl, hB1, hD1, _⟩ := SliceAt.of_owns hrow1
   unfold maxLen at hD1
   have E1 : Hid (EntsAt y1 (.slice B1 AB.length d1) AB) := h_ (SliceAt.of_owns hrow1)
   have S11 := h_ (S10.out.fresh ky1)
   have T11 := h_ (T10.out.fresh ky1)
   clear hrow1 ky1 cr0 cr1
   have hld := h_ S11.out.st.load
   have CC := diffChanges S11.out.st.own.store WO'.out.b3 WO'.out.c3
   rw [hBC.out, S11.out.st.eq] at CC
   have CC' : Hid (Calls Try.prog 10 #[.agg #[.pointer (some ⟨sb, 0, none⟩)], .int .i64 r1, .int .i64 rc] y1 fun e w' => ∃ v, e = .returned (.tuple #[v, .int .i64 0]) ∧ w'.ownsRow y1.heap.size 41 2 v BC.length (entCells BC) ∧ Kept (fun _ => False) y1 w') := h_ CC
   have cr0 := cell_of_heap S11.out.cr 0
   have cr1 := cell_of_heap S11.out.cr 1
   simp at cr0 cr1
   clear CC
   go_wp2_with (first | (refine wpList_load_agg 31 rfl rfl rfl _ Try.underlying31 rfl [.pointer (some ⟨sb, 0, none⟩)] (by kernel_rfl) hld.out ?_))
   refine CC'.out.mono ?_
   rintro e y2 ⟨v2, rfl, hrow2, ky2⟩
   obtain ⟨_, B2, d2, rfl, hB2, hD2, _⟩ := SliceAt.of_owns hrow2
   unfold maxLen at hD2
   have E2 : Hid (EntsAt y2 (.slice B2 BC.length d2) BC) := h_ (SliceAt.of_owns hrow2)
   have S12 := h_ (S11.out.fresh ky2)
   have T12 := h_ (T11.out.fresh ky2)
   have E12 : Hid (EntsAt y2 (.slice B1 AB.length d1) AB) := h_ (SliceAt.fresh E1.out ky2)
   clear hrow2 ky2 cr0 cr1
   have hld := h_ S12.out.st.load
   have CC := diffChanges S12.out.st.own.store WO'.out.a3 WO'.out.c3
   rw [hAC.out, S12.out.st.eq] at CC
   have CC' : Hid (Calls Try.prog 10 #[.agg #[.pointer (some ⟨sb, 0, none⟩)], .int .i64 r0, .int .i64 rc] y2 fun e w' => ∃ v, e = .returned (.tuple #[v, .int .i64 0]) ∧ w'.ownsRow y2.heap.size 41 2 v AC.length (entCells AC) ∧ Kept (fun _ => False) y2 w') := h_ CC
   have cr0 := cell_of_heap S12.out.cr 0
   have cr1 := cell_of_heap S12.out.cr 1
   simp at cr0 cr1
   clear CC
   go_wp2_with (first | (refine wpList_load_agg 31 rfl rfl rfl _ Try.underlying31 rfl [.pointer (some ⟨sb, 0, none⟩)] (by kernel_rfl) hld.out ?_))
   refine CC'.out.mono ?_
   rintro e y3 ⟨v3, rfl, hrow3, ky3⟩
   obtain ⟨_, B3, d3, rfl, hB3, hD3, _⟩ := SliceAt.of_owns hrow3
   unfold maxLen at hD3
   have E3 : Hid (EntsAt y3 (.slice B3 AC.length d3) AC) := h_ (SliceAt.of_owns hrow3)
   have S13 := h_ (S12.out.fresh ky3)
   have T13 := h_ (T12.out.fresh ky3)
   have E13 : Hid (EntsAt y3 (.slice B1 AB.length d1) AB) := h_ (SliceAt.fresh E12.out ky3)
   have E23 : Hid (EntsAt y3 (.slice B2 BC.length d2) BC) := h_ (SliceAt.fresh E2.out ky3)
   clear hrow3 ky3 cr0 cr1
   have hld := h_ S13.out.st.load
   have CC := diffChanges S13.out.st.own.store WO'.out.c3 WO'.out.a3
   rw [hCA.out, S13.out.st.eq] at CC
   have CC' : Hid (Calls Try.prog 10 #[.agg #[.pointer (some ⟨sb, 0, none⟩)], .int .i64 rc, .int .i64 r0] y3 fun e w' => ∃ v, e = .returned (.tuple #[v, .int .i64 0]) ∧ w'.ownsRow y3.heap.size 41 2 v CA.length (entCells CA) ∧ Kept (fun _ => False) y3 w') := h_ CC
   have cr0 := cell_of_heap S13.out.cr 0
   have cr1 := cell_of_heap S13.out.cr 1
   simp at cr0 cr1
   clear CC
   go_wp2_with (first | (refine wpList_load_agg 31 rfl rfl rfl _ Try.underlying31 rfl [.pointer (some ⟨sb, 0, none⟩)] (by kernel_rfl) hld.out ?_))
   refine CC'.out.mono ?_
   rintro e y4 ⟨v4, rfl, hrow4, ky4⟩
   obtain ⟨_, B4, d4, rfl, hB4, hD4, _⟩ := SliceAt.of_owns hrow4
   unfold maxLen at hD4
   have E4 : Hid (EntsAt y4 (.slice B4 CA.length d4) CA) := h_ (SliceAt.of_owns hrow4)
   have S14 := h_ (S13.out.fresh ky4)
   have T14 := h_ (T13.out.fresh ky4)
   have E14 : Hid (EntsAt y4 (.slice B1 AB.length d1) AB) := h_ (SliceAt.fresh E13.out ky4)
   have E24 : Hid (EntsAt y4 (.slice B2 BC.length d2) BC) := h_ (SliceAt.fresh E23.out ky4)
   have E34 : Hid (EntsAt y4 (.slice B3 AC.length d3) AC) := h_ (SliceAt.fresh E3.out ky4)
   clear hrow4 ky4 cr0 cr1
   have n1 : ((AC.length : Int) != (CA.length : Int)) = false := by rw [WE.out.l1]; simp
   have n2 : decide ((AB.length : Int) + (BC.length : Int) < (AC.length : Int)) = false := decide_eq_false (by have := WE.out.l2; omega)
   have lab := WE.out.ab
   have lbc := WE.out.bc
   have lac := WE.out.ac
   have lca := WE.out.ca
   have n3 : IntKind.i64.wrap ((AB.length : Int) + (BC.length : Int)) = (AB.length : Int) + (BC.length : Int) := by rw [IntKind.wrap_i64]; omega
   have c0 : y4.cell? ⟨lb, 0, none⟩ = some (.slice AL la.length cL) := by rw [cell_of_heap S14.out.ct]; rfl
   go_wp2_with fail
   refine wp_region_held_drew (S := fun W => W.cell? ⟨lb, 0, none⟩ = some (.slice AL la.length cL)) (by kernel_rfl) c0 (fun hH => ?_)
   refine wpAnyH_take (i := 0) (v := .pointer (some ⟨lb, 0, none⟩)) rfl (by kernel_rfl) (by kernel_rfl) (by kernel_rfl) (fun _ _ _ h => h) (Or.inl ⟨by rfl, fun W hW => by go_simp⟩) (by assumption) ?_
   simp only [Act.put, q1_, q2_, q3_, List.setIfInBounds_toArray, q5_, q6_]
   refine wpAnyH_take (i := 1) (v := .slice AL la.length cL) rfl (by kernel_rfl) (by kernel_rfl) (by kernel_rfl) (fun _ _ _ h => h) (Or.inl ⟨by rfl, fun W hW => by have hc := hW; clear hW; go_simp⟩) (by assumption) ?_
   simp only [Act.put, q1_, q2_, q3_, List.setIfInBounds_toArray, q5_, q6_]
   refine wpAnyH_take (i := 3) (v := .slice B1 AB.length d1) rfl (by kernel_rfl) (by kernel_rfl) (by kernel_rfl) (fun _ _ _ h => h) (Or.inl ⟨by rfl, fun W hW => by go_simp⟩) (by assumption) ?_
   simp only [Act.put, q1_, q2_, q3_, List.setIfInBounds_toArray, q5_, q6_]
   refine wpAnyH_take (i := 5) (v := .slice B2 BC.length d2) rfl (by kernel_rfl) (by kernel_rfl) (by kernel_rfl) (fun _ _ _ h => h) (Or.inl ⟨by rfl, fun W hW => by go_simp⟩) (by assumption) ?_
   simp only [Act.put, q1_, q2_, q3_, List.setIfInBounds_toArray, q5_, q6_]
   refine wpAnyH_ready (rs := [2]) (by kernel_rfl) (by simp) ?_
   refine AllReadyH.cons rfl (fun K hK => ?_) ?_
   ·rw [if_pos (by rfl)]
    simp only [Go.wp_at_zero, Go.wp_at_succ]
    go_simp
    have k6 : Kept (fun _ => False) y4 (y4.alloc (.cells #[] 41)).drew := ((Kept.refl _ _).alloc _).drew
    have own6 := ownsRow.keptOf (owns_empty y4 y4.heap.size y4.heap.size 41 2 (Nat.le_refl _) rfl) ((Kept.refl (fun _ => False) (y4.alloc (.cells #[] 41))).drew) (fun _ _ => id)
    refine hK.out _ _ (k6.cell c0 id) (fun hH6 => ?_)
    clear hK K
    try simp only [Act.put, q1_, q2_, q3_, List.setIfInBounds_toArray, q5_, q6_]
    obtain ⟨y6, hy6⟩ : ∃ y6, (y4.alloc (.cells #[] 41)).drew = y6 := ⟨_, rfl⟩
    rw [hy6] at k6 own6 hH6 ⊢
    refine wpAnyH_ready (rs := [4]) (by kernel_rfl) (by simp) ?_
    refine AllReadyH.cons rfl (fun K hK => ?_) ?_
    ·refine step_append_src rfl elemChange (.tmp 189) (.tmp 190) rfl (by rfl) (by rfl) own6 (SliceAt.fresh E14.out k6) (entCells_one _) (by omega) (by omega) k6.size ?_
     intro v7 y7 own7 hg7 hat7
     have k7 : Kept (fun _ => False) y4 y7 := k6.grown hg7 (fun j e => .inr (own6.lt j e).1)
     refine hK.out _ _ (k7.cell c0 id) (fun hH7 => ?_)
     clear hK K
     try simp only [Act.put, q1_, q2_, q3_, List.setIfInBounds_toArray, q5_, q6_]
     refine wpAnyH_ready (rs := [6]) (by kernel_rfl) (by simp) ?_
     refine AllReadyH.cons rfl (fun K hK => ?_) ?_
     ·refine step_append_src rfl elemChange (.tmp 191) (.tmp 192) rfl (by rfl) (by rfl) own7 (SliceAt.fresh E24.out k7) (entCells_one _) (by omega) (by omega) k7.size ?_
      intro v8 y8 own8 hg8 hat8
      have k8 : Kept (fun _ => False) y4 y8 := k7.grown hg8 (fun j e => .inr (own7.lt j e).1)
      refine hK.out _ _ (k8.cell c0 id) (fun hH8 => ?_)
      clear hK K
      try simp only [Act.put, q1_, q2_, q3_, List.setIfInBounds_toArray, q5_, q6_]
      obtain ⟨ABC, hABC⟩ : ∃ z, AB ++ BC = z := ⟨_, rfl⟩
      have hlen : AB.length + BC.length = ABC.length := by rw [← hABC, List.length_append]
      have E8 : EntsAt y8 v8 ABC := by
       have h1 := SliceAt.of_owns own8
       rw [Nat.zero_add, hlen, List.nil_append, ← entCells_append, hABC] at h1
       exact h1
      have f1 := WE.out.f1
      have kabc : ∀ x ∈ ABC, 0 ≤ x.1 ∧ x.1 < 64 := fun x hx => by
       rw [← hABC] at hx
       rcases List.mem_append.1 hx with h | h
       ·exact WE.out.kab x h
       ·exact WE.out.kbc x h
      rw [hABC] at f1
      obtain ⟨A8, c8, rfl, _⟩ := E8.form
      have S15 := h_ (S14.out.fresh k8)
      have T15 := h_ (T14.out.fresh k8)
      have G3 : Hid (EntsAt y8 (.slice B3 AC.length d3) AC) := h_ (SliceAt.fresh E34.out k8)
      have G4 : Hid (EntsAt y8 (.slice B4 CA.length d4) CA) := h_ (SliceAt.fresh E4.out k8)
      have CR := h_ (ref12Apply S15.out.eA.at_ E8 ⟨WO'.out.a.rises, WO'.out.a.keys⟩ (by omega) kabc)
      have f1' := h_ f1
      have hc8 := k8.cell c0 id
      clear own6 own7 own8 hg7 hg8 hat7 hat8 hH6 hH7 k6 k7 E8 hABC kabc f1 hy6
      refine wpAnyH_ready (rs := [7]) (by kernel_rfl) (by simp) ?_
      refine AllReadyH.cons rfl (fun K hK => ?_) ?_
      ·rw [if_pos (by rfl)]
       simp only [Go.wp_at_zero, Go.wp_at_succ]
       go_simp
       refine CR.out.mono ?_
       rintro e y9 ⟨u5, rfl, R⟩
       have hE := R.ents
       rw [List.take_length, f1'.out] at hE
       obtain ⟨U5, q5, rfl, hu5, hv5⟩ := hE.form
       unfold maxLen at hv5
       have F5 : Hid (EntsAt y9 (.slice U5 lc.length q5) lc) := h_ hE
       have S16 := h_ (S15.out.fresh R.kept)
       have T16 := h_ (T15.out.fresh R.kept)
       have H3 : Hid (EntsAt y9 (.slice B3 AC.length d3) AC) := h_ (SliceAt.fresh G3.out R.kept)
       have H4 : Hid (EntsAt y9 (.slice B4 CA.length d4) CA) := h_ (SliceAt.fresh G4.out R.kept)
       clear hE R CR
       have c00 : y9.cell? ⟨lb, 0, none⟩ = some (.slice AL la.length cL) := by rw [cell_of_heap S16.out.ct]; rfl
       refine hK.out _ _ c00 (fun hH9 => ?_)
       clear hK K
       try simp only [Act.put, q1_, q2_, q3_, List.setIfInBounds_toArray, q5_, q6_]
       refine wpAnyH_take (i := 8) (v := .tuple #[.slice U5 lc.length q5, .int .i64 0]) rfl (by kernel_rfl) (by kernel_rfl) (by kernel_rfl) (fun _ _ _ h => h) (Or.inl ⟨by rfl, fun W hW => by go_simp⟩) (by assumption) ?_
       simp only [Act.put, q1_, q2_, q3_, List.setIfInBounds_toArray, q5_, q6_]
       refine wpAnyH_take (i := 9) (v := .slice U5 lc.length q5) rfl (by kernel_rfl) (by kernel_rfl) (by kernel_rfl) (fun _ _ _ h => h) (Or.inl ⟨by rfl, fun W hW => by go_simp⟩) (by assumption) ?_
       simp only [Act.put, q1_, q2_, q3_, List.setIfInBounds_toArray, q5_, q6_]
       refine wpAnyH_take (i := 10) (v := .int .i64 0) rfl (by kernel_rfl) (by kernel_rfl) (by kernel_rfl) (fun _ _ _ h => h) (Or.inl ⟨by rfl, fun W hW => by go_simp⟩) (by assumption) ?_
       simp only [Act.put, q1_, q2_, q3_, List.setIfInBounds_toArray, q5_, q6_]
       refine wpAnyH_take (i := 11) (v := .slice U5 lc.length q5) rfl (by kernel_rfl) (by kernel_rfl) (by kernel_rfl) (fun _ _ _ h => h) (Or.inl ⟨by rfl, fun W hW => by go_simp⟩) (by assumption) ?_
       simp only [Act.put, q1_, q2_, q3_, List.setIfInBounds_toArray, q5_, q6_]
       refine wpAnyH_take (i := 12) (v := .int .i64 0) rfl (by kernel_rfl) (by kernel_rfl) (by kernel_rfl) (fun _ _ _ h => h) (Or.inl ⟨by rfl, fun W hW => by go_simp⟩) (by assumption) ?_
       simp only [Act.put, q1_, q2_, q3_, List.setIfInBounds_toArray, q5_, q6_]
       refine wpAnyH_done (by kernel_rfl) ?_ _
       clear hH hH8 hH9 k8 hc8
       have CR := h_ (ref12Apply S16.out.eA.at_ H3.out ⟨WO'.out.a.rises, WO'.out.a.keys⟩ (by omega) WE.out.kac)
       have f2' := h_ WE.out.f2
       have f3' := h_ WE.out.f3
       go_wp2_with fail
       refine CR.out.mono ?_
       rintro e y10 ⟨u6, rfl, R⟩
       have hE := R.ents
       rw [List.take_length, f2'.out] at hE
       obtain ⟨U6, q6, rfl, hu6, hv6⟩ := hE.form
       unfold maxLen at hv6
       have F6 : Hid (EntsAt y10 (.slice U6 lc.length q6) lc) := h_ hE
       have S17 := h_ (S16.out.fresh R.kept)
       have T17 := h_ (T16.out.fresh R.kept)
       have F57 : Hid (EntsAt y10 (.slice U5 lc.length q5) lc) := h_ (SliceAt.fresh F5.out R.kept)
       have K4 : Hid (EntsAt y10 (.slice B4 CA.length d4) CA) := h_ (SliceAt.fresh H4.out R.kept)
       clear hE R CR
       have CR := h_ (ref12Apply T17.out.at_ K4.out ⟨WO'.out.c.rises, WO'.out.c.keys⟩ (by omega) WE.out.kca)
       go_wp2_with fail
       refine CR.out.mono ?_
       rintro e y11 ⟨u7, rfl, R⟩
       have hE := R.ents
       rw [List.take_length, f3'.out] at hE
       obtain ⟨U7, q7, rfl, hu7, hv7⟩ := hE.form
       unfold maxLen at hv7
       have F7 : Hid (EntsAt y11 (.slice U7 la.length q7) la) := h_ hE
       have S18 := h_ (S17.out.fresh R.kept)
       have T18 := h_ (T17.out.fresh R.kept)
       have F58 : Hid (EntsAt y11 (.slice U5 lc.length q5) lc) := h_ (SliceAt.fresh F57.out R.kept)
       have F68 : Hid (EntsAt y11 (.slice U6 lc.length q6) lc) := h_ (SliceAt.fresh F6.out R.kept)
       clear hE R CR
       have CS := same10 (a := lc) (b := lc) F58.out T18.out.at_ (by omega)
       rw [decide_eq_true rfl] at CS
       have CS' := h_ CS
       clear CS c00
       go_wp2_with fail
       refine CS'.out.mono ?_
       rintro e y12 ⟨rfl, k12⟩
       have CS := same10 (a := lc) (b := lc) (SliceAt.fresh F68.out k12) (SliceAt.fresh T18.out.at_ k12) (by omega)
       rw [decide_eq_true rfl] at CS
       have CS2 := h_ CS
       have S19 := h_ (S18.out.fresh k12)
       have F7a : Hid (EntsAt y12 (.slice U7 la.length q7) la) := h_ (SliceAt.fresh F7.out k12)
       clear CS k12
       go_wp2_with fail
       refine CS2.out.mono ?_
       rintro e y13 ⟨rfl, k13⟩
       have S20 := h_ (S19.out.fresh k13)
       have c01 : y13.cell? ⟨lb, 0, none⟩ = some (.slice AL la.length cL) := by rw [cell_of_heap S20.out.ct]; rfl
       have CS := same10 (a := la) (b := la) (SliceAt.fresh F7a.out k13) S20.out.eA.at_ (by omega)
       rw [decide_eq_true rfl] at CS
       have CS3 := h_ CS
       clear CS k13
       go_wp2_with fail
       refine CS3.out.mono ?_
       rintro e y14 ⟨rfl, k14⟩
       have fin := h_ (S20.out.st.own.kept.trans k14)
       clear k14
       go_wp2_with fail
       go_ret
       exact ⟨rfl, fin.out⟩
      exact AllReadyH.nil
     exact AllReadyH.nil
    exact AllReadyH.nil
   exact AllReadyH.nil
end Go.Proofs.Ytdcnogjbmdhgaaa
