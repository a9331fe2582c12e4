/-
 Layer 17: DeltaApplies' walk.
-/
import Derived.Test.YtidlchciehdefaaGreatK41
set_option linter.unusedVariables false
set_option linter.unusedSimpArgs false
namespace Go.Proofs.YtidlchciehdefaaGreat
open Go.RowKit
set_option maxRecDepth 100000

theorem any_not {l : List ItemM} (h : l.all rightB = false) : l.any (fun x => !rightB x) = true := by
 rw [List.all_eq_false] at h
 rw [List.any_eq_true]
 obtain ⟨x, hx, e⟩ := h
 exact ⟨x, hx, by simpa using e⟩
set_option maxHeartbeats 16000000 in
theorem appliesWalk {w : World} (pages : Int) (v0 : Value) (l0 : List ItemM) (hv0 : ItemsAt w v0 l0) (hok0 : ∀ x ∈ l0, x.ok) (v1 : Value) (l1 : List ItemM) (hv1 : ItemsAt w v1 l1) (hok1 : ∀ x ∈ l1, x.ok) :
  Calls Tryz.prog 10 #[.int .i64 pages, v0, v1] w fun e w' => e = .returned (.bool true) ∧ Kept (fun _ => False) w w' := by
 obtain ⟨_, A0, c0, rfl, hc1, hc2, _⟩ := id hv0
 obtain ⟨_, A1, c1, rfl, hd1, hd2, _⟩ := id hv1
 unfold maxLen at hc2 hd2
 have hAll0' := h_ (fun W (hK : Kept (fun _ => False) w W) => ref17All (SliceAt.fresh hv0 hK) hok0)
 have hAll1' := h_ (fun W (hK : Kept (fun _ => False) w W) => ref17All (SliceAt.fresh hv1 hK) hok1)
 have hv0' := h_ hv0
 have hv1' := h_ hv1
 have hok0' := h_ hok0
 have hok1' := h_ hok1
 clear hv0 hv1 hok0 hok1
 by_cases hp0 : pages < 8
 ·have d0 : decide (pages < 8) = true := decide_eq_true hp0
  go_enter Tryz.func10, Tryz.ntmps10
  go_wp2_with fail
  refine (deltaAlive _).mono ?_
  rintro e w1 ⟨rfl, k1⟩
  have K1 := h_ k1
  clear k1
  go_wp2_with fail
  go_ret
  exact ⟨rfl, K1.out⟩
 have d0 : decide (pages < 8) = false := decide_eq_false hp0
 by_cases hp1 : 244 < pages
 ·have d1 : decide ((244 : Int) < pages) = true := decide_eq_true hp1
  go_enter Tryz.func10, Tryz.ntmps10
  go_wp2_with fail
  refine (deltaAlive _).mono ?_
  rintro e w1 ⟨rfl, k1⟩
  have K1 := h_ k1
  clear k1
  go_wp2_with fail
  go_ret
  exact ⟨rfl, K1.out⟩
 have d1 : decide ((244 : Int) < pages) = false := decide_eq_false hp1
 by_cases hb0 : 80 < l0.length
 ·have d2 : decide ((80 : Int) < (l0.length : Int)) = true := decide_eq_true (by omega)
  go_enter Tryz.func10, Tryz.ntmps10
  go_wp2_with fail
  refine (deltaAlive _).mono ?_
  rintro e w1 ⟨rfl, k1⟩
  have K1 := h_ k1
  clear k1
  go_wp2_with fail
  go_ret
  exact ⟨rfl, K1.out⟩
 have d2 : decide ((80 : Int) < (l0.length : Int)) = false := decide_eq_false (by omega)
 by_cases hb1 : 80 < l1.length
 ·have d3 : decide ((80 : Int) < (l1.length : Int)) = true := decide_eq_true (by omega)
  go_enter Tryz.func10, Tryz.ntmps10
  go_wp2_with fail
  refine (deltaAlive _).mono ?_
  rintro e w1 ⟨rfl, k1⟩
  have K1 := h_ k1
  clear k1
  go_wp2_with fail
  go_ret
  exact ⟨rfl, K1.out⟩
 have d3 : decide ((80 : Int) < (l1.length : Int)) = false := decide_eq_false (by omega)
 have hl0 : l0.length ≤ 80 := by omega
 have hl1 : l1.length ≤ 80 := by omega
 have hm := fun w => made17 pages (by omega) (by omega) w
 obtain ⟨s, hs⟩ : ∃ s, (min pages 244 - 4).toNat = s := ⟨_, rfl⟩
 rw [hs] at hm
 have hm' := h_ hm
 have hs1 : s ≤ 240 := by omega
 have hs2 : pages = 244 → s = 240 := fun e => by omega
 obtain ⟨I, hI⟩ : ∃ I, (imgCells fun _ => zeros16) = I := ⟨_, rfl⟩
 have hIl : Hid (I.length = 1024) := h_ (by rw [← hI]; exact imgCells_len Bytes.zero)
 have hI1 : Hid (∀ v ∈ I, v.oneCell' = true) := h_ (by rw [← hI]; exact byteCells_one _)
 have hbi : Hid (∀ w, (Instr.build 37 #[]).run Tryz.prog w = .ok (.agg I.toArray) w) := h_ (fun w => by rw [← hI, zero_cells]; exact run_build_img w)
 have hIz : Hid ((Tryz.prog.info? 37).map (·.zero) = some (some (.agg I.toArray))) := h_ (by rw [← hI, zero_cells]; exact img_zero)
 have hI' := h_ hI
 have hbp : Hid (∀ w, (Instr.build 68 #[(0, .slice A0 l0.length c0), (1, .slice A1 l1.length c1)]).run Tryz.prog w = .ok (.agg #[.slice A0 l0.length c0, .slice A1 l1.length c1]) w) := h_ (fun w => run_build_parts w _ _ ⟨_, _, _, rfl⟩ ⟨_, _, _, rfl⟩)
 clear hm hI hs
 go_enter Tryz.func10, Tryz.ntmps10
 go_wp2_with fail
 refine (deltaAlive _).mono ?_
 rintro e w1 ⟨rfl, k1⟩
 have K1 := h_ k1
 clear k1
 go_wp2_with fail
 refine (hm'.out _).mono ?_
 rintro e w2 ⟨A, rfl, hA, hk, hn⟩
 obtain ⟨vb, hvb⟩ : ∃ vb, w2.heap.size = vb := ⟨_, rfl⟩
 have hO := ImVar.made (b := vb) ⟨hA, K1.out.trans hk, fun j hj => Nat.le_trans K1.out.size (hn j hj)⟩ hvb
 obtain ⟨w3, hw3⟩ : ∃ w3, (w2.alloc (.cells #[.pointer none] 32)).setRow vb #[.pointer (some ⟨A.sb, 0, none⟩)] = w3 := ⟨_, rfl⟩
 rw [hw3] at hO
 obtain ⟨hO2, hV2⟩ := hO
 obtain ⟨sb, hsb⟩ : ∃ sb, A.sb = sb := ⟨_, rfl⟩
 rw [hsb] at hw3 hV2 ⊢
 obtain ⟨wB, hwB⟩ : ∃ wB, w3.heap.size = wB := ⟨_, rfl⟩
 obtain ⟨w4, hw4⟩ : ∃ w4, (w3.alloc (.cells I.toArray 37)).setRow wB I.toArray = w4 := ⟨_, rfl⟩
 have k4 : Kept (fun _ => False) w3 w4 := by rw [← hw4]; exact ((Kept.refl _ _).alloc _).setRowNew (by omega) _
 have q4 : w4.heap[wB]? = some (.cells (imgCells IM.none.w).toArray 37 (0, 0)) := by rw [show imgCells IM.none.w = I from hI'.out, ← hw4, ← hwB]; exact setRow_heap _ _ _ _ _ _ (heap_alloc_new _ _)
 have I0 : Hid (DaInv w vb sb wB s 0 (-1) w4) := h_ ⟨A, newM s, .none, 0, ⟨hO2.fresh k4, hV2.fresh k4, ⟨q4, Apart.new hO2.store (by omega) (lt_of_heap q4)⟩⟩, DelP.fresh s hs1, rfl, rfl, Nat.zero_le _, Thin.refl _⟩
 have hbn : Hid (w.heap.size ≤ wB ∧ vb ≠ wB) := h_ ⟨by have := hO2.kept.size; omega, by have := lt_of_heap hV2.heap; omega⟩
 have hw3' := h_ hw3
 have hw4' := h_ hw4
 have hvb' := h_ hvb
 have hwB' := h_ hwB
 clear hA hk hn hw3 hw4 hvb hwB hO2 hV2 k4 q4 hsb
 go_wp2_with (first | (refine wpList_alloc_as 32 rfl rfl #[.pointer none] images_zero ?_; rw [hvb'.out]) | (refine wpList_store_whole 32 rfl rfl rfl [.pointer (some ⟨sb, 0, none⟩)] rfl images_size 32 #[.pointer none] (by rw [← hvb'.out]; exact heap_alloc_new _ _) rfl (by intro c hc; simp at hc; subst hc; rfl) ?_; rw [hw3'.out]) | (refine wpList_exec rfl (exec_build 37 #[] _ rfl (by simp [Act.eval]) (hbi.out _)) ?_) | (refine wpList_alloc_as 37 rfl rfl I.toArray hIz.out ?_; rw [hwB'.out]) | (refine wpList_store_whole 37 rfl rfl rfl I rfl (by rw [hIl.out]; exact img_size) 37 I.toArray (by rw [← hwB'.out]; exact heap_alloc_new _ _) (by simp [hIl.out]) hI1.out ?_; rw [hw4'.out]) | (refine wpList_exec rfl (exec_build 68 #[(0, .slice A0 l0.length c0), (1, .slice A1 l1.length c1)] _ rfl (by simp [Act.eval, Act.put]) (hbp.out _)) ?_))
 go_loopw [8, 42] (fun r ix wr => ∃ root : Int, r = .int .i64 root ∧ ((ix = .int .i64 0 ∧ Hid (DaInv w vb sb wB s 0 root wr)) ∨ (ix = .int .i64 1 ∧ Hid (DaInv w vb sb wB s 1 root wr)) ∨ (ix = .int .i64 2 ∧ Hid (DaInv w vb sb wB s 2 root wr)))) (fun _ i _ => (2 - intOf i).toNat)
 case atStart => exact ⟨-1, rfl, .inl ⟨rfl, I0⟩⟩
 case round =>
  obtain ⟨root, rfl, ⟨rfl, hI⟩ | ⟨rfl, hI⟩ | ⟨rfl, hI⟩⟩ := hrel
  ·obtain ⟨A, M, i, n, B, D, hroot, hsz, hn, hth⟩ := hI.out.ex
   have hlog := D.log
   have B0 := h_ B
   have cc0 := B.c0
   have C1 := h_ (da_pool B)
   have C2 := h_ (da_tidy B)
   have D' := h_ D
   clear B D
   go_wp2_with (first | (refine wpList_exec rfl ((exec_index_parts (A := A0) (n := l0.length) (c := c0) (A' := A1) (n' := l1.length) (c' := c1) rfl (by rfl) _).1 (by rfl)) ?_))
   refine C1.out.mono ?_
   rintro e _ ⟨rfl, rfl⟩
   go_wp2_with fail
   refine C2.out.mono ?_
   rintro e wa ⟨rfl, hT⟩
   have B1 := h_ (B0.out.to hT)
   clear hT cc0
   have cc0 := B1.out.c0
   obtain ⟨F, hF⟩ : ∃ F, M.tidy.pool.freeCount = F := ⟨_, rfl⟩
   have hFF : ((F : Int) != (F : Int)) = false := by simp
   have C3 := h_ (da_pool B1.out)
   have C4 := h_ (da_free B1.out hF)
   have C5 := h_ (da_mark B1.out)
   go_wp2_with fail
   refine C3.out.mono ?_
   rintro e _ ⟨rfl, rfl⟩
   go_wp2_with fail
   refine C4.out.mono ?_
   rintro e _ ⟨rfl, rfl⟩
   go_wp2_with fail
   refine C5.out.mono ?_
   rintro e wb ⟨c, rfl, hT, hc⟩
   have B2 := h_ (B1.out.to hT)
   have P2 := h_ hc
   have hlog2 : M.marked.log.length ≤ 30000 := by show M.log.length ≤ 30000; omega
   clear hT cc0 hc
   have hld := h_ B2.out.load
   have hAll0 := hAll0'.out
   cases ha : l0.all rightB
   ·rw [ha] at hAll0
    have hAll0' := h_ hAll0
    have C6 := da_apply B2.out hlog2 i.root (B2.out.items hv0'.out) (by omega) hok0'.out (del_bad (any_not ha) M.marked i.root)
    rw [hroot] at C6
    have C6' := h_ C6
    clear C6 ha hAll0
    go_wp2_with (first | (refine wpList_load_agg 32 rfl rfl rfl _ Tryz.underlying32 rfl [.pointer (some ⟨sb, 0, none⟩)] (by kernel_rfl) hld.out ?_))
    refine C6'.out.mono ?_
    rintro e wc ⟨A2, rfl, hT⟩
    have B3 := h_ (B2.out.to hT)
    have P3 := h_ (P2.out.to hT)
    clear hT hld
    go_wp2_with fail
    refine (hAll0'.out _ B3.out.own.kept).mono ?_
    rintro e wd ⟨rfl, kd⟩
    have B4 := h_ (B3.out.fresh kd)
    have P4 := h_ (P3.out.fresh kd)
    clear kd
    have cc0 := B4.out.c0
    have C7 := h_ (da_pool B4.out)
    have C8 := h_ (da_free (F := F) B4.out ((marked_free M).trans hF))
    have C9 := h_ (da_undo B4.out P4.out (rfl))
    go_wp2_with fail
    refine C7.out.mono ?_
    rintro e _ ⟨rfl, rfl⟩
    go_wp2_with fail
    refine C8.out.mono ?_
    rintro e _ ⟨rfl, rfl⟩
    go_wp2_with fail
    refine C9.out.mono ?_
    rintro e we ⟨vu, A3, rfl, hT⟩
    have fin : Hid (DaInv w vb sb wB s 1 root we) := h_ ⟨A3, M.marked, i, _, B4.out.to hT, D'.out.marked, hroot, hsz, by omega, hth.more (by omega)⟩
    clear hT
    go_wp2_with fail
    go_roundw
    case rel => exact ⟨_, by first | rfl | go_num, .inr (.inl ⟨by first | rfl | go_num, fin⟩)⟩
    case measure => simp [intOf] <;> omega
   ·have hx : ∀ x ∈ l0, rightB x = true ∧ x.ok := fun x hx => ⟨List.all_eq_true.1 ha x hx, hok0'.out x hx⟩
    rw [ha] at hAll0
    have hAll0' := h_ hAll0
    have hx' := h_ hx
    rcases da_step D'.out (xs := l0) (by omega) hx (hth.more (by omega)) hl0 with ⟨M2, i2, e6, D2, w6, z6, t6⟩ | ⟨M2, e6, D2, p6, s6⟩
    ·have C6 := da_apply B2.out hlog2 i.root (B2.out.items hv0'.out) (by omega) hok0'.out e6
     rw [hroot] at C6
     have C6' := h_ C6
     have D2' := h_ D2
     have w6' := h_ w6
     clear C6 ha hAll0 hx e6 D2 w6
     go_wp2_with (first | (refine wpList_load_agg 32 rfl rfl rfl _ Tryz.underlying32 rfl [.pointer (some ⟨sb, 0, none⟩)] (by kernel_rfl) hld.out ?_))
     refine C6'.out.mono ?_
     rintro e wc ⟨A2, rfl, hT⟩
     have B3 := h_ (B2.out.to hT)
     clear hT hld
     go_wp2_with fail
     refine (hAll0'.out _ B3.out.own.kept).mono ?_
     rintro e wd ⟨rfl, kd⟩
     have B4 := h_ (B3.out.fresh kd)
     clear kd
     have hBi := D'.out.bytes i (List.mem_singleton.2 rfl)
     have hB2 := D2'.out.bytes i2 (List.mem_singleton.2 rfl)
     have C7 := ref17Apply hBi (SliceAt.fresh hv0'.out B4.out.own.kept) hx'.out
     rw [← w6'.out] at C7
     have lI := B4.out.box.load
     have qI := B4.out.box.heap
     obtain ⟨I, hI'⟩ : ∃ I, imgCells i.w = I := ⟨_, rfl⟩
     obtain ⟨J, hJ⟩ : ∃ J, imgCells i2.w = J := ⟨_, rfl⟩
     have hIl : Hid (I.length = 1024) := h_ (by rw [← hI']; exact imgCells_len hBi)
     have hJl : Hid (J.length = 1024) := h_ (by rw [← hJ]; exact imgCells_len hB2)
     have hJ1 : Hid (∀ v ∈ J, v.oneCell' = true) := h_ (by rw [← hJ]; exact byteCells_one _)
     rw [hI'] at C7 lI qI
     rw [hJ] at C7
     have C7' := h_ C7
     have lI' := h_ lI
     have hJ' := h_ hJ
     have hI2 := h_ hI'
     clear C7 lI qI hBi hB2 hI' hJ
     go_wp2_with (first | (refine wpList_load_agg 37 rfl rfl rfl _ Tryz.underlying37 rfl I (by rw [hIl.out]; exact img_size) lI'.out ?_))
     refine C7'.out.mono ?_
     rintro e we ⟨rfl, ke⟩
     have B5 := h_ (B4.out.fresh ke)
     clear ke
     have qI : Hid (we.heap[wB]? = some (.cells I.toArray 37 (0, 0))) := h_ (by rw [← hI2.out]; exact B5.out.box.heap)
     obtain ⟨wf, hwf⟩ : ∃ wf, we.setRow wB J.toArray = wf := ⟨_, rfl⟩
     have fin : Hid (DaInv w vb sb wB s 1 i2.root wf) := h_ ⟨A2, M2, i2, _, by rw [← hwf]; exact B5.out.set hbn.out.1 hbn.out.2 hJ'.out, D2'.out, rfl, z6.trans hsz, by omega, (hth.trans t6).more (by omega)⟩
     have hwf' := h_ hwf
     clear hwf
     go_wp2_with (first | (refine wpList_store_whole 37 rfl rfl rfl J rfl (by rw [hJl.out]; exact img_size) 37 I.toArray qI.out (by simp [hIl.out, hJl.out]) hJ1.out ?_; rw [hwf'.out]))
     go_roundw
     case rel => exact ⟨_, by first | rfl | go_num, .inr (.inl ⟨by first | rfl | go_num, fin⟩)⟩
     case measure => simp [intOf] <;> omega
    ·have hpg : ((pages : Int) == 244) = false := by rw [beq_eq_false_iff_ne]; omega
     have C6 := da_apply B2.out hlog2 i.root (B2.out.items hv0'.out) (by omega) hok0'.out e6
     rw [hroot] at C6
     have C6' := h_ C6
     have D2' := h_ D2
     have p6' := h_ p6
     clear C6 ha hAll0 hx e6 D2 p6
     go_wp2_with (first | (refine wpList_load_agg 32 rfl rfl rfl _ Tryz.underlying32 rfl [.pointer (some ⟨sb, 0, none⟩)] (by kernel_rfl) hld.out ?_))
     refine C6'.out.mono ?_
     rintro e wc ⟨A2, rfl, hT⟩
     have B3 := h_ (B2.out.to hT)
     have P3 := h_ (P2.out.to hT)
     clear hT hld
     go_wp2_with fail
     refine (hAll0'.out _ B3.out.own.kept).mono ?_
     rintro e wd ⟨rfl, kd⟩
     have B4 := h_ (B3.out.fresh kd)
     have P4 := h_ (P3.out.fresh kd)
     clear kd
     have cc0 := B4.out.c0
     have C7 := h_ (da_pool B4.out)
     have C8 := h_ (da_free (F := F) B4.out (by rw [p6'.out, marked_free, hF]))
     have C9 := h_ (da_undo B4.out P4.out (p6'.out))
     go_wp2_with fail
     refine C7.out.mono ?_
     rintro e _ ⟨rfl, rfl⟩
     go_wp2_with fail
     refine C8.out.mono ?_
     rintro e _ ⟨rfl, rfl⟩
     go_wp2_with fail
     refine C9.out.mono ?_
     rintro e we ⟨vu, A3, rfl, hT⟩
     have fin : Hid (DaInv w vb sb wB s 1 root we) := h_ ⟨A3, M2, i, _, B4.out.to hT, D2'.out, hroot, by rw [p6'.out]; exact hsz, by omega, hth.more (by omega)⟩
     clear hT
     go_wp2_with fail
     go_roundw
     case rel => exact ⟨_, by first | rfl | go_num, .inr (.inl ⟨by first | rfl | go_num, fin⟩)⟩
     case measure => simp [intOf] <;> omega
  ·obtain ⟨A, M, i, n, B, D, hroot, hsz, hn, hth⟩ := hI.out.ex
   have hlog := D.log
   have B0 := h_ B
   have cc0 := B.c0
   have C1 := h_ (da_pool B)
   have C2 := h_ (da_tidy B)
   have D' := h_ D
   clear B D
   go_wp2_with (first | (refine wpList_exec rfl ((exec_index_parts (A := A0) (n := l0.length) (c := c0) (A' := A1) (n' := l1.length) (c' := c1) rfl (by rfl) _).2 (by rfl)) ?_))
   refine C1.out.mono ?_
   rintro e _ ⟨rfl, rfl⟩
   go_wp2_with fail
   refine C2.out.mono ?_
   rintro e wa ⟨rfl, hT⟩
   have B1 := h_ (B0.out.to hT)
   clear hT cc0
   have cc0 := B1.out.c0
   obtain ⟨F, hF⟩ : ∃ F, M.tidy.pool.freeCount = F := ⟨_, rfl⟩
   have hFF : ((F : Int) != (F : Int)) = false := by simp
   have C3 := h_ (da_pool B1.out)
   have C4 := h_ (da_free B1.out hF)
   have C5 := h_ (da_mark B1.out)
   go_wp2_with fail
   refine C3.out.mono ?_
   rintro e _ ⟨rfl, rfl⟩
   go_wp2_with fail
   refine C4.out.mono ?_
   rintro e _ ⟨rfl, rfl⟩
   go_wp2_with fail
   refine C5.out.mono ?_
   rintro e wb ⟨c, rfl, hT, hc⟩
   have B2 := h_ (B1.out.to hT)
   have P2 := h_ hc
   have hlog2 : M.marked.log.length ≤ 30000 := by show M.log.length ≤ 30000; omega
   clear hT cc0 hc
   have hld := h_ B2.out.load
   have hAll1 := hAll1'.out
   cases ha : l1.all rightB
   ·rw [ha] at hAll1
    have hAll1' := h_ hAll1
    have C6 := da_apply B2.out hlog2 i.root (B2.out.items hv1'.out) (by omega) hok1'.out (del_bad (any_not ha) M.marked i.root)
    rw [hroot] at C6
    have C6' := h_ C6
    clear C6 ha hAll1
    go_wp2_with (first | (refine wpList_load_agg 32 rfl rfl rfl _ Tryz.underlying32 rfl [.pointer (some ⟨sb, 0, none⟩)] (by kernel_rfl) hld.out ?_))
    refine C6'.out.mono ?_
    rintro e wc ⟨A2, rfl, hT⟩
    have B3 := h_ (B2.out.to hT)
    have P3 := h_ (P2.out.to hT)
    clear hT hld
    go_wp2_with fail
    refine (hAll1'.out _ B3.out.own.kept).mono ?_
    rintro e wd ⟨rfl, kd⟩
    have B4 := h_ (B3.out.fresh kd)
    have P4 := h_ (P3.out.fresh kd)
    clear kd
    have cc0 := B4.out.c0
    have C7 := h_ (da_pool B4.out)
    have C8 := h_ (da_free (F := F) B4.out ((marked_free M).trans hF))
    have C9 := h_ (da_undo B4.out P4.out (rfl))
    go_wp2_with fail
    refine C7.out.mono ?_
    rintro e _ ⟨rfl, rfl⟩
    go_wp2_with fail
    refine C8.out.mono ?_
    rintro e _ ⟨rfl, rfl⟩
    go_wp2_with fail
    refine C9.out.mono ?_
    rintro e we ⟨vu, A3, rfl, hT⟩
    have fin : Hid (DaInv w vb sb wB s 2 root we) := h_ ⟨A3, M.marked, i, _, B4.out.to hT, D'.out.marked, hroot, hsz, by omega, hth.more (by omega)⟩
    clear hT
    go_wp2_with fail
    go_roundw
    case rel => exact ⟨_, by first | rfl | go_num, .inr (.inr ⟨by first | rfl | go_num, fin⟩)⟩
    case measure => simp [intOf] <;> omega
   ·have hx : ∀ x ∈ l1, rightB x = true ∧ x.ok := fun x hx => ⟨List.all_eq_true.1 ha x hx, hok1'.out x hx⟩
    rw [ha] at hAll1
    have hAll1' := h_ hAll1
    have hx' := h_ hx
    rcases da_step D'.out (xs := l1) (by omega) hx (hth.more (by omega)) hl1 with ⟨M2, i2, e6, D2, w6, z6, t6⟩ | ⟨M2, e6, D2, p6, s6⟩
    ·have C6 := da_apply B2.out hlog2 i.root (B2.out.items hv1'.out) (by omega) hok1'.out e6
     rw [hroot] at C6
     have C6' := h_ C6
     have D2' := h_ D2
     have w6' := h_ w6
     clear C6 ha hAll1 hx e6 D2 w6
     go_wp2_with (first | (refine wpList_load_agg 32 rfl rfl rfl _ Tryz.underlying32 rfl [.pointer (some ⟨sb, 0, none⟩)] (by kernel_rfl) hld.out ?_))
     refine C6'.out.mono ?_
     rintro e wc ⟨A2, rfl, hT⟩
     have B3 := h_ (B2.out.to hT)
     clear hT hld
     go_wp2_with fail
     refine (hAll1'.out _ B3.out.own.kept).mono ?_
     rintro e wd ⟨rfl, kd⟩
     have B4 := h_ (B3.out.fresh kd)
     clear kd
     have hBi := D'.out.bytes i (List.mem_singleton.2 rfl)
     have hB2 := D2'.out.bytes i2 (List.mem_singleton.2 rfl)
     have C7 := ref17Apply hBi (SliceAt.fresh hv1'.out B4.out.own.kept) hx'.out
     rw [← w6'.out] at C7
     have lI := B4.out.box.load
     have qI := B4.out.box.heap
     obtain ⟨I, hI'⟩ : ∃ I, imgCells i.w = I := ⟨_, rfl⟩
     obtain ⟨J, hJ⟩ : ∃ J, imgCells i2.w = J := ⟨_, rfl⟩
     have hIl : Hid (I.length = 1024) := h_ (by rw [← hI']; exact imgCells_len hBi)
     have hJl : Hid (J.length = 1024) := h_ (by rw [← hJ]; exact imgCells_len hB2)
     have hJ1 : Hid (∀ v ∈ J, v.oneCell' = true) := h_ (by rw [← hJ]; exact byteCells_one _)
     rw [hI'] at C7 lI qI
     rw [hJ] at C7
     have C7' := h_ C7
     have lI' := h_ lI
     have hJ' := h_ hJ
     have hI2 := h_ hI'
     clear C7 lI qI hBi hB2 hI' hJ
     go_wp2_with (first | (refine wpList_load_agg 37 rfl rfl rfl _ Tryz.underlying37 rfl I (by rw [hIl.out]; exact img_size) lI'.out ?_))
     refine C7'.out.mono ?_
     rintro e we ⟨rfl, ke⟩
     have B5 := h_ (B4.out.fresh ke)
     clear ke
     have qI : Hid (we.heap[wB]? = some (.cells I.toArray 37 (0, 0))) := h_ (by rw [← hI2.out]; exact B5.out.box.heap)
     obtain ⟨wf, hwf⟩ : ∃ wf, we.setRow wB J.toArray = wf := ⟨_, rfl⟩
     have fin : Hid (DaInv w vb sb wB s 2 i2.root wf) := h_ ⟨A2, M2, i2, _, by rw [← hwf]; exact B5.out.set hbn.out.1 hbn.out.2 hJ'.out, D2'.out, rfl, z6.trans hsz, by omega, (hth.trans t6).more (by omega)⟩
     have hwf' := h_ hwf
     clear hwf
     go_wp2_with (first | (refine wpList_store_whole 37 rfl rfl rfl J rfl (by rw [hJl.out]; exact img_size) 37 I.toArray qI.out (by simp [hIl.out, hJl.out]) hJ1.out ?_; rw [hwf'.out]))
     go_roundw
     case rel => exact ⟨_, by first | rfl | go_num, .inr (.inr ⟨by first | rfl | go_num, fin⟩)⟩
     case measure => simp [intOf] <;> omega
    ·have hpg : ((pages : Int) == 244) = false := by rw [beq_eq_false_iff_ne]; omega
     have C6 := da_apply B2.out hlog2 i.root (B2.out.items hv1'.out) (by omega) hok1'.out e6
     rw [hroot] at C6
     have C6' := h_ C6
     have D2' := h_ D2
     have p6' := h_ p6
     clear C6 ha hAll1 hx e6 D2 p6
     go_wp2_with (first | (refine wpList_load_agg 32 rfl rfl rfl _ Tryz.underlying32 rfl [.pointer (some ⟨sb, 0, none⟩)] (by kernel_rfl) hld.out ?_))
     refine C6'.out.mono ?_
     rintro e wc ⟨A2, rfl, hT⟩
     have B3 := h_ (B2.out.to hT)
     have P3 := h_ (P2.out.to hT)
     clear hT hld
     go_wp2_with fail
     refine (hAll1'.out _ B3.out.own.kept).mono ?_
     rintro e wd ⟨rfl, kd⟩
     have B4 := h_ (B3.out.fresh kd)
     have P4 := h_ (P3.out.fresh kd)
     clear kd
     have cc0 := B4.out.c0
     have C7 := h_ (da_pool B4.out)
     have C8 := h_ (da_free (F := F) B4.out (by rw [p6'.out, marked_free, hF]))
     have C9 := h_ (da_undo B4.out P4.out (p6'.out))
     go_wp2_with fail
     refine C7.out.mono ?_
     rintro e _ ⟨rfl, rfl⟩
     go_wp2_with fail
     refine C8.out.mono ?_
     rintro e _ ⟨rfl, rfl⟩
     go_wp2_with fail
     refine C9.out.mono ?_
     rintro e we ⟨vu, A3, rfl, hT⟩
     have fin : Hid (DaInv w vb sb wB s 2 root we) := h_ ⟨A3, M2, i, _, B4.out.to hT, D2'.out, hroot, by rw [p6'.out]; exact hsz, by omega, hth.more (by omega)⟩
     clear hT
     go_wp2_with fail
     go_roundw
     case rel => exact ⟨_, by first | rfl | go_num, .inr (.inr ⟨by first | rfl | go_num, fin⟩)⟩
     case measure => simp [intOf] <;> omega
  ·obtain ⟨A, M, i, n, B, D, hroot, hsz, hn, hth⟩ := hI.out.ex
   have C1 := da_all B D (by omega)
   have hBi := D.bytes i (List.mem_singleton.2 rfl)
   rw [hroot] at C1
   have C1' := h_ C1
   have B0 := h_ B
   have hBi' := h_ hBi
   have hld := h_ B.load
   clear C1 B D hBi
   go_wp2_with (first | (refine wpList_load_agg 32 rfl rfl rfl _ Tryz.underlying32 rfl [.pointer (some ⟨sb, 0, none⟩)] (by kernel_rfl) hld.out ?_))
   refine C1'.out.mono ?_
   rintro e w5 ⟨gb, rfl, hgb, hg5, k5⟩
   have B1 := h_ (B0.out.fresh k5)
   have lJ := B1.out.box.load
   have C2 := h_ (ref13Same hBi'.out hg5)
   obtain ⟨J, hJ⟩ : ∃ J, imgCells i.w = J := ⟨_, rfl⟩
   have hJl : Hid (J.length = 1024) := h_ (by rw [← hJ]; exact imgCells_len hBi'.out)
   rw [hJ] at C2 lJ
   have lJ' := h_ lJ
   clear hgb hg5 k5 hld lJ hJ
   go_wp2_with (first | (refine wpList_exec_g (by rfl) (exec_load_agg rfl (by rfl) J Tryz.underlying37 rfl (by rw [hJl.out]; exact img_size) lJ'.out) ?_))
   refine C2.out.mono ?_
   rintro e w6 ⟨rfl, k6⟩
   have fin := h_ (B1.out.own.kept.trans k6)
   clear k6
   go_wp2_with fail
   go_ret
   exact ⟨rfl, fin.out⟩
end Go.Proofs.YtidlchciehdefaaGreat
