/-
 Layer 17: DeltaCarries' walk.
-/
import Derived.Test.YtidlchciehdefaaGreatK30
import Derived.Test.YtidlchciehdefaaGreatK39
set_option linter.unusedVariables false
set_option linter.unusedSimpArgs false
namespace Go.Proofs.YtidlchciehdefaaGreat
open Go.RowKit
set_option maxRecDepth 100000

theorem q_off {o : Oper} {y : Nat → Option Bool} {p q : Prop} (hw : Region.wanted o y = false) (h : q) : if Region.wanted o y = true then p else q := by rw [if_neg (by rw [hw]; decide)]; exact h
theorem run_build_seen (w : World) : (Instr.build 80 #[]).run Tryz.prog w = .ok (.agg (List.replicate 64 (Value.int .i64 0)).toArray) w := run_build _ _ _ _ (by kernel_rfl)
structure SeenAt (w : World) (sv : Nat) (T : List ItemM) (k : Nat) (wr : World) : Prop where
 kept : Kept (fun _ => False) w wr
 seen : wr.heap[sv]? = some (.cells (seenC T k).toArray 80 (0, 0))
theorem SeenAt.fresh {w wr w' : World} {sv k : Nat} {T : List ItemM} (h : SeenAt w sv T k wr) (q : Kept (fun _ => False) wr w') : SeenAt w sv T k w' := ⟨h.kept.trans q, q.get h.seen id⟩
theorem SeenAt.set {w wr : World} {sv k n : Nat} {T : List ItemM} (h : SeenAt w sv T k wr) (hs : w.heap.size ≤ sv) (e : (seenC T k).toArray.setIfInBounds n (.int .i64 1) = (seenC T (k + 1)).toArray) : SeenAt w sv T (k + 1) (wr.setCell ⟨sv, n, none⟩ (.int .i64 1)) :=
 ⟨h.kept.setNew hs _, by rw [heap_setCell_same h.seen, e]⟩
set_option maxHeartbeats 16000000 in
theorem carriesWalk {w : World} (v0 : Value) (l : List ItemM) (hv0 : ItemsAt w v0 l) (hok0 : ∀ x ∈ l, x.ok) (v1 : Value) (k : List ItemM) (hv1 : ItemsAt w v1 k) (hok1 : ∀ x ∈ k, x.ok) (size : Int) :
  Calls Tryz.prog 11 #[v0, v1, .int .i64 size] w fun e w' => e = .returned (.bool true) ∧ Kept (fun _ => False) w w' := by
 obtain ⟨_, A0, c0, rfl, hc1, hc2, _⟩ := id hv0
 obtain ⟨_, A1, c1, rfl, hd1, hd2, _⟩ := id hv1
 unfold maxLen at hc2 hd2
 have hA0 := h_ (fun W (hK : Kept (fun _ => False) w W) => ref17All (SliceAt.fresh hv0 hK) hok0)
 have hA1 := h_ (fun W (hK : Kept (fun _ => False) w W) => ref17All (SliceAt.fresh hv1 hK) hok1)
 have hv0' := h_ hv0
 have hv1' := h_ hv1
 have hok0' := h_ hok0
 have hok1' := h_ hok1
 clear hv0 hv1 hok0 hok1
 by_cases hb0 : 64 < l.length
 ·have d0 : decide ((64 : Int) < (l.length : Int)) = true := decide_eq_true (by omega)
  go_enter Tryz.func11, Tryz.ntmps11
  go_wp2_with fail
  refine (deltaAlive _).mono ?_
  rintro e w1 ⟨rfl, k1⟩
  have K1 := h_ k1
  clear k1
  go_wp2_with fail
  go_ret
  exact ⟨rfl, K1.out⟩
 have d0 : decide ((64 : Int) < (l.length : Int)) = false := decide_eq_false (by omega)
 by_cases hb1 : 64 < k.length
 ·have d1 : decide ((64 : Int) < (k.length : Int)) = true := decide_eq_true (by omega)
  go_enter Tryz.func11, Tryz.ntmps11
  go_wp2_with fail
  refine (deltaAlive _).mono ?_
  rintro e w1 ⟨rfl, k1⟩
  have K1 := h_ k1
  clear k1
  go_wp2_with fail
  go_ret
  exact ⟨rfl, K1.out⟩
 have d1 : decide ((64 : Int) < (k.length : Int)) = false := decide_eq_false (by omega)
 cases ha0 : l.all rightB
 ·rw [ha0] at hA0
  clear ha0
  go_enter Tryz.func11, Tryz.ntmps11
  go_wp2_with fail
  refine (deltaAlive _).mono ?_
  rintro e w1 ⟨rfl, k1⟩
  have K1 := h_ k1
  clear k1
  go_wp2_with fail
  refine (hA0.out _ K1.out).mono ?_
  rintro e w2 ⟨rfl, k2⟩
  have K2 := h_ (K1.out.trans k2)
  clear k2
  go_wp2_with fail
  go_ret
  exact ⟨rfl, K2.out⟩
 ·have hx0 : Hid (∀ x ∈ l, rightB x = true ∧ x.ok) := h_ (fun x hx => ⟨List.all_eq_true.1 ha0 x hx, hok0'.out x hx⟩)
  rw [ha0] at hA0
  clear ha0
  cases ha1 : k.all rightB
  ·rw [ha1] at hA1
   clear ha1
   go_enter Tryz.func11, Tryz.ntmps11
   go_wp2_with fail
   refine (deltaAlive _).mono ?_
   rintro e w1 ⟨rfl, k1⟩
   have K1 := h_ k1
   clear k1
   go_wp2_with fail
   refine (hA0.out _ K1.out).mono ?_
   rintro e w2 ⟨rfl, k2⟩
   have K2 := h_ (K1.out.trans k2)
   clear k2
   go_wp2_with fail
   refine (hA1.out _ K2.out).mono ?_
   rintro e w3 ⟨rfl, k3⟩
   have K3 := h_ (K2.out.trans k3)
   clear k3
   go_wp2_with fail
   go_ret
   exact ⟨rfl, K3.out⟩
  ·have hx1 : Hid (∀ x ∈ k, rightB x = true ∧ x.ok) := h_ (fun x hx => ⟨List.all_eq_true.1 ha1 x hx, hok1'.out x hx⟩)
   rw [ha1] at hA1
   clear ha1
   have hm := fun w => made17 244 (by decide) (by decide) w
   rw [show (min (244 : Int) 244 - 4).toNat = 240 from by decide] at hm
   have hm' := h_ hm
   clear hm
   go_enter Tryz.func11, Tryz.ntmps11
   go_wp2_with fail
   refine (deltaAlive _).mono ?_
   rintro e w1 ⟨rfl, k1⟩
   have K1 := h_ k1
   clear k1
   go_wp2_with fail
   refine (hA0.out _ K1.out).mono ?_
   rintro e w2 ⟨rfl, k2⟩
   have K2 := h_ (K1.out.trans k2)
   clear k2
   go_wp2_with fail
   refine (hA1.out _ K2.out).mono ?_
   rintro e w3 ⟨rfl, k3⟩
   have K3 := h_ (K2.out.trans k3)
   clear k3
   go_wp2_with fail
   refine (hm'.out _).mono ?_
   rintro e w4 ⟨A, rfl, hA, hk, hn⟩
   obtain ⟨vb, hvb⟩ : ∃ vb, w4.heap.size = vb := ⟨_, rfl⟩
   have hO := ImVar.made (b := vb) ⟨hA, K3.out.trans hk, fun j hj => Nat.le_trans K3.out.size (hn j hj)⟩ hvb
   obtain ⟨w5, hw5⟩ : ∃ w5, (w4.alloc (.cells #[.pointer none] 32)).setRow vb #[.pointer (some ⟨A.sb, 0, none⟩)] = w5 := ⟨_, rfl⟩
   rw [hw5] at hO
   obtain ⟨sb, hsb⟩ : ∃ sb, A.sb = sb := ⟨_, rfl⟩
   rw [hsb] at hO hw5 ⊢
   have S5 : Hid (DlSt w vb sb 0 [.none] w5 A (newM 240)) := h_ ⟨hO.1, hO.2, DelP.fresh 240 (by decide), rfl⟩
   have hw5' := h_ hw5
   have hvb' := h_ hvb
   clear hA hk hn hw5 hvb hO hsb
   have hld5 := h_ S5.out.load
   go_wp2_with (first | (refine wpList_alloc_as 32 rfl rfl #[.pointer none] images_zero ?_; rw [hvb'.out]) | (refine wpList_store_whole 32 rfl rfl rfl [.pointer (some ⟨sb, 0, none⟩)] rfl images_size 32 #[.pointer none] (by rw [← hvb'.out]; exact heap_alloc_new _ _) rfl (by intro c hc; simp at hc; subst hc; rfl) ?_; rw [hw5'.out]) | (refine wpList_load_agg 32 rfl rfl rfl _ Tryz.underlying32 rfl [.pointer (some ⟨sb, 0, none⟩)] (by kernel_rfl) hld5.out ?_))
   obtain ⟨G5, g5⟩ := dl_live S5.out.del (by decide)
   rcases del_deliver (k := 0) (i := .none) S5.out.del rfl (xs := l) (by omega) hx0.out g5 with ⟨M6, a, i1, e6, D6, r6, w6', p6, z6, y6⟩ | ⟨M6, e6, D6, z6, _⟩
   ·have C6 := h_ (dl_apply S5.out (by decide) (-1) (S5.out.items hv0'.out) (by omega) hok0'.out e6)
    have D6' : Hid (DelP (0 + l.length) M6 [i1]) := h_ D6
    have r6' := h_ r6
    have w6h := h_ w6'
    clear D6 r6 w6' p6 y6 e6
    refine C6.out.mono ?_
    rintro e w6 ⟨A6, rfl, hT⟩
    have S6 := h_ (S5.out.to hT D6'.out z6)
    clear hT hld5
    have hi1 : ([i1] : List IM)[0]? = some i1 := rfl
    have C7 := dl_copy S6.out (by omega) hi1 (by show 1 ≤ 5; decide)
    rw [r6'.out] at C7
    have C7' := h_ C7
    have hld := h_ S6.out.load
    clear C7 hi1
    go_wp2_with (first | (refine wpList_load_agg 32 rfl rfl rfl _ Tryz.underlying32 rfl [.pointer (some ⟨sb, 0, none⟩)] (by kernel_rfl) hld.out ?_))
    refine C7'.out.mono ?_
    rintro e w7 ⟨rfl, M7, S7', hT7⟩
    have S7 : Hid (DlSt w vb sb (0 + l.length) [i1, i1] w7 A6 M7) := h_ S7'
    clear S7' hT7 hld
    obtain ⟨G7, g7⟩ := dl_live S7.out.del (by omega)
    rcases del_deliver (k := 1) (i := i1) S7.out.del rfl (xs := k) (by omega) hx1.out g7 with ⟨M8, b, i2, e8, D8, r8, w8', p8, z8, y8⟩ | ⟨M8, e8, D8, z8, _⟩
    ·have C8 := dl_apply S7.out (by omega) i1.root (S7.out.items hv1'.out) (by omega) hok1'.out e8
     rw [r6'.out] at C8
     have C8' := h_ C8
     have D8' : Hid (DelP (0 + l.length + k.length) M8 [i1, i2]) := h_ D8
     have r8' := h_ r8
     have w8h := h_ w8'
     clear C8 D8 r8 w8' p8 y8 e8
     have hld := h_ S7.out.load
     go_wp2_with (first | (refine wpList_load_agg 32 rfl rfl rfl _ Tryz.underlying32 rfl [.pointer (some ⟨sb, 0, none⟩)] (by kernel_rfl) hld.out ?_))
     refine C8'.out.mono ?_
     rintro e w8 ⟨A8, rfl, hT⟩
     have S8 := h_ (S7.out.to hT D8'.out z8)
     clear hT hld
     have m1 : i1 ∈ [i1, i2] := List.mem_cons_self ..
     have m2 : i2 ∈ [i1, i2] := List.mem_cons_of_mem _ (List.mem_cons_self ..)
     have rt := lead_right S8.out.del m1 m2
     have ln := lead_len i1.l i2.l i2.w
     have th : Hid (∀ key, 0 ≤ key → key < 64 → itemsW (itemsOf i2.w (changesL i1.l i2.l)) i1.w key = i2.w key) := h_ (fun key k0 k1 => lead_there S8.out.del m1 m2 (fun _ _ _ => rfl) k0 k1)
     have hkeys : Hid (∀ key, 0 ≤ key → key < 64 → i1.w key ≠ i2.w key → ∃ x ∈ itemsOf i2.w (changesL i1.l i2.l), x.key = key) := h_ (fun key k0 k1 => lead_key S8.out.del m1 m2 k0 k1)
     have C9 := dl_items S8.out (by omega) m1 m2
     have hasc := lead_asc i2.w i1.l i2.l
     have hTb : ∀ x ∈ itemsOf i2.w (changesL i1.l i2.l), x.block = i2.w x.key := fun x hx => lead_block hx
     obtain ⟨T, hTe⟩ : ∃ t, itemsOf i2.w (changesL i1.l i2.l) = t := ⟨_, rfl⟩
     rw [hTe] at rt ln th hkeys C9 hasc hTb
     rw [r6'.out, r8'.out] at C9
     have hT := h_ rt
     have hasc := h_ hasc
     have hTb := h_ hTb
     have C9' := h_ C9
     have hld := h_ S8.out.load
     clear rt C9 hTe m1 m2
     go_wp2_with (first | (refine wpList_load_agg 32 rfl rfl rfl _ Tryz.underlying32 rfl [.pointer (some ⟨sb, 0, none⟩)] (by kernel_rfl) hld.out ?_))
     refine C9'.out.mono ?_
     rintro e w9 ⟨v9, rfl, T9, k9⟩
     obtain ⟨_, At, ct, rfl, ht1, ht2, _⟩ := T9.at_
     unfold maxLen at ht2
     have T9' := h_ T9
     have S9 := h_ (S8.out.fresh k9)
     clear T9 k9 hld
     obtain ⟨O, hOe⟩ : ∃ I, (imgCells fun _ => zeros16) = I := ⟨_, rfl⟩
     have hbi : Hid (∀ w, (Instr.build 37 #[]).run Tryz.prog w = .ok (.agg O.toArray) w) := h_ (fun w => by rw [← hOe, zero_cells]; exact run_build_img w)
     have hOz : Hid ((Tryz.prog.info? 37).map (·.zero) = some (some (.agg O.toArray))) := h_ (by rw [← hOe, zero_cells]; exact img_zero)
     have hOl : Hid (O.length = 1024) := h_ (by rw [← hOe]; exact imgCells_len Bytes.zero)
     have C10 := fun W (hK : Kept (fun _ => False) w W) => ref17Apply Bytes.zero (SliceAt.fresh hv0'.out hK) hx0.out
     rw [hOe] at C10
     have hBx : Hid (Bytes i1.w) := h_ (S8.out.del.bytes i1 (List.mem_cons_self ..))
     have hBy : Hid (Bytes i2.w) := h_ (S8.out.del.bytes i2 (List.mem_cons_of_mem _ (List.mem_cons_self ..)))
     have C11 := fun W (hK : Kept (fun _ => False) w W) => ref17Apply hBx.out (SliceAt.fresh hv1'.out hK) hx1.out
     rw [← w8h.out] at C11
     rw [show itemsW l (fun _ => zeros16) = i1.w from w6h.out.symm] at C10
     obtain ⟨X, hX⟩ : ∃ I, imgCells i1.w = I := ⟨_, rfl⟩
     obtain ⟨Y, hY⟩ : ∃ I, imgCells i2.w = I := ⟨_, rfl⟩
     have hXl : Hid (X.length = 1024) := h_ (by rw [← hX]; exact imgCells_len hBx.out)
     have hYl : Hid (Y.length = 1024) := h_ (by rw [← hY]; exact imgCells_len hBy.out)
     have hX1 : Hid (∀ v ∈ X, v.oneCell' = true) := h_ (by rw [← hX]; exact byteCells_one _)
     have hY1 : Hid (∀ v ∈ Y, v.oneCell' = true) := h_ (by rw [← hY]; exact byteCells_one _)
     rw [hX] at C10 C11
     rw [hY] at C11
     have C10' := h_ C10
     have C11' := h_ C11
     have hX := h_ hX
     have hY := h_ hY
     clear C10 C11 hOe
     have K9 := h_ S9.out.own.kept
     go_wp2_with (first | (refine wpList_exec_g (by rfl) (exec_build 37 #[] _ rfl (by simp [Act.eval]) (hbi.out _)) ?_))
     refine (C10'.out _ K9.out).mono ?_
     rintro e w10 ⟨rfl, k10⟩
     obtain ⟨xB, hxB⟩ : ∃ b, w10.heap.size = b := ⟨_, rfl⟩
     obtain ⟨w10b, hw10⟩ : ∃ u, (w10.alloc (.cells O.toArray 37)).setRow xB X.toArray = u := ⟨_, rfl⟩
     have kb : Kept (fun _ => False) w10 w10b := by rw [← hw10]; exact ((Kept.refl _ _).alloc _).setRowNew (by omega) _
     have qx : Hid (w10b.heap[xB]? = some (.cells X.toArray 37 (0, 0))) := h_ (by rw [← hw10, ← hxB]; exact setRow_heap _ _ _ _ _ _ (heap_alloc_new _ _))
     have S10 := h_ (S9.out.fresh (k10.trans kb))
     have T10 := h_ (T9'.out.fresh (k10.trans kb))
     have K10 := h_ S10.out.own.kept
     have sx : Hid (Safe w10b A8 xB) := h_ ⟨lt_of_heap qx.out, fun e => by have := (S9.out.own.store.fresh k10).lt (.inl e); omega⟩
     have lx : Hid (∀ j u, X[j]? = some u → w10b.cell? ⟨xB, 0 + j, none⟩ = some u) := h_ (fun j u hj => by rw [Nat.zero_add, cell_of_heap qx.out]; simpa using hj)
     have hw10' := h_ hw10
     have hxB' := h_ hxB
     clear k10 kb hw10 hxB
     go_wp2_with (first | (refine wpList_alloc_as 37 rfl rfl O.toArray hOz.out ?_; rw [hxB'.out]) | (refine wpList_store_whole 37 rfl rfl rfl X rfl (by rw [hXl.out]; exact img_size) 37 O.toArray (by rw [← hxB'.out]; exact heap_alloc_new _ _) (by simp [hOl.out, hXl.out]) hX1.out ?_; rw [hw10'.out]) | (refine wpList_load_agg 37 rfl rfl rfl _ Tryz.underlying37 rfl X (by rw [hXl.out]; exact img_size) lx.out ?_))
     refine (C11'.out _ K10.out).mono ?_
     rintro e w11 ⟨rfl, k11⟩
     obtain ⟨yB, hyB⟩ : ∃ b, w11.heap.size = b := ⟨_, rfl⟩
     obtain ⟨w12, hw12⟩ : ∃ u, (w11.alloc (.cells O.toArray 37)).setRow yB Y.toArray = u := ⟨_, rfl⟩
     have kb : Kept (fun _ => False) w11 w12 := by rw [← hw12]; exact ((Kept.refl _ _).alloc _).setRowNew (by omega) _
     have qy : w12.heap[yB]? = some (.cells Y.toArray 37 (0, 0)) := by rw [← hw12, ← hyB]; exact setRow_heap _ _ _ _ _ _ (heap_alloc_new _ _)
     have S12 : Hid (CaSt w vb sb (0 + l.length + k.length) [i1, i2] (.slice At T.length ct) T xB yB X Y w12 A8 M8) := h_ ⟨S10.out.fresh (k11.trans kb), T10.out.fresh (k11.trans kb), (k11.trans kb).get qx.out id, sx.out.fresh (k11.trans kb), qy, ⟨lt_of_heap qy, fun e => by have := (S10.out.own.store.fresh k11).lt (.inl e); omega⟩⟩
     have hw12' := h_ hw12
     have hyB' := h_ hyB
     clear k11 kb hw12 hyB qy
     obtain ⟨Z, hZ⟩ : ∃ Z, List.replicate 64 (Value.int .i64 0) = Z := ⟨_, rfl⟩
     have hZz : Hid ((Tryz.prog.info? 80).map (·.zero) = some (some (.agg Z.toArray))) := h_ (by rw [← hZ]; exact seen_zero)
     have hbz : Hid (∀ w, (Instr.build 80 #[]).run Tryz.prog w = .ok (.agg Z.toArray) w) := h_ (fun w => by rw [← hZ]; exact run_build_seen w)
     obtain ⟨sv, hsv⟩ : ∃ sv, w12.heap.size = sv := ⟨_, rfl⟩
     obtain ⟨w13, hw13⟩ : ∃ w13, (w12.alloc (.cells Z.toArray 80)).setRow sv Z.toArray = w13 := ⟨_, rfl⟩
     have hZl : Hid (Z.length = 64) := h_ (by rw [← hZ]; exact List.length_replicate)
     have hZ1 : Hid (∀ v ∈ Z, v.oneCell' = true) := h_ (fun v hv => by rw [← hZ] at hv; rw [List.eq_of_mem_replicate hv]; rfl)
     have hs13 : Hid (w12.heap.size ≤ sv) := h_ (by omega)
     have L0 : Hid (SeenAt w12 sv T 0 w13) := h_ ⟨by rw [← hw13]; exact ((Kept.refl _ _).alloc _).setRowNew (by omega) _, by rw [seenC_zero, hZ, ← hw13, ← hsv]; exact setRow_heap _ _ _ _ _ _ (heap_alloc_new _ _)⟩
     have hw13' := h_ hw13
     have hsv' := h_ hsv
     clear hZ hw13 hsv
     go_wp2_with (first | (refine wpList_alloc_as 37 rfl rfl O.toArray hOz.out ?_; rw [hyB'.out]) | (refine wpList_store_whole 37 rfl rfl rfl Y rfl (by rw [hYl.out]; exact img_size) 37 O.toArray (by rw [← hyB'.out]; exact heap_alloc_new _ _) (by simp [hOl.out, hYl.out]) hY1.out ?_; rw [hw12'.out]) | (refine wpList_exec_g (by rfl) (exec_build 80 #[] _ rfl (by simp [Act.eval]) (hbz.out _)) ?_) | (refine wpList_alloc_as 80 rfl rfl Z.toArray hZz.out ?_; rw [hsv'.out]) | (refine wpList_store_whole 80 rfl rfl rfl Z rfl (by rw [hZl.out]; exact seen_size) 80 Z.toArray (by rw [← hsv'.out]; exact heap_alloc_new _ _) (by simp [hZl.out]) hZ1.out ?_; rw [hw13'.out]))
     go_loopw [19, 98] (fun v i wr => ∃ k : Nat, k ≤ T.length ∧ v = .int .i64 (lastK T k) ∧ i = .int .i64 k ∧ Hid (SeenAt w12 sv T k wr)) (fun _ i _ => T.length - (intOf i).toNat)
     case atStart => exact ⟨0, Nat.zero_le _, rfl, rfl, L0⟩
     case round =>
      obtain ⟨k, hk, rfl, rfl, hL⟩ := hrel
      have S := h_ (S12.out.fresh hL.out.kept)
      by_cases hlt : k < T.length
      ·obtain ⟨x, hx⟩ : ∃ x, T[k]? = some x := ⟨_, List.getElem?_eq_getElem hlt⟩
       obtain ⟨bI, oI, rfl, hbI, hcI⟩ := ItemsAt.get S.out.items.at_ hx
       obtain ⟨hxr, hxo⟩ := hT.out x (List.mem_of_getElem? hx)
       obtain ⟨⟨hx0, hx1⟩, _⟩ := rightB_iff.1 hxr
       obtain ⟨n, hn⟩ := Int.eq_ofNat_of_zero_le hx0
       have hn64 : n < 64 := by omega
       have hlast := last_lt hasc.out (fun y hy => (rightB_iff.1 (hT.out y hy).1).1.1) hx
       have hstep := h_ (last_step hx)
       have hseen := h_ (seen_step hx hn hn64)
       have hnew := seen_new hasc.out hx hn
       have hsc := seenC_get T k hn64
       rw [hnew] at hsc
       have hblk := hTb.out x (List.mem_of_getElem? hx)
       have hfx := fun w => ref17Right hxo w
       rw [hxr] at hfx
       have hki : (k : Int) < (T.length : Int) := by omega
       have hni : (n : Int) < 64 := by omega
       obtain ⟨I, hI⟩ : ∃ I, itemCells x = I := ⟨_, rfl⟩
       have hIl : Hid (I.length = 18) := h_ (by rw [← hI]; exact itemCells_len _)
       have hI1 : Hid (∀ v ∈ I, v.oneCell' = true) := h_ (by rw [← hI]; exact itemCells_one _)
       rw [hI] at hfx hcI
       have hcI' : Hid (∀ j v, I[j]? = some v → wr.cell? ⟨bI, oI + k * 18 + j, none⟩ = some v) := h_ hcI
       have hfx' := h_ hfx
       obtain ⟨C, hC⟩ : ∃ C, blockCells x.block = C := ⟨_, rfl⟩
       have hCl : Hid (C.length = 16) := h_ (by rw [← hC]; exact blockCells_len _)
       obtain ⟨J, hJ⟩ : ∃ J, itemCells .zero = J := ⟨_, rfl⟩
       have hJz : Hid ((Tryz.prog.info? 61).map (·.zero) = some (some (.agg J.toArray))) := h_ (by rw [← hJ]; exact item_zero)
       have hJl : Hid (J.length = 18) := h_ (by rw [← hJ]; exact itemCells_len _)
       obtain ⟨xb, hxb⟩ : ∃ xb, wr.heap.size = xb := ⟨_, rfl⟩
       obtain ⟨w3, hw3⟩ : ∃ w3, (wr.alloc (.cells J.toArray 61)).setRow xb I.toArray = w3 := ⟨_, rfl⟩
       have k3 : Kept (fun _ => False) wr w3 := by rw [← hw3]; exact ((Kept.refl _ _).alloc _).setRowNew (by omega) _
       have q3 : w3.heap[xb]? = some (.cells I.toArray 61 (0, 0)) := by rw [← hw3, ← hxb]; exact setRow_heap _ _ _ _ _ _ (heap_alloc_new _ _)
       have hl3 : Hid (∀ j v, I[j]? = some v → w3.cell? ⟨xb, 0 + j, none⟩ = some v) := h_ (fun j v hj => by rw [Nat.zero_add, cell_of_heap q3]; simpa using hj)
       have L3 := h_ (hL.out.fresh k3)
       have S3 := S.out.fresh k3
       obtain ⟨i30, _, i32⟩ := item_box (x := x) (by rw [hI]; exact q3)
       rw [hn] at i30
       rw [hC] at i32
       have hblk' : Hid (∀ j v, C[j]? = some v → Y[n * 16 + j]? = some v) := h_ (fun j v hj => by
        have hj16 : j < 16 := by
         have := (List.getElem?_eq_some_iff.1 hj).1
         rwa [← hC, blockCells_len] at this
        rw [← hY.out, imgCells_get hBy.out hn64 hj16, ← blockCells_eq _ (hBy.out.len _), ← hn, ← hblk, hC]
        exact hj)
       have c30 := h_ i30
       have c32 := h_ i32
       have hcy := h_ (S3.by_)
       have hqC : Hid (∀ (o : Oper) (a : Act) (w : World) (x' y : Operand) (u : TypeId), o.op = .binOp .neq 35 x' y u → a.eval x' = .agg C.toArray → a.eval y = .agg C.toArray → (execOp a.eval o).run Tryz.prog w = .ok (.value (.bool false)) w) := h_ (fun o a w x' y u ho hx hy => by
        have := exec_blk_neq (w := w) x' y ho hxo.1 hxo.1 (by rw [hC]; exact hx) (by rw [hC]; exact hy)
        rw [decide_eq_true rfl] at this
        exact this)
       have hix : Hid (∀ (o : Oper) (a : Act) (w : World), o.op = .indexAddr 37 (.tmp 17) (.tmp 115) → a.eval (.tmp 17) = .pointer (some ⟨yB, 0, none⟩) → a.eval (.tmp 115) = .int .i64 (n : Int) → (execOp a.eval o).run Tryz.prog w = .ok (.value (.pointer (some ⟨yB, 0 + n * 16, none⟩))) w) := h_ (fun o a w ho h7 h72 => by
        unfold execOp
        simp only [ho, h7, h72]
        go_simp)
       have hw3' := h_ hw3
       have hxb' := h_ hxb
       rw [hn] at hlast
       have d1 : decide ((n : Int) ≤ lastK T k) = false := decide_eq_false (by omega)
       have d2 : decide ((63 : Int) < (n : Int)) = false := decide_eq_false (by omega)
       have hstep' : Hid (lastK T (k + 1) = (n : Int)) := h_ (by rw [hstep.out, hn])
       have hsc' := h_ hsc
       obtain ⟨last, hlk⟩ : ∃ v, lastK T k = v := ⟨_, rfl⟩
       rw [hlk] at d1 ⊢
       clear hx hxr hxo hx0 hx1 hn hlast hstep hnew hblk hfx hI hcI hC hJ hxb hw3 k3 q3 S3 i30 i32 hsc hlk hbI
       go_wp2_with (first | (refine wpList_load_agg 61 rfl rfl rfl _ Tryz.underlying61 rfl I (by rw [hIl.out]; exact item_size) hcI'.out ?_) | (refine wpList_alloc_as 61 rfl rfl J.toArray hJz.out ?_; rw [hxb'.out]) | (refine wpList_store_whole 61 rfl rfl rfl I rfl (by rw [hIl.out]; exact item_size) 61 J.toArray (by rw [← hxb'.out]; exact heap_alloc_new _ _) (by simp [hJl.out, hIl.out]) hI1.out ?_; rw [hw3'.out]))
       refine wp_region_quiet (C := fun w' => Kept (fun _ => False) w3 w') (by kernel_rfl) (by kernel_rfl) (Kept.refl _ _).drew ?_
       simp only []
       refine wpQuiet_step (fun K hK => ?_); go_simp; refine ⟨_, fun _ _ => rfl, hK _ ?_⟩; clear hK K
       refine wpQuiet_step (fun K hK => ?_); refine q_on rfl (q_val (.int .i64 (n : Int)) (fun W hW => by have hc := hW.cell c30.out id; clear hW; go_simp) (hK _ ?_)); clear hK K
       refine wpQuiet_step (fun K hK => ?_); go_simp; refine ⟨_, fun _ _ => rfl, hK _ ?_⟩; clear hK K
       refine wpQuiet_step (fun K hK => ?_); refine q_on rfl (q_val (.bool false) (fun W hW => by go_simp) (hK _ ?_)); clear hK K
       refine wpQuiet_step (fun K hK => ?_); go_simp; refine ⟨_, fun _ _ => rfl, hK _ ?_⟩; clear hK K
       refine wpQuiet_step (fun K hK => ?_); go_simp; refine ⟨_, fun _ _ => rfl, hK _ ?_⟩; clear hK K
       refine wpQuiet_step (fun K hK => ?_); refine q_on rfl (q_val (.int .i64 (n : Int)) (fun W hW => by have hc := hW.cell c30.out id; clear hW; go_simp) (hK _ ?_)); clear hK K
       refine wpQuiet_step (fun K hK => ?_); refine q_on rfl (q_val (.bool false) (fun W hW => by go_simp) (hK _ ?_)); clear hK K
       refine wpQuiet_step (fun K hK => ?_); refine q_on rfl (q_val (.bool false) (fun W hW => by go_simp) (hK _ ?_)); clear hK K
       refine wpQuiet_step (fun K hK => ?_); go_simp; refine ⟨_, fun _ _ => rfl, hK _ ?_⟩; clear hK K
       refine wpQuiet_step (fun K hK => ?_); go_simp; refine ⟨_, fun _ _ => rfl, hK _ ?_⟩; clear hK K
       refine wpQuiet_step (fun K hK => ?_); refine q_on rfl (q_val (.agg C.toArray) (fun W hW => exec_load_agg rfl (by rfl) C Tryz.underlying35 rfl (by rw [hCl.out]; exact block_size) (fun j v hj => hW.cell (c32.out j v hj) id)) (hK _ ?_)); clear hK K
       refine wpQuiet_step (fun K hK => ?_); go_simp; refine ⟨_, fun _ _ => rfl, hK _ ?_⟩; clear hK K
       refine wpQuiet_step (fun K hK => ?_); refine q_on rfl (q_val (.int .i64 (n : Int)) (fun W hW => by have hc := hW.cell c30.out id; clear hW; go_simp) (hK _ ?_)); clear hK K
       refine wpQuiet_step (fun K hK => ?_); refine q_on rfl (q_val (.pointer (some ⟨yB, 0 + n * 16, none⟩)) (fun W hW => hix.out _ _ W rfl (by rfl) (by rfl)) (hK _ ?_)); clear hK K
       refine wpQuiet_step (fun K hK => ?_); refine q_on rfl (q_val (.agg C.toArray) (fun W hW => exec_load_agg (g := yB) (off := 0 + n * 16) rfl (by rfl) C Tryz.underlying35 rfl (by rw [hCl.out]; exact block_size) (fun j v hj => by rw [Nat.zero_add, cell_of_heap (hW.get hcy.out id)]; simpa using hblk'.out j v hj)) (hK _ ?_)); clear hK K
       refine wpQuiet_step (fun K hK => ?_); refine q_on rfl (q_val (.bool false) (fun W hW => hqC.out _ _ W (.tmp 113) (.tmp 117) _ rfl (by rfl) (by rfl)) (hK _ ?_)); clear hK K
       refine wpQuiet_step (fun K hK => ?_); refine q_on rfl (q_val (.bool false) (fun W hW => by go_simp) (hK _ ?_)); clear hK K
       refine wpQuiet_step (fun K hK => ?_); go_simp; refine ⟨_, fun _ _ => rfl, hK _ ?_⟩; clear hK K
       refine wpQuiet_step (fun K hK => ?_); refine q_on rfl (q_val (.agg I.toArray) (fun W hW => exec_load_agg rfl (by rfl) I Tryz.underlying61 rfl (by rw [hIl.out]; exact item_size) (fun j v hj => hW.cell (hl3.out j v hj) id)) (hK _ ?_)); clear hK K
       refine wpQuiet_step (fun K hK => ?_); refine q_on rfl (q_call 37 #[.agg I.toArray] (.bool true) (fun W hW => by go_simp) (fun W hW => (hfx'.out W).mono fun e w' ⟨he, hk⟩ => ⟨he, hW.trans hk⟩) (hK _ ?_)); clear hK K
       refine wpQuiet_step (fun K hK => ?_); refine q_on rfl (q_val (.bool false) (fun W hW => by go_simp) (hK _ ?_)); clear hK K
       refine wpQuiet_step (fun K hK => ?_); refine q_on rfl (q_val (.bool false) (fun W hW => by go_simp) (hK _ ?_)); clear hK K
       refine wpQuiet_nil ?_
       intro wq hwq
       have L4 := h_ (L3.out.fresh hwq)
       have c40 := hwq.cell c30.out id
       have f40 := free_of_heap L4.out.seen n
       have s40 := cell_of_heap L4.out.seen n
       have hz := hsc'.out
       rw [List.getElem?_toArray, hz] at s40
       obtain ⟨w5, hw5⟩ : ∃ w5, wq.setCell ⟨sv, n, none⟩ (.int .i64 1) = w5 := ⟨_, rfl⟩
       have L5 : Hid (SeenAt w12 sv T (k + 1) w5) := h_ (by rw [← hw5]; exact L4.out.set hs13.out hseen.out)
       have hw5' := h_ hw5
       clear hz hw5 hwq
       go_wp2_with fail
       rw [hw5'.out]
       go_roundw
       case rel => exact ⟨k + 1, by omega, by rw [hstep'.out], by go_num, L5⟩
       case measure => simp [intOf] <;> omega
      ·obtain rfl : k = T.length := by omega
       have hki : decide ((T.length : Int) < (T.length : Int)) = false := decide_eq_false (by omega)
       obtain ⟨w14, hw14⟩ : ∃ u, wr = u := ⟨_, rfl⟩
       rw [hw14] at hL S ⊢
       clear hw14
       have hsn := h_ hL.out.seen
       go_wp2_with fail
       go_loopw [134] (fun i wr => ∃ j : Nat, j ≤ 64 ∧ i = .int .i64 j ∧ Hid (Kept (fun _ => False) w14 wr)) (fun i _ => 64 - (intOf i).toNat)
       case atStart => exact ⟨0, by omega, rfl, h_ (Kept.refl _ _)⟩
       case round =>
        obtain ⟨j, hj, rfl, hK2⟩ := hrel
        by_cases hlt2 : j < 64
        ·have hji : (j : Int) < 64 := by omega
         obtain ⟨C, hC⟩ : ∃ C, blockCells (i1.w (j : Int)) = C := ⟨_, rfl⟩
         obtain ⟨D, hD⟩ : ∃ D, blockCells (i2.w (j : Int)) = D := ⟨_, rfl⟩
         have hCl : Hid (C.length = 16) := h_ (by rw [← hC]; exact blockCells_len _)
         have hDl : Hid (D.length = 16) := h_ (by rw [← hD]; exact blockCells_len _)
         have hCx : Hid (∀ q v, C[q]? = some v → X[j * 16 + q]? = some v) := h_ (fun q v hq => by
          have hq16 : q < 16 := by
           have := (List.getElem?_eq_some_iff.1 hq).1
           rwa [← hC, blockCells_len] at this
          rw [← hX.out, imgCells_get hBx.out hlt2 hq16, ← blockCells_eq _ (hBx.out.len _), hC]
          exact hq)
         have hDy : Hid (∀ q v, D[q]? = some v → Y[j * 16 + q]? = some v) := h_ (fun q v hq => by
          have hq16 : q < 16 := by
           have := (List.getElem?_eq_some_iff.1 hq).1
           rwa [← hD, blockCells_len] at this
          rw [← hY.out, imgCells_get hBy.out hlt2 hq16, ← blockCells_eq _ (hBy.out.len _), hD]
          exact hq)
         have hcx := h_ ((S.out.fresh hK2.out).bx)
         have hcy := h_ ((S.out.fresh hK2.out).by_)
         have hcs := h_ (hK2.out.get hsn.out id)
         have hix : Hid (∀ (o : Oper) (a : Act) (w : World), o.op = .indexAddr 37 (.tmp 16) (.tmp 137) → a.eval (.tmp 16) = .pointer (some ⟨xB, 0, none⟩) → a.eval (.tmp 137) = .int .i64 (j : Int) → (execOp a.eval o).run Tryz.prog w = .ok (.value (.pointer (some ⟨xB, 0 + j * 16, none⟩))) w) := h_ (fun o a w ho h7 h72 => by
          unfold execOp
          simp only [ho, h7, h72]
          go_simp)
         have hiy : Hid (∀ (o : Oper) (a : Act) (w : World), o.op = .indexAddr 37 (.tmp 17) (.tmp 140) → a.eval (.tmp 17) = .pointer (some ⟨yB, 0, none⟩) → a.eval (.tmp 140) = .int .i64 (j : Int) → (execOp a.eval o).run Tryz.prog w = .ok (.value (.pointer (some ⟨yB, 0 + j * 16, none⟩))) w) := h_ (fun o a w ho h7 h72 => by
          unfold execOp
          simp only [ho, h7, h72]
          go_simp)
         have hqC : Hid (∀ (o : Oper) (a : Act) (w : World) (x' y : Operand) (u : TypeId), o.op = .binOp .neq 35 x' y u → a.eval x' = .agg C.toArray → a.eval y = .agg D.toArray → (execOp a.eval o).run Tryz.prog w = .ok (.value (.bool (!decide (i1.w (j : Int) = i2.w (j : Int))))) w) := h_ (fun o a w x' y u ho hx hy => exec_blk_neq (w := w) x' y ho (hBx.out.len (j : Int)) (hBy.out.len (j : Int)) (by rw [hC]; exact hx) (by rw [hD]; exact hy))
         by_cases heq : i1.w (j : Int) = i2.w (j : Int)
         ·rw [decide_eq_true heq] at hqC
          clear hC hD heq
          go_wp2_with fail
          refine wp_region_quiet (C := fun w' => Kept (fun _ => False) wr w') (by kernel_rfl) (by kernel_rfl) (Kept.refl _ _).drew ?_
          simp only []
          refine wpQuiet_step (fun K hK => ?_); go_simp; refine ⟨_, fun _ _ => rfl, hK _ ?_⟩; clear hK K
          refine wpQuiet_step (fun K hK => ?_); refine q_on rfl (q_val (.pointer (some ⟨xB, 0 + j * 16, none⟩)) (fun W hW => hix.out _ _ W rfl (by rfl) (by rfl)) (hK _ ?_)); clear hK K
          refine wpQuiet_step (fun K hK => ?_); refine q_on rfl (q_val (.agg C.toArray) (fun W hW => exec_load_agg (g := xB) (off := 0 + j * 16) rfl (by rfl) C Tryz.underlying35 rfl (by rw [hCl.out]; exact block_size) (fun q v hq => by rw [Nat.zero_add, cell_of_heap (hW.get hcx.out id)]; simpa using hCx.out q v hq)) (hK _ ?_)); clear hK K
          refine wpQuiet_step (fun K hK => ?_); go_simp; refine ⟨_, fun _ _ => rfl, hK _ ?_⟩; clear hK K
          refine wpQuiet_step (fun K hK => ?_); refine q_on rfl (q_val (.pointer (some ⟨yB, 0 + j * 16, none⟩)) (fun W hW => hiy.out _ _ W rfl (by rfl) (by rfl)) (hK _ ?_)); clear hK K
          refine wpQuiet_step (fun K hK => ?_); refine q_on rfl (q_val (.agg D.toArray) (fun W hW => exec_load_agg (g := yB) (off := 0 + j * 16) rfl (by rfl) D Tryz.underlying35 rfl (by rw [hDl.out]; exact block_size) (fun q v hq => by rw [Nat.zero_add, cell_of_heap (hW.get hcy.out id)]; simpa using hDy.out q v hq)) (hK _ ?_)); clear hK K
          refine wpQuiet_step (fun K hK => ?_); refine q_on rfl (q_val (.bool false) (fun W hW => hqC.out _ _ W (.tmp 139) (.tmp 142) _ rfl (by rfl) (by rfl)) (hK _ ?_)); clear hK K
          refine wpQuiet_step (fun K hK => ?_); go_simp; refine ⟨_, fun _ _ => rfl, hK _ ?_⟩; clear hK K
          refine wpQuiet_step (fun K hK => ?_); refine q_off rfl (hK _ ?_); clear hK K
          refine wpQuiet_step (fun K hK => ?_); refine q_off rfl (hK _ ?_); clear hK K
          refine wpQuiet_step (fun K hK => ?_); refine q_off rfl (hK _ ?_); clear hK K
          refine wpQuiet_step (fun K hK => ?_); refine q_off rfl (hK _ ?_); clear hK K
          refine wpQuiet_step (fun K hK => ?_); refine q_on rfl (q_val (.bool false) (fun W hW => by go_simp) (hK _ ?_)); clear hK K
          refine wpQuiet_nil ?_
          intro wq hwq
          have fin := h_ (hK2.out.trans hwq)
          clear hwq
          go_wp2_with fail
          go_roundw
          case rel => exact ⟨j + 1, by omega, by go_num, fin⟩
          case measure => simp [intOf] <;> omega
         ·rw [decide_eq_false heq] at hqC
          have hs1 : (seenC T T.length)[j]? = some (.int .i64 1) := by
           obtain ⟨x, hx, hxk⟩ := hkeys.out (j : Int) (by omega) (by omega) heq
           rw [seenC_get T T.length hlt2, seen_has hx hxk]
          have hs1' := h_ hs1
          have hiz : Hid (∀ (o : Oper) (a : Act) (w : World), o.op = .indexAddr 80 (.tmp 18) (.tmp 145) → a.eval (.tmp 18) = .pointer (some ⟨sv, 0, none⟩) → a.eval (.tmp 145) = .int .i64 (j : Int) → (execOp a.eval o).run Tryz.prog w = .ok (.value (.pointer (some ⟨sv, j, none⟩))) w) := h_ (fun o a w ho h7 h72 => by
           unfold execOp
           simp only [ho, h7, h72]
           go_simp)
          clear hC hD heq hs1
          go_wp2_with fail
          refine wp_region_quiet (C := fun w' => Kept (fun _ => False) wr w') (by kernel_rfl) (by kernel_rfl) (Kept.refl _ _).drew ?_
          simp only []
          refine wpQuiet_step (fun K hK => ?_); go_simp; refine ⟨_, fun _ _ => rfl, hK _ ?_⟩; clear hK K
          refine wpQuiet_step (fun K hK => ?_); refine q_on rfl (q_val (.pointer (some ⟨xB, 0 + j * 16, none⟩)) (fun W hW => hix.out _ _ W rfl (by rfl) (by rfl)) (hK _ ?_)); clear hK K
          refine wpQuiet_step (fun K hK => ?_); refine q_on rfl (q_val (.agg C.toArray) (fun W hW => exec_load_agg (g := xB) (off := 0 + j * 16) rfl (by rfl) C Tryz.underlying35 rfl (by rw [hCl.out]; exact block_size) (fun q v hq => by rw [Nat.zero_add, cell_of_heap (hW.get hcx.out id)]; simpa using hCx.out q v hq)) (hK _ ?_)); clear hK K
          refine wpQuiet_step (fun K hK => ?_); go_simp; refine ⟨_, fun _ _ => rfl, hK _ ?_⟩; clear hK K
          refine wpQuiet_step (fun K hK => ?_); refine q_on rfl (q_val (.pointer (some ⟨yB, 0 + j * 16, none⟩)) (fun W hW => hiy.out _ _ W rfl (by rfl) (by rfl)) (hK _ ?_)); clear hK K
          refine wpQuiet_step (fun K hK => ?_); refine q_on rfl (q_val (.agg D.toArray) (fun W hW => exec_load_agg (g := yB) (off := 0 + j * 16) rfl (by rfl) D Tryz.underlying35 rfl (by rw [hDl.out]; exact block_size) (fun q v hq => by rw [Nat.zero_add, cell_of_heap (hW.get hcy.out id)]; simpa using hDy.out q v hq)) (hK _ ?_)); clear hK K
          refine wpQuiet_step (fun K hK => ?_); refine q_on rfl (q_val (.bool true) (fun W hW => hqC.out _ _ W (.tmp 139) (.tmp 142) _ rfl (by rfl) (by rfl)) (hK _ ?_)); clear hK K
          refine wpQuiet_step (fun K hK => ?_); go_simp; refine ⟨_, fun _ _ => rfl, hK _ ?_⟩; clear hK K
          refine wpQuiet_step (fun K hK => ?_); refine q_on rfl (q_val (.int .i64 (j : Int)) (fun W hW => by go_simp) (hK _ ?_)); clear hK K
          refine wpQuiet_step (fun K hK => ?_); refine q_on rfl (q_val (.pointer (some ⟨sv, j, none⟩)) (fun W hW => hiz.out _ _ W rfl (by rfl) (by rfl)) (hK _ ?_)); clear hK K
          refine wpQuiet_step (fun K hK => ?_); refine q_on rfl (q_val (.int .i64 1) (fun W hW => by have hc := cell_of_heap (hW.get hcs.out id) j; have hz := hs1'.out; rw [List.getElem?_toArray, hz] at hc; clear hW hz; go_simp) (hK _ ?_)); clear hK K
          refine wpQuiet_step (fun K hK => ?_); refine q_on rfl (q_val (.bool false) (fun W hW => by go_simp) (hK _ ?_)); clear hK K
          refine wpQuiet_step (fun K hK => ?_); refine q_on rfl (q_val (.bool false) (fun W hW => by go_simp) (hK _ ?_)); clear hK K
          refine wpQuiet_nil ?_
          intro wq hwq
          have fin := h_ (hK2.out.trans hwq)
          clear hwq
          go_wp2_with fail
          go_roundw
          case rel => exact ⟨j + 1, by omega, by go_num, fin⟩
          case measure => simp [intOf] <;> omega
        ·obtain rfl : j = 64 := by omega
         have S14 := h_ (S.out.fresh hK2.out)
         have hi1 : ([i1, i2] : List IM)[0]? = some i1 := rfl
         have C15 := dl_copy S14.out.st (by omega) hi1 (by show 2 ≤ 5; decide)
         rw [r6'.out] at C15
         have C15' := h_ C15
         have hld := h_ S14.out.st.load
         obtain ⟨N, hN⟩ : ∃ N, chunksI T.length size = N := ⟨_, rfl⟩
         obtain ⟨s, hs⟩ : ∃ s : Nat, boundI size = s := ⟨(boundI size).toNat, by have := boundI_in size; omega⟩
         have hall := chunks_all T.length size
         have hA := fun w => deltaChunks T.length size (by omega) (by omega) w
         rw [hN] at hA hall
         rw [hs] at hall
         have hA' := h_ hA
         have hN1 : 1 ≤ N := hall.2.1
         have hN2 : N ≤ 201 := hall.2.2 (by omega)
         have hNs := h_ hall.1
         have hCk : Hid (∀ W (m : Nat), ItemsAt W (.slice At T.length ct) T → Calls Tryz.prog 34 #[.slice At T.length ct, .int .i64 size, .int .i64 (m : Int)] W fun e w' => ∃ u, e = .returned u ∧ w'.ownsRow W.heap.size 61 18 u (chunkL T s m).length ((chunkL T s m).flatMap itemCells) ∧ Kept (fun _ => False) W w') := h_ (fun W m hv => by
          have := deltaChunk hv (by omega) size m
          rw [hs, Int.toNat_natCast] at this
          exact this)
         clear C15 hi1 hall hA hN hs
         go_wp2_with (first | (refine wpList_load_agg 32 rfl rfl rfl _ Tryz.underlying32 rfl [.pointer (some ⟨sb, 0, none⟩)] (by kernel_rfl) hld.out ?_))
         refine C15'.out.mono ?_
         rintro e w15 ⟨rfl, M15, S15, hT15⟩
         have L3 : Hid (∃ A M i3, CaSt w vb sb (0 + l.length + k.length + (T.take (0 * s)).length) [i1, i2, i3] (.slice At T.length ct) T xB yB X Y w15 A M ∧ i3.root = a ∧ i3.w = itemsW (T.take (0 * s)) i1.w) := h_ ⟨A8, M15, i1, by
          rw [Nat.zero_mul, List.take_zero, List.length_nil, Nat.add_zero]
          exact S14.out.to hT15 S15.del (by rw [S15.size, S14.out.st.size]), r6'.out, by rw [Nat.zero_mul, List.take_zero]; rfl⟩
         clear S15 hT15 hld
         go_wp2_with fail
         go_loopw [23, 24, 25] (fun r e c wr => ∃ (m : Nat) (root er : Int), (m : Int) ≤ N ∧ r = .int .i64 root ∧ e = .int .i64 er ∧ c = .int .i64 (m : Int) ∧ ((er = 0 ∧ Hid (∃ A M i3, CaSt w vb sb (0 + l.length + k.length + (T.take (m * s)).length) [i1, i2, i3] (.slice At T.length ct) T xB yB X Y wr A M ∧ i3.root = root ∧ i3.w = itemsW (T.take (m * s)) i1.w)) ∨ (er = 71 ∧ Hid (Kept (fun _ => False) w wr)))) (fun _ _ c _ => (N - intOf c).toNat)
         case atStart => exact ⟨0, a, 0, by omega, rfl, rfl, rfl, .inl ⟨rfl, L3⟩⟩
         case round =>
          obtain ⟨m, root, er, hmN, rfl, rfl, rfl, ⟨rfl, hI⟩ | ⟨rfl, hI⟩⟩ := hrel
          ·obtain ⟨A, M, i3, St, hroot, hw3⟩ := hI.out
           have St' := h_ St
           by_cases hlt3 : (m : Int) < N
           ·have d1 : decide ((m : Int) < N) = true := decide_eq_true hlt3
            have hm1 := take_chunk T s m
            have hlen : (T.take ((m + 1) * s)).length = (T.take (m * s)).length + (chunkL T s m).length := by rw [← hm1, List.length_append]
            have hle : (T.take ((m + 1) * s)).length ≤ T.length := List.length_take_le' ..
            have hW3 : itemsW (chunkL T s m) i3.w = itemsW (T.take ((m + 1) * s)) i1.w := by rw [hw3, ← itemsW_append, hm1]
            have hcr : ∀ x ∈ chunkL T s m, rightB x = true ∧ x.ok := fun x hx => hT.out x (chunkL_sub x hx)
            have hcr' := h_ hcr
            have hW3' := h_ hW3
            obtain ⟨G, g⟩ := dl_live St.st.del (by omega)
            rcases del_deliver (k := 2) (i := i3) St.st.del rfl (xs := chunkL T s m) (by omega) hcr g with ⟨M2, b2, i4, e2, D2, r2, w2', p2, z2, y2⟩ | ⟨M2, e2, D2, z2, _⟩
            ·have D2' : Hid (DelP (0 + l.length + k.length + (T.take (m * s)).length + (chunkL T s m).length) M2 [i1, i2, i4]) := h_ D2
             have r2' := h_ r2
             have w2h := h_ w2'
             have e2' := h_ e2
             clear D2 r2 w2' p2 y2 e2 hm1 hW3 hcr hw3 St hI
             go_wp2_with fail
             refine (hA'.out _).mono ?_
             rintro e wa ⟨rfl, ka⟩
             have Sa := h_ (St'.out.fresh ka)
             have Sd := h_ (Sa.out.fresh (Kept.refl _ _).drew)
             clear ka
             go_wp2_with fail
             refine wp_region_held_drew (S := fun W => ∀ j v, [Value.pointer (some ⟨sb, 0, none⟩)][j]? = some v → W.cell? ⟨vb, 0 + j, none⟩ = some v) (by kernel_rfl) Sa.out.st.load (fun hS => ?_)
             refine wpAnyH_take (i := 0) (v := .agg #[.pointer (some ⟨sb, 0, none⟩)]) rfl (by kernel_rfl) (by kernel_rfl) (by kernel_rfl) (fun _ _ _ h => h) (Or.inl ⟨by rfl, fun W hW => exec_load_agg rfl (by rfl) [.pointer (some ⟨sb, 0, none⟩)] Tryz.underlying32 rfl (by kernel_rfl) hW⟩) (by assumption) ?_
             simp only [Act.put, q1_, q2_, q3_, List.setIfInBounds_toArray, q5_, q6_]
             refine wpAnyH_take (i := 1) (v := .int .i64 root) rfl (by kernel_rfl) (by kernel_rfl) (by kernel_rfl) (fun _ _ _ h => h) (Or.inl ⟨by rfl, fun W hW => by go_simp⟩) (by assumption) ?_
             simp only [Act.put, q1_, q2_, q3_, List.setIfInBounds_toArray, q5_, q6_]
             refine wpAnyH_take (i := 2) (v := .slice At T.length ct) rfl (by kernel_rfl) (by kernel_rfl) (by kernel_rfl) (fun _ _ _ h => h) (Or.inl ⟨by rfl, fun W hW => by go_simp⟩) (by assumption) ?_
             simp only [Act.put, q1_, q2_, q3_, List.setIfInBounds_toArray, q5_, q6_]
             refine wpAnyH_take (i := 3) (v := .int .i64 size) rfl (by kernel_rfl) (by kernel_rfl) (by kernel_rfl) (fun _ _ _ h => h) (Or.inl ⟨by rfl, fun W hW => by go_simp⟩) (by assumption) ?_
             simp only [Act.put, q1_, q2_, q3_, List.setIfInBounds_toArray, q5_, q6_]
             refine wpAnyH_take (i := 4) (v := .int .i64 (m : Int)) rfl (by kernel_rfl) (by kernel_rfl) (by kernel_rfl) (fun _ _ _ h => h) (Or.inl ⟨by rfl, fun W hW => by go_simp⟩) (by assumption) ?_
             simp only [Act.put, q1_, q2_, q3_, List.setIfInBounds_toArray, q5_, q6_]
             refine wpAnyH_ready (rs := [5]) (by kernel_rfl) (by simp) ?_
             refine AllReadyH.cons rfl (fun K hK => ?_) ?_
             ·rw [if_pos (by rfl)]
              simp only [Go.wp_at_zero, Go.wp_at_succ]
              go_simp
              refine (hCk.out _ m Sd.out.items.at_).mono ?_
              rintro e w5 ⟨u, rfl, hown, kc⟩
              have I5 := h_ (items_made Sd.out.st.own.store hown rfl)
              obtain ⟨_, Au, cu, rfl, hu1, hu2, _⟩ := SliceAt.of_owns hown
              have S5 := h_ (Sd.out.fresh kc)
              have CA := dl_apply S5.out.st (by omega) i3.root I5.out (by omega) (fun x hx => (hcr'.out x hx).2) e2'.out
              rw [hroot] at CA
              have CA' : Hid (Calls Tryz.prog 29 #[.agg #[.pointer (some ⟨sb, 0, none⟩)], .int .i64 root, .slice Au (chunkL T s m).length cu] w5 fun e w' => ∃ A', e = .returned (.tuple #[.int .i64 b2, .int .i64 0]) ∧ StoreTo A A' M2 w5 w') := h_ CA
              clear hown kc CA
              refine hK.out _ _ S5.out.st.load (fun hS5 => ?_)
              clear hK K
              try simp only [Act.put, q1_, q2_, q3_, List.setIfInBounds_toArray, q5_, q6_]
              refine wpAnyH_ready (rs := [6]) (by kernel_rfl) (by simp) ?_
              refine AllReadyH.cons rfl (fun K hK => ?_) ?_
              ·rw [if_pos (by rfl)]
               simp only [Go.wp_at_zero, Go.wp_at_succ]
               go_simp
               refine CA'.out.mono ?_
               rintro e w6 ⟨A6, rfl, hT6⟩
               have S6 := h_ (S5.out.to hT6 D2'.out z2)
               have V6 := h_ (S5.out.st.var.to hT6)
               refine hK.out _ _ V6.out.load (fun hS6 => ?_)
               clear hK K
               try simp only [Act.put, q1_, q2_, q3_, List.setIfInBounds_toArray, q5_, q6_]
               refine wpAnyH_take (i := 7) (v := .tuple #[.int .i64 b2, .int .i64 0]) rfl (by kernel_rfl) (by kernel_rfl) (by kernel_rfl) (fun _ _ _ h => h) (Or.inl ⟨by rfl, fun W hW => by go_simp⟩) (by assumption) ?_
               simp only [Act.put, q1_, q2_, q3_, List.setIfInBounds_toArray, q5_, q6_]
               refine wpAnyH_take (i := 8) (v := .int .i64 b2) rfl (by kernel_rfl) (by kernel_rfl) (by kernel_rfl) (fun _ _ _ h => h) (Or.inl ⟨by rfl, fun W hW => by go_simp⟩) (by assumption) ?_
               simp only [Act.put, q1_, q2_, q3_, List.setIfInBounds_toArray, q5_, q6_]
               refine wpAnyH_take (i := 9) (v := .int .i64 0) rfl (by kernel_rfl) (by kernel_rfl) (by kernel_rfl) (fun _ _ _ h => h) (Or.inl ⟨by rfl, fun W hW => by go_simp⟩) (by assumption) ?_
               simp only [Act.put, q1_, q2_, q3_, List.setIfInBounds_toArray, q5_, q6_]
               refine wpAnyH_take (i := 10) (v := .int .i64 b2) rfl (by kernel_rfl) (by kernel_rfl) (by kernel_rfl) (fun _ _ _ h => h) (Or.inl ⟨by rfl, fun W hW => by go_simp⟩) (by assumption) ?_
               simp only [Act.put, q1_, q2_, q3_, List.setIfInBounds_toArray, q5_, q6_]
               refine wpAnyH_take (i := 11) (v := .int .i64 0) rfl (by kernel_rfl) (by kernel_rfl) (by kernel_rfl) (fun _ _ _ h => h) (Or.inl ⟨by rfl, fun W hW => by go_simp⟩) (by assumption) ?_
               simp only [Act.put, q1_, q2_, q3_, List.setIfInBounds_toArray, q5_, q6_]
               refine wpAnyH_done (by kernel_rfl) ?_ _
               have fin : Hid (∃ A M i3, CaSt w vb sb (0 + l.length + k.length + (T.take ((m + 1) * s)).length) [i1, i2, i3] (.slice At T.length ct) T xB yB X Y w6 A M ∧ i3.root = b2 ∧ i3.w = itemsW (T.take ((m + 1) * s)) i1.w) := h_ ⟨A6, M2, i4, by rw [hlen, ← Nat.add_assoc]; exact S6.out, r2'.out, by rw [w2h.out, hW3'.out]⟩
               clear hS hS5 hS6 hT6
               go_wp2_with fail
               go_roundw
               case rel => exact ⟨m + 1, b2, 0, by omega, by first | rfl | go_num, by first | rfl | go_num, by go_num, .inl ⟨by first | rfl | omega, fin⟩⟩
               case measure => simp [intOf] <;> omega
              exact AllReadyH.nil
             exact AllReadyH.nil
            ·have e2' := h_ e2
             clear D2 e2 z2 hm1 hW3 hcr hw3 St hI
             go_wp2_with fail
             refine (hA'.out _).mono ?_
             rintro e wa ⟨rfl, ka⟩
             have Sa := h_ (St'.out.fresh ka)
             have Sd := h_ (Sa.out.fresh (Kept.refl _ _).drew)
             clear ka
             go_wp2_with fail
             refine wp_region_held_drew (S := fun W => ∀ j v, [Value.pointer (some ⟨sb, 0, none⟩)][j]? = some v → W.cell? ⟨vb, 0 + j, none⟩ = some v) (by kernel_rfl) Sa.out.st.load (fun hS => ?_)
             refine wpAnyH_take (i := 0) (v := .agg #[.pointer (some ⟨sb, 0, none⟩)]) rfl (by kernel_rfl) (by kernel_rfl) (by kernel_rfl) (fun _ _ _ h => h) (Or.inl ⟨by rfl, fun W hW => exec_load_agg rfl (by rfl) [.pointer (some ⟨sb, 0, none⟩)] Tryz.underlying32 rfl (by kernel_rfl) hW⟩) (by assumption) ?_
             simp only [Act.put, q1_, q2_, q3_, List.setIfInBounds_toArray, q5_, q6_]
             refine wpAnyH_take (i := 1) (v := .int .i64 root) rfl (by kernel_rfl) (by kernel_rfl) (by kernel_rfl) (fun _ _ _ h => h) (Or.inl ⟨by rfl, fun W hW => by go_simp⟩) (by assumption) ?_
             simp only [Act.put, q1_, q2_, q3_, List.setIfInBounds_toArray, q5_, q6_]
             refine wpAnyH_take (i := 2) (v := .slice At T.length ct) rfl (by kernel_rfl) (by kernel_rfl) (by kernel_rfl) (fun _ _ _ h => h) (Or.inl ⟨by rfl, fun W hW => by go_simp⟩) (by assumption) ?_
             simp only [Act.put, q1_, q2_, q3_, List.setIfInBounds_toArray, q5_, q6_]
             refine wpAnyH_take (i := 3) (v := .int .i64 size) rfl (by kernel_rfl) (by kernel_rfl) (by kernel_rfl) (fun _ _ _ h => h) (Or.inl ⟨by rfl, fun W hW => by go_simp⟩) (by assumption) ?_
             simp only [Act.put, q1_, q2_, q3_, List.setIfInBounds_toArray, q5_, q6_]
             refine wpAnyH_take (i := 4) (v := .int .i64 (m : Int)) rfl (by kernel_rfl) (by kernel_rfl) (by kernel_rfl) (fun _ _ _ h => h) (Or.inl ⟨by rfl, fun W hW => by go_simp⟩) (by assumption) ?_
             simp only [Act.put, q1_, q2_, q3_, List.setIfInBounds_toArray, q5_, q6_]
             refine wpAnyH_ready (rs := [5]) (by kernel_rfl) (by simp) ?_
             refine AllReadyH.cons rfl (fun K hK => ?_) ?_
             ·rw [if_pos (by rfl)]
              simp only [Go.wp_at_zero, Go.wp_at_succ]
              go_simp
              refine (hCk.out _ m Sd.out.items.at_).mono ?_
              rintro e w5 ⟨u, rfl, hown, kc⟩
              have I5 := h_ (items_made Sd.out.st.own.store hown rfl)
              obtain ⟨_, Au, cu, rfl, hu1, hu2, _⟩ := SliceAt.of_owns hown
              have S5 := h_ (Sd.out.fresh kc)
              have CA := dl_apply S5.out.st (by omega) i3.root I5.out (by omega) (fun x hx => (hcr'.out x hx).2) e2'.out
              rw [hroot] at CA
              have CA' : Hid (Calls Tryz.prog 29 #[.agg #[.pointer (some ⟨sb, 0, none⟩)], .int .i64 root, .slice Au (chunkL T s m).length cu] w5 fun e w' => ∃ A', e = .returned (.tuple #[.int .i64 (-1), .int .i64 71]) ∧ StoreTo A A' M2 w5 w') := h_ CA
              clear hown kc CA
              refine hK.out _ _ S5.out.st.load (fun hS5 => ?_)
              clear hK K
              try simp only [Act.put, q1_, q2_, q3_, List.setIfInBounds_toArray, q5_, q6_]
              refine wpAnyH_ready (rs := [6]) (by kernel_rfl) (by simp) ?_
              refine AllReadyH.cons rfl (fun K hK => ?_) ?_
              ·rw [if_pos (by rfl)]
               simp only [Go.wp_at_zero, Go.wp_at_succ]
               go_simp
               refine CA'.out.mono ?_
               rintro e w6 ⟨A6, rfl, hT6⟩
               have S6 := h_ (S5.out.st.own.to hT6)
               have V6 := h_ (S5.out.st.var.to hT6)
               refine hK.out _ _ V6.out.load (fun hS6 => ?_)
               clear hK K
               try simp only [Act.put, q1_, q2_, q3_, List.setIfInBounds_toArray, q5_, q6_]
               refine wpAnyH_take (i := 7) (v := .tuple #[.int .i64 (-1), .int .i64 71]) rfl (by kernel_rfl) (by kernel_rfl) (by kernel_rfl) (fun _ _ _ h => h) (Or.inl ⟨by rfl, fun W hW => by go_simp⟩) (by assumption) ?_
               simp only [Act.put, q1_, q2_, q3_, List.setIfInBounds_toArray, q5_, q6_]
               refine wpAnyH_take (i := 8) (v := .int .i64 (-1)) rfl (by kernel_rfl) (by kernel_rfl) (by kernel_rfl) (fun _ _ _ h => h) (Or.inl ⟨by rfl, fun W hW => by go_simp⟩) (by assumption) ?_
               simp only [Act.put, q1_, q2_, q3_, List.setIfInBounds_toArray, q5_, q6_]
               refine wpAnyH_take (i := 9) (v := .int .i64 71) rfl (by kernel_rfl) (by kernel_rfl) (by kernel_rfl) (fun _ _ _ h => h) (Or.inl ⟨by rfl, fun W hW => by go_simp⟩) (by assumption) ?_
               simp only [Act.put, q1_, q2_, q3_, List.setIfInBounds_toArray, q5_, q6_]
               refine wpAnyH_take (i := 10) (v := .int .i64 (-1)) rfl (by kernel_rfl) (by kernel_rfl) (by kernel_rfl) (fun _ _ _ h => h) (Or.inl ⟨by rfl, fun W hW => by go_simp⟩) (by assumption) ?_
               simp only [Act.put, q1_, q2_, q3_, List.setIfInBounds_toArray, q5_, q6_]
               refine wpAnyH_take (i := 11) (v := .int .i64 71) rfl (by kernel_rfl) (by kernel_rfl) (by kernel_rfl) (fun _ _ _ h => h) (Or.inl ⟨by rfl, fun W hW => by go_simp⟩) (by assumption) ?_
               simp only [Act.put, q1_, q2_, q3_, List.setIfInBounds_toArray, q5_, q6_]
               refine wpAnyH_done (by kernel_rfl) ?_ _
               have fin := h_ S6.out.kept
               clear hS hS5 hS6 hT6
               go_wp2_with fail
               go_roundw
               case rel => exact ⟨m + 1, (-1), 71, by omega, by first | rfl | go_num, by first | rfl | go_num, by go_num, .inr ⟨by first | rfl | omega, fin⟩⟩
               case measure => simp [intOf] <;> omega
              exact AllReadyH.nil
             exact AllReadyH.nil
           ·have d1 : decide ((m : Int) < N) = false := decide_eq_false hlt3
            have hTall : T.take (m * s) = T := List.take_of_length_le (by
             have h1 := hNs.out
             have h2 : (m : Int) = N := by omega
             rw [← h2] at h1
             have h3 : ((m * s : Nat) : Int) = (m : Int) * (s : Int) := by push_cast; rfl
             omega)
            have hln : (T.take (m * s)).length ≤ 64 := by rw [hTall]; omega
            rw [hTall] at hw3
            have hYc : Hid (imgCells i3.w = imgCells i2.w) := h_ (by rw [hw3]; exact cells_same th.out)
            have m3 : i3 ∈ [i1, i2, i3] := List.mem_cons_of_mem _ (List.mem_cons_of_mem _ (List.mem_cons_self ..))
            have m1 : i1 ∈ [i1, i2, i3] := List.mem_cons_self ..
            have CB := fun W (hK : Kept (fun _ => False) wr W) => dl_all (St'.out.fresh hK).st (by omega) m3
            have CC := fun W (hK : Kept (fun _ => False) wr W) => dl_all (St'.out.fresh hK).st (by omega) m1
            rw [hroot, hYc.out, hY.out] at CB
            rw [r6'.out, hX.out] at CC
            have CB' := h_ CB
            have CC' := h_ CC
            clear CB CC hTall hw3 m3 m1 St hI
            go_wp2_with fail
            refine (hA'.out _).mono ?_
            rintro e wa ⟨rfl, ka⟩
            have Ka := h_ ka
            have hld := h_ (St'.out.fresh ka).st.load
            clear ka
            go_wp2_with (first | (refine wpList_load_agg 32 rfl rfl rfl _ Tryz.underlying32 rfl [.pointer (some ⟨sb, 0, none⟩)] (by kernel_rfl) hld.out ?_))
            refine (CB'.out _ Ka.out).mono ?_
            rintro e wb ⟨gb, rfl, hgb, hg, kb⟩
            have Kb := h_ (Ka.out.trans kb)
            have hg1 := h_ hg
            have hldb := h_ (St'.out.fresh (Ka.out.trans kb)).st.load
            clear hgb hg kb hld
            go_wp2_with (first | (refine wpList_load_agg 32 rfl rfl rfl _ Tryz.underlying32 rfl [.pointer (some ⟨sb, 0, none⟩)] (by kernel_rfl) hldb.out ?_))
            refine (CC'.out _ Kb.out).mono ?_
            rintro e wc ⟨gc, rfl, hgc, hg, kc⟩
            have Kc := h_ (Kb.out.trans kc)
            have hg2 := h_ hg
            have Sc := h_ (St'.out.fresh Kc.out)
            have C16 := ref13Same hBy.out (w := wc) (gb := gb) (by rw [hY.out]; exact kc.get hg1.out id)
            rw [hY.out] at C16
            have C16' := h_ C16
            have C17 := fun W (hK : Kept (fun _ => False) wc W) => ref13Same hBx.out (w := W) (gb := gc) (by rw [hX.out]; exact hK.get hg2.out id)
            rw [hX.out] at C17
            have C17' := h_ C17
            have lY := h_ Sc.out.yload
            clear hgc hg kc hldb C16 C17
            go_wp2_with (first | (refine wpList_exec_g (by rfl) (exec_load_agg rfl (by rfl) Y Tryz.underlying37 rfl (by rw [hYl.out]; exact img_size) lY.out) ?_))
            refine C16'.out.mono ?_
            rintro e wd ⟨rfl, kd⟩
            have Kd := h_ kd
            have lX := h_ (Sc.out.fresh kd).xload
            clear kd
            go_wp2_with (first | (refine wpList_exec_g (by rfl) (exec_load_agg rfl (by rfl) X Tryz.underlying37 rfl (by rw [hXl.out]; exact img_size) lX.out) ?_))
            refine (C17'.out _ Kd.out).mono ?_
            rintro e we ⟨rfl, ke⟩
            have fin := h_ ((Sc.out.st.own.kept.trans Kd.out).trans ke)
            clear ke
            go_wp2_with fail
            go_ret
            exact ⟨rfl, fin.out⟩
          ·by_cases hlt3 : (m : Int) < N
           ·have d1 : decide ((m : Int) < N) = true := decide_eq_true hlt3
            go_wp2_with fail
            refine (hA'.out _).mono ?_
            rintro e wc ⟨rfl, kc⟩
            have fin := h_ (hI.out.trans kc)
            clear kc
            go_wp2_with fail
            go_ret
            exact ⟨rfl, fin.out⟩
           ·have d1 : decide ((m : Int) < N) = false := decide_eq_false hlt3
            go_wp2_with fail
            refine (hA'.out _).mono ?_
            rintro e wc ⟨rfl, kc⟩
            have fin := h_ (hI.out.trans kc)
            clear kc
            go_wp2_with fail
            go_ret
            exact ⟨rfl, fin.out⟩
    ·have C8 := dl_apply S7.out (by omega) i1.root (S7.out.items hv1'.out) (by omega) hok1'.out e8
     rw [r6'.out] at C8
     have C8' := h_ C8
     clear C8 D8 e8
     have hld := h_ S7.out.load
     go_wp2_with (first | (refine wpList_load_agg 32 rfl rfl rfl _ Tryz.underlying32 rfl [.pointer (some ⟨sb, 0, none⟩)] (by kernel_rfl) hld.out ?_))
     refine C8'.out.mono ?_
     rintro e w8 ⟨A8, rfl, hT⟩
     have fin := h_ (S7.out.own.to hT).kept
     clear hT hld
     go_wp2_with fail
     go_ret
     exact ⟨rfl, fin.out⟩
   ·have C6 := h_ (dl_apply S5.out (by decide) (-1) (S5.out.items hv0'.out) (by omega) hok0'.out e6)
    clear D6 e6
    refine C6.out.mono ?_
    rintro e w6 ⟨A6, rfl, hT⟩
    have fin := h_ (S5.out.own.to hT).kept
    clear hT hld5
    go_wp2_with fail
    go_ret
    exact ⟨rfl, fin.out⟩
end Go.Proofs.YtidlchciehdefaaGreat
