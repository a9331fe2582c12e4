/-
 Layer 17: DeltaBack's walk.
-/
import Derived.Test.YtidlchciehdefaaGreatK39
set_option linter.unusedVariables false
set_option linter.unusedSimpArgs false
namespace Go.Proofs.YtidlchciehdefaaGreat
open Go.RowKit
set_option maxRecDepth 100000

set_option maxHeartbeats 16000000 in
theorem backWalk {w : World} (v0 : Value) (l : List ItemM) (hv0 : ItemsAt w v0 l) (hok0 : ∀ x ∈ l, x.ok) (v1 : Value) (k : List ItemM) (hv1 : ItemsAt w v1 k) (hok1 : ∀ x ∈ k, x.ok) :
  Calls Tryz.prog 12 #[v0, v1] w fun e w' => e = .returned (.bool true) ∧ Kept (fun _ => False) w w' := by
 obtain ⟨_, A0, c0, rfl, hc1, hc2, _⟩ := id hv0
 obtain ⟨_, A1, c1, rfl, hd1, hd2, _⟩ := id hv1
 unfold maxLen at hc2 hd2
 have hA0 := h_ (fun W (hK : Kept (fun _ => False) w W) => ref17All (SliceAt.fresh hv0 hK) hok0)
 have hA1 := h_ (fun W (hK : Kept (fun _ => False) w W) => ref17All (SliceAt.fresh hv1 hK) hok1)
 have hv0' := h_ hv0
 have hv1' := h_ hv1
 have hok0' := h_ hok0
 have hok1' := h_ hok1
 clear hv0 hv1 hok0 hok1
 by_cases hb0 : 40 < l.length
 ·have d0 : decide ((40 : Int) < (l.length : Int)) = true := decide_eq_true (by omega)
  go_enter Tryz.func12, Tryz.ntmps12
  go_wp2_with fail
  refine (deltaAlive _).mono ?_
  rintro e w1 ⟨rfl, k1⟩
  have K1 := h_ k1
  clear k1
  go_wp2_with fail
  go_ret
  exact ⟨rfl, K1.out⟩
 have d0 : decide ((40 : Int) < (l.length : Int)) = false := decide_eq_false (by omega)
 by_cases hb1 : 40 < k.length
 ·have d1 : decide ((40 : Int) < (k.length : Int)) = true := decide_eq_true (by omega)
  go_enter Tryz.func12, Tryz.ntmps12
  go_wp2_with fail
  refine (deltaAlive _).mono ?_
  rintro e w1 ⟨rfl, k1⟩
  have K1 := h_ k1
  clear k1
  go_wp2_with fail
  go_ret
  exact ⟨rfl, K1.out⟩
 have d1 : decide ((40 : Int) < (k.length : Int)) = false := decide_eq_false (by omega)
 cases ha0 : l.all rightB
 ·rw [ha0] at hA0
  clear ha0
  go_enter Tryz.func12, Tryz.ntmps12
  go_wp2_with fail
  refine (deltaAlive _).mono ?_
  rintro e w1 ⟨rfl, k1⟩
  have K1 := h_ k1
  clear k1
  go_wp2_with fail
  refine (hA0.out _ K1.out).mono ?_
  rintro e w2 ⟨rfl, k2⟩
  have K2 := h_ (K1.out.trans k2)
  clear k2
  go_wp2_with fail
  go_ret
  exact ⟨rfl, K2.out⟩
 ·have hx0 : Hid (∀ x ∈ l, rightB x = true ∧ x.ok) := h_ (fun x hx => ⟨List.all_eq_true.1 ha0 x hx, hok0'.out x hx⟩)
  rw [ha0] at hA0
  clear ha0
  cases ha1 : k.all rightB
  ·rw [ha1] at hA1
   clear ha1
   go_enter Tryz.func12, Tryz.ntmps12
   go_wp2_with fail
   refine (deltaAlive _).mono ?_
   rintro e w1 ⟨rfl, k1⟩
   have K1 := h_ k1
   clear k1
   go_wp2_with fail
   refine (hA0.out _ K1.out).mono ?_
   rintro e w2 ⟨rfl, k2⟩
   have K2 := h_ (K1.out.trans k2)
   clear k2
   go_wp2_with fail
   refine (hA1.out _ K2.out).mono ?_
   rintro e w3 ⟨rfl, k3⟩
   have K3 := h_ (K2.out.trans k3)
   clear k3
   go_wp2_with fail
   go_ret
   exact ⟨rfl, K3.out⟩
  ·have hx1 : Hid (∀ x ∈ k, rightB x = true ∧ x.ok) := h_ (fun x hx => ⟨List.all_eq_true.1 ha1 x hx, hok1'.out x hx⟩)
   rw [ha1] at hA1
   clear ha1
   have hm := fun w => made17 244 (by decide) (by decide) w
   rw [show (min (244 : Int) 244 - 4).toNat = 240 from by decide] at hm
   have hm' := h_ hm
   clear hm
   go_enter Tryz.func12, Tryz.ntmps12
   go_wp2_with fail
   refine (deltaAlive _).mono ?_
   rintro e w1 ⟨rfl, k1⟩
   have K1 := h_ k1
   clear k1
   go_wp2_with fail
   refine (hA0.out _ K1.out).mono ?_
   rintro e w2 ⟨rfl, k2⟩
   have K2 := h_ (K1.out.trans k2)
   clear k2
   go_wp2_with fail
   refine (hA1.out _ K2.out).mono ?_
   rintro e w3 ⟨rfl, k3⟩
   have K3 := h_ (K2.out.trans k3)
   clear k3
   go_wp2_with fail
   refine (hm'.out _).mono ?_
   rintro e w4 ⟨A, rfl, hA, hk, hn⟩
   obtain ⟨vb, hvb⟩ : ∃ vb, w4.heap.size = vb := ⟨_, rfl⟩
   have hO := ImVar.made (b := vb) ⟨hA, K3.out.trans hk, fun j hj => Nat.le_trans K3.out.size (hn j hj)⟩ hvb
   obtain ⟨w5, hw5⟩ : ∃ w5, (w4.alloc (.cells #[.pointer none] 32)).setRow vb #[.pointer (some ⟨A.sb, 0, none⟩)] = w5 := ⟨_, rfl⟩
   rw [hw5] at hO
   obtain ⟨sb, hsb⟩ : ∃ sb, A.sb = sb := ⟨_, rfl⟩
   rw [hsb] at hO hw5 ⊢
   have S5 : Hid (DlSt w vb sb 0 [.none] w5 A (newM 240)) := h_ ⟨hO.1, hO.2, DelP.fresh 240 (by decide), rfl⟩
   have hw5' := h_ hw5
   have hvb' := h_ hvb
   clear hA hk hn hw5 hvb hO hsb
   have hld5 := h_ S5.out.load
   go_wp2_with (first | (refine wpList_alloc_as 32 rfl rfl #[.pointer none] images_zero ?_; rw [hvb'.out]) | (refine wpList_store_whole 32 rfl rfl rfl [.pointer (some ⟨sb, 0, none⟩)] rfl images_size 32 #[.pointer none] (by rw [← hvb'.out]; exact heap_alloc_new _ _) rfl (by intro c hc; simp at hc; subst hc; rfl) ?_; rw [hw5'.out]) | (refine wpList_load_agg 32 rfl rfl rfl _ Tryz.underlying32 rfl [.pointer (some ⟨sb, 0, none⟩)] (by kernel_rfl) hld5.out ?_))
   obtain ⟨G5, g5⟩ := dl_live S5.out.del (by decide)
   rcases del_deliver (k := 0) (i := .none) S5.out.del rfl (xs := l) (by omega) hx0.out g5 with ⟨M6, a, i1, e6, D6, r6, w6', p6, z6, y6⟩ | ⟨M6, e6, D6, z6, _⟩
   ·have C6 := h_ (dl_apply S5.out (by decide) (-1) (S5.out.items hv0'.out) (by omega) hok0'.out e6)
    have D6' : Hid (DelP (0 + l.length) M6 [i1]) := h_ D6
    have r6' := h_ r6
    have w6h := h_ w6'
    clear D6 r6 w6' p6 y6 e6
    refine C6.out.mono ?_
    rintro e w6 ⟨A6, rfl, hT⟩
    have S6 := h_ (S5.out.to hT D6'.out z6)
    clear hT hld5
    have S6n : Hid (DlSt w vb sb (0 + l.length) [i1, .none] w6 A6 M6) := h_ ⟨S6.out.own, S6.out.var, S6.out.del.none (by show 1 ≤ 5; decide), S6.out.size⟩
    obtain ⟨G6, g6⟩ := dl_live S6n.out.del (by omega)
    rcases del_deliver (k := 1) (i := .none) S6n.out.del rfl (xs := k) (by omega) hx1.out g6 with ⟨M7, b, i2, e7, D7, r7, w7', p7, z7, y7⟩ | ⟨M7, e7, D7, z7, _⟩
    ·have C7 := h_ (dl_apply S6n.out (by omega) (-1) (S6n.out.items hv1'.out) (by omega) hok1'.out e7)
     have D7' : Hid (DelP (0 + l.length + k.length) M7 [i1, i2]) := h_ D7
     have r7' := h_ r7
     clear D7 r7 w7' p7 y7 e7
     have hld := h_ S6n.out.load
     go_wp2_with (first | (refine wpList_load_agg 32 rfl rfl rfl _ Tryz.underlying32 rfl [.pointer (some ⟨sb, 0, none⟩)] (by kernel_rfl) hld.out ?_))
     refine C7.out.mono ?_
     rintro e w7 ⟨A7, rfl, hT⟩
     have S7 := h_ (S6n.out.to hT D7'.out z7)
     clear hT hld
     have m1 : i1 ∈ [i1, i2] := List.mem_cons_self ..
     have m2 : i2 ∈ [i1, i2] := List.mem_cons_of_mem _ (List.mem_cons_self ..)
     have rt1 := h_ (lead_right S7.out.del m1 m2)
     have rt2 := h_ (lead_right S7.out.del m2 m1)
     have ln1 := lead_len i1.l i2.l i2.w
     have ln2 := lead_len i2.l i1.l i1.w
     have th1 : Hid (∀ (f : Int → List Nat), (∀ key, 0 ≤ key → key < 64 → f key = i1.w key) → ∀ key, 0 ≤ key → key < 64 → itemsW (itemsOf i2.w (changesL i1.l i2.l)) f key = i2.w key) := h_ (fun f hf key k0 k1 => lead_there S7.out.del m1 m2 hf k0 k1)
     have th2 : Hid (∀ (f : Int → List Nat), (∀ key, 0 ≤ key → key < 64 → f key = i2.w key) → ∀ key, 0 ≤ key → key < 64 → itemsW (itemsOf i1.w (changesL i2.l i1.l)) f key = i1.w key) := h_ (fun f hf key k0 k1 => lead_there S7.out.del m2 m1 hf k0 k1)
     have C8 := dl_items S7.out (by omega) m1 m2
     have C9 := fun W (hK : Kept (fun _ => False) w7 W) => dl_items (S7.out.fresh hK) (by omega) m2 m1
     have hi1 : ([i1, i2] : List IM)[0]? = some i1 := rfl
     have C10 := fun W (hK : Kept (fun _ => False) w7 W) => dl_copy (S7.out.fresh hK) (by omega) hi1 (by show 2 ≤ 5; decide)
     obtain ⟨there, hth⟩ : ∃ t, itemsOf i2.w (changesL i1.l i2.l) = t := ⟨_, rfl⟩
     obtain ⟨back, hbk⟩ : ∃ t, itemsOf i1.w (changesL i2.l i1.l) = t := ⟨_, rfl⟩
     rw [hth] at rt1 ln1 th1 C8
     rw [hbk] at rt2 ln2 th2 C9
     rw [r6'.out, r7'.out] at C8 C9
     rw [r6'.out] at C10
     have C8' := h_ C8
     have C9' := h_ C9
     have C10' := h_ C10
     have hld := h_ S7.out.load
     clear C8 C9 C10 hth hbk m1 m2 hi1
     go_wp2_with (first | (refine wpList_load_agg 32 rfl rfl rfl _ Tryz.underlying32 rfl [.pointer (some ⟨sb, 0, none⟩)] (by kernel_rfl) hld.out ?_))
     refine C8'.out.mono ?_
     rintro e w8 ⟨v8, rfl, T8, k8⟩
     obtain ⟨_, At, ct, rfl, ht1, ht2, _⟩ := T8.at_
     have T8' := h_ T8
     have K8 := h_ k8
     have hld8 := h_ (S7.out.fresh k8).load
     clear T8 k8 hld
     go_wp2_with (first | (refine wpList_load_agg 32 rfl rfl rfl _ Tryz.underlying32 rfl [.pointer (some ⟨sb, 0, none⟩)] (by kernel_rfl) hld8.out ?_))
     refine (C9'.out _ K8.out).mono ?_
     rintro e w9 ⟨v9, rfl, T9, k9⟩
     obtain ⟨_, Ab, cb, rfl, hb1, hb2, _⟩ := T9.at_
     have T9' := h_ T9
     have T89 := h_ (T8'.out.fresh k9)
     have K9 := h_ (K8.out.trans k9)
     have hld9 := h_ (S7.out.fresh (K8.out.trans k9)).load
     clear T9 k9 hld8
     go_wp2_with (first | (refine wpList_load_agg 32 rfl rfl rfl _ Tryz.underlying32 rfl [.pointer (some ⟨sb, 0, none⟩)] (by kernel_rfl) hld9.out ?_))
     refine (C10'.out _ K9.out).mono ?_
     rintro e w10 ⟨rfl, M10, S10, hT10⟩
     have S10' : Hid (DlSt w vb sb (0 + l.length + k.length) [i1, i2, i1] w10 A7 M10) := h_ S10
     have T8a := h_ (T89.out.to hT10)
     have T9a := h_ (T9'.out.to hT10)
     clear S10 hT10 hld9
     obtain ⟨G10, g10⟩ := dl_live S10'.out.del (by omega)
     rcases del_deliver (k := 2) (i := i1) S10'.out.del rfl (xs := there) (by omega) rt1.out g10 with ⟨M11, c, i3, e11, D11, r11, w11', p11, z11, y11⟩ | ⟨M11, e11, D11, z11, _⟩
     ·have C11 := dl_apply S10'.out (by omega) i1.root T8a.out (by omega) (fun x hx => (rt1.out x hx).2) e11
      rw [r6'.out] at C11
      have C11' := h_ C11
      have D11' : Hid (DelP (0 + l.length + k.length + there.length) M11 [i1, i2, i3]) := h_ D11
      have w3 : Hid (∀ key, 0 ≤ key → key < 64 → i3.w key = i2.w key) := h_ (fun key k0 k1 => by rw [w11']; exact th1.out i1.w (fun _ _ _ => rfl) key k0 k1)
      have r11' := h_ r11
      clear C11 D11 r11 w11' p11 y11 e11
      have hld := h_ S10'.out.load
      go_wp2_with (first | (refine wpList_load_agg 32 rfl rfl rfl _ Tryz.underlying32 rfl [.pointer (some ⟨sb, 0, none⟩)] (by kernel_rfl) hld.out ?_))
      refine C11'.out.mono ?_
      rintro e w11 ⟨A11, rfl, hT⟩
      have S11 := h_ (S10'.out.to hT D11'.out z11)
      have T9b := h_ (T9a.out.to hT)
      clear hT hld
      have m2 : i2 ∈ [i1, i2, i3] := List.mem_cons_of_mem _ (List.mem_cons_self ..)
      have m3 : i3 ∈ [i1, i2, i3] := List.mem_cons_of_mem _ (List.mem_cons_of_mem _ (List.mem_cons_self ..))
      have C12 := dl_sum S11.out (by omega) m3
      have C13 := fun W (hK : Kept (fun _ => False) w11 W) => dl_sum (S11.out.fresh hK) (by omega) m2
      rw [blocks_same w3.out, r11'.out] at C12
      rw [r7'.out] at C13
      obtain ⟨sum, hsum⟩ : ∃ s, crcOf (imgBytes i2.w) = s := ⟨_, rfl⟩
      rw [hsum] at C12 C13
      have C12' := h_ C12
      have C13' := h_ C13
      have hss : (sum == sum) = true := by simp
      have hld := h_ S11.out.load
      clear C12 C13 hsum m2 m3
      go_wp2_with (first | (refine wpList_load_agg 32 rfl rfl rfl _ Tryz.underlying32 rfl [.pointer (some ⟨sb, 0, none⟩)] (by kernel_rfl) hld.out ?_))
      refine C12'.out.mono ?_
      rintro e w12 ⟨rfl, k12⟩
      have K12 := h_ k12
      have hld12 := h_ (S11.out.fresh k12).load
      clear k12 hld
      go_wp2_with (first | (refine wpList_load_agg 32 rfl rfl rfl _ Tryz.underlying32 rfl [.pointer (some ⟨sb, 0, none⟩)] (by kernel_rfl) hld12.out ?_))
      refine (C13'.out _ K12.out).mono ?_
      rintro e w13 ⟨rfl, k13⟩
      have S13 := h_ (S11.out.fresh (K12.out.trans k13))
      have T9c := h_ (T9b.out.fresh (K12.out.trans k13))
      clear k13 hld12
      obtain ⟨G13, g13⟩ := dl_live S13.out.del (by omega)
      rcases del_deliver (k := 2) (i := i3) S13.out.del rfl (xs := back) (by omega) rt2.out g13 with ⟨M14, d, i4, e14, D14, r14, w14', p14, z14, y14⟩ | ⟨M14, e14, D14, z14, _⟩
      ·have C14 := dl_apply S13.out (by omega) i3.root T9c.out (by omega) (fun x hx => (rt2.out x hx).2) e14
       rw [r11'.out] at C14
       have C14' := h_ C14
       have D14' : Hid (DelP (0 + l.length + k.length + there.length + back.length) M14 [i1, i2, i4]) := h_ D14
       have w4h : Hid (imgCells i4.w = imgCells (itemsW l fun _ => zeros16)) := h_ (by
        rw [w14', cells_same (th2.out i3.w w3.out), w6h.out]
        rfl)
       have r14' := h_ r14
       clear C14 D14 r14 w14' p14 y14 e14
       have hld := h_ S13.out.load
       go_wp2_with (first | (refine wpList_load_agg 32 rfl rfl rfl _ Tryz.underlying32 rfl [.pointer (some ⟨sb, 0, none⟩)] (by kernel_rfl) hld.out ?_))
       refine C14'.out.mono ?_
       rintro e w14 ⟨A14, rfl, hT⟩
       have S14 := h_ (S13.out.to hT D14'.out z14)
       clear hT hld
       have m4 : i4 ∈ [i1, i2, i4] := List.mem_cons_of_mem _ (List.mem_cons_of_mem _ (List.mem_cons_self ..))
       have C15 := dl_all S14.out (by omega) m4
       rw [w4h.out, r14'.out] at C15
       have C15' := h_ C15
       have hBl := h_ (itemsW_bytes Bytes.zero l hok0'.out)
       have hld := h_ S14.out.load
       obtain ⟨I, hIe⟩ : ∃ I, (imgCells fun _ => zeros16) = I := ⟨_, rfl⟩
       have hbi : Hid (∀ w, (Instr.build 37 #[]).run Tryz.prog w = .ok (.agg I.toArray) w) := h_ (fun w => by rw [← hIe, zero_cells]; exact run_build_img w)
       have C16 := fun W (hK : Kept (fun _ => False) w W) => ref17Apply Bytes.zero (SliceAt.fresh hv0'.out hK) hx0.out
       rw [hIe] at C16
       have C16' := h_ C16
       clear C15 C16 hIe m4
       go_wp2_with (first | (refine wpList_load_agg 32 rfl rfl rfl _ Tryz.underlying32 rfl [.pointer (some ⟨sb, 0, none⟩)] (by kernel_rfl) hld.out ?_))
       refine C15'.out.mono ?_
       rintro e w15 ⟨gb, rfl, hgb, hg15, k15⟩
       have K15 := h_ (S14.out.own.kept.trans k15)
       have hg15' := h_ hg15
       clear hgb hg15 k15 hld
       go_wp2_with (first | (refine wpList_exec_g (by rfl) (exec_build 37 #[] _ rfl (by simp [Act.eval]) (hbi.out _)) ?_))
       refine (C16'.out _ K15.out).mono ?_
       rintro e w16 ⟨rfl, k16⟩
       have C17 := h_ (ref13Same (f := itemsW l fun _ => zeros16) hBl.out (k16.get hg15'.out id))
       have K16 := h_ (K15.out.trans k16)
       clear k16
       go_wp2_with fail
       refine C17.out.mono ?_
       rintro e w17 ⟨rfl, k17⟩
       have fin := h_ (K16.out.trans k17)
       clear k17
       go_wp2_with fail
       go_ret
       exact ⟨rfl, fin.out⟩
      ·have C14 := dl_apply S13.out (by omega) i3.root T9c.out (by omega) (fun x hx => (rt2.out x hx).2) e14
       rw [r11'.out] at C14
       have C14' := h_ C14
       clear C14 D14 e14
       have hld := h_ S13.out.load
       go_wp2_with (first | (refine wpList_load_agg 32 rfl rfl rfl _ Tryz.underlying32 rfl [.pointer (some ⟨sb, 0, none⟩)] (by kernel_rfl) hld.out ?_))
       refine C14'.out.mono ?_
       rintro e w14 ⟨A14, rfl, hT⟩
       have fin := h_ (S13.out.own.to hT).kept
       clear hT hld
       go_wp2_with fail
       go_ret
       exact ⟨rfl, fin.out⟩
     ·have C11 := dl_apply S10'.out (by omega) i1.root T8a.out (by omega) (fun x hx => (rt1.out x hx).2) e11
      rw [r6'.out] at C11
      have C11' := h_ C11
      clear C11 D11 e11
      have hld := h_ S10'.out.load
      go_wp2_with (first | (refine wpList_load_agg 32 rfl rfl rfl _ Tryz.underlying32 rfl [.pointer (some ⟨sb, 0, none⟩)] (by kernel_rfl) hld.out ?_))
      refine C11'.out.mono ?_
      rintro e w11 ⟨A11, rfl, hT⟩
      have fin := h_ (S10'.out.own.to hT).kept
      clear hT hld
      go_wp2_with fail
      go_ret
      exact ⟨rfl, fin.out⟩
    ·have C7 := h_ (dl_apply S6n.out (by omega) (-1) (S6n.out.items hv1'.out) (by omega) hok1'.out e7)
     clear D7 e7
     have hld := h_ S6n.out.load
     go_wp2_with (first | (refine wpList_load_agg 32 rfl rfl rfl _ Tryz.underlying32 rfl [.pointer (some ⟨sb, 0, none⟩)] (by kernel_rfl) hld.out ?_))
     refine C7.out.mono ?_
     rintro e w7 ⟨A7, rfl, hT⟩
     have fin := h_ (S6n.out.own.to hT).kept
     clear hT hld
     go_wp2_with fail
     go_ret
     exact ⟨rfl, fin.out⟩
   ·have C6 := h_ (dl_apply S5.out (by decide) (-1) (S5.out.items hv0'.out) (by omega) hok0'.out e6)
    have D6' : Hid (DelP (0 + l.length) M6 [.none]) := h_ D6
    have z6' : M6.pool.size = (newM 240).pool.size := by rw [z6]; rfl
    clear D6 e6
    refine C6.out.mono ?_
    rintro e w6 ⟨A6, rfl, hT⟩
    have S6 := h_ (S5.out.to hT D6'.out z6')
    clear hT hld5
    obtain ⟨G6, g6⟩ := dl_live S6.out.del (by omega)
    rcases del_deliver (k := 0) (i := .none) S6.out.del rfl (xs := k) (by omega) hx1.out g6 with ⟨M7, b, i2, e7, D7, r7, w7', p7, z7, y7⟩ | ⟨M7, e7, D7, z7, _⟩
    ·have C7 := h_ (dl_apply S6.out (by omega) (-1) (S6.out.items hv1'.out) (by omega) hok1'.out e7)
     clear D7 r7 w7' p7 y7 e7
     have hld := h_ S6.out.load
     go_wp2_with (first | (refine wpList_load_agg 32 rfl rfl rfl _ Tryz.underlying32 rfl [.pointer (some ⟨sb, 0, none⟩)] (by kernel_rfl) hld.out ?_))
     refine C7.out.mono ?_
     rintro e w7 ⟨A7, rfl, hT⟩
     have fin := h_ (S6.out.own.to hT).kept
     clear hT hld
     go_wp2_with fail
     go_ret
     exact ⟨rfl, fin.out⟩
    ·have C7 := h_ (dl_apply S6.out (by omega) (-1) (S6.out.items hv1'.out) (by omega) hok1'.out e7)
     clear D7 e7
     have hld := h_ S6.out.load
     go_wp2_with (first | (refine wpList_load_agg 32 rfl rfl rfl _ Tryz.underlying32 rfl [.pointer (some ⟨sb, 0, none⟩)] (by kernel_rfl) hld.out ?_))
     refine C7.out.mono ?_
     rintro e w7 ⟨A7, rfl, hT⟩
     have fin := h_ (S6.out.own.to hT).kept
     clear hT hld
     go_wp2_with fail
     go_ret
     exact ⟨rfl, fin.out⟩
end Go.Proofs.YtidlchciehdefaaGreat
