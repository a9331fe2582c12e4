/-
  TreeBuilds: the walk.
-/
import Derived.Test.YthmjcbmeiabbgaaGreatK20
import Derived.Test.YthmjcbmeiabbgaaGreatK21
set_option linter.unusedVariables false
set_option linter.unusedSimpArgs false
namespace Go.Proofs.YthmjcbmeiabbgaaGreat.treeBuilds
open Go.RowKit
open pruneCuts (ActsIn)
open pruneDense (one_start)
set_option maxRecDepth 100000

/-- Where the loop stands. -/
structure TbSt (w4 : World) (v wv : Value) (own W : List (Int × Int)) (wr : World) : Prop where
  kept : Kept (fun _ => False) w4 wr
  own : wr.ownsRow w4.heap.size 33 2 v own.length (entCells own)
  row : wr.ownsRow w4.heap.size 33 2 wv W.length (entCells W)
  dis : ∀ b, v.ownBlock = some b → wv.ownBlock ≠ some b
theorem TbSt.fresh {w4 wr w' : World} {v wv : Value} {own W : List (Int × Int)} (h : TbSt w4 v wv own W wr) (k : Kept (fun _ => False) wr w') : TbSt w4 v wv own W w' :=
  ⟨h.kept.trans k, ownsRow.keptOf h.own k (fun _ _ => id), ownsRow.keptOf h.row k (fun _ _ => id), h.dis⟩
theorem TbSt.next {w4 wy wq w10 : World} {v wv v2 u : Value} {own W W2 : List (Int × Int)} {x : Int × Int} (I : TbSt w4 v wv own W wy)
    (hu : wq.ownsRow wy.heap.size 33 2 u W2.length (entCells W2)) (kq : Kept (fun _ => False) wy wq)
    (hown : w10.ownsRow w4.heap.size 33 2 v2 (own.length + 1) (entCells own ++ [.int .i64 x.1, .int .i64 x.2]))
    (hg : (wq.alloc (.cells #[.int .i64 x.1, .int .i64 x.2] 33)).grownBy w10 v.ownBlock)
    (hat : v2.ownBlock = v.ownBlock ∨ v2.ownBlock = some (wq.alloc (.cells #[.int .i64 x.1, .int .i64 x.2] 33)).heap.size) :
    TbSt w4 v2 u (own ++ [x]) W2 w10 := by
  have K5 := (I.kept.trans kq).trans ((Kept.refl (fun _ => False) wq).alloc (.cells #[.int .i64 x.1, .int .i64 x.2] 33))
  have hlow : ∀ b, v.ownBlock = some b → u.ownBlock ≠ some b := fun b h1 h2 => by
    have := (I.own.lt b h1).2
    have := (hu.lt b h2).1
    omega
  refine ⟨K5.trans_new (Kept.of_grown hg) (fun i hi e => absurd hi (Nat.not_lt.2 (I.own.lt i e).1)), by rw [entCells_append, List.length_append]; exact hown, ?_, ?_⟩
  · exact ownsRow.keptOf (ownsRow.keptOf (owns_le' hu I.kept.size) ((Kept.refl (fun _ => False) wq).alloc _) (fun _ _ => id)) (Kept.of_grown hg) (fun b hb e => hlow b e hb)
  · intro b h1 h2
    rcases hat with e | e
    · exact hlow b (e ▸ h1) h2
    · rw [h1] at e
      have e' := Option.some.inj e
      have := (hu.lt b h2).2
      simp at e'
      omega
theorem tbW_len (ns : List Nat) (l : List (Int × Int)) : (tbW ns l).length ≤ (tbE ns l).length := by
  have key : ∀ (es a : List (Int × Int)), RisesK a → (es.foldl putL a).length ≤ a.length + es.length := by
    intro es
    induction es with
    | nil => intro a _; exact Nat.le_refl _
    | cons e es ih =>
      intro a h
      have h1 := ih _ (putL_rises h e)
      have h2 := putL_length a h e
      rw [List.foldl_cons, List.length_cons]
      omega
  have := key (tbE ns l) [] List.Pairwise.nil
  rw [List.length_nil, Nat.zero_add] at this
  exact this
set_option maxHeartbeats 8000000 in
theorem walkIn {w : World} (va : Value) (l : List (Int × Int)) (hl : ActsIn w va l) : Calls Tryz.prog 3 #[va] w fun e w' => e = .returned (.bool true) ∧ Kept (fun _ => False) w w' := by
  obtain ⟨Aa, ca, rfl, hc1, hc2, hget⟩ := hl
  unfold maxLen at hc2
  have hget' := Lib.hid hget
  clear hget
  by_cases hlong : 70 < l.length
  · have hb : decide ((70 : Int) < (l.length : Int)) = true := by rw [decide_eq_true_eq]; omega
    clear hlong
    go_enter Tryz.func3, Tryz.ntmps3
    go_wp2_with fail
    refine (alive10 _).mono ?_
    rintro e w1 ⟨rfl, k1⟩
    have k1' := Lib.hid k1
    clear k1
    go_wp2_with fail
    go_ret
    exact ⟨rfl, k1'.out⟩
  have hshort : l.length ≤ 70 := by omega
  have hb : decide ((70 : Int) < (l.length : Int)) = false := by rw [decide_eq_false_iff_not]; omega
  have hm := fun w => made10 244 (by decide) (by decide) w
  rw [show (min (244 : Int) 244 - 4).toNat = 240 from by decide] at hm
  have hm' := Lib.hid hm
  clear hm hlong
  go_enter Tryz.func3, Tryz.ntmps3
  go_wp2_with fail
  refine (alive10 _).mono ?_
  rintro e w1 ⟨rfl, k1⟩
  have k1' := Lib.hid k1
  clear k1
  go_wp2_with fail
  refine (hm'.out _).mono ?_
  rintro e w2 ⟨A, rfl, hA, hk, hn⟩
  obtain ⟨b, hbb⟩ : ∃ b, w2.heap.size = b := ⟨_, rfl⟩
  have hO := TreeVar.made (b := b) ⟨hA, hk, hn⟩ hbb
  obtain ⟨w3, hw3⟩ : ∃ w3, (w2.alloc (.cells #[.pointer none] 26)).setRow b #[.pointer (some ⟨A.sb, 0, none⟩)] = w3 := ⟨_, rfl⟩
  rw [hw3] at hO
  obtain ⟨hO3, hT3⟩ := hO
  have hO3 := Lib.hid hO3
  have hT3 := Lib.hid hT3
  have hw3' := Lib.hid hw3
  have hb' := Lib.hid hbb
  have hP := pages10 (s := 240) (one_start (by decide) (by decide)) (by simp) (by decide) (by decide) (by show 1 ≤ 1000; omega) hO3.out.store
  obtain ⟨sb, hsb⟩ : ∃ sb, A.sb = sb := ⟨_, rfl⟩
  rw [hsb] at hw3' hT3 hP ⊢
  have hP' := Lib.hid hP
  have hld3 := Lib.hid hT3.out.load
  clear hA hk hn hw3 hbb hP
  go_wp2_with (first | (refine wpList_alloc_as 26 rfl rfl #[.pointer none] tree_zero ?_; rw [hb'.out]) | (refine wpList_store_whole 26 rfl rfl rfl [.pointer (some ⟨sb, 0, none⟩)] rfl (by kernel_rfl) 26 #[.pointer none] (by rw [← hb'.out]; exact heap_alloc_new _ _) rfl (by intro c hc; simp at hc; subst hc; rfl) ?_; rw [hw3'.out]) | (refine wpList_load_agg 26 rfl rfl rfl _ Tryz.underlying26 rfl [.pointer (some ⟨sb, 0, none⟩)] (by kernel_rfl) hld3.out ?_))
  refine hP'.out.mono ?_
  rintro e w4 ⟨A4, M4, ns, bv, rfl, hns, hT4, one4, nd4, row4, off4, log4⟩
  have O4 := Lib.hid (hO3.out.to hT4)
  have V4 := Lib.hid (hT3.out.to hT4)
  obtain ⟨_, Ab, cb, rfl, hb41, hb42, _⟩ := SliceAt.of_owns row4
  have one4' := Lib.hid one4
  have nd4' := Lib.hid nd4
  have row4' := Lib.hid row4
  have off4' := Lib.hid off4
  have hns' := Lib.hid hns
  have log4' := Lib.hid log4
  clear hT4 one4 nd4 row4 off4 hns log4
  go_wp2_with fail
  have I4 : Hid (TbSt w4 (.slice (some ⟨w4.heap.size, 0, none⟩) 0 0) (.slice (some ⟨w4.heap.size + 1, 0, none⟩) 0 0) (tbE ns (l.take 0)) (tbW ns (l.take 0)) ((w4.alloc (.cells #[] 33)).alloc (.cells #[] 33))) := Lib.hid ⟨((Kept.refl _ _).alloc _).alloc _, ownsRow.keptOf (owns_empty w4 w4.heap.size w4.heap.size 33 2 (Nat.le_refl _) rfl) ((Kept.refl (fun _ => False) _).alloc _) (fun _ _ => id), owns_empty (w4.alloc (.cells #[] 33)) w4.heap.size (w4.heap.size + 1) 33 2 (by simp) (by simp), fun b h1 h2 => by
    simp [Value.ownBlock] at h1 h2
    omega⟩
  go_loopw [7, 8, 37] (fun v wv i wr => ∃ (k : Nat), k ≤ l.length ∧ i = .int .i64 k ∧ Hid (TbSt w4 v wv (tbE ns (l.take k)) (tbW ns (l.take k)) wr)) (fun _ _ i _ => l.length - (intOf i).toNat)
  case atStart => exact ⟨0, Nat.zero_le _, rfl, I4⟩
  case round =>
    obtain ⟨k, hk, rfl, hI⟩ := hrel
    obtain ⟨Av, cv, rfl, hv1, hv2⟩ := EntsAt.form (show EntsAt wr _ (tbE ns (l.take k)) from SliceAt.of_owns hI.out.own)
    obtain ⟨Aw, cw, rfl, hw1, hw2⟩ := EntsAt.form (show EntsAt wr _ (tbW ns (l.take k)) from SliceAt.of_owns hI.out.row)
    unfold maxLen at hv2 hw2
    by_cases hlt : k < l.length
    · obtain ⟨x, hx⟩ : ∃ x, l[k]? = some x := ⟨_, List.getElem?_eq_getElem hlt⟩
      obtain ⟨eb, eo, rfl, heb, hx0, hx1⟩ := hget'.out k x hx
      have kw := k1'.out.trans (O4.out.kept.trans hI.out.kept)
      have hki : (k : Int) < (l.length : Int) := by omega
      have hlo : Hid (∀ i v, [Value.int .i64 x.1, .int .i64 x.2][i]? = some v → wr.cell? ⟨eb, eo + k * 2 + i, none⟩ = some v) := Lib.hid (fun i v hi => by
        match i, hi with
        | 0, hi => cases hi; exact kw.cell hx0 id
        | 1, hi => cases hi; exact kw.cell hx1 id)
      obtain ⟨xb, hxb⟩ : ∃ xb, wr.heap.size = xb := ⟨_, rfl⟩
      obtain ⟨wx, hwx⟩ : ∃ wx, (wr.alloc (.cells #[.int .i64 0, .int .i64 0] 33)).setRow xb #[.int .i64 x.1, .int .i64 x.2] = wx := ⟨_, rfl⟩
      have kx : Kept (fun _ => False) wr wx := by rw [← hwx]; exact ((Kept.refl _ _).alloc _).setRowNew (by omega) _
      have qx : wx.heap[xb]? = some (.cells #[.int .i64 x.1, .int .i64 x.2] 33 (0, 0)) := by rw [← hwx, ← hxb]; exact setRow_heap _ _ _ _ _ _ (heap_alloc_new _ _)
      have qx' := Lib.hid qx
      have cx1 : wx.cell? ⟨xb, 1, none⟩ = some (.int .i64 x.2) := by rw [cell_of_heap qx]; rfl
      have fx1 := free_of_heap qx 1
      have hxb' := Lib.hid hxb
      have hwx' := Lib.hid hwx
      obtain ⟨q, hq⟩ := Int.eq_ofNat_of_zero_le (show 0 ≤ max 0 (min x.2 3) by omega)
      have hq4 : q < 4 := by omega
      have hq4i : (q : Int) < 4 := by omega
      have hpg : Hid ((ns.map fun i => Value.int .i64 (i : Nat))[q]? = some (.int .i64 (tbPage ns x.2))) := Lib.hid (by have h := tbPage_get hns'.out x.2; rw [hq, Int.toNat_natCast] at h; exact h)
      obtain ⟨bb, bo, rfl, hbb2, hbc⟩ := SliceAt.elem (SliceAt.of_owns (ownsRow.keptOf row4'.out (hI.out.kept.trans kx) (fun _ _ => id))) hq4 (by decide)
      have cbq := hbc 0 (.int .i64 (tbPage ns x.2)) (by decide) (by simpa using hpg.out)
      simp at cbq
      have Ix := Lib.hid (hI.out.fresh kx)
      have I0 := Lib.hid hI.out
      have kx' := Lib.hid kx
      have hx' := Lib.hid hx
      have qy : (wx.setCell ⟨xb, 1, none⟩ (.int .i64 (tbPage ns x.2))).heap[xb]? = some (.cells #[.int .i64 x.1, .int .i64 (tbPage ns x.2)] 33 (0, 0)) := by rw [heap_setCell_same qx]; rfl
      have qy' := Lib.hid qy
      have hly : Hid (∀ i v, [Value.int .i64 x.1, .int .i64 (tbPage ns x.2)][i]? = some v → (wx.setCell ⟨xb, 1, none⟩ (.int .i64 (tbPage ns x.2))).cell? ⟨xb, 0 + i, none⟩ = some v) := Lib.hid (fun i v hi => by rw [cell_of_heap qy, Nat.zero_add]; simpa using hi)
      clear hbc qy
      clear hx hx0 hx1 kw kx qx hxb hwx hI
      go_wp2_with (first | (refine wpList_load_agg 33 rfl rfl rfl _ Tryz.underlying33 rfl [.int .i64 x.1, .int .i64 x.2] (by kernel_rfl) hlo.out ?_) | (refine wpList_alloc_as 33 rfl rfl #[.int .i64 0, .int .i64 0] (by kernel_rfl) ?_; rw [hxb'.out]) | (refine wpList_store_whole 33 rfl rfl rfl [.int .i64 x.1, .int .i64 x.2] rfl (by kernel_rfl) 33 #[.int .i64 0, .int .i64 0] (by rw [← hxb'.out]; exact heap_alloc_new _ _) rfl (by intro c hc; simp at hc; rcases hc with rfl | rfl <;> rfl) ?_; rw [hwx'.out]) | (refine wpList_load_agg 33 rfl rfl rfl _ Tryz.underlying33 rfl [.int .i64 x.1, .int .i64 (tbPage ns x.2)] (by kernel_rfl) hly.out ?_))
      obtain ⟨wy, hwy⟩ : ∃ wy, wx.setCell ⟨xb, 1, none⟩ (.int .i64 (tbPage ns x.2)) = wy := ⟨_, rfl⟩
      rw [hwy] at qy' hly ⊢
      have ky : Kept (fun _ => False) wr wy := by rw [← hwy]; exact kx'.out.setNew (by simp [← hxb'.out]) _
      have Iy := Lib.hid (I0.out.fresh ky)
      have hlW := tbW_len ns (l.take k)
      have hlE := tbE_len ns (l.take k)
      rw [List.length_take] at hlE
      have hwy' := Lib.hid hwy
      clear hwy ky Ix
      by_cases hin : 0 ≤ x.1 ∧ x.1 ≤ 63
      · have hRf := refPut10 (show EntsAt wy (.slice Aw (tbW ns (l.take k)).length cw) (tbW ns (l.take k)) from SliceAt.of_owns Iy.out.row) (by omega) (x.1, tbPage ns x.2) hin
        have hE1 := tbE_take ns hx'.out
        have hW1 := tbW_take ns hx'.out
        rw [if_pos hin] at hE1 hW1
        rw [refPut_eq (tbW_rises ns _), ← hW1] at hRf
        have hRf' := Lib.hid hRf
        have hE1' := Lib.hid hE1
        clear hRf hE1 hW1 hin
        refine hRf'.out.mono ?_
        rintro e wq ⟨u, rfl, hownq, hkq⟩
        obtain ⟨Au, cu, rfl, hu1, hu2⟩ := EntsAt.form (show EntsAt wq u (tbW ns (l.take (k + 1))) from SliceAt.of_owns hownq)
        unfold maxLen at hu2
        have hlz : Hid (∀ i v, [Value.int .i64 x.1, .int .i64 (tbPage ns x.2)][i]? = some v → wq.cell? ⟨xb, 0 + i, none⟩ = some v) := Lib.hid (fun i v hi => by rw [cell_of_heap (hkq.get qy'.out id), Nat.zero_add]; simpa using hi)
        have hownq' := Lib.hid hownq
        have hkq' := Lib.hid hkq
        have R5 := Lib.hid (ownsRow.keptOf (Iy.out.fresh hkq).own ((Kept.refl (fun _ => False) wq).alloc (.cells #[.int .i64 x.1, .int .i64 (tbPage ns x.2)] 33)) (fun _ _ => id))
        have K5 := Lib.hid ((Iy.out.fresh hkq).kept.trans ((Kept.refl (fun _ => False) wq).alloc (.cells #[.int .i64 x.1, .int .i64 (tbPage ns x.2)] 33)))
        clear hownq hkq
        go_wp2_with (first | (refine wpList_load_agg 33 rfl rfl rfl _ Tryz.underlying33 rfl [.int .i64 x.1, .int .i64 (tbPage ns x.2)] (by kernel_rfl) hlz.out ?_) | (at_builtin; refine wpList_append_src rfl elemEntry (.tmp 57) (.tmp 59) rfl (by rfl) (by rfl) R5.out (SliceAt.block_new (ys := [.int .i64 x.1, .int .i64 (tbPage ns x.2)]) (m := 1) (heap_alloc_new _ _) (by rfl) (by decide)) (by intro c hc; simp at hc; rcases hc with rfl | rfl <;> rfl) (by omega) (by omega) K5.out.size ?_; intro v2 w10 hown10 hg10 hat10))
        have fin : Hid (TbSt w4 v2 (.slice Au (tbW ns (l.take (k + 1))).length cu) (tbE ns (l.take (k + 1))) (tbW ns (l.take (k + 1))) w10) := Lib.hid (by rw [hE1'.out]; exact Iy.out.next (x := (x.1, tbPage ns x.2)) hownq'.out hkq'.out hown10 hg10 hat10)
        clear hown10 hg10 hat10
        go_wp2_with fail
        go_roundw
        case rel => exact ⟨k + 1, by omega, by go_num, fin⟩
        case measure => simp [intOf]; omega
      · have hE1 := tbE_take ns hx'.out
        have hW1 := tbW_take ns hx'.out
        rw [if_neg hin] at hE1 hW1
        rw [List.append_nil] at hE1
        have fin' : Hid (∀ {wq}, Kept (fun _ => False) wy wq → Hid (TbSt w4 (.slice Av (tbE ns (l.take k)).length cv) (.slice Aw (tbW ns (l.take k)).length cw) (tbE ns (l.take (k + 1))) (tbW ns (l.take (k + 1))) wq)) := Lib.hid fun h => Lib.hid (by rw [hE1, hW1]; exact Iy.out.fresh h)
        have hr' : Hid (x.1 < 0 ∨ 63 < x.1) := Lib.hid (by omega)
        clear hE1 hW1 hin
        refine (refPutBad10 (x.1, tbPage ns x.2) hr'.out).mono ?_
        rintro e wq ⟨rfl, hkq⟩
        have fin := fin'.out hkq
        clear hkq fin'
        go_wp2_with fail
        go_roundw
        case rel => exact ⟨k + 1, by omega, by go_num, fin⟩
        case measure => simp [intOf]; omega
    · obtain rfl : k = l.length := by omega
      rw [List.take_length] at hI hv1 hw1 ⊢
      have O5 := Lib.hid (O4.out.fresh hI.out.kept)
      have V5 := Lib.hid (V4.out.fresh hI.out.kept)
      have Row5 := Lib.hid hI.out.row
      have hRlt : Hid (∀ b, (Value.slice Aw (tbW ns l).length cw).ownBlock = some b → ¬ A4.foot b) := Lib.hid (fun b hb e => absurd (O4.out.store.lt (.inl e)) (Nat.not_lt.2 (hI.out.row.lt b hb).1))
      have E5 : EntsOff wr A4 (.slice Av (tbE ns l).length cv) (tbE ns l) := ⟨SliceAt.of_owns hI.out.own, fun _ b hb => ⟨(hI.out.own.lt b hb).2, fun e => absurd (O4.out.store.lt (.inl e)) (Nat.not_lt.2 (hI.out.own.lt b hb).1)⟩⟩
      have hbl := tbE_len ns l
      have h5 : ([0] ++ ns : List Nat).length = 5 := by simp [hns'.out]
      obtain ⟨MB, root, hbuild, hone, hlogB⟩ := build_one (s := 240) clean_besides (by omega) (by decide) (tbE ns l) one4'.out (by omega) (fun y hy => tbE_in hns'.out hy)
      have hB := treeBuild O5.out.store E5 (by omega) (by have h1 := log4'.out; have h2 : (madeM 240 9).log.length = 1 := rfl; omega)
      rw [hbuild, V5.out.eq] at hB
      have hB' := Lib.hid hB
      rw [show (tbE ns l).foldl putL [] = tbW ns l from rfl] at hone
      obtain ⟨W, hW⟩ : ∃ W, tbW ns l = W := ⟨_, rfl⟩
      rw [hW] at hone Row5 hRlt hw1 ⊢
      obtain ⟨P, hP⟩ : ∃ P, 0 + (tbE ns l).length = P := ⟨_, rfl⟩
      rw [hP] at hone
      have hP70 : P ≤ 70 := by omega
      have N6 := Lib.hid hone
      have hload5 := Lib.hid V5.out.load
      have hW64 : Hid (W.length ≤ 64) := Lib.hid hone.len
      clear hI I4 E5 hB hbuild hone hlogB hW hP
      go_wp2_with (first | (refine wpList_load_agg 26 rfl rfl rfl _ Tryz.underlying26 rfl [.pointer (some ⟨sb, 0, none⟩)] (by kernel_rfl) hload5.out ?_))
      refine hB'.out.mono ?_
      rintro e w6 ⟨A6, rfl, hT6⟩
      have O6 := Lib.hid (O5.out.to hT6)
      have V6 := Lib.hid (V5.out.to hT6)
      have U6 : Hid (EntsAt w6 (.slice Aw W.length cw) W) := Lib.hid (SliceAt.of_owns (ownsRow.keptOf Row5.out hT6.kept (fun b hb e => hRlt.out b hb e)))
      have hL := treeList O6.out.store root
      rw [N6.out.list (by omega), V6.out.eq] at hL
      dsimp only at hL
      have hL' := Lib.hid hL
      have hld6 := Lib.hid V6.out.load
      clear hL hT6
      go_wp2_with (first | (refine wpList_load_agg 26 rfl rfl rfl _ Tryz.underlying26 rfl [.pointer (some ⟨sb, 0, none⟩)] (by kernel_rfl) hld6.out ?_))
      refine hL'.out.mono ?_
      rintro e w7 ⟨v7, rfl, hown7, hk7⟩
      obtain ⟨A7, c7, rfl, h71, h72⟩ := EntsAt.form (show EntsAt w7 v7 W from SliceAt.of_owns hown7)
      unfold maxLen at h72
      have O7 := Lib.hid (O6.out.fresh hk7)
      have V7 := Lib.hid (V6.out.fresh hk7)
      have hS := same10 (show EntsAt w7 (.slice A7 W.length c7) W from SliceAt.of_owns hown7) (U6.out.fresh hk7) (by have := hW64.out; omega)
      rw [decide_eq_true (rfl : W = W)] at hS
      have hS2 := Lib.hid hS
      obtain ⟨bb, hbb⟩ : ∃ bb, (root == (-1 : Int)) = bb := ⟨_, rfl⟩
      have hblx : (((W.length : Nat) : Int) == 0) = bb := by rw [← hbb, Bool.eq_iff_iff]; simp only [beq_iff_eq]; rw [N6.out.none]; constructor <;> intro e; (have e' : W.length = 0 := by omega); exact List.length_eq_zero_iff.1 e'; rw [e]; rfl
      have hlW := hW64.out
      clear hS hown7 hk7
      go_wp2_with fail
      refine hS2.out.mono ?_
      rintro e wz ⟨rfl, hkz⟩
      have Oz := Lib.hid (O7.out.fresh hkz)
      have Vz := Lib.hid (V7.out.fresh hkz)
      have hE := exact10 N6.out (clean_mild N6.out.kk) nd4'.out (by omega) (by have := N6.out.range; omega) Oz.out.store
      rw [Vz.out.eq, show ((([0] ++ ns : List Nat).length : Nat) : Int) = 5 from by rw [h5]; rfl] at hE
      have hE' := Lib.hid hE
      have hldE := Lib.hid Vz.out.load
      clear hE hkz
      go_wp2_with (first | (refine wpList_load_agg 26 rfl rfl rfl _ Tryz.underlying26 rfl [.pointer (some ⟨sb, 0, none⟩)] (by kernel_rfl) hldE.out ?_) | (refine wpList_exec_g (by rfl) (exec_load_agg (g := b) (off := 0) rfl rfl [.pointer (some ⟨sb, 0, none⟩)] Tryz.underlying26 rfl (by kernel_rfl) hldE.out) ?_))
      refine hE'.out.mono ?_
      rintro e wE ⟨rfl, hTE⟩
      have kk : Hid (Kept (fun _ => False) w wE) := Lib.hid (k1'.out.trans (Oz.out.to hTE).kept)
      clear hTE
      go_wp2_with fail
      go_ret
      exact ⟨rfl, kk.out⟩
end Go.Proofs.YthmjcbmeiabbgaaGreat.treeBuilds
/-
  PruneBack: the walk.
-/
namespace Go.Proofs.YthmjcbmeiabbgaaGreat.pruneBack
open Go.RowKit
open treeSplits (IntsIn)
open pruneDense (PrunerVar one_start)
set_option maxRecDepth 100000

/-- The entries that the tree is built of. -/
def bkE (l : List Int) : List (Int × Int) := (l.filter fun k => decide (0 ≤ k) && decide (k < 64)).map fun k => (k, 0)
theorem bkE_take {l : List Int} {k : Nat} {x : Int} (h : l[k]? = some x) : bkE (l.take (k + 1)) = bkE (l.take k) ++ (if 0 ≤ x ∧ x < 64 then [(x, 0)] else []) := by
  unfold bkE
  rw [List.take_add_one, h, List.filter_append, List.map_append]
  congr 1
  by_cases e : 0 ≤ x ∧ x < 64
  · rw [if_pos e]; simp [e]
  · rw [if_neg e]
    have : (decide (0 ≤ x) && decide (x < 64)) = false := by
      rw [Bool.and_eq_false_iff]; simp only [decide_eq_false_iff_not]; omega
    show List.map _ (List.filter _ [x]) = []
    rw [List.filter_cons_of_neg (by rw [this]; decide)]
    rfl
theorem bkE_len (l : List Int) : (bkE l).length ≤ l.length := by unfold bkE; rw [List.length_map]; exact List.length_filter_le _ _
theorem bkE_in {l : List Int} {y : Int × Int} (h : y ∈ bkE l) : 0 ≤ y.1 ∧ y.1 < 64 ∧ ∃ b ∈ [0], y.2 = ((b : Nat) : Int) := by
  unfold bkE at h
  obtain ⟨i, hi, rfl⟩ := List.mem_map.1 h
  have := (List.mem_filter.1 hi).2
  simp only [Bool.and_eq_true, decide_eq_true_eq] at this
  exact ⟨this.1, this.2, 0, List.mem_singleton.2 rfl, rfl⟩

set_option maxHeartbeats 8000000 in
theorem walkIn {w : World} (va : Value) (l : List Int) (hl : IntsIn w va l) (key : Int) : Calls Tryz.prog 7 #[va, .int .i64 key] w fun e w' => e = .returned (.bool true) ∧ Kept (fun _ => False) w w' := by
  obtain ⟨Aa, ca, rfl, hc1, hc2, hget⟩ := hl
  unfold maxLen at hc2
  have hget' := Lib.hid hget
  clear hget
  have early : (decide ((64 : Int) < (l.length : Int)) = true ∨ (decide ((64 : Int) < (l.length : Int)) = false ∧ decide (key < 0) = true) ∨ (decide ((64 : Int) < (l.length : Int)) = false ∧ decide (key < 0) = false ∧ decide (63 < key) = true)) ∨ (l.length ≤ 64 ∧ 0 ≤ key ∧ key < 64) := by
    simp only [decide_eq_true_eq, decide_eq_false_iff_not]; omega
  rcases early with early | ⟨hshort, k0, k1⟩
  · rcases early with hb | ⟨hb, hb1⟩ | ⟨hb, hb1, hb2⟩
    · go_enter Tryz.func7, Tryz.ntmps7
      go_wp2_with fail
      refine (alive11 _).mono ?_
      rintro e w1 ⟨rfl, k1⟩
      have k1' := Lib.hid k1
      clear k1
      go_wp2_with fail
      go_ret
      exact ⟨rfl, k1'.out⟩
    · go_enter Tryz.func7, Tryz.ntmps7
      go_wp2_with fail
      refine (alive11 _).mono ?_
      rintro e w1 ⟨rfl, k1⟩
      have k1' := Lib.hid k1
      clear k1
      go_wp2_with fail
      go_ret
      exact ⟨rfl, k1'.out⟩
    · go_enter Tryz.func7, Tryz.ntmps7
      go_wp2_with fail
      refine (alive11 _).mono ?_
      rintro e w1 ⟨rfl, k1⟩
      have k1' := Lib.hid k1
      clear k1
      go_wp2_with fail
      go_ret
      exact ⟨rfl, k1'.out⟩
  have hb : decide ((64 : Int) < (l.length : Int)) = false := by rw [decide_eq_false_iff_not]; omega
  have hb1 : decide (key < 0) = false := by rw [decide_eq_false_iff_not]; omega
  have hb2 : decide (63 < key) = false := by rw [decide_eq_false_iff_not]; omega
  have hm := fun w => made11 244 (by decide) (by decide) w
  rw [show (min (244 : Int) 244 - 4).toNat = 240 from by decide] at hm
  have hm' := Lib.hid hm
  clear hm
  go_enter Tryz.func7, Tryz.ntmps7
  go_wp2_with fail
  refine (alive11 _).mono ?_
  rintro e w1 ⟨rfl, k1⟩
  have k1' := Lib.hid k1
  clear k1
  go_wp2_with fail
  refine (hm'.out _).mono ?_
  rintro e w2 ⟨A, rfl, hA, hk, hn⟩
  have O2 : OwnStore w1 A (madeM 240 9) w2 := ⟨hA, hk, hn⟩
  obtain ⟨sb, hsb⟩ : ∃ sb, A.sb = sb := ⟨_, rfl⟩
  obtain ⟨pb, hpb⟩ : ∃ pb, w2.heap.size = pb := ⟨_, rfl⟩
  obtain ⟨w3, hw3⟩ : ∃ w3, (w2.alloc (.cells #[.pointer none] 52)).setRow pb #[.pointer (some ⟨sb, 0, none⟩)] = w3 := ⟨_, rfl⟩
  have k3 : Kept (fun _ => False) w2 w3 := by rw [← hw3]; exact ((Kept.refl _ _).alloc _).setRowNew (by omega) _
  have q3 : w3.heap[pb]? = some (.cells #[.pointer (some ⟨sb, 0, none⟩)] 52 (0, 0)) := by rw [← hw3, ← hpb]; exact setRow_heap _ _ _ _ _ _ (heap_alloc_new _ _)
  have O3 := Lib.hid (O2.fresh k3)
  have V3 : Hid (PrunerVar w3 A pb sb) := Lib.hid ⟨q3, Safe.new hA (by omega) (lt_of_heap q3), hsb⟩
  have hw3' := Lib.hid hw3
  have hpb' := Lib.hid hpb
  rw [hsb]
  clear hA hk hn O2 k3 q3 hw3 hpb hsb
  go_wp2_with (first | (refine wpList_alloc_as 52 rfl rfl #[.pointer none] pruner_zero ?_; rw [hpb'.out]) | (refine wpList_store_whole 52 rfl rfl rfl [.pointer (some ⟨sb, 0, none⟩)] rfl (by kernel_rfl) 52 #[.pointer none] (by rw [← hpb'.out]; exact heap_alloc_new _ _) rfl (by intro c hc; simp at hc; subst hc; rfl) ?_; rw [hw3'.out]))
  have I4 : Hid (Kept (fun _ => False) w3 (w3.alloc (.cells #[] 33)) ∧ (w3.alloc (.cells #[] 33)).ownsRow w3.heap.size 33 2 (.slice (some ⟨w3.heap.size, 0, none⟩) 0 0) (bkE (l.take 0)).length (entCells (bkE (l.take 0)))) := Lib.hid ⟨(Kept.refl _ _).alloc _, owns_empty w3 w3.heap.size w3.heap.size 33 2 (Nat.le_refl _) rfl⟩
  go_loopw [8, 46] (fun v i wr => ∃ (k : Nat), k ≤ l.length ∧ i = .int .i64 k ∧ Hid (Kept (fun _ => False) w3 wr ∧ wr.ownsRow w3.heap.size 33 2 v (bkE (l.take k)).length (entCells (bkE (l.take k))))) (fun _ i _ => l.length - (intOf i).toNat)
  case atStart => exact ⟨0, Nat.zero_le _, rfl, I4⟩
  case round =>
    obtain ⟨k, hk, rfl, hI⟩ := hrel
    obtain ⟨Av, cv, rfl, hf1, hf2⟩ := EntsAt.form (show EntsAt wr _ (bkE (l.take k)) from SliceAt.of_owns hI.out.2)
    unfold maxLen at hf2
    have hbl := bkE_len (l.take k)
    rw [List.length_take] at hbl
    by_cases hlt : k < l.length
    · obtain ⟨x, hx⟩ : ∃ x, l[k]? = some x := ⟨_, List.getElem?_eq_getElem hlt⟩
      obtain ⟨ab, ao, rfl, hab, c1⟩ := hget'.out k x hx
      have c1' := hI.out.1.cell (O3.out.kept.cell (k1'.out.cell c1 id) id) id
      have hki : (k : Int) < (l.length : Int) := by omega
      have hnext := bkE_take hx
      clear hx c1
      by_cases hin : 0 ≤ x ∧ x < 64
      · have hd0 : decide (0 ≤ x) = true := by rw [decide_eq_true_eq]; exact hin.1
        have hd1 : decide (x < 64) = true := by rw [decide_eq_true_eq]; exact hin.2
        rw [if_pos hin] at hnext
        have hnext' := Lib.hid hnext
        have K5 := Lib.hid (hI.out.1.trans ((Kept.refl (fun _ => False) wr).alloc (.cells #[.int .i64 x, .int .i64 0] 33)))
        have R5 := Lib.hid (ownsRow.keptOf hI.out.2 ((Kept.refl (fun _ => False) wr).alloc (.cells #[.int .i64 x, .int .i64 0] 33)) (fun _ _ => id))
        clear hI hnext hin
        go_wp2_with (at_builtin; refine wpList_append_src rfl elemEntry (.tmp 56) (.tmp 60) rfl (by rfl) (by rfl) R5.out (SliceAt.block_new (ys := [.int .i64 x, .int .i64 0]) (m := 1) (heap_alloc_new _ _) (by rfl) (by decide)) (by intro c hc; simp at hc; rcases hc with rfl | rfl <;> rfl) (by omega) (by omega) K5.out.size ?_; intro v2 w10 hown10 hg10 hat10)
        have fin : Hid (Kept (fun _ => False) w3 w10 ∧ w10.ownsRow w3.heap.size 33 2 v2 (bkE (l.take (k + 1))).length (entCells (bkE (l.take (k + 1))))) := Lib.hid ⟨K5.out.trans_new (Kept.of_grown hg10) (fun i hi e => absurd hi (Nat.not_lt.2 (R5.out.lt i e).1)), by rw [hnext'.out, entCells_append, List.length_append]; exact hown10⟩
        clear hown10 hg10 hat10
        go_wp2_with fail
        go_roundw
        case rel => exact ⟨k + 1, by omega, by go_num, fin⟩
        case measure => simp [intOf]; omega
      · rw [if_neg hin, List.append_nil] at hnext
        have fin : Hid (Kept (fun _ => False) w3 wr ∧ wr.ownsRow w3.heap.size 33 2 (.slice Av (bkE (l.take k)).length cv) (bkE (l.take (k + 1))).length (entCells (bkE (l.take (k + 1))))) := Lib.hid (by rw [hnext]; exact hI.out)
        have hor : decide (0 ≤ x) = false ∨ (decide (0 ≤ x) = true ∧ decide (x < 64) = false) := by simp only [decide_eq_true_eq, decide_eq_false_iff_not]; omega
        clear hI hnext hin
        rcases hor with hd0 | ⟨hd0, hd1⟩
        · go_wp2_with fail
          go_roundw
          case rel => exact ⟨k + 1, by omega, by go_num, fin⟩
          case measure => simp [intOf]; omega
        · go_wp2_with fail
          go_roundw
          case rel => exact ⟨k + 1, by omega, by go_num, fin⟩
          case measure => simp [intOf]; omega
    · obtain rfl : k = l.length := by omega
      rw [List.take_length] at hI hf1 hbl ⊢
      have O5 := Lib.hid (O3.out.fresh hI.out.1)
      have V5 := Lib.hid (V3.out.fresh hI.out.1)
      have E5 : EntsOff wr A _ (bkE l) := ⟨SliceAt.of_owns hI.out.2, fun _ b hb => ⟨(hI.out.2.lt b hb).2, fun e => absurd (O3.out.store.lt (.inl e)) (Nat.not_lt.2 (hI.out.2.lt b hb).1)⟩⟩
      have hbl2 : (bkE l).length ≤ 64 := by omega
      obtain ⟨MB, root, hbuild, hone, hlogB⟩ := build_one (s := 240) clean_besides (by decide) (by decide) (bkE l) (one_start (by decide) (by decide)) (by omega) (fun y hy => bkE_in hy)
      have hB := treeBuild O5.out.store E5 (by omega) (by show 1 + 100000 < 100000000; omega)
      rw [hbuild, V5.out.eq] at hB
      have hB' := Lib.hid hB
      obtain ⟨W, hW⟩ : ∃ W, (bkE l).foldl putL [] = W := ⟨_, rfl⟩
      rw [hW] at hone
      have hlog : Hid (MB.log.length ≤ 2000) := Lib.hid (by have : (madeM 240 9).log.length = 1 := rfl; omega)
      obtain ⟨P, hP⟩ : ∃ P, 0 + (bkE l).length = P := ⟨_, rfl⟩
      rw [hP] at hone
      have hP64 : P ≤ 64 := by omega
      have N6 := Lib.hid hone
      have c50 := V5.out.c0
      have hload5 := Lib.hid V5.out.load
      have hW64 : Hid (W.length ≤ 64) := Lib.hid hone.len
      clear hI E5 hB hbuild hone hlogB hW hP hf1 hbl
      go_wp2_with (first | (refine wpList_load_agg 26 rfl rfl rfl _ Tryz.underlying26 rfl [.pointer (some ⟨sb, 0, none⟩)] (by kernel_rfl) hload5.out ?_))
      refine hB'.out.mono ?_
      rintro e w6 ⟨A6, rfl, hT6⟩
      have O6 := Lib.hid (O5.out.to hT6)
      have V6 := Lib.hid (V5.out.to hT6)
      clear hT6 c50
      have hL := treeList O6.out.store root
      rw [N6.out.list (by omega), V6.out.eq] at hL
      dsimp only at hL
      have hL' := Lib.hid hL
      have hld6 := Lib.hid V6.out.load
      clear hL
      go_wp2_with (first | (refine wpList_load_agg 26 rfl rfl rfl _ Tryz.underlying26 rfl [.pointer (some ⟨sb, 0, none⟩)] (by kernel_rfl) hld6.out ?_))
      refine hL'.out.mono ?_
      rintro e w7 ⟨v7, rfl, hown7, hk7⟩
      obtain ⟨A7, c7, rfl, h71, h72⟩ := EntsAt.form (show EntsAt w7 v7 W from SliceAt.of_owns hown7)
      unfold maxLen at h72
      have O7 := Lib.hid (O6.out.fresh hk7)
      have V7 := Lib.hid (V6.out.fresh hk7)
      have U7 : Hid (OutAt w7 A6 w1.heap.size (.slice A7 W.length c7) W) := Lib.hid ⟨owns_le' hown7 O6.out.kept.size, fun b hb e => absurd (O6.out.store.lt (.inl e)) (Nat.not_lt.2 (hown7.lt b hb).1)⟩
      have hF := treeFind O7.out.store root key
      rw [N6.out.find (by omega) key, V7.out.eq] at hF
      dsimp only at hF
      have hF' := Lib.hid hF
      have hld7 := Lib.hid V7.out.load
      obtain ⟨at0, hat⟩ : ∃ at0, findL W key = at0 := ⟨_, rfl⟩
      rw [hat] at hF'
      have hat' := Lib.hid hat
      clear hF hat hown7 hk7
      go_wp2_with (first | (refine wpList_load_agg 26 rfl rfl rfl _ Tryz.underlying26 rfl [.pointer (some ⟨sb, 0, none⟩)] (by kernel_rfl) hld7.out ?_))
      refine hF'.out.mono ?_
      rintro e w8 ⟨rfl, hk8⟩
      have O8 := Lib.hid (O7.out.fresh hk8)
      have V8 := Lib.hid (V7.out.fresh hk8)
      have U8 := Lib.hid (U7.out.fresh hk8)
      have hld8 := Lib.hid V8.out.load
      clear hk8
      by_cases hno : at0 = -1
      · have hnb : (at0 == -1) = true := by simp [hno]
        have hP1 := treePut O8.out.store root key 0 (by have := hlog.out; omega)
        rw [V8.out.eq] at hP1
        obtain ⟨p1, p2, p3, _⟩ := one_put N6.out clean_besides (by omega) (by decide) (by decide) (key := key) (page := 0) k0 k1 ⟨0, List.mem_singleton.2 rfl, rfl⟩
        have hlg := put_log MB root key 0
        obtain ⟨R, hR⟩ : ∃ R, MB.put root key 0 = R := ⟨_, rfl⟩
        rw [hR] at hP1 p1 p2 p3 hlg
        obtain ⟨M1, next, er⟩ := R
        dsimp only at hP1 p1 p2 p3 hlg
        subst p1
        have hback : Hid (cutL (putL W (key, 0)) key = W) := Lib.hid (cut_put N6.out.keys.1 0 (findL_neg (fun y hy => by obtain ⟨_, _, b, _, e⟩ := N6.out.keys.2 y hy; omega) (by rw [hat'.out]; exact hno)))
        have hsl := swap_log M1 root next
        obtain ⟨t1, t2⟩ := one_trim p3 clean_besides (by omega) (by decide) (by decide) k0 k1
        obtain ⟨S, hS⟩ : ∃ S, M1.swap root next = S := ⟨_, rfl⟩
        rw [hS] at p2 t1 t2 hsl
        obtain ⟨M2, es⟩ := S
        dsimp only at p2 t1 t2 hsl
        subst p2
        have hlog2 : Hid (M2.log.length ≤ 3000) := Lib.hid (by have := hlog.out; rw [hsl]; omega)
        rw [hback.out] at t2
        obtain ⟨T, hT⟩ : ∃ T, SM.trim [key] M2 next = T := ⟨_, rfl⟩
        rw [hT] at t1 t2
        obtain ⟨M3, root3, et⟩ := T
        dsimp only at t1 t2
        subst t1
        have hP1' := Lib.hid hP1
        have hS' := Lib.hid hS
        have hT' := Lib.hid hT
        have N9 := Lib.hid t2
        clear hP1 hR p3 hlg hsl hS t2 hT hno
        go_wp2_with (first | (refine wpList_load_agg 26 rfl rfl rfl _ Tryz.underlying26 rfl [.pointer (some ⟨sb, 0, none⟩)] (by kernel_rfl) hld8.out ?_))
        refine hP1'.out.mono ?_
        rintro e w9 ⟨A9, rfl, hT9⟩
        have O9 := Lib.hid (O8.out.to hT9)
        have V9 := Lib.hid (V8.out.to hT9)
        have U9 := Lib.hid (U8.out.to hT9)
        have hSw := treeSwap O9.out.store root next
        rw [V9.out.eq, hS'.out] at hSw
        dsimp only at hSw
        have hSw' := Lib.hid hSw
        have hld9 := Lib.hid V9.out.load
        clear hSw hT9
        go_wp2_with (first | (refine wpList_load_agg 26 rfl rfl rfl _ Tryz.underlying26 rfl [.pointer (some ⟨sb, 0, none⟩)] (by kernel_rfl) hld9.out ?_) | (refine wpList_exec_g (by rfl) (exec_load_agg (g := pb) (off := 0) rfl rfl [.pointer (some ⟨sb, 0, none⟩)] Tryz.underlying26 rfl (by kernel_rfl) hld9.out) ?_))
        refine hSw'.out.mono ?_
        rintro e w10 ⟨rfl, hT10⟩
        have O10 := Lib.hid (O9.out.to hT10)
        have V10 := Lib.hid (V9.out.to hT10)
        have U10 := Lib.hid (U9.out.to hT10)
        have kx : Kept (fun _ => False) w10 (w10.alloc (.cells #[.int .i64 key] 3)) := (Kept.refl _ _).alloc _
        have hkeys : IntsOff (w10.alloc (.cells #[.int .i64 key] 3)) A9 (.slice (some ⟨w10.heap.size, 0, none⟩) 1 1) [key] := ⟨SliceAt.block_new (heap_alloc_new _ _) rfl (by decide), fun _ b hb => by
          simp [Value.ownBlock] at hb
          subst hb
          exact ⟨by simp, fun e => Nat.lt_irrefl _ (O10.out.store.lt (.inl e))⟩⟩
        have hTr := pruneTrim (O10.out.store.fresh kx) next hkeys (by simp) (by have := hlog2.out; omega)
        rw [V10.out.eq, hT'.out] at hTr
        dsimp only at hTr
        have hTr' := Lib.hid hTr
        have hldp := Lib.hid V10.out.load
        have hldq : Hid (∀ j v, [Value.pointer (some ⟨sb, 0, none⟩)][j]? = some v → (w10.alloc (.cells #[.int .i64 key] 3)).cell? ⟨pb, 0 + j, none⟩ = some v) := Lib.hid (V10.out.fresh kx).load
        have kx' := Lib.hid kx
        clear kx hkeys hTr
        go_wp2_with (first | (refine wpList_load_agg 52 rfl rfl rfl _ Tryz.underlying52 rfl [.pointer (some ⟨sb, 0, none⟩)] (by kernel_rfl) hldp.out ?_) | (refine wpList_load_agg 52 rfl rfl rfl _ Tryz.underlying52 rfl [.pointer (some ⟨sb, 0, none⟩)] (by kernel_rfl) hldq.out ?_))
        refine hTr'.out.mono ?_
        rintro e w11 ⟨A11, rfl, hT11⟩
        have O11 := Lib.hid ((O10.out.fresh kx'.out).to hT11)
        have V11 := Lib.hid ((V10.out.fresh kx'.out).to hT11)
        have U11 := Lib.hid ((U10.out.fresh kx'.out).to hT11)
        clear hT11
        have hLz := treeList O11.out.store root3
        rw [N9.out.list (by omega), V11.out.eq] at hLz
        dsimp only at hLz
        have hLz' := Lib.hid hLz
        have hldz := Lib.hid V11.out.load
        clear hLz
        go_wp2_with (first | (refine wpList_load_agg 26 rfl rfl rfl _ Tryz.underlying26 rfl [.pointer (some ⟨sb, 0, none⟩)] (by kernel_rfl) hldz.out ?_))
        refine hLz'.out.mono ?_
        rintro e wy ⟨vy, rfl, howny, hky⟩
        obtain ⟨Ay, cy, rfl, hy1, hy2⟩ := EntsAt.form (show EntsAt wy vy W from SliceAt.of_owns howny)
        unfold maxLen at hy2
        have Oy := Lib.hid (O11.out.fresh hky)
        have Vy := Lib.hid (V11.out.fresh hky)
        have hS := same10 (U11.out.fresh hky).ents.at_ (show EntsAt wy (.slice Ay W.length cy) W from SliceAt.of_owns howny) (by have := hW64.out; omega)
        rw [decide_eq_true (rfl : W = W)] at hS
        have hS2 := Lib.hid hS
        clear hS howny hky
        go_wp2_with fail
        refine hS2.out.mono ?_
        rintro e wz ⟨rfl, hkz⟩
        have Oz := Lib.hid (Oy.out.fresh hkz)
        have Vz := Lib.hid (Vy.out.fresh hkz)
        have hE := exact11 N9.out (clean_mild N9.out.kk) (by simp) rfl (by have := N9.out.range; omega) Oz.out.store
        rw [Vz.out.eq] at hE
        have hE' := Lib.hid hE
        have hldE := Lib.hid Vz.out.load
        clear hE hkz
        go_wp2_with (first | (refine wpList_load_agg 52 rfl rfl rfl _ Tryz.underlying52 rfl [.pointer (some ⟨sb, 0, none⟩)] (by kernel_rfl) hldE.out ?_) | (refine wpList_exec_g (by rfl) (exec_load_agg (g := pb) (off := 0) rfl rfl [.pointer (some ⟨sb, 0, none⟩)] Tryz.underlying52 rfl (by kernel_rfl) hldE.out) ?_))
        refine hE'.out.mono ?_
        rintro e wE ⟨rfl, hTE⟩
        have kk : Hid (Kept (fun _ => False) w wE) := Lib.hid (k1'.out.trans (Oz.out.to hTE).kept)
        clear hTE
        go_wp2_with fail
        go_ret
        exact ⟨rfl, kk.out⟩
      · have hnb : (at0 == -1) = false := by simp [hno]
        have hmem : Hid ((key, (0 : Int)) ∈ W) := Lib.hid (by have h := findL_pos (l := W) (k := key) (by rw [hat'.out]; exact hno); obtain ⟨_, _, b, hb, e⟩ := N6.out.keys.2 _ h; rw [List.mem_singleton.1 hb] at e; dsimp only at e; rw [e] at h; exact h)
        have hback : Hid (putL (cutL W key) (key, 0) = W) := Lib.hid (put_cut N6.out.keys.1 hmem.out)
        obtain ⟨t1, t2⟩ := one_trim N6.out clean_besides (by omega) (by decide) (by decide) k0 k1
        have htl := trim_log O8.out.store root key
        obtain ⟨T, hT⟩ : ∃ T, SM.trim [key] MB root = T := ⟨_, rfl⟩
        rw [hT] at t1 t2 htl
        obtain ⟨M1, next, et⟩ := T
        dsimp only at t1 t2 htl
        subst t1
        have hlog1 : Hid (M1.log.length ≤ 2100) := Lib.hid (by have := hlog.out; omega)
        obtain ⟨p1, p2, p3, _⟩ := one_put t2 clean_besides (by omega) (by decide) (by decide) (key := key) (page := 0) k0 k1 ⟨0, List.mem_singleton.2 rfl, rfl⟩
        rw [hback.out] at p3
        obtain ⟨R, hR⟩ : ∃ R, M1.put next key 0 = R := ⟨_, rfl⟩
        rw [hR] at p1 p2 p3
        obtain ⟨M2, root2, er⟩ := R
        dsimp only at p1 p2 p3
        subst p1
        obtain ⟨S, hS⟩ : ∃ S, M2.swap next root2 = S := ⟨_, rfl⟩
        rw [hS] at p2 p3
        obtain ⟨M3, es⟩ := S
        dsimp only at p2 p3
        subst p2
        have hS' := Lib.hid hS
        have hT' := Lib.hid hT
        have hR' := Lib.hid hR
        have N9 := Lib.hid p3
        clear hR p3 hS t2 hT hno htl
        have kx : Kept (fun _ => False) w8 (w8.alloc (.cells #[.int .i64 key] 3)) := (Kept.refl _ _).alloc _
        have hkeys : IntsOff (w8.alloc (.cells #[.int .i64 key] 3)) A6 (.slice (some ⟨w8.heap.size, 0, none⟩) 1 1) [key] := ⟨SliceAt.block_new (heap_alloc_new _ _) rfl (by decide), fun _ b hb => by
          simp [Value.ownBlock] at hb
          subst hb
          exact ⟨by simp, fun e => Nat.lt_irrefl _ (O8.out.store.lt (.inl e))⟩⟩
        have hTr := pruneTrim (O8.out.store.fresh kx) root hkeys (by simp) (by have := hlog.out; omega)
        rw [V8.out.eq, hT'.out] at hTr
        dsimp only at hTr
        have hTr' := Lib.hid hTr
        have hldp := Lib.hid V8.out.load
        have hldq : Hid (∀ j v, [Value.pointer (some ⟨sb, 0, none⟩)][j]? = some v → (w8.alloc (.cells #[.int .i64 key] 3)).cell? ⟨pb, 0 + j, none⟩ = some v) := Lib.hid (V8.out.fresh kx).load
        have kx' := Lib.hid kx
        clear kx hkeys hTr
        go_wp2_with (first | (refine wpList_load_agg 52 rfl rfl rfl _ Tryz.underlying52 rfl [.pointer (some ⟨sb, 0, none⟩)] (by kernel_rfl) hldp.out ?_) | (refine wpList_load_agg 52 rfl rfl rfl _ Tryz.underlying52 rfl [.pointer (some ⟨sb, 0, none⟩)] (by kernel_rfl) hldq.out ?_))
        refine hTr'.out.mono ?_
        rintro e w9 ⟨A9, rfl, hT9⟩
        have O9 := Lib.hid ((O8.out.fresh kx'.out).to hT9)
        have V9 := Lib.hid ((V8.out.fresh kx'.out).to hT9)
        have U9 := Lib.hid ((U8.out.fresh kx'.out).to hT9)
        clear hT9
        have hP1 := treePut O9.out.store next key 0 (by have := hlog1.out; omega)
        rw [V9.out.eq, hR'.out] at hP1
        dsimp only at hP1
        have hP1' := Lib.hid hP1
        have hld9 := Lib.hid V9.out.load
        clear hP1
        go_wp2_with (first | (refine wpList_load_agg 26 rfl rfl rfl _ Tryz.underlying26 rfl [.pointer (some ⟨sb, 0, none⟩)] (by kernel_rfl) hld9.out ?_))
        refine hP1'.out.mono ?_
        rintro e w10 ⟨A10, rfl, hT10⟩
        have O10 := Lib.hid (O9.out.to hT10)
        have V10 := Lib.hid (V9.out.to hT10)
        have U10 := Lib.hid (U9.out.to hT10)
        have hSw := treeSwap O10.out.store next root2
        rw [V10.out.eq, hS'.out] at hSw
        dsimp only at hSw
        have hSw' := Lib.hid hSw
        have hld10 := Lib.hid V10.out.load
        clear hSw hT10
        go_wp2_with (first | (refine wpList_load_agg 26 rfl rfl rfl _ Tryz.underlying26 rfl [.pointer (some ⟨sb, 0, none⟩)] (by kernel_rfl) hld10.out ?_))
        refine hSw'.out.mono ?_
        rintro e w11 ⟨rfl, hT11⟩
        have O11 := Lib.hid (O10.out.to hT11)
        have V11 := Lib.hid (V10.out.to hT11)
        have U11 := Lib.hid (U10.out.to hT11)
        clear hT11
        have hLz := treeList O11.out.store root2
        rw [N9.out.list (by omega), V11.out.eq] at hLz
        dsimp only at hLz
        have hLz' := Lib.hid hLz
        have hldz := Lib.hid V11.out.load
        clear hLz
        go_wp2_with (first | (refine wpList_load_agg 26 rfl rfl rfl _ Tryz.underlying26 rfl [.pointer (some ⟨sb, 0, none⟩)] (by kernel_rfl) hldz.out ?_))
        refine hLz'.out.mono ?_
        rintro e wy ⟨vy, rfl, howny, hky⟩
        obtain ⟨Ay, cy, rfl, hy1, hy2⟩ := EntsAt.form (show EntsAt wy vy W from SliceAt.of_owns howny)
        unfold maxLen at hy2
        have Oy := Lib.hid (O11.out.fresh hky)
        have Vy := Lib.hid (V11.out.fresh hky)
        have hS := same10 (U11.out.fresh hky).ents.at_ (show EntsAt wy (.slice Ay W.length cy) W from SliceAt.of_owns howny) (by have := hW64.out; omega)
        rw [decide_eq_true (rfl : W = W)] at hS
        have hS2 := Lib.hid hS
        clear hS howny hky
        go_wp2_with fail
        refine hS2.out.mono ?_
        rintro e wz ⟨rfl, hkz⟩
        have Oz := Lib.hid (Oy.out.fresh hkz)
        have Vz := Lib.hid (Vy.out.fresh hkz)
        have hE := exact11 N9.out (clean_mild N9.out.kk) (by simp) rfl (by have := N9.out.range; omega) Oz.out.store
        rw [Vz.out.eq] at hE
        have hE' := Lib.hid hE
        have hldE := Lib.hid Vz.out.load
        clear hE hkz
        go_wp2_with (first | (refine wpList_load_agg 52 rfl rfl rfl _ Tryz.underlying52 rfl [.pointer (some ⟨sb, 0, none⟩)] (by kernel_rfl) hldE.out ?_) | (refine wpList_exec_g (by rfl) (exec_load_agg (g := pb) (off := 0) rfl rfl [.pointer (some ⟨sb, 0, none⟩)] Tryz.underlying52 rfl (by kernel_rfl) hldE.out) ?_))
        refine hE'.out.mono ?_
        rintro e wE ⟨rfl, hTE⟩
        have kk : Hid (Kept (fun _ => False) w wE) := Lib.hid (k1'.out.trans (Oz.out.to hTE).kept)
        clear hTE
        go_wp2_with fail
        go_ret
        exact ⟨rfl, kk.out⟩
end Go.Proofs.YthmjcbmeiabbgaaGreat.pruneBack
/-
  PruneTrims: the walk.
-/
namespace Go.Proofs.YthmjcbmeiabbgaaGreat.pruneTrims
open Go.RowKit
open treeSplits (IntsIn)
open pruneDense (PrunerVar one_start)
open pruneBack (bkE bkE_take bkE_len bkE_in)
open treeBuilds (TbSt TbSt.next TbSt.fresh)
set_option maxRecDepth 100000

/-- The entries so far. -/
def ptW (l : List Int) : List (Int × Int) := (bkE l).foldl putL []
theorem ptW_take {l : List Int} {k : Nat} {x : Int} (h : l[k]? = some x) : ptW (l.take (k + 1)) = if 0 ≤ x ∧ x < 64 then putL (ptW (l.take k)) (x, 0) else ptW (l.take k) := by
  unfold ptW
  rw [bkE_take h, List.foldl_append]
  by_cases e : 0 ≤ x ∧ x < 64
  · rw [if_pos e, if_pos e]; rfl
  · rw [if_neg e, if_neg e]; rfl
theorem putAll_rises : ∀ (es a : List (Int × Int)), RisesK a → RisesK (es.foldl putL a)
  | [], _, h => h
  | e :: es, _, h => putAll_rises es _ (putL_rises h e)
theorem ptW_rises (l : List Int) : RisesK (ptW l) := putAll_rises _ _ List.Pairwise.nil
theorem putAll_len : ∀ (es a : List (Int × Int)), RisesK a → (es.foldl putL a).length ≤ a.length + es.length
  | [], _, _ => Nat.le_refl _
  | e :: es, a, h => by
    have h1 := putAll_len es _ (putL_rises h e)
    have h2 := putL_length a h e
    rw [List.foldl_cons, List.length_cons]
    omega
theorem ptW_len (l : List Int) : (ptW l).length ≤ (bkE l).length := by
  have := putAll_len (bkE l) [] List.Pairwise.nil
  rw [List.length_nil, Nat.zero_add] at this
  exact this
/-- Whole numbers that came in, as those that no call of a store writes. -/
theorem ints_off {w wr : World} {A : SA} {Ac : Option Addr} {cc : Nat} {l : List Int} (h1 : l.length ≤ cc) (h2 : cc ≤ maxLen) (h : ∀ (i : Nat) (x : Int), l[i]? = some x → ∃ b off, Ac = some ⟨b, off, none⟩ ∧ b < w.heap.size ∧ w.cell? ⟨b, off + i, none⟩ = some (.int .i64 x))
    (k : Kept (fun _ => False) w wr) (hn : ∀ j, A.foot j → w.heap.size ≤ j) : IntsOff wr A (.slice Ac l.length cc) l := by
  refine ⟨⟨by simp, Ac, cc, rfl, h1, h2, fun j u hj => ?_⟩, fun hl b hb => ?_⟩
  · rw [List.getElem?_map] at hj
    cases hx : l[j]? with
    | none => rw [hx] at hj; cases hj
    | some x =>
      rw [hx] at hj
      cases hj
      obtain ⟨b, off, hA, _, hc⟩ := h j x hx
      exact ⟨b, off, hA, k.cell hc id⟩
  · obtain ⟨x, hx⟩ : ∃ x, l[0]? = some x := by
      cases l with
      | nil => exact absurd rfl hl
      | cons x l => exact ⟨x, rfl⟩
    obtain ⟨b', off, hA, hlt, _⟩ := h 0 x hx
    subst hA
    simp [Value.ownBlock] at hb
    subst hb
    exact ⟨Nat.lt_of_lt_of_le hlt k.size, fun e => absurd hlt (Nat.not_lt.2 (hn _ e))⟩

set_option maxHeartbeats 16000000 in
theorem walkIn {w : World} (va : Value) (l : List Int) (hl : IntsIn w va l) (vb : Value) (ks : List Int) (hk : IntsIn w vb ks) : Calls Tryz.prog 6 #[va, vb] w fun e w' => e = .returned (.bool true) ∧ Kept (fun _ => False) w w' := by
  obtain ⟨Aa, ca, rfl, hc1, hc2, hget⟩ := hl
  obtain ⟨Ac, cc, rfl, hd1, hd2, hgeu⟩ := hk
  unfold maxLen at hc2
  have hd2u := hd2
  unfold maxLen at hd2u
  have hget' := Lib.hid hget
  have hgeu' := Lib.hid hgeu
  have hd2' := Lib.hid hd2
  clear hget hgeu hd2
  have early : (decide ((70 : Int) < (l.length : Int)) = true ∨ (decide ((70 : Int) < (l.length : Int)) = false ∧ decide ((70 : Int) < (ks.length : Int)) = true)) ∨ (l.length ≤ 70 ∧ ks.length ≤ 70) := by
    simp only [decide_eq_true_eq, decide_eq_false_iff_not]; omega
  rcases early with early | ⟨hshort, hkshort⟩
  · rcases early with hb | ⟨hb, hb1⟩
    · go_enter Tryz.func6, Tryz.ntmps6
      go_wp2_with fail
      refine (alive11 _).mono ?_
      rintro e w1 ⟨rfl, k1⟩
      have k1' := Lib.hid k1
      clear k1
      go_wp2_with fail
      go_ret
      exact ⟨rfl, k1'.out⟩
    · go_enter Tryz.func6, Tryz.ntmps6
      go_wp2_with fail
      refine (alive11 _).mono ?_
      rintro e w1 ⟨rfl, k1⟩
      have k1' := Lib.hid k1
      clear k1
      go_wp2_with fail
      go_ret
      exact ⟨rfl, k1'.out⟩
  have hb : decide ((70 : Int) < (l.length : Int)) = false := by rw [decide_eq_false_iff_not]; omega
  have hb1 : decide ((70 : Int) < (ks.length : Int)) = false := by rw [decide_eq_false_iff_not]; omega
  have hm := fun w => made11 200 (by decide) (by decide) w
  rw [show (min (200 : Int) 244 - 4).toNat = 196 from by decide] at hm
  have hm' := Lib.hid hm
  clear hm
  go_enter Tryz.func6, Tryz.ntmps6
  go_wp2_with fail
  refine (alive11 _).mono ?_
  rintro e w1 ⟨rfl, k1⟩
  have k1' := Lib.hid k1
  clear k1
  go_wp2_with fail
  refine (hm'.out _).mono ?_
  rintro e w2 ⟨A, rfl, hA, hk, hn⟩
  have O2 : OwnStore w1 A (madeM 196 9) w2 := ⟨hA, hk, hn⟩
  obtain ⟨sb, hsb⟩ : ∃ sb, A.sb = sb := ⟨_, rfl⟩
  obtain ⟨pb, hpb⟩ : ∃ pb, w2.heap.size = pb := ⟨_, rfl⟩
  obtain ⟨w3, hw3⟩ : ∃ w3, (w2.alloc (.cells #[.pointer none] 52)).setRow pb #[.pointer (some ⟨sb, 0, none⟩)] = w3 := ⟨_, rfl⟩
  have k3 : Kept (fun _ => False) w2 w3 := by rw [← hw3]; exact ((Kept.refl _ _).alloc _).setRowNew (by omega) _
  have q3 : w3.heap[pb]? = some (.cells #[.pointer (some ⟨sb, 0, none⟩)] 52 (0, 0)) := by rw [← hw3, ← hpb]; exact setRow_heap _ _ _ _ _ _ (heap_alloc_new _ _)
  have O3 := Lib.hid (O2.fresh k3)
  have V3 : Hid (PrunerVar w3 A pb sb) := Lib.hid ⟨q3, Safe.new hA (by omega) (lt_of_heap q3), hsb⟩
  have hw3' := Lib.hid hw3
  have hpb' := Lib.hid hpb
  rw [hsb]
  clear hA hk hn O2 k3 q3 hw3 hpb hsb
  go_wp2_with (first | (refine wpList_alloc_as 52 rfl rfl #[.pointer none] pruner_zero ?_; rw [hpb'.out]) | (refine wpList_store_whole 52 rfl rfl rfl [.pointer (some ⟨sb, 0, none⟩)] rfl (by kernel_rfl) 52 #[.pointer none] (by rw [← hpb'.out]; exact heap_alloc_new _ _) rfl (by intro c hc; simp at hc; subst hc; rfl) ?_; rw [hw3'.out]))
  have K3 : Hid (IntsOff w3 A (.slice Ac ks.length cc) ks) := Lib.hid (ints_off hd1 hd2'.out hgeu'.out (k1'.out.trans O3.out.kept) (fun j hj => Nat.le_trans k1'.out.size (O3.out.new j (.inl hj))))
  have I4 : Hid (TbSt w3 (.slice (some ⟨w3.heap.size, 0, none⟩) 0 0) (.slice (some ⟨w3.heap.size + 1, 0, none⟩) 0 0) (bkE (l.take 0)) (ptW (l.take 0)) ((w3.alloc (.cells #[] 33)).alloc (.cells #[] 33))) := Lib.hid ⟨((Kept.refl _ _).alloc _).alloc _, ownsRow.keptOf (owns_empty w3 w3.heap.size w3.heap.size 33 2 (Nat.le_refl _) rfl) ((Kept.refl (fun _ => False) _).alloc _) (fun _ _ => id), owns_empty (w3.alloc (.cells #[] 33)) w3.heap.size (w3.heap.size + 1) 33 2 (by simp) (by simp), fun b h1 h2 => by
    simp [Value.ownBlock] at h1 h2
    omega⟩
  go_loopw [8, 9, 48] (fun v wv i wr => ∃ (k : Nat), k ≤ l.length ∧ i = .int .i64 k ∧ Hid (TbSt w3 v wv (bkE (l.take k)) (ptW (l.take k)) wr)) (fun _ _ i _ => l.length - (intOf i).toNat)
  case atStart => exact ⟨0, Nat.zero_le _, rfl, I4⟩
  case round =>
    obtain ⟨k, hk, rfl, hI⟩ := hrel
    obtain ⟨Av, cv, rfl, hv1, hv2⟩ := EntsAt.form (show EntsAt wr _ (bkE (l.take k)) from SliceAt.of_owns hI.out.own)
    obtain ⟨Aw, cw, rfl, hw1, hw2⟩ := EntsAt.form (show EntsAt wr _ (ptW (l.take k)) from SliceAt.of_owns hI.out.row)
    unfold maxLen at hv2 hw2
    by_cases hlt : k < l.length
    · obtain ⟨x, hx⟩ : ∃ x, l[k]? = some x := ⟨_, List.getElem?_eq_getElem hlt⟩
      obtain ⟨ab, ao, rfl, hab, c1⟩ := hget'.out k x hx
      have c1' := hI.out.kept.cell (O3.out.kept.cell (k1'.out.cell c1 id) id) id
      have hki : (k : Int) < (l.length : Int) := by omega
      obtain ⟨xb, hxb⟩ : ∃ xb, wr.heap.size = xb := ⟨_, rfl⟩
      obtain ⟨wy, hwx⟩ : ∃ wy, (wr.alloc (.cells #[.int .i64 0, .int .i64 0] 33)).setRow xb #[.int .i64 x, .int .i64 0] = wy := ⟨_, rfl⟩
      have ky : Kept (fun _ => False) wr wy := by rw [← hwx]; exact ((Kept.refl _ _).alloc _).setRowNew (by omega) _
      have qy : wy.heap[xb]? = some (.cells #[.int .i64 x, .int .i64 0] 33 (0, 0)) := by rw [← hwx, ← hxb]; exact setRow_heap _ _ _ _ _ _ (heap_alloc_new _ _)
      have qy' := Lib.hid qy
      have hly : Hid (∀ i v, [Value.int .i64 x, .int .i64 0][i]? = some v → wy.cell? ⟨xb, 0 + i, none⟩ = some v) := Lib.hid (fun i v hi => by rw [cell_of_heap qy, Nat.zero_add]; simpa using hi)
      have hxb' := Lib.hid hxb
      have hwx' := Lib.hid hwx
      have hx' := Lib.hid hx
      have Iy := Lib.hid (hI.out.fresh ky)
      have hlW := ptW_len (l.take k)
      have hlE := bkE_len (l.take k)
      rw [List.length_take] at hlE
      clear hx c1 ky qy hxb hwx hI I4
      go_wp2_with (first | (refine wpList_alloc_as 33 rfl rfl #[.int .i64 0, .int .i64 0] (by kernel_rfl) ?_; rw [hxb'.out]) | (refine wpList_store_whole 33 rfl rfl rfl [.int .i64 x, .int .i64 0] rfl (by kernel_rfl) 33 #[.int .i64 0, .int .i64 0] (by rw [← hxb'.out]; exact heap_alloc_new _ _) rfl (by intro c hc; simp at hc; rcases hc with rfl | rfl <;> rfl) ?_; rw [hwx'.out]) | (refine wpList_load_agg 33 rfl rfl rfl _ Tryz.underlying33 rfl [.int .i64 x, .int .i64 0] (by kernel_rfl) hly.out ?_))
      by_cases hin : 0 ≤ x ∧ x < 64
      · have hRf := refPut10 (show EntsAt wy (.slice Aw (ptW (l.take k)).length cw) (ptW (l.take k)) from SliceAt.of_owns Iy.out.row) (by omega) (x, 0) ⟨hin.1, by omega⟩
        have hE1 := bkE_take hx'.out
        have hW1 := ptW_take hx'.out
        rw [if_pos hin] at hE1 hW1
        rw [refPut_eq (ptW_rises _), ← hW1] at hRf
        have hRf' := Lib.hid hRf
        have hE1' := Lib.hid hE1
        clear hRf hE1 hW1 hin
        refine hRf'.out.mono ?_
        rintro e wq ⟨u, rfl, hownq, hkq⟩
        obtain ⟨Au, cu, rfl, hu1, hu2⟩ := EntsAt.form (show EntsAt wq u (ptW (l.take (k + 1))) from SliceAt.of_owns hownq)
        unfold maxLen at hu2
        have hlz : Hid (∀ i v, [Value.int .i64 x, .int .i64 0][i]? = some v → wq.cell? ⟨xb, 0 + i, none⟩ = some v) := Lib.hid (fun i v hi => by rw [cell_of_heap (hkq.get qy'.out id), Nat.zero_add]; simpa using hi)
        have hownq' := Lib.hid hownq
        have hkq' := Lib.hid hkq
        have R5 := Lib.hid (ownsRow.keptOf (Iy.out.fresh hkq).own ((Kept.refl (fun _ => False) wq).alloc (.cells #[.int .i64 x, .int .i64 0] 33)) (fun _ _ => id))
        have K5 := Lib.hid ((Iy.out.fresh hkq).kept.trans ((Kept.refl (fun _ => False) wq).alloc (.cells #[.int .i64 x, .int .i64 0] 33)))
        clear hownq hkq
        go_wp2_with (first | (refine wpList_load_agg 33 rfl rfl rfl _ Tryz.underlying33 rfl [.int .i64 x, .int .i64 0] (by kernel_rfl) hlz.out ?_) | (at_builtin; refine wpList_append_src rfl elemEntry (.tmp 63) (.tmp 65) rfl (by rfl) (by rfl) R5.out (SliceAt.block_new (ys := [.int .i64 x, .int .i64 0]) (m := 1) (heap_alloc_new _ _) (by rfl) (by decide)) (by intro c hc; simp at hc; rcases hc with rfl | rfl <;> rfl) (by omega) (by omega) K5.out.size ?_; intro v2 w10 hown10 hg10 hat10))
        have fin : Hid (TbSt w3 v2 (.slice Au (ptW (l.take (k + 1))).length cu) (bkE (l.take (k + 1))) (ptW (l.take (k + 1))) w10) := Lib.hid (by rw [hE1'.out]; exact Iy.out.next (x := (x, 0)) hownq'.out hkq'.out hown10 hg10 hat10)
        clear hown10 hg10 hat10
        go_wp2_with fail
        go_roundw
        case rel => exact ⟨k + 1, by omega, by go_num, fin⟩
        case measure => simp [intOf]; omega
      · have hE1 := bkE_take hx'.out
        have hW1 := ptW_take hx'.out
        rw [if_neg hin] at hE1 hW1
        rw [List.append_nil] at hE1
        have fin' : Hid (∀ {wq}, Kept (fun _ => False) wy wq → Hid (TbSt w3 (.slice Av (bkE (l.take k)).length cv) (.slice Aw (ptW (l.take k)).length cw) (bkE (l.take (k + 1))) (ptW (l.take (k + 1))) wq)) := Lib.hid fun h => Lib.hid (by rw [hE1, hW1]; exact Iy.out.fresh h)
        have hr' : Hid (x < 0 ∨ 63 < x) := Lib.hid (by omega)
        clear hE1 hW1 hin
        refine (refPutBad10 (x, 0) hr'.out).mono ?_
        rintro e wq ⟨rfl, hkq⟩
        have fin := fin'.out hkq
        clear hkq fin'
        go_wp2_with fail
        go_roundw
        case rel => exact ⟨k + 1, by omega, by go_num, fin⟩
        case measure => simp [intOf]; omega
    · obtain rfl : k = l.length := by omega
      rw [List.take_length] at hI hv1 hw1 ⊢
      have O5 := Lib.hid (O3.out.fresh hI.out.kept)
      have V5 := Lib.hid (V3.out.fresh hI.out.kept)
      have K5 := Lib.hid (K3.out.fresh hI.out.kept)
      have hbl := bkE_len l
      have U5 : Hid (OutAt wr A w1.heap.size (.slice Aw (ptW l).length cw) (ptW l)) := Lib.hid ⟨owns_le' hI.out.row O3.out.kept.size, fun b hb e => absurd (O3.out.store.lt (.inl e)) (Nat.not_lt.2 (hI.out.row.lt b hb).1)⟩
      have E5 : EntsOff wr A (.slice Av (bkE l).length cv) (bkE l) := ⟨SliceAt.of_owns hI.out.own, fun _ b hb => ⟨(hI.out.own.lt b hb).2, fun e => absurd (O3.out.store.lt (.inl e)) (Nat.not_lt.2 (hI.out.own.lt b hb).1)⟩⟩
      obtain ⟨MB, root, hbuild, hone, hlogB⟩ := build_one (s := 196) clean_besides (by decide) (by decide) (bkE l) (one_start (by decide) (by decide)) (by omega) (fun y hy => bkE_in hy)
      have hB := treeBuild O5.out.store E5 (by omega) (by show 1 + 100000 < 100000000; omega)
      rw [hbuild, V5.out.eq] at hB
      have hB' := Lib.hid hB
      rw [show (bkE l).foldl putL [] = ptW l from rfl] at hone
      obtain ⟨W, hW⟩ : ∃ W, ptW l = W := ⟨_, rfl⟩
      rw [hW] at hone U5 hw1 ⊢
      have hlog : Hid (MB.log.length ≤ 2000) := Lib.hid (by have : (madeM 196 9).log.length = 1 := rfl; omega)
      obtain ⟨PP, hP⟩ : ∃ PP, 0 + (bkE l).length = PP := ⟨_, rfl⟩
      rw [hP] at hone
      have hP70 : PP ≤ 70 := by omega
      have hfew := hone.few (by omega)
      have N7 := hone.marked
      have hW64 : Hid (W.length ≤ 64) := Lib.hid hone.len
      have hlv : (markM MB).liveN ≤ 37 := by
        have e : (markM MB).liveN = MB.liveN := by
          unfold SM.liveN
          exact sumN_congr fun q _ => by rw [mark_live]
        rw [List.length_singleton] at hfew
        omega
      obtain ⟨MM, hMM⟩ : ∃ MM, markM MB = MM := ⟨_, rfl⟩
      rw [hMM] at N7 hlv
      have hMM' := Lib.hid hMM
      have N7' := Lib.hid N7
      have hload5 := Lib.hid V5.out.load
      have hlogM : Hid (MM.log.length ≤ 2000) := Lib.hid (by rw [← hMM]; exact hlog.out)
      have hT := trims_ok (since_besides hlv) (by decide) (by decide) ks N7 (by omega)
      obtain ⟨R, hR⟩ : ∃ R, SM.trim ks MM root = R := ⟨_, rfl⟩
      rw [hR] at hT
      obtain ⟨M1, next, et⟩ := R
      dsimp only at hT
      have hR' := Lib.hid hR
      have hT' := Lib.hid hT
      obtain ⟨fr, hfr⟩ : ∃ fr, MM.pool.freeCount = fr := ⟨_, rfl⟩
      have hfr' := Lib.hid hfr
      clear hI I4 E5 hB hbuild hone hlogB hW hP hfew N7 hlv hMM hT hR hfr hbl hv1
      go_wp2_with (first | (refine wpList_load_agg 26 rfl rfl rfl _ Tryz.underlying26 rfl [.pointer (some ⟨sb, 0, none⟩)] (by kernel_rfl) hload5.out ?_))
      refine hB'.out.mono ?_
      rintro e w6 ⟨A6, rfl, hT6⟩
      have O6 := Lib.hid (O5.out.to hT6)
      have V6 := Lib.hid (V5.out.to hT6)
      have U6 := Lib.hid (U5.out.to hT6)
      have K6 := Lib.hid (K5.out.to hT6)
      have c60 := V6.out.c0
      have hM := storeMark O6.out.store
      rw [V6.out.eq] at hM
      have hM' := Lib.hid hM
      clear hT6 hM
      go_wp2_with fail
      refine hM'.out.mono ?_
      rintro e w7 ⟨mb, rfl, hT7, hpo7⟩
      have hT7 : StoreTo A6 A6 MM w6 w7 := by rw [← hMM'.out]; exact hT7
      have hpo7 : PoolOff w7 A6 mb MM.pool := by rw [← hMM'.out]; exact hpo7
      have O7 := Lib.hid (O6.out.to hT7)
      have V7 := Lib.hid (V6.out.to hT7)
      have U7 := Lib.hid (U6.out.to hT7)
      have K7 := Lib.hid (K6.out.to hT7)
      have Q7 := Lib.hid hpo7
      have c70 := V7.out.c0
      have hP := storePool O7.out.store
      rw [V7.out.eq] at hP
      have hP' := Lib.hid hP
      have hF := freeCount_any O7.out.store.pool
      rw [hfr'.out] at hF
      have hF' := Lib.hid hF
      have hTr := pruneTrim O7.out.store root K7.out (by omega) (by have := hlogM.out; omega)
      rw [V7.out.eq, hR'.out] at hTr
      dsimp only at hTr
      have hTr' := Lib.hid hTr
      have hld7 := Lib.hid V7.out.load
      clear hT7 hpo7 c60 hP hF hTr
      go_wp2_with fail
      refine hP'.out.mono ?_
      rintro e w8 ⟨rfl, rfl⟩
      go_wp2_with fail
      refine hF'.out.mono ?_
      rintro e w8 ⟨rfl, rfl⟩
      go_wp2_with (first | (refine wpList_load_agg 52 rfl rfl rfl _ Tryz.underlying52 rfl [.pointer (some ⟨sb, 0, none⟩)] (by kernel_rfl) hld7.out ?_))
      refine hTr'.out.mono ?_
      rintro e w9 ⟨A9, rfl, hT9⟩
      have O9 := Lib.hid (O7.out.to hT9)
      have V9 := Lib.hid (V7.out.to hT9)
      have U9 := Lib.hid (U7.out.to hT9)
      have K9 := Lib.hid (K7.out.to hT9)
      have Q9 := Lib.hid (Q7.out.to hT9)
      have hRf := refTrim11 U9.out.ents.at_ (by have := hW64.out; omega) K9.out.at_ (by omega)
      clear hT9 c70
      rcases hT'.out with ⟨hall, h0, N9⟩ | ⟨hbad, hm1, h101, hsince, hsz⟩
      · subst h0
        rw [refTrim_ok hall] at hRf
        dsimp only at hRf
        obtain ⟨W2, hW2e⟩ : ∃ W2, ks.foldl cutL W = W2 := ⟨_, rfl⟩
        rw [hW2e] at hRf N9
        have hRf' := Lib.hid hRf
        have N9' := Lib.hid N9
        have hW2 := N9.len
        clear hRf N9 hall hW2e
        go_wp2_with fail
        refine hRf'.out.mono ?_
        rintro e w10 ⟨u, rfl, hent, hk10⟩
        obtain ⟨Au, cu, rfl, hu1, hu2⟩ := hent.form
        unfold maxLen at hu2
        have O10 := Lib.hid (O9.out.fresh hk10)
        have V10 := Lib.hid (V9.out.fresh hk10)
        have E10 := Lib.hid hent
        have hL := treeList O10.out.store next
        rw [N9'.out.list (by omega), V10.out.eq] at hL
        dsimp only at hL
        have hL' := Lib.hid hL
        have hld10 := Lib.hid V10.out.load
        clear hent hk10 hL
        go_wp2_with (first | (refine wpList_load_agg 26 rfl rfl rfl _ Tryz.underlying26 rfl [.pointer (some ⟨sb, 0, none⟩)] (by kernel_rfl) hld10.out ?_))
        refine hL'.out.mono ?_
        rintro e wy ⟨vy, rfl, howny, hky⟩
        obtain ⟨Ay, cy, rfl, hy1, hy2⟩ := EntsAt.form (show EntsAt wy vy W2 from SliceAt.of_owns howny)
        unfold maxLen at hy2
        have Oy := Lib.hid (O10.out.fresh hky)
        have Vy := Lib.hid (V10.out.fresh hky)
        have hS := same10 (show EntsAt wy (.slice Ay W2.length cy) W2 from SliceAt.of_owns howny) (show EntsAt wy _ W2 from SliceAt.fresh E10.out hky) (by omega)
        rw [decide_eq_true (rfl : W2 = W2)] at hS
        have hS2 := Lib.hid hS
        clear hS howny hky
        go_wp2_with fail
        refine hS2.out.mono ?_
        rintro e wz ⟨rfl, hkz⟩
        have Oz := Lib.hid (Oy.out.fresh hkz)
        have Vz := Lib.hid (Vy.out.fresh hkz)
        have hE := exact11 N9'.out (since_mild N9'.out.kk) (by simp) rfl (by have := N9'.out.range; omega) Oz.out.store
        rw [Vz.out.eq] at hE
        have hE' := Lib.hid hE
        have hldE := Lib.hid Vz.out.load
        clear hE hkz
        go_wp2_with (first | (refine wpList_load_agg 52 rfl rfl rfl _ Tryz.underlying52 rfl [.pointer (some ⟨sb, 0, none⟩)] (by kernel_rfl) hldE.out ?_) | (refine wpList_exec_g (by rfl) (exec_load_agg (g := pb) (off := 0) rfl rfl [.pointer (some ⟨sb, 0, none⟩)] Tryz.underlying52 rfl (by kernel_rfl) hldE.out) ?_))
        refine hE'.out.mono ?_
        rintro e wE ⟨rfl, hTE⟩
        have kk : Hid (Kept (fun _ => False) w wE) := Lib.hid (k1'.out.trans (Oz.out.to hTE).kept)
        clear hTE
        go_wp2_with fail
        go_ret
        exact ⟨rfl, kk.out⟩
      · subst hm1 h101
        rw [refTrim_bad hbad] at hRf
        dsimp only at hRf
        have hRf' := Lib.hid hRf
        have Nu := Lib.hid (N7'.out.undone hsince)
        have hsz' := Lib.hid (N7'.out.size.trans hsz.symm)
        clear hRf hbad hsince hsz
        go_wp2_with fail
        refine hRf'.out.mono ?_
        rintro e w10 ⟨u, rfl, hent, hk10⟩
        obtain ⟨Au, cu, rfl, hu1, hu2⟩ := hent.form
        have O10 := Lib.hid (O9.out.fresh hk10)
        have V10 := Lib.hid (V9.out.fresh hk10)
        have U10 := Lib.hid (U9.out.fresh hk10)
        have Q10 := Lib.hid (Q9.out.fresh hk10)
        have hUn := storeUndo O10.out.store Q10.out.pool hsz'.out
        rw [V10.out.eq] at hUn
        have hUn' := Lib.hid hUn
        have c100 := V10.out.c0
        clear hent hk10 hUn hu1 hu2
        go_wp2_with fail
        refine hUn'.out.mono ?_
        rintro e w11 ⟨v11, A11, rfl, hT11⟩
        have O11 := Lib.hid (O10.out.to hT11)
        have V11 := Lib.hid (V10.out.to hT11)
        have U11 := Lib.hid (U10.out.to hT11)
        have hL := treeList O11.out.store root
        rw [Nu.out.list (by omega), V11.out.eq] at hL
        dsimp only at hL
        have hL' := Lib.hid hL
        have hld11 := Lib.hid V11.out.load
        clear hT11 hL c100
        go_wp2_with (first | (refine wpList_load_agg 26 rfl rfl rfl _ Tryz.underlying26 rfl [.pointer (some ⟨sb, 0, none⟩)] (by kernel_rfl) hld11.out ?_))
        refine hL'.out.mono ?_
        rintro e wy ⟨vy, rfl, howny, hky⟩
        obtain ⟨Ay, cy, rfl, hy1, hy2⟩ := EntsAt.form (show EntsAt wy vy W from SliceAt.of_owns howny)
        unfold maxLen at hy2
        have Oy := Lib.hid (O11.out.fresh hky)
        have Vy := Lib.hid (V11.out.fresh hky)
        have hS := same10 (show EntsAt wy (.slice Ay W.length cy) W from SliceAt.of_owns howny) (U11.out.fresh hky).ents.at_ (by have := hW64.out; omega)
        rw [decide_eq_true (rfl : W = W)] at hS
        have hS2 := Lib.hid hS
        clear hS howny hky
        go_wp2_with fail
        refine hS2.out.mono ?_
        rintro e wz ⟨rfl, hkz⟩
        have Oz := Lib.hid (Oy.out.fresh hkz)
        have Vz := Lib.hid (Vy.out.fresh hkz)
        have cz0 := Vz.out.c0
        have hP2 := storePool Oz.out.store
        rw [Vz.out.eq] at hP2
        have hP2' := Lib.hid hP2
        have hF2 := freeCount_any Oz.out.store.pool
        rw [show (SM.mk MM.pool M1.log).pool.freeCount = fr from hfr'.out] at hF2
        have hF2' := Lib.hid hF2
        have hE := exact11 Nu.out Nu.out.kk (by simp) rfl (by have := Nu.out.range; omega) Oz.out.store
        rw [Vz.out.eq] at hE
        have hE' := Lib.hid hE
        have hldE := Lib.hid Vz.out.load
        clear hE hkz hP2 hF2
        go_wp2_with fail
        refine hP2'.out.mono ?_
        rintro e wp ⟨rfl, rfl⟩
        go_wp2_with fail
        refine hF2'.out.mono ?_
        rintro e wp ⟨rfl, rfl⟩
        go_wp2_with (first | (refine wpList_load_agg 52 rfl rfl rfl _ Tryz.underlying52 rfl [.pointer (some ⟨sb, 0, none⟩)] (by kernel_rfl) hldE.out ?_) | (refine wpList_exec_g (by rfl) (exec_load_agg (g := pb) (off := 0) rfl rfl [.pointer (some ⟨sb, 0, none⟩)] Tryz.underlying52 rfl (by kernel_rfl) hldE.out) ?_))
        refine hE'.out.mono ?_
        rintro e wE ⟨rfl, hTE⟩
        have kk : Hid (Kept (fun _ => False) w wE) := Lib.hid (k1'.out.trans (Oz.out.to hTE).kept)
        clear hTE
        go_wp2_with fail
        go_ret
        exact ⟨rfl, kk.out⟩
end Go.Proofs.YthmjcbmeiabbgaaGreat.pruneTrims
