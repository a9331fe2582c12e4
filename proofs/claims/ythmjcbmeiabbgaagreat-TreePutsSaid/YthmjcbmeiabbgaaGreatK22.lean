/-
  TreePuts: the walk.
-/
import Derived.Test.YthmjcbmeiabbgaaGreatK20
import Derived.Test.YthmjcbmeiabbgaaGreatK21
set_option linter.unusedVariables false
set_option linter.unusedSimpArgs false
namespace Go.Proofs.YthmjcbmeiabbgaaGreat.treePuts
open Go.RowKit
open pruneCuts (ActsIn)
open pruneDense (one_start)
set_option maxRecDepth 100000

/-- The pages of the blocks, as a slice that no call of the store writes. -/
structure BlkAt (w : World) (A : SA) (base : Nat) (v : Value) (ns : List Nat) : Prop where
  own : w.ownsRow base 3 1 v 4 (ns.map fun i => Value.int .i64 (i : Nat))
  off : ∀ b, v.ownBlock = some b → ¬ A.foot b
section
variable {w w' : World} {A A' : SA} {M' : SM} {base : Nat} {v : Value} {ns : List Nat}
theorem BlkAt.to (h : BlkAt w A base v ns) (k : StoreTo A A' M' w w') : BlkAt w' A' base v ns :=
  ⟨ownsRow.keptOf h.own k.kept h.off, fun b hb e => (k.foot b e).elim (h.off b hb) fun e => absurd (h.own.lt b hb).2 (Nat.not_lt.2 e)⟩
theorem BlkAt.fresh (h : BlkAt w A base v ns) (k : Kept (fun _ => False) w w') : BlkAt w' A base v ns :=
  ⟨ownsRow.keptOf h.own k (fun _ _ => id), h.off⟩
end
/-- What holds behind each entry. -/
structure PutSt (w1 : World) (b sb : Nat) (bv : Value) (ns : List Nat) (root : Int) (A : SA) (M : SM) (W : List (Int × Int)) (wv : Value) (k : Nat) (wr : World) : Prop where
  own : OwnStore w1 A M wr
  tv : TreeVar wr A b sb
  one : OneTree Clean 240 ([0] ++ ns) M root W k
  out : OutAt wr A w1.heap.size wv W
  log : M.log.length ≤ 2000 + 50 * k
  blk : BlkAt wr A w1.heap.size bv ns
theorem PutSt.fresh {w1 : World} {b sb : Nat} {bv : Value} {ns : List Nat} {root : Int} {A : SA} {M : SM} {W : List (Int × Int)} {wv : Value} {k : Nat} {wr w' : World}
    (h : PutSt w1 b sb bv ns root A M W wv k wr) (q : Kept (fun _ => False) wr w') : PutSt w1 b sb bv ns root A M W wv k w' := ⟨h.own.fresh q, h.tv.fresh q, h.one, h.out.fresh q, h.log, h.blk.fresh q⟩
theorem out_new {w w' w1 : World} {A : SA} {M : SM} {v : Value} {l : List (Int × Int)} (O : OwnStore w1 A M w) (h : w'.ownsRow w.heap.size 33 2 v l.length (entCells l)) : OutAt w' A w1.heap.size v l :=
  ⟨owns_le' h O.kept.size, fun b hb e => absurd (O.store.lt (.inl e)) (Nat.not_lt.2 (h.lt b hb).1)⟩

set_option maxHeartbeats 16000000 in
theorem walkIn {w : World} (va : Value) (l : List (Int × Int)) (hl : ActsIn w va l) (key : Int) : Calls Tryz.prog 4 #[va, .int .i64 key] w fun e w' => e = .returned (.bool true) ∧ Kept (fun _ => False) w w' := by
  obtain ⟨Aa, ca, rfl, hc1, hc2, hget⟩ := hl
  unfold maxLen at hc2
  have hget' := Lib.hid hget
  clear hget
  by_cases hlong : 70 < l.length
  · have hb : decide ((70 : Int) < (l.length : Int)) = true := by rw [decide_eq_true_eq]; omega
    clear hlong
    go_enter Tryz.func4, Tryz.ntmps4
    go_wp2_with fail
    refine (alive10 _).mono ?_
    rintro e w1 ⟨rfl, k1⟩
    have k1' := Lib.hid k1
    clear k1
    go_wp2_with fail
    go_ret
    exact ⟨rfl, k1'.out⟩
  have hshort : l.length ≤ 70 := by omega
  have hb : decide ((70 : Int) < (l.length : Int)) = false := by rw [decide_eq_false_iff_not]; omega
  have hm := fun w => made10 244 (by decide) (by decide) w
  rw [show (min (244 : Int) 244 - 4).toNat = 240 from by decide] at hm
  have hm' := Lib.hid hm
  clear hm hlong
  go_enter Tryz.func4, Tryz.ntmps4
  go_wp2_with fail
  refine (alive10 _).mono ?_
  rintro e w1 ⟨rfl, k1⟩
  have k1' := Lib.hid k1
  clear k1
  go_wp2_with fail
  refine (hm'.out _).mono ?_
  rintro e w2 ⟨A, rfl, hA, hk, hn⟩
  obtain ⟨b, hbb⟩ : ∃ b, w2.heap.size = b := ⟨_, rfl⟩
  have hO := TreeVar.made (b := b) ⟨hA, hk, hn⟩ hbb
  obtain ⟨w3, hw3⟩ : ∃ w3, (w2.alloc (.cells #[.pointer none] 26)).setRow b #[.pointer (some ⟨A.sb, 0, none⟩)] = w3 := ⟨_, rfl⟩
  rw [hw3] at hO
  obtain ⟨hO3, hT3⟩ := hO
  have hO3 := Lib.hid hO3
  have hT3 := Lib.hid hT3
  have hw3' := Lib.hid hw3
  have hb' := Lib.hid hbb
  have hP := pages10 (s := 240) (one_start (by decide) (by decide)) (by simp) (by decide) (by decide) (by show 1 ≤ 1000; omega) hO3.out.store
  obtain ⟨sb, hsb⟩ : ∃ sb, A.sb = sb := ⟨_, rfl⟩
  rw [hsb] at hw3' hT3 hP ⊢
  have hP' := Lib.hid hP
  have hld3 := Lib.hid hT3.out.load
  clear hA hk hn hw3 hbb hP
  go_wp2_with (first | (refine wpList_alloc_as 26 rfl rfl #[.pointer none] tree_zero ?_; rw [hb'.out]) | (refine wpList_store_whole 26 rfl rfl rfl [.pointer (some ⟨sb, 0, none⟩)] rfl (by kernel_rfl) 26 #[.pointer none] (by rw [← hb'.out]; exact heap_alloc_new _ _) rfl (by intro c hc; simp at hc; subst hc; rfl) ?_; rw [hw3'.out]) | (refine wpList_load_agg 26 rfl rfl rfl _ Tryz.underlying26 rfl [.pointer (some ⟨sb, 0, none⟩)] (by kernel_rfl) hld3.out ?_))
  refine hP'.out.mono ?_
  rintro e w4 ⟨A4, M4, ns, bv, rfl, hns, hT4, one4, nd4, row4, off4, log4⟩
  have O4 := Lib.hid (hO3.out.to hT4)
  have V4 := Lib.hid (hT3.out.to hT4)
  obtain ⟨_, Ab, cb, rfl, hb41, hb42, _⟩ := SliceAt.of_owns row4
  have one4' := Lib.hid one4
  have nd4' := Lib.hid nd4
  have row4' := Lib.hid row4
  have off4' := Lib.hid off4
  have hns' := Lib.hid hns
  have log4' := Lib.hid log4
  clear hT4 one4 nd4 row4 off4 hns log4
  go_wp2_with fail
  have I4 : Hid (∃ A M W, PutSt w1 b sb (.slice Ab 4 cb) ns (-1) A M W (.slice (some ⟨w4.heap.size, 0, none⟩) 0 0) 0 (w4.alloc (.cells #[] 33))) := Lib.hid ⟨A4, M4, [], by
    have kq : Kept (fun _ => False) w4 (w4.alloc (.cells #[] 33)) := (Kept.refl _ _).alloc _
    exact ⟨O4.out.fresh kq, V4.out.fresh kq, one4'.out, out_new O4.out (owns_empty w4 w4.heap.size w4.heap.size 33 2 (Nat.le_refl _) rfl), by have h1 := log4'.out; have h2 : (madeM 240 9).log.length = 1 := rfl; omega,
      BlkAt.fresh ⟨owns_le' row4'.out hO3.out.kept.size, fun b hb e => off4'.out b hb (.inl e)⟩ kq⟩⟩
  go_loopw [9, 10, 46] (fun r v i wr => ∃ (k : Nat) (root : Int), k ≤ l.length ∧ i = .int .i64 k ∧ r = .int .i64 root ∧ Hid (∃ A M W, PutSt w1 b sb (.slice Ab 4 cb) ns root A M W v k wr)) (fun _ _ i _ => l.length - (intOf i).toNat)
  case atStart => exact ⟨0, -1, Nat.zero_le _, rfl, rfl, I4⟩
  case round =>
    obtain ⟨k, root, hk, rfl, rfl, hI⟩ := hrel
    by_cases hlt : k < l.length
    · obtain ⟨x, hx⟩ : ∃ x, l[k]? = some x := ⟨_, List.getElem?_eq_getElem hlt⟩
      obtain ⟨eb, eo, rfl, heb, hx0, hx1⟩ := hget'.out k x hx
      obtain ⟨A, M, W, St⟩ := hI.out
      obtain ⟨Aw, cw, rfl, hw1, hw2⟩ := St.out.ents.at_.form
      unfold maxLen at hw2
      have kw := k1'.out.trans St.own.kept
      have hki : (k : Int) < (l.length : Int) := by omega
      have hlo : Hid (∀ i v, [Value.int .i64 x.1, .int .i64 x.2][i]? = some v → wr.cell? ⟨eb, eo + k * 2 + i, none⟩ = some v) := Lib.hid (fun i v hi => by
        match i, hi with
        | 0, hi => cases hi; exact kw.cell hx0 id
        | 1, hi => cases hi; exact kw.cell hx1 id)
      obtain ⟨xb, hxb⟩ : ∃ xb, wr.heap.size = xb := ⟨_, rfl⟩
      obtain ⟨wx, hwx⟩ : ∃ wx, (wr.alloc (.cells #[.int .i64 0, .int .i64 0] 33)).setRow xb #[.int .i64 x.1, .int .i64 x.2] = wx := ⟨_, rfl⟩
      have kx : Kept (fun _ => False) wr wx := by rw [← hwx]; exact ((Kept.refl _ _).alloc _).setRowNew (by omega) _
      have qx : wx.heap[xb]? = some (.cells #[.int .i64 x.1, .int .i64 x.2] 33 (0, 0)) := by rw [← hwx, ← hxb]; exact setRow_heap _ _ _ _ _ _ (heap_alloc_new _ _)
      have cx1 : wx.cell? ⟨xb, 1, none⟩ = some (.int .i64 x.2) := by rw [cell_of_heap qx]; rfl
      have fx1 := free_of_heap qx 1
      obtain ⟨pg, hpg0⟩ : ∃ pg, tbPage ns x.2 = pg := ⟨_, rfl⟩
      obtain ⟨q, hq⟩ := Int.eq_ofNat_of_zero_le (show 0 ≤ max 0 (min x.2 3) by omega)
      have hq4 : q < 4 := by omega
      have hq4i : (q : Int) < 4 := by omega
      have hpg : Hid ((ns.map fun i => Value.int .i64 (i : Nat))[q]? = some (.int .i64 pg)) := Lib.hid (by have h := tbPage_get hns'.out x.2; rw [hq, Int.toNat_natCast, hpg0] at h; exact h)
      have hin : Hid (∃ b ∈ [0] ++ ns, pg = ((b : Nat) : Int)) := Lib.hid (by obtain ⟨b, hb, e⟩ := tbPage_mem hns'.out x.2; exact ⟨b, List.mem_append_right _ hb, by rw [← hpg0]; exact e⟩)
      obtain ⟨bb, bo, hbe, hbb2, hbc⟩ := SliceAt.elem (SliceAt.of_owns (St.blk.fresh kx).own) hq4 (by decide)
      have cbq := hbc 0 (.int .i64 pg) (by decide) (by simpa using hpg.out)
      simp at cbq
      cases hbe
      obtain ⟨wy, hwy⟩ : ∃ wy, wx.setCell ⟨xb, 1, none⟩ (.int .i64 pg) = wy := ⟨_, rfl⟩
      have ky : Kept (fun _ => False) wr wy := by rw [← hwy]; exact kx.setNew (by simp [← hxb]) _
      have qy : wy.heap[xb]? = some (.cells #[.int .i64 x.1, .int .i64 pg] 33 (0, 0)) := by rw [← hwy, heap_setCell_same qx]; rfl
      have Sy := Lib.hid (St.fresh ky)
      have hsy : Hid (Safe wy A xb) := Lib.hid (Safe.new St.own.store (by omega) (lt_of_heap qy))
      have hxb' := Lib.hid hxb
      have hwx' := Lib.hid hwx
      have hwy' := Lib.hid hwy
      have hqy := Lib.hid qy
      have hW64 : Hid (W.length ≤ 64) := Lib.hid St.one.len
      have Oy := Lib.hid Sy.out.own
      have Py := Lib.hid Sy.out.tv
      have Uy := Lib.hid Sy.out.out
      have Ny := Lib.hid Sy.out.one
      have By := Lib.hid Sy.out.blk
      have hlog : Hid (M.log.length ≤ 2000 + 50 * k) := Lib.hid Sy.out.log
      have hL := treeList Oy.out.store root
      rw [Ny.out.list (by omega), Py.out.eq] at hL
      dsimp only at hL
      have hL' := Lib.hid hL
      have hldy : Hid (∀ j v, [Value.pointer (some ⟨sb, 0, none⟩)][j]? = some v → (wx.setCell ⟨xb, 1, none⟩ (.int .i64 pg)).cell? ⟨b, 0 + j, none⟩ = some v) := Lib.hid (by rw [hwy]; exact Py.out.load)
      clear hbc qy hx hx0 hx1 kw kx ky qx hxb hwx hwy hI I4 hL hpg0 St
      go_wp2_with (first | (refine wpList_load_agg 33 rfl rfl rfl _ Tryz.underlying33 rfl [.int .i64 x.1, .int .i64 x.2] (by kernel_rfl) hlo.out ?_) | (refine wpList_alloc_as 33 rfl rfl #[.int .i64 0, .int .i64 0] (by kernel_rfl) ?_; rw [hxb'.out]) | (refine wpList_store_whole 33 rfl rfl rfl [.int .i64 x.1, .int .i64 x.2] rfl (by kernel_rfl) 33 #[.int .i64 0, .int .i64 0] (by rw [← hxb'.out]; exact heap_alloc_new _ _) rfl (by intro c hc; simp at hc; rcases hc with rfl | rfl <;> rfl) ?_; rw [hwx'.out]) | (refine wpList_load_agg 26 rfl rfl rfl _ Tryz.underlying26 rfl [.pointer (some ⟨sb, 0, none⟩)] (by kernel_rfl) hldy.out ?_))
      rw [hwy'.out]
      refine hL'.out.mono ?_
      rintro e wl ⟨vl, rfl, hownl, hkl⟩
      obtain ⟨Al, cl, rfl, hl1, hl2⟩ := EntsAt.form (show EntsAt wl vl W from SliceAt.of_owns hownl)
      unfold maxLen at hl2
      have Ol := Lib.hid (Oy.out.fresh hkl)
      have Pl := Lib.hid (Py.out.fresh hkl)
      have Ul := Lib.hid (Uy.out.fresh hkl)
      have Bl := Lib.hid (By.out.fresh hkl)
      have Hl : Hid (OutAt wl A w1.heap.size (.slice Al W.length cl) W) := Lib.hid (out_new Oy.out hownl)
      have hsl := Lib.hid (hsy.out.fresh hkl)
      have hql := Lib.hid (hkl.get hqy.out id)
      have cl0 := cell_of_heap hql.out 0
      have cl1 := cell_of_heap hql.out 1
      simp at cl0 cl1
      have hP := treePut Ol.out.store root x.1 pg (by have := hlog.out; omega)
      rw [Pl.out.eq] at hP
      have hldl := Lib.hid Pl.out.load
      clear hownl hkl cx1 fx1 cbq
      by_cases hr : x.1 < 0 ∨ 63 < x.1
      · rw [put_bad M root pg hr] at hP
        dsimp only at hP
        have hP' := Lib.hid hP
        have hr' := Lib.hid hr
        clear hP hr
        go_wp2_with (first | (refine wpList_load_agg 26 rfl rfl rfl _ Tryz.underlying26 rfl [.pointer (some ⟨sb, 0, none⟩)] (by kernel_rfl) hldl.out ?_))
        refine hP'.out.mono ?_
        rintro e wp ⟨A1, rfl, hT⟩
        have Op := Lib.hid (Ol.out.to hT)
        have Pp := Lib.hid (Pl.out.to hT)
        have Up := Lib.hid (Ul.out.to hT)
        have Bp := Lib.hid (Bl.out.to hT)
        have Hp := Lib.hid (Hl.out.to hT)
        have hqp := Lib.hid (hT.get hql.out hsl.out)
        have hL2 := treeList Op.out.store root
        rw [Ny.out.list (by omega), Pp.out.eq] at hL2
        dsimp only at hL2
        have hL2' := Lib.hid hL2
        have hldp := Lib.hid Pp.out.load
        clear hT hL2
        go_wp2_with (first | (refine wpList_load_agg 26 rfl rfl rfl _ Tryz.underlying26 rfl [.pointer (some ⟨sb, 0, none⟩)] (by kernel_rfl) hldp.out ?_))
        refine hL2'.out.mono ?_
        rintro e wm ⟨vm, rfl, hownm, hkm⟩
        obtain ⟨Am, cm, rfl, hm1, hm2⟩ := EntsAt.form (show EntsAt wm vm W from SliceAt.of_owns hownm)
        unfold maxLen at hm2
        have Om := Lib.hid (Op.out.fresh hkm)
        have Pm := Lib.hid (Pp.out.fresh hkm)
        have Um := Lib.hid (Up.out.fresh hkm)
        have Bm := Lib.hid (Bp.out.fresh hkm)
        have Hm := Lib.hid (Hp.out.fresh hkm)
        have Ham : Hid (OutAt wm A1 w1.heap.size (.slice Am W.length cm) W) := Lib.hid (out_new Op.out hownm)
        have hqm := Lib.hid (hkm.get hqp.out id)
        have hlm : Hid (∀ i v, [Value.int .i64 x.1, .int .i64 pg][i]? = some v → wm.cell? ⟨xb, 0 + i, none⟩ = some v) := Lib.hid (fun i v hi => by rw [cell_of_heap hqm.out, Nat.zero_add]; simpa using hi)
        clear hownm hkm
        go_wp2_with (first | (refine wpList_load_agg 33 rfl rfl rfl _ Tryz.underlying33 rfl [.int .i64 x.1, .int .i64 pg] (by kernel_rfl) hlm.out ?_))
        refine (refPutBad10 (x.1, pg) hr'.out).mono ?_
        rintro e wq ⟨rfl, hkq⟩
        have Oq := Lib.hid (Om.out.fresh hkq)
        have Pq := Lib.hid (Pm.out.fresh hkq)
        have Uq := Lib.hid (Um.out.fresh hkq)
        have Bq := Lib.hid (Bm.out.fresh hkq)
        have hS := same10 (Hm.out.fresh hkq).ents.at_ (Ham.out.fresh hkq).ents.at_ (by have := hW64.out; omega)
        rw [decide_eq_true (rfl : W = W)] at hS
        have hS' := Lib.hid hS
        clear hkq hS
        go_wp2_with fail
        refine hS'.out.mono ?_
        rintro e ws ⟨rfl, hks⟩
        have fin : Hid (∃ A0 M0 W0, PutSt w1 b sb (.slice (some ⟨bb, bo, none⟩) 4 cb) ns root A0 M0 W0 (.slice Aw W.length cw) (k + 1) ws) := Lib.hid ⟨A1, M, W, Oq.out.fresh hks, Pq.out.fresh hks, pruneCuts.OneTree.more Ny.out, Uq.out.fresh hks, by have := hlog.out; omega, Bq.out.fresh hks⟩
        clear hks
        go_wp2_with fail
        go_roundw
        case rel => exact ⟨k + 1, root, by omega, by go_num, rfl, fin⟩
        case measure => simp [intOf]; omega
      · obtain ⟨p1, p2, p3, p4⟩ := one_put Ny.out clean_besides (by omega) (by simp [hns'.out]) (by decide) (key := x.1) (page := pg) (by omega) (by omega) hin.out
        have hlg := put_log M root x.1 pg
        obtain ⟨R, hR⟩ : ∃ R, M.put root x.1 pg = R := ⟨_, rfl⟩
        rw [hR] at hP p1 p2 p3 p4 hlg
        obtain ⟨M1, next, er⟩ := R
        dsimp only at hP p1 p2 p3 p4 hlg
        subst p1
        have hlog1 : Hid (M1.log.length ≤ 2000 + 50 * k + 22) := Lib.hid (by have := hlog.out; omega)
        have hkey : Hid (0 ≤ x.1 ∧ x.1 ≤ 63) := Lib.hid (by omega)
        have hP' := Lib.hid hP
        have hsw0 := Lib.hid p2
        have hlist1 := Lib.hid p4
        have hrise := Lib.hid Ny.out.keys.1
        obtain ⟨W2, hW2e⟩ : ∃ W2, putL W (x.1, pg) = W2 := ⟨_, rfl⟩
        have hne : Hid (W2 ≠ []) := Lib.hid (by rw [← hW2e]; unfold putL; simp)
        rw [hW2e] at p3
        have one' := Lib.hid p3
        have hW2e' := Lib.hid hW2e
        have hM2log : Hid ((M1.swap root next).1.log.length ≤ 2000 + 50 * (k + 1)) := Lib.hid (by rw [swap_log]; have h1 := hlog1.out; omega)
        clear hP hR p2 p3 p4 hlg hr hW2e
        go_wp2_with (first | (refine wpList_load_agg 26 rfl rfl rfl _ Tryz.underlying26 rfl [.pointer (some ⟨sb, 0, none⟩)] (by kernel_rfl) hldl.out ?_))
        refine hP'.out.mono ?_
        rintro e wp ⟨A1, rfl, hT⟩
        have Op := Lib.hid (Ol.out.to hT)
        have Pp := Lib.hid (Pl.out.to hT)
        have Up := Lib.hid (Ul.out.to hT)
        have Bp := Lib.hid (Bl.out.to hT)
        have Hp := Lib.hid (Hl.out.to hT)
        have hqp := Lib.hid (hT.get hql.out hsl.out)
        have hL2 := treeList Op.out.store root
        rw [hlist1.out, Pp.out.eq] at hL2
        dsimp only at hL2
        have hL2' := Lib.hid hL2
        have hldp := Lib.hid Pp.out.load
        clear hT hL2
        go_wp2_with (first | (refine wpList_load_agg 26 rfl rfl rfl _ Tryz.underlying26 rfl [.pointer (some ⟨sb, 0, none⟩)] (by kernel_rfl) hldp.out ?_))
        refine hL2'.out.mono ?_
        rintro e wm ⟨vm, rfl, hownm, hkm⟩
        obtain ⟨Am, cm, rfl, hm1, hm2⟩ := EntsAt.form (show EntsAt wm vm W from SliceAt.of_owns hownm)
        unfold maxLen at hm2
        have Om := Lib.hid (Op.out.fresh hkm)
        have Pm := Lib.hid (Pp.out.fresh hkm)
        have Um := Lib.hid (Up.out.fresh hkm)
        have Bm := Lib.hid (Bp.out.fresh hkm)
        have Hm := Lib.hid (Hp.out.fresh hkm)
        have Ham : Hid (OutAt wm A1 w1.heap.size (.slice Am W.length cm) W) := Lib.hid (out_new Op.out hownm)
        have hqm := Lib.hid (hkm.get hqp.out id)
        have hlm : Hid (∀ i v, [Value.int .i64 x.1, .int .i64 pg][i]? = some v → wm.cell? ⟨xb, 0 + i, none⟩ = some v) := Lib.hid (fun i v hi => by rw [cell_of_heap hqm.out, Nat.zero_add]; simpa using hi)
        clear hownm hkm
        have hRf := refPut10 Um.out.ents.at_ (by have := hW64.out; omega) (x.1, pg) hkey.out
        rw [refPut_eq hrise.out, hW2e'.out] at hRf
        have hRf' := Lib.hid hRf
        clear hRf
        go_wp2_with (first | (refine wpList_load_agg 33 rfl rfl rfl _ Tryz.underlying33 rfl [.int .i64 x.1, .int .i64 pg] (by kernel_rfl) hlm.out ?_))
        refine hRf'.out.mono ?_
        rintro e wq ⟨v, rfl, hownq, hkq⟩
        obtain ⟨Av, cv, rfl, hv1, hv2⟩ := EntsAt.form (show EntsAt wq v W2 from SliceAt.of_owns hownq)
        unfold maxLen at hv2
        have Vq : Hid (OutAt wq A1 w1.heap.size (.slice Av W2.length cv) W2) := Lib.hid (out_new Om.out hownq)
        have Oq := Lib.hid (Om.out.fresh hkq)
        have Pq := Lib.hid (Pm.out.fresh hkq)
        have Uq := Lib.hid (Um.out.fresh hkq)
        have Bq := Lib.hid (Bm.out.fresh hkq)
        have hS := same10 (Hm.out.fresh hkq).ents.at_ (Ham.out.fresh hkq).ents.at_ (by have := hW64.out; omega)
        rw [decide_eq_true (rfl : W = W)] at hS
        have hS' := Lib.hid hS
        clear hownq hkq hS
        go_wp2_with fail
        refine hS'.out.mono ?_
        rintro e ws ⟨rfl, hks⟩
        have Os := Lib.hid (Oq.out.fresh hks)
        have Ps := Lib.hid (Pq.out.fresh hks)
        have Vs := Lib.hid (Vq.out.fresh hks)
        have Bs := Lib.hid (Bq.out.fresh hks)
        have hSw := treeSwap Os.out.store root next
        rw [Ps.out.eq, hsw0.out] at hSw
        have hSw' := Lib.hid hSw
        have hlds := Lib.hid Ps.out.load
        clear hSw hks
        go_wp2_with (first | (refine wpList_load_agg 26 rfl rfl rfl _ Tryz.underlying26 rfl [.pointer (some ⟨sb, 0, none⟩)] (by kernel_rfl) hlds.out ?_))
        refine hSw'.out.mono ?_
        rintro e w8 ⟨rfl, hT8⟩
        have O8 := Lib.hid (Os.out.to hT8)
        have P8 := Lib.hid (Ps.out.to hT8)
        have V8 := Lib.hid (Vs.out.to hT8)
        have B8 := Lib.hid (Bs.out.to hT8)
        obtain ⟨M2, hM2⟩ : ∃ M2, (M1.swap root next).1 = M2 := ⟨_, rfl⟩
        rw [hM2] at O8 one' hM2log
        have hL3 := treeList O8.out.store next
        rw [one'.out.list (by omega), P8.out.eq] at hL3
        dsimp only at hL3
        have hL3' := Lib.hid hL3
        have hld8 := Lib.hid P8.out.load
        obtain ⟨hh, hhe, hh5, hh1⟩ := one'.out.height (by omega)
        have hh1 := hh1 hne.out
        have hW2 := one'.out.len
        clear hL3 hT8 hM2 hSw'
        go_wp2_with (first | (refine wpList_load_agg 26 rfl rfl rfl _ Tryz.underlying26 rfl [.pointer (some ⟨sb, 0, none⟩)] (by kernel_rfl) hld8.out ?_))
        refine hL3'.out.mono ?_
        rintro e w9 ⟨v9, rfl, hown9, hk9⟩
        obtain ⟨A9, c9, rfl, h91, h92⟩ := EntsAt.form (show EntsAt w9 v9 W2 from SliceAt.of_owns hown9)
        unfold maxLen at h92
        have O9 := Lib.hid (O8.out.fresh hk9)
        have P9 := Lib.hid (P8.out.fresh hk9)
        have V9 := Lib.hid (V8.out.fresh hk9)
        have B9 := Lib.hid (B8.out.fresh hk9)
        have H9 : Hid (OutAt w9 A1 w1.heap.size (.slice A9 W2.length c9) W2) := Lib.hid (out_new O8.out hown9)
        have hF := treeFind O9.out.store next key
        rw [one'.out.find (by omega) key, P9.out.eq] at hF
        dsimp only at hF
        have hF' := Lib.hid hF
        have hld9 := Lib.hid P9.out.load
        obtain ⟨at0, hat⟩ : ∃ at0, findL W2 key = at0 := ⟨_, rfl⟩
        rw [hat] at hF'
        have hat' := Lib.hid hat
        clear hF hat hown9 hk9
        go_wp2_with (first | (refine wpList_load_agg 26 rfl rfl rfl _ Tryz.underlying26 rfl [.pointer (some ⟨sb, 0, none⟩)] (by kernel_rfl) hld9.out ?_))
        refine hF'.out.mono ?_
        rintro e wf ⟨rfl, hkf⟩
        have Of := Lib.hid (O9.out.fresh hkf)
        have Pf := Lib.hid (P9.out.fresh hkf)
        have Vf := Lib.hid (V9.out.fresh hkf)
        have Bf := Lib.hid (B9.out.fresh hkf)
        have Hf := Lib.hid (H9.out.fresh hkf)
        have hH := treeHeight Of.out.store next
        rw [hhe, Pf.out.eq] at hH
        dsimp only at hH
        have hH' := Lib.hid hH
        have hldf := Lib.hid Pf.out.load
        clear hH hhe hkf
        go_wp2_with (first | (refine wpList_load_agg 26 rfl rfl rfl _ Tryz.underlying26 rfl [.pointer (some ⟨sb, 0, none⟩)] (by kernel_rfl) hldf.out ?_))
        refine hH'.out.mono ?_
        rintro e w10 ⟨rfl, hk10⟩
        have O10 := Lib.hid (Of.out.fresh hk10)
        have P10 := Lib.hid (Pf.out.fresh hk10)
        have V10 := Lib.hid (Vf.out.fresh hk10)
        have B10 := Lib.hid (Bf.out.fresh hk10)
        have hS := same10 (Hf.out.fresh hk10).ents.at_ V10.out.ents.at_ (by omega)
        rw [decide_eq_true (rfl : W2 = W2)] at hS
        have hS2 := Lib.hid hS
        have hgt : decide ((8 : Int) < (hh : Int)) = false := by rw [decide_eq_false_iff_not]; omega
        have hls : decide ((hh : Int) < 1) = false := by rw [decide_eq_false_iff_not]; omega
        clear hS hk10
        go_wp2_with fail
        refine hS2.out.mono ?_
        rintro e w11 ⟨rfl, hk11⟩
        have O11 := Lib.hid (O10.out.fresh hk11)
        have P11 := Lib.hid (P10.out.fresh hk11)
        have V11 := Lib.hid (V10.out.fresh hk11)
        have B11 := Lib.hid (B10.out.fresh hk11)
        have hRF := refFind10 V11.out.ents.at_ (by omega) key
        rw [hat'.out] at hRF
        have hRF' := Lib.hid hRF
        clear hRF hk11
        go_wp2_with fail
        refine hRF'.out.mono ?_
        rintro e w12 ⟨rfl, hk12⟩
        have fin : Hid (∃ A M W, PutSt w1 b sb (.slice (some ⟨bb, bo, none⟩) 4 cb) ns next A M W (.slice Av W2.length cv) (k + 1) w12) := Lib.hid ⟨A1, M2, W2, O11.out.fresh hk12, P11.out.fresh hk12, one'.out, V11.out.fresh hk12, hM2log.out, B11.out.fresh hk12⟩
        clear hk12
        go_wp2_with fail
        go_roundw
        case rel => exact ⟨k + 1, next, by omega, by go_num, rfl, fin⟩
        case measure => simp [intOf]; omega
    · obtain rfl : k = l.length := by omega
      obtain ⟨A, M, W, St⟩ := hI.out
      obtain ⟨Aw, cw, rfl, hw1, hw2⟩ := St.out.ents.at_.form
      unfold maxLen at hw2
      have h5 : ([0] ++ ns : List Nat).length = 5 := by simp [hns'.out]
      have hE := exact10 St.one (clean_mild St.one.kk) nd4'.out (by omega) (by have := St.one.range; omega) St.own.store
      rw [St.tv.eq, show ((([0] ++ ns : List Nat).length : Nat) : Int) = 5 from by rw [h5]; rfl] at hE
      have hE' := Lib.hid hE
      have hldE := Lib.hid St.tv.load
      have kE := Lib.hid St.own
      clear hE hI I4
      go_wp2_with (first | (refine wpList_load_agg 26 rfl rfl rfl _ Tryz.underlying26 rfl [.pointer (some ⟨sb, 0, none⟩)] (by kernel_rfl) hldE.out ?_))
      refine hE'.out.mono ?_
      rintro e wz ⟨rfl, hTz⟩
      have kk : Hid (Kept (fun _ => False) w wz) := Lib.hid (k1'.out.trans (kE.out.to hTz).kept)
      clear hTz
      go_wp2_with fail
      go_ret
      exact ⟨rfl, kk.out⟩
end Go.Proofs.YthmjcbmeiabbgaaGreat.treePuts
