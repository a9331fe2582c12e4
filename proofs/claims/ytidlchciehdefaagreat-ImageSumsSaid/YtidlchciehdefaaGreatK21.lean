/-
  ImageReads: the walk.
-/
import Derived.Test.YtidlchciehdefaaGreatK20
set_option linter.unusedVariables false
set_option linter.unusedSimpArgs false
namespace Go.Proofs.YtidlchciehdefaaGreat
open Go.RowKit
set_option maxRecDepth 100000

/-- A block of memory that is none of the store's. -/
structure Apart (wr : World) (A : SA) (b : Nat) : Prop where
  lt : b < wr.heap.size
  off : ¬ A.own b
theorem own_to {A A' : SA} {M' : SM} {W w' : World} (k : StoreTo A A' M' W w') {j : Nat} (hj : A'.own j) : A.own j ∨ W.heap.size ≤ j := by
  rcases hj with hj | hj | hj
  · exact (k.foot j hj).imp .inl id
  · rw [k.fix.2] at hj; exact .inl (.inr (.inl hj))
  · rw [k.fix.1] at hj; exact .inl (.inr (.inr hj))
theorem Apart.fresh {wr w' : World} {A : SA} {b : Nat} (h : Apart wr A b) (k : Kept (fun _ => False) wr w') : Apart w' A b := ⟨Nat.lt_of_lt_of_le h.lt k.size, h.off⟩
theorem Apart.to {wr w' : World} {A A' : SA} {M' : SM} {b : Nat} (h : Apart wr A b) (k : StoreTo A A' M' wr w') : Apart w' A' b := ⟨Nat.lt_of_lt_of_le h.lt k.kept.size, fun e => (own_to k e).elim h.off (fun e => by have := h.lt; omega)⟩
theorem Apart.safe {wr : World} {A : SA} {b : Nat} (h : Apart wr A b) : Safe wr A b := ⟨h.lt, fun e => h.off (.inl e)⟩
theorem Apart.new {wr w' : World} {A : SA} {M : SM} {b : Nat} (h : StoreAt wr A M) (hb : wr.heap.size ≤ b) (hl : b < w'.heap.size) : Apart w' A b := ⟨hl, fun e => absurd (h.lt e) (Nat.not_lt.2 hb)⟩
theorem Apart.kept {S : Nat → Prop} {wr w' : World} {A : SA} {b : Nat} (h : Apart wr A b) (k : Kept S wr w') : Apart w' A b := ⟨Nat.lt_of_lt_of_le h.lt k.size, h.off⟩
theorem OwnStore.apart {w wr w' : World} {A : SA} {M : SM} {b : Nat} (h : OwnStore w A M wr) (hb : Apart wr A b) (hn : w.heap.size ≤ b) (k : Kept (fun j => j = b) wr w') : OwnStore w A M w' :=
  ⟨h.store.kept k (fun i hi e => hb.off (e ▸ hi)), h.kept.trans_new k (fun i hi e => by omega), h.new⟩
theorem ImVar.kept {S : Nat → Prop} {wr w' : World} {A : SA} {b sb : Nat} (h : ImVar wr A b sb) (k : Kept S wr w') (hb : ¬ S b) : ImVar w' A b sb := ⟨k.get h.heap hb, ⟨Nat.lt_of_lt_of_le h.safe.lt k.size, h.safe.off⟩, h.eq⟩
/-- The document's image: a box. -/
structure ImgBox (wr : World) (A : SA) (b : Nat) (f : Int → List Nat) : Prop where
  heap : wr.heap[b]? = some (.cells (imgCells f).toArray 37 (0, 0))
  apart : Apart wr A b
theorem ImgBox.fresh {wr w' : World} {A : SA} {b : Nat} {f : Int → List Nat} (h : ImgBox wr A b f) (k : Kept (fun _ => False) wr w') : ImgBox w' A b f := ⟨k.get h.heap id, h.apart.fresh k⟩
theorem ImgBox.to {wr w' : World} {A A' : SA} {M' : SM} {b : Nat} {f : Int → List Nat} (h : ImgBox wr A b f) (k : StoreTo A A' M' wr w') : ImgBox w' A' b f := ⟨k.get h.heap h.apart.safe, h.apart.to k⟩
theorem ImgBox.load {wr : World} {A : SA} {b : Nat} {f : Int → List Nat} (h : ImgBox wr A b f) : ∀ j v, (imgCells f)[j]? = some v → wr.cell? ⟨b, 0 + j, none⟩ = some v := fun j v hj => by rw [Nat.zero_add, cell_of_heap h.heap]; simpa using hj
theorem ImgBox.row {wr : World} {A : SA} {b : Nat} {f : Int → List Nat} (h : ImgBox wr A b f) (hB : Bytes f) {k : Nat} (hk : k < 64) : ∀ j v, (blockCells (f (k : Int)))[j]? = some v → wr.cell? ⟨b, 0 + k * 16 + j, none⟩ = some v := fun j v hj => by
  have hj16 : j < 16 := by
    have := (List.getElem?_eq_some_iff.1 hj).1
    rwa [blockCells_len] at this
  rw [Nat.zero_add]
  refine (show _ = _ from ?_)
  rw [cell_of_heap h.heap]
  have := imgCells_get hB hk hj16
  rw [← blockCells_eq _ (hB.len _), hj] at this
  simpa using this
theorem ImgBox.set {wr : World} {A : SA} {b : Nat} {f g : Int → List Nat} (h : ImgBox wr A b f) : ImgBox (wr.setRow b (imgCells g).toArray) A b g := ⟨setRow_heap _ _ _ _ _ _ h.heap, h.apart.kept (Kept.setRow (S := fun j => j = b) (Kept.refl _ _) rfl _)⟩
theorem ref13There_bad {k : Int} (h : ¬ (0 ≤ k ∧ k < 64)) (w : World) : Calls Tryz.prog 18 #[.int .i64 k] w fun e w' => e = .returned (.bool false) ∧ w = w' := by
  have := ref13There k w
  rw [decide_eq_false h] at this
  exact this
theorem ref13There_ok {k : Int} (h : 0 ≤ k ∧ k < 64) (w : World) : Calls Tryz.prog 18 #[.int .i64 k] w fun e w' => e = .returned (.bool true) ∧ w = w' := by
  have := ref13There k w
  rw [decide_eq_true h] at this
  exact this
namespace imageReads
/-- What holds behind each act. -/
structure ReadSt (w1 : World) (b sb vb : Nat) (root : Int) (k : Nat) (wr : World) (A : SA) (M : SM) (i : IM) : Prop where
  own : OwnStore w1 A M wr
  iv : ImVar wr A b sb
  img : Imgs 1 M [i]
  gone : Gone M.pool.size [] M
  size : M.pool.size = 240
  bytes : Bytes i.w
  box : ImgBox wr A vb i.w
  root : i.root = root
  puts : i.P ≤ k
  log : M.log.length ≤ 23 * k
theorem ReadSt.fresh {w1 wr w' : World} {b sb vb : Nat} {root : Int} {k : Nat} {A : SA} {M : SM} {i : IM} (h : ReadSt w1 b sb vb root k wr A M i) (q : Kept (fun _ => False) wr w') : ReadSt w1 b sb vb root k w' A M i :=
  ⟨h.own.fresh q, h.iv.fresh q, h.img, h.gone, h.size, h.bytes, h.box.fresh q, h.root, h.puts, h.log⟩
theorem ReadSt.more {w1 wr : World} {b sb vb : Nat} {root : Int} {k : Nat} {A : SA} {M : SM} {i : IM} (h : ReadSt w1 b sb vb root k wr A M i) : ReadSt w1 b sb vb root (k + 1) wr A M i :=
  ⟨h.own, h.iv, h.img, h.gone, h.size, h.bytes, h.box, h.root, Nat.le_succ_of_le h.puts, by have := h.log; omega⟩
set_option maxHeartbeats 16000000 in
theorem walkIn {w : World} (va : Value) (l : List ActI) (hl : ActsI w va l) (key : Int) : Calls Tryz.prog 3 #[va, .int .i64 key] w fun e w' => e = .returned (.bool true) ∧ Kept (fun _ => False) w w' := by
  obtain ⟨Aa, ca, rfl, hc1, hc2, hget⟩ := hl
  unfold maxLen at hc2
  have hget' := Lib.hid hget
  clear hget
  by_cases hlong : 40 < l.length
  · have hb : decide ((40 : Int) < (l.length : Int)) = true := by rw [decide_eq_true_eq]; omega
    clear hlong
    go_enter Tryz.func3, Tryz.ntmps3
    go_wp2_with fail
    refine (imageAlive _).mono ?_
    rintro e w1 ⟨rfl, k1⟩
    have k1' := Lib.hid k1
    clear k1
    go_wp2_with fail
    go_ret
    exact ⟨rfl, k1'.out⟩
  have hshort : l.length ≤ 40 := by omega
  have hb : decide ((40 : Int) < (l.length : Int)) = false := by rw [decide_eq_false_iff_not]; omega
  have hm := fun w => made13 244 (by decide) (by decide) w
  rw [show (min (244 : Int) 244 - 4).toNat = 240 from by decide] at hm
  have hm' := Lib.hid hm
  obtain ⟨I, hI⟩ : ∃ I, (imgCells fun _ => zeros16) = I := ⟨_, rfl⟩
  have hIl : Hid (I.length = 1024) := Lib.hid (by rw [← hI]; exact imgCells_len Bytes.zero)
  have hI1 : Hid (∀ v ∈ I, v.oneCell' = true) := Lib.hid (by rw [← hI]; exact byteCells_one _)
  have hbi : Hid (∀ w, (Instr.build 37 #[]).run Tryz.prog w = .ok (.agg I.toArray) w) := Lib.hid (fun w => by rw [← hI, zero_cells]; exact run_build_img w)
  have hIz : Hid ((Tryz.prog.info? 37).map (·.zero) = some (some (.agg I.toArray))) := Lib.hid (by rw [← hI, zero_cells]; exact img_zero)
  have hI' := Lib.hid hI
  clear hm hlong hI
  go_enter Tryz.func3, Tryz.ntmps3
  go_wp2_with fail
  refine (imageAlive _).mono ?_
  rintro e w0 ⟨rfl, k0⟩
  have k0' := Lib.hid k0
  clear k0
  go_wp2_with fail
  refine (hm'.out _).mono ?_
  rintro e w1 ⟨A, rfl, hA, hk, hn⟩
  obtain ⟨b, hbb⟩ : ∃ b, w1.heap.size = b := ⟨_, rfl⟩
  have hO := ImVar.made (b := b) ⟨hA, hk, hn⟩ hbb
  obtain ⟨w2, hw2⟩ : ∃ w2, (w1.alloc (.cells #[.pointer none] 32)).setRow b #[.pointer (some ⟨A.sb, 0, none⟩)] = w2 := ⟨_, rfl⟩
  rw [hw2] at hO
  obtain ⟨hO2, hV2⟩ := hO
  obtain ⟨sb, hsb⟩ : ∃ sb, A.sb = sb := ⟨_, rfl⟩
  rw [hsb] at hw2 hV2 ⊢
  obtain ⟨vb, hvb⟩ : ∃ vb, w2.heap.size = vb := ⟨_, rfl⟩
  obtain ⟨w3, hw3⟩ : ∃ w3, (w2.alloc (.cells I.toArray 37)).setRow vb I.toArray = w3 := ⟨_, rfl⟩
  have k3 : Kept (fun _ => False) w2 w3 := by rw [← hw3]; exact ((Kept.refl _ _).alloc _).setRowNew (by omega) _
  have q3 : w3.heap[vb]? = some (.cells (imgCells fun _ => zeros16).toArray 37 (0, 0)) := by rw [hI'.out, ← hw3, ← hvb]; exact setRow_heap _ _ _ _ _ _ (heap_alloc_new _ _)
  have I2 : Hid (∃ A M i, ReadSt w0 b sb vb (-1) 0 w3 A M i) := Lib.hid ⟨A, newM 240, .none, hO2.fresh k3, hV2.fresh k3, newM_imgs 1 (by decide), newM_gone _ _, rfl, Bytes.zero, ⟨q3, Apart.new hO2.store (by omega) (lt_of_heap q3)⟩, rfl, Nat.le_refl _, Nat.le_refl _⟩
  have hbv : Hid (b ≠ vb) := Lib.hid (by have := lt_of_heap hV2.heap; omega)
  have hvn : Hid (w0.heap.size ≤ vb) := Lib.hid (by have := hO2.kept.size; omega)
  have hw2' := Lib.hid hw2
  have hw3' := Lib.hid hw3
  have hb' := Lib.hid hbb
  have hvb' := Lib.hid hvb
  clear hA hk hn hw2 hbb hO2 hV2 hw3 hvb k3 q3
  obtain ⟨D0, hD0⟩ : ∃ D0, actICells ⟨0, 0, 0, [], zeros16⟩ (.slice none 0 0) = D0 := ⟨_, rfl⟩
  have hDz : Hid ((Tryz.prog.info? 40).map (·.zero) = some (some (.agg D0.toArray))) := Lib.hid (by rw [← hD0]; exact act_zero)
  have hDl : Hid (D0.length = 20) := Lib.hid (by rw [← hD0]; exact actICells_len _ _)
  clear hD0
  go_wp2_with (first | (refine wpList_alloc_as 32 rfl rfl #[.pointer none] images_zero ?_; rw [hb'.out]) | (refine wpList_store_whole 32 rfl rfl rfl [.pointer (some ⟨sb, 0, none⟩)] rfl images_size 32 #[.pointer none] (by rw [← hb'.out]; exact heap_alloc_new _ _) rfl (by intro c hc; simp at hc; subst hc; rfl) ?_; rw [hw2'.out]) | (refine wpList_exec rfl (exec_build 37 #[] _ rfl (by simp [Act.eval]) (hbi.out _)) ?_) | (refine wpList_alloc_as 37 rfl rfl I.toArray hIz.out ?_; rw [hvb'.out]) | (refine wpList_store_whole 37 rfl rfl rfl I rfl (by rw [hIl.out]; exact img_size) 37 I.toArray (by rw [← hvb'.out]; exact heap_alloc_new _ _) (by simp [hIl.out]) hI1.out ?_; rw [hw3'.out]))
  go_loopw [6, 23] (fun r i wr => ∃ (k : Nat) (root : Int), k ≤ l.length ∧ i = .int .i64 k ∧ r = .int .i64 root ∧ Hid (∃ A M i, ReadSt w0 b sb vb root k wr A M i)) (fun _ i _ => l.length - (intOf i).toNat)
  case atStart => exact ⟨0, -1, Nat.zero_le _, rfl, rfl, I2⟩
  case round =>
    obtain ⟨k, root, hk, rfl, rfl, hI⟩ := hrel
    obtain ⟨A, M, i, St⟩ := hI.out
    by_cases hlt : k < l.length
    · obtain ⟨x, hx⟩ : ∃ x, l[k]? = some x := ⟨_, List.getElem?_eq_getElem hlt⟩
      obtain ⟨eb, eo, kA, kn, kc, rfl, heb, hok, hcs, hks⟩ := hget'.out k x hx
      have hki : (k : Int) < (l.length : Int) := by omega
      obtain ⟨D, hD⟩ : ∃ D, actICells x (.slice kA kn kc) = D := ⟨_, rfl⟩
      have hDDl : Hid (D.length = 20) := Lib.hid (by rw [← hD]; exact actICells_len _ _)
      have hDD1 : Hid (∀ v ∈ D, v.oneCell' = true) := Lib.hid (by rw [← hD]; exact actICells_one _ _ _ _)
      rw [hD] at hcs
      have kw := k0'.out.trans St.own.kept
      have hlo : Hid (∀ j v, D[j]? = some v → wr.cell? ⟨eb, eo + k * 20 + j, none⟩ = some v) := Lib.hid (fun j v hj => kw.cell (hcs j v hj) id)
      obtain ⟨xb, hxb⟩ : ∃ xb, wr.heap.size = xb := ⟨_, rfl⟩
      obtain ⟨wx, hwx⟩ : ∃ wx, (wr.alloc (.cells D0.toArray 40)).setRow xb D.toArray = wx := ⟨_, rfl⟩
      have kx : Kept (fun _ => False) wr wx := by rw [← hwx]; exact ((Kept.refl _ _).alloc _).setRowNew (by omega) _
      have qx : wx.heap[xb]? = some (.cells D.toArray 40 (0, 0)) := by rw [← hwx, ← hxb]; exact setRow_heap _ _ _ _ _ _ (heap_alloc_new _ _)
      obtain ⟨cx0, _, cx2, _, hbl⟩ := act_box (by rw [hD]; exact qx)
      obtain ⟨C, hC⟩ : ∃ C, blockCells x.block = C := ⟨_, rfl⟩
      have hCl : Hid (C.length = 16) := Lib.hid (by rw [← hC]; exact blockCells_len _)
      rw [hC] at hbl
      have hbl' := Lib.hid hbl
      have Sx := Lib.hid (St.fresh kx)
      have hsx : Hid (Safe wx A xb) := Lib.hid (Safe.new St.own.store (by omega) (lt_of_heap qx))
      have hld := Lib.hid Sx.out.iv.load
      have hqx := Lib.hid qx
      have hxb' := Lib.hid hxb
      have hwx' := Lib.hid hwx
      have hD' := Lib.hid hD
      by_cases hth : 0 ≤ x.key ∧ x.key < 64
      · have hT := Lib.hid (ref13There_ok hth)
        have hWr := imageWrite Sx.out.own.store i.root x.key hok.1 hok.2 (by have := Sx.out.log; omega)
        obtain ⟨e0, ⟨pg, hF⟩, hG, hz⟩ := write_roomy Sx.out.img (k := 0) rfl (by simp) (fun j hj => by obtain rfl := List.mem_singleton.1 hj; have := Sx.out.puts; omega) (by have := Sx.out.puts; simp; omega) hth.1 hth.2 hok.1 hok.2 Sx.out.gone Sx.out.size
        have hlw := write_log M i.root x.key x.block
        have hWt := fun w => ref13Write (w := w) Sx.out.bytes (k := x.key.toNat) (by omega) hok.1
        rw [Int.toNat_of_nonneg hth.1, hC] at hWt
        obtain ⟨g, hg⟩ : ∃ g, upd i.w x.key x.block = g := ⟨_, rfl⟩
        have hBg : Hid (Bytes g) := Lib.hid (by rw [← hg]; exact Sx.out.bytes.upd x.key hok.1 hok.2)
        rw [Sx.out.iv.eq, hC] at hWr
        obtain ⟨R, hR⟩ : ∃ R, M.write i.root x.key x.block = R := ⟨_, rfl⟩
        rw [hR] at hWr e0 hF hG hz hlw
        obtain ⟨M1, next, er⟩ := R
        dsimp only at hWr e0 hF hG hz hlw
        subst e0
        rw [St.root] at hWr
        rw [hg] at hF hWt
        obtain ⟨J, hJ⟩ : ∃ J, imgCells i.w = J := ⟨_, rfl⟩
        obtain ⟨J', hJe⟩ : ∃ J', imgCells g = J' := ⟨_, rfl⟩
        have hJl : Hid (J.length = 1024) := Lib.hid (by rw [← hJ]; exact imgCells_len Sx.out.bytes)
        have hJl' : Hid (J'.length = 1024) := Lib.hid (by rw [← hJe]; exact imgCells_len hBg.out)
        have hJ1 : Hid (∀ v ∈ J', v.oneCell' = true) := Lib.hid (by rw [← hJe]; exact byteCells_one _)
        rw [hJ, hJe] at hWt
        have hWt' := Lib.hid hWt
        have hWr' := Lib.hid hWr
        have hF' : Hid (Imgs 1 M1 [⟨next, putL i.l (x.key, pg), i.P + 1, g⟩]) := Lib.hid hF
        have hG' : Hid (Gone M1.pool.size [] M1) := Lib.hid (by rw [hz]; exact hG)
        have hz' : Hid (M1.pool.size = 240) := Lib.hid (hz.trans Sx.out.size)
        have hP1 : Hid (i.P + 1 ≤ k + 1) := Lib.hid (by have := Sx.out.puts; omega)
        have hl1 : Hid (M1.log.length ≤ 23 * (k + 1)) := Lib.hid (by have := Sx.out.log; omega)
        have hJ' := Lib.hid hJ
        have hJe' := Lib.hid hJe
        have hC' := Lib.hid hC
        clear hx hcs hks kw kx qx hxb hwx hI St hD hC hbl hok hWr hWt hR hF hG hz hlw I2 hth hg hJ hJe
        go_wp2_with (first | (refine wpList_load_agg 40 rfl rfl rfl _ Tryz.underlying40 rfl D (by rw [hDDl.out]; exact act_size) hlo.out ?_) | (refine wpList_alloc_as 40 rfl rfl D0.toArray hDz.out ?_; rw [hxb'.out]) | (refine wpList_store_whole 40 rfl rfl rfl D rfl (by rw [hDDl.out]; exact act_size) 40 D0.toArray (by rw [← hxb'.out]; exact heap_alloc_new _ _) (by simp [hDDl.out, hDl.out]) hDD1.out ?_; rw [hwx'.out]))
        refine (hT.out _).mono ?_
        rintro e w3 ⟨rfl, rfl⟩
        go_wp2_with (first | (refine wpList_load_agg 32 rfl rfl rfl _ Tryz.underlying32 rfl [.pointer (some ⟨sb, 0, none⟩)] (by kernel_rfl) hld.out ?_) | (refine wpList_load_agg 35 rfl rfl rfl _ Tryz.underlying35 rfl C (by rw [hCl.out]; exact block_size) hbl'.out ?_))
        refine hWr'.out.mono ?_
        rintro e w3 ⟨A3, rfl, hT3⟩
        have O3 := Lib.hid (Sx.out.own.to hT3)
        have V3 := Lib.hid (Sx.out.iv.to hT3)
        have B3 := Sx.out.box.to hT3
        have hlB := B3.load
        rw [hJ'.out] at hlB
        have hlB' := Lib.hid hlB
        have B3' := Lib.hid B3
        have q3 := hT3.get hqx.out hsx.out
        obtain ⟨c30, _, c32, _, hbl3⟩ := act_box (by rw [hD'.out]; exact q3)
        rw [show blockCells x.block = C from hC'.out] at hbl3
        have hbl3' := Lib.hid hbl3
        clear hT3 q3 cx0 cx2 hlB B3 hbl3
        go_wp2_with (first | (refine wpList_load_agg 37 rfl rfl rfl _ Tryz.underlying37 rfl J (by rw [hJl.out]; exact img_size) hlB'.out ?_) | (refine wpList_load_agg 35 rfl rfl rfl _ Tryz.underlying35 rfl C (by rw [hCl.out]; exact block_size) hbl3'.out ?_))
        refine (hWt'.out _).mono ?_
        rintro e w4 ⟨rfl, hk4⟩
        have O4 := Lib.hid (O3.out.fresh hk4)
        have V4 := Lib.hid (V3.out.fresh hk4)
        have B4 := Lib.hid (B3'.out.fresh hk4)
        have hq4 : Hid (w4.heap[vb]? = some (.cells J.toArray 37 (0, 0))) := Lib.hid (by rw [← hJ'.out]; exact B4.out.heap)
        clear hk4
        go_wp2_with (first | (refine wpList_store_whole 37 rfl rfl rfl J' rfl (by rw [hJl'.out]; exact img_size) 37 J.toArray hq4.out (by simp [hJl.out, hJl'.out]) hJ1.out ?_))
        have kS : Kept (fun j => j = vb) w4 (w4.setRow vb J'.toArray) := Kept.setRow (S := fun j => j = vb) (Kept.refl _ _) rfl _
        have fin : Hid (∃ A M i, ReadSt w0 b sb vb next (k + 1) (w4.setRow vb J'.toArray) A M i) := Lib.hid ⟨A3, M1, _, O4.out.apart B4.out.apart hvn.out kS, V4.out.kept kS hbv.out, hF'.out, hG'.out, hz'.out, hBg.out, by rw [← hJe'.out]; exact B4.out.set, rfl, hP1.out, hl1.out⟩
        clear kS
        go_roundw
        case rel => exact ⟨k + 1, next, by omega, by go_num, rfl, fin⟩
        case measure => simp [intOf]; omega
      · have hT := Lib.hid (ref13There_bad hth)
        have fin : Hid (∃ A M i, ReadSt w0 b sb vb root (k + 1) wx A M i) := Lib.hid ⟨A, M, i, Sx.out.more⟩
        clear hx hcs hks kw kx qx hxb hwx hI St hD hC hbl hok I2 hth
        go_wp2_with (first | (refine wpList_load_agg 40 rfl rfl rfl _ Tryz.underlying40 rfl D (by rw [hDDl.out]; exact act_size) hlo.out ?_) | (refine wpList_alloc_as 40 rfl rfl D0.toArray hDz.out ?_; rw [hxb'.out]) | (refine wpList_store_whole 40 rfl rfl rfl D rfl (by rw [hDDl.out]; exact act_size) 40 D0.toArray (by rw [← hxb'.out]; exact heap_alloc_new _ _) (by simp [hDDl.out, hDl.out]) hDD1.out ?_; rw [hwx'.out]))
        refine (hT.out _).mono ?_
        rintro e w3 ⟨rfl, rfl⟩
        go_wp2_with fail
        go_roundw
        case rel => exact ⟨k + 1, root, by omega, by go_num, rfl, fin⟩
        case measure => simp [intOf]; omega
    · obtain rfl : k = l.length := by omega
      have hld := Lib.hid St.iv.load
      have kw := Lib.hid (k0'.out.trans St.own.kept)
      obtain ⟨Z, hZ⟩ : ∃ Z, blockCells zeros16 = Z := ⟨_, rfl⟩
      have hZb : Hid (byteCells zeros16 = Z) := Lib.hid (by rw [← hZ, blockCells_eq _ rfl])
      have hZz : Hid ((Tryz.prog.info? 35).map (·.zero) = some (some (.agg Z.toArray))) := Lib.hid (by rw [← hZb.out]; exact block_zero)
      have hZl : Hid (Z.length = 16) := Lib.hid (by rw [← hZ]; rfl)
      have hZ1 : Hid (∀ v ∈ Z, v.oneCell' = true) := Lib.hid (by rw [← hZ]; exact blockCells_one _)
      have hbz : Hid (∀ w, (Instr.build 35 #[]).run Tryz.prog w = .ok (.agg Z.toArray) w) := Lib.hid (fun w => by rw [← hZb.out]; exact run_build_block w)
      have hqZ : Hid (∀ (o : Oper) (a : Act) (w : World) (x y : Operand) (u : TypeId), o.op = .binOp .eql 35 x y u → a.eval x = .agg Z.toArray → a.eval y = .agg Z.toArray → (execOp a.eval o).run Tryz.prog w = .ok (.value (.bool true)) w) := Lib.hid (fun o a w x y u ho hx hy => by
        have := exec_blk_eql (w := w) x y ho (l := zeros16) (m := zeros16) rfl rfl (by rw [hZ]; exact hx) (by rw [hZ]; exact hy)
        rw [decide_eq_true rfl] at this
        exact this)
      have St' := Lib.hid St
      by_cases hth : 0 ≤ key ∧ key < 64
      · obtain ⟨kk, rfl⟩ : ∃ kk : Nat, key = (kk : Int) := ⟨key.toNat, by omega⟩
        have hT := Lib.hid (ref13There_ok hth)
        have hkk : kk < 64 := by omega
        have hki : (kk : Int) < 64 := by omega
        obtain ⟨C, hC⟩ : ∃ C, blockCells (i.w (kk : Int)) = C := ⟨_, rfl⟩
        have hCl : Hid (C.length = 16) := Lib.hid (by rw [← hC]; exact blockCells_len _)
        have hC1 : Hid (∀ v ∈ C, v.oneCell' = true) := Lib.hid (by rw [← hC]; exact blockCells_one _)
        have hImg := St.img.img _ (List.mem_singleton.2 rfl)
        have hRd := imageRead St.own.store i.root hth.1 hth.2 (hImg.tree.find St.img.exact (by have := St.puts; omega) (kk : Int)) (img_pageOf hImg St.img.exact St.bytes hth.1 hth.2)
        rw [St.iv.eq, St.root, ← blockCells_eq _ (St.bytes.len _), hC] at hRd
        have hRd' := Lib.hid hRd
        have hqC : Hid (∀ (o : Oper) (a : Act) (w : World) (x y : Operand) (u : TypeId), o.op = .binOp .eql 35 x y u → a.eval x = .agg C.toArray → a.eval y = .agg C.toArray → (execOp a.eval o).run Tryz.prog w = .ok (.value (.bool true)) w) := Lib.hid (fun o a w x y u ho hx hy => by
          have := exec_blk_eql (w := w) x y ho (St.bytes.len _) (St.bytes.len _) (by rw [hC]; exact hx) (by rw [hC]; exact hy)
          rw [decide_eq_true rfl] at this
          exact this)
        have hC' := Lib.hid hC
        clear hI St hZ hImg hRd hC hth I2
        go_wp2_with (first | (refine wpList_load_agg 32 rfl rfl rfl _ Tryz.underlying32 rfl [.pointer (some ⟨sb, 0, none⟩)] (by kernel_rfl) hld.out ?_))
        refine hRd'.out.mono ?_
        rintro e w4 ⟨rfl, hk4⟩
        obtain ⟨ab, hab⟩ : ∃ ab, w4.heap.size = ab := ⟨_, rfl⟩
        obtain ⟨w5, hw5⟩ : ∃ w5, (w4.alloc (.cells Z.toArray 35)).setRow ab C.toArray = w5 := ⟨_, rfl⟩
        have k5 : Kept (fun _ => False) w4 w5 := by rw [← hw5]; exact ((Kept.refl _ _).alloc _).setRowNew (by omega) _
        have q5 : w5.heap[ab]? = some (.cells C.toArray 35 (0, 0)) := by rw [← hw5, ← hab]; exact setRow_heap _ _ _ _ _ _ (heap_alloc_new _ _)
        have hlA : Hid (∀ j v, C[j]? = some v → w5.cell? ⟨ab, 0 + j, none⟩ = some v) := Lib.hid (fun j v hj => by rw [Nat.zero_add, cell_of_heap q5]; simpa using hj)
        have hlV0 := (St'.out.box.fresh (hk4.trans k5)).row St'.out.bytes hkk
        rw [hC'.out] at hlV0
        have hlV := Lib.hid hlV0
        have kk8 : Hid (Kept (fun _ => False) w w5) := Lib.hid (kw.out.trans (hk4.trans k5))
        have hw5' := Lib.hid hw5
        have hab' := Lib.hid hab
        clear hk4 k5 q5 hw5 hab hlV0
        go_wp2_with (first | (refine wpList_alloc_as 35 rfl rfl Z.toArray hZz.out ?_; rw [hab'.out]) | (refine wpList_store_whole 35 rfl rfl rfl C rfl (by rw [hCl.out]; exact block_size) 35 Z.toArray (by rw [← hab'.out]; exact heap_alloc_new _ _) (by simp [hZl.out, hCl.out]) hC1.out ?_; rw [hw5'.out]))
        refine (hT.out _).mono ?_
        rintro e w6 ⟨rfl, rfl⟩
        have hix : Hid (∀ (o : Oper) (a : Act) (w : World), o.op = .indexAddr 37 (.tmp 7) (.tmp 72) → a.eval (.tmp 7) = .pointer (some ⟨vb, 0, none⟩) → a.eval (.tmp 72) = .int .i64 (kk : Int) → (execOp a.eval o).run Tryz.prog w = .ok (.value (.pointer (some ⟨vb, 0 + kk * 16, none⟩))) w) := Lib.hid (fun o a w ho h7 h72 => by
          unfold execOp
          simp only [ho, h7, h72]
          go_simp)
        go_wp2_with fail
        refine wp_region_any (by kernel_rfl) ?_
        change wpAny _ _ _ _ _ _ _ (World.drew _)
        refine wpAny_take (i := 0) (v := .int .i64 0) rfl (by kernel_rfl) (by kernel_rfl) (by kernel_rfl) (fun _ _ _ h => h) (.inl ⟨by rfl, fun w => by go_simp⟩) ?_
        simp only [Act.put, List.getElem_toArray, List.getElem_cons_zero, List.getElem_cons_succ, List.setIfInBounds_toArray, List.set_cons_zero, List.set_cons_succ]
        refine wpAny_take (i := 1) (v := .bool true) rfl (by kernel_rfl) (by kernel_rfl) (by kernel_rfl) (fun _ _ _ h => h) (.inl ⟨by rfl, fun w => by go_simp⟩) ?_
        simp only [Act.put, List.getElem_toArray, List.getElem_cons_zero, List.getElem_cons_succ, List.setIfInBounds_toArray, List.set_cons_zero, List.set_cons_succ]
        refine wpAny_take (i := 2) (v := .bool true) rfl (by kernel_rfl) (by kernel_rfl) (by kernel_rfl) (fun _ _ _ h => h) (.inl ⟨by rfl, fun w => by go_simp⟩) ?_
        simp only [Act.put, List.getElem_toArray, List.getElem_cons_zero, List.getElem_cons_succ, List.setIfInBounds_toArray, List.set_cons_zero, List.set_cons_succ]
        refine wpAny_take (i := 4) (v := .int .i64 (kk : Int)) rfl (by kernel_rfl) (by kernel_rfl) (by kernel_rfl) (fun _ _ _ h => h) (.inl ⟨by rfl, fun w => by go_simp⟩) ?_
        simp only [Act.put, List.getElem_toArray, List.getElem_cons_zero, List.getElem_cons_succ, List.setIfInBounds_toArray, List.set_cons_zero, List.set_cons_succ]
        refine wpAny_take (i := 5) (v := .pointer (some ⟨vb, 0 + kk * 16, none⟩)) rfl (by kernel_rfl) (by kernel_rfl) (by kernel_rfl) (fun _ _ _ h => h) (.inl ⟨by rfl, fun w => hix.out _ _ w rfl (by rfl) (by rfl)⟩) ?_
        simp only [Act.put, List.getElem_toArray, List.getElem_cons_zero, List.getElem_cons_succ, List.setIfInBounds_toArray, List.set_cons_zero, List.set_cons_succ]
        refine wpAny_ready (rs := [3, 6]) (by kernel_rfl) (by simp) ?_
        refine AllReady.cons rfl (fun K hK => ?_) ?_
        · rw [if_pos (by rfl)]
          simp only [Go.wp_at_zero, Go.wp_at_succ]
          refine wp_exec (exec_load_agg (ty := 35) (x := .tmp 12) rfl (g := ab) (off := 0) (by rfl) C Tryz.underlying35 rfl (by rw [hCl.out]; exact block_size) hlA.out) ?_
          refine hK _ _ ?_
          clear hK K
          try simp only [Act.put, List.getElem_toArray, List.getElem_cons_zero, List.getElem_cons_succ, List.setIfInBounds_toArray, List.set_cons_zero, List.set_cons_succ]
          refine wpAny_ready (rs := [6]) (by kernel_rfl) (by simp) ?_
          refine AllReady.cons rfl (fun K hK => ?_) ?_
          · rw [if_pos (by rfl)]
            simp only [Go.wp_at_zero, Go.wp_at_succ]
            refine wp_exec (exec_load_agg (ty := 35) (x := .tmp 73) rfl (g := vb) (off := 0 + kk * 16) (by rfl) C Tryz.underlying35 rfl (by rw [hCl.out]; exact block_size) hlV.out) ?_
            refine hK _ _ ?_
            clear hK K
            try simp only [Act.put, List.getElem_toArray, List.getElem_cons_zero, List.getElem_cons_succ, List.setIfInBounds_toArray, List.set_cons_zero, List.set_cons_succ]
            refine wpAny_take (i := 7) (v := .bool true) rfl (by kernel_rfl) (by kernel_rfl) (by kernel_rfl) (fun _ _ _ h => h) (.inl ⟨by rfl, fun w => hqC.out _ _ w (.tmp 71) (.tmp 74) 35 rfl (by rfl) (by rfl)⟩) ?_
            simp only [Act.put, List.getElem_toArray, List.getElem_cons_zero, List.getElem_cons_succ, List.setIfInBounds_toArray, List.set_cons_zero, List.set_cons_succ]
            refine wpAny_take (i := 8) (v := .bool true) rfl (by kernel_rfl) (by kernel_rfl) (by kernel_rfl) (fun _ _ _ h => h) (.inl ⟨by rfl, fun w => by go_simp⟩) ?_
            simp only [Act.put, List.getElem_toArray, List.getElem_cons_zero, List.getElem_cons_succ, List.setIfInBounds_toArray, List.set_cons_zero, List.set_cons_succ]
            refine wpAny_take (i := 9) (v := .bool true) rfl (by kernel_rfl) (by kernel_rfl) (by kernel_rfl) (fun _ _ _ h => h) (.inl ⟨by rfl, fun w => by go_simp⟩) ?_
            simp only [Act.put, List.getElem_toArray, List.getElem_cons_zero, List.getElem_cons_succ, List.setIfInBounds_toArray, List.set_cons_zero, List.set_cons_succ]
            refine wpAny_done (by kernel_rfl) ?_ _
            go_wp2_with fail
            go_ret
            exact ⟨rfl, kk8.out.drew⟩
          exact AllReady.nil
        refine AllReady.cons rfl (fun K hK => ?_) ?_
        · rw [if_pos (by rfl)]
          simp only [Go.wp_at_zero, Go.wp_at_succ]
          refine wp_exec (exec_load_agg (ty := 35) (x := .tmp 73) rfl (g := vb) (off := 0 + kk * 16) (by rfl) C Tryz.underlying35 rfl (by rw [hCl.out]; exact block_size) hlV.out) ?_
          refine hK _ _ ?_
          clear hK K
          try simp only [Act.put, List.getElem_toArray, List.getElem_cons_zero, List.getElem_cons_succ, List.setIfInBounds_toArray, List.set_cons_zero, List.set_cons_succ]
          refine wpAny_ready (rs := [3]) (by kernel_rfl) (by simp) ?_
          refine AllReady.cons rfl (fun K hK => ?_) ?_
          · rw [if_pos (by rfl)]
            simp only [Go.wp_at_zero, Go.wp_at_succ]
            refine wp_exec (exec_load_agg (ty := 35) (x := .tmp 12) rfl (g := ab) (off := 0) (by rfl) C Tryz.underlying35 rfl (by rw [hCl.out]; exact block_size) hlA.out) ?_
            refine hK _ _ ?_
            clear hK K
            try simp only [Act.put, List.getElem_toArray, List.getElem_cons_zero, List.getElem_cons_succ, List.setIfInBounds_toArray, List.set_cons_zero, List.set_cons_succ]
            refine wpAny_take (i := 7) (v := .bool true) rfl (by kernel_rfl) (by kernel_rfl) (by kernel_rfl) (fun _ _ _ h => h) (.inl ⟨by rfl, fun w => hqC.out _ _ w (.tmp 71) (.tmp 74) 35 rfl (by rfl) (by rfl)⟩) ?_
            simp only [Act.put, List.getElem_toArray, List.getElem_cons_zero, List.getElem_cons_succ, List.setIfInBounds_toArray, List.set_cons_zero, List.set_cons_succ]
            refine wpAny_take (i := 8) (v := .bool true) rfl (by kernel_rfl) (by kernel_rfl) (by kernel_rfl) (fun _ _ _ h => h) (.inl ⟨by rfl, fun w => by go_simp⟩) ?_
            simp only [Act.put, List.getElem_toArray, List.getElem_cons_zero, List.getElem_cons_succ, List.setIfInBounds_toArray, List.set_cons_zero, List.set_cons_succ]
            refine wpAny_take (i := 9) (v := .bool true) rfl (by kernel_rfl) (by kernel_rfl) (by kernel_rfl) (fun _ _ _ h => h) (.inl ⟨by rfl, fun w => by go_simp⟩) ?_
            simp only [Act.put, List.getElem_toArray, List.getElem_cons_zero, List.getElem_cons_succ, List.setIfInBounds_toArray, List.set_cons_zero, List.set_cons_succ]
            refine wpAny_done (by kernel_rfl) ?_ _
            go_wp2_with fail
            go_ret
            exact ⟨rfl, kk8.out.drew⟩
          exact AllReady.nil
        exact AllReady.nil
      · have hT := Lib.hid (ref13There_bad hth)
        have hRd := imageRead_bad St.own.store root hth
        rw [St.iv.eq, hZb.out] at hRd
        have hRd' := Lib.hid hRd
        clear hI St hZ hRd hth I2
        go_wp2_with (first | (refine wpList_load_agg 32 rfl rfl rfl _ Tryz.underlying32 rfl [.pointer (some ⟨sb, 0, none⟩)] (by kernel_rfl) hld.out ?_))
        refine hRd'.out.mono ?_
        rintro e w4 ⟨rfl, hk4⟩
        obtain ⟨ab, hab⟩ : ∃ ab, w4.heap.size = ab := ⟨_, rfl⟩
        obtain ⟨w5, hw5⟩ : ∃ w5, (w4.alloc (.cells Z.toArray 35)).setRow ab Z.toArray = w5 := ⟨_, rfl⟩
        have k5 : Kept (fun _ => False) w4 w5 := by rw [← hw5]; exact ((Kept.refl _ _).alloc _).setRowNew (by omega) _
        have q5 : w5.heap[ab]? = some (.cells Z.toArray 35 (0, 0)) := by rw [← hw5, ← hab]; exact setRow_heap _ _ _ _ _ _ (heap_alloc_new _ _)
        have hlA : Hid (∀ j v, Z[j]? = some v → w5.cell? ⟨ab, 0 + j, none⟩ = some v) := Lib.hid (fun j v hj => by rw [Nat.zero_add, cell_of_heap q5]; simpa using hj)
        have kk8 : Hid (Kept (fun _ => False) w w5) := Lib.hid (kw.out.trans (hk4.trans k5))
        have hw5' := Lib.hid hw5
        have hab' := Lib.hid hab
        clear hk4 k5 q5 hw5 hab
        go_wp2_with (first | (refine wpList_alloc_as 35 rfl rfl Z.toArray hZz.out ?_; rw [hab'.out]) | (refine wpList_store_whole 35 rfl rfl rfl Z rfl (by rw [hZl.out]; exact block_size) 35 Z.toArray (by rw [← hab'.out]; exact heap_alloc_new _ _) (by simp [hZl.out, hZl.out]) hZ1.out ?_; rw [hw5'.out]))
        refine (hT.out _).mono ?_
        rintro e w6 ⟨rfl, rfl⟩
        go_wp2_with (first | (refine wpList_exec_g (by rfl) (exec_load_agg (g := ab) (off := 0) rfl rfl Z Tryz.underlying35 rfl (by rw [hZl.out]; exact block_size) hlA.out) ?_) | (refine wpList_exec_g (by rfl) (exec_build 35 #[] _ rfl (by simp [Act.eval]) (hbz.out _)) ?_) | (refine wpList_exec_g (by rfl) (hqZ.out _ _ _ (.tmp 64) (.tmp 65) 35 rfl (by rfl) (by rfl)) ?_))
        go_ret
        exact ⟨rfl, kk8.out⟩
end imageReads
end Go.Proofs.YtidlchciehdefaaGreat
/-
  ImageSums: the walk.
-/
namespace Go.Proofs.YtidlchciehdefaaGreat
open Go.RowKit
set_option maxRecDepth 100000
theorem ImgBox.row0 {wr : World} {A : SA} {b : Nat} {f : Int → List Nat} (h : ImgBox wr A b f) (hB : Bytes f) {k : Nat} (hk : k < 64) : ∀ j v, (blockCells (f (k : Int)))[j]? = some v → wr.cell? ⟨b, k * 16 + j, none⟩ = some v := fun j v hj => by
  have := h.row hB hk j v hj
  rw [Nat.zero_add] at this
  exact this
namespace imageSums
/-- What holds: two images. -/
structure SumsSt (w1 : World) (b sb vb : Nat) (x y : Int) (kx ky : Nat) (wr : World) (A : SA) (M : SM) (i j : IM) : Prop where
  own : OwnStore w1 A M wr
  iv : ImVar wr A b sb
  img : Imgs 1 M [i, j]
  gone : Gone M.pool.size [] M
  size : M.pool.size = 240
  bytes : Bytes i.w
  bytesJ : Bytes j.w
  box : ImgBox wr A vb i.w
  rootX : i.root = x
  rootY : j.root = y
  putsX : i.P ≤ kx
  putsY : j.P ≤ ky
  log : M.log.length ≤ 23 * (kx + ky)
theorem SumsSt.fresh {w1 wr w' : World} {b sb vb : Nat} {x y : Int} {kx ky : Nat} {A : SA} {M : SM} {i j : IM} (h : SumsSt w1 b sb vb x y kx ky wr A M i j) (q : Kept (fun _ => False) wr w') : SumsSt w1 b sb vb x y kx ky w' A M i j :=
  ⟨h.own.fresh q, h.iv.fresh q, h.img, h.gone, h.size, h.bytes, h.bytesJ, h.box.fresh q, h.rootX, h.rootY, h.putsX, h.putsY, h.log⟩
theorem SumsSt.moreX {w1 wr : World} {b sb vb : Nat} {x y : Int} {kx ky : Nat} {A : SA} {M : SM} {i j : IM} (h : SumsSt w1 b sb vb x y kx ky wr A M i j) : SumsSt w1 b sb vb x y (kx + 1) ky wr A M i j :=
  ⟨h.own, h.iv, h.img, h.gone, h.size, h.bytes, h.bytesJ, h.box, h.rootX, h.rootY, Nat.le_succ_of_le h.putsX, h.putsY, by have := h.log; omega⟩
theorem SumsSt.moreY {w1 wr : World} {b sb vb : Nat} {x y : Int} {kx ky : Nat} {A : SA} {M : SM} {i j : IM} (h : SumsSt w1 b sb vb x y kx ky wr A M i j) : SumsSt w1 b sb vb x y kx (ky + 1) wr A M i j :=
  ⟨h.own, h.iv, h.img, h.gone, h.size, h.bytes, h.bytesJ, h.box, h.rootX, h.rootY, h.putsX, Nat.le_succ_of_le h.putsY, by have := h.log; omega⟩
theorem two_none : Imgs 1 (newM 240) [.none, .none] := by
  have h := newM_imgs 1 (s := 240) (by decide)
  refine ⟨exact_congr h.exact fun p _ => ?_, h.loose, fun i hi => h.img i (by simp at hi; simp [hi])⟩
  show extL [-1] p = extL [-1, -1] p
  unfold extL
  rw [List.count_eq_zero_of_not_mem (by simp), List.count_eq_zero_of_not_mem (by simp)]
/-- A block more, in the one or the other. -/
theorem write_x {M : SM} {i j : IM} (h : Imgs 1 M [i, j]) {k : Nat} {z : IM} (hz : ([i, j] : List IM)[k]? = some z) (hi : i.P ≤ 60) (hj : j.P ≤ 64) {key : Int} (k0 : 0 ≤ key) (k1 : key < 64) {b : List Nat} (hb : b.length = 16) (h256 : ∀ x ∈ b, x < 256)
    (hG : Gone M.pool.size [] M) (hs : M.pool.size = 240) :
    (M.write z.root key b).2.2 = 0 ∧ (∃ pg, Imgs 1 (M.write z.root key b).1 (([i, j] : List IM).set k ⟨(M.write z.root key b).2.1, putL z.l (key, pg), z.P + 1, upd z.w key b⟩)) ∧ Gone (M.write z.root key b).1.pool.size [] (M.write z.root key b).1 ∧ (M.write z.root key b).1.pool.size = 240 := by
  obtain ⟨a1, a2, a3, a4⟩ := write_roomy h hz (by simp) (fun q hq => by
    simp only [List.mem_cons, List.not_mem_nil, or_false] at hq
    rcases hq with rfl | rfl <;> omega) (by simp; omega) k0 k1 hb h256 hG hs
  exact ⟨a1, a2, by rw [a4]; exact a3, a4.trans hs⟩
theorem sum_same {f g : Int → List Nat} (h : ∀ c : Int, 0 ≤ c → c < 64 → g c = f c) : imgBytes g = imgBytes f := by
  unfold imgBytes
  rw [blocksOf_congr (fun k hk => h k (by omega) (by omega))]
set_option maxHeartbeats 32000000 in
theorem walkIn {w : World} (va : Value) (l : List ActI) (hl : ActsI w va l) (key : Int) (bl : List Nat) (hbl16 : bl.length = 16) (hbl256 : ∀ c ∈ bl, c < 256) : Calls Tryz.prog 4 #[va, .int .i64 key, .agg (blockCells bl).toArray] w fun e w' => e = .returned (.bool true) ∧ Kept (fun _ => False) w w' := by
  obtain ⟨Aa, ca, rfl, hc1, hc2, hget⟩ := hl
  unfold maxLen at hc2
  have hget' := Lib.hid hget
  clear hget
  obtain ⟨T, hT0⟩ : ∃ T, blockCells bl = T := ⟨_, rfl⟩
  have hTl : Hid (T.length = 16) := Lib.hid (by rw [← hT0]; exact blockCells_len _)
  have hT0' := Lib.hid hT0
  rw [hT0]
  obtain ⟨tb, htb⟩ : ∃ tb, w.heap.size = tb := ⟨_, rfl⟩
  obtain ⟨wt, hwt⟩ : ∃ wt, w.alloc (.cells T.toArray 35) = wt := ⟨_, rfl⟩
  have kt : Hid (Kept (fun _ => False) w wt) := Lib.hid (by rw [← hwt]; exact (Kept.refl _ _).alloc _)
  have qt : Hid (wt.heap[tb]? = some (.cells T.toArray 35 (0, 0))) := Lib.hid (by rw [← hwt, ← htb]; exact heap_alloc_new _ _)
  have hwt' := Lib.hid hwt
  have htb' := Lib.hid htb
  clear hT0 hwt htb
  by_cases hlong : 30 < l.length
  · have hb : decide ((30 : Int) < (l.length : Int)) = true := by rw [decide_eq_true_eq]; omega
    clear hlong
    go_enter Tryz.func4, Tryz.ntmps4
    go_wp2_with (first | (refine wpList_box_named 35 rfl rfl _ rfl hwt'.out ?_; rw [htb'.out]))
    refine (imageAlive _).mono ?_
    rintro e w1 ⟨rfl, k1⟩
    have k1' := Lib.hid (kt.out.trans k1)
    clear k1
    go_wp2_with fail
    go_ret
    exact ⟨rfl, k1'.out⟩
  have hshort : l.length ≤ 30 := by omega
  have hb : decide ((30 : Int) < (l.length : Int)) = false := by rw [decide_eq_false_iff_not]; omega
  by_cases hneg : key < 0
  · have hn : decide (key < 0) = true := decide_eq_true hneg
    clear hneg
    go_enter Tryz.func4, Tryz.ntmps4
    go_wp2_with (first | (refine wpList_box_named 35 rfl rfl _ rfl hwt'.out ?_; rw [htb'.out]))
    refine (imageAlive _).mono ?_
    rintro e w1 ⟨rfl, k1⟩
    have k1' := Lib.hid (kt.out.trans k1)
    clear k1
    go_wp2_with fail
    go_ret
    exact ⟨rfl, k1'.out⟩
  have hn : decide (key < 0) = false := decide_eq_false hneg
  by_cases hbig : 63 < key
  · have hg : decide (63 < key) = true := decide_eq_true hbig
    clear hbig
    go_enter Tryz.func4, Tryz.ntmps4
    go_wp2_with (first | (refine wpList_box_named 35 rfl rfl _ rfl hwt'.out ?_; rw [htb'.out]))
    refine (imageAlive _).mono ?_
    rintro e w1 ⟨rfl, k1⟩
    have k1' := Lib.hid (kt.out.trans k1)
    clear k1
    go_wp2_with fail
    go_ret
    exact ⟨rfl, k1'.out⟩
  have hg : decide (63 < key) = false := decide_eq_false hbig
  obtain ⟨kk, rfl⟩ : ∃ kk : Nat, key = (kk : Int) := ⟨key.toNat, by omega⟩
  have hkk : kk < 64 := by omega
  clear hlong hneg hbig
  have hm := fun w => made13 244 (by decide) (by decide) w
  rw [show (min (244 : Int) 244 - 4).toNat = 240 from by decide] at hm
  have hm' := Lib.hid hm
  obtain ⟨I, hI⟩ : ∃ I, (imgCells fun _ => zeros16) = I := ⟨_, rfl⟩
  have hIl : Hid (I.length = 1024) := Lib.hid (by rw [← hI]; exact imgCells_len Bytes.zero)
  have hI1 : Hid (∀ v ∈ I, v.oneCell' = true) := Lib.hid (by rw [← hI]; exact byteCells_one _)
  have hbi : Hid (∀ w, (Instr.build 37 #[]).run Tryz.prog w = .ok (.agg I.toArray) w) := Lib.hid (fun w => by rw [← hI, zero_cells]; exact run_build_img w)
  have hIz : Hid ((Tryz.prog.info? 37).map (·.zero) = some (some (.agg I.toArray))) := Lib.hid (by rw [← hI, zero_cells]; exact img_zero)
  have hI' := Lib.hid hI
  clear hm hI
  go_enter Tryz.func4, Tryz.ntmps4
  go_wp2_with (first | (refine wpList_box_named 35 rfl rfl _ rfl hwt'.out ?_; rw [htb'.out]))
  refine (imageAlive _).mono ?_
  rintro e w0 ⟨rfl, k0⟩
  have k0' := Lib.hid (kt.out.trans k0)
  have qt0 := Lib.hid (k0.get qt.out id)
  clear k0
  go_wp2_with fail
  refine (hm'.out _).mono ?_
  rintro e w1 ⟨A, rfl, hA, hk, hn⟩
  obtain ⟨b, hbb⟩ : ∃ b, w1.heap.size = b := ⟨_, rfl⟩
  have hO := ImVar.made (b := b) ⟨hA, hk, hn⟩ hbb
  obtain ⟨w2, hw2⟩ : ∃ w2, (w1.alloc (.cells #[.pointer none] 32)).setRow b #[.pointer (some ⟨A.sb, 0, none⟩)] = w2 := ⟨_, rfl⟩
  rw [hw2] at hO
  obtain ⟨hO2, hV2⟩ := hO
  obtain ⟨sb, hsb⟩ : ∃ sb, A.sb = sb := ⟨_, rfl⟩
  rw [hsb] at hw2 hV2 ⊢
  obtain ⟨vb, hvb⟩ : ∃ vb, w2.heap.size = vb := ⟨_, rfl⟩
  obtain ⟨w3, hw3⟩ : ∃ w3, (w2.alloc (.cells I.toArray 37)).setRow vb I.toArray = w3 := ⟨_, rfl⟩
  have k3 : Kept (fun _ => False) w2 w3 := by rw [← hw3]; exact ((Kept.refl _ _).alloc _).setRowNew (by omega) _
  have q3 : w3.heap[vb]? = some (.cells (imgCells fun _ => zeros16).toArray 37 (0, 0)) := by rw [hI'.out, ← hw3, ← hvb]; exact setRow_heap _ _ _ _ _ _ (heap_alloc_new _ _)
  have I2 : Hid (∃ A M i, SumsSt w0 b sb vb (-1) (-1) 0 0 w3 A M i .none) := Lib.hid ⟨A, newM 240, .none, hO2.fresh k3, hV2.fresh k3, two_none, newM_gone _ _, rfl, Bytes.zero, Bytes.zero, ⟨q3, Apart.new hO2.store (by omega) (lt_of_heap q3)⟩, rfl, rfl, Nat.le_refl _, Nat.le_refl _, Nat.le_refl _⟩
  have hbv : Hid (b ≠ vb) := Lib.hid (by have := lt_of_heap hV2.heap; omega)
  have hvn : Hid (w0.heap.size ≤ vb) := Lib.hid (by have := hO2.kept.size; omega)
  have hw2' := Lib.hid hw2
  have hw3' := Lib.hid hw3
  have hb' := Lib.hid hbb
  have hvb' := Lib.hid hvb
  clear hA hk hn hw2 hbb hO2 hV2 hw3 hvb k3 q3
  obtain ⟨D0, hD0⟩ : ∃ D0, actICells ⟨0, 0, 0, [], zeros16⟩ (.slice none 0 0) = D0 := ⟨_, rfl⟩
  have hDz : Hid ((Tryz.prog.info? 40).map (·.zero) = some (some (.agg D0.toArray))) := Lib.hid (by rw [← hD0]; exact act_zero)
  have hDl : Hid (D0.length = 20) := Lib.hid (by rw [← hD0]; exact actICells_len _ _)
  clear hD0
  go_wp2_with (first | (refine wpList_alloc_as 32 rfl rfl #[.pointer none] images_zero ?_; rw [hb'.out]) | (refine wpList_store_whole 32 rfl rfl rfl [.pointer (some ⟨sb, 0, none⟩)] rfl images_size 32 #[.pointer none] (by rw [← hb'.out]; exact heap_alloc_new _ _) rfl (by intro c hc; simp at hc; subst hc; rfl) ?_; rw [hw2'.out]) | (refine wpList_exec rfl (exec_build 37 #[] _ rfl (by simp [Act.eval]) (hbi.out _)) ?_) | (refine wpList_alloc_as 37 rfl rfl I.toArray hIz.out ?_; rw [hvb'.out]) | (refine wpList_store_whole 37 rfl rfl rfl I rfl (by rw [hIl.out]; exact img_size) 37 I.toArray (by rw [← hvb'.out]; exact heap_alloc_new _ _) (by simp [hIl.out]) hI1.out ?_; rw [hw3'.out]))
  go_loopw [8, 43] (fun r i wr => ∃ (k : Nat) (root : Int), k ≤ l.length ∧ i = .int .i64 k ∧ r = .int .i64 root ∧ Hid (∃ A M i, SumsSt w0 b sb vb root (-1) k 0 wr A M i .none)) (fun _ i _ => l.length - (intOf i).toNat)
  case atStart => exact ⟨0, -1, Nat.zero_le _, rfl, rfl, I2⟩
  case round =>
    obtain ⟨k, root, hk, rfl, rfl, hI⟩ := hrel
    obtain ⟨A, M, i, St⟩ := hI.out
    by_cases hlt : k < l.length
    · obtain ⟨x, hx⟩ : ∃ x, l[k]? = some x := ⟨_, List.getElem?_eq_getElem hlt⟩
      obtain ⟨eb, eo, kA, kn, kc, rfl, heb, hok, hcs, hks⟩ := hget'.out k x hx
      have hki : (k : Int) < (l.length : Int) := by omega
      obtain ⟨D, hD⟩ : ∃ D, actICells x (.slice kA kn kc) = D := ⟨_, rfl⟩
      have hDDl : Hid (D.length = 20) := Lib.hid (by rw [← hD]; exact actICells_len _ _)
      have hDD1 : Hid (∀ v ∈ D, v.oneCell' = true) := Lib.hid (by rw [← hD]; exact actICells_one _ _ _ _)
      rw [hD] at hcs
      have kw := k0'.out.trans St.own.kept
      have hlo : Hid (∀ j v, D[j]? = some v → wr.cell? ⟨eb, eo + k * 20 + j, none⟩ = some v) := Lib.hid (fun j v hj => kw.cell (hcs j v hj) id)
      obtain ⟨xb, hxb⟩ : ∃ xb, wr.heap.size = xb := ⟨_, rfl⟩
      obtain ⟨wx, hwx⟩ : ∃ wx, (wr.alloc (.cells D0.toArray 40)).setRow xb D.toArray = wx := ⟨_, rfl⟩
      have kx : Kept (fun _ => False) wr wx := by rw [← hwx]; exact ((Kept.refl _ _).alloc _).setRowNew (by omega) _
      have qx : wx.heap[xb]? = some (.cells D.toArray 40 (0, 0)) := by rw [← hwx, ← hxb]; exact setRow_heap _ _ _ _ _ _ (heap_alloc_new _ _)
      obtain ⟨cx0, _, cx2, _, hbl⟩ := act_box (by rw [hD]; exact qx)
      obtain ⟨C, hC⟩ : ∃ C, blockCells x.block = C := ⟨_, rfl⟩
      have hCl : Hid (C.length = 16) := Lib.hid (by rw [← hC]; exact blockCells_len _)
      rw [hC] at hbl
      have hbl' := Lib.hid hbl
      have Sx := Lib.hid (St.fresh kx)
      have hsx : Hid (Safe wx A xb) := Lib.hid (Safe.new St.own.store (by omega) (lt_of_heap qx))
      have hld := Lib.hid Sx.out.iv.load
      have hqx := Lib.hid qx
      have hxb' := Lib.hid hxb
      have hwx' := Lib.hid hwx
      have hD' := Lib.hid hD
      by_cases hth : 0 ≤ x.key ∧ x.key < 64
      · have hT := Lib.hid (ref13There_ok hth)
        have hWr := imageWrite Sx.out.own.store i.root x.key hok.1 hok.2 (by have := Sx.out.log; omega)
        obtain ⟨e0, ⟨pg, hF⟩, hG, hz⟩ := write_x Sx.out.img (k := 0) rfl (by have := Sx.out.putsX; omega) (Nat.zero_le _) hth.1 hth.2 hok.1 hok.2 Sx.out.gone Sx.out.size
        have hlw := write_log M i.root x.key x.block
        have hWt := fun w => ref13Write (w := w) Sx.out.bytes (k := x.key.toNat) (by omega) hok.1
        rw [Int.toNat_of_nonneg hth.1, hC] at hWt
        obtain ⟨g, hg⟩ : ∃ g, upd i.w x.key x.block = g := ⟨_, rfl⟩
        have hBg : Hid (Bytes g) := Lib.hid (by rw [← hg]; exact Sx.out.bytes.upd x.key hok.1 hok.2)
        rw [Sx.out.iv.eq, hC] at hWr
        obtain ⟨R, hR⟩ : ∃ R, M.write i.root x.key x.block = R := ⟨_, rfl⟩
        rw [hR] at hWr e0 hF hG hz hlw
        obtain ⟨M1, next, er⟩ := R
        dsimp only at hWr e0 hF hG hz hlw
        subst e0
        rw [St.rootX] at hWr
        rw [hg] at hF hWt
        obtain ⟨J, hJ⟩ : ∃ J, imgCells i.w = J := ⟨_, rfl⟩
        obtain ⟨J', hJe⟩ : ∃ J', imgCells g = J' := ⟨_, rfl⟩
        have hJl : Hid (J.length = 1024) := Lib.hid (by rw [← hJ]; exact imgCells_len Sx.out.bytes)
        have hJl' : Hid (J'.length = 1024) := Lib.hid (by rw [← hJe]; exact imgCells_len hBg.out)
        have hJ1 : Hid (∀ v ∈ J', v.oneCell' = true) := Lib.hid (by rw [← hJe]; exact byteCells_one _)
        rw [hJ, hJe] at hWt
        have hWt' := Lib.hid hWt
        have hWr' := Lib.hid hWr
        have hF' : Hid (Imgs 1 M1 [⟨next, putL i.l (x.key, pg), i.P + 1, g⟩, .none]) := Lib.hid hF
        have hG' : Hid (Gone M1.pool.size [] M1) := Lib.hid hG
        have hz' : Hid (M1.pool.size = 240) := Lib.hid hz
        have hP1 : Hid (i.P + 1 ≤ k + 1) := Lib.hid (by have := Sx.out.putsX; omega)
        have hl1 : Hid (M1.log.length ≤ 23 * (k + 1 + 0)) := Lib.hid (by have := Sx.out.log; omega)
        have hJ' := Lib.hid hJ
        have hJe' := Lib.hid hJe
        have hC' := Lib.hid hC
        clear hx hcs hks kw kx qx hxb hwx hI St hD hC hbl hok hWr hWt hR hF hG hz hlw I2 hth hg hJ hJe
        go_wp2_with (first | (refine wpList_load_agg 40 rfl rfl rfl _ Tryz.underlying40 rfl D (by rw [hDDl.out]; exact act_size) hlo.out ?_) | (refine wpList_alloc_as 40 rfl rfl D0.toArray hDz.out ?_; rw [hxb'.out]) | (refine wpList_store_whole 40 rfl rfl rfl D rfl (by rw [hDDl.out]; exact act_size) 40 D0.toArray (by rw [← hxb'.out]; exact heap_alloc_new _ _) (by simp [hDDl.out, hDl.out]) hDD1.out ?_; rw [hwx'.out]))
        refine (hT.out _).mono ?_
        rintro e w3 ⟨rfl, rfl⟩
        go_wp2_with (first | (refine wpList_load_agg 32 rfl rfl rfl _ Tryz.underlying32 rfl [.pointer (some ⟨sb, 0, none⟩)] (by kernel_rfl) hld.out ?_) | (refine wpList_load_agg 35 rfl rfl rfl _ Tryz.underlying35 rfl C (by rw [hCl.out]; exact block_size) hbl'.out ?_))
        refine hWr'.out.mono ?_
        rintro e w3 ⟨A3, rfl, hT3⟩
        have O3 := Lib.hid (Sx.out.own.to hT3)
        have V3 := Lib.hid (Sx.out.iv.to hT3)
        have B3 := Sx.out.box.to hT3
        have hlB := B3.load
        rw [hJ'.out] at hlB
        have hlB' := Lib.hid hlB
        have B3' := Lib.hid B3
        have q3 := hT3.get hqx.out hsx.out
        obtain ⟨c30, _, c32, _, hbl3⟩ := act_box (by rw [hD'.out]; exact q3)
        rw [show blockCells x.block = C from hC'.out] at hbl3
        have hbl3' := Lib.hid hbl3
        clear hT3 q3 cx0 cx2 hlB B3 hbl3
        go_wp2_with (first | (refine wpList_load_agg 37 rfl rfl rfl _ Tryz.underlying37 rfl J (by rw [hJl.out]; exact img_size) hlB'.out ?_) | (refine wpList_load_agg 35 rfl rfl rfl _ Tryz.underlying35 rfl C (by rw [hCl.out]; exact block_size) hbl3'.out ?_))
        refine (hWt'.out _).mono ?_
        rintro e w4 ⟨rfl, hk4⟩
        have O4 := Lib.hid (O3.out.fresh hk4)
        have V4 := Lib.hid (V3.out.fresh hk4)
        have B4 := Lib.hid (B3'.out.fresh hk4)
        have hq4 : Hid (w4.heap[vb]? = some (.cells J.toArray 37 (0, 0))) := Lib.hid (by rw [← hJ'.out]; exact B4.out.heap)
        clear hk4
        go_wp2_with (first | (refine wpList_store_whole 37 rfl rfl rfl J' rfl (by rw [hJl'.out]; exact img_size) 37 J.toArray hq4.out (by simp [hJl.out, hJl'.out]) hJ1.out ?_))
        have kS : Kept (fun j => j = vb) w4 (w4.setRow vb J'.toArray) := Kept.setRow (S := fun j => j = vb) (Kept.refl _ _) rfl _
        have fin : Hid (∃ A M i, SumsSt w0 b sb vb next (-1) (k + 1) 0 (w4.setRow vb J'.toArray) A M i .none) := Lib.hid ⟨A3, M1, _, O4.out.apart B4.out.apart hvn.out kS, V4.out.kept kS hbv.out, hF'.out, hG'.out, hz'.out, hBg.out, Bytes.zero, by rw [← hJe'.out]; exact B4.out.set, rfl, rfl, hP1.out, Nat.le_refl _, hl1.out⟩
        clear kS
        go_roundw
        case rel => exact ⟨k + 1, next, by omega, by go_num, rfl, fin⟩
        case measure => simp [intOf]; omega
      · have hT := Lib.hid (ref13There_bad hth)
        have fin : Hid (∃ A M i, SumsSt w0 b sb vb root (-1) (k + 1) 0 wx A M i .none) := Lib.hid ⟨A, M, i, Sx.out.moreX⟩
        clear hx hcs hks kw kx qx hxb hwx hI St hD hC hbl hok I2 hth
        go_wp2_with (first | (refine wpList_load_agg 40 rfl rfl rfl _ Tryz.underlying40 rfl D (by rw [hDDl.out]; exact act_size) hlo.out ?_) | (refine wpList_alloc_as 40 rfl rfl D0.toArray hDz.out ?_; rw [hxb'.out]) | (refine wpList_store_whole 40 rfl rfl rfl D rfl (by rw [hDDl.out]; exact act_size) 40 D0.toArray (by rw [← hxb'.out]; exact heap_alloc_new _ _) (by simp [hDDl.out, hDl.out]) hDD1.out ?_; rw [hwx'.out]))
        refine (hT.out _).mono ?_
        rintro e w3 ⟨rfl, rfl⟩
        go_wp2_with fail
        go_roundw
        case rel => exact ⟨k + 1, root, by omega, by go_num, rfl, fin⟩
        case measure => simp [intOf]; omega
    · obtain rfl : k = l.length := by omega
      have I4 : Hid (∃ A M i j, SumsSt w0 b sb vb root (-1) l.length (64 - 64) wr A M i j ∧ ∀ c : Int, 0 ≤ c → c < 64 → j.w c = if ((64 : Nat) : Int) ≤ c then i.w c else zeros16) := Lib.hid ⟨A, M, i, .none, St, fun c h0 h1 => by rw [if_neg (by omega)]; rfl⟩
      obtain ⟨x, hxr⟩ : ∃ x, root = x := ⟨_, rfl⟩
      rw [hxr] at I4 ⊢
      obtain ⟨Z, hZ⟩ : ∃ Z, blockCells zeros16 = Z := ⟨_, rfl⟩
      have hZb : Hid (byteCells zeros16 = Z) := Lib.hid (by rw [← hZ, blockCells_eq _ rfl])
      have hbz : Hid (∀ w, (Instr.build 35 #[]).run Tryz.prog w = .ok (.agg Z.toArray) w) := Lib.hid (fun w => by rw [← hZb.out]; exact run_build_block w)
      have hZ' := Lib.hid hZ
      clear hI St hZ hxr I2
      go_wp2_with fail
      go_loopw [9, 15] (fun r z wr => ∃ (n : Nat) (y zi : Int), n ≤ 64 ∧ zi = (n : Int) - 1 ∧ r = .int .i64 y ∧ z = .int .i64 zi ∧ Hid (∃ A M i j, SumsSt w0 b sb vb x y l.length (64 - n) wr A M i j ∧ ∀ c : Int, 0 ≤ c → c < 64 → j.w c = if (n : Int) ≤ c then i.w c else zeros16)) (fun _ z _ => (intOf z + 1).toNat)
      case atStart => exact ⟨64, -1, 63, Nat.le_refl _, by decide, rfl, rfl, I4⟩
      case round =>
        obtain ⟨n, y, zi, hn64, hzi, rfl, rfl, hI⟩ := hrel
        obtain ⟨A, M, i, j, St, hj⟩ := hI.out
        by_cases hn0 : n = 0
        · subst hn0
          obtain rfl : zi = -1 := by omega
          clear hzi
          have hld := Lib.hid St.iv.load
          have kw := Lib.hid (k0'.out.trans St.own.kept)
          have hIi := St.img.img i (by simp)
          have hIj := St.img.img j (by simp)
          have hS1 := imageSum St.own.store hIi St.img.exact (by have := St.putsX; omega) St.bytes
          have hjb : imgBytes j.w = imgBytes i.w := sum_same (fun c h0 h1 => by rw [hj c h0 h1, if_pos (by omega)])
          obtain ⟨S, hS⟩ : ∃ S, crcOf (imgBytes i.w) = S := ⟨_, rfl⟩
          rw [St.iv.eq, St.rootX, hS] at hS1
          have hS1' := Lib.hid hS1
          have St' := Lib.hid St
          have hS' := Lib.hid hS
          have hjb' := Lib.hid hjb
          have hj' := Lib.hid hj
          clear hI St hj hIi hIj hS1 hjb I4 hS
          go_wp2_with (first | (refine wpList_load_agg 32 rfl rfl rfl _ Tryz.underlying32 rfl [.pointer (some ⟨sb, 0, none⟩)] (by kernel_rfl) hld.out ?_))
          refine hS1'.out.mono ?_
          rintro e w3 ⟨rfl, hk3⟩
          have S3 := Lib.hid (St'.out.fresh hk3)
          have hld3 := Lib.hid S3.out.iv.load
          have hS2 := imageSum S3.out.own.store (S3.out.img.img j (by simp)) S3.out.img.exact (by have := S3.out.putsY; omega) S3.out.bytesJ
          rw [S3.out.iv.eq, S3.out.rootY, hjb'.out, hS'.out] at hS2
          have hS2' := Lib.hid hS2
          clear hk3 hS2
          go_wp2_with (first | (refine wpList_load_agg 32 rfl rfl rfl _ Tryz.underlying32 rfl [.pointer (some ⟨sb, 0, none⟩)] (by kernel_rfl) hld3.out ?_))
          refine hS2'.out.mono ?_
          rintro e w4 ⟨rfl, hk4⟩
          have S4 := Lib.hid (S3.out.fresh hk4)
          have hld4 := Lib.hid S4.out.iv.load
          have hlT : Hid (∀ j v, T[j]? = some v → w4.cell? ⟨tb, 0 + j, none⟩ = some v) := Lib.hid (fun j v hj => by rw [Nat.zero_add, cell_of_heap (S4.out.own.kept.get qt0.out id)]; simpa using hj)
          have hWr := imageWrite S4.out.own.store j.root (kk : Int) hbl16 hbl256 (by have := S4.out.log; omega)
          obtain ⟨e0, ⟨pg, hF⟩, hG, hz⟩ := write_x S4.out.img (k := 1) rfl (by have := S4.out.putsX; omega) (by have := S4.out.putsY; omega) (key := (kk : Int)) (by omega) (by omega) hbl16 hbl256 S4.out.gone S4.out.size
          rw [S4.out.iv.eq, hT0'.out] at hWr
          obtain ⟨R, hR⟩ : ∃ R, M.write j.root (kk : Int) bl = R := ⟨_, rfl⟩
          rw [hR] at hWr e0 hF
          obtain ⟨M1, next, er⟩ := R
          dsimp only at hWr e0 hF
          subst e0
          rw [S4.out.rootY] at hWr
          have hWr' := Lib.hid hWr
          have hF' : Hid (Imgs 1 M1 [i, ⟨next, putL j.l ((kk : Int), pg), j.P + 1, upd j.w (kk : Int) bl⟩]) := Lib.hid hF
          clear hk4 hWr hF hG hz hR
          go_wp2_with (first | (refine wpList_load_agg 32 rfl rfl rfl _ Tryz.underlying32 rfl [.pointer (some ⟨sb, 0, none⟩)] (by kernel_rfl) hld4.out ?_) | (refine wpList_load_agg 35 rfl rfl rfl _ Tryz.underlying35 rfl T (by rw [hTl.out]; exact block_size) hlT.out ?_))
          refine hWr'.out.mono ?_
          rintro e w5 ⟨A5, rfl, hT5⟩
          have O5 := Lib.hid (S4.out.own.to hT5)
          have V5 := Lib.hid (S4.out.iv.to hT5)
          have B5 := Lib.hid (S4.out.box.to hT5)
          have hld5 := Lib.hid V5.out.load
          have hBu := S4.out.bytes.upd (kk : Int) hbl16 hbl256
          have hBj := S4.out.bytesJ.upd (kk : Int) hbl16 hbl256
          have hub : imgBytes (upd j.w (kk : Int) bl) = imgBytes (upd i.w (kk : Int) bl) := sum_same (fun c h0 h1 => by
            unfold upd
            by_cases e : c = (kk : Int)
            · rw [if_pos e, if_pos e]
            · rw [if_neg e, if_neg e, hj'.out c h0 h1, if_pos (by omega)])
          obtain ⟨U, hU⟩ : ∃ U, crcOf (imgBytes (upd i.w (kk : Int) bl)) = U := ⟨_, rfl⟩
          have hS3 := imageSum O5.out.store (hF'.out.img ⟨next, putL j.l ((kk : Int), pg), j.P + 1, upd j.w (kk : Int) bl⟩ (by simp)) hF'.out.exact (by have := S4.out.putsY; show j.P + 1 ≤ 150; omega) hBj
          rw [V5.out.eq, show (IM.w ⟨next, putL j.l ((kk : Int), pg), j.P + 1, upd j.w (kk : Int) bl⟩) = upd j.w (kk : Int) bl from rfl, hub, hU] at hS3
          have hS3' := Lib.hid hS3
          have hU' := Lib.hid hU
          have hBu' := Lib.hid hBu
          clear hT5 hBj hub hS3 hU hBu
          go_wp2_with (first | (refine wpList_load_agg 32 rfl rfl rfl _ Tryz.underlying32 rfl [.pointer (some ⟨sb, 0, none⟩)] (by kernel_rfl) hld5.out ?_))
          refine hS3'.out.mono ?_
          rintro e w6 ⟨rfl, hk6⟩
          have O6 := Lib.hid (O5.out.fresh hk6)
          obtain ⟨J, hJ⟩ : ∃ J, imgCells i.w = J := ⟨_, rfl⟩
          obtain ⟨J', hJe⟩ : ∃ J', imgCells (upd i.w (kk : Int) bl) = J' := ⟨_, rfl⟩
          have hJl : Hid (J.length = 1024) := Lib.hid (by rw [← hJ]; exact imgCells_len S4.out.bytes)
          have hlB0 := (B5.out.fresh hk6).load
          rw [hJ] at hlB0
          have hlB := Lib.hid hlB0
          have hlT6 : Hid (∀ j v, T[j]? = some v → w6.cell? ⟨tb, 0 + j, none⟩ = some v) := Lib.hid (fun j v hj => by rw [Nat.zero_add, cell_of_heap (O6.out.kept.get qt0.out id)]; simpa using hj)
          have hWt := fun w => ref13Write (w := w) S4.out.bytes hkk hbl16
          rw [hT0'.out, hJ, hJe] at hWt
          have hWt' := Lib.hid hWt
          have hSm := fun w => ref13Sum (w := w) hBu'.out
          rw [hJe, hU'.out] at hSm
          have hSm' := Lib.hid hSm
          obtain ⟨q, hq⟩ : ∃ q, ((U : Int) == (S : Int)) = q := ⟨_, rfl⟩
          clear hk6 hJ hJe hlB0 hWt hSm
          go_wp2_with (first | (refine wpList_exec_g (by rfl) (exec_load_agg (g := vb) (off := 0) rfl rfl J Tryz.underlying37 rfl (by rw [hJl.out]; exact img_size) hlB.out) ?_) | (refine wpList_exec_g (by rfl) (exec_load_agg (g := tb) (off := 0) rfl rfl T Tryz.underlying35 rfl (by rw [hTl.out]; exact block_size) hlT6.out) ?_))
          refine (hWt'.out _).mono ?_
          rintro e w7 ⟨rfl, hk7⟩
          have O7 := Lib.hid (O6.out.fresh hk7)
          clear hk7
          go_wp2_with fail
          refine (hSm'.out _).mono ?_
          rintro e w8 ⟨rfl, hk8⟩
          have kk8 : Hid (Kept (fun _ => False) w w8) := Lib.hid (k0'.out.trans (O7.out.fresh hk8).kept)
          clear hk8
          go_wp2_with fail
          go_ret
          exact ⟨rfl, kk8.out⟩
        · obtain ⟨m, rfl⟩ : ∃ m, n = m + 1 := ⟨n - 1, by omega⟩
          obtain rfl : zi = (m : Int) := by omega
          clear hzi hn0
          have hm64 : m < 64 := by omega
          have hmi : (m : Int) < 64 := by omega
          have hld := Lib.hid St.iv.load
          obtain ⟨C, hC⟩ : ∃ C, blockCells (i.w (m : Int)) = C := ⟨_, rfl⟩
          have hCl : Hid (C.length = 16) := Lib.hid (by rw [← hC]; exact blockCells_len _)
          have hlV0 := St.box.row0 St.bytes hm64
          have hlW0 := St.box.row St.bytes hm64
          rw [hC] at hlV0 hlW0
          have hlV := Lib.hid hlV0
          have hlW := Lib.hid hlW0
          have St' := Lib.hid St
          by_cases hzero : i.w (m : Int) = zeros16
          · have hqC : Hid (∀ (o : Oper) (a : Act) (w : World) (x y : Operand) (u : TypeId), o.op = .binOp .eql 35 x y u → a.eval x = .agg C.toArray → a.eval y = .agg Z.toArray → (execOp a.eval o).run Tryz.prog w = .ok (.value (.bool true)) w) := Lib.hid (fun o a w x y u ho hx hy => by
              have := exec_blk_eql (w := w) x y ho (l := i.w (m : Int)) (m := zeros16) (St'.out.bytes.len _) rfl (by rw [hC]; exact hx) (by rw [hZ'.out]; exact hy)
              rw [decide_eq_true hzero] at this
              exact this)
            have fin : Hid (∃ A M i j, SumsSt w0 b sb vb x y l.length (64 - m) wr A M i j ∧ ∀ c : Int, 0 ≤ c → c < 64 → j.w c = if (m : Int) ≤ c then i.w c else zeros16) := Lib.hid ⟨A, M, i, j, by rw [show 64 - m = 64 - (m + 1) + 1 by omega]; exact St.moreY, fun c h0 h1 => by
              rw [hj c h0 h1]
              by_cases e : c = (m : Int)
              · rw [if_neg (by omega), if_pos (by omega), e, hzero]
              · by_cases e2 : (m : Int) ≤ c
                · rw [if_pos (by omega), if_pos e2]
                · rw [if_neg (by omega), if_neg e2]⟩
            clear hI St hj hC hlV0 hlW0 hzero I4
            go_wp2_with (first | (refine wpList_load_agg 35 rfl rfl rfl _ Tryz.underlying35 rfl C (by rw [hCl.out]; exact block_size) hlV.out ?_) | (refine wpList_exec rfl (exec_build 35 #[] _ rfl (by simp [Act.eval]) (hbz.out _)) ?_) | (refine wpList_exec rfl (hqC.out _ _ _ (.tmp 77) (.tmp 78) 35 rfl (by rfl) (by rfl)) ?_))
            go_roundw
            case rel => exact ⟨m, y, (m : Int) - 1, by omega, rfl, rfl, by go_num, fin⟩
            case measure => simp [intOf] <;> omega
          · have hqC : Hid (∀ (o : Oper) (a : Act) (w : World) (x y : Operand) (u : TypeId), o.op = .binOp .eql 35 x y u → a.eval x = .agg C.toArray → a.eval y = .agg Z.toArray → (execOp a.eval o).run Tryz.prog w = .ok (.value (.bool false)) w) := Lib.hid (fun o a w x y u ho hx hy => by
              have := exec_blk_eql (w := w) x y ho (l := i.w (m : Int)) (m := zeros16) (St'.out.bytes.len _) rfl (by rw [hC]; exact hx) (by rw [hZ'.out]; exact hy)
              rw [decide_eq_false hzero] at this
              exact this)
            have hix : Hid (∀ (o : Oper) (a : Act) (w : World), o.op = .indexAddr 37 (.tmp 10) (.tmp 84) → a.eval (.tmp 10) = .pointer (some ⟨vb, 0, none⟩) → a.eval (.tmp 84) = .int .i64 (m : Int) → (execOp a.eval o).run Tryz.prog w = .ok (.value (.pointer (some ⟨vb, 0 + m * 16, none⟩))) w) := Lib.hid (fun o a w ho h7 h72 => by
              unfold execOp
              simp only [ho, h7, h72]
              go_simp)
            have SD : SumsSt w0 b sb vb x y l.length (64 - (m + 1)) wr.drew A M i j := St.fresh ((Kept.refl _ _).drew)
            have hldd := Lib.hid SD.iv.load
            have hlWd0 := SD.box.row SD.bytes hm64
            rw [hC] at hlWd0
            have hlWd := Lib.hid hlWd0
            have SD' := Lib.hid SD
            have hWr := imageWrite SD.own.store j.root (m : Int) (St.bytes.len (m : Int)) (St.bytes.lt (m : Int)) (by have := St.log; omega)
            obtain ⟨e0, ⟨pg, hF⟩, hG, hz⟩ := write_x St.img (k := 1) rfl (by have := St.putsX; omega) (by have := St.putsY; omega) (key := (m : Int)) (by omega) hmi (St.bytes.len (m : Int)) (St.bytes.lt (m : Int)) St.gone St.size
            have hlw := write_log M j.root (m : Int) (i.w (m : Int))
            have hBg : Hid (Bytes (upd j.w (m : Int) (i.w (m : Int)))) := Lib.hid (St.bytesJ.upd (m : Int) (St.bytes.len _) (St.bytes.lt _))
            rw [St.iv.eq, hC] at hWr
            obtain ⟨R, hR⟩ : ∃ R, M.write j.root (m : Int) (i.w (m : Int)) = R := ⟨_, rfl⟩
            rw [hR] at hWr e0 hF hG hz hlw
            obtain ⟨M1, next, er⟩ := R
            dsimp only at hWr e0 hF hG hz hlw
            subst e0
            rw [St.rootY] at hWr
            have hWr' := Lib.hid hWr
            have hF' : Hid (Imgs 1 M1 [i, ⟨next, putL j.l ((m : Int), pg), j.P + 1, upd j.w (m : Int) (i.w (m : Int))⟩]) := Lib.hid hF
            have hG' := Lib.hid hG
            have hz' := Lib.hid hz
            have hP1 : Hid (j.P + 1 ≤ 64 - m) := Lib.hid (by have := St.putsY; omega)
            have hl1 : Hid (M1.log.length ≤ 23 * (l.length + (64 - m))) := Lib.hid (by have := St.log; omega)
            have hj' : Hid (∀ c : Int, 0 ≤ c → c < 64 → upd j.w (m : Int) (i.w (m : Int)) c = if (m : Int) ≤ c then i.w c else zeros16) := Lib.hid (fun c h0 h1 => by
              unfold upd
              by_cases e : c = (m : Int)
              · rw [if_pos e, if_pos (by omega), e]
              · rw [if_neg e, hj c h0 h1]
                by_cases e2 : (m : Int) ≤ c
                · rw [if_pos (by omega), if_pos e2]
                · rw [if_neg (by omega), if_neg e2])
            clear hI St SD hj hC hlV0 hlW0 hlWd0 hzero I4 hWr hF hG hz hlw hR
            go_wp2_with (first | (refine wpList_load_agg 35 rfl rfl rfl _ Tryz.underlying35 rfl C (by rw [hCl.out]; exact block_size) hlV.out ?_) | (refine wpList_exec rfl (exec_build 35 #[] _ rfl (by simp [Act.eval]) (hbz.out _)) ?_) | (refine wpList_exec rfl (hqC.out _ _ _ (.tmp 77) (.tmp 78) 35 rfl (by rfl) (by rfl)) ?_))
            refine wp_region_any (by kernel_rfl) ?_
            change wpAny _ _ _ _ _ _ _ (World.drew _)
            refine wpAny_take (i := 1) (v := .int .i64 y) rfl (by kernel_rfl) (by kernel_rfl) (by kernel_rfl) (fun _ _ _ h => h) (.inl ⟨by rfl, fun w => by go_simp⟩) ?_
            simp only [Act.put, List.getElem_toArray, List.getElem_cons_zero, List.getElem_cons_succ, List.setIfInBounds_toArray, List.set_cons_zero, List.set_cons_succ]
            refine wpAny_take (i := 2) (v := .int .i64 (m : Int)) rfl (by kernel_rfl) (by kernel_rfl) (by kernel_rfl) (fun _ _ _ h => h) (.inl ⟨by rfl, fun w => by go_simp⟩) ?_
            simp only [Act.put, List.getElem_toArray, List.getElem_cons_zero, List.getElem_cons_succ, List.setIfInBounds_toArray, List.set_cons_zero, List.set_cons_succ]
            refine wpAny_take (i := 3) (v := .int .i64 (m : Int)) rfl (by kernel_rfl) (by kernel_rfl) (by kernel_rfl) (fun _ _ _ h => h) (.inl ⟨by rfl, fun w => by go_simp⟩) ?_
            simp only [Act.put, List.getElem_toArray, List.getElem_cons_zero, List.getElem_cons_succ, List.setIfInBounds_toArray, List.set_cons_zero, List.set_cons_succ]
            refine wpAny_take (i := 4) (v := .pointer (some ⟨vb, 0 + m * 16, none⟩)) rfl (by kernel_rfl) (by kernel_rfl) (by kernel_rfl) (fun _ _ _ h => h) (.inl ⟨by rfl, fun w => hix.out _ _ w rfl (by rfl) (by rfl)⟩) ?_
            simp only [Act.put, List.getElem_toArray, List.getElem_cons_zero, List.getElem_cons_succ, List.setIfInBounds_toArray, List.set_cons_zero, List.set_cons_succ]
            refine wpAny_ready (rs := [0, 5]) (by kernel_rfl) (by simp) ?_
            refine AllReady.cons rfl (fun K hK => ?_) ?_
            · rw [if_pos (by rfl)]
              simp only [Go.wp_at_zero, Go.wp_at_succ]
              refine wp_exec (exec_load_agg (ty := 32) (x := .tmp 7) rfl (g := b) (off := 0) (by rfl) [.pointer (some ⟨sb, 0, none⟩)] Tryz.underlying32 rfl (by kernel_rfl) hldd.out) ?_
              refine hK _ _ ?_
              clear hK K
              try simp only [Act.put, List.getElem_toArray, List.getElem_cons_zero, List.getElem_cons_succ, List.setIfInBounds_toArray, List.set_cons_zero, List.set_cons_succ]
              refine wpAny_ready (rs := [5]) (by kernel_rfl) (by simp) ?_
              refine AllReady.cons rfl (fun K hK => ?_) ?_
              · rw [if_pos (by rfl)]
                simp only [Go.wp_at_zero, Go.wp_at_succ]
                refine wp_exec (exec_load_agg (ty := 35) (x := .tmp 85) rfl (g := vb) (off := 0 + m * 16) (by rfl) C Tryz.underlying35 rfl (by rw [hCl.out]; exact block_size) hlWd.out) ?_
                refine hK _ _ ?_
                clear hK K
                try simp only [Act.put, List.getElem_toArray, List.getElem_cons_zero, List.getElem_cons_succ, List.setIfInBounds_toArray, List.set_cons_zero, List.set_cons_succ]
                refine wpAny_ready (rs := [6]) (by kernel_rfl) (by simp) ?_
                refine AllReady.cons rfl (fun K hK => ?_) ?_
                · rw [if_pos (by rfl)]
                  simp only [Go.wp_at_zero, Go.wp_at_succ]
                  go_simp
                  refine hWr'.out.mono ?_
                  rintro e w3 ⟨A3, rfl, hT3⟩
                  have fin : Hid (∃ A M i j, SumsSt w0 b sb vb x next l.length (64 - m) w3 A M i j ∧ ∀ c : Int, 0 ≤ c → c < 64 → j.w c = if (m : Int) ≤ c then i.w c else zeros16) := Lib.hid ⟨A3, M1, i, _, ⟨SD'.out.own.to hT3, SD'.out.iv.to hT3, hF'.out, hG'.out, hz'.out, SD'.out.bytes, hBg.out, SD'.out.box.to hT3, SD'.out.rootX, rfl, SD'.out.putsX, hP1.out, hl1.out⟩, hj'.out⟩
                  clear hT3
                  refine hK _ _ ?_
                  clear hK K
                  try simp only [Act.put, List.getElem_toArray, List.getElem_cons_zero, List.getElem_cons_succ, List.setIfInBounds_toArray, List.set_cons_zero, List.set_cons_succ]
                  refine wpAny_take (i := 7) (v := .tuple #[.int .i64 next, .int .i64 0]) rfl (by kernel_rfl) (by kernel_rfl) (by kernel_rfl) (fun _ _ _ h => h) (.inl ⟨by rfl, fun w => by go_simp⟩) ?_
                  simp only [Act.put, List.getElem_toArray, List.getElem_cons_zero, List.getElem_cons_succ, List.setIfInBounds_toArray, List.set_cons_zero, List.set_cons_succ]
                  refine wpAny_take (i := 8) (v := .int .i64 next) rfl (by kernel_rfl) (by kernel_rfl) (by kernel_rfl) (fun _ _ _ h => h) (.inl ⟨by rfl, fun w => by go_simp⟩) ?_
                  simp only [Act.put, List.getElem_toArray, List.getElem_cons_zero, List.getElem_cons_succ, List.setIfInBounds_toArray, List.set_cons_zero, List.set_cons_succ]
                  refine wpAny_take (i := 9) (v := .int .i64 0) rfl (by kernel_rfl) (by kernel_rfl) (by kernel_rfl) (fun _ _ _ h => h) (.inl ⟨by rfl, fun w => by go_simp⟩) ?_
                  simp only [Act.put, List.getElem_toArray, List.getElem_cons_zero, List.getElem_cons_succ, List.setIfInBounds_toArray, List.set_cons_zero, List.set_cons_succ]
                  refine wpAny_take (i := 10) (v := .int .i64 next) rfl (by kernel_rfl) (by kernel_rfl) (by kernel_rfl) (fun _ _ _ h => h) (.inl ⟨by rfl, fun w => by go_simp⟩) ?_
                  simp only [Act.put, List.getElem_toArray, List.getElem_cons_zero, List.getElem_cons_succ, List.setIfInBounds_toArray, List.set_cons_zero, List.set_cons_succ]
                  refine wpAny_take (i := 11) (v := .int .i64 0) rfl (by kernel_rfl) (by kernel_rfl) (by kernel_rfl) (fun _ _ _ h => h) (.inl ⟨by rfl, fun w => by go_simp⟩) ?_
                  simp only [Act.put, List.getElem_toArray, List.getElem_cons_zero, List.getElem_cons_succ, List.setIfInBounds_toArray, List.set_cons_zero, List.set_cons_succ]
                  refine wpAny_done (by kernel_rfl) ?_ _
                  have fin' : Hid (∃ A M i j, SumsSt w0 b sb vb x next l.length (64 - m) _ A M i j ∧ ∀ c : Int, 0 ≤ c → c < 64 → j.w c = if (m : Int) ≤ c then i.w c else zeros16) := fin
                  go_wp2_with fail
                  go_roundw
                  case rel => exact ⟨m, next, (m : Int) - 1, by omega, rfl, rfl, by go_num, fin⟩
                  case measure => simp [intOf] <;> omega
                exact AllReady.nil
              exact AllReady.nil
            refine AllReady.cons rfl (fun K hK => ?_) ?_
            · rw [if_pos (by rfl)]
              simp only [Go.wp_at_zero, Go.wp_at_succ]
              refine wp_exec (exec_load_agg (ty := 35) (x := .tmp 85) rfl (g := vb) (off := 0 + m * 16) (by rfl) C Tryz.underlying35 rfl (by rw [hCl.out]; exact block_size) hlWd.out) ?_
              refine hK _ _ ?_
              clear hK K
              try simp only [Act.put, List.getElem_toArray, List.getElem_cons_zero, List.getElem_cons_succ, List.setIfInBounds_toArray, List.set_cons_zero, List.set_cons_succ]
              refine wpAny_ready (rs := [0]) (by kernel_rfl) (by simp) ?_
              refine AllReady.cons rfl (fun K hK => ?_) ?_
              · rw [if_pos (by rfl)]
                simp only [Go.wp_at_zero, Go.wp_at_succ]
                refine wp_exec (exec_load_agg (ty := 32) (x := .tmp 7) rfl (g := b) (off := 0) (by rfl) [.pointer (some ⟨sb, 0, none⟩)] Tryz.underlying32 rfl (by kernel_rfl) hldd.out) ?_
                refine hK _ _ ?_
                clear hK K
                try simp only [Act.put, List.getElem_toArray, List.getElem_cons_zero, List.getElem_cons_succ, List.setIfInBounds_toArray, List.set_cons_zero, List.set_cons_succ]
                refine wpAny_ready (rs := [6]) (by kernel_rfl) (by simp) ?_
                refine AllReady.cons rfl (fun K hK => ?_) ?_
                · rw [if_pos (by rfl)]
                  simp only [Go.wp_at_zero, Go.wp_at_succ]
                  go_simp
                  refine hWr'.out.mono ?_
                  rintro e w3 ⟨A3, rfl, hT3⟩
                  have fin : Hid (∃ A M i j, SumsSt w0 b sb vb x next l.length (64 - m) w3 A M i j ∧ ∀ c : Int, 0 ≤ c → c < 64 → j.w c = if (m : Int) ≤ c then i.w c else zeros16) := Lib.hid ⟨A3, M1, i, _, ⟨SD'.out.own.to hT3, SD'.out.iv.to hT3, hF'.out, hG'.out, hz'.out, SD'.out.bytes, hBg.out, SD'.out.box.to hT3, SD'.out.rootX, rfl, SD'.out.putsX, hP1.out, hl1.out⟩, hj'.out⟩
                  clear hT3
                  refine hK _ _ ?_
                  clear hK K
                  try simp only [Act.put, List.getElem_toArray, List.getElem_cons_zero, List.getElem_cons_succ, List.setIfInBounds_toArray, List.set_cons_zero, List.set_cons_succ]
                  refine wpAny_take (i := 7) (v := .tuple #[.int .i64 next, .int .i64 0]) rfl (by kernel_rfl) (by kernel_rfl) (by kernel_rfl) (fun _ _ _ h => h) (.inl ⟨by rfl, fun w => by go_simp⟩) ?_
                  simp only [Act.put, List.getElem_toArray, List.getElem_cons_zero, List.getElem_cons_succ, List.setIfInBounds_toArray, List.set_cons_zero, List.set_cons_succ]
                  refine wpAny_take (i := 8) (v := .int .i64 next) rfl (by kernel_rfl) (by kernel_rfl) (by kernel_rfl) (fun _ _ _ h => h) (.inl ⟨by rfl, fun w => by go_simp⟩) ?_
                  simp only [Act.put, List.getElem_toArray, List.getElem_cons_zero, List.getElem_cons_succ, List.setIfInBounds_toArray, List.set_cons_zero, List.set_cons_succ]
                  refine wpAny_take (i := 9) (v := .int .i64 0) rfl (by kernel_rfl) (by kernel_rfl) (by kernel_rfl) (fun _ _ _ h => h) (.inl ⟨by rfl, fun w => by go_simp⟩) ?_
                  simp only [Act.put, List.getElem_toArray, List.getElem_cons_zero, List.getElem_cons_succ, List.setIfInBounds_toArray, List.set_cons_zero, List.set_cons_succ]
                  refine wpAny_take (i := 10) (v := .int .i64 next) rfl (by kernel_rfl) (by kernel_rfl) (by kernel_rfl) (fun _ _ _ h => h) (.inl ⟨by rfl, fun w => by go_simp⟩) ?_
                  simp only [Act.put, List.getElem_toArray, List.getElem_cons_zero, List.getElem_cons_succ, List.setIfInBounds_toArray, List.set_cons_zero, List.set_cons_succ]
                  refine wpAny_take (i := 11) (v := .int .i64 0) rfl (by kernel_rfl) (by kernel_rfl) (by kernel_rfl) (fun _ _ _ h => h) (.inl ⟨by rfl, fun w => by go_simp⟩) ?_
                  simp only [Act.put, List.getElem_toArray, List.getElem_cons_zero, List.getElem_cons_succ, List.setIfInBounds_toArray, List.set_cons_zero, List.set_cons_succ]
                  refine wpAny_done (by kernel_rfl) ?_ _
                  have fin' : Hid (∃ A M i j, SumsSt w0 b sb vb x next l.length (64 - m) _ A M i j ∧ ∀ c : Int, 0 ≤ c → c < 64 → j.w c = if (m : Int) ≤ c then i.w c else zeros16) := fin
                  go_wp2_with fail
                  go_roundw
                  case rel => exact ⟨m, next, (m : Int) - 1, by omega, rfl, rfl, by go_num, fin⟩
                  case measure => simp [intOf] <;> omega
                exact AllReady.nil
              exact AllReady.nil
            exact AllReady.nil
end imageSums
end Go.Proofs.YtidlchciehdefaaGreat
