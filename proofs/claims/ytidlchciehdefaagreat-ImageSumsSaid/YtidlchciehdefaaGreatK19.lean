/-
  Images (package image): the sum of all blocks; a copy; blocks are cleared.
-/
import Derived.Test.YtidlchciehdefaaGreatK18
set_option linter.unusedVariables false
set_option linter.unusedSimpArgs false
namespace Go.Proofs.YtidlchciehdefaaGreat
open Go.RowKit
set_option maxRecDepth 100000

theorem elemRow : Elem 120 121 1 24 := Elem.of (z := .slice none 0 0) Tryz.underlying120 (by kernel_rfl) (by kernel_rfl) (by omega)
def rowsV (gb k : Nat) : List Value := (List.range k).map fun j => Value.slice (some ⟨gb, j * 16, none⟩) 16 16
theorem rowsV_succ (gb k : Nat) : rowsV gb (k + 1) = rowsV gb k ++ [.slice (some ⟨gb, k * 16, none⟩) 16 16] := by unfold rowsV; rw [List.range_succ, List.map_append]; rfl
theorem rows_parts {w : World} {v : Value} {gb base : Nat} {f : Int → List Nat} (hB : Bytes f) (hb : w.heap[gb]? = some (.cells (imgCells f).toArray 35 (0, 0))) (hv : w.ownsRow base 121 1 v 64 (rowsV gb 64)) : PartsAt w v (blocksOf f) (rowsV gb 64) := by
  refine ⟨by rw [blocksOf_len]; unfold rowsV; simp, by rw [blocksOf_len]; exact SliceAt.of_owns hv, fun j u l hj hl => ?_⟩
  have hj64 : j < 64 := by
    have := (List.getElem?_eq_some_iff.1 hl).1
    rwa [blocksOf_len] at this
  rw [blocksOf_get f hj64] at hl
  cases hl
  have hu : u = .slice (some ⟨gb, j * 16, none⟩) 16 16 := by
    unfold rowsV at hj
    rw [List.getElem?_map, List.getElem?_range hj64] at hj
    exact (Option.some.inj hj).symm
  subst hu
  have hlen := hB.len (j : Int)
  refine ⟨⟨by simp [byteCells_len], some ⟨gb, j * 16, none⟩, 16, by rw [hlen], by rw [hlen]; exact Nat.le_refl _, by decide, fun n u hn => ⟨gb, j * 16, rfl, ?_⟩⟩, hB.lt _⟩
  have hn16 : n < 16 := by
    have := (List.getElem?_eq_some_iff.1 hn).1
    rw [byteCells_len, hlen] at this
    exact this
  rw [cell_of_heap hb]
  have := imgCells_get hB hj64 hn16
  rw [hn] at this
  simpa using this
/-- Where Sum's loop stands. -/
structure SumSt (w : World) (gb : Nat) (f : Int → List Nat) (v : Value) (k : Nat) (wr : World) : Prop where
  kept : Kept (fun _ => False) w wr
  blk : wr.heap[gb]? = some (.cells (imgCells f).toArray 35 (0, 0))
  row : wr.ownsRow w.heap.size 121 1 v k (rowsV gb k)
set_option maxHeartbeats 8000000 in
theorem imageSum {w : World} {A : SA} {M : SM} {m : Nat} {ext : Nat → Nat} {i : IM} (h : StoreAt w A M) (hi : Img m M i) (E : Exact M ext) (hP : i.P ≤ 150) (hB : Bytes i.w) :
    Calls Tryz.prog 22 #[.agg #[.pointer (some ⟨A.sb, 0, none⟩)], .int .i64 i.root] w fun e w' => e = .returned (.tuple #[.int .u32 (crcOf (imgBytes i.w)), .int .i64 0]) ∧ Kept (fun _ => False) w w' := by
  have hAll := Lib.hid (fun w (h : StoreAt w A M) => imageAll h hi E hP hB)
  have h' := Lib.hid h
  have hB' := Lib.hid hB
  clear h hi E hB
  go_enter Tryz.func22, Tryz.ntmps22
  go_wp2_with fail
  refine (hAll.out _ (h'.out.fresh ((Kept.refl (fun _ => False) w).alloc (.cells #[.pointer (some ⟨A.sb, 0, none⟩)] 32)))).mono ?_
  rintro e w2 ⟨gb, rfl, hgb2, hblk2, hk2⟩
  have hgbl := lt_of_heap hblk2
  have I2 : Hid (SumSt w2 gb i.w (.slice none 0 0) 0 w2) := Lib.hid ⟨Kept.refl _ _, hblk2, World.ownsRow_nil _ _ _ _⟩
  have kall := Lib.hid (((Kept.refl (fun _ => False) w).alloc (.cells #[.pointer (some ⟨A.sb, 0, none⟩)] 32)).trans hk2)
  clear hk2 hblk2
  go_wp2_with fail
  go_loopw [8, 21] (fun v n wr => ∃ (k : Nat), k ≤ 64 ∧ n = .int .i64 k ∧ Hid (SumSt w2 gb i.w v k wr)) (fun _ n _ => 64 - (intOf n).toNat)
  case atStart => exact ⟨0, Nat.zero_le _, rfl, I2⟩
  case round =>
    obtain ⟨k, hk, rfl, hI⟩ := hrel
    obtain ⟨_, Av, cv, rfl, hv1, hv2, _⟩ := SliceAt.of_owns hI.out.row
    unfold maxLen at hv2
    by_cases hlt : k < 64
    · have hki : (k : Int) < 64 := by omega
      have R5 := Lib.hid (ownsRow.keptOf hI.out.row ((Kept.refl (fun _ => False) wr).alloc (.cells #[.slice (some ⟨gb, k * 16, none⟩) 16 16] 121)) (fun _ _ => id))
      have K5 := Lib.hid (hI.out.kept.trans ((Kept.refl (fun _ => False) wr).alloc (.cells #[.slice (some ⟨gb, k * 16, none⟩) 16 16] 121)))
      have hb5 := Lib.hid (((Kept.refl (fun _ => False) wr).alloc (.cells #[.slice (some ⟨gb, k * 16, none⟩) 16 16] 121)).get hI.out.blk id)
      clear hI
      go_wp2_with (at_builtin; refine wpList_append_src rfl elemRow (.tmp 24) (.tmp 29) rfl (by rfl) (by rfl) R5.out (SliceAt.block_new (ys := [.slice (some ⟨gb, k * 16, none⟩) 16 16]) (m := 1) (heap_alloc_new _ _) (by rfl) (by decide)) (by intro c hc; simp at hc; subst hc; rfl) (by omega) (by omega) K5.out.size ?_; intro v2 w10 hown10 hg10 hat10)
      have fin : Hid (SumSt w2 gb i.w v2 (k + 1) w10) := Lib.hid ⟨K5.out.trans_new (Kept.of_grown hg10) (fun j hj e => absurd hj (Nat.not_lt.2 (R5.out.lt j e).1)), (Kept.of_grown hg10).get hb5.out (fun e => by have := (R5.out.lt gb e).1; omega), by rw [rowsV_succ]; exact hown10⟩
      clear hown10 hg10 hat10
      go_wp2_with fail
      go_roundw
      case rel => exact ⟨k + 1, by omega, by go_num, fin⟩
      case measure => simp [intOf]; omega
    · obtain rfl : k = 64 := by omega
      have hcrc := Lib.hid (crcOf_any (rows_parts hB'.out hI.out.blk hI.out.row))
      have kk := Lib.hid (kall.out.trans hI.out.kept)
      clear hI
      go_wp2_with fail
      refine hcrc.out.mono ?_
      rintro e w9 ⟨rfl, rfl⟩
      go_wp2_with fail
      go_ret2
      exact ⟨rfl, kk.out⟩
end Go.Proofs.YtidlchciehdefaaGreat
/-
  Images (package image): blocks are cleared.
-/
namespace Go.Proofs.YtidlchciehdefaaGreat
open Go.RowKit
set_option maxRecDepth 100000

set_option maxHeartbeats 4000000 in
/-- What Clear does safely. -/
theorem clearDo {w : World} {A : SA} {M : SM} (h : StoreAt w A M) (root : Int) {vk : Value} {ks : List Int} (hks : IntsOff w A vk ks) (hkl : ks.length ≤ 1000) {mb rb kb : Nat}
    (hm : w.heap[mb]? = some (.cells #[.pointer (some ⟨A.sb, 0, none⟩)] 32 (0, 0))) (hr : w.heap[rb]? = some (.cells #[.int .i64 root] 3 (0, 0))) (hk : w.heap[kb]? = some (.cells #[vk] 38 (0, 0))) (hfew : M.log.length + 100000 < 100000000) :
    Calls Tryz.prog 70 #[.pointer (some ⟨mb, 0, none⟩), .pointer (some ⟨rb, 0, none⟩), .pointer (some ⟨kb, 0, none⟩)] w fun e w' =>
      ∃ A', e = .returned (.tuple #[.int .i64 (SM.trim ks M root).2.1, .int .i64 (SM.trim ks M root).2.2]) ∧ StoreTo A A' (SM.trim ks M root).1 w w' := by
  have hT := pruneTrim h root hks hkl hfew
  obtain ⟨Av, cap, rfl, _, _⟩ := hks.form
  have cr := cell_of_heap hr 0
  have ck := cell_of_heap hk 0
  simp at cr ck
  have hld := Lib.hid (ptr_load hm)
  have hT' := Lib.hid hT
  clear hT hm hr hk h hks
  go_enter Tryz.func70, Tryz.ntmps70
  go_wp2_with (first | (refine wpList_load_agg 28 rfl rfl rfl _ Tryz.underlying28 rfl [.pointer (some ⟨A.sb, 0, none⟩)] (by kernel_rfl) hld.out ?_))
  refine hT'.out.mono ?_
  rintro e w1 ⟨A1, rfl, hT1⟩
  have T1 := Lib.hid hT1
  clear hT1
  go_wp2_with fail
  go_ret2
  exact ⟨A1, rfl, T1.out⟩
theorem trim_size (ks : List Int) (M : SM) (root : Int) : (SM.trim ks M root).1.pool.size = M.pool.size := trim_closed (Q := fun N => N.pool.size = M.pool.size) ⟨fun _ _ _ _ h => h, fun N i h => by show (N.pool.holdTo i).size = _; rw [holdTo_size]; exact h, fun N i _ h => by show (N.pool.dropTo i.toNat).size = _; rw [dropTo_size]; exact h⟩ ks root rfl
set_option maxHeartbeats 8000000 in
theorem imageClear {w : World} {A : SA} {M : SM} (h : StoreAt w A M) (root : Int) {vk : Value} {ks : List Int} (hks : IntsOff w A vk ks) (hkl : ks.length ≤ 1000) (hfew : M.log.length + 100000 < 100000000) :
    Calls Tryz.prog 26 #[.agg #[.pointer (some ⟨A.sb, 0, none⟩)], .int .i64 root, vk] w fun e w' => ∃ A', e = .returned (.tuple #[.int .i64 (M.clear root ks).2.1, .int .i64 (M.clear root ks).2.2]) ∧ StoreTo A A' (M.clear root ks).1 w w' := by
  obtain ⟨Av, cap, rfl, hc1, hc2⟩ := hks.form
  unfold maxLen at hc2
  obtain ⟨w3, hw3⟩ : ∃ w3, ((w.alloc (.cells #[.pointer (some ⟨A.sb, 0, none⟩)] 32)).alloc (.cells #[.int .i64 root] 3)).alloc (.cells #[.slice Av ks.length cap] 38) = w3 := ⟨_, rfl⟩
  have ka : Kept (fun _ => False) w (w.alloc (.cells #[.pointer (some ⟨A.sb, 0, none⟩)] 32)) := (Kept.refl _ _).alloc _
  have kb : Kept (fun _ => False) (w.alloc (.cells #[.pointer (some ⟨A.sb, 0, none⟩)] 32)) ((w.alloc (.cells #[.pointer (some ⟨A.sb, 0, none⟩)] 32)).alloc (.cells #[.int .i64 root] 3)) := (Kept.refl _ _).alloc _
  have kc : Kept (fun _ => False) ((w.alloc (.cells #[.pointer (some ⟨A.sb, 0, none⟩)] 32)).alloc (.cells #[.int .i64 root] 3)) w3 := by rw [← hw3]; exact (Kept.refl _ _).alloc _
  have q1 : w3.heap[w.heap.size]? = some (.cells #[.pointer (some ⟨A.sb, 0, none⟩)] 32 (0, 0)) := (kb.trans kc).get (heap_alloc_new _ _) id
  have q2 : w3.heap[w.heap.size + 1]? = some (.cells #[.int .i64 root] 3 (0, 0)) := kc.get (by
    have := heap_alloc_new (w.alloc (.cells #[.pointer (some ⟨A.sb, 0, none⟩)] 32)) (.cells #[.int .i64 root] 3)
    rw [show (w.alloc (.cells #[.pointer (some ⟨A.sb, 0, none⟩)] 32)).heap.size = w.heap.size + 1 by simp] at this
    exact this) id
  have q3 : w3.heap[w.heap.size + 1 + 1]? = some (.cells #[.slice Av ks.length cap] 38 (0, 0)) := by
    have := heap_alloc_new ((w.alloc (.cells #[.pointer (some ⟨A.sb, 0, none⟩)] 32)).alloc (.cells #[.int .i64 root] 3)) (.cells #[.slice Av ks.length cap] 38)
    rw [show ((w.alloc (.cells #[.pointer (some ⟨A.sb, 0, none⟩)] 32)).alloc (.cells #[.int .i64 root] 3)).heap.size = w.heap.size + 1 + 1 by simp, hw3] at this
    exact this
  have k3 := (ka.trans kb).trans kc
  have s1 : Safe w3 A w.heap.size := Safe.new h (Nat.le_refl _) (lt_of_heap q1)
  have s2 : Safe w3 A (w.heap.size + 1) := Safe.new h (by omega) (lt_of_heap q2)
  have s3 : Safe w3 A (w.heap.size + 1 + 1) := Safe.new h (by omega) (lt_of_heap q3)
  have hk3 := hks.fresh k3
  have hSf := safelyClear (h.fresh k3) (.pointer (some ⟨w.heap.size, 0, none⟩)) (.pointer (some ⟨w.heap.size + 1, 0, none⟩)) (.pointer (some ⟨w.heap.size + 1 + 1, 0, none⟩)) (SM.trim ks M.marked root) (trim_size _ _ _)
    (fun w' A' hT => clearDo hT.store root (hk3.to hT) hkl (mb := w.heap.size) (rb := w.heap.size + 1) (kb := w.heap.size + 1 + 1) (by rw [hT.sb]; exact hT.get q1 s1) (hT.get q2 s2) (hT.get q3 s3) hfew)
  have ck3 := cell_of_heap q3 0
  simp at ck3
  have hld3 := Lib.hid (ptr_load q1)
  have hSf' := Lib.hid hSf
  have hk3' := Lib.hid hk3
  have k3' := Lib.hid k3
  have h' := Lib.hid ((StoreTo.refl h).fresh k3)
  have hw3' := Lib.hid hw3
  clear hSf hk3 k3 hw3 ka kb kc q1 q2 q3 s1 s2 s3 h hks
  go_enter Tryz.func26, Tryz.ntmps26
  go_wp2_with fail
  rw [hw3'.out]
  go_wp2_with fail
  go_loopw [12] (fun n wr => ∃ (k : Nat), k ≤ ks.length ∧ n = .int .i64 k ∧ wr = w3 ∧ Hid (∀ j x, j < k → ks[j]? = some x → 0 ≤ x ∧ x < 64)) (fun n _ => ks.length - (intOf n).toNat)
  case atStart => exact ⟨0, Nat.zero_le _, rfl, rfl, Lib.hid (fun j x hj => absurd hj (Nat.not_lt_zero _))⟩
  case round =>
    obtain ⟨k, hk, rfl, rfl, hI⟩ := hrel
    by_cases hlt : k < ks.length
    · obtain ⟨x, hx⟩ : ∃ x, ks[k]? = some x := ⟨_, List.getElem?_eq_getElem hlt⟩
      obtain ⟨lb, lo, rfl, hlb, hlc⟩ := hk3'.out.get hx
      have hki : (k : Int) < (ks.length : Int) := by omega
      have hth := imageThere x wr
      by_cases hin : 0 ≤ x ∧ x < 64
      · rw [decide_eq_true hin] at hth
        have hth' := Lib.hid hth
        have fin : Hid (∀ j y, j < k + 1 → ks[j]? = some y → 0 ≤ y ∧ y < 64) := Lib.hid (fun j y hj hy => by
          by_cases e : j = k
          · subst e
            rw [hx] at hy
            cases hy
            exact hin
          · exact hI.out j y (by omega) hy)
        clear hth hx hI hin
        go_wp2_with fail
        refine hth'.out.mono ?_
        rintro e w5 ⟨rfl, rfl⟩
        go_wp2_with fail
        go_roundw
        case rel => exact ⟨k + 1, by omega, by go_num, (by first | rfl | trivial), fin⟩
        case measure => simp [intOf]; omega
      · rw [decide_eq_false hin] at hth
        have hth' := Lib.hid hth
        have hcl : Hid (M.clear root ks = (M, -1, 101)) := Lib.hid (by unfold SM.clear; rw [if_pos ⟨x, List.mem_of_getElem? hx, by omega⟩])
        clear hth hx hI hin
        go_wp2_with fail
        refine hth'.out.mono ?_
        rintro e w5 ⟨rfl, rfl⟩
        go_wp2_with fail
        go_ret2
        rw [hcl.out]
        exact ⟨A, rfl, h'.out⟩
    · obtain rfl : k = ks.length := by omega
      have hcl : Hid (M.clear root ks = M.safely (SM.trim ks M.marked root)) := Lib.hid (by
        unfold SM.clear
        rw [if_neg]
        rintro ⟨x, hx, e⟩
        obtain ⟨j, hj, hj2⟩ := List.getElem_of_mem hx
        have := hI.out j x hj (by rw [List.getElem?_eq_getElem hj, hj2])
        omega)
      clear hI
      go_wp2_with (first | (refine wpList_load_agg 32 rfl rfl rfl _ Tryz.underlying32 rfl [.pointer (some ⟨A.sb, 0, none⟩)] (by kernel_rfl) hld3.out ?_))
      refine hSf'.out.mono ?_
      rintro e w6 ⟨A6, rfl, hT6⟩
      have T6 := Lib.hid (StoreTo.before k3'.out hT6)
      clear hT6
      go_wp2_with fail
      go_ret2
      rw [hcl.out]
      exact ⟨A6, rfl, T6.out⟩
end Go.Proofs.YtidlchciehdefaaGreat
