/-
 Layer 17: what one image has that another one hasn't (delta.Items).
-/
import Derived.Test.YtidlchciehdefaaGreatK02
import Derived.Test.YtidlchciehdefaaGreatK28
import Derived.Test.YtidlchciehdefaaGreatK30
import Derived.Great.FillDense
import Derived.Great.BuildSlice
set_option linter.unusedVariables false
set_option linter.unusedSimpArgs false
namespace Go.Proofs.YtidlchciehdefaaGreat
open Go.RowKit
set_option maxRecDepth 100000

def itemsOf (wb : Int → List Nat) (L : List (Int × Int)) : List ItemM := L.map fun c => ⟨c.1, decide (c.2 ≠ -1), wb c.1⟩
theorem itemsOf_len (wb : Int → List Nat) (L : List (Int × Int)) : (itemsOf wb L).length = L.length := List.length_map ..
theorem itemsOf_take (wb : Int → List Nat) {L : List (Int × Int)} {k : Nat} {c : Int × Int} (h : L[k]? = some c) : ((itemsOf wb (L.take (k + 1))).flatMap itemCells) = ((itemsOf wb (L.take k)).flatMap itemCells) ++ itemCells ⟨c.1, decide (c.2 ≠ -1), wb c.1⟩ := by
 obtain ⟨hk, rfl⟩ := List.getElem?_eq_some_iff.1 h
 unfold itemsOf
 rw [List.take_add_one, List.getElem?_eq_getElem hk, List.map_append, List.flatMap_append]
 simp
theorem changesL_keys {la lb : List (Int × Int)} {c : Int × Int} (h : c ∈ changesL la lb) : 0 ≤ c.1 ∧ c.1 < 64 := by
 unfold changesL at h
 obtain ⟨k, hk, he⟩ := List.mem_filterMap.1 h
 have := List.mem_range.1 hk
 split at he
 ·cases he
 ·cases he
  dsimp only
  omega
theorem elemItem : Elem 63 61 18 32 := Elem.of (z := .agg (itemCells .zero).toArray) Tryz.underlying63 (by kernel_rfl) (by kernel_rfl) (by omega)
theorem item_info : (Tryz.prog.info? 61).map (fun i => (i.zero, i.size, i.bytes)) = some (some (.agg (itemCells .zero).toArray), 18, 32) := by kernel_rfl
theorem run_buildSlice_item (w : World) {I : List Value} (hI : I.length = 18) : (Instr.buildSlice 63 1 #[(0, .agg I.toArray)]).run Tryz.prog w = .ok (.slice (some ⟨w.heap.size, 0, none⟩) 1 1) (w.alloc (.cells I.toArray 61)) := by
 obtain ⟨i0, hi0, hz0, hz1, hz2⟩ := info_parts item_info
 refine run_buildSlice w _ _ 1 _ _ i0 _ Tryz.underlying63 hi0 hz0 (by rw [hz1]; omega) (by rw [hz1]; omega) ?_
 rw [hz1]
 refine (Go.Great.fill_whole (s := 18) (by omega) [.agg I.toArray] _ ?_ ?_).trans ?_
 ·intro v hv
  rw [List.mem_singleton.1 hv]
  simpa [Value.cells] using hI
 ·simp
 ·simp [Value.cells]
theorem run_build_item (w : World) (k : Int) (b : Bool) : (Instr.build 61 #[(0, .int .i64 k), (1, .bool b)]).run Tryz.prog w = .ok (.agg (itemCells ⟨k, b, zeros16⟩).toArray) w := run_build _ _ _ _ (by kernel_rfl)
theorem item_block (k : Int) (b : Bool) {c : List Nat} (hc : c.length = 16) : itemCells ⟨k, b, c⟩ = (itemCells ⟨k, b, zeros16⟩).take 2 ++ (byteCells c ++ (itemCells ⟨k, b, zeros16⟩).drop (2 + 16)) := by
 unfold itemCells
 rw [blockCells_eq c hc]
 have h0 : (blockCells zeros16).length = 16 := blockCells_len _
 have hd : List.drop (2 + 16) (Value.int .i64 k :: .bool b :: blockCells zeros16) = [] := List.drop_eq_nil_of_le (by simp [h0])
 rw [hd, List.append_nil]
 rfl
theorem pair_cells {W : World} {b off : Nat} {x y : Value} (h1 : W.cell? ⟨b, off, none⟩ = some x) (h2 : W.cell? ⟨b, off + 1, none⟩ = some y) : ∀ j v, [x, y][j]? = some v → W.cell? ⟨b, off + j, none⟩ = some v
 | 0, v, hj => by rw [Nat.add_zero, h1]; simpa using hj
 | 1, v, hj => by rw [h2]; simpa using hj
 | j + 2, v, hj => by simp at hj
structure ItSt (w : World) (bs mb sb : Nat) (lv : Value) (L : List (Int × Int)) (wb : Int → List Nat) (k : Nat) (v : Value) (wr : World) : Prop where
 kept : Kept (fun _ => False) w wr
 box : wr.heap[mb]? = some (.cells #[.pointer (some ⟨sb, 0, none⟩)] 32 (0, 0))
 crow : wr.ownsRow bs 92 2 lv L.length (entCells L)
 row : wr.ownsRow w.heap.size 61 18 v k ((itemsOf wb (L.take k)).flatMap itemCells)
set_option maxHeartbeats 8000000 in
theorem deltaItems {w : World} {A : SA} {m : Nat} {M : SM} (h : StoreAt w A M) {ra rb : Int} {la lb : List (Int × Int)} (ha : RootIs m M ra la) (hb : RootIs m M rb lb) {wb : Int → List Nat} (hB : Bytes wb) (hf : ∀ key, 0 ≤ key → key < 64 → M.find rb key = (findL lb key, 0) ∧ PageOf M (findL lb key) (wb key)) :
  Calls Tryz.prog 46 #[.agg #[.pointer (some ⟨A.sb, 0, none⟩)], .int .i64 ra, .int .i64 rb] w fun e w' => ∃ v, e = .returned (.tuple #[v, .int .i64 0]) ∧ w'.ownsRow w.heap.size 61 18 v (changesL la lb).length ((itemsOf wb (changesL la lb)).flatMap itemCells) ∧ Kept (fun _ => False) w w' := by
 obtain ⟨mb, hmb⟩ : ∃ mb, w.heap.size = mb := ⟨_, rfl⟩
 obtain ⟨w1, hw1⟩ : ∃ w1, w.alloc (.cells #[.pointer (some ⟨A.sb, 0, none⟩)] 32) = w1 := ⟨_, rfl⟩
 have k1 : Kept (fun _ => False) w w1 := by rw [← hw1]; exact (Kept.refl _ _).alloc _
 have q1 : w1.heap[mb]? = some (.cells #[.pointer (some ⟨A.sb, 0, none⟩)] 32 (0, 0)) := by rw [← hw1, ← hmb]; exact heap_alloc_new _ _
 have hC := diffChanges (h.fresh k1) ha hb
 have hCk := fun c (hc : c ∈ changesL la lb) => changesL_keys hc
 have hCl : (changesL la lb).length ≤ 64 := by
  unfold changesL
  have := List.length_filterMap_le (fun (k : Nat) => if findL la (k : Int) = findL lb (k : Int) then none else some ((k : Int), findL lb (k : Int))) (List.range 64)
  rw [List.length_range] at this
  exact this
 obtain ⟨L, hL⟩ : ∃ L, changesL la lb = L := ⟨_, rfl⟩
 rw [hL] at hC hCk hCl ⊢
 have hC' := h_ hC
 have hCk' := h_ hCk
 have ld1 := h_ (ptr_load q1)
 have k1' := h_ k1
 have q1' := h_ q1
 have hw1' := h_ hw1
 have hmb' := h_ hmb
 have h' := h_ h
 have hB' := h_ hB
 have hf' := h_ hf
 have hwf := h_ (hb.wf h)
 clear hC hCk k1 q1 hw1 hmb h hB hf ha hb hL
 go_enter Tryz.func46, Tryz.ntmps46
 go_wp2_with (first | (refine wpList_box_named 32 rfl rfl _ rfl hw1'.out ?_; rw [hmb'.out]) | (refine wpList_load_agg 30 rfl rfl rfl _ Tryz.underlying30 rfl [.pointer (some ⟨A.sb, 0, none⟩)] (by kernel_rfl) ld1.out ?_))
 refine hC'.out.mono ?_
 rintro e w2 ⟨lv, rfl, hown2, hk2⟩
 have hE2 : EntsAt w2 lv L := SliceAt.of_owns hown2
 obtain ⟨Al, cl, rfl, hl1, hl2⟩ := EntsAt.form hE2
 unfold maxLen at hl2
 have I2 : Hid (ItSt w w1.heap.size mb A.sb (.slice Al L.length cl) L wb 0 (.slice none 0 0) w2) := h_ ⟨k1'.out.trans hk2, hk2.get q1'.out id, hown2, ⟨rfl, .inl ⟨rfl, rfl⟩⟩⟩
 have hmw : Hid (w.heap.size ≤ mb) := h_ (by rw [hmb'.out]; exact Nat.le_refl _)
 clear hown2 hk2 hE2
 go_wp2_with fail
 go_loopw [10, 27] (fun v i wr => ∃ (k : Nat), k ≤ L.length ∧ i = .int .i64 k ∧ Hid (ItSt w w1.heap.size mb A.sb (.slice Al L.length cl) L wb k v wr)) (fun _ i _ => L.length - (intOf i).toNat)
 case atStart => exact ⟨0, Nat.zero_le _, rfl, I2⟩
 case round =>
  obtain ⟨k, hk, rfl, hI⟩ := hrel
  obtain ⟨_, Av, cv, rfl, hv1, hv2, _⟩ := SliceAt.of_owns hI.out.row
  unfold maxLen at hv2
  by_cases hlt : k < L.length
  ·obtain ⟨c, hc⟩ : ∃ c, L[k]? = some c := ⟨_, List.getElem?_eq_getElem hlt⟩
   obtain ⟨eb, eo, rfl, heb, hc1, hc2⟩ := EntsAt.get (show EntsAt wr _ L from SliceAt.of_owns hI.out.crow) hc
   have hkeys := hCk'.out c (List.mem_of_getElem? hc)
   have htk := itemsOf_take wb hc
   obtain ⟨ck, cp⟩ := c
   dsimp only at hc1 hc2 hkeys htk
   have hki : (k : Int) < (L.length : Int) := by omega
   have hlo := h_ (pair_cells hc1 hc2)
   obtain ⟨hb, hhb⟩ : ∃ hb, decide (cp ≠ -1) = hb := ⟨_, rfl⟩
   rw [hhb] at htk
   obtain ⟨J, hJ⟩ : ∃ J, itemCells ⟨ck, hb, zeros16⟩ = J := ⟨_, rfl⟩
   obtain ⟨C, hCc⟩ : ∃ C, byteCells (wb ck) = C := ⟨_, rfl⟩
   obtain ⟨K, hK⟩ : ∃ K, itemCells ⟨ck, hb, wb ck⟩ = K := ⟨_, rfl⟩
   obtain ⟨Z, hZ⟩ : ∃ Z, itemCells .zero = Z := ⟨_, rfl⟩
   have hJl : Hid (J.length = 18) := h_ (by rw [← hJ]; exact itemCells_len _)
   have hJ1 : Hid (∀ v ∈ J, v.oneCell' = true) := h_ (by rw [← hJ]; exact itemCells_one _)
   have hKl : Hid (K.length = 18) := h_ (by rw [← hK]; exact itemCells_len _)
   have hK1 : Hid (∀ v ∈ K, v.oneCell' = true) := h_ (by rw [← hK]; exact itemCells_one _)
   have hCcl : Hid (C.length = 16) := h_ (by rw [← hCc, byteCells_len]; exact hB'.out.len _)
   have hCc1 : Hid (∀ v ∈ C, v.oneCell' = true) := h_ (by rw [← hCc]; exact byteCells_one _)
   have hZz : Hid ((Tryz.prog.info? 61).map (·.zero) = some (some (.agg Z.toArray))) := h_ (by rw [← hZ]; exact item_zero)
   have hZl : Hid (Z.length = 18) := h_ (by rw [← hZ]; exact itemCells_len _)
   have hbi : Hid (∀ w, (Instr.build 61 #[(0, .int .i64 ck), (1, .bool hb)]).run Tryz.prog w = .ok (.agg J.toArray) w) := h_ (fun w => by rw [← hJ]; exact run_build_item w ck hb)
   have hKJ : Hid (J.take 2 ++ (C ++ J.drop (2 + 16)) = K) := h_ (by rw [← hK, item_block ck hb (hB'.out.len _), hJ, hCc])
   rw [hK] at htk
   obtain ⟨cb, hcb⟩ : ∃ cb, wr.heap.size = cb := ⟨_, rfl⟩
   obtain ⟨w3, hw3⟩ : ∃ w3, (wr.alloc (.cells #[.int .i64 0, .int .i64 0] 92)).setRow cb #[.int .i64 ck, .int .i64 cp] = w3 := ⟨_, rfl⟩
   have k3 : Kept (fun _ => False) wr w3 := by rw [← hw3]; exact ((Kept.refl _ _).alloc _).setRowNew (by omega) _
   have q3 : w3.heap[cb]? = some (.cells #[.int .i64 ck, .int .i64 cp] 92 (0, 0)) := by rw [← hw3, ← hcb]; exact setRow_heap _ _ _ _ _ _ (heap_alloc_new _ _)
   obtain ⟨ib, hib⟩ : ∃ ib, w3.heap.size = ib := ⟨_, rfl⟩
   obtain ⟨w4, hw4⟩ : ∃ w4, (w3.alloc (.cells Z.toArray 61)).setRow ib J.toArray = w4 := ⟨_, rfl⟩
   have k4 : Kept (fun _ => False) w3 w4 := by rw [← hw4]; exact ((Kept.refl _ _).alloc _).setRowNew (by omega) _
   have q4 : w4.heap[ib]? = some (.cells J.toArray 61 (0, 0)) := by rw [← hw4, ← hib]; exact setRow_heap _ _ _ _ _ _ (heap_alloc_new _ _)
   have c30 : w3.cell? ⟨cb, 0, none⟩ = some (.int .i64 ck) := by rw [cell_of_heap q3]; rfl
   have c31 : w3.cell? ⟨cb, 1, none⟩ = some (.int .i64 cp) := by rw [cell_of_heap q3]; rfl
   have c40 : w4.cell? ⟨cb, 0, none⟩ = some (.int .i64 ck) := k4.cell c30 id
   have k34 := h_ (k3.trans k4)
   have ld4 := h_ (ptr_load (k34.out.get hI.out.box id))
   have q4' := h_ q4
   have hfk := hf'.out ck hkeys.1 hkeys.2
   have hRd := imageRead ((h'.out.fresh hI.out.kept).fresh k34.out) rb hkeys.1 hkeys.2 hfk.1 hfk.2
   rw [hCc] at hRd
   have hRd' := h_ hRd
   have hw3' := h_ hw3
   have hw4' := h_ hw4
   have hcb' := h_ hcb
   have hib' := h_ hib
   have htk' := h_ htk
   have hibn : Hid (wr.heap.size ≤ ib) := h_ (by have := k3.size; omega)
   have hibw : Hid (w.heap.size ≤ ib) := h_ (by have := hI.out.kept.size; have := k3.size; omega)
   have hlen : k + 1 ≤ 64 := by omega
   clear hc hc1 hc2 heb hkeys htk hJ hCc hK hZ hw3 hcb k3 q3 hw4 hib k4 q4 hfk hRd
   have hsp : (cp = -1 ∧ hb = false) ∨ (cp ≠ -1 ∧ hb = true) := by
    by_cases e : cp = -1
    ·exact .inl ⟨e, by rw [← hhb, e]; rfl⟩
    ·exact .inr ⟨e, by rw [← hhb]; exact decide_eq_true e⟩
   clear hhb
   rcases hsp with ⟨rfl, rfl⟩ | ⟨hne, rfl⟩
   ·go_wp2_with (first | (refine wpList_load_agg 92 rfl rfl rfl _ Tryz.underlying92 rfl [.int .i64 ck, .int .i64 (-1)] chg_size hlo.out ?_) | (refine wpList_alloc_as 92 rfl rfl #[.int .i64 0, .int .i64 0] chg_zero ?_; rw [hcb'.out]) | (refine wpList_store_whole 92 rfl rfl rfl [.int .i64 ck, .int .i64 (-1)] rfl chg_size 92 #[.int .i64 0, .int .i64 0] (by rw [← hcb'.out]; exact heap_alloc_new _ _) rfl (by intro c hc; simp at hc; rcases hc with rfl | rfl <;> rfl) ?_; rw [hw3'.out]) | (refine wpList_exec rfl (exec_build 61 #[(0, .tmp 32), (1, .tmp 35)] _ rfl (by simp [Act.eval, Act.put]) (hbi.out _)) ?_) | (refine wpList_alloc_as 61 rfl rfl Z.toArray hZz.out ?_; rw [hib'.out]) | (refine wpList_store_whole 61 rfl rfl rfl J rfl (by rw [hJl.out]; exact item_size) 61 Z.toArray (by rw [← hib'.out]; exact heap_alloc_new _ _) (by simp [hZl.out, hJl.out]) hJ1.out ?_; rw [hw4'.out]) | (refine wpList_load_agg 32 rfl rfl rfl _ Tryz.underlying32 rfl [.pointer (some ⟨A.sb, 0, none⟩)] (by kernel_rfl) ld4.out ?_))
    refine hRd'.out.mono ?_
    rintro e w5 ⟨rfl, k5⟩
    have q5 := h_ (k5.get q4'.out id)
    obtain ⟨w6, hw6⟩ : ∃ w6, w5.setRow ib K.toArray = w6 := ⟨_, rfl⟩
    have q6 : w6.heap[ib]? = some (.cells K.toArray 61 (0, 0)) := by rw [← hw6]; exact setRow_heap _ _ _ _ _ _ q5.out
    have hl6 : Hid (∀ j v, K[j]? = some v → w6.cell? ⟨ib, 0 + j, none⟩ = some v) := h_ (fun j v hj => by rw [Nat.zero_add, cell_of_heap q6]; simpa using hj)
    have kS := Kept.setRow (S := fun i => i = ib) (Kept.refl _ w5) rfl K.toArray
    rw [hw6] at kS
    have k35 := k34.out.trans k5
    have S5k := hI.out.kept.trans k35
    have S6 : Hid (ItSt w w1.heap.size mb A.sb (.slice (some ⟨eb, eo, none⟩) L.length cl) L wb k (.slice Av k cv) w6) := h_ (by
     have hlt1 := lt_of_heap hI.out.box
     have hcbs := hcb'.out
     have hib1 := k34.out.size
     have hnew : wr.heap.size ≤ ib := hibn.out
     refine ⟨S5k.trans_new kS (fun i hi e => by have := hibw.out; omega), kS.get (k35.get hI.out.box id) (by omega), ownsRow.keptOf (ownsRow.keptOf hI.out.crow k35 (fun _ _ => id)) kS (fun b hb e => by have := (hI.out.crow.lt b hb).2; omega), ownsRow.keptOf (ownsRow.keptOf hI.out.row k35 (fun _ _ => id)) kS (fun b hb e => by have := (hI.out.row.lt b hb).2; omega)⟩)
    obtain ⟨w7, hw7⟩ : ∃ w7, w6.alloc (.cells K.toArray 61) = w7 := ⟨_, rfl⟩
    have k7 : Kept (fun _ => False) w6 w7 := by rw [← hw7]; exact (Kept.refl _ _).alloc _
    have hsl7 : Hid (SliceAt w7 (.slice (some ⟨w6.heap.size, 0, none⟩) 1 1) 18 1 K) := h_ (SliceAt.block_new (by rw [← hw7]; exact heap_alloc_new _ _) (by rw [hKl.out]) (by decide))
    have R7 := h_ (ownsRow.keptOf S6.out.row k7 (fun _ _ => id))
    have s7 : Hid (w.heap.size ≤ w7.heap.size) := h_ (S6.out.kept.trans k7).size
    have k7' := h_ k7
    have hw6' := h_ hw6
    have hw7' := h_ hw7
    clear k5 hw6 q6 kS k35 S5k k7 hw7
    go_wp2_with (first | (refine wpList_store_agg 35 rfl rfl (g := ib) (off := 2) (by rfl) C rfl (by rw [hCcl.out]; exact block_size) 61 J.toArray q5.out (by simp [hJl.out, hCcl.out]) hCc1.out ?_; rw [hCcl.out]; simp only [List.append_assoc]; rw [hKJ.out, hw6'.out]) | (refine wpList_load_agg 61 rfl rfl rfl _ Tryz.underlying61 rfl K (by rw [hKl.out]; exact item_size) hl6.out ?_) | (refine wpList_exec rfl (exec_buildSlice 63 1 #[(0, .tmp 50)] #[(0, .agg K.toArray)] rfl (by simp [Act.eval, Act.put]) (run_buildSlice_item _ hKl.out)) ?_; rw [hw7'.out]) | (at_builtin; refine wpList_append_src rfl elemItem (.tmp 49) (.tmp 51) rfl (by rfl) (by rfl) R7.out hsl7.out hK1.out (by omega) (by omega) s7.out ?_; intro v8 w8 hown8 hg8 hat8))
    have fin : Hid (ItSt w w1.heap.size mb A.sb (.slice (some ⟨eb, eo, none⟩) L.length cl) L wb (k + 1) v8 w8) := h_ (by
     have kg := Kept.of_grown hg8
     have kk := k7'.out
     have hrl := R7.out.lt
     refine ⟨(S6.out.kept.trans kk).trans_new kg (fun i hi e => by have := (hrl i e).1; omega), kg.get (kk.get S6.out.box id) (fun e => ?_), ownsRow.keptOf (ownsRow.keptOf S6.out.crow kk (fun _ _ => id)) kg (fun b hb e => ?_), by rw [htk'.out]; exact hown8⟩
     ·have h1 := row_ne_type R7.out (kk.get S6.out.box id) (by decide)
      exact h1 e
     ·exact row_ne_row R7.out (ownsRow.keptOf S6.out.crow kk (fun _ _ => id)) (by decide) e hb)
    clear hown8 hg8 hat8
    go_wp2_with fail
    go_roundw
    case rel => exact ⟨k + 1, by omega, by go_num, fin⟩
    case measure => simp [intOf] <;> omega
   ·have hrb : (cp == -1) = false := by rw [beq_eq_false_iff_ne]; exact hne
    have hrc : (cp != -1) = true := by simp [bne, hrb]
    have hrd : decide (cp = -1) = false := decide_eq_false hne
    have hre : (!(cp == -1)) = true := by rw [hrb]; rfl
    clear hne
    go_wp2_with (first | (refine wpList_load_agg 92 rfl rfl rfl _ Tryz.underlying92 rfl [.int .i64 ck, .int .i64 cp] chg_size hlo.out ?_) | (refine wpList_alloc_as 92 rfl rfl #[.int .i64 0, .int .i64 0] chg_zero ?_; rw [hcb'.out]) | (refine wpList_store_whole 92 rfl rfl rfl [.int .i64 ck, .int .i64 cp] rfl chg_size 92 #[.int .i64 0, .int .i64 0] (by rw [← hcb'.out]; exact heap_alloc_new _ _) rfl (by intro c hc; simp at hc; rcases hc with rfl | rfl <;> rfl) ?_; rw [hw3'.out]) | (refine wpList_exec rfl (exec_build 61 #[(0, .tmp 32), (1, .tmp 35)] _ rfl (by simp [Act.eval, Act.put]) (hbi.out _)) ?_) | (refine wpList_alloc_as 61 rfl rfl Z.toArray hZz.out ?_; rw [hib'.out]) | (refine wpList_store_whole 61 rfl rfl rfl J rfl (by rw [hJl.out]; exact item_size) 61 Z.toArray (by rw [← hib'.out]; exact heap_alloc_new _ _) (by simp [hZl.out, hJl.out]) hJ1.out ?_; rw [hw4'.out]) | (refine wpList_load_agg 32 rfl rfl rfl _ Tryz.underlying32 rfl [.pointer (some ⟨A.sb, 0, none⟩)] (by kernel_rfl) ld4.out ?_))
    refine hRd'.out.mono ?_
    rintro e w5 ⟨rfl, k5⟩
    have q5 := h_ (k5.get q4'.out id)
    obtain ⟨w6, hw6⟩ : ∃ w6, w5.setRow ib K.toArray = w6 := ⟨_, rfl⟩
    have q6 : w6.heap[ib]? = some (.cells K.toArray 61 (0, 0)) := by rw [← hw6]; exact setRow_heap _ _ _ _ _ _ q5.out
    have hl6 : Hid (∀ j v, K[j]? = some v → w6.cell? ⟨ib, 0 + j, none⟩ = some v) := h_ (fun j v hj => by rw [Nat.zero_add, cell_of_heap q6]; simpa using hj)
    have kS := Kept.setRow (S := fun i => i = ib) (Kept.refl _ w5) rfl K.toArray
    rw [hw6] at kS
    have k35 := k34.out.trans k5
    have S5k := hI.out.kept.trans k35
    have S6 : Hid (ItSt w w1.heap.size mb A.sb (.slice (some ⟨eb, eo, none⟩) L.length cl) L wb k (.slice Av k cv) w6) := h_ (by
     have hlt1 := lt_of_heap hI.out.box
     have hcbs := hcb'.out
     have hib1 := k34.out.size
     have hnew : wr.heap.size ≤ ib := hibn.out
     refine ⟨S5k.trans_new kS (fun i hi e => by have := hibw.out; omega), kS.get (k35.get hI.out.box id) (by omega), ownsRow.keptOf (ownsRow.keptOf hI.out.crow k35 (fun _ _ => id)) kS (fun b hb e => by have := (hI.out.crow.lt b hb).2; omega), ownsRow.keptOf (ownsRow.keptOf hI.out.row k35 (fun _ _ => id)) kS (fun b hb e => by have := (hI.out.row.lt b hb).2; omega)⟩)
    obtain ⟨w7, hw7⟩ : ∃ w7, w6.alloc (.cells K.toArray 61) = w7 := ⟨_, rfl⟩
    have k7 : Kept (fun _ => False) w6 w7 := by rw [← hw7]; exact (Kept.refl _ _).alloc _
    have hsl7 : Hid (SliceAt w7 (.slice (some ⟨w6.heap.size, 0, none⟩) 1 1) 18 1 K) := h_ (SliceAt.block_new (by rw [← hw7]; exact heap_alloc_new _ _) (by rw [hKl.out]) (by decide))
    have R7 := h_ (ownsRow.keptOf S6.out.row k7 (fun _ _ => id))
    have s7 : Hid (w.heap.size ≤ w7.heap.size) := h_ (S6.out.kept.trans k7).size
    have k7' := h_ k7
    have hw6' := h_ hw6
    have hw7' := h_ hw7
    clear k5 hw6 q6 kS k35 S5k k7 hw7
    go_wp2_with (first | (refine wpList_store_agg 35 rfl rfl (g := ib) (off := 2) (by rfl) C rfl (by rw [hCcl.out]; exact block_size) 61 J.toArray q5.out (by simp [hJl.out, hCcl.out]) hCc1.out ?_; rw [hCcl.out]; simp only [List.append_assoc]; rw [hKJ.out, hw6'.out]) | (refine wpList_load_agg 61 rfl rfl rfl _ Tryz.underlying61 rfl K (by rw [hKl.out]; exact item_size) hl6.out ?_) | (refine wpList_exec rfl (exec_buildSlice 63 1 #[(0, .tmp 50)] #[(0, .agg K.toArray)] rfl (by simp [Act.eval, Act.put]) (run_buildSlice_item _ hKl.out)) ?_; rw [hw7'.out]) | (at_builtin; refine wpList_append_src rfl elemItem (.tmp 49) (.tmp 51) rfl (by rfl) (by rfl) R7.out hsl7.out hK1.out (by omega) (by omega) s7.out ?_; intro v8 w8 hown8 hg8 hat8))
    have fin : Hid (ItSt w w1.heap.size mb A.sb (.slice (some ⟨eb, eo, none⟩) L.length cl) L wb (k + 1) v8 w8) := h_ (by
     have kg := Kept.of_grown hg8
     have kk := k7'.out
     have hrl := R7.out.lt
     refine ⟨(S6.out.kept.trans kk).trans_new kg (fun i hi e => by have := (hrl i e).1; omega), kg.get (kk.get S6.out.box id) (fun e => ?_), ownsRow.keptOf (ownsRow.keptOf S6.out.crow kk (fun _ _ => id)) kg (fun b hb e => ?_), by rw [htk'.out]; exact hown8⟩
     ·have h1 := row_ne_type R7.out (kk.get S6.out.box id) (by decide)
      exact h1 e
     ·exact row_ne_row R7.out (ownsRow.keptOf S6.out.crow kk (fun _ _ => id)) (by decide) e hb)
    clear hown8 hg8 hat8
    go_wp2_with fail
    go_roundw
    case rel => exact ⟨k + 1, by omega, by go_num, fin⟩
    case measure => simp [intOf] <;> omega
  ·have hkk : k = L.length := by omega
   subst hkk
   have hki : ¬ ((L.length : Int) < (L.length : Int)) := by omega
   have hS := hI.out
   have hrow := hS.row
   rw [List.take_length] at hrow
   have fin := h_ (And.intro hrow hS.kept)
   clear hI hS hrow
   go_wp2_with fail
   go_ret2
   first | exact ⟨rfl, fin.out.1, fin.out.2⟩ | exact ⟨_, rfl, fin.out.1, fin.out.2⟩
end Go.Proofs.YtidlchciehdefaaGreat
