/-
 What pages of the pool hold (package leaf): reading nodes with entries.
-/
import Derived.Test.YtdcnogjbmdhgaaaK14
import Derived.IntWalk
set_option linter.unusedVariables false
set_option linter.unusedSimpArgs false
namespace Go.Proofs.Ytdcnogjbmdhgaaa
open Go.RowKit
set_option maxRecDepth 100000

def entsN (es : List (Nat × Nat)) : List (Int × Int) := es.map fun e => ((e.1 : Int), (e.2 : Int))
def bytesN (es : List (Nat × Nat)) : List Nat := es.flatMap fun e => [e.1, e.2]
theorem bytesN_drop (es : List (Nat × Nat)) (j : Nat) (e : Nat × Nat) (h : es[j]? = some e) (rest : List Nat) : bytesN (es.drop j) ++ rest = e.1 :: e.2 :: (bytesN (es.drop (j + 1)) ++ rest) := by
 have : es.drop j = e :: es.drop (j + 1) := by
  obtain ⟨hj, he⟩ := List.getElem?_eq_some_iff.1 h
  rw [← he]
  exact List.drop_eq_getElem_cons hj
 rw [this]; rfl
theorem entsN_take (es : List (Nat × Nat)) (j : Nat) (e : Nat × Nat) (h : es[j]? = some e) : entsN (es.take (j + 1)) = entsN (es.take j) ++ [((e.1 : Int), (e.2 : Int))] := by
 unfold entsN
 rw [List.take_add_one, h]; simp

set_option maxHeartbeats 2000000 in
theorem read_ents {w : World} {B b k m : Nat} {es : List (Nat × Nat)} {rest : List Nat} (h : ReaderAt B w b (k :: m :: (bytesN es ++ rest))) (hk : k ≠ 1) (hes : es.length = min m 6) (hrest : rest ≠ []) :
  Calls Try.prog 71 #[.pointer (some ⟨b, 0, none⟩)] w fun e w' => ∃ v, e = .returned (.agg (nodeCells ⟨k, zeros16, entsN es⟩ v).toArray) ∧ w'.ownsRow w.heap.size 58 2 v es.length (entCells (entsN es)) ∧ Kept (fun i => i = b) w w' := by
 have hB := h.le
 obtain ⟨_, _, _, _, hbl, _, _, hbB⟩ := h.head
 have hk256 := hbl.lt k (by simp)
 have hm256 := hbl.lt m (by simp)
 clear hbl
 obtain ⟨Z, hZ⟩ : ∃ Z, nodeCells ⟨0, zeros16, []⟩ (.slice none 0 0) = Z := ⟨_, rfl⟩
 obtain ⟨N, hN⟩ : ∃ N, nodeCells ⟨k, zeros16, []⟩ (.slice none 0 0) = N := ⟨_, rfl⟩
 obtain ⟨w1, hw1⟩ : ∃ w1, w.alloc (.cells Z.toArray 71) = w1 := ⟨_, rfl⟩
 have k1 : Kept (fun _ => False) w w1 := by rw [← hw1]; exact (Kept.refl _ _).alloc _
 have s1 : w1.heap.size = w.heap.size + 1 := by rw [← hw1]; simp
 have hd1 : w1.heap[w.heap.size]? = some (.cells Z.toArray 71 (0, 0)) := by rw [← hw1]; exact heap_alloc_new _ _
 have hn1 := h_ (readerNum (h.kept k1 (fun _ _ => id)) (by simp))
 have hZz : Hid ((Try.prog.info? 71).map (·.zero) = some (some (.agg Z.toArray))) := h_ (by rw [← hZ]; exact node_zero)
 have hZl : Hid (Z.length = 18) := h_ (by rw [← hZ]; exact nodeCells_len _ _)
 have hNl : Hid (N.length = 18) := h_ (by rw [← hN]; exact nodeCells_len _ _)
 have hN1 : Hid (∀ v ∈ N, v.oneCell' = true) := h_ (by rw [← hN]; exact nodeCells_one _ _ _ _)
 have hbuild : Hid (∀ w, (Instr.build 71 #[(0, .int .i64 k)]).run Try.prog w = .ok (.agg N.toArray) w) := h_ (fun w => by rw [← hN]; exact run_build_node w k)
 have hst : Hid (∀ W, Kept (fun i => i = b) w1 W → ReaderAt B W b (m :: (bytesN es ++ rest)) → ReadSt w B b W.heap.size w.heap.size k ((W.alloc (.cells Z.toArray 71)).setRow W.heap.size N.toArray) [] (.slice none 0 0) (m :: (bytesN es ++ rest))) := h_ (fun W hkW hrd => by
  have kA : Kept (fun _ => False) W ((W.alloc (.cells Z.toArray 71)).setRow W.heap.size N.toArray) := ((Kept.refl _ _).alloc _).setRowNew (Nat.le_refl _) _
  have hsz := hkW.size
  refine ⟨hrd.kept kA (fun _ _ => id), ⟨by rw [hN]; exact setRow_heap _ _ _ _ _ _ (heap_alloc_new _ _)⟩, ?_, World.ownsRow_nil _ _ _ _, ((k1.mono (fun _ => False.elim)).trans hkW).trans (kA.mono (fun _ => False.elim)), hB, hbB, Nat.le_refl _, by omega, by omega⟩
  rw [hZ]
  exact kA.get (hkW.get hd1 (by omega)) id)
 have hw1' := h_ hw1
 have hes' := h_ hes
 have s1' := h_ s1
 have hrest' := h_ hrest
 have hmin : min m 6 ≤ 6 := Nat.min_le_right _ _
 have hkk : ((k : Int) == 1) = false := by simp; omega
 clear hw1 k1 s1 hd1 h hZ hN
 clear hk hes hrest
 go_enter Try.func71, Try.ntmps71
 go_wp2_with (refine wpList_alloc_as 71 rfl rfl Z.toArray hZz.out ?_; rw [hw1'.out])
 refine hn1.out.mono ?_
 rintro e w2 ⟨rfl, hrd2, hk2⟩
 have hS := h_ (hst.out w2 hk2 hrd2)
 have hc0 := hS.out.box.c0
 have hn2 := h_ (readerNum hS.out.rd (by simp [hrest'.out]))
 clear hrd2 hk2
 go_wp2_with (first | (refine wpList_alloc_as 71 rfl rfl Z.toArray hZz.out ?_) | (refine wpList_exec rfl (exec_build 71 #[(0, .tmp 6)] _ rfl (by simp [Act.eval]) (hbuild.out _)) ?_) | (refine wpList_store_whole 71 rfl rfl rfl N rfl (by rw [hNl.out]; exact node_size) 71 _ (heap_alloc_new _ _) (by simp [hNl.out, hZl.out]) hN1.out ?_))
 refine hn2.out.mono ?_
 rintro e w3 ⟨rfl, hrd3, hk3⟩
 have hS2 := h_ (hS.out.step hrd3 hk3)
 clear hrd3 hk3 hn2 hS
 rcases Nat.lt_or_ge 6 m with h6 | h6
 ·have hel : es.length ≤ 6 := by rw [hes'.out]; omega
  go_wp2_with fail
  go_loopw [20] (fun i wr => ∃ j v, j ≤ es.length ∧ i = .int .u64 (j : Nat) ∧ Hid (ReadSt w B b w2.heap.size w.heap.size k wr (entsN (es.take j)) v (bytesN (es.drop j) ++ rest))) (fun i _ => es.length - (intOf i).toNat)
  case atStart => exact ⟨0, _, Nat.zero_le _, rfl, hS2⟩
  case round =>
   obtain ⟨j, v, hj, rfl, hSt⟩ := hrel
   by_cases hlt : j < es.length
   ·obtain ⟨⟨x, y⟩, he⟩ : ∃ e, es[j]? = some e := ⟨_, List.getElem?_eq_getElem hlt⟩
    have hb := bytesN_drop es j (x, y) he rest
    have hSj := hSt.out
    rw [hb] at hSj
    dsimp only at hSj
    obtain ⟨_, _, _, _, hbl, _, _, _⟩ := hSj.rd.head
    have he1 : x < 256 := hbl.lt x (by simp)
    have he2 : y < 256 := hbl.lt y (by simp)
    have hx0 : IntKind.i64.wrap (x : Int) = (x : Int) := IntWalk.i64_in _ (by omega)
    have hy0 : IntKind.i64.wrap (y : Int) = (y : Int) := IntWalk.i64_in _ (by omega)
    have htk : Hid (entsN (es.take (j + 1)) = entsN (es.take j) ++ [((x : Int), (y : Int))]) := h_ (entsN_take es j (x, y) he)
    have hR : Hid (bytesN (es.drop (j + 1)) ++ rest ≠ []) := h_ (by simp [hrest'.out])
    have hlen : Hid ((entsN (es.take j)).length = j) := h_ (by unfold entsN; rw [List.length_map, List.length_take]; omega)
    have hS := h_ (hSj.fresh ((Kept.refl (fun _ => False) wr).drew))
    have hjm : (j : Int) < (m : Int) := by have := hes'.out; omega
    have hj6 : (j : Int) < 6 := by omega
    clear hbl hSj hSt hb he hS2
    go_wp2_with fail
    refine wp_region_any (by kernel_rfl) ?_
    change wpAny _ _ _ _ _ _ _ (World.drew _)
    refine wpAny_take (i := 0) (v := .pointer (some ⟨w2.heap.size, 17, none⟩)) rfl (by kernel_rfl) (by kernel_rfl) (by kernel_rfl) (fun _ _ _ h => h) (.inl ⟨by rfl, fun w => by go_simp⟩) ?_
    simp only [Act.put, q1_, q2_, q3_, List.setIfInBounds_toArray, q5_, q6_]
    refine wpAny_take (i := 2) (v := .pointer (some ⟨b, 0, none⟩)) rfl (by kernel_rfl) (by kernel_rfl) (by kernel_rfl) (fun _ _ _ h => h) (.inl ⟨by rfl, fun w => by go_simp⟩) ?_
    simp only [Act.put, q1_, q2_, q3_, List.setIfInBounds_toArray, q5_, q6_]
    refine wpAny_take (i := 5) (v := .pointer (some ⟨b, 0, none⟩)) rfl (by kernel_rfl) (by kernel_rfl) (by kernel_rfl) (fun _ _ _ h => h) (.inl ⟨by rfl, fun w => by go_simp⟩) ?_
    simp only [Act.put, q1_, q2_, q3_, List.setIfInBounds_toArray, q5_, q6_]
    refine wpAny_ready (rs := [1, 3]) (by kernel_rfl) (by simp) ?_
    refine AllReady.cons rfl (fun K hK => ?_) ?_
    ·rw [if_pos (by rfl)]
     simp only [Go.wp_at_zero, Go.wp_at_succ]
     refine wp_exec (exec_load1 (ty := 36) (x := .tmp 22) rfl (by rfl) (fun w => by simp [Try.isAgg36]) hS.out.cell) ?_
     refine hK _ _ ?_
     clear hK K
     try simp only [Act.put, q1_, q2_, q3_, List.setIfInBounds_toArray, q5_, q6_]
     refine wpAny_ready (rs := [3]) (by kernel_rfl) (by simp) ?_
     refine AllReady.cons rfl (fun K hK => ?_) ?_
     ·rw [if_pos (by rfl)]
      simp only [Go.wp_at_zero, Go.wp_at_succ]
      go_simp
      refine (readerNum hS.out.rd (by simp)).mono ?_
      rintro e' w5 ⟨rfl, hrd5, hk5⟩
      have hS := h_ (hS.out.step hrd5 hk5)
      clear hrd5 hk5
      refine hK _ _ ?_
      clear hK K
      try simp only [Act.put, q1_, q2_, q3_, List.setIfInBounds_toArray, q5_, q6_]
      refine wpAny_take (i := 4) (v := .int .i64 x) rfl (by kernel_rfl) (by kernel_rfl) (by kernel_rfl) (fun _ _ _ h => h) (.inl ⟨by rfl, fun w => by go_simp⟩) ?_
      simp only [Act.put, q1_, q2_, q3_, List.setIfInBounds_toArray, q5_, q6_]
      refine wpAny_ready (rs := [6]) (by kernel_rfl) (by simp) ?_
      refine AllReady.cons rfl (fun K hK => ?_) ?_
      ·rw [if_pos (by rfl)]
       simp only [Go.wp_at_zero, Go.wp_at_succ]
       go_simp
       refine (readerNum hS.out.rd hR.out).mono ?_
       rintro e' w5 ⟨rfl, hrd5, hk5⟩
       have hS := h_ (hS.out.step hrd5 hk5)
       clear hrd5 hk5
       refine hK _ _ ?_
       clear hK K
       try simp only [Act.put, q1_, q2_, q3_, List.setIfInBounds_toArray, q5_, q6_]
       refine wpAny_take (i := 7) (v := .int .i64 y) rfl (by kernel_rfl) (by kernel_rfl) (by kernel_rfl) (fun _ _ _ h => h) (.inl ⟨by rfl, fun w => by go_simp⟩) ?_
       simp only [Act.put, q1_, q2_, q3_, List.setIfInBounds_toArray, q5_, q6_]
       refine wpAny_take (i := 8) (v := .agg #[.int .i64 x, .int .i64 y]) rfl (by kernel_rfl) (by kernel_rfl) (by kernel_rfl) (fun _ _ _ h => h) (.inl ⟨by rfl, fun w => by go_simp⟩) ?_
       simp only [Act.put, q1_, q2_, q3_, List.setIfInBounds_toArray, q5_, q6_]
       refine wpAny_ready (rs := [9]) (by kernel_rfl) (by simp) ?_
       refine AllReady.cons rfl (fun K hK => ?_) ?_
       ·rw [if_pos (by rfl)]
        simp only [Go.wp_at_zero, Go.wp_at_succ]
        go_simp
        have hS := h_ (hS.out.fresh ((Kept.refl _ _).alloc (.cells #[.int .i64 x, .int .i64 y] 58)))
        refine hK _ _ ?_
        clear hK K
        try simp only [Act.put, q1_, q2_, q3_, List.setIfInBounds_toArray, q5_, q6_]
        refine wpAny_ready (rs := [10]) (by kernel_rfl) (by simp) ?_
        refine AllReady.cons rfl (fun K hK => ?_) ?_
        ·rw [if_pos (by rfl)]
         simp only [Go.wp_at_zero, Go.wp_at_succ]
         refine wp_append_src elemEntry (.tmp 23) (.tmp 31) rfl (by rfl) (by rfl) hS.out.own (SliceAt.block_new (ys := [.int .i64 x, .int .i64 y]) (m := 1) (heap_alloc_new _ _) (by rfl) (by decide)) (by intro c hc; simp at hc; rcases hc with rfl | rfl <;> rfl) (by rw [hlen.out]; omega) (by omega) hS.out.kept.size ?_
         intro v1 w6 hown6 hg6 hat6
         obtain ⟨g6, cp6, cur6, rfl, hq1, hq2, hq3, hq4, hq5, hq6⟩ := owns_some hown6 (by omega)
         have hc6 : w6.cell? ⟨w2.heap.size, 17, none⟩ = some v := (Kept.of_grown hg6).cell hS.out.cell hS.out.offC.1
         have hf6 : w6.frozen? ⟨w2.heap.size, 17, none⟩ = false := free_of_heap ((Kept.of_grown hg6).get hS.out.box.heap hS.out.offC.1) 17
         have hE := h_ (hS.out.more ((x : Int), (y : Int)) hown6 hg6)
         clear hown6 hg6 hat6 hq1 hq2 hq3 hq4 hq5 hq6
         refine hK _ _ ?_
         clear hK K
         try simp only [Act.put, q1_, q2_, q3_, List.setIfInBounds_toArray, q5_, q6_]
         refine wpAny_take (i := 11) (v := .pointer (some ⟨w2.heap.size, 17, none⟩)) rfl (by kernel_rfl) (by kernel_rfl) (by kernel_rfl) (fun _ _ _ h => h) (.inl ⟨by rfl, fun w => by go_simp⟩) ?_
         simp only [Act.put, q1_, q2_, q3_, List.setIfInBounds_toArray, q5_, q6_]
         refine wpAny_ready (rs := [12]) (by kernel_rfl) (by simp) ?_
         refine AllReady.cons rfl (fun K hK => ?_) ?_
         ·rw [if_pos (by rfl)]
          simp only [Go.wp_at_zero, Go.wp_at_succ]
          go_simp
          refine hK _ _ ?_
          clear hK K
          try simp only [Act.put, q1_, q2_, q3_, List.setIfInBounds_toArray, q5_, q6_]
          refine wpAny_done (by kernel_rfl) ?_ _
          go_wp2_with fail
          go_roundw
          case rel => exact ⟨j + 1, _, by omega, by go_num, h_ (by rw [htk.out]; exact hE.out)⟩
          case measure => simp [intOf]; omega
         exact AllReady.nil
        exact AllReady.nil
       exact AllReady.nil
      exact AllReady.nil
     exact AllReady.nil
    refine AllReady.cons rfl (fun K hK => ?_) ?_
    ·rw [if_pos (by rfl)]
     simp only [Go.wp_at_zero, Go.wp_at_succ]
     go_simp
     refine (readerNum hS.out.rd (by simp)).mono ?_
     rintro e' w5 ⟨rfl, hrd5, hk5⟩
     have hS := h_ (hS.out.step hrd5 hk5)
     clear hrd5 hk5
     refine hK _ _ ?_
     clear hK K
     try simp only [Act.put, q1_, q2_, q3_, List.setIfInBounds_toArray, q5_, q6_]
     refine wpAny_take (i := 4) (v := .int .i64 x) rfl (by kernel_rfl) (by kernel_rfl) (by kernel_rfl) (fun _ _ _ h => h) (.inl ⟨by rfl, fun w => by go_simp⟩) ?_
     simp only [Act.put, q1_, q2_, q3_, List.setIfInBounds_toArray, q5_, q6_]
     refine wpAny_ready (rs := [1, 6]) (by kernel_rfl) (by simp) ?_
     refine AllReady.cons rfl (fun K hK => ?_) ?_
     ·rw [if_pos (by rfl)]
      simp only [Go.wp_at_zero, Go.wp_at_succ]
      refine wp_exec (exec_load1 (ty := 36) (x := .tmp 22) rfl (by rfl) (fun w => by simp [Try.isAgg36]) hS.out.cell) ?_
      refine hK _ _ ?_
      clear hK K
      try simp only [Act.put, q1_, q2_, q3_, List.setIfInBounds_toArray, q5_, q6_]
      refine wpAny_ready (rs := [6]) (by kernel_rfl) (by simp) ?_
      refine AllReady.cons rfl (fun K hK => ?_) ?_
      ·rw [if_pos (by rfl)]
       simp only [Go.wp_at_zero, Go.wp_at_succ]
       go_simp
       refine (readerNum hS.out.rd hR.out).mono ?_
       rintro e' w5 ⟨rfl, hrd5, hk5⟩
       have hS := h_ (hS.out.step hrd5 hk5)
       clear hrd5 hk5
       refine hK _ _ ?_
       clear hK K
       try simp only [Act.put, q1_, q2_, q3_, List.setIfInBounds_toArray, q5_, q6_]
       refine wpAny_take (i := 7) (v := .int .i64 y) rfl (by kernel_rfl) (by kernel_rfl) (by kernel_rfl) (fun _ _ _ h => h) (.inl ⟨by rfl, fun w => by go_simp⟩) ?_
       simp only [Act.put, q1_, q2_, q3_, List.setIfInBounds_toArray, q5_, q6_]
       refine wpAny_take (i := 8) (v := .agg #[.int .i64 x, .int .i64 y]) rfl (by kernel_rfl) (by kernel_rfl) (by kernel_rfl) (fun _ _ _ h => h) (.inl ⟨by rfl, fun w => by go_simp⟩) ?_
       simp only [Act.put, q1_, q2_, q3_, List.setIfInBounds_toArray, q5_, q6_]
       refine wpAny_ready (rs := [9]) (by kernel_rfl) (by simp) ?_
       refine AllReady.cons rfl (fun K hK => ?_) ?_
       ·rw [if_pos (by rfl)]
        simp only [Go.wp_at_zero, Go.wp_at_succ]
        go_simp
        have hS := h_ (hS.out.fresh ((Kept.refl _ _).alloc (.cells #[.int .i64 x, .int .i64 y] 58)))
        refine hK _ _ ?_
        clear hK K
        try simp only [Act.put, q1_, q2_, q3_, List.setIfInBounds_toArray, q5_, q6_]
        refine wpAny_ready (rs := [10]) (by kernel_rfl) (by simp) ?_
        refine AllReady.cons rfl (fun K hK => ?_) ?_
        ·rw [if_pos (by rfl)]
         simp only [Go.wp_at_zero, Go.wp_at_succ]
         refine wp_append_src elemEntry (.tmp 23) (.tmp 31) rfl (by rfl) (by rfl) hS.out.own (SliceAt.block_new (ys := [.int .i64 x, .int .i64 y]) (m := 1) (heap_alloc_new _ _) (by rfl) (by decide)) (by intro c hc; simp at hc; rcases hc with rfl | rfl <;> rfl) (by rw [hlen.out]; omega) (by omega) hS.out.kept.size ?_
         intro v1 w6 hown6 hg6 hat6
         obtain ⟨g6, cp6, cur6, rfl, hq1, hq2, hq3, hq4, hq5, hq6⟩ := owns_some hown6 (by omega)
         have hc6 : w6.cell? ⟨w2.heap.size, 17, none⟩ = some v := (Kept.of_grown hg6).cell hS.out.cell hS.out.offC.1
         have hf6 : w6.frozen? ⟨w2.heap.size, 17, none⟩ = false := free_of_heap ((Kept.of_grown hg6).get hS.out.box.heap hS.out.offC.1) 17
         have hE := h_ (hS.out.more ((x : Int), (y : Int)) hown6 hg6)
         clear hown6 hg6 hat6 hq1 hq2 hq3 hq4 hq5 hq6
         refine hK _ _ ?_
         clear hK K
         try simp only [Act.put, q1_, q2_, q3_, List.setIfInBounds_toArray, q5_, q6_]
         refine wpAny_take (i := 11) (v := .pointer (some ⟨w2.heap.size, 17, none⟩)) rfl (by kernel_rfl) (by kernel_rfl) (by kernel_rfl) (fun _ _ _ h => h) (.inl ⟨by rfl, fun w => by go_simp⟩) ?_
         simp only [Act.put, q1_, q2_, q3_, List.setIfInBounds_toArray, q5_, q6_]
         refine wpAny_ready (rs := [12]) (by kernel_rfl) (by simp) ?_
         refine AllReady.cons rfl (fun K hK => ?_) ?_
         ·rw [if_pos (by rfl)]
          simp only [Go.wp_at_zero, Go.wp_at_succ]
          go_simp
          refine hK _ _ ?_
          clear hK K
          try simp only [Act.put, q1_, q2_, q3_, List.setIfInBounds_toArray, q5_, q6_]
          refine wpAny_done (by kernel_rfl) ?_ _
          go_wp2_with fail
          go_roundw
          case rel => exact ⟨j + 1, _, by omega, by go_num, h_ (by rw [htk.out]; exact hE.out)⟩
          case measure => simp [intOf]; omega
         exact AllReady.nil
        exact AllReady.nil
       exact AllReady.nil
      exact AllReady.nil
     refine AllReady.cons rfl (fun K hK => ?_) ?_
     ·rw [if_pos (by rfl)]
      simp only [Go.wp_at_zero, Go.wp_at_succ]
      go_simp
      refine (readerNum hS.out.rd hR.out).mono ?_
      rintro e' w5 ⟨rfl, hrd5, hk5⟩
      have hS := h_ (hS.out.step hrd5 hk5)
      clear hrd5 hk5
      refine hK _ _ ?_
      clear hK K
      try simp only [Act.put, q1_, q2_, q3_, List.setIfInBounds_toArray, q5_, q6_]
      refine wpAny_take (i := 7) (v := .int .i64 y) rfl (by kernel_rfl) (by kernel_rfl) (by kernel_rfl) (fun _ _ _ h => h) (.inl ⟨by rfl, fun w => by go_simp⟩) ?_
      simp only [Act.put, q1_, q2_, q3_, List.setIfInBounds_toArray, q5_, q6_]
      refine wpAny_take (i := 8) (v := .agg #[.int .i64 x, .int .i64 y]) rfl (by kernel_rfl) (by kernel_rfl) (by kernel_rfl) (fun _ _ _ h => h) (.inl ⟨by rfl, fun w => by go_simp⟩) ?_
      simp only [Act.put, q1_, q2_, q3_, List.setIfInBounds_toArray, q5_, q6_]
      refine wpAny_ready (rs := [1, 9]) (by kernel_rfl) (by simp) ?_
      refine AllReady.cons rfl (fun K hK => ?_) ?_
      ·rw [if_pos (by rfl)]
       simp only [Go.wp_at_zero, Go.wp_at_succ]
       refine wp_exec (exec_load1 (ty := 36) (x := .tmp 22) rfl (by rfl) (fun w => by simp [Try.isAgg36]) hS.out.cell) ?_
       refine hK _ _ ?_
       clear hK K
       try simp only [Act.put, q1_, q2_, q3_, List.setIfInBounds_toArray, q5_, q6_]
       refine wpAny_ready (rs := [9]) (by kernel_rfl) (by simp) ?_
       refine AllReady.cons rfl (fun K hK => ?_) ?_
       ·rw [if_pos (by rfl)]
        simp only [Go.wp_at_zero, Go.wp_at_succ]
        go_simp
        have hS := h_ (hS.out.fresh ((Kept.refl _ _).alloc (.cells #[.int .i64 x, .int .i64 y] 58)))
        refine hK _ _ ?_
        clear hK K
        try simp only [Act.put, q1_, q2_, q3_, List.setIfInBounds_toArray, q5_, q6_]
        refine wpAny_ready (rs := [10]) (by kernel_rfl) (by simp) ?_
        refine AllReady.cons rfl (fun K hK => ?_) ?_
        ·rw [if_pos (by rfl)]
         simp only [Go.wp_at_zero, Go.wp_at_succ]
         refine wp_append_src elemEntry (.tmp 23) (.tmp 31) rfl (by rfl) (by rfl) hS.out.own (SliceAt.block_new (ys := [.int .i64 x, .int .i64 y]) (m := 1) (heap_alloc_new _ _) (by rfl) (by decide)) (by intro c hc; simp at hc; rcases hc with rfl | rfl <;> rfl) (by rw [hlen.out]; omega) (by omega) hS.out.kept.size ?_
         intro v1 w6 hown6 hg6 hat6
         obtain ⟨g6, cp6, cur6, rfl, hq1, hq2, hq3, hq4, hq5, hq6⟩ := owns_some hown6 (by omega)
         have hc6 : w6.cell? ⟨w2.heap.size, 17, none⟩ = some v := (Kept.of_grown hg6).cell hS.out.cell hS.out.offC.1
         have hf6 : w6.frozen? ⟨w2.heap.size, 17, none⟩ = false := free_of_heap ((Kept.of_grown hg6).get hS.out.box.heap hS.out.offC.1) 17
         have hE := h_ (hS.out.more ((x : Int), (y : Int)) hown6 hg6)
         clear hown6 hg6 hat6 hq1 hq2 hq3 hq4 hq5 hq6
         refine hK _ _ ?_
         clear hK K
         try simp only [Act.put, q1_, q2_, q3_, List.setIfInBounds_toArray, q5_, q6_]
         refine wpAny_take (i := 11) (v := .pointer (some ⟨w2.heap.size, 17, none⟩)) rfl (by kernel_rfl) (by kernel_rfl) (by kernel_rfl) (fun _ _ _ h => h) (.inl ⟨by rfl, fun w => by go_simp⟩) ?_
         simp only [Act.put, q1_, q2_, q3_, List.setIfInBounds_toArray, q5_, q6_]
         refine wpAny_ready (rs := [12]) (by kernel_rfl) (by simp) ?_
         refine AllReady.cons rfl (fun K hK => ?_) ?_
         ·rw [if_pos (by rfl)]
          simp only [Go.wp_at_zero, Go.wp_at_succ]
          go_simp
          refine hK _ _ ?_
          clear hK K
          try simp only [Act.put, q1_, q2_, q3_, List.setIfInBounds_toArray, q5_, q6_]
          refine wpAny_done (by kernel_rfl) ?_ _
          go_wp2_with fail
          go_roundw
          case rel => exact ⟨j + 1, _, by omega, by go_num, h_ (by rw [htk.out]; exact hE.out)⟩
          case measure => simp [intOf]; omega
         exact AllReady.nil
        exact AllReady.nil
       exact AllReady.nil
      refine AllReady.cons rfl (fun K hK => ?_) ?_
      ·rw [if_pos (by rfl)]
       simp only [Go.wp_at_zero, Go.wp_at_succ]
       go_simp
       have hS := h_ (hS.out.fresh ((Kept.refl _ _).alloc (.cells #[.int .i64 x, .int .i64 y] 58)))
       refine hK _ _ ?_
       clear hK K
       try simp only [Act.put, q1_, q2_, q3_, List.setIfInBounds_toArray, q5_, q6_]
       refine wpAny_ready (rs := [1]) (by kernel_rfl) (by simp) ?_
       refine AllReady.cons rfl (fun K hK => ?_) ?_
       ·rw [if_pos (by rfl)]
        simp only [Go.wp_at_zero, Go.wp_at_succ]
        refine wp_exec (exec_load1 (ty := 36) (x := .tmp 22) rfl (by rfl) (fun w => by simp [Try.isAgg36]) hS.out.cell) ?_
        refine hK _ _ ?_
        clear hK K
        try simp only [Act.put, q1_, q2_, q3_, List.setIfInBounds_toArray, q5_, q6_]
        refine wpAny_ready (rs := [10]) (by kernel_rfl) (by simp) ?_
        refine AllReady.cons rfl (fun K hK => ?_) ?_
        ·rw [if_pos (by rfl)]
         simp only [Go.wp_at_zero, Go.wp_at_succ]
         refine wp_append_src elemEntry (.tmp 23) (.tmp 31) rfl (by rfl) (by rfl) hS.out.own (SliceAt.block_new (ys := [.int .i64 x, .int .i64 y]) (m := 1) (heap_alloc_new _ _) (by rfl) (by decide)) (by intro c hc; simp at hc; rcases hc with rfl | rfl <;> rfl) (by rw [hlen.out]; omega) (by omega) hS.out.kept.size ?_
         intro v1 w6 hown6 hg6 hat6
         obtain ⟨g6, cp6, cur6, rfl, hq1, hq2, hq3, hq4, hq5, hq6⟩ := owns_some hown6 (by omega)
         have hc6 : w6.cell? ⟨w2.heap.size, 17, none⟩ = some v := (Kept.of_grown hg6).cell hS.out.cell hS.out.offC.1
         have hf6 : w6.frozen? ⟨w2.heap.size, 17, none⟩ = false := free_of_heap ((Kept.of_grown hg6).get hS.out.box.heap hS.out.offC.1) 17
         have hE := h_ (hS.out.more ((x : Int), (y : Int)) hown6 hg6)
         clear hown6 hg6 hat6 hq1 hq2 hq3 hq4 hq5 hq6
         refine hK _ _ ?_
         clear hK K
         try simp only [Act.put, q1_, q2_, q3_, List.setIfInBounds_toArray, q5_, q6_]
         refine wpAny_take (i := 11) (v := .pointer (some ⟨w2.heap.size, 17, none⟩)) rfl (by kernel_rfl) (by kernel_rfl) (by kernel_rfl) (fun _ _ _ h => h) (.inl ⟨by rfl, fun w => by go_simp⟩) ?_
         simp only [Act.put, q1_, q2_, q3_, List.setIfInBounds_toArray, q5_, q6_]
         refine wpAny_ready (rs := [12]) (by kernel_rfl) (by simp) ?_
         refine AllReady.cons rfl (fun K hK => ?_) ?_
         ·rw [if_pos (by rfl)]
          simp only [Go.wp_at_zero, Go.wp_at_succ]
          go_simp
          refine hK _ _ ?_
          clear hK K
          try simp only [Act.put, q1_, q2_, q3_, List.setIfInBounds_toArray, q5_, q6_]
          refine wpAny_done (by kernel_rfl) ?_ _
          go_wp2_with fail
          go_roundw
          case rel => exact ⟨j + 1, _, by omega, by go_num, h_ (by rw [htk.out]; exact hE.out)⟩
          case measure => simp [intOf]; omega
         exact AllReady.nil
        exact AllReady.nil
       exact AllReady.nil
      exact AllReady.nil
     exact AllReady.nil
    exact AllReady.nil
   ·obtain rfl : j = es.length := by omega
    have htk : Hid (entsN (es.take es.length) = entsN es) := h_ (by rw [List.take_length])
    have hle : Hid ((entsN es).length = es.length) := h_ (by simp [entsN])
    have hm6 : ¬ ((es.length : Int) < 6 ∧ (es.length : Int) < (m : Int)) := by have := hes'.out; omega
    have hm7 : Hid (¬ (es.length < 6 ∧ es.length < m)) := h_ (by have := hes'.out; omega)
    have hq1 : (6 : Int) < (m : Int) → ¬ ((es.length : Int) < 6) := fun h => by omega
    have hq2 : (m : Int) ≤ 6 → ¬ ((es.length : Int) < (m : Int)) := fun h => by omega
    have hq3 : ¬ (es.length < m ∧ m ≤ 6) := by have := hes'.out; omega
    have hrS := hSt.out
    rw [htk.out] at hrS
    have hfin := h_ hrS
    have hall := h_ hrS.box.all
    have hlenc : Hid ((nodeCells ⟨(k : Int), zeros16, entsN es⟩ v).length = 18) := h_ (nodeCells_len _ _)
    have honec : Hid (∀ u ∈ nodeCells ⟨(k : Int), zeros16, entsN es⟩ v, u.oneCell' = true) := h_ (by
     rcases hrS.own.2 with ⟨rfl, _⟩ | ⟨g, cap, cur, rfl, _⟩
     ·exact nodeCells_one _ _ _ _
     ·exact nodeCells_one _ _ _ _)
    obtain ⟨F, hF⟩ : ∃ F, nodeCells ⟨(k : Int), zeros16, entsN es⟩ v = F := ⟨_, rfl⟩
    rw [hF] at hall hlenc honec
    have hF' := h_ hF
    clear hrS hSt hF hm6 hq1 hq2 hq3
    have hlm : ¬ (es.length : Int) < 6 := by have := hm7.out; omega
    go_wp2_with (first | (refine wpList_load_agg 71 rfl rfl rfl _ Try.underlying71 rfl F (by rw [hlenc.out]; exact node_size) hall.out ?_) | (refine wpList_store_whole 71 rfl rfl rfl F rfl (by rw [hlenc.out]; exact node_size) 71 _ hfin.out.res (by rw [hlenc.out]; simp [nodeCells_len]) honec.out ?_))
    refine bodyPost_ret (results_cell_row rfl _ _ w.heap.size 71 F.toArray (0, 0) _ rfl (setRow_heap _ _ _ _ 71 (0, 0) hfin.out.res) Try.underlying71 rfl (by simp only [List.size_toArray]; rw [hlenc.out]; exact node_size)) rfl ?_
    have kS := (Kept.refl (fun i => i = w.heap.size) wr).setRow rfl F.toArray
    refine ⟨v, by rw [hF'.out], ?_, hfin.out.kept.setRowNew (Nat.le_refl _) _⟩
    have := hfin.out.own
    rw [hle.out] at this
    exact ownsRow.keptOf this kS (fun g hg e => hfin.out.offC.2 (by rw [hg, e]))
 ·have hel : es.length ≤ 6 := by rw [hes'.out]; omega
  go_wp2_with fail
  go_loopw [20] (fun i wr => ∃ j v, j ≤ es.length ∧ i = .int .u64 (j : Nat) ∧ Hid (ReadSt w B b w2.heap.size w.heap.size k wr (entsN (es.take j)) v (bytesN (es.drop j) ++ rest))) (fun i _ => es.length - (intOf i).toNat)
  case atStart => exact ⟨0, _, Nat.zero_le _, rfl, hS2⟩
  case round =>
   obtain ⟨j, v, hj, rfl, hSt⟩ := hrel
   by_cases hlt : j < es.length
   ·obtain ⟨⟨x, y⟩, he⟩ : ∃ e, es[j]? = some e := ⟨_, List.getElem?_eq_getElem hlt⟩
    have hb := bytesN_drop es j (x, y) he rest
    have hSj := hSt.out
    rw [hb] at hSj
    dsimp only at hSj
    obtain ⟨_, _, _, _, hbl, _, _, _⟩ := hSj.rd.head
    have he1 : x < 256 := hbl.lt x (by simp)
    have he2 : y < 256 := hbl.lt y (by simp)
    have hx0 : IntKind.i64.wrap (x : Int) = (x : Int) := IntWalk.i64_in _ (by omega)
    have hy0 : IntKind.i64.wrap (y : Int) = (y : Int) := IntWalk.i64_in _ (by omega)
    have htk : Hid (entsN (es.take (j + 1)) = entsN (es.take j) ++ [((x : Int), (y : Int))]) := h_ (entsN_take es j (x, y) he)
    have hR : Hid (bytesN (es.drop (j + 1)) ++ rest ≠ []) := h_ (by simp [hrest'.out])
    have hlen : Hid ((entsN (es.take j)).length = j) := h_ (by unfold entsN; rw [List.length_map, List.length_take]; omega)
    have hS := h_ (hSj.fresh ((Kept.refl (fun _ => False) wr).drew))
    have hjm : (j : Int) < (m : Int) := by have := hes'.out; omega
    have hj6 : (j : Int) < 6 := by omega
    clear hbl hSj hSt hb he hS2
    go_wp2_with fail
    refine wp_region_any (by kernel_rfl) ?_
    change wpAny _ _ _ _ _ _ _ (World.drew _)
    refine wpAny_take (i := 0) (v := .pointer (some ⟨w2.heap.size, 17, none⟩)) rfl (by kernel_rfl) (by kernel_rfl) (by kernel_rfl) (fun _ _ _ h => h) (.inl ⟨by rfl, fun w => by go_simp⟩) ?_
    simp only [Act.put, q1_, q2_, q3_, List.setIfInBounds_toArray, q5_, q6_]
    refine wpAny_take (i := 2) (v := .pointer (some ⟨b, 0, none⟩)) rfl (by kernel_rfl) (by kernel_rfl) (by kernel_rfl) (fun _ _ _ h => h) (.inl ⟨by rfl, fun w => by go_simp⟩) ?_
    simp only [Act.put, q1_, q2_, q3_, List.setIfInBounds_toArray, q5_, q6_]
    refine wpAny_take (i := 5) (v := .pointer (some ⟨b, 0, none⟩)) rfl (by kernel_rfl) (by kernel_rfl) (by kernel_rfl) (fun _ _ _ h => h) (.inl ⟨by rfl, fun w => by go_simp⟩) ?_
    simp only [Act.put, q1_, q2_, q3_, List.setIfInBounds_toArray, q5_, q6_]
    refine wpAny_ready (rs := [1, 3]) (by kernel_rfl) (by simp) ?_
    refine AllReady.cons rfl (fun K hK => ?_) ?_
    ·rw [if_pos (by rfl)]
     simp only [Go.wp_at_zero, Go.wp_at_succ]
     refine wp_exec (exec_load1 (ty := 36) (x := .tmp 22) rfl (by rfl) (fun w => by simp [Try.isAgg36]) hS.out.cell) ?_
     refine hK _ _ ?_
     clear hK K
     try simp only [Act.put, q1_, q2_, q3_, List.setIfInBounds_toArray, q5_, q6_]
     refine wpAny_ready (rs := [3]) (by kernel_rfl) (by simp) ?_
     refine AllReady.cons rfl (fun K hK => ?_) ?_
     ·rw [if_pos (by rfl)]
      simp only [Go.wp_at_zero, Go.wp_at_succ]
      go_simp
      refine (readerNum hS.out.rd (by simp)).mono ?_
      rintro e' w5 ⟨rfl, hrd5, hk5⟩
      have hS := h_ (hS.out.step hrd5 hk5)
      clear hrd5 hk5
      refine hK _ _ ?_
      clear hK K
      try simp only [Act.put, q1_, q2_, q3_, List.setIfInBounds_toArray, q5_, q6_]
      refine wpAny_take (i := 4) (v := .int .i64 x) rfl (by kernel_rfl) (by kernel_rfl) (by kernel_rfl) (fun _ _ _ h => h) (.inl ⟨by rfl, fun w => by go_simp⟩) ?_
      simp only [Act.put, q1_, q2_, q3_, List.setIfInBounds_toArray, q5_, q6_]
      refine wpAny_ready (rs := [6]) (by kernel_rfl) (by simp) ?_
      refine AllReady.cons rfl (fun K hK => ?_) ?_
      ·rw [if_pos (by rfl)]
       simp only [Go.wp_at_zero, Go.wp_at_succ]
       go_simp
       refine (readerNum hS.out.rd hR.out).mono ?_
       rintro e' w5 ⟨rfl, hrd5, hk5⟩
       have hS := h_ (hS.out.step hrd5 hk5)
       clear hrd5 hk5
       refine hK _ _ ?_
       clear hK K
       try simp only [Act.put, q1_, q2_, q3_, List.setIfInBounds_toArray, q5_, q6_]
       refine wpAny_take (i := 7) (v := .int .i64 y) rfl (by kernel_rfl) (by kernel_rfl) (by kernel_rfl) (fun _ _ _ h => h) (.inl ⟨by rfl, fun w => by go_simp⟩) ?_
       simp only [Act.put, q1_, q2_, q3_, List.setIfInBounds_toArray, q5_, q6_]
       refine wpAny_take (i := 8) (v := .agg #[.int .i64 x, .int .i64 y]) rfl (by kernel_rfl) (by kernel_rfl) (by kernel_rfl) (fun _ _ _ h => h) (.inl ⟨by rfl, fun w => by go_simp⟩) ?_
       simp only [Act.put, q1_, q2_, q3_, List.setIfInBounds_toArray, q5_, q6_]
       refine wpAny_ready (rs := [9]) (by kernel_rfl) (by simp) ?_
       refine AllReady.cons rfl (fun K hK => ?_) ?_
       ·rw [if_pos (by rfl)]
        simp only [Go.wp_at_zero, Go.wp_at_succ]
        go_simp
        have hS := h_ (hS.out.fresh ((Kept.refl _ _).alloc (.cells #[.int .i64 x, .int .i64 y] 58)))
        refine hK _ _ ?_
        clear hK K
        try simp only [Act.put, q1_, q2_, q3_, List.setIfInBounds_toArray, q5_, q6_]
        refine wpAny_ready (rs := [10]) (by kernel_rfl) (by simp) ?_
        refine AllReady.cons rfl (fun K hK => ?_) ?_
        ·rw [if_pos (by rfl)]
         simp only [Go.wp_at_zero, Go.wp_at_succ]
         refine wp_append_src elemEntry (.tmp 23) (.tmp 31) rfl (by rfl) (by rfl) hS.out.own (SliceAt.block_new (ys := [.int .i64 x, .int .i64 y]) (m := 1) (heap_alloc_new _ _) (by rfl) (by decide)) (by intro c hc; simp at hc; rcases hc with rfl | rfl <;> rfl) (by rw [hlen.out]; omega) (by omega) hS.out.kept.size ?_
         intro v1 w6 hown6 hg6 hat6
         obtain ⟨g6, cp6, cur6, rfl, hq1, hq2, hq3, hq4, hq5, hq6⟩ := owns_some hown6 (by omega)
         have hc6 : w6.cell? ⟨w2.heap.size, 17, none⟩ = some v := (Kept.of_grown hg6).cell hS.out.cell hS.out.offC.1
         have hf6 : w6.frozen? ⟨w2.heap.size, 17, none⟩ = false := free_of_heap ((Kept.of_grown hg6).get hS.out.box.heap hS.out.offC.1) 17
         have hE := h_ (hS.out.more ((x : Int), (y : Int)) hown6 hg6)
         clear hown6 hg6 hat6 hq1 hq2 hq3 hq4 hq5 hq6
         refine hK _ _ ?_
         clear hK K
         try simp only [Act.put, q1_, q2_, q3_, List.setIfInBounds_toArray, q5_, q6_]
         refine wpAny_take (i := 11) (v := .pointer (some ⟨w2.heap.size, 17, none⟩)) rfl (by kernel_rfl) (by kernel_rfl) (by kernel_rfl) (fun _ _ _ h => h) (.inl ⟨by rfl, fun w => by go_simp⟩) ?_
         simp only [Act.put, q1_, q2_, q3_, List.setIfInBounds_toArray, q5_, q6_]
         refine wpAny_ready (rs := [12]) (by kernel_rfl) (by simp) ?_
         refine AllReady.cons rfl (fun K hK => ?_) ?_
         ·rw [if_pos (by rfl)]
          simp only [Go.wp_at_zero, Go.wp_at_succ]
          go_simp
          refine hK _ _ ?_
          clear hK K
          try simp only [Act.put, q1_, q2_, q3_, List.setIfInBounds_toArray, q5_, q6_]
          refine wpAny_done (by kernel_rfl) ?_ _
          go_wp2_with fail
          go_roundw
          case rel => exact ⟨j + 1, _, by omega, by go_num, h_ (by rw [htk.out]; exact hE.out)⟩
          case measure => simp [intOf]; omega
         exact AllReady.nil
        exact AllReady.nil
       exact AllReady.nil
      exact AllReady.nil
     exact AllReady.nil
    refine AllReady.cons rfl (fun K hK => ?_) ?_
    ·rw [if_pos (by rfl)]
     simp only [Go.wp_at_zero, Go.wp_at_succ]
     go_simp
     refine (readerNum hS.out.rd (by simp)).mono ?_
     rintro e' w5 ⟨rfl, hrd5, hk5⟩
     have hS := h_ (hS.out.step hrd5 hk5)
     clear hrd5 hk5
     refine hK _ _ ?_
     clear hK K
     try simp only [Act.put, q1_, q2_, q3_, List.setIfInBounds_toArray, q5_, q6_]
     refine wpAny_take (i := 4) (v := .int .i64 x) rfl (by kernel_rfl) (by kernel_rfl) (by kernel_rfl) (fun _ _ _ h => h) (.inl ⟨by rfl, fun w => by go_simp⟩) ?_
     simp only [Act.put, q1_, q2_, q3_, List.setIfInBounds_toArray, q5_, q6_]
     refine wpAny_ready (rs := [1, 6]) (by kernel_rfl) (by simp) ?_
     refine AllReady.cons rfl (fun K hK => ?_) ?_
     ·rw [if_pos (by rfl)]
      simp only [Go.wp_at_zero, Go.wp_at_succ]
      refine wp_exec (exec_load1 (ty := 36) (x := .tmp 22) rfl (by rfl) (fun w => by simp [Try.isAgg36]) hS.out.cell) ?_
      refine hK _ _ ?_
      clear hK K
      try simp only [Act.put, q1_, q2_, q3_, List.setIfInBounds_toArray, q5_, q6_]
      refine wpAny_ready (rs := [6]) (by kernel_rfl) (by simp) ?_
      refine AllReady.cons rfl (fun K hK => ?_) ?_
      ·rw [if_pos (by rfl)]
       simp only [Go.wp_at_zero, Go.wp_at_succ]
       go_simp
       refine (readerNum hS.out.rd hR.out).mono ?_
       rintro e' w5 ⟨rfl, hrd5, hk5⟩
       have hS := h_ (hS.out.step hrd5 hk5)
       clear hrd5 hk5
       refine hK _ _ ?_
       clear hK K
       try simp only [Act.put, q1_, q2_, q3_, List.setIfInBounds_toArray, q5_, q6_]
       refine wpAny_take (i := 7) (v := .int .i64 y) rfl (by kernel_rfl) (by kernel_rfl) (by kernel_rfl) (fun _ _ _ h => h) (.inl ⟨by rfl, fun w => by go_simp⟩) ?_
       simp only [Act.put, q1_, q2_, q3_, List.setIfInBounds_toArray, q5_, q6_]
       refine wpAny_take (i := 8) (v := .agg #[.int .i64 x, .int .i64 y]) rfl (by kernel_rfl) (by kernel_rfl) (by kernel_rfl) (fun _ _ _ h => h) (.inl ⟨by rfl, fun w => by go_simp⟩) ?_
       simp only [Act.put, q1_, q2_, q3_, List.setIfInBounds_toArray, q5_, q6_]
       refine wpAny_ready (rs := [9]) (by kernel_rfl) (by simp) ?_
       refine AllReady.cons rfl (fun K hK => ?_) ?_
       ·rw [if_pos (by rfl)]
        simp only [Go.wp_at_zero, Go.wp_at_succ]
        go_simp
        have hS := h_ (hS.out.fresh ((Kept.refl _ _).alloc (.cells #[.int .i64 x, .int .i64 y] 58)))
        refine hK _ _ ?_
        clear hK K
        try simp only [Act.put, q1_, q2_, q3_, List.setIfInBounds_toArray, q5_, q6_]
        refine wpAny_ready (rs := [10]) (by kernel_rfl) (by simp) ?_
        refine AllReady.cons rfl (fun K hK => ?_) ?_
        ·rw [if_pos (by rfl)]
         simp only [Go.wp_at_zero, Go.wp_at_succ]
         refine wp_append_src elemEntry (.tmp 23) (.tmp 31) rfl (by rfl) (by rfl) hS.out.own (SliceAt.block_new (ys := [.int .i64 x, .int .i64 y]) (m := 1) (heap_alloc_new _ _) (by rfl) (by decide)) (by intro c hc; simp at hc; rcases hc with rfl | rfl <;> rfl) (by rw [hlen.out]; omega) (by omega) hS.out.kept.size ?_
         intro v1 w6 hown6 hg6 hat6
         obtain ⟨g6, cp6, cur6, rfl, hq1, hq2, hq3, hq4, hq5, hq6⟩ := owns_some hown6 (by omega)
         have hc6 : w6.cell? ⟨w2.heap.size, 17, none⟩ = some v := (Kept.of_grown hg6).cell hS.out.cell hS.out.offC.1
         have hf6 : w6.frozen? ⟨w2.heap.size, 17, none⟩ = false := free_of_heap ((Kept.of_grown hg6).get hS.out.box.heap hS.out.offC.1) 17
         have hE := h_ (hS.out.more ((x : Int), (y : Int)) hown6 hg6)
         clear hown6 hg6 hat6 hq1 hq2 hq3 hq4 hq5 hq6
         refine hK _ _ ?_
         clear hK K
         try simp only [Act.put, q1_, q2_, q3_, List.setIfInBounds_toArray, q5_, q6_]
         refine wpAny_take (i := 11) (v := .pointer (some ⟨w2.heap.size, 17, none⟩)) rfl (by kernel_rfl) (by kernel_rfl) (by kernel_rfl) (fun _ _ _ h => h) (.inl ⟨by rfl, fun w => by go_simp⟩) ?_
         simp only [Act.put, q1_, q2_, q3_, List.setIfInBounds_toArray, q5_, q6_]
         refine wpAny_ready (rs := [12]) (by kernel_rfl) (by simp) ?_
         refine AllReady.cons rfl (fun K hK => ?_) ?_
         ·rw [if_pos (by rfl)]
          simp only [Go.wp_at_zero, Go.wp_at_succ]
          go_simp
          refine hK _ _ ?_
          clear hK K
          try simp only [Act.put, q1_, q2_, q3_, List.setIfInBounds_toArray, q5_, q6_]
          refine wpAny_done (by kernel_rfl) ?_ _
          go_wp2_with fail
          go_roundw
          case rel => exact ⟨j + 1, _, by omega, by go_num, h_ (by rw [htk.out]; exact hE.out)⟩
          case measure => simp [intOf]; omega
         exact AllReady.nil
        exact AllReady.nil
       exact AllReady.nil
      exact AllReady.nil
     refine AllReady.cons rfl (fun K hK => ?_) ?_
     ·rw [if_pos (by rfl)]
      simp only [Go.wp_at_zero, Go.wp_at_succ]
      go_simp
      refine (readerNum hS.out.rd hR.out).mono ?_
      rintro e' w5 ⟨rfl, hrd5, hk5⟩
      have hS := h_ (hS.out.step hrd5 hk5)
      clear hrd5 hk5
      refine hK _ _ ?_
      clear hK K
      try simp only [Act.put, q1_, q2_, q3_, List.setIfInBounds_toArray, q5_, q6_]
      refine wpAny_take (i := 7) (v := .int .i64 y) rfl (by kernel_rfl) (by kernel_rfl) (by kernel_rfl) (fun _ _ _ h => h) (.inl ⟨by rfl, fun w => by go_simp⟩) ?_
      simp only [Act.put, q1_, q2_, q3_, List.setIfInBounds_toArray, q5_, q6_]
      refine wpAny_take (i := 8) (v := .agg #[.int .i64 x, .int .i64 y]) rfl (by kernel_rfl) (by kernel_rfl) (by kernel_rfl) (fun _ _ _ h => h) (.inl ⟨by rfl, fun w => by go_simp⟩) ?_
      simp only [Act.put, q1_, q2_, q3_, List.setIfInBounds_toArray, q5_, q6_]
      refine wpAny_ready (rs := [1, 9]) (by kernel_rfl) (by simp) ?_
      refine AllReady.cons rfl (fun K hK => ?_) ?_
      ·rw [if_pos (by rfl)]
       simp only [Go.wp_at_zero, Go.wp_at_succ]
       refine wp_exec (exec_load1 (ty := 36) (x := .tmp 22) rfl (by rfl) (fun w => by simp [Try.isAgg36]) hS.out.cell) ?_
       refine hK _ _ ?_
       clear hK K
       try simp only [Act.put, q1_, q2_, q3_, List.setIfInBounds_toArray, q5_, q6_]
       refine wpAny_ready (rs := [9]) (by kernel_rfl) (by simp) ?_
       refine AllReady.cons rfl (fun K hK => ?_) ?_
       ·rw [if_pos (by rfl)]
        simp only [Go.wp_at_zero, Go.wp_at_succ]
        go_simp
        have hS := h_ (hS.out.fresh ((Kept.refl _ _).alloc (.cells #[.int .i64 x, .int .i64 y] 58)))
        refine hK _ _ ?_
        clear hK K
        try simp only [Act.put, q1_, q2_, q3_, List.setIfInBounds_toArray, q5_, q6_]
        refine wpAny_ready (rs := [10]) (by kernel_rfl) (by simp) ?_
        refine AllReady.cons rfl (fun K hK => ?_) ?_
        ·rw [if_pos (by rfl)]
         simp only [Go.wp_at_zero, Go.wp_at_succ]
         refine wp_append_src elemEntry (.tmp 23) (.tmp 31) rfl (by rfl) (by rfl) hS.out.own (SliceAt.block_new (ys := [.int .i64 x, .int .i64 y]) (m := 1) (heap_alloc_new _ _) (by rfl) (by decide)) (by intro c hc; simp at hc; rcases hc with rfl | rfl <;> rfl) (by rw [hlen.out]; omega) (by omega) hS.out.kept.size ?_
         intro v1 w6 hown6 hg6 hat6
         obtain ⟨g6, cp6, cur6, rfl, hq1, hq2, hq3, hq4, hq5, hq6⟩ := owns_some hown6 (by omega)
         have hc6 : w6.cell? ⟨w2.heap.size, 17, none⟩ = some v := (Kept.of_grown hg6).cell hS.out.cell hS.out.offC.1
         have hf6 : w6.frozen? ⟨w2.heap.size, 17, none⟩ = false := free_of_heap ((Kept.of_grown hg6).get hS.out.box.heap hS.out.offC.1) 17
         have hE := h_ (hS.out.more ((x : Int), (y : Int)) hown6 hg6)
         clear hown6 hg6 hat6 hq1 hq2 hq3 hq4 hq5 hq6
         refine hK _ _ ?_
         clear hK K
         try simp only [Act.put, q1_, q2_, q3_, List.setIfInBounds_toArray, q5_, q6_]
         refine wpAny_take (i := 11) (v := .pointer (some ⟨w2.heap.size, 17, none⟩)) rfl (by kernel_rfl) (by kernel_rfl) (by kernel_rfl) (fun _ _ _ h => h) (.inl ⟨by rfl, fun w => by go_simp⟩) ?_
         simp only [Act.put, q1_, q2_, q3_, List.setIfInBounds_toArray, q5_, q6_]
         refine wpAny_ready (rs := [12]) (by kernel_rfl) (by simp) ?_
         refine AllReady.cons rfl (fun K hK => ?_) ?_
         ·rw [if_pos (by rfl)]
          simp only [Go.wp_at_zero, Go.wp_at_succ]
          go_simp
          refine hK _ _ ?_
          clear hK K
          try simp only [Act.put, q1_, q2_, q3_, List.setIfInBounds_toArray, q5_, q6_]
          refine wpAny_done (by kernel_rfl) ?_ _
          go_wp2_with fail
          go_roundw
          case rel => exact ⟨j + 1, _, by omega, by go_num, h_ (by rw [htk.out]; exact hE.out)⟩
          case measure => simp [intOf]; omega
         exact AllReady.nil
        exact AllReady.nil
       exact AllReady.nil
      refine AllReady.cons rfl (fun K hK => ?_) ?_
      ·rw [if_pos (by rfl)]
       simp only [Go.wp_at_zero, Go.wp_at_succ]
       go_simp
       have hS := h_ (hS.out.fresh ((Kept.refl _ _).alloc (.cells #[.int .i64 x, .int .i64 y] 58)))
       refine hK _ _ ?_
       clear hK K
       try simp only [Act.put, q1_, q2_, q3_, List.setIfInBounds_toArray, q5_, q6_]
       refine wpAny_ready (rs := [1]) (by kernel_rfl) (by simp) ?_
       refine AllReady.cons rfl (fun K hK => ?_) ?_
       ·rw [if_pos (by rfl)]
        simp only [Go.wp_at_zero, Go.wp_at_succ]
        refine wp_exec (exec_load1 (ty := 36) (x := .tmp 22) rfl (by rfl) (fun w => by simp [Try.isAgg36]) hS.out.cell) ?_
        refine hK _ _ ?_
        clear hK K
        try simp only [Act.put, q1_, q2_, q3_, List.setIfInBounds_toArray, q5_, q6_]
        refine wpAny_ready (rs := [10]) (by kernel_rfl) (by simp) ?_
        refine AllReady.cons rfl (fun K hK => ?_) ?_
        ·rw [if_pos (by rfl)]
         simp only [Go.wp_at_zero, Go.wp_at_succ]
         refine wp_append_src elemEntry (.tmp 23) (.tmp 31) rfl (by rfl) (by rfl) hS.out.own (SliceAt.block_new (ys := [.int .i64 x, .int .i64 y]) (m := 1) (heap_alloc_new _ _) (by rfl) (by decide)) (by intro c hc; simp at hc; rcases hc with rfl | rfl <;> rfl) (by rw [hlen.out]; omega) (by omega) hS.out.kept.size ?_
         intro v1 w6 hown6 hg6 hat6
         obtain ⟨g6, cp6, cur6, rfl, hq1, hq2, hq3, hq4, hq5, hq6⟩ := owns_some hown6 (by omega)
         have hc6 : w6.cell? ⟨w2.heap.size, 17, none⟩ = some v := (Kept.of_grown hg6).cell hS.out.cell hS.out.offC.1
         have hf6 : w6.frozen? ⟨w2.heap.size, 17, none⟩ = false := free_of_heap ((Kept.of_grown hg6).get hS.out.box.heap hS.out.offC.1) 17
         have hE := h_ (hS.out.more ((x : Int), (y : Int)) hown6 hg6)
         clear hown6 hg6 hat6 hq1 hq2 hq3 hq4 hq5 hq6
         refine hK _ _ ?_
         clear hK K
         try simp only [Act.put, q1_, q2_, q3_, List.setIfInBounds_toArray, q5_, q6_]
         refine wpAny_take (i := 11) (v := .pointer (some ⟨w2.heap.size, 17, none⟩)) rfl (by kernel_rfl) (by kernel_rfl) (by kernel_rfl) (fun _ _ _ h => h) (.inl ⟨by rfl, fun w => by go_simp⟩) ?_
         simp only [Act.put, q1_, q2_, q3_, List.setIfInBounds_toArray, q5_, q6_]
         refine wpAny_ready (rs := [12]) (by kernel_rfl) (by simp) ?_
         refine AllReady.cons rfl (fun K hK => ?_) ?_
         ·rw [if_pos (by rfl)]
          simp only [Go.wp_at_zero, Go.wp_at_succ]
          go_simp
          refine hK _ _ ?_
          clear hK K
          try simp only [Act.put, q1_, q2_, q3_, List.setIfInBounds_toArray, q5_, q6_]
          refine wpAny_done (by kernel_rfl) ?_ _
          go_wp2_with fail
          go_roundw
          case rel => exact ⟨j + 1, _, by omega, by go_num, h_ (by rw [htk.out]; exact hE.out)⟩
          case measure => simp [intOf]; omega
         exact AllReady.nil
        exact AllReady.nil
       exact AllReady.nil
      exact AllReady.nil
     exact AllReady.nil
    exact AllReady.nil
   ·obtain rfl : j = es.length := by omega
    have htk : Hid (entsN (es.take es.length) = entsN es) := h_ (by rw [List.take_length])
    have hle : Hid ((entsN es).length = es.length) := h_ (by simp [entsN])
    have hm6 : ¬ ((es.length : Int) < 6 ∧ (es.length : Int) < (m : Int)) := by have := hes'.out; omega
    have hm7 : Hid (¬ (es.length < 6 ∧ es.length < m)) := h_ (by have := hes'.out; omega)
    have hq1 : (6 : Int) < (m : Int) → ¬ ((es.length : Int) < 6) := fun h => by omega
    have hq2 : (m : Int) ≤ 6 → ¬ ((es.length : Int) < (m : Int)) := fun h => by omega
    have hq3 : ¬ (es.length < m ∧ m ≤ 6) := by have := hes'.out; omega
    have hrS := hSt.out
    rw [htk.out] at hrS
    have hfin := h_ hrS
    have hall := h_ hrS.box.all
    have hlenc : Hid ((nodeCells ⟨(k : Int), zeros16, entsN es⟩ v).length = 18) := h_ (nodeCells_len _ _)
    have honec : Hid (∀ u ∈ nodeCells ⟨(k : Int), zeros16, entsN es⟩ v, u.oneCell' = true) := h_ (by
     rcases hrS.own.2 with ⟨rfl, _⟩ | ⟨g, cap, cur, rfl, _⟩
     ·exact nodeCells_one _ _ _ _
     ·exact nodeCells_one _ _ _ _)
    obtain ⟨F, hF⟩ : ∃ F, nodeCells ⟨(k : Int), zeros16, entsN es⟩ v = F := ⟨_, rfl⟩
    rw [hF] at hall hlenc honec
    have hF' := h_ hF
    clear hrS hSt hF hm6 hq1 hq2 hq3
    have hlm : ¬ (es.length : Int) < (m : Int) := by have := hm7.out; omega
    go_wp2_with (first | (refine wpList_load_agg 71 rfl rfl rfl _ Try.underlying71 rfl F (by rw [hlenc.out]; exact node_size) hall.out ?_) | (refine wpList_store_whole 71 rfl rfl rfl F rfl (by rw [hlenc.out]; exact node_size) 71 _ hfin.out.res (by rw [hlenc.out]; simp [nodeCells_len]) honec.out ?_))
    refine bodyPost_ret (results_cell_row rfl _ _ w.heap.size 71 F.toArray (0, 0) _ rfl (setRow_heap _ _ _ _ 71 (0, 0) hfin.out.res) Try.underlying71 rfl (by simp only [List.size_toArray]; rw [hlenc.out]; exact node_size)) rfl ?_
    have kS := (Kept.refl (fun i => i = w.heap.size) wr).setRow rfl F.toArray
    refine ⟨v, by rw [hF'.out], ?_, hfin.out.kept.setRowNew (Nat.le_refl _) _⟩
    have := hfin.out.own
    rw [hle.out] at this
    exact ownsRow.keptOf this kS (fun g hg e => hfin.out.offC.2 (by rw [hg, e]))

theorem block_splice (blk : List Nat) (h : blk.length = 16) : splice (nodeCells ⟨1, zeros16, []⟩ (.slice none 0 0)) 1 (byteCells blk) = nodeCells ⟨1, blk, []⟩ (.slice none 0 0) := by
 unfold splice nodeCells
 rw [blockCells_eq blk h, byteCells_len, h]
 rfl

set_option maxHeartbeats 2000000 in
theorem read_data {w : World} {B b : Nat} {blk rest : List Nat} (h : ReaderAt B w b (1 :: (blk ++ rest))) (hbl : blk.length = 16) (hrest : rest ≠ []) :
  Calls Try.prog 71 #[.pointer (some ⟨b, 0, none⟩)] w fun e w' => e = .returned (.agg (nodeCells ⟨1, blk, []⟩ (.slice none 0 0)).toArray) ∧ Kept (fun i => i = b) w w' := by
 have hB := h.le
 obtain ⟨_, _, _, _, _, _, _, hbB⟩ := h.head
 obtain ⟨Z, hZ⟩ : ∃ Z, nodeCells ⟨0, zeros16, []⟩ (.slice none 0 0) = Z := ⟨_, rfl⟩
 obtain ⟨N, hN⟩ : ∃ N, nodeCells ⟨1, zeros16, []⟩ (.slice none 0 0) = N := ⟨_, rfl⟩
 obtain ⟨F, hF⟩ : ∃ F, nodeCells ⟨1, blk, []⟩ (.slice none 0 0) = F := ⟨_, rfl⟩
 obtain ⟨w1, hw1⟩ : ∃ w1, w.alloc (.cells Z.toArray 71) = w1 := ⟨_, rfl⟩
 have k1 : Kept (fun _ => False) w w1 := by rw [← hw1]; exact (Kept.refl _ _).alloc _
 have s1 : w1.heap.size = w.heap.size + 1 := by rw [← hw1]; simp
 have hd1 : w1.heap[w.heap.size]? = some (.cells Z.toArray 71 (0, 0)) := by rw [← hw1]; exact heap_alloc_new _ _
 have hn1 := h_ (readerNum (h.kept k1 (fun _ _ => id)) (by simp [hrest]))
 have hZz : Hid ((Try.prog.info? 71).map (·.zero) = some (some (.agg Z.toArray))) := h_ (by rw [← hZ]; exact node_zero)
 have hZl : Hid (Z.length = 18) := h_ (by rw [← hZ]; exact nodeCells_len _ _)
 have hNl : Hid (N.length = 18) := h_ (by rw [← hN]; exact nodeCells_len _ _)
 have hN1 : Hid (∀ v ∈ N, v.oneCell' = true) := h_ (by rw [← hN]; exact nodeCells_one _ _ _ _)
 have hFl : Hid (F.length = 18) := h_ (by rw [← hF]; exact nodeCells_len _ _)
 have hF1 : Hid (∀ v ∈ F, v.oneCell' = true) := h_ (by rw [← hF]; exact nodeCells_one _ _ _ _)
 have hbuild : Hid (∀ w, (Instr.build 71 #[(0, .int .i64 1)]).run Try.prog w = .ok (.agg N.toArray) w) := h_ (fun w => by rw [← hN]; exact run_build_node w 1)
 have hP : Hid (splice N 1 (byteCells blk) = F) := h_ (by rw [← hN, ← hF]; exact block_splice blk hbl)
 have hN0 : Hid (N[0]? = some (.int .i64 1)) := h_ (by rw [← hN]; rfl)
 have hst : Hid (∀ W, Kept (fun i => i = b) w1 W → ReaderAt B W b (blk ++ rest) →
   ReaderAt B ((W.alloc (.cells Z.toArray 71)).setRow W.heap.size N.toArray) b (blk ++ rest) ∧
   ((W.alloc (.cells Z.toArray 71)).setRow W.heap.size N.toArray).heap[W.heap.size]? = some (.cells N.toArray 71 (0, 0)) ∧
   ((W.alloc (.cells Z.toArray 71)).setRow W.heap.size N.toArray).heap[w.heap.size]? = some (.cells Z.toArray 71 (0, 0)) ∧
   Kept (fun i => i = b) w ((W.alloc (.cells Z.toArray 71)).setRow W.heap.size N.toArray) ∧ w.heap.size < W.heap.size) := h_ (fun W hkW hrd => by
  have kA : Kept (fun _ => False) W ((W.alloc (.cells Z.toArray 71)).setRow W.heap.size N.toArray) := ((Kept.refl _ _).alloc _).setRowNew (Nat.le_refl _) _
  have hsz := hkW.size
  exact ⟨hrd.kept kA (fun _ _ => id), setRow_heap _ _ _ _ _ _ (heap_alloc_new _ _), kA.get (hkW.get hd1 (by omega)) id, ((k1.mono (fun _ => False.elim)).trans hkW).trans (kA.mono (fun _ => False.elim)), by omega⟩)
 have hw1' := h_ hw1
 have s1' := h_ s1
 have hrest' := h_ hrest
 have hbl := h_ hbl
 rw [hF]
 clear hw1 k1 s1 hd1 h hZ hN hF hrest
 go_enter Try.func71, Try.ntmps71
 go_wp2_with (refine wpList_alloc_as 71 rfl rfl Z.toArray hZz.out ?_; rw [hw1'.out])
 refine hn1.out.mono ?_
 rintro e w2 ⟨rfl, hrd2, hk2⟩
 obtain ⟨hrd, hN3, hD3, hk3, hlt3⟩ := hst.out w2 hk2 hrd2
 have hc0 : ((w2.alloc (.cells Z.toArray 71)).setRow w2.heap.size N.toArray).cell? ⟨w2.heap.size, 0, none⟩ = some (.int .i64 1) := by rw [cell_of_heap hN3]; simpa using hN0.out
 have hrd := h_ hrd
 have hN3 := h_ hN3
 have hD3 := h_ hD3
 have hk3 := h_ hk3
 clear hrd2 hk2 hn1
 go_wp2_with (first | (refine wpList_alloc_as 71 rfl rfl Z.toArray hZz.out ?_) | (refine wpList_exec rfl (exec_build 71 #[(0, .tmp 6)] _ rfl (by simp [Act.eval]) (hbuild.out _)) ?_) | (refine wpList_store_whole 71 rfl rfl rfl N rfl (by rw [hNl.out]; exact node_size) 71 _ (heap_alloc_new _ _) (by simp [hNl.out, hZl.out]) hN1.out ?_))
 refine wp_region_any (by kernel_rfl) ?_
 change wpAny _ _ _ _ _ _ _ (World.drew _)
 refine wpAny_take (i := 0) (v := .pointer (some ⟨w2.heap.size, 1, none⟩)) rfl (by kernel_rfl) (by kernel_rfl) (by kernel_rfl) (fun _ _ _ h => h) (.inl ⟨by rfl, fun w => by go_simp⟩) ?_
 simp only [Act.put, q1_, q2_, q3_, List.setIfInBounds_toArray, q5_, q6_]
 refine wpAny_take (i := 1) (v := .slice (some ⟨w2.heap.size, 1, none⟩) 16 16) rfl (by kernel_rfl) (by kernel_rfl) (by kernel_rfl) (fun _ _ _ h => h) (.inl ⟨by rfl, fun w => by go_simp⟩) ?_
 simp only [Act.put, q1_, q2_, q3_, List.setIfInBounds_toArray, q5_, q6_]
 refine wpAny_take (i := 2) (v := .pointer (some ⟨b, 0, none⟩)) rfl (by kernel_rfl) (by kernel_rfl) (by kernel_rfl) (fun _ _ _ h => h) (.inl ⟨by rfl, fun w => by go_simp⟩) ?_
 simp only [Act.put, q1_, q2_, q3_, List.setIfInBounds_toArray, q5_, q6_]
 refine wpAny_ready (rs := [3]) (by kernel_rfl) (by simp) ?_
 refine AllReady.cons rfl (fun K hK => ?_) ?_
 ·rw [if_pos (by rfl)]
  simp only [Go.wp_at_zero, Go.wp_at_succ]
  go_simp
  refine (readerTake (hrd.out.kept (Kept.refl (fun _ => False) _).drew (fun _ _ => id)) 16 (by simp [hbl.out]; exact List.length_pos_iff.2 hrest'.out)).mono ?_
  rintro e' w5 ⟨u, rfl, hown5, hrd5, hk5⟩
  rw [show (blk ++ rest).take 16 = blk by rw [← hbl.out]; simp] at hown5
  obtain ⟨g5, cp5, cur5, rfl, hq1, hq2, hq3, hq4, hq5, hq6⟩ := owns_some hown5 (by omega)
  have hsrc5 := h_ (SliceAt.of_owns hown5)
  have hN5 := h_ (hk5.get hN3.out (by omega))
  have hD5 := h_ (hk5.get hD3.out (by omega))
  have hk5' := h_ (hk3.out.drew.trans hk5)
  clear hown5 hrd5 hk5 hq1 hq2 hq3 hq4 hq5 hq6
  refine hK _ _ ?_
  clear hK K
  try simp only [Act.put, q1_, q2_, q3_, List.setIfInBounds_toArray, q5_, q6_]
  refine wpAny_ready (rs := [4]) (by kernel_rfl) (by simp) ?_
  refine AllReady.cons rfl (fun K hK => ?_) ?_
  ·refine step_copy_row rfl (.tmp 12) (.tmp 14) rfl (by rfl) (by rfl) (cur := N) (cs := byteCells blk) hN5.out (by rw [byteCells_len, hbl.out]; rfl) (fun j v hj => hsrc5.out.cell0 (by simpa using hj)) (by rw [byteCells_len, hbl.out, hNl.out]; omega) (byteCells_one _) ?_
   intro w7 hh7 hk7
   refine hK _ _ ?_
   clear hK K
   try simp only [Act.put, q1_, q2_, q3_, List.setIfInBounds_toArray, q5_, q6_]
   refine wpAny_done (by kernel_rfl) ?_ _
   rw [hP.out] at hh7
   have hD7 := h_ (hk7.get hD5.out (by omega))
   have hh7' := h_ hh7
   have hk8 := h_ (hk5'.out.trans_new hk7 (fun i hi e => by omega))
   clear hh7 hk7
   go_wp2_with (first | (refine wpList_load_agg 71 rfl rfl rfl _ Try.underlying71 rfl F (by rw [hFl.out]; exact node_size) (fun j v hv => by rw [cell_of_heap hh7'.out, Nat.zero_add]; simpa using hv) ?_) | (refine wpList_store_whole 71 rfl rfl rfl F rfl (by rw [hFl.out]; exact node_size) 71 _ hD7.out (by rw [hFl.out]; simp [hZl.out]) hF1.out ?_))
   refine bodyPost_ret (results_cell_row rfl _ _ w.heap.size 71 F.toArray (0, 0) _ rfl (setRow_heap _ _ _ _ 71 (0, 0) hD7.out) Try.underlying71 rfl (by simp only [List.size_toArray]; rw [hFl.out]; exact node_size)) rfl ?_
   exact ⟨rfl, hk8.out.setRowNew (Nat.le_refl _) _⟩
  exact AllReady.nil
 exact AllReady.nil

def pageBytes (p : Nat → Nat) : List Nat := (List.range 256).map p
theorem pageBytes_len (p : Nat → Nat) : (pageBytes p).length = 256 := by simp [pageBytes]
theorem pageBytes_cells (p : Nat → Nat) : byteCells (pageBytes p) = pageCells p := by simp [byteCells, pageBytes, pageCells]
theorem exec_neq_arr {P : Program} {w : World} {o : Oper} {a : Act} {t u e : TypeId} {x y : Operand} (ho : o.op = .binOp .neq t x y u) {k : IntKind} {len : Nat} (f g : Nat → Int)
  (hx : a.eval x = .agg ((List.range len).map fun i => Value.int k (f i)).toArray) (hy : a.eval y = .agg ((List.range len).map fun i => Value.int k (g i)).toArray)
  (hm : P.eqGuardType P.depth t = false) (ht : P.underlying t = some (.array len e)) (he : P.underlying e = some (.int k)) (hi : (P.info? e).map (·.size) = some 1) :
  (execOp a.eval o).run P w = .ok (.value (.bool (!((List.range len).all fun i => f i == g i)))) w := by
 unfold execOp
 simp only [ho, hx, hy, Sem.run_bind, run_eqGuard_agg (hm := hm), Result.andThen_ok, run_neq_arr ht he hi]
 rfl
theorem exec_neq_page {o : Oper} {a : Act} {w : World} {x y : Operand} {u : TypeId} (ho : o.op = .binOp .neq 98 x y u) (p : Nat → Nat)
  (hx : a.eval x = .agg (pageCells p).toArray) (hy : a.eval y = .agg (pageCells p).toArray) :
  (execOp a.eval o).run Try.prog w = .ok (.value (.bool false)) w := by
 rw [exec_neq_arr ho (fun i => ((p i : Nat) : Int)) (fun i => ((p i : Nat) : Int)) hx hy (by kernel_rfl) Try.underlying98 Try.underlying5 (by kernel_rfl)]
 simp

theorem page_form {n : NM} (hok : n.ok) : ∃ rest, rest ≠ [] ∧ pageBytes (pageOf n) = bytesOf n ++ rest := by
 obtain ⟨h1, h2⟩ := bytesOf_lt hok
 obtain ⟨_, h3⟩ := sealOf_lt h1
 refine ⟨(pageBytes (pageOf n)).drop (bytesOf n).length, fun e => ?_, ?_⟩
 ·have := congrArg List.length e
  rw [List.length_drop, pageBytes_len] at this
  simp at this; omega
 ·have : bytesOf n = (pageBytes (pageOf n)).take (bytesOf n).length := by
   apply List.ext_getElem?
   intro i
   rw [List.getElem?_take]
   by_cases hi : i < (bytesOf n).length
   ·have hs : (sealOf (bytesOf n))[i]? = (bytesOf n)[i]? := by unfold sealOf; rw [List.getElem?_append_left hi]
    rw [if_pos hi]
    simp only [pageBytes, List.getElem?_map, List.getElem?_range (show i < 256 by omega), Option.map_some, pageOf]
    rw [List.getD_eq_getElem?_getD, hs, List.getElem?_eq_getElem hi]; rfl
   ·rw [if_neg hi, List.getElem?_eq_none (by omega)]
  conv => lhs; rw [← List.take_append_drop (bytesOf n).length (pageBytes (pageOf n))]
  rw [← this]
theorem zeros_of_all {l : List Nat} (h : l.length = 16) (h0 : l.all (· == 0) = true) : l = zeros16 := by
 apply List.ext_getElem?
 intro i
 by_cases hi : i < 16
 ·rw [List.getElem?_eq_getElem (by omega)]
  have := List.all_eq_true.1 h0 (l[i]'(by omega)) (List.getElem_mem _)
  simp only [beq_iff_eq] at this
  rw [this, zeros16, List.getElem?_replicate, if_pos hi]
 ·rw [List.getElem?_eq_none (by omega), List.getElem?_eq_none (by simp [zeros16]; omega)]
theorem read_page {w : World} {B b : Nat} {n : NM} (hok : n.ok) (h : ReaderAt B w b (pageBytes (pageOf n))) :
  Calls Try.prog 71 #[.pointer (some ⟨b, 0, none⟩)] w fun e w' => ∃ v, e = .returned (.agg (nodeCells n v).toArray) ∧ w'.ownsRow w.heap.size 58 2 v n.ents.length (entCells n.ents) ∧ Kept (fun i => i = b) w w' := by
 obtain ⟨rest, hr, hp⟩ := page_form hok
 rw [hp] at h
 have h1 := hok.1
 unfold NM.rightB at h1
 by_cases hk : n.kind = 1
 ·rw [if_pos hk] at h1
  have he : n.ents = [] := List.eq_nil_of_length_eq_zero (by simpa using h1)
  have hn : n = ⟨1, n.block, []⟩ := by cases n; simp_all
  unfold bytesOf at h
  rw [if_pos hk] at h
  refine (read_data h hok.2.1 hr).mono ?_
  rintro e w' ⟨rfl, hkk⟩
  refine ⟨.slice none 0 0, by rw [hn], ?_, hkk⟩
  rw [he]; exact World.ownsRow_nil _ _ _ _
 ·rw [if_neg hk] at h1
  by_cases hk2 : n.kind = 2 ∨ n.kind = 3
  ·rw [if_pos hk2] at h1
   simp only [Bool.and_eq_true] at h1
   have hz := zeros_of_all hok.2.1 h1.1
   have h6 : n.ents.length ≤ 6 := by have := h1.2; simp only [risesB, Bool.and_eq_true, decide_eq_true_eq] at this; exact this.2
   obtain ⟨es, hes⟩ : ∃ es, es = n.ents.map fun x => (x.1.toNat, x.2.toNat) := ⟨_, rfl⟩
   have hb : bytesN es = n.ents.flatMap fun x => [x.1.toNat, x.2.toNat] := by subst hes; simp [bytesN, List.flatMap_map]
   have hn : entsN es = n.ents := by
    subst hes
    unfold entsN
    rw [List.map_map]
    conv => rhs; rw [← List.map_id n.ents]
    refine List.map_congr_left fun x hx => ?_
    have := hok.entry hx
    simp only [Function.comp_apply, id_eq]
    rw [show ((x.1.toNat : Nat) : Int) = x.1 by omega, show ((x.2.toNat : Nat) : Int) = x.2 by omega]
   have hl : es.length = n.ents.length := by subst hes; simp
   have hkd : ((n.kind.toNat : Nat) : Int) = n.kind := by omega
   unfold bytesOf at h
   rw [if_neg hk, ← hb] at h
   refine (read_ents (k := n.kind.toNat) (m := n.ents.length) (es := es) (rest := rest) (by simpa using h) (by omega) (by omega) hr).mono ?_
   rintro e w' ⟨v, rfl, hown, hkk⟩
   rw [hn, hl] at hown
   refine ⟨v, ?_, hown, hkk⟩
   have hnn : n = ⟨n.kind, zeros16, n.ents⟩ := by cases n; simp_all
   rw [hn, hkd]
   conv => rhs; rw [hnn]
  ·rw [if_neg hk2] at h1; cases h1
theorem read_zero {w : World} {B b : Nat} (h : ReaderAt B w b (pageBytes zeroPage)) :
  Calls Try.prog 71 #[.pointer (some ⟨b, 0, none⟩)] w fun e w' => ∃ v, e = .returned (.agg (nodeCells NM.zero v).toArray) ∧ w'.ownsRow w.heap.size 58 2 v 0 [] ∧ Kept (fun i => i = b) w w' := by
 have hp : pageBytes zeroPage = 0 :: 0 :: (bytesN [] ++ List.replicate 254 0) := by kernel_rfl
 rw [hp] at h
 refine (read_ents (k := 0) (m := 0) (es := []) (rest := List.replicate 254 0) h (by omega) (by simp) (by simp)).mono ?_
 rintro e w' ⟨v, rfl, hown, hkk⟩
 exact ⟨v, rfl, hown, hkk⟩

theorem wpList_exec_g {P : Program} {ops : Array Oper} {rest : List Oper} {o : Oper} {a : Act} {Q : Exit → Act → World → Prop} {w w' : World} {v : Value} (hw : Region.wanted o (yielded ops a.tmps) = true) (he : (execOp a.eval o).run P w = .ok (.value v) w')
  (h : wpList P ops Q rest (a.put o.dst v) w') : wpList P ops Q (o :: rest) a w :=
 wpList_step fun K hK => by rw [if_pos hw]; exact wp_exec he (hK _ _ h)

theorem owns_weaken {w : World} {base base' n size : Nat} {e : TypeId} {v : Value} {xs : List Value} (h : w.ownsRow base e size v n xs) (hb : base' ≤ base) : w.ownsRow base' e size v n xs := by
 refine ⟨h.1, ?_⟩
 rcases h.2 with h1 | ⟨g, cap, cur, h1, h2, h3⟩
 ·exact .inl h1
 ·exact .inr ⟨g, cap, cur, h1, Nat.le_trans hb h2, h3⟩
set_option maxHeartbeats 2000000 in
theorem open_node {w : World} {n : NM} (hok : n.ok) :
  Calls Try.prog 52 #[.agg (pageCells (pageOf n)).toArray] w fun e w' => ∃ v, e = .returned (.tuple #[.agg (nodeCells n v).toArray, .int .i64 0]) ∧ w'.ownsRow w.heap.size 58 2 v n.ents.length (entCells n.ents) ∧ Kept (fun _ => False) w w' := by
 obtain ⟨pc, hpc⟩ : ∃ pc, pageCells (pageOf n) = pc := ⟨_, rfl⟩
 obtain ⟨Z, hZ⟩ : ∃ Z, nodeCells ⟨0, zeros16, []⟩ (.slice none 0 0) = Z := ⟨_, rfl⟩
 obtain ⟨w1, hw1⟩ : ∃ w1, w.alloc (.cells pc.toArray 98) = w1 := ⟨_, rfl⟩
 obtain ⟨w2, hw2⟩ : ∃ w2, w1.alloc (.cells Z.toArray 71) = w2 := ⟨_, rfl⟩
 have k1 : Kept (fun _ => False) w w1 := by rw [← hw1]; exact (Kept.refl _ _).alloc _
 have k2 : Kept (fun _ => False) w1 w2 := by rw [← hw2]; exact (Kept.refl _ _).alloc _
 have s1 : w1.heap.size = w.heap.size + 1 := by rw [← hw1]; simp
 have s2 : w2.heap.size = w.heap.size + 2 := by rw [← hw2]; simp [s1]
 have p1 : w1.heap[w.heap.size]? = some (.cells pc.toArray 98 (0, 0)) := by rw [← hw1]; exact heap_alloc_new _ _
 have p2 := k2.get p1 id
 have d2 : w2.heap[w.heap.size + 1]? = some (.cells Z.toArray 71 (0, 0)) := by rw [← hw2, ← s1]; exact heap_alloc_new _ _
 have hpl : Hid (pc.length = 256) := h_ (by rw [← hpc]; exact pageCells_len _)
 have hp1 : Hid (∀ v ∈ pc, v.oneCell' = true) := h_ (by rw [← hpc]; exact pageCells_one _)
 have hZz : Hid ((Try.prog.info? 71).map (·.zero) = some (some (.agg Z.toArray))) := h_ (by rw [← hZ]; exact node_zero)
 have hZl : Hid (Z.length = 18) := h_ (by rw [← hZ]; exact nodeCells_len _ _)
 have hPz : Hid ((Try.prog.info? 98).map (·.zero) = some (some (.agg (pageCells zeroPage).toArray))) := h_ page_zero
 have hby : BytesAt w2 (.slice (some ⟨w.heap.size, 0, none⟩) (pageBytes (pageOf n)).length 256) (pageBytes (pageOf n)) := by
  refine ⟨?_, ?_⟩
  ·rw [pageBytes_cells, pageBytes_len, hpc]
   exact SliceAt.block_new p2 (by rw [hpl.out]) (by decide)
  ·intro b hb
   simp only [pageBytes, List.mem_map, List.mem_range] at hb
   obtain ⟨i, _, rfl⟩ := hb
   obtain ⟨h1, _⟩ := sealOf_lt (bytesOf_lt hok).1
   unfold pageOf
   by_cases hi : i < (sealOf (bytesOf n)).length
   ·rw [List.getD_eq_getElem?_getD, List.getElem?_eq_getElem hi]; exact h1 _ (List.getElem_mem _)
   ·rw [List.getD_eq_getElem?_getD, List.getElem?_eq_none (by omega)]; simp
 have hnew := endsNew hby (by rw [pageBytes_len]; omega)
 rw [pageBytes_len] at hnew
 have hnew' := h_ hnew; clear hnew
 have hread := h_ (fun (W : World) (B b : Nat) (h : ReaderAt B W b (pageBytes (pageOf n))) => read_page hok h)
 have hpage := h_ (fun (W : World) (sv : Value) (h : EntsAt W sv n.ents) => page_ok h hok)
 have hneq : Hid (∀ (o : Oper) (a : Act) (x y : Operand) (u : TypeId) (w : World), o.op = .binOp .neq 98 x y u → a.eval x = .agg pc.toArray → a.eval y = .agg pc.toArray → (execOp a.eval o).run Try.prog w = .ok (.value (.bool false)) w) :=
  h_ (fun o a x y u w ho hx hy => exec_neq_page ho (pageOf n) (by rw [hpc]; exact hx) (by rw [hpc]; exact hy))
 rw [hpc]
 rw [hpc] at hpage
 have kall := h_ (k1.trans k2)
 have hw1' := h_ hw1
 have hw2' := h_ hw2
 have s1' := h_ s1
 have s2' := h_ s2
 have p2' := h_ p2
 have d2' := h_ d2
 clear hby hpc hZ hw1 hw2 k1 k2 s1 s2 p1 p2 d2 hok
 go_enter Try.func52, Try.ntmps52
 go_wp2_with (first | (refine wpList_box_named 98 rfl rfl _ rfl hw1'.out ?_) | (refine wpList_alloc_as 71 rfl rfl Z.toArray hZz.out ?_; rw [hw2'.out, s1'.out]))
 refine hnew'.out.mono ?_
 rintro e w3 ⟨r, rfl, hr3, hrd3, hk3⟩
 have kall3 := h_ (kall.out.trans hk3)
 have p3 := h_ (hk3.get p2'.out id)
 have d3 := h_ (hk3.get d2'.out id)
 have hs3 := hk3.size
 have hs2 := s2'.out
 have hrd3' := h_ hrd3
 clear hk3 hrd3
 go_wp2_with fail
 refine (hread.out _ _ _ hrd3'.out).mono ?_
 rintro e w4 ⟨v, rfl, hown4, hk4⟩
 obtain ⟨A, cap, rfl, hf1, hf2⟩ := EntsAt.form (show EntsAt w4 v n.ents from SliceAt.of_owns hown4)
 unfold maxLen at hf2
 obtain ⟨F, hF⟩ : ∃ F, nodeCells n (.slice A n.ents.length cap) = F := ⟨_, rfl⟩
 have hFl : Hid (F.length = 18) := h_ (by rw [← hF]; exact nodeCells_len _ _)
 have hF1 : Hid (∀ v ∈ F, v.oneCell' = true) := h_ (by rw [← hF]; exact nodeCells_one _ _ _ _)
 obtain ⟨w5, hw5⟩ : ∃ w5, (w4.alloc (.cells Z.toArray 71)).setRow w4.heap.size F.toArray = w5 := ⟨_, rfl⟩
 have k5 : Kept (fun _ => False) w4 w5 := by rw [← hw5]; exact ((Kept.refl _ _).alloc _).setRowNew (Nat.le_refl _) _
 have f5 : w5.heap[w4.heap.size]? = some (.cells F.toArray 71 (0, 0)) := by rw [← hw5]; exact setRow_heap _ _ _ _ _ _ (heap_alloc_new _ _)
 have s5 := h_ (show w5.heap.size = w4.heap.size + 1 by rw [← hw5]; simp)
 have hs4 := hk4.size
 have kall5 := h_ ((kall3.out.trans_new hk4 (fun i hi e => by omega)).trans k5)
 have p5 := h_ (k5.get (hk4.get p3.out (by omega)) id)
 have d5 := h_ (k5.get (hk4.get d3.out (by omega)) id)
 have hown5 := h_ (ownsRow.keptOf hown4 k5 (fun _ _ => id))
 have hpg := h_ (hpage.out w5 (.slice A n.ents.length cap) (SliceAt.of_owns hown5.out))
 rw [hF] at hpg ⊢
 have hF' := h_ hF
 have hw5' := h_ hw5
 have f5' := h_ f5
 have hown4b := h_ hown4.lt
 clear hk4 hown4 k5 f5 hw5 hF
 go_wp2_with (first | (refine wpList_alloc_as 71 rfl rfl Z.toArray hZz.out ?_) | (refine wpList_store_whole 71 rfl rfl rfl F rfl (by rw [hFl.out]; exact node_size) 71 _ (heap_alloc_new _ _) (by simp [hFl.out, hZl.out]) hF1.out ?_; rw [hw5'.out]) | (refine wpList_load_agg 71 rfl rfl rfl _ Try.underlying71 rfl F (by rw [hFl.out]; exact node_size) (fun j v hv => by rw [cell_of_heap f5'.out, Nat.zero_add]; simpa using hv) ?_))
 refine hpg.out.mono ?_
 rintro e w6 ⟨rfl, hk6⟩
 obtain ⟨w7, hw7⟩ : ∃ w7, (w6.alloc (.cells (pageCells zeroPage).toArray 98)).setRow w6.heap.size pc.toArray = w7 := ⟨_, rfl⟩
 have k7 : Kept (fun _ => False) w6 w7 := by rw [← hw7]; exact ((Kept.refl _ _).alloc _).setRowNew (Nat.le_refl _) _
 have q7 := h_ (show w7.heap[w6.heap.size]? = some (.cells pc.toArray 98 (0, 0)) by rw [← hw7]; exact setRow_heap _ _ _ _ _ _ (heap_alloc_new _ _))
 have hs6 := hk6.size
 have kall7 := h_ ((kall5.out.trans hk6).trans k7)
 have p7 := h_ (k7.get (hk6.get p5.out id) id)
 have d7 := h_ (k7.get (hk6.get d5.out id) id)
 have f7 := h_ (k7.get (hk6.get f5'.out id) id)
 have hown7 := h_ (ownsRow.keptOf (ownsRow.keptOf hown5.out hk6 (fun _ _ => id)) k7 (fun _ _ => id))
 have hw7' := h_ hw7
 clear hk6 k7 hw7
 go_wp2_with (first | (refine wpList_alloc_as 98 rfl rfl (pageCells zeroPage).toArray hPz.out ?_) | (refine wpList_store_whole 98 rfl rfl rfl pc rfl (by rw [hpl.out]; exact page_size) 98 _ (heap_alloc_new _ _) (by simp [hpl.out, pageCells_len]) hp1.out ?_; rw [hw7'.out]) | (refine wpList_exec_g (by rfl) (exec_load_agg (ty := 98) rfl rfl pc Try.underlying98 rfl (by rw [hpl.out]; exact page_size) (fun j v hv => by rw [cell_of_heap q7.out, Nat.zero_add]; simpa using hv)) ?_) | (refine wpList_exec_g (by rfl) (exec_load_agg (ty := 98) rfl rfl pc Try.underlying98 rfl (by rw [hpl.out]; exact page_size) (fun j v hv => by rw [cell_of_heap p7.out, Nat.zero_add]; simpa using hv)) ?_) | (refine wpList_exec_g (by rfl) (hneq.out _ _ _ _ _ _ rfl (by rfl) (by rfl)) ?_) | (refine wpList_load_agg 71 rfl rfl rfl _ Try.underlying71 rfl F (by rw [hFl.out]; exact node_size) (fun j v hv => by rw [cell_of_heap f7.out, Nat.zero_add]; simpa using hv) ?_) | (refine wpList_store_whole 71 rfl rfl rfl F rfl (by rw [hFl.out]; exact node_size) 71 _ d7.out (by simp [hFl.out, hZl.out]) hF1.out ?_))
 refine bodyPost_ret (results_row_tmp rfl _ _ (w.heap.size + 1) 71 F.toArray (0, 0) _ rfl (setRow_heap _ _ _ _ 71 (0, 0) d7.out) Try.underlying71 rfl (by simp only [List.size_toArray]; rw [hFl.out]; exact node_size)) rfl ?_
 have kS := (Kept.refl (fun i => i = w.heap.size + 1) w7).setRow rfl F.toArray
 refine ⟨.slice A n.ents.length cap, by rw [hF'.out]; rfl, ?_, kall7.out.setRowNew (by omega) _⟩
 exact owns_weaken (ownsRow.keptOf hown7.out kS (fun g hg e => by have := (hown4b.out g hg).1; omega)) (by omega)

set_option maxHeartbeats 2000000 in
theorem open_zero {w : World} :
  Calls Try.prog 52 #[.agg (pageCells zeroPage).toArray] w fun e w' => e = .returned (.tuple #[.agg (nodeCells NM.zero (.slice none 0 0)).toArray, .int .i64 81]) ∧ Kept (fun _ => False) w w' := by
 obtain ⟨pc, hpc⟩ : ∃ pc, pageCells zeroPage = pc := ⟨_, rfl⟩
 obtain ⟨Z, hZ⟩ : ∃ Z, nodeCells ⟨0, zeros16, []⟩ (.slice none 0 0) = Z := ⟨_, rfl⟩
 obtain ⟨w1, hw1⟩ : ∃ w1, w.alloc (.cells pc.toArray 98) = w1 := ⟨_, rfl⟩
 obtain ⟨w2, hw2⟩ : ∃ w2, w1.alloc (.cells Z.toArray 71) = w2 := ⟨_, rfl⟩
 have k1 : Kept (fun _ => False) w w1 := by rw [← hw1]; exact (Kept.refl _ _).alloc _
 have k2 : Kept (fun _ => False) w1 w2 := by rw [← hw2]; exact (Kept.refl _ _).alloc _
 have s1 : w1.heap.size = w.heap.size + 1 := by rw [← hw1]; simp
 have s2 : w2.heap.size = w.heap.size + 2 := by rw [← hw2]; simp [s1]
 have p1 : w1.heap[w.heap.size]? = some (.cells pc.toArray 98 (0, 0)) := by rw [← hw1]; exact heap_alloc_new _ _
 have p2 := k2.get p1 id
 have d2 : w2.heap[w.heap.size + 1]? = some (.cells Z.toArray 71 (0, 0)) := by rw [← hw2, ← s1]; exact heap_alloc_new _ _
 have hpl : Hid (pc.length = 256) := h_ (by rw [← hpc]; exact pageCells_len _)
 have hp1 : Hid (∀ v ∈ pc, v.oneCell' = true) := h_ (by rw [← hpc]; exact pageCells_one _)
 have hZz : Hid ((Try.prog.info? 71).map (·.zero) = some (some (.agg Z.toArray))) := h_ (by rw [← hZ]; exact node_zero)
 have hZl : Hid (Z.length = 18) := h_ (by rw [← hZ]; exact nodeCells_len _ _)
 have hPz : Hid ((Try.prog.info? 98).map (·.zero) = some (some (.agg (pageCells zeroPage).toArray))) := h_ page_zero
 have hby : BytesAt w2 (.slice (some ⟨w.heap.size, 0, none⟩) (pageBytes zeroPage).length 256) (pageBytes zeroPage) := by
  refine ⟨?_, ?_⟩
  ·rw [pageBytes_cells, pageBytes_len, hpc]
   exact SliceAt.block_new p2 (by rw [hpl.out]) (by decide)
  ·intro b hb
   simp only [pageBytes, List.mem_map, List.mem_range] at hb
   obtain ⟨i, _, rfl⟩ := hb
   unfold zeroPage; omega
 have hnew := endsNew hby (by rw [pageBytes_len]; omega)
 rw [pageBytes_len] at hnew
 have hnew' := h_ hnew; clear hnew
 have hread := h_ (fun (W : World) (B b : Nat) (h : ReaderAt B W b (pageBytes zeroPage)) => read_zero h)
 have hpage := h_ (fun (W : World) (sv : Value) (h : EntsAt W sv NM.zero.ents) => page_bad (n := NM.zero) h (by rfl) (by rfl))
 have hbz : Hid (∀ w, (Instr.build 71 #[]).run Try.prog w = .ok (.agg Z.toArray) w) := h_ (fun w => by rw [← hZ]; exact run_build _ _ _ _ (by kernel_rfl))
 have hZ1 : Hid (∀ v ∈ Z, v.oneCell' = true) := h_ (by rw [← hZ]; exact nodeCells_one _ _ _ _)
 have hZn : Hid (nodeCells NM.zero (.slice none 0 0) = Z) := h_ (by rw [← hZ]; rfl)
 rw [hpc]
 rw [hpc] at hpage
 have kall := h_ (k1.trans k2)
 have hw1' := h_ hw1
 have hw2' := h_ hw2
 have s1' := h_ s1
 have s2' := h_ s2
 have p2' := h_ p2
 have d2' := h_ d2
 rw [hZn.out]
 clear hby hpc hZ hw1 hw2 k1 k2 s1 s2 p1 p2 d2
 go_enter Try.func52, Try.ntmps52
 go_wp2_with (first | (refine wpList_box_named 98 rfl rfl _ rfl hw1'.out ?_) | (refine wpList_alloc_as 71 rfl rfl Z.toArray hZz.out ?_; rw [hw2'.out, s1'.out]))
 refine hnew'.out.mono ?_
 rintro e w3 ⟨r, rfl, hr3, hrd3, hk3⟩
 have kall3 := h_ (kall.out.trans hk3)
 have p3 := h_ (hk3.get p2'.out id)
 have d3 := h_ (hk3.get d2'.out id)
 have hs3 := hk3.size
 have hs2 := s2'.out
 have hrd3' := h_ hrd3
 clear hk3 hrd3
 go_wp2_with fail
 refine (hread.out _ _ _ hrd3'.out).mono ?_
 rintro e w4 ⟨v, rfl, hown4, hk4⟩
 obtain ⟨A, cap, rfl, hf1, hf2⟩ := EntsAt.form (show EntsAt w4 v NM.zero.ents from SliceAt.of_owns hown4)
 unfold maxLen at hf2
 obtain ⟨F, hF⟩ : ∃ F, nodeCells NM.zero (.slice A NM.zero.ents.length cap) = F := ⟨_, rfl⟩
 have hFl : Hid (F.length = 18) := h_ (by rw [← hF]; exact nodeCells_len _ _)
 have hF1 : Hid (∀ v ∈ F, v.oneCell' = true) := h_ (by rw [← hF]; exact nodeCells_one _ _ _ _)
 obtain ⟨w5, hw5⟩ : ∃ w5, (w4.alloc (.cells Z.toArray 71)).setRow w4.heap.size F.toArray = w5 := ⟨_, rfl⟩
 have k5 : Kept (fun _ => False) w4 w5 := by rw [← hw5]; exact ((Kept.refl _ _).alloc _).setRowNew (Nat.le_refl _) _
 have f5 : w5.heap[w4.heap.size]? = some (.cells F.toArray 71 (0, 0)) := by rw [← hw5]; exact setRow_heap _ _ _ _ _ _ (heap_alloc_new _ _)
 have s5 := h_ (show w5.heap.size = w4.heap.size + 1 by rw [← hw5]; simp)
 have hs4 := hk4.size
 have kall5 := h_ ((kall3.out.trans_new hk4 (fun i hi e => by omega)).trans k5)
 have p5 := h_ (k5.get (hk4.get p3.out (by omega)) id)
 have d5 := h_ (k5.get (hk4.get d3.out (by omega)) id)
 have hown5 := h_ (ownsRow.keptOf hown4 k5 (fun _ _ => id))
 have hpg := h_ (hpage.out w5 (.slice A NM.zero.ents.length cap) (SliceAt.of_owns hown5.out))
 rw [hF] at hpg ⊢
 have hF' := h_ hF
 have hw5' := h_ hw5
 have f5' := h_ f5
 have hown4b := h_ hown4.lt
 clear hk4 hown4 k5 f5 hw5 hF
 go_wp2_with (first | (refine wpList_alloc_as 71 rfl rfl Z.toArray hZz.out ?_) | (refine wpList_store_whole 71 rfl rfl rfl F rfl (by rw [hFl.out]; exact node_size) 71 _ (heap_alloc_new _ _) (by simp [hFl.out, hZl.out]) hF1.out ?_; rw [hw5'.out]) | (refine wpList_load_agg 71 rfl rfl rfl _ Try.underlying71 rfl F (by rw [hFl.out]; exact node_size) (fun j v hv => by rw [cell_of_heap f5'.out, Nat.zero_add]; simpa using hv) ?_))
 refine hpg.out.mono ?_
 rintro e w6 ⟨rfl, hk6⟩
 obtain ⟨w7, hw7⟩ : ∃ w7, (w6.alloc (.cells (pageCells zeroPage).toArray 98)).setRow w6.heap.size pc.toArray = w7 := ⟨_, rfl⟩
 have k7 : Kept (fun _ => False) w6 w7 := by rw [← hw7]; exact ((Kept.refl _ _).alloc _).setRowNew (Nat.le_refl _) _
 have q7 := h_ (show w7.heap[w6.heap.size]? = some (.cells pc.toArray 98 (0, 0)) by rw [← hw7]; exact setRow_heap _ _ _ _ _ _ (heap_alloc_new _ _))
 have hs6 := hk6.size
 have kall7 := h_ ((kall5.out.trans hk6).trans k7)
 have p7 := h_ (k7.get (hk6.get p5.out id) id)
 have d7 := h_ (k7.get (hk6.get d5.out id) id)
 have f7 := h_ (k7.get (hk6.get f5'.out id) id)
 have hown7 := h_ (ownsRow.keptOf (ownsRow.keptOf hown5.out hk6 (fun _ _ => id)) k7 (fun _ _ => id))
 have hw7' := h_ hw7
 clear hk6 k7 hw7
 go_wp2_with (first | (refine wpList_alloc_as 98 rfl rfl (pageCells zeroPage).toArray hPz.out ?_) | (refine wpList_store_whole 98 rfl rfl rfl pc rfl (by rw [hpl.out]; exact page_size) 98 _ (heap_alloc_new _ _) (by simp [hpl.out, pageCells_len]) hp1.out ?_; rw [hw7'.out]) | (refine wpList_exec rfl (exec_build 71 #[] _ rfl (by simp) (hbz.out _)) ?_) | (refine wpList_store_whole 71 rfl rfl rfl Z rfl (by rw [hZl.out]; exact node_size) 71 _ d7.out (by simp) hZ1.out ?_))
 refine bodyPost_ret (results_row_tmp rfl _ _ (w.heap.size + 1) 71 Z.toArray (0, 0) _ rfl (setRow_heap _ _ _ _ 71 (0, 0) d7.out) Try.underlying71 rfl (by simp only [List.size_toArray]; rw [hZl.out]; exact node_size)) rfl ?_
 exact ⟨rfl, kall7.out.setRowNew (by omega) _⟩

structure SA where
 sb : Nat
 db : Nat
 pb : Nat
 pv : Value
 n : Nat
 sv : Value
 gm : Nat
def wrOf (x : Nat × NM) : Nat × (Nat → Nat) := (x.1 + 4, pageOf x.2)
def SA.disk (A : SA) (M : SM) : DM := { b := A.db, pv := A.pv, n := A.n, pend := M.log.map wrOf, sv := A.sv, gm := A.gm }
def SA.foot (A : SA) (k : Nat) : Prop := k = A.sb ∨ k = A.pb ∨ k = A.db ∨ A.pv.ownBlock = some k
def SA.own (A : SA) (k : Nat) : Prop := A.foot k ∨ k = A.gm ∨ A.sv.ownBlock = some k
structure StoreAt (w : World) (A : SA) (M : SM) : Prop where
 head : w.heap[A.sb]? = some (.cells #[.pointer (some ⟨A.db, 0, none⟩), .pointer (some ⟨A.pb, 0, none⟩)] 82 (0, 0))
 disk : DiskAt w (A.disk M)
 pool : PoolAt w A.pb M.pool
 offS : ¬ (A.disk M).own A.sb
 offP : ¬ (A.disk M).own A.pb
 ne : A.sb ≠ A.pb
 room : M.pool.size = 0 ∨ M.pool.size + 4 ≤ A.n
 right : ∀ x ∈ M.log, x.2.ok
theorem SA.own_disk {A : SA} {M : SM} {k : Nat} (h : (A.disk M).own k) : A.own k := by
 rcases h with (rfl | h) | rfl | h
 ·exact .inl (.inr (.inr (.inl rfl)))
 ·exact .inl (.inr (.inr (.inr h)))
 ·exact .inr (.inl rfl)
 ·exact .inr (.inr h)
theorem StoreAt.lt {w : World} {A : SA} {M : SM} (h : StoreAt w A M) {k : Nat} (hk : A.own k) : k < w.heap.size := by
 rcases hk with (rfl | rfl | rfl | hk) | rfl | hk
 ·exact lt_of_heap h.head
 ·exact lt_of_heap h.pool.heap
 ·exact h.disk.lt _ (.inl (.inl rfl))
 ·exact h.disk.lt _ (.inl (.inr hk))
 ·exact h.disk.lt _ (.inr (.inl rfl))
 ·exact h.disk.lt _ (.inr (.inr hk))
theorem StoreAt.kept {S : Nat → Prop} {w w' : World} {A : SA} {M : SM} (h : StoreAt w A M) (k : Kept S w w') (hS : ∀ i, A.own i → ¬ S i) : StoreAt w' A M :=
 ⟨k.get h.head (hS _ (.inl (.inl rfl))), h.disk.kept k fun i hi => hS i (SA.own_disk hi), h.pool.kept k (hS _ (.inl (.inr (.inl rfl)))), h.offS, h.offP, h.ne, h.room, h.right⟩
theorem StoreAt.fresh {w w' : World} {A : SA} {M : SM} (h : StoreAt w A M) (k : Kept (fun _ => False) w w') : StoreAt w' A M := h.kept k fun _ _ => id

structure StoreTo (A A' : SA) (M' : SM) (w w' : World) : Prop where
 store : StoreAt w' A' M'
 kept : Kept A.foot w w'
 foot : ∀ k, A'.foot k → A.foot k ∨ w.heap.size ≤ k
 sb : A'.sb = A.sb
 fix : A'.sv = A.sv ∧ A'.gm = A.gm
theorem StoreTo.refl {w : World} {A : SA} {M : SM} (h : StoreAt w A M) : StoreTo A A M w w := ⟨h, Kept.refl _ _, fun _ h => .inl h, rfl, rfl, rfl⟩
theorem StoreTo.trans {A B C : SA} {M N : SM} {a b c : World} (h : StoreTo A B M a b) (k : StoreTo B C N b c) : StoreTo A C N a c :=
 ⟨k.store, h.kept.trans_new k.kept (fun i hi e => (h.foot i e).elim id fun e2 => absurd hi (Nat.not_lt.2 e2)),
  fun i hi => (k.foot i hi).elim (fun e => h.foot i e) fun e => .inr (Nat.le_trans h.kept.size e), k.sb.trans h.sb, k.fix.1.trans h.fix.1, k.fix.2.trans h.fix.2⟩
theorem StoreTo.fresh {A B : SA} {M : SM} {a b c : World} (h : StoreTo A B M a b) (k : Kept (fun _ => False) b c) : StoreTo A B M a c :=
 ⟨h.store.fresh k, h.kept.trans (k.mono fun _ => False.elim), h.foot, h.sb, h.fix⟩
theorem StoreTo.before {A B : SA} {M : SM} {a b c : World} (k : Kept (fun _ => False) a b) (h : StoreTo A B M b c) : StoreTo A B M a c :=
 ⟨h.store, (k.mono fun _ => False.elim).trans h.kept, fun i hi => (h.foot i hi).imp id (Nat.le_trans k.size), h.sb, h.fix⟩
structure EntsOff (w : World) (A : SA) (v : Value) (l : List (Int × Int)) : Prop where
 at_ : EntsAt w v l
 off : l ≠ [] → ∀ b, v.ownBlock = some b → b < w.heap.size ∧ ¬ A.foot b
theorem EntsAt.nil {w w' : World} {v : Value} (h : EntsAt w v []) : EntsAt w' v [] := by
 obtain ⟨h1, A, cap, h2, h3, h4, _⟩ := h
 exact ⟨h1, A, cap, h2, h3, h4, fun j v hj => by simp [entCells] at hj⟩
theorem EntsOff.to {A A' : SA} {M' : SM} {w w' : World} {v : Value} {l : List (Int × Int)} (h : EntsOff w A v l) (k : StoreTo A A' M' w w') : EntsOff w' A' v l :=
 ⟨by
  by_cases hl : l = []
  ·subst hl; exact EntsAt.nil h.at_
  ·exact SliceAt.kept h.at_ k.kept fun b hb => (h.off hl b hb).2, fun hl b hb => ⟨Nat.lt_of_lt_of_le (h.off hl b hb).1 k.kept.size, fun e => (k.foot b e).elim (h.off hl b hb).2 fun e => absurd (h.off hl b hb).1 (Nat.not_lt.2 e)⟩⟩
theorem EntsOff.fresh {A : SA} {w w' : World} {v : Value} {l : List (Int × Int)} (h : EntsOff w A v l) (k : Kept (fun _ => False) w w') : EntsOff w' A v l :=
 ⟨SliceAt.fresh h.at_ k, fun hl b hb => ⟨Nat.lt_of_lt_of_le (h.off hl b hb).1 k.size, (h.off hl b hb).2⟩⟩
theorem disk_read (A : SA) (M : SM) (k : Nat) : (A.disk M).read (k + 4) = match M.nodeAt k with | some n => pageOf n | none => zeroPage := by
 unfold DM.read SM.nodeAt logAt SA.disk
 have : ∀ (l : List (Nat × NM)) (o : Option NM), (l.map wrOf).foldl (fun out x => if x.1 = k + 4 then x.2 else out) (match o with | some n => pageOf n | none => zeroPage) =
   match l.foldl (fun o x => if x.1 = k then some x.2 else o) o with | some n => pageOf n | none => zeroPage := by
  intro l
  induction l with
  | nil => intro o; rfl
  | cons x l ih =>
   intro o
   rw [List.map_cons, List.foldl_cons, List.foldl_cons]
   by_cases hx : x.1 = k
   ·have e : (wrOf x).1 = k + 4 := by simp [wrOf, hx]
    rw [if_pos e, if_pos hx]
    exact ih (some x.2)
   ·have e : ¬ (wrOf x).1 = k + 4 := by simp [wrOf, hx]
    rw [if_neg e, if_neg hx]
    exact ih o
 exact this M.log none
theorem nodeAt_ok {w : World} {A : SA} {M : SM} (h : StoreAt w A M) {k : Nat} {n : NM} (hn : M.nodeAt k = some n) : n.ok := by
 unfold SM.nodeAt logAt at hn
 have : ∀ (l : List (Nat × NM)) (o : Option NM), (∀ x ∈ l, x.2.ok) → (∀ m, o = some m → m.ok) → ∀ m, l.foldl (fun o x => if x.1 = k then some x.2 else o) o = some m → m.ok := by
  intro l
  induction l with
  | nil => intro o _ ho m hm; exact ho m hm
  | cons x l ih =>
   intro o hl ho m hm
   rw [List.foldl_cons] at hm
   refine ih _ (fun y hy => hl y (List.mem_cons_of_mem _ hy)) (fun q hq => ?_) m hm
   split at hq
   ·cases hq; exact hl x (List.mem_cons_self ..)
   ·exact ho q hq
 exact this M.log none h.right (fun m hm => by cases hm) n hn

theorem not_held (p : PM) (i : Int) : (p.countI i == 0 && !p.freshB i) = !p.heldB i := by
 unfold PM.countI PM.heldB PM.freshB
 by_cases h : p.thereB i = true
 ·rw [Bool.eq_iff_iff]; simp [h]
 ·have h' : p.thereB i = false := by simpa using h
  simp [h']
theorem storeFree {w : World} {A : SA} {M : SM} (h : StoreAt w A M) (i : Int) :
  Calls Try.prog 38 #[.pointer (some ⟨A.sb, 0, none⟩), .int .i64 i] w fun e w' => e = .returned (.bool (!M.pool.heldB i)) ∧ w = w' := by
 have c1 := cell_of_heap h.head 1
 simp at c1
 have hc := h_ (count_any h.pool i)
 have hf := h_ (fresh_any h.pool i)
 rw [← not_held]
 clear h
 obtain ⟨c, hcc⟩ : ∃ c, M.pool.countI i = c := ⟨_, rfl⟩
 obtain ⟨f, hff⟩ : ∃ f, M.pool.freshB i = f := ⟨_, rfl⟩
 rw [hcc] at hc ⊢
 rw [hff] at hf ⊢
 clear hcc hff
 by_cases h0 : c = 0
 ·subst h0
  go_enter Try.func38, Try.ntmps38
  go_wp2_with fail
  refine hc.out.mono ?_
  rintro e w' ⟨rfl, rfl⟩
  go_wp2_with fail
  refine hf.out.mono ?_
  rintro e w' ⟨rfl, rfl⟩
  go_wp2_with fail
  all_goals go_ret
  all_goals exact ⟨ret_bool (by simp), rfl⟩
 ·have h1 : (c == 0) = false := by simpa using h0
  clear h0
  go_enter Try.func38, Try.ntmps38
  go_wp2_with fail
  refine hc.out.mono ?_
  rintro e w' ⟨rfl, rfl⟩
  go_wp2_with fail
  go_ret
  exact ⟨ret_bool (by simp [h1]), rfl⟩

theorem held_room {w : World} {A : SA} {M : SM} (h : StoreAt w A M) {i : Int} (hi : M.pool.heldB i = true) : 0 ≤ i ∧ i.toNat + 4 < A.n + 0 ∧ i < 240 := by
 have hb := heldB_pos hi
 have hs := h.pool.hsize
 rcases h.room with hr | hr
 ·omega
 ·omega

set_option maxHeartbeats 2000000 in
theorem get_any {w : World} {A : SA} {M : SM} (h : StoreAt w A M) (i : Int) :
  Calls Try.prog 42 #[.pointer (some ⟨A.sb, 0, none⟩), .int .i64 i] w fun e w' => ∃ v, e = .returned (.tuple #[.agg (nodeCells (M.get i).1 v).toArray, .int .i64 (M.get i).2]) ∧
   w'.ownsRow w.heap.size 58 2 v (M.get i).1.ents.length (entCells (M.get i).1.ents) ∧ Kept (fun _ => False) w w' := by
 obtain ⟨Z, hZ⟩ : ∃ Z, nodeCells NM.zero (.slice none 0 0) = Z := ⟨_, rfl⟩
 obtain ⟨w1, hw1⟩ : ∃ w1, w.alloc (.cells Z.toArray 71) = w1 := ⟨_, rfl⟩
 have k1 : Kept (fun _ => False) w w1 := by rw [← hw1]; exact (Kept.refl _ _).alloc _
 have s1 : w1.heap.size = w.heap.size + 1 := by rw [← hw1]; simp
 have d1 : w1.heap[w.heap.size]? = some (.cells Z.toArray 71 (0, 0)) := by rw [← hw1]; exact heap_alloc_new _ _
 have hZz : Hid ((Try.prog.info? 71).map (·.zero) = some (some (.agg Z.toArray))) := h_ (by rw [← hZ]; exact node_zero)
 have hZl : Hid (Z.length = 18) := h_ (by rw [← hZ]; exact nodeCells_len _ _)
 have hZ1 : Hid (∀ v ∈ Z, v.oneCell' = true) := h_ (by rw [← hZ]; exact nodeCells_one _ _ _ _)
 have hbz : Hid (∀ w, (Instr.build 71 #[]).run Try.prog w = .ok (.agg Z.toArray) w) := h_ (fun w => by rw [← hZ]; exact run_build _ _ _ _ (by kernel_rfl))
 have h1 := h.fresh k1
 have hf := h_ (storeFree h1 i)
 have c0 := cell_of_heap h1.head 0
 simp at c0
 by_cases hh : M.pool.heldB i = true
 ·obtain ⟨hi0, hi1, hi2⟩ := held_room h hh
  obtain ⟨j, rfl⟩ := Int.eq_ofNat_of_zero_le hi0
  simp at hi1
  rw [hh] at hf
  have hrd := diskRead_ok h1.disk (j + 4) hi1
  rw [disk_read] at hrd
  have hj4 : ((j + 4 : Nat) : Int) = (j : Int) + 4 := by omega
  rw [hj4] at hrd
  have hdb : (A.disk M).b = A.db := rfl
  rw [hdb] at hrd
  have hget : M.get (j : Int) = match M.nodeAt j with | some n => (n, 0) | none => (.zero, 81) := by unfold SM.get; rw [if_pos hh]; rfl
  rw [hget]
  have k1' := h_ k1
  have d1' := h_ d1
  have s1' := h_ s1
  have hw1' := h_ hw1
  have hPz : Hid ((Try.prog.info? 98).map (·.zero) = some (some (.agg (pageCells zeroPage).toArray))) := h_ page_zero
  cases hn : M.nodeAt j with
  | none =>
   rw [hn] at hrd
   have hrd' := h_ hrd
   have hop := h_ (fun w => open_zero (w := w))
   obtain ⟨pc, hpc⟩ : ∃ pc, pageCells zeroPage = pc := ⟨_, rfl⟩
   dsimp only at hrd'
   rw [hpc] at hrd' hPz hop
   rw [hZ] at hop
   have hpl : Hid (pc.length = 256) := h_ (by rw [← hpc]; exact pageCells_len _)
   have hp1 : Hid (∀ v ∈ pc, v.oneCell' = true) := h_ (by rw [← hpc]; exact pageCells_one _)
   have hz2 : Hid (nodeCells NM.zero (.slice none 0 0) = Z) := h_ hZ
   clear h h1 hh k1 d1 s1 hw1 hn hrd hget hZ hpc hdb hj4
   go_enter Try.func42, Try.ntmps42
   go_wp2_with (first | (refine wpList_alloc_as 71 rfl rfl Z.toArray hZz.out ?_; rw [hw1'.out]))
   refine hf.out.mono ?_
   rintro e w' ⟨rfl, rfl⟩
   go_wp2_with fail
   refine hrd'.out.mono ?_
   rintro e w2 ⟨rfl, hk2⟩
   have d2 := hk2.get d1'.out id
   obtain ⟨w3, hw3⟩ : ∃ w3, (w2.alloc (.cells pc.toArray 98)).setRow w2.heap.size pc.toArray = w3 := ⟨_, rfl⟩
   have k3 : Kept (fun _ => False) w2 w3 := by rw [← hw3]; exact ((Kept.refl _ _).alloc _).setRowNew (Nat.le_refl _) _
   have q3 := h_ (show w3.heap[w2.heap.size]? = some (.cells pc.toArray 98 (0, 0)) by rw [← hw3]; exact setRow_heap _ _ _ _ _ _ (heap_alloc_new _ _))
   have d3 := h_ (k3.get d2 id)
   have kall3 := h_ ((k1'.out.trans hk2).trans k3)
   have hw3' := h_ hw3
   clear hk2 d2 k3 hw3
   go_wp2_with (first | (refine wpList_alloc_as 98 rfl rfl pc.toArray hPz.out ?_) | (refine wpList_store_whole 98 rfl rfl rfl pc rfl (by rw [hpl.out]; exact page_size) 98 _ (heap_alloc_new _ _) (by simp) hp1.out ?_; rw [hw3'.out]) | (refine wpList_load_agg 98 rfl rfl rfl _ Try.underlying98 rfl pc (by rw [hpl.out]; exact page_size) (fun j v hv => by rw [cell_of_heap q3.out, Nat.zero_add]; simpa using hv) ?_))
   refine (hop.out _).mono ?_
   rintro e w4 ⟨rfl, hk4⟩
   have d4 := h_ (hk4.get d3.out id)
   have kall4 := h_ (kall3.out.trans hk4)
   clear hk4
   go_wp2_with (first | (refine wpList_store_whole 71 rfl rfl rfl Z rfl (by rw [hZl.out]; exact node_size) 71 _ d4.out (by simp) hZ1.out ?_))
   refine bodyPost_ret (results_row_tmp rfl _ _ w.heap.size 71 Z.toArray (0, 0) _ rfl (setRow_heap _ _ _ _ 71 (0, 0) d4.out) Try.underlying71 rfl (by simp only [List.size_toArray]; rw [hZl.out]; exact node_size)) rfl ?_
   exact ⟨.slice none 0 0, by rw [hz2.out]; rfl, World.ownsRow_nil _ _ _ _, kall4.out.setRowNew (Nat.le_refl _) _⟩
  | some n =>
   rw [hn] at hrd
   have hok := nodeAt_ok h hn
   have hrd' := h_ hrd
   have hop := h_ (fun w => open_node (w := w) hok)
   obtain ⟨pc, hpc⟩ : ∃ pc, pageCells (pageOf n) = pc := ⟨_, rfl⟩
   dsimp only at hrd'
   rw [hpc] at hrd' hop
   have hpl : Hid (pc.length = 256) := h_ (by rw [← hpc]; exact pageCells_len _)
   have hp1 : Hid (∀ v ∈ pc, v.oneCell' = true) := h_ (by rw [← hpc]; exact pageCells_one _)
   clear h h1 hh k1 d1 s1 hw1 hn hrd hget hZ hpc hdb hj4 hok
   go_enter Try.func42, Try.ntmps42
   go_wp2_with (first | (refine wpList_alloc_as 71 rfl rfl Z.toArray hZz.out ?_; rw [hw1'.out]))
   refine hf.out.mono ?_
   rintro e w' ⟨rfl, rfl⟩
   go_wp2_with fail
   refine hrd'.out.mono ?_
   rintro e w2 ⟨rfl, hk2⟩
   have d2 := hk2.get d1'.out id
   obtain ⟨w3, hw3⟩ : ∃ w3, (w2.alloc (.cells (pageCells zeroPage).toArray 98)).setRow w2.heap.size pc.toArray = w3 := ⟨_, rfl⟩
   have k3 : Kept (fun _ => False) w2 w3 := by rw [← hw3]; exact ((Kept.refl _ _).alloc _).setRowNew (Nat.le_refl _) _
   have q3 := h_ (show w3.heap[w2.heap.size]? = some (.cells pc.toArray 98 (0, 0)) by rw [← hw3]; exact setRow_heap _ _ _ _ _ _ (heap_alloc_new _ _))
   have d3 := h_ (k3.get d2 id)
   have kall3 := h_ ((k1'.out.trans hk2).trans k3)
   have hw3' := h_ hw3
   have hs3 := h_ (kall3.out.size)
   have hs1w : w.heap.size < w3.heap.size := lt_of_heap d3.out
   clear hk2 d2 k3 hw3
   go_wp2_with (first | (refine wpList_alloc_as 98 rfl rfl (pageCells zeroPage).toArray hPz.out ?_) | (refine wpList_store_whole 98 rfl rfl rfl pc rfl (by rw [hpl.out]; exact page_size) 98 _ (heap_alloc_new _ _) (by simp [hpl.out, pageCells_len]) hp1.out ?_; rw [hw3'.out]) | (refine wpList_load_agg 98 rfl rfl rfl _ Try.underlying98 rfl pc (by rw [hpl.out]; exact page_size) (fun j v hv => by rw [cell_of_heap q3.out, Nat.zero_add]; simpa using hv) ?_))
   refine (hop.out _).mono ?_
   rintro e w4 ⟨v, rfl, hown4, hk4⟩
   obtain ⟨A4, cap4, rfl, _, _⟩ := EntsAt.form (show EntsAt w4 v n.ents from SliceAt.of_owns hown4)
   obtain ⟨F, hF⟩ : ∃ F, nodeCells n (.slice A4 n.ents.length cap4) = F := ⟨_, rfl⟩
   have hFl : Hid (F.length = 18) := h_ (by rw [← hF]; exact nodeCells_len _ _)
   have hF1 : Hid (∀ v ∈ F, v.oneCell' = true) := h_ (by rw [← hF]; exact nodeCells_one _ _ _ _)
   have d4 := h_ (hk4.get d3.out id)
   have kall4 := h_ (kall3.out.trans hk4)
   have hown4' := h_ hown4
   rw [hF]
   have hF' := h_ hF
   clear hk4 hown4 hF
   go_wp2_with (first | (refine wpList_store_whole 71 rfl rfl rfl F rfl (by rw [hFl.out]; exact node_size) 71 _ d4.out (by simp [hFl.out, hZl.out]) hF1.out ?_))
   refine bodyPost_ret (results_row_tmp rfl _ _ w.heap.size 71 F.toArray (0, 0) _ rfl (setRow_heap _ _ _ _ 71 (0, 0) d4.out) Try.underlying71 rfl (by simp only [List.size_toArray]; rw [hFl.out]; exact node_size)) rfl ?_
   have kS := (Kept.refl (fun i => i = w.heap.size) w4).setRow rfl F.toArray
   exact ⟨.slice A4 n.ents.length cap4, by rw [hF'.out]; rfl, owns_weaken (ownsRow.keptOf hown4'.out kS (fun g hg e => by have := (hown4'.out.lt g hg).1; omega)) (by omega), kall4.out.setRowNew (Nat.le_refl _) _⟩
 ·have hh' : M.pool.heldB i = false := by simpa using hh
  rw [hh'] at hf
  have hget : M.get i = (.zero, 73) := by unfold SM.get; rw [if_neg hh]
  rw [hget]
  have k1' := h_ k1
  have d1' := h_ d1
  have hw1' := h_ hw1
  have hz2 : Hid (nodeCells NM.zero (.slice none 0 0) = Z) := h_ hZ
  clear h h1 hh hh' k1 d1 s1 hw1 hget hZ
  go_enter Try.func42, Try.ntmps42
  go_wp2_with (first | (refine wpList_alloc_as 71 rfl rfl Z.toArray hZz.out ?_; rw [hw1'.out]))
  refine hf.out.mono ?_
  rintro e w' ⟨rfl, rfl⟩
  go_wp2_with (first | (refine wpList_exec rfl (exec_build 71 #[] _ rfl (by simp) (hbz.out _)) ?_) | (refine wpList_store_whole 71 rfl rfl rfl Z rfl (by rw [hZl.out]; exact node_size) 71 _ d1'.out (by simp) hZ1.out ?_))
  refine bodyPost_ret (results_row_tmp rfl _ _ w.heap.size 71 Z.toArray (0, 0) _ rfl (setRow_heap _ _ _ _ 71 (0, 0) d1'.out) Try.underlying71 rfl (by simp only [List.size_toArray]; rw [hZl.out]; exact node_size)) rfl ?_
  exact ⟨.slice none 0 0, by rw [hz2.out]; rfl, World.ownsRow_nil _ _ _ _, k1'.out.setRowNew (Nat.le_refl _) _⟩

theorem StoreAt.pooled {w w' : World} {A : SA} {M : SM} {p' : PM} (h : StoreAt w A M) (k : PoolTo A.pb p' w w') (hs : p'.size = M.pool.size) : StoreTo A A { M with pool := p' } w w' := by
 have hd : ∀ i, (A.disk M).own i → ¬ i = A.pb := fun i hi e => h.offP (e ▸ hi)
 refine ⟨⟨k.kept.get h.head h.ne, h.disk.kept k.kept hd, k.pool, h.offS, h.offP, h.ne, by rw [show ({ M with pool := p' } : SM).pool.size = M.pool.size from hs]; exact h.room, h.right⟩, k.kept.mono fun i e => .inr (.inl e), fun i hi => .inl hi, rfl, rfl, rfl⟩
theorem holdTo_size (p : PM) (i : Int) : (p.holdTo i).size = p.size := by unfold PM.holdTo; split <;> rfl
theorem storeHold {w : World} {A : SA} {M : SM} (h : StoreAt w A M) (i : Int) :
  Calls Try.prog 14 #[.pointer (some ⟨A.sb, 0, none⟩), .int .i64 i] w fun e w' => e = .returned (.int .i64 (M.hold i).2) ∧ StoreTo A A (M.hold i).1 w w' := by
 have c1 := cell_of_heap h.head 1
 simp at c1
 have hc := h_ (hold_all h.pool i)
 have hT := h_ (fun w' (k : PoolTo A.pb (M.pool.holdTo i) w w') => h.pooled k (holdTo_size _ _))
 clear h
 show Calls _ _ _ _ fun e w' => e = .returned (.int .i64 (M.pool.holdErr i)) ∧ _
 go_enter Try.func14, Try.ntmps14
 go_wp2_with fail
 refine hc.out.mono ?_
 rintro e w' ⟨rfl, hk⟩
 have hk' := h_ hk; clear hk
 go_wp2_with fail
 go_ret
 exact ⟨rfl, hT.out _ hk'.out⟩

def freeIx (p : PM) (l : List (Int × Int)) : Int := match l.findIdx? (fun x => !p.heldB x.2) with | some i => i | none => -1
theorem indexFree {w : World} {A : SA} {M : SM} (h : StoreAt w A M) {v : Value} {l : List (Int × Int)} (hv : SliceAt w v 1 l.length (pageCellsOf l)) :
  Calls Try.prog 56 #[v, .func (.func 38) #[.pointer (some ⟨A.sb, 0, none⟩)] #[]] w fun e w' => e = .returned (.int .i64 (freeIx M.pool l)) ∧ w = w' := by
 obtain ⟨Av, cap, rfl, hc1, hc2, hcell⟩ := hv.cells1
 unfold maxLen at hc2
 have hcell' := h_ hcell; clear hcell hv
 have hf := h_ (fun i => storeFree h i)
 clear h
 have hnone : Hid ((∀ x ∈ l, M.pool.heldB x.2 = true) → freeIx M.pool l = -1) := h_ (fun h => by
  unfold freeIx
  rw [List.findIdx?_eq_none_iff.2 (fun x hx => by simp [h x hx])])
 have hsome : Hid (∀ (k : Nat) (x : Int × Int), l[k]? = some x → M.pool.heldB x.2 = false → (∀ (j : Nat) (y : Int × Int), j < k → l[j]? = some y → M.pool.heldB y.2 = true) → freeIx M.pool l = k) := h_ (fun k x hx hb hp => by
  obtain ⟨hk, hxe⟩ := List.getElem?_eq_some_iff.1 hx
  unfold freeIx
  rw [List.findIdx?_eq_some_iff_getElem.2 ⟨hk, by rw [hxe]; simp [hb], fun j hj => by simp [hp j (l[j]'(by omega)) hj (List.getElem?_eq_getElem (by omega))]⟩])
 go_enter Try.func56, Try.ntmps56
 go_wp2_with fail
 go_loop [8] (fun i => ∃ k : Nat, k ≤ l.length ∧ i = .int .i64 k ∧ Hid (∀ (j : Nat) (y : Int × Int), j < k → l[j]? = some y → M.pool.heldB y.2 = true)) (fun i => l.length - (intOf i).toNat)
 case atStart => exact ⟨0, Nat.zero_le _, rfl, h_ (fun j _ hj => by omega)⟩
 case round =>
  obtain ⟨k, hk, rfl, hpre⟩ := hrel
  by_cases hlt : k < l.length
  ·obtain ⟨x, hx⟩ : ∃ x, l[k]? = some x := ⟨_, List.getElem?_eq_getElem hlt⟩
   obtain ⟨b, off, rfl, hcb⟩ := hcell'.out k (.int .i64 x.2) (by simp [pageCellsOf, hx])
   have hfx := h_ (hf.out x.2)
   obtain ⟨z, hz⟩ : ∃ z, M.pool.heldB x.2 = z := ⟨_, rfl⟩
   rw [hz] at hfx
   have hz' := h_ hz
   have hx' := h_ hx
   clear hz hx
   cases z
   ·go_wp2_with fail
    refine hfx.out.mono ?_
    rintro e w' ⟨rfl, rfl⟩
    go_wp2_with fail
    go_ret
    exact ⟨by rw [hsome.out k x hx'.out hz'.out hpre.out]; rfl, rfl⟩
   ·go_wp2_with fail
    refine hfx.out.mono ?_
    rintro e w' ⟨rfl, rfl⟩
    go_wp2_with fail
    go_round
    case rel => exact ⟨k + 1, by omega, by go_num, h_ (fun j y hj hy => by
     rcases Nat.lt_or_ge j k with h1 | h1
     ·exact hpre.out j y h1 hy
     ·obtain rfl : j = k := by omega
      rw [hx'.out] at hy
      cases hy
      exact hz'.out)⟩
    case measure => simp [intOf]; omega
  ·obtain rfl : k = l.length := by omega
   go_wp2_with fail
   go_ret
   exact ⟨by rw [hnone.out (fun x hx => by obtain ⟨j, hj, rfl⟩ := List.getElem_of_mem hx; exact hpre.out j _ hj (List.getElem?_eq_getElem hj))]; rfl, rfl⟩
theorem freeIx_neg (p : PM) (l : List (Int × Int)) : decide (0 ≤ freeIx p l) = l.any (fun x => !p.heldB x.2) ∧ -1 ≤ freeIx p l := by
 unfold freeIx
 cases h : l.findIdx? (fun x => !p.heldB x.2) with
 | none =>
  have := List.findIdx?_eq_none_iff.1 h
  refine ⟨?_, by show (-1 : Int) ≤ -1; omega⟩
  have : l.any (fun x => !p.heldB x.2) = false := by rw [List.any_eq_false]; intro x hx; simpa using this x hx
  rw [this]; rfl
 | some i =>
  obtain ⟨hi, hp, _⟩ := List.findIdx?_eq_some_iff_getElem.1 h
  refine ⟨?_, by show (-1 : Int) ≤ (i : Int); omega⟩
  have : l.any (fun x => !p.heldB x.2) = true := List.any_eq_true.2 ⟨_, List.getElem_mem hi, hp⟩
  rw [this]; simp
theorem containsFree {w : World} {A : SA} {M : SM} (h : StoreAt w A M) {v : Value} {l : List (Int × Int)} (hv : SliceAt w v 1 l.length (pageCellsOf l)) :
  Calls Try.prog 36 #[v, .func (.func 38) #[.pointer (some ⟨A.sb, 0, none⟩)] #[]] w fun e w' => e = .returned (.bool (l.any fun x => !M.pool.heldB x.2)) ∧ w = w' := by
 have hi := h_ (indexFree h hv)
 obtain ⟨e1, e2⟩ := freeIx_neg M.pool l
 rw [← e1]
 obtain ⟨x, hx⟩ : ∃ x, freeIx M.pool l = x := ⟨_, rfl⟩
 rw [hx] at hi e2 ⊢
 clear hx e1
 obtain ⟨Av, cap, rfl, _⟩ := hv.cells1
 clear hv h
 go_enter Try.func36, Try.ntmps36
 go_wp2_with fail
 refine hi.out.mono ?_
 rintro e w' ⟨rfl, rfl⟩
 go_wp2_with fail
 go_ret
 exact ⟨rfl, rfl⟩

theorem make_bad {M : SM} {n : NM} (h : n.rightB = false) : M.make n = (M, -1, 81) := by unfold SM.make; rw [if_neg (by simp [h])]
theorem make_free {M : SM} {n : NM} (h : n.rightB = true) (hf : n.ents.any (fun x => !M.pool.heldB x.2) = true) : M.make n = (M, -1, 73) := by unfold SM.make; rw [if_pos h, if_pos hf]
theorem make_none {M : SM} {n : NM} (h : n.rightB = true) (hf : n.ents.any (fun x => !M.pool.heldB x.2) = false) (ht : M.pool.takeIx = none) : M.make n = (M, -1, 71) := by
 unfold SM.make; rw [if_pos h, if_neg (by simp [hf]), ht]
theorem make_some {M : SM} {n : NM} {i : Nat} (h : n.rightB = true) (hf : n.ents.any (fun x => !M.pool.heldB x.2) = false) (ht : M.pool.takeIx = some i) :
  M.make n = ({ pool := (holds (M.pool.setSt i 1) (n.ents.map (·.2))).1, log := M.log ++ [(i, n)] }, if (holds (M.pool.setSt i 1) (n.ents.map (·.2))).2 = 0 then (i : Int) else -1, (holds (M.pool.setSt i 1) (n.ents.map (·.2))).2) := by
 unfold SM.make; rw [if_pos h, if_neg (by simp [hf]), ht]
theorem holds_cons (p : PM) (c : Int) (l : List Int) : holds p (c :: l) = if p.holdErr c = 0 then holds (p.holdTo c) l else (p, p.holdErr c) := rfl
theorem holds_append (a b : List Int) : ∀ p, holds p (a ++ b) = if (holds p a).2 = 0 then holds (holds p a).1 b else holds p a := by
 induction a with
 | nil => intro p; simp [holds]
 | cons c a ih =>
  intro p
  rw [List.cons_append, holds_cons, holds_cons]
  by_cases h : p.holdErr c = 0
  ·rw [if_pos h, if_pos h, ih]
  ·rw [if_neg h, if_neg h]; simp [h]
theorem holds_next {p q : PM} {l : List (Int × Int)} {k : Nat} {x : Int × Int} (hp : holds p ((l.take k).map (·.2)) = (q, 0)) (hx : l[k]? = some x) :
  (q.holdErr x.2 = 0 → holds p ((l.take (k + 1)).map (·.2)) = (q.holdTo x.2, 0)) ∧ (q.holdErr x.2 ≠ 0 → holds p (l.map (·.2)) = (q, q.holdErr x.2)) := by
 have h1 : (l.take (k + 1)).map (·.2) = (l.take k).map (·.2) ++ [x.2] := by rw [List.take_add_one, hx]; simp
 have h2 : l.map (·.2) = (l.take k).map (·.2) ++ x.2 :: (l.drop (k + 1)).map (·.2) := by
  obtain ⟨hk, he⟩ := List.getElem?_eq_some_iff.1 hx
  conv => lhs; rw [← List.take_append_drop k l, List.drop_eq_getElem_cons hk, he]
  simp
 refine ⟨fun h => ?_, fun h => ?_⟩
 ·rw [h1, holds_append, hp, if_pos rfl]
  simp [holds, h]
 ·rw [h2, holds_append, hp, if_pos rfl]
  unfold holds
  rw [if_neg h]
theorem holdTo_bad {p : PM} {i : Int} (h : p.holdErr i ≠ 0) : p.holdTo i = p := by
 unfold PM.holdErr at h
 unfold PM.holdTo
 by_cases h1 : p.heldB i = true
 ·rw [if_pos h1] at h
  by_cases h2 : p.cnt i.toNat < 255
  ·rw [if_pos h2] at h; exact absurd rfl h
  ·rw [if_neg (by simp [h2])]
 ·rw [if_neg (by simp [h1])]

theorem StoreAt.wrote {w w' : World} {A : SA} {M : SM} {i : Nat} {n : NM} {pv : Value} (h : StoreAt w A M) (hok : n.ok) (k : DiskTo (A.disk M) ((A.disk M).put (i + 4) (pageOf n) pv) w w') :
  StoreTo A { A with pv := pv } { M with log := M.log ++ [(i, n)] } w w' := by
 have hd : SA.disk { A with pv := pv } { M with log := M.log ++ [(i, n)] } = (A.disk M).put (i + 4) (pageOf n) pv := by simp [SA.disk, DM.put, wrOf]
 have hsb := lt_of_heap h.head
 have hpb := lt_of_heap h.pool.heap
 have off : ∀ j, j < w.heap.size → ¬ (A.disk M).own j → ¬ ((A.disk M).put (i + 4) (pageOf n) pv).own j := by
  intro j hj hn ho
  rcases ho with (e | e) | e | e
  ·exact hn (.inl (.inl e))
  ·rcases k.pv j e with e2 | e2
   ·exact hn (.inl (.inr e2))
   ·omega
  ·exact hn (.inr (.inl e))
  ·exact hn (.inr (.inr e))
 refine ⟨⟨k.kept.get h.head (fun e => h.offS (.inl e)), by rw [hd]; exact k.disk, h.pool.kept k.kept (fun e => h.offP (.inl e)), by rw [hd]; exact off _ hsb h.offS, by rw [hd]; exact off _ hpb h.offP, h.ne, h.room, ?_⟩, k.kept.mono ?_, ?_, rfl, rfl, rfl⟩
 ·intro x hx
  rcases List.mem_append.1 hx with hx | hx
  ·exact h.right x hx
  ·simp at hx; subst hx; exact hok
 ·rintro j (e | e)
  ·exact .inr (.inr (.inl e))
  ·exact .inr (.inr (.inr e))
 ·rintro j (e | e | e | e)
  ·exact .inl (.inl e)
  ·exact .inl (.inr (.inl e))
  ·exact .inl (.inr (.inr (.inl e)))
  ·rcases k.pv j e with e2 | e2
   ·exact .inl (.inr (.inr (.inr e2)))
   ·exact .inr e2

set_option maxHeartbeats 2000000 in
theorem makeBad {w : World} {A : SA} {M : SM} (h : StoreAt w A M) {n : NM} {sv : Value} (hv : EntsAt w sv n.ents) (hb : n.block.length = 16) (hbad : n.rightB = false) :
  Calls Try.prog 23 #[.pointer (some ⟨A.sb, 0, none⟩), .agg (nodeCells n sv).toArray] w fun e w' => ∃ A', e = .returned (.tuple #[.int .i64 (M.make n).2.1, .int .i64 (M.make n).2.2]) ∧ StoreTo A A' (M.make n).1 w w' := by
 rw [make_bad hbad]
 obtain ⟨A0, cap, rfl, hc1, hc2⟩ := hv.form
 unfold maxLen at hc2
 obtain ⟨cs, hcs⟩ : ∃ cs, nodeCells n (.slice A0 n.ents.length cap) = cs := ⟨_, rfl⟩
 obtain ⟨w1, hw1⟩ : ∃ w1, w.alloc (.cells cs.toArray 71) = w1 := ⟨_, rfl⟩
 have k1 : Kept (fun _ => False) w w1 := by rw [← hw1]; exact (Kept.refl _ _).alloc _
 have bx1 : NodeBox w1 w.heap.size n (.slice A0 n.ents.length cap) := ⟨by rw [hcs, ← hw1]; exact heap_alloc_new _ _⟩
 have hLc : Hid (cs.length = 18) := h_ (by rw [← hcs]; exact nodeCells_len _ _)
 have hall : Hid (∀ j v, cs[j]? = some v → w1.cell? ⟨w.heap.size, 0 + j, none⟩ = some v) := h_ (by rw [← hcs]; exact bx1.all)
 have hP := page_bad (SliceAt.fresh hv k1) hb hbad
 obtain ⟨zs, hzs⟩ : ∃ zs, pageCells zeroPage = zs := ⟨_, rfl⟩
 have hLz : Hid (zs.length = 256) := h_ (by rw [← hzs]; exact pageCells_len _)
 have hZ1 : Hid (∀ v ∈ zs, v.oneCell' = true) := h_ (by rw [← hzs]; exact pageCells_one _)
 have hZ : Hid ((Try.prog.info? 98).map (·.zero) = some (some (.agg zs.toArray))) := h_ (by rw [← hzs]; exact page_zero)
 rw [hcs, hzs] at hP
 have hP' := h_ hP
 rw [hcs]
 have k1' := h_ k1
 have hw1' := h_ hw1
 have h' := h_ h
 clear hP hcs hzs hw1 k1 bx1 h hv hb hbad
 go_enter Try.func23, Try.ntmps23
 go_wp2_with (first | (refine wpList_box_named 71 rfl rfl _ rfl hw1'.out ?_) | (refine wpList_load_agg 71 rfl rfl rfl _ Try.underlying71 rfl cs (by rw [hLc.out]; exact node_size) hall.out ?_))
 refine hP'.out.mono ?_
 rintro e w2 ⟨rfl, hk2⟩
 have hk3 := h_ (((k1'.out.trans hk2).alloc (.cells zs.toArray 98)).setRowNew (g := w2.heap.size) (k1'.out.trans hk2).size zs.toArray)
 clear hk2
 go_wp2_with (first | (refine wpList_alloc_as 98 rfl rfl zs.toArray hZ.out ?_) | (refine wpList_store_whole 98 rfl rfl rfl zs rfl (by rw [hLz.out]; exact page_size) 98 _ (heap_alloc_new _ _) (by simp) hZ1.out ?_))
 go_ret2
 exact ⟨A, rfl, (StoreTo.refl h'.out).fresh hk3.out⟩

set_option maxHeartbeats 4000000 in
theorem makeGood {w : World} {A : SA} {M : SM} (h : StoreAt w A M) {n : NM} {sv : Value} (hv : EntsOff w A sv n.ents) (hok : n.ok) (hfew : M.log.length < 100000000) :
  Calls Try.prog 23 #[.pointer (some ⟨A.sb, 0, none⟩), .agg (nodeCells n sv).toArray] w fun e w' => ∃ A', e = .returned (.tuple #[.int .i64 (M.make n).2.1, .int .i64 (M.make n).2.2]) ∧ StoreTo A A' (M.make n).1 w w' := by
 obtain ⟨A0, cap, rfl, hc1, hc2⟩ := hv.at_.form
 unfold maxLen at hc2
 have hlen6 : n.ents.length ≤ 6 := by
  have h1 := hok.1
  unfold NM.rightB at h1
  split at h1
  ·simp at h1; simp [h1]
  ·split at h1
   ·simp only [Bool.and_eq_true, risesB, decide_eq_true_eq] at h1; exact h1.2.2
   ·cases h1
 obtain ⟨cs, hcs⟩ : ∃ cs, nodeCells n (.slice A0 n.ents.length cap) = cs := ⟨_, rfl⟩
 obtain ⟨w1, hw1⟩ : ∃ w1, w.alloc (.cells cs.toArray 71) = w1 := ⟨_, rfl⟩
 have k1 : Kept (fun _ => False) w w1 := by rw [← hw1]; exact (Kept.refl _ _).alloc _
 have bx1 : NodeBox w1 w.heap.size n (.slice A0 n.ents.length cap) := ⟨by rw [hcs, ← hw1]; exact heap_alloc_new _ _⟩
 have hLc : Hid (cs.length = 18) := h_ (by rw [← hcs]; exact nodeCells_len _ _)
 have hall : Hid (∀ j v, cs[j]? = some v → w1.cell? ⟨w.heap.size, 0 + j, none⟩ = some v) := h_ (by rw [← hcs]; exact bx1.all)
 have hP := page_ok (SliceAt.fresh hv.at_ k1) hok
 have hCh := h_ (fun (W : World) (k : Kept (fun _ => False) w1 W) => children_any (n := n) ((SliceAt.fresh hv.at_ k1).fresh k) (by omega))
 obtain ⟨pc, hpc⟩ : ∃ pc, pageCells (pageOf n) = pc := ⟨_, rfl⟩
 have hpl : Hid (pc.length = 256) := h_ (by rw [← hpc]; exact pageCells_len _)
 have hp1 : Hid (∀ v ∈ pc, v.oneCell' = true) := h_ (by rw [← hpc]; exact pageCells_one _)
 have hPz : Hid ((Try.prog.info? 98).map (·.zero) = some (some (.agg (pageCells zeroPage).toArray))) := h_ page_zero
 rw [hcs] at hP hCh
 rw [hpc] at hP
 have hP' := h_ hP
 rw [hcs]
 have hcs' := h_ hcs
 have k1' := h_ k1
 have hw1' := h_ hw1
 have h' := h_ h
 have hv' := h_ hv
 have hok' := h_ hok
 have bx1' := h_ bx1
 have hpc' := h_ hpc
 have hfew' := h_ hfew
 have hsbt := h_ (fun k (hk : A.own k) => h.lt hk)
 clear hP hcs hpc hw1 k1 bx1 h hv hok hfew
 go_enter Try.func23, Try.ntmps23
 go_wp2_with (first | (refine wpList_box_named 71 rfl rfl _ rfl hw1'.out ?_) | (refine wpList_load_agg 71 rfl rfl rfl _ Try.underlying71 rfl cs (by rw [hLc.out]; exact node_size) hall.out ?_))
 refine hP'.out.mono ?_
 rintro e w2 ⟨rfl, hk2⟩
 obtain ⟨w3, hw3⟩ : ∃ w3, (w2.alloc (.cells (pageCells zeroPage).toArray 98)).setRow w2.heap.size pc.toArray = w3 := ⟨_, rfl⟩
 have k3 : Kept (fun _ => False) w2 w3 := by rw [← hw3]; exact ((Kept.refl _ _).alloc _).setRowNew (Nat.le_refl _) _
 have q3 : w3.heap[w2.heap.size]? = some (.cells pc.toArray 98 (0, 0)) := by rw [← hw3]; exact setRow_heap _ _ _ _ _ _ (heap_alloc_new _ _)
 have k13 := hk2.trans k3
 have bx3 := bx1'.out.kept k13 id
 have hall3 : Hid (∀ j v, cs[j]? = some v → w3.cell? ⟨w.heap.size, 0 + j, none⟩ = some v) := h_ (by rw [← hcs'.out]; exact bx3.all)
 have hC3 := h_ (hCh.out w3 k13)
 have q3' := h_ q3
 have bx3' := h_ bx3
 have k03 := h_ (k1'.out.trans k13)
 have hw3' := h_ hw3
 have hs2 := h_ (show w.heap.size < w2.heap.size from lt_of_heap ((bx1'.out.kept hk2 id).heap))
 clear hk2 k3 q3 k13 bx3 hw3
 go_wp2_with (first | (refine wpList_alloc_as 98 rfl rfl (pageCells zeroPage).toArray hPz.out ?_) | (refine wpList_store_whole 98 rfl rfl rfl pc rfl (by rw [hpl.out]; exact page_size) 98 _ (heap_alloc_new _ _) (by simp [hpl.out, pageCells_len]) hp1.out ?_; rw [hw3'.out]) | (refine wpList_load_agg 71 rfl rfl rfl _ Try.underlying71 rfl cs (by rw [hLc.out]; exact node_size) hall3.out ?_))
 refine hC3.out.mono ?_
 rintro e w4 ⟨u, rfl, hown4, hk4⟩
 have h4 := h'.out.fresh (k03.out.trans hk4)
 have hcf := h_ (containsFree h4 (SliceAt.of_owns hown4))
 have q4 := h_ (hk4.get q3'.out id)
 have bx4 := h_ (bx3'.out.kept hk4 id)
 have k04 := h_ (k03.out.trans hk4)
 have h4' := h_ h4
 have c4 := cell_of_heap h4.head 1
 simp at c4
 have hT := h_ (take_all h4.pool)
 obtain ⟨z, hz⟩ : ∃ z, (n.ents.any fun x => !M.pool.heldB x.2) = z := ⟨_, rfl⟩
 rw [hz] at hcf
 have hz' := h_ hz
 clear hk4 hown4 h4 hz
 go_wp2_with fail
 refine hcf.out.mono ?_
 rintro e w' ⟨rfl, rfl⟩
 cases z
 ·-- taken
  cases ht : M.pool.takeIx with
  | none =>
   have e1 : M.pool.takeAns = 0 := by unfold PM.takeAns; rw [ht]; rfl
   have e2 : M.pool.takeErr = 71 := by unfold PM.takeErr; rw [ht]
   have e3 : M.pool.takeTo = M.pool := by unfold PM.takeTo; rw [ht]
   have hT1 := hT.out
   rw [e1, e2, e3] at hT1
   have hT' := h_ hT1
   have ht' := h_ ht
   clear e1 e2 e3 hT1 ht hT
   go_wp2_with fail
   refine hT'.out.mono ?_
   rintro e w5 ⟨rfl, hk5⟩
   have hst5 := h_ ((StoreTo.refl h'.out).fresh k04.out |>.trans (h4'.out.pooled hk5 rfl))
   clear hk5
   go_wp2_with fail
   go_ret2
   exact ⟨A, by rw [make_none hok'.out.1 hz'.out ht'.out]; rfl, by rw [make_none hok'.out.1 hz'.out ht'.out]; exact hst5.out⟩
  | some i =>
   have e1 : M.pool.takeAns = i := by unfold PM.takeAns; rw [ht]; rfl
   have e2 : M.pool.takeErr = 0 := by unfold PM.takeErr; rw [ht]
   have e3 : M.pool.takeTo = M.pool.setSt i 1 := by unfold PM.takeTo; rw [ht]
   have hisz := (PM.takeN_some ht).1
   have hi4 : i + 4 < A.n := by have := h'.out.room; omega
   have hi240 : i < 240 := by have := h'.out.pool.hsize; omega
   have hT1 := hT.out
   rw [e1, e2, e3] at hT1
   have hT' := h_ hT1
   have ht' := h_ ht
   clear e1 e2 e3 hT1 ht hT hisz
   go_wp2_with fail
   refine hT'.out.mono ?_
   rintro e w5 ⟨rfl, hk5⟩
   have hst5 := h_ (((StoreTo.refl h'.out).fresh k04.out).trans (h4'.out.pooled hk5 rfl))
   have hoff : ∀ b, w.heap.size ≤ b → ¬ b = A.pb := fun b hb e => by have := hsbt.out A.pb (.inl (.inr (.inl rfl))); omega
   have bx5 := h_ (bx4.out.kept hk5.kept (hoff _ (Nat.le_refl _)))
   have q5 := hk5.kept.get q4.out (hoff _ (Nat.le_of_lt hs2.out))
   have r5 : Hid (w5.drew.rangeAt w2.heap.size 0 pc) := h_ ((World.rangeAt_drew _ _ _ _).2 (fun j v hj => by rw [cell_of_heap q5, Nat.zero_add]; simpa using hj))
   have c5 : Hid (w5.drew.cell? ⟨A.sb, 0, none⟩ = some (.pointer (some ⟨A.db, 0, none⟩))) := h_ (by rw [World.cell?_drew, cell_of_heap hst5.out.store.head]; rfl)
   have hdisk : DiskAt w5.drew (A.disk { M with pool := M.pool.setSt i 1 }) := hst5.out.store.disk.fresh ((Kept.refl _ _).drew)
   have hwr0 := diskWrite_ok hdisk (by simpa [SA.disk] using hfew'.out) (i + 4) hi4 (pageOf n)
   rw [hpc'.out, show ((i + 4 : Nat) : Int) = (i : Int) + 4 by omega] at hwr0
   have hwr := h_ hwr0
   have hst5d := hst5.out.fresh ((Kept.refl _ w5).drew)
   have hst5 := h_ hst5d
   have hwrote := h_ (fun pv W (k : DiskTo (A.disk { M with pool := M.pool.setSt i 1 }) ((A.disk { M with pool := M.pool.setSt i 1 }).put (i + 4) (pageOf n) pv) w5.drew W) => hst5d.store.wrote hok'.out k)
   have hkD := h_ (fun pv W (k : DiskTo (A.disk { M with pool := M.pool.setSt i 1 }) ((A.disk { M with pool := M.pool.setSt i 1 }).put (i + 4) (pageOf n) pv) w5.drew W) => k.kept)
   have hofft : Hid (¬ DM.foot (A.disk { M with pool := M.pool.setSt i 1 }) w.heap.size) := h_ (fun e => by have := hsbt.out w.heap.size (SA.own_disk (M := { M with pool := M.pool.setSt i 1 }) (.inl e)); omega)
   have hpb := h_ (hsbt.out A.pb (.inl (.inr (.inl rfl))))
   have bx5 := h_ (bx5.out.kept ((Kept.refl (fun _ => False) w5).drew) id)
   have hw4 : IntKind.i64.wrap ((i : Int) + 4) = (i : Int) + 4 := IntWalk.i64_in _ (by omega)
   clear hk5 hoff q5 hdisk hwr0 hst5d
   go_wp2_with fail
   refine wp_region_any (by kernel_rfl) ?_
   change wpAny _ _ _ _ _ _ _ (World.drew _)
   refine wpAny_take (i := 0) (v := .pointer (some ⟨A.sb, 0, none⟩)) rfl (by kernel_rfl) (by kernel_rfl) (by kernel_rfl) (fun _ _ _ h => h) (.inl ⟨by rfl, fun w => by go_simp⟩) ?_
   simp only [Act.put, q1_, q2_, q3_, List.setIfInBounds_toArray, q5_, q6_]
   refine wpAny_take (i := 1) (v := .pointer (some ⟨A.sb, 0, none⟩)) rfl (by kernel_rfl) (by kernel_rfl) (by kernel_rfl) (fun _ _ _ h => h) (.inl ⟨by rfl, fun w => by go_simp⟩) ?_
   simp only [Act.put, q1_, q2_, q3_, List.setIfInBounds_toArray, q5_, q6_]
   refine wpAny_take (i := 2) (v := .pointer (some ⟨A.sb, 0, none⟩)) rfl (by kernel_rfl) (by kernel_rfl) (by kernel_rfl) (fun _ _ _ h => h) (.inl ⟨by rfl, fun w => by go_simp⟩) ?_
   simp only [Act.put, q1_, q2_, q3_, List.setIfInBounds_toArray, q5_, q6_]
   refine wpAny_take (i := 4) (v := .int .i64 i) rfl (by kernel_rfl) (by kernel_rfl) (by kernel_rfl) (fun _ _ _ h => h) (.inl ⟨by rfl, fun w => by go_simp⟩) ?_
   simp only [Act.put, q1_, q2_, q3_, List.setIfInBounds_toArray, q5_, q6_]
   refine wpAny_take (i := 5) (v := .int .i64 (i + 4)) rfl (by kernel_rfl) (by kernel_rfl) (by kernel_rfl) (fun _ _ _ h => h) (.inl ⟨by rfl, fun w => by go_simp⟩) ?_
   simp only [Act.put, q1_, q2_, q3_, List.setIfInBounds_toArray, q5_, q6_]
   refine wpAny_ready (rs := [3, 6]) (by kernel_rfl) (by simp) ?_
   refine AllReady.cons rfl (fun K hK => ?_) ?_
   ·rw [if_pos (by rfl)]
    simp only [Go.wp_at_zero, Go.wp_at_succ]
    refine wp_exec (exec_load1 (ty := 62) (x := .tmp 39) rfl (by rfl) (fun w => by simp [Try.isAgg62]) c5.out) ?_
    refine hK _ _ ?_
    clear hK K
    try simp only [Act.put, q1_, q2_, q3_, List.setIfInBounds_toArray, q5_, q6_]
    refine wpAny_ready (rs := [6]) (by kernel_rfl) (by simp) ?_
    refine AllReady.cons rfl (fun K hK => ?_) ?_
    ·rw [if_pos (by rfl)]
     simp only [Go.wp_at_zero, Go.wp_at_succ]
     refine wp_load_mid 98 (.tmp 6) rfl w2.heap.size 0 (by rfl) pc _ r5.out Try.underlying98 rfl (by rw [hpl.out]; exact page_size) ?_
     refine hK _ _ ?_
     clear hK K
     try simp only [Act.put, q1_, q2_, q3_, List.setIfInBounds_toArray, q5_, q6_]
     refine wpAny_ready (rs := [7]) (by kernel_rfl) (by simp) ?_
     refine AllReady.cons rfl (fun K hK => ?_) ?_
     ·rw [if_pos (by rfl)]
      simp only [Go.wp_at_zero, Go.wp_at_succ]
      go_simp
      refine hwr.out.mono ?_
      rintro e' w6 ⟨pv6, rfl, hT6⟩
      have hT6' := h_ (hst5.out.trans (hwrote.out _ _ hT6))
      have hk6 := h_ (hkD.out _ _ hT6)
      clear hT6
      refine hK _ _ ?_
      clear hK K
      try simp only [Act.put, q1_, q2_, q3_, List.setIfInBounds_toArray, q5_, q6_]
      refine wpAny_take (i := 8) (v := .int .i64 0) rfl (by kernel_rfl) (by kernel_rfl) (by kernel_rfl) (fun _ _ _ h => h) (.inl ⟨by rfl, fun w => by go_simp⟩) ?_
      simp only [Act.put, q1_, q2_, q3_, List.setIfInBounds_toArray, q5_, q6_]
      refine wpAny_done (by kernel_rfl) ?_ _
      have bx6 := h_ (bx5.out.kept hk6.out (by have := hofft.out; exact this))
      have hall6 : Hid (∀ j v, cs[j]? = some v → w6.cell? ⟨w.heap.size, 0 + j, none⟩ = some v) := h_ (by rw [← hcs'.out]; exact bx6.out.all)
      have hv6 := h_ (hv'.out.to hT6'.out)
      have hC6 := h_ (children_any (n := n) hv6.out.at_ (by omega))
      have hC6' := hC6.out
      rw [hcs'.out] at hC6'
      have hC7 := h_ hC6'
      clear hC6 hC6'
      go_wp2_with (first | (refine wpList_load_agg 71 rfl rfl rfl _ Try.underlying71 rfl cs (by rw [hLc.out]; exact node_size) hall6.out ?_))
      refine hC7.out.mono ?_
      rintro e w7 ⟨u7, rfl, hown7, hk7⟩
      have hT7 := h_ (hT6'.out.fresh hk7)
      obtain ⟨A7, cap7, rfl, hd1, hd2, hcell7⟩ := (SliceAt.of_owns hown7).cells1
      unfold maxLen at hd2
      have hown7' := h_ hown7
      have hblk7 : Hid (∀ k, A7.map Addr.block = some k → w6.heap.size ≤ k) := h_ (fun k hk => (hown7.lt k (by cases A7 <;> simp_all [Value.ownBlock])).1)
      have hcell7' := h_ hcell7
      have hs67 := hk7.size
      clear hk7 hown7 hcell7 hC7
      go_wp2_with fail
      go_loopw [51] (fun x wr => ∃ (k : Nat) (q : PM), k ≤ n.ents.length ∧ x = .int .i64 k ∧ Hid (holds (M.pool.setSt i 1) ((n.ents.take k).map (·.2)) = (q, 0)) ∧ Hid (StoreTo A { A with pv := pv6 } { pool := q, log := M.log ++ [(i, n)] } w wr) ∧ Hid (Kept (fun j => j = A.pb) w7 wr)) (fun x _ => n.ents.length - (intOf x).toNat)
      case atStart => exact ⟨0, _, Nat.zero_le _, rfl, h_ rfl, hT7, h_ (Kept.refl _ _)⟩
      case round =>
       obtain ⟨k, q, hk, rfl, hq, hTr, hkr⟩ := hrel
       by_cases hlt : k < n.ents.length
       ·obtain ⟨x, hx⟩ : ∃ x, n.ents[k]? = some x := ⟨_, List.getElem?_eq_getElem hlt⟩
        obtain ⟨b7, off7, rfl, hcb⟩ := hcell7'.out k (.int .i64 x.2) (by simp [pageCellsOf, hx])
        have hb7 := hblk7.out b7 rfl
        have hcb' := hkr.out.cell hcb (by have := hpb.out; have := hT6'.out.kept.size; simp; omega)
        have hh := hold_all hTr.out.store.pool x.2
        have hn1 := h_ (holds_next hq.out hx)
        have c8 := cell_of_heap hTr.out.store.head 1
        simp at c8
        dsimp only at hh
        obtain ⟨er, her⟩ : ∃ er, q.holdErr x.2 = er := ⟨_, rfl⟩
        rw [her] at hh hn1
        have hh' := h_ hh
        have her' := h_ her
        clear hcb hh hx her
        go_wp2_with fail
        refine hh'.out.mono ?_
        rintro e w8 ⟨rfl, hk8⟩
        have hT8 := h_ (hTr.out.trans (hTr.out.store.pooled hk8 (holdTo_size _ _)))
        have hk8' := h_ (hkr.out.trans hk8.kept)
        clear hk8
        by_cases h0 : er = 0
        ·subst h0
         go_wp2_with fail
         go_roundw
         case rel => exact ⟨k + 1, q.holdTo x.2, by omega, by go_num, h_ (hn1.out.1 (by simp)), hT8, hk8'⟩
         case measure => simp [intOf]; omega
        ·have h0' : ((er : Int) == 0) = false := by simp; omega
         have hend := h_ (hn1.out.2 h0)
         have hT8 := h_ (by have := hT8.out; rw [holdTo_bad (by rw [her'.out]; exact h0)] at this; exact this)
         have h0'' := h_ h0
         clear h0
         go_wp2_with fail
         go_ret2
         refine ⟨{ A with pv := pv6 }, ?_, ?_⟩
         ·rw [make_some hok'.out.1 hz'.out ht'.out, hend.out]; simp only [if_neg h0''.out]; rfl
         ·rw [make_some hok'.out.1 hz'.out ht'.out, hend.out]; exact hT8.out
       ·obtain rfl : k = n.ents.length := by omega
        have hq2 : Hid (holds (M.pool.setSt i 1) (n.ents.map (·.2)) = (q, 0)) := h_ (by have := hq.out; rwa [List.take_length] at this)
        go_wp2_with fail
        go_ret2
        refine ⟨{ A with pv := pv6 }, ?_, ?_⟩
        ·rw [make_some hok'.out.1 hz'.out ht'.out, hq2.out]; rfl
        ·rw [make_some hok'.out.1 hz'.out ht'.out, hq2.out]; exact hTr.out
     exact AllReady.nil
    exact AllReady.nil
   refine AllReady.cons rfl (fun K hK => ?_) ?_
   ·rw [if_pos (by rfl)]
    simp only [Go.wp_at_zero, Go.wp_at_succ]
    refine wp_load_mid 98 (.tmp 6) rfl w2.heap.size 0 (by rfl) pc _ r5.out Try.underlying98 rfl (by rw [hpl.out]; exact page_size) ?_
    refine hK _ _ ?_
    clear hK K
    try simp only [Act.put, q1_, q2_, q3_, List.setIfInBounds_toArray, q5_, q6_]
    refine wpAny_ready (rs := [3]) (by kernel_rfl) (by simp) ?_
    refine AllReady.cons rfl (fun K hK => ?_) ?_
    ·rw [if_pos (by rfl)]
     simp only [Go.wp_at_zero, Go.wp_at_succ]
     refine wp_exec (exec_load1 (ty := 62) (x := .tmp 39) rfl (by rfl) (fun w => by simp [Try.isAgg62]) c5.out) ?_
     refine hK _ _ ?_
     clear hK K
     try simp only [Act.put, q1_, q2_, q3_, List.setIfInBounds_toArray, q5_, q6_]
     refine wpAny_ready (rs := [7]) (by kernel_rfl) (by simp) ?_
     refine AllReady.cons rfl (fun K hK => ?_) ?_
     ·rw [if_pos (by rfl)]
      simp only [Go.wp_at_zero, Go.wp_at_succ]
      go_simp
      refine hwr.out.mono ?_
      rintro e' w6 ⟨pv6, rfl, hT6⟩
      have hT6' := h_ (hst5.out.trans (hwrote.out _ _ hT6))
      have hk6 := h_ (hkD.out _ _ hT6)
      clear hT6
      refine hK _ _ ?_
      clear hK K
      try simp only [Act.put, q1_, q2_, q3_, List.setIfInBounds_toArray, q5_, q6_]
      refine wpAny_take (i := 8) (v := .int .i64 0) rfl (by kernel_rfl) (by kernel_rfl) (by kernel_rfl) (fun _ _ _ h => h) (.inl ⟨by rfl, fun w => by go_simp⟩) ?_
      simp only [Act.put, q1_, q2_, q3_, List.setIfInBounds_toArray, q5_, q6_]
      refine wpAny_done (by kernel_rfl) ?_ _
      have bx6 := h_ (bx5.out.kept hk6.out (by have := hofft.out; exact this))
      have hall6 : Hid (∀ j v, cs[j]? = some v → w6.cell? ⟨w.heap.size, 0 + j, none⟩ = some v) := h_ (by rw [← hcs'.out]; exact bx6.out.all)
      have hv6 := h_ (hv'.out.to hT6'.out)
      have hC6 := h_ (children_any (n := n) hv6.out.at_ (by omega))
      have hC6' := hC6.out
      rw [hcs'.out] at hC6'
      have hC7 := h_ hC6'
      clear hC6 hC6'
      go_wp2_with (first | (refine wpList_load_agg 71 rfl rfl rfl _ Try.underlying71 rfl cs (by rw [hLc.out]; exact node_size) hall6.out ?_))
      refine hC7.out.mono ?_
      rintro e w7 ⟨u7, rfl, hown7, hk7⟩
      have hT7 := h_ (hT6'.out.fresh hk7)
      obtain ⟨A7, cap7, rfl, hd1, hd2, hcell7⟩ := (SliceAt.of_owns hown7).cells1
      unfold maxLen at hd2
      have hown7' := h_ hown7
      have hblk7 : Hid (∀ k, A7.map Addr.block = some k → w6.heap.size ≤ k) := h_ (fun k hk => (hown7.lt k (by cases A7 <;> simp_all [Value.ownBlock])).1)
      have hcell7' := h_ hcell7
      have hs67 := hk7.size
      clear hk7 hown7 hcell7 hC7
      go_wp2_with fail
      go_loopw [51] (fun x wr => ∃ (k : Nat) (q : PM), k ≤ n.ents.length ∧ x = .int .i64 k ∧ Hid (holds (M.pool.setSt i 1) ((n.ents.take k).map (·.2)) = (q, 0)) ∧ Hid (StoreTo A { A with pv := pv6 } { pool := q, log := M.log ++ [(i, n)] } w wr) ∧ Hid (Kept (fun j => j = A.pb) w7 wr)) (fun x _ => n.ents.length - (intOf x).toNat)
      case atStart => exact ⟨0, _, Nat.zero_le _, rfl, h_ rfl, hT7, h_ (Kept.refl _ _)⟩
      case round =>
       obtain ⟨k, q, hk, rfl, hq, hTr, hkr⟩ := hrel
       by_cases hlt : k < n.ents.length
       ·obtain ⟨x, hx⟩ : ∃ x, n.ents[k]? = some x := ⟨_, List.getElem?_eq_getElem hlt⟩
        obtain ⟨b7, off7, rfl, hcb⟩ := hcell7'.out k (.int .i64 x.2) (by simp [pageCellsOf, hx])
        have hb7 := hblk7.out b7 rfl
        have hcb' := hkr.out.cell hcb (by have := hpb.out; have := hT6'.out.kept.size; simp; omega)
        have hh := hold_all hTr.out.store.pool x.2
        have hn1 := h_ (holds_next hq.out hx)
        have c8 := cell_of_heap hTr.out.store.head 1
        simp at c8
        dsimp only at hh
        obtain ⟨er, her⟩ : ∃ er, q.holdErr x.2 = er := ⟨_, rfl⟩
        rw [her] at hh hn1
        have hh' := h_ hh
        have her' := h_ her
        clear hcb hh hx her
        go_wp2_with fail
        refine hh'.out.mono ?_
        rintro e w8 ⟨rfl, hk8⟩
        have hT8 := h_ (hTr.out.trans (hTr.out.store.pooled hk8 (holdTo_size _ _)))
        have hk8' := h_ (hkr.out.trans hk8.kept)
        clear hk8
        by_cases h0 : er = 0
        ·subst h0
         go_wp2_with fail
         go_roundw
         case rel => exact ⟨k + 1, q.holdTo x.2, by omega, by go_num, h_ (hn1.out.1 (by simp)), hT8, hk8'⟩
         case measure => simp [intOf]; omega
        ·have h0' : ((er : Int) == 0) = false := by simp; omega
         have hend := h_ (hn1.out.2 h0)
         have hT8 := h_ (by have := hT8.out; rw [holdTo_bad (by rw [her'.out]; exact h0)] at this; exact this)
         have h0'' := h_ h0
         clear h0
         go_wp2_with fail
         go_ret2
         refine ⟨{ A with pv := pv6 }, ?_, ?_⟩
         ·rw [make_some hok'.out.1 hz'.out ht'.out, hend.out]; simp only [if_neg h0''.out]; rfl
         ·rw [make_some hok'.out.1 hz'.out ht'.out, hend.out]; exact hT8.out
       ·obtain rfl : k = n.ents.length := by omega
        have hq2 : Hid (holds (M.pool.setSt i 1) (n.ents.map (·.2)) = (q, 0)) := h_ (by have := hq.out; rwa [List.take_length] at this)
        go_wp2_with fail
        go_ret2
        refine ⟨{ A with pv := pv6 }, ?_, ?_⟩
        ·rw [make_some hok'.out.1 hz'.out ht'.out, hq2.out]; rfl
        ·rw [make_some hok'.out.1 hz'.out ht'.out, hq2.out]; exact hTr.out
     exact AllReady.nil
    exact AllReady.nil
   exact AllReady.nil
 ·go_wp2_with fail
  go_ret2
  exact ⟨A, by rw [make_free hok'.out.1 hz'.out]; rfl, by rw [make_free hok'.out.1 hz'.out]; exact (StoreTo.refl h'.out).fresh k04.out⟩

theorem gone_live {M : SM} {i : Nat} (hi : M.live i = true) (hc : M.pool.cnt i ≤ 1) :
  SM.liveN { M with pool := M.pool.dropTo i } + 1 = M.liveN ∧ (∀ p, SM.live { M with pool := M.pool.dropTo i } p = (M.live p && decide (p ≠ i))) := by
 have hd : M.pool.dropTo i = (M.pool.setCnt i 0).setSt i (PM.lastSt (M.pool.st i)) := by unfold PM.dropTo; rw [if_neg (by omega)]
 have hil := live_lt hi
 rw [hd]
 have hl : ∀ p, SM.live { M with pool := (M.pool.setCnt i 0).setSt i (PM.lastSt (M.pool.st i)) } p = (M.live p && decide (p ≠ i)) := by
  intro p
  unfold SM.live PM.live PM.setCnt PM.setSt
  dsimp only
  by_cases hp : p = i
  ·subst hp
   have : PM.lastSt (M.pool.st p) ≠ 1 ∧ PM.lastSt (M.pool.st p) ≠ 2 := by unfold PM.lastSt; split <;> (try split) <;> omega
   simp [this.1, this.2]
  ·simp [hp]
 refine ⟨?_, hl⟩
 have := sumN_set (f := fun q => if M.live q then 1 else 0) (g := fun q => if SM.live { M with pool := (M.pool.setCnt i 0).setSt i (PM.lastSt (M.pool.st i)) } q then 1 else 0) hil
  (fun j _ hj => by rw [hl j]; simp [hj])
 simp only [hl i, hi, if_true] at this
 simp at this
 exact this
theorem less_live {M : SM} {i : Nat} (hc : 1 < M.pool.cnt i) : ∀ p, SM.live { M with pool := M.pool.dropTo i } p = M.live p := by
 have hd : M.pool.dropTo i = M.pool.setCnt i (M.pool.cnt i - 1) := by unfold PM.dropTo; rw [if_pos hc]
 rw [hd]
 intro p
 unfold SM.live PM.live PM.setCnt
 dsimp only
 by_cases hp : p = i
 ·subst hp
  simp [show 0 < M.pool.cnt p - 1 by omega, show 0 < M.pool.cnt p by omega]
 ·simp [hp]
theorem dropTo_size (p : PM) (i : Nat) : (p.dropTo i).size = p.size := by unfold PM.dropTo; split <;> rfl
def dropAllF (f : Nat) (s : SM × Nat) (l : List Int) : SM × Nat := l.foldl (fun s c => if s.2 = 0 then SM.dropF f s.1 c else s) s
theorem dropF_succ (f : Nat) (M : SM) (i : Int) : SM.dropF (f + 1) M i =
  if M.pool.heldB i then
   (if M.pool.cnt i.toNat ≤ 1 then
    match M.nodeAt i.toNat with
    | none => ({ M with pool := M.pool.dropTo i.toNat }, 81)
    | some n => dropAllF f ({ M with pool := M.pool.dropTo i.toNat }, 0) (n.ents.map (·.2))
   else ({ M with pool := M.pool.dropTo i.toNat }, 0))
  else (M, 73) := rfl
theorem dropAllF_bad (f : Nat) (s : SM × Nat) (l : List Int) (h : s.2 ≠ 0) : dropAllF f s l = s := by
 unfold dropAllF
 induction l with
 | nil => rfl
 | cons c l ih => rw [List.foldl_cons, if_neg h]; exact ih
theorem dropAllF_append (f : Nat) (s : SM × Nat) (a b : List Int) : dropAllF f s (a ++ b) = dropAllF f (dropAllF f s a) b := by simp [dropAllF, List.foldl_append]
theorem dropAllF_one (f : Nat) (s : SM × Nat) (c : Int) (h : s.2 = 0) : dropAllF f s [c] = SM.dropF f s.1 c := by simp [dropAllF, h]
theorem dropF_live : ∀ (f : Nat) (M : SM) (i : Int), (SM.dropF f M i).1.pool.size = M.pool.size ∧ (SM.dropF f M i).1.log = M.log ∧ ∀ p, (SM.dropF f M i).1.live p = true → M.live p = true
 | 0, M, i => ⟨rfl, rfl, fun _ h => h⟩
 | f + 1, M, i => by
  rw [dropF_succ]
  split
  ·rename_i hh
   obtain ⟨h0, hl⟩ := heldB_int hh
   split
   ·rename_i hc
    have hg := (gone_live (M := M) hl hc).2
    have base : ∀ p, SM.live { M with pool := M.pool.dropTo i.toNat } p = true → M.live p = true := fun p hp => by rw [hg] at hp; simp at hp; exact hp.1
    split
    ·exact ⟨dropTo_size _ _, rfl, base⟩
    ·rename_i n _
     have : ∀ (l : List Int) (s : SM × Nat), (dropAllF f s l).1.pool.size = s.1.pool.size ∧ (dropAllF f s l).1.log = s.1.log ∧ ∀ p, (dropAllF f s l).1.live p = true → s.1.live p = true := by
      intro l
      induction l with
      | nil => intro s; exact ⟨rfl, rfl, fun _ h => h⟩
      | cons c l ih =>
       intro s
       unfold dropAllF
       rw [List.foldl_cons]
       by_cases hs : s.2 = 0
       ·rw [if_pos hs]
        have h1 := dropF_live f s.1 c
        have h2 := ih (SM.dropF f s.1 c)
        unfold dropAllF at h2
        exact ⟨h2.1.trans h1.1, h2.2.1.trans h1.2.1, fun p hp => h1.2.2 p (h2.2.2 p hp)⟩
       ·rw [if_neg hs]
        have h2 := ih s
        unfold dropAllF at h2
        exact h2
     have h3 := this (n.ents.map (·.2)) ({ M with pool := M.pool.dropTo i.toNat }, 0)
     exact ⟨h3.1.trans (dropTo_size _ _), h3.2.1, fun p hp => base p (h3.2.2 p hp)⟩
   ·rename_i hc
    have hg := less_live (M := M) (i := i.toNat) (by omega)
    exact ⟨dropTo_size _ _, rfl, fun p hp => by rw [hg] at hp; exact hp⟩
  ·exact ⟨rfl, rfl, fun _ h => h⟩
theorem liveN_mono {M N : SM} (hs : N.pool.size = M.pool.size) (h : ∀ p, N.live p = true → M.live p = true) : N.liveN ≤ M.liveN := by
 unfold SM.liveN
 rw [hs]
 refine sumN_le fun i _ => ?_
 by_cases hi : N.live i = true
 ·rw [if_pos hi, if_pos (h i hi)]; exact Nat.le_refl _
 ·rw [if_neg hi]; exact Nat.zero_le _
end Go.Proofs.Ytdcnogjbmdhgaaa
