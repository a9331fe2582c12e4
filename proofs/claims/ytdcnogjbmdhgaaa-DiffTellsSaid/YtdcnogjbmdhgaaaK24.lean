/-
  Pruners (package prune): cut: an inner node.
-/
import Derived.Test.YtdcnogjbmdhgaaaK09
import Derived.Test.YtdcnogjbmdhgaaaK22
import Derived.Test.YtdcnogjbmdhgaaaK23
set_option linter.unusedVariables false
set_option linter.unusedSimpArgs false
namespace Go.Proofs.Ytdcnogjbmdhgaaa
open Go.RowKit
set_option maxRecDepth 100000

set_option maxHeartbeats 8000000 in
theorem cutInner {w : World} {A : SA} {M : SM} (h : StoreAt w A M) (root : Int) (d : Nat) (hd : d ≤ 8) (key : Int) {n : NM} (hR : M.tnode root d = (n, 0)) (hin0 : InnerOk n) (hk3 : n.kind = 3) {i : Nat} (hi : atI n.ents key = i) {M1 : SM} {n1 : NM} {was : Bool} {er : Nat} (hfew : M1.log.length + 2 < 100000000) (hn1l : n1.ents.length ≤ 12)
    (ih : ∀ (W : World), StoreAt W A M → Calls Try.prog 63 #[.agg #[.pointer (some ⟨A.sb, 0, none⟩)], .int .i64 (n.ents.getD i (0, 0)).2, .int .i64 ((d : Int) + 1), .int .i64 key] W fun e w' =>
      ∃ A' v, e = .returned (.tuple #[.agg (nodeCells n1 v).toArray, .bool was, .int .i64 er]) ∧ StoreTo A A' M1 W w' ∧ OutAt w' A' W.heap.size v n1.ents) :
    Calls Try.prog 63 #[.agg #[.pointer (some ⟨A.sb, 0, none⟩)], .int .i64 root, .int .i64 d, .int .i64 key] w fun e w' => ∃ A' v, e = .returned (.tuple #[.agg (nodeCells (cutRes n i d M1 n1 was er).2.1 v).toArray, .bool (cutRes n i d M1 n1 was er).2.2.1, .int .i64 (cutRes n i d M1 n1 was er).2.2.2]) ∧
      StoreTo A A' (cutRes n i d M1 n1 was er).1 w w' ∧ OutAt w' A' w.heap.size v (cutRes n i d M1 n1 was er).2.1.ents := by
  have hkeys := hin0.keys
  have hl6 := hin0.le
  have hk3' := h_ hk3
  have ih' := h_ ih
  clear hk3 hin0 ih
  obtain ⟨Z, hZ⟩ : ∃ Z, nodeCells NM.zero (.slice none 0 0) = Z := ⟨_, rfl⟩
  have hZz : Hid ((Try.prog.info? 71).map (·.zero) = some (some (.agg Z.toArray))) := h_ (by rw [← hZ]; exact node_zero)
  have hZl : Hid (Z.length = 18) := h_ (by rw [← hZ]; exact nodeCells_len _ _)
  obtain ⟨w1, hw1⟩ : ∃ w1, w.alloc (.cells #[.pointer (some ⟨A.sb, 0, none⟩)] 29) = w1 := ⟨_, rfl⟩
  obtain ⟨w2, hw2⟩ : ∃ w2, w1.alloc (.cells Z.toArray 71) = w2 := ⟨_, rfl⟩
  have k1 : Kept (fun _ => False) w w1 := by rw [← hw1]; exact (Kept.refl _ _).alloc _
  have k2 : Kept (fun _ => False) w1 w2 := by rw [← hw2]; exact (Kept.refl _ _).alloc _
  have s1 : w1.heap.size = w.heap.size + 1 := by rw [← hw1]; simp
  have s2 : w2.heap.size = w.heap.size + 2 := by rw [← hw2]; simp [s1]
  have t2 : w2.heap[w.heap.size]? = some (.cells #[.pointer (some ⟨A.sb, 0, none⟩)] 29 (0, 0)) := k2.get (by rw [← hw1]; exact heap_alloc_new _ _) id
  have r2 : w2.heap[w.heap.size + 1]? = some (.cells Z.toArray 71 (0, 0)) := by rw [← hw2, ← s1]; exact heap_alloc_new _ _
  have k02 := h_ (k1.trans k2)
  have hnd := pruneNode (h.fresh k02.out) root d (by omega)
  rw [hR] at hnd
  dsimp only at hnd
  have hnd' := h_ hnd
  have h' := h_ h
  have hw1' := h_ hw1
  have hw2' := h_ hw2
  have s1' := h_ s1
  have s2' := h_ s2
  have hload2 : Hid (∀ j v, [Value.pointer (some ⟨A.sb, 0, none⟩)][j]? = some v → w2.cell? ⟨w.heap.size, 0 + j, none⟩ = some v) := h_ (fun j v hj => by rw [Nat.zero_add, cell_of_heap t2]; simpa using hj)
  have t2' := h_ t2
  have r2' := h_ r2
  clear hw1 hw2 k1 k2 s1 s2 t2 r2 hnd h hZ hR
  go_enter Try.func63, Try.ntmps63
  go_wp2_with (first | (refine wpList_box_named 29 rfl rfl _ rfl hw1'.out ?_) | (refine wpList_alloc_as 71 rfl rfl Z.toArray hZz.out ?_; rw [hw2'.out, s1'.out]) | (refine wpList_load_agg 29 rfl rfl rfl _ Try.underlying29 rfl [.pointer (some ⟨A.sb, 0, none⟩)] (by kernel_rfl) hload2.out ?_))
  refine hnd'.out.mono ?_
  rintro e w3 ⟨v, rfl, hown, hk3⟩
  obtain ⟨Av, cap, rfl, hf1, hf2⟩ := EntsAt.form (show EntsAt w3 v n.ents from SliceAt.of_owns hown)
  obtain ⟨F, hF⟩ : ∃ F, nodeCells n (.slice Av n.ents.length cap) = F := ⟨_, rfl⟩
  have hFl : Hid (F.length = 18) := h_ (by rw [← hF]; exact nodeCells_len _ _)
  have hF1 : Hid (∀ v ∈ F, v.oneCell' = true) := h_ (by rw [← hF]; exact nodeCells_one _ _ _ _)
  obtain ⟨nb, hnb⟩ : ∃ nb, w3.heap.size = nb := ⟨_, rfl⟩
  obtain ⟨w4, hw4⟩ : ∃ w4, (w3.alloc (.cells Z.toArray 71)).setRow nb F.toArray = w4 := ⟨_, rfl⟩
  have k4 : Kept (fun _ => False) w3 w4 := by rw [← hw4]; exact ((Kept.refl _ _).alloc _).setRowNew (by omega) _
  have bx4 : NodeBox w4 nb n (.slice Av n.ents.length cap) := ⟨by rw [hF, ← hw4, ← hnb]; exact setRow_heap _ _ _ _ _ _ (heap_alloc_new _ _)⟩
  have hown4 := h_ (ownsRow.keptOf hown k4 (fun _ _ => id))
  have k24 := h_ (hk3.trans k4)
  have t4 := h_ (k24.out.get t2'.out id)
  have r4 := h_ (k24.out.get r2'.out id)
  have hs3 := hk3.size
  have hs4 : Hid (w4.heap.size = nb + 1) := h_ (by rw [← hw4, ← hnb]; simp [World.setRow])
  have hb4 : Hid (∀ b, (Value.slice Av n.ents.length cap).ownBlock = some b → b < nb) := h_ (fun b hb => by have := (hown.lt b hb).2; omega)
  rw [hF]
  have bx4' := h_ bx4
  have hw4' := h_ hw4
  have hnb' := h_ hnb
  have hF' := h_ hF
  have hat := at_any (show EntsAt w4 (.slice Av n.ents.length cap) n.ents from SliceAt.of_owns hown4.out) hkeys key (by omega)
  have hab := atI_bound (l := n.ents) key
  obtain ⟨a, ha⟩ : ∃ a, atI n.ents key = a := ⟨_, rfl⟩
  rw [ha] at hat hab
  have hat' := h_ hat
  have c17 := bx4.c17
  unfold maxLen at hf2
  obtain ⟨hab1, hab2⟩ := hab
  clear hown hk3 k4 hw4 bx4 hnb hF hat hkeys
  go_wp2_with (first | (refine wpList_alloc_as 71 rfl rfl Z.toArray hZz.out ?_; rw [hnb'.out]) | (refine wpList_store_whole 71 rfl rfl rfl F rfl (by rw [hFl.out]; exact node_size) 71 _ (by rw [← hnb'.out]; exact heap_alloc_new _ _) (by simp [hFl.out, hZl.out]) hF1.out ?_; rw [hw4'.out]))
  refine hat'.out.mono ?_
  rintro e w5 ⟨rfl, hk5⟩
  have hk5' := h_ hk5
  have k25 := h_ (k24.out.trans hk5)
  have t5 := h_ (hk5.get t4.out id)
  have r5 := h_ (hk5.get r4.out id)
  have hown5 := h_ (ownsRow.keptOf hown4.out hk5 (fun _ _ => id))
  have bx5 := h_ (bx4'.out.kept hk5 id)
  have q5 := h_ (show w5.heap[nb]? = some (.cells F.toArray 71 (0, 0)) by rw [← hF'.out]; exact bx5.out.heap)
  have hs5 := hk5.size
  have c17_5 := bx5.out.c17
  have c0_5 := bx5.out.c0
  clear hk5
  have hai : a = i := by omega
  subst hai
  rw [hk3'.out] at c0_5
  have hiln : i < n.ents.length := by omega
  have hln6 := hl6
  obtain ⟨y, hy⟩ : ∃ y, n.ents[i]? = some y := ⟨_, List.getElem?_eq_getElem hiln⟩
  obtain ⟨b, off, rfl, hbl, _, cy5⟩ := EntsAt.get (show EntsAt w5 (.slice Av n.ents.length cap) n.ents from SliceAt.of_owns hown5.out) hy
  have hyd : (n.ents.getD i (0, 0)).2 = y.2 := by simp [hy]
  rw [hyd] at ih'
  have hneg : ¬ ((i : Int) < 0) := by omega
  have hi1 : (i : Int) < (n.ents.length : Int) := by omega
  have hwd : IntKind.i64.wrap ((d : Int) + 1) = (d : Int) + 1 := by rw [IntKind.wrap_i64]; omega
  have P5 : CutSt w A n (.slice (some ⟨b, off, none⟩) n.ents.length cap) nb Z.toArray A M w5 := by
    have s2 := s2'.out
    have hb1 := hnb'.out
    have h4 := hs4.out
    exact ⟨(StoreTo.refl h'.out).fresh (k02.out.trans k25.out), t5.out, Safe.new h'.out (by omega) (by omega), r5.out, Safe.new h'.out (by omega) (by omega), bx5.out, Safe.new h'.out (by omega) (by omega),
      ⟨by rw [← s2]; exact hown5.out, fun g hg e => by have := (hown5.out.lt g hg).1; have := h'.out.lt (.inl e); omega⟩, by omega⟩
  have P5' := h_ P5
  have hy' := h_ hy
  clear P5 hnd' t5 r5 hown5 bx5 q5 hown4 t4 r4 k24 bx4' hat' hload2 t2' r2' hy hyd hi ha hb4
  go_wp2_with fail
  refine wp_region_held_drew (S := fun W => W.heap[w.heap.size]? = some (.cells #[.pointer (some ⟨A.sb, 0, none⟩)] 29 (0, 0)) ∧ W.cell? ⟨nb, 17, none⟩ = some (.slice (some ⟨b, off, none⟩) n.ents.length cap) ∧ W.cell? ⟨b, off + i * 2 + 1, none⟩ = some (.int .i64 y.2)) (by kernel_rfl) (P5'.out.held hy'.out) (fun hH => ?_)
  refine wpAnyH_take (i := 0) (v := .agg #[.pointer (some ⟨A.sb, 0, none⟩)]) rfl (by kernel_rfl) (by kernel_rfl) (by kernel_rfl) (fun _ _ _ h => h) (Or.inl ⟨by rfl, fun W hW => exec_load_agg rfl (by rfl) [.pointer (some ⟨A.sb, 0, none⟩)] Try.underlying29 rfl (by kernel_rfl) (fun j v hj => by rw [cell_of_heap hW.1, Nat.zero_add]; simpa using hj)⟩) (by assumption) ?_
  simp only [Act.put, q1_, q2_, q3_, List.setIfInBounds_toArray, q5_, q6_]
  refine wpAnyH_take (i := 1) (v := .pointer (some ⟨nb, 17, none⟩)) rfl (by kernel_rfl) (by kernel_rfl) (by kernel_rfl) (fun _ _ _ h => h) (Or.inl ⟨by rfl, fun W hW => by go_simp⟩) (by assumption) ?_
  simp only [Act.put, q1_, q2_, q3_, List.setIfInBounds_toArray, q5_, q6_]
  refine wpAnyH_take (i := 2) (v := .slice (some ⟨b, off, none⟩) n.ents.length cap) rfl (by kernel_rfl) (by kernel_rfl) (by kernel_rfl) (fun _ _ _ h => h) (Or.inl ⟨by rfl, fun W hW => by have hc := hW.2.1; clear hW; go_simp⟩) (by assumption) ?_
  simp only [Act.put, q1_, q2_, q3_, List.setIfInBounds_toArray, q5_, q6_]
  refine wpAnyH_take (i := 3) (v := .int .i64 i) rfl (by kernel_rfl) (by kernel_rfl) (by kernel_rfl) (fun _ _ _ h => h) (Or.inl ⟨by rfl, fun W hW => by go_simp⟩) (by assumption) ?_
  simp only [Act.put, q1_, q2_, q3_, List.setIfInBounds_toArray, q5_, q6_]
  refine wpAnyH_take (i := 4) (v := .pointer (some ⟨b, off + i * 2, none⟩)) rfl (by kernel_rfl) (by kernel_rfl) (by kernel_rfl) (fun _ _ _ h => h) (Or.inl ⟨by rfl, fun W hW => by go_simp⟩) (by assumption) ?_
  simp only [Act.put, q1_, q2_, q3_, List.setIfInBounds_toArray, q5_, q6_]
  refine wpAnyH_take (i := 5) (v := .pointer (some ⟨b, off + i * 2 + 1, none⟩)) rfl (by kernel_rfl) (by kernel_rfl) (by kernel_rfl) (fun _ _ _ h => h) (Or.inl ⟨by rfl, fun W hW => by go_simp⟩) (by assumption) ?_
  simp only [Act.put, q1_, q2_, q3_, List.setIfInBounds_toArray, q5_, q6_]
  refine wpAnyH_take (i := 6) (v := .int .i64 y.2) rfl (by kernel_rfl) (by kernel_rfl) (by kernel_rfl) (fun _ _ _ h => h) (Or.inl ⟨by rfl, fun W hW => by have hc := hW.2.2; clear hW; go_simp⟩) (by assumption) ?_
  simp only [Act.put, q1_, q2_, q3_, List.setIfInBounds_toArray, q5_, q6_]
  refine wpAnyH_take (i := 7) (v := .int .i64 d) rfl (by kernel_rfl) (by kernel_rfl) (by kernel_rfl) (fun _ _ _ h => h) (Or.inl ⟨by rfl, fun W hW => by go_simp⟩) (by assumption) ?_
  simp only [Act.put, q1_, q2_, q3_, List.setIfInBounds_toArray, q5_, q6_]
  refine wpAnyH_take (i := 8) (v := .int .i64 ((d : Int) + 1)) rfl (by kernel_rfl) (by kernel_rfl) (by kernel_rfl) (fun _ _ _ h => h) (Or.inl ⟨by rfl, fun W hW => by go_simp⟩) (by assumption) ?_
  simp only [Act.put, q1_, q2_, q3_, List.setIfInBounds_toArray, q5_, q6_]
  refine wpAnyH_take (i := 9) (v := .int .i64 key) rfl (by kernel_rfl) (by kernel_rfl) (by kernel_rfl) (fun _ _ _ h => h) (Or.inl ⟨by rfl, fun W hW => by go_simp⟩) (by assumption) ?_
  simp only [Act.put, q1_, q2_, q3_, List.setIfInBounds_toArray, q5_, q6_]
  refine wpAnyH_ready (rs := [10, 15]) (by kernel_rfl) (by simp) ?_
  refine AllReadyH.cons rfl (fun K hK => ?_) ?_
  · rw [if_pos (by rfl)]
    simp only [Go.wp_at_zero, Go.wp_at_succ]
    go_simp
    refine (ih'.out _ (P5'.out.to_.store.fresh (Kept.refl _ _).drew)).mono ?_
    rintro e w8 ⟨A8, v8, rfl, hT8, hO8⟩
    obtain ⟨Au, cu, rfl, _⟩ := EntsAt.form hO8.ents.at_
    obtain ⟨C1, hC1⟩ : ∃ C1, nodeCells n1 (.slice Au n1.ents.length cu) = C1 := ⟨_, rfl⟩
    have hC1l : Hid (C1.length = 18) := h_ (by rw [← hC1]; exact nodeCells_len _ _)
    have hC11 : Hid (∀ v ∈ C1, v.oneCell' = true) := h_ (by rw [← hC1]; exact nodeCells_one _ _ _ _)
    rw [hC1]
    have P8 := (P5'.out.fresh (Kept.refl _ _).drew).step hT8
    refine hK.out _ _ (P8.held hy'.out) (fun hH8 => ?_)
    clear hK K
    try simp only [Act.put, q1_, q2_, q3_, List.setIfInBounds_toArray, q5_, q6_]
    refine wpAnyH_take (i := 11) (v := .tuple #[.agg C1.toArray, .bool was, .int .i64 er]) rfl (by kernel_rfl) (by kernel_rfl) (by kernel_rfl) (fun _ _ _ h => h) (Or.inl ⟨by rfl, fun W hW => by go_simp⟩) (by assumption) ?_
    simp only [Act.put, q1_, q2_, q3_, List.setIfInBounds_toArray, q5_, q6_]
    refine wpAnyH_take (i := 12) (v := .agg C1.toArray) rfl (by kernel_rfl) (by kernel_rfl) (by kernel_rfl) (fun _ _ _ h => h) (Or.inl ⟨by rfl, fun W hW => by go_simp⟩) (by assumption) ?_
    simp only [Act.put, q1_, q2_, q3_, List.setIfInBounds_toArray, q5_, q6_]
    refine wpAnyH_take (i := 13) (v := .bool was) rfl (by kernel_rfl) (by kernel_rfl) (by kernel_rfl) (fun _ _ _ h => h) (Or.inl ⟨by rfl, fun W hW => by go_simp⟩) (by assumption) ?_
    simp only [Act.put, q1_, q2_, q3_, List.setIfInBounds_toArray, q5_, q6_]
    refine wpAnyH_take (i := 14) (v := .int .i64 er) rfl (by kernel_rfl) (by kernel_rfl) (by kernel_rfl) (fun _ _ _ h => h) (Or.inl ⟨by rfl, fun W hW => by go_simp⟩) (by assumption) ?_
    simp only [Act.put, q1_, q2_, q3_, List.setIfInBounds_toArray, q5_, q6_]
    refine wpAnyH_ready (rs := [15]) (by kernel_rfl) (by simp) ?_
    refine AllReadyH.cons rfl (fun K hK => ?_) ?_
    · refine step_alloc_as 71 rfl rfl Z.toArray hZz.out ?_
      obtain ⟨cb, hcbe⟩ : ∃ cb, w8.heap.size = cb := ⟨_, rfl⟩
      have kA := (Kept.refl (fun _ => False) w8).alloc (.cells Z.toArray 71)
      have hcb : (w8.alloc (.cells Z.toArray 71)).heap[cb]? = some (.cells Z.toArray 71 (0, 0)) := by rw [← hcbe]; exact heap_alloc_new _ _
      have P9 := P8.fresh kA
      have O9 := hO8.fresh kA
      have Sc : Safe (w8.alloc (.cells Z.toArray 71)) A8 cb := Safe.new P8.to_.store (by omega) (by simp; omega)
      have hd : ∀ k, A8.own k → k ≠ cb := fun k hk e => by have := P8.to_.store.lt hk; omega
      have hcn : nb < cb := by have := P8.sn.lt; omega
      have B10 := BoxAt.made P9.to_.store O9 hcb Sc
      have P10 := P9.boxed hcn Sc hcb hd (nodeCells n1 (.slice Au n1.ents.length cu)).toArray
      have hneC := h_ (O9.types hcb (fun cur e => by cases e))
      rw [hC1] at B10 P10
      rw [hcbe]
      refine hK.out _ _ (P9.held hy'.out) (fun hH9 => ?_)
      clear hK K
      try simp only [Act.put, q1_, q2_, q3_, List.setIfInBounds_toArray, q5_, q6_]
      refine wpAnyH_ready (rs := [16]) (by kernel_rfl) (by simp) ?_
      refine AllReadyH.cons rfl (fun K hK => ?_) ?_
      · refine step_store_whole 71 rfl rfl (by rfl) C1 (by rfl) (by rw [hC1l.out]; exact node_size) 71 Z.toArray hcb (by simp [hC1l.out, hZl.out]) hC11.out ?_
        refine hK.out _ _ (P10.held hy'.out) (fun hH10 => ?_)
        clear hK K
        try simp only [Act.put, q1_, q2_, q3_, List.setIfInBounds_toArray, q5_, q6_]
        refine wpAnyH_take (i := 17) (v := .bool was) rfl (by kernel_rfl) (by kernel_rfl) (by kernel_rfl) (fun _ _ _ h => h) (Or.inl ⟨by rfl, fun W hW => by go_simp⟩) (by assumption) ?_
        simp only [Act.put, q1_, q2_, q3_, List.setIfInBounds_toArray, q5_, q6_]
        refine wpAnyH_take (i := 18) (v := .int .i64 er) rfl (by kernel_rfl) (by kernel_rfl) (by kernel_rfl) (fun _ _ _ h => h) (Or.inl ⟨by rfl, fun W hW => by go_simp⟩) (by assumption) ?_
        simp only [Act.put, q1_, q2_, q3_, List.setIfInBounds_toArray, q5_, q6_]
        refine wpAnyH_done (by kernel_rfl) ?_ _
        obtain ⟨w10, hw10⟩ : ∃ w10, (w8.alloc (.cells Z.toArray 71)).setRow cb C1.toArray = w10 := ⟨_, rfl⟩
        rw [hw10] at P10 B10 ⊢
        have P10' := h_ P10
        have B10' := h_ B10
        have hC1' := h_ hC1
        have hcn' := h_ hcn
        have hdA' := h_ hd
        clear P10 B10 hw10 hC1 hcn P8 P9 O9 hd Sc hH hH8 hH9 hH10 hT8 hO8 kA hcb hcbe
        have q10 := h_ (show w10.heap[nb]? = some (.cells F.toArray 71 (0, 0)) by rw [← hF'.out]; exact P10'.out.nbx.heap)
        have r10 := h_ P10'.out.rb
        by_cases h0 : er = 0
        · subst h0
          cases was with
          | false =>
            have hres : Hid (cutRes n i d M1 n1 false 0 = (M1, n, false, 0)) := h_ (by unfold cutRes; rw [if_pos (Or.inr rfl)])
            go_wp2_with (first | (refine wpList_load_agg 71 rfl rfl rfl _ Try.underlying71 rfl F (by rw [hFl.out]; exact node_size) (fun j v hv => by rw [cell_of_heap q10.out, Nat.zero_add]; simpa using hv) ?_) | (refine wpList_store_whole 71 rfl rfl rfl F rfl (by rw [hFl.out]; exact node_size) 71 _ r10.out (by simp [hFl.out, hZl.out]) hF1.out ?_))
            refine bodyPost_ret (results_row_tmp2 rfl _ _ (w.heap.size + 1) 71 F.toArray (0, 0) _ rfl (setRow_heap _ _ _ _ 71 (0, 0) r10.out) Try.underlying71 rfl (by simp only [List.size_toArray]; rw [hFl.out]; exact node_size)) rfl ?_
            have hS := P10'.out.stop h'.out F.toArray
            rw [hres.out]
            exact ⟨A8, .slice (some ⟨b, off, none⟩) n.ents.length cap, by rw [← hF'.out]; rfl, hS.1, hS.2⟩
          | true =>
            have hsb := P10'.out.to_.sb
            have tb10 := h_ P10'.out.tb
            have cb10 := h_ (show w10.heap[cb]? = some (.cells C1.toArray 71 (0, 0)) by rw [← hC1'.out]; exact B10'.out.box.heap)
            have hjn := pruneJoin P10'.out.to_.store P10'.out.own.ents.at_ B10'.out.ents i d (by omega) hiln hln6 hn1l
            have hjb := join_bound M1 (d := d) hiln hn1l
            rw [hsb, hF'.out, hC1'.out] at hjn
            have hres : Hid (cutRes n i d M1 n1 true 0 = if (M1.join n n1 i d).2.2.2 = 0 then
                (if (M1.split (M1.join n n1 i d).1).2.2 = 0 then ((M1.split (M1.join n n1 i d).1).1, { n with ents := n.ents.take (M1.join n n1 i d).2.1 ++ (M1.split (M1.join n n1 i d).1).2.1 ++ n.ents.drop (M1.join n n1 i d).2.2.1 }, true, 0)
                 else ((M1.split (M1.join n n1 i d).1).1, n, false, (M1.split (M1.join n n1 i d).1).2.2))
              else (M1, n, false, (M1.join n n1 i d).2.2.2)) := h_ (by unfold cutRes; rw [if_neg (by simp)])
            obtain ⟨R, hR⟩ : ∃ R, M1.join n n1 i d = R := ⟨_, rfl⟩
            rw [hR] at hjn hjb
            simp only [hR] at hres
            obtain ⟨J, fr, to, ej⟩ := R
            dsimp only at hjn hjb hres
            obtain ⟨hjb1, hjb2, hjb3⟩ := hjb
            have hjn' := h_ hjn
            have hsb' := h_ hsb
            clear hjn hR hsb
            go_wp2_with (first | (refine wpList_load_agg 29 rfl rfl rfl _ Try.underlying29 rfl [.pointer (some ⟨A.sb, 0, none⟩)] (by kernel_rfl) (fun j v hj => by rw [Nat.zero_add, cell_of_heap tb10.out]; simpa using hj) ?_) | (refine wpList_load_agg 71 rfl rfl rfl _ Try.underlying71 rfl F (by rw [hFl.out]; exact node_size) (fun j v hv => by rw [cell_of_heap q10.out, Nat.zero_add]; simpa using hv) ?_) | (refine wpList_load_agg 71 rfl rfl rfl _ Try.underlying71 rfl C1 (by rw [hC1l.out]; exact node_size) (fun j v hv => by rw [cell_of_heap cb10.out, Nat.zero_add]; simpa using hv) ?_))
            refine hjn'.out.mono ?_
            rintro e w11 ⟨vJ, rfl, hJe, hk11, hJb⟩
            obtain ⟨AJ, cJ, rfl, _⟩ := EntsAt.form hJe.at_
            obtain ⟨D, hD⟩ : ∃ D, nodeCells J (.slice AJ J.ents.length cJ) = D := ⟨_, rfl⟩
            have hDl : Hid (D.length = 18) := h_ (by rw [← hD]; exact nodeCells_len _ _)
            have hD1 : Hid (∀ v ∈ D, v.oneCell' = true) := h_ (by rw [← hD]; exact nodeCells_one _ _ _ _)
            rw [hD]
            have hneJ : (Value.slice AJ J.ents.length cJ).ownBlock ≠ some cb := fun e => by
              rcases hJb cb e with h | h
              · exact hneC.out h
              · have := B10'.out.safe.lt; omega
            have P11 := P10'.out.fresh hk11
            have B11 := B10'.out.fresh hk11
            have hcb11 := h_ (show w11.heap[cb]? = some (.cells C1.toArray 71 (0, 0)) by rw [← hC1'.out]; exact B11.box.heap)
            have B12 := B11.again hJe hneJ
            have P12 := P11.boxed hcn'.out B11.safe B11.box.heap hdA'.out D.toArray
            rw [hD] at B12
            obtain ⟨w12, hw12⟩ : ∃ w12, w11.setRow cb D.toArray = w12 := ⟨_, rfl⟩
            rw [hw12] at B12 P12
            have hw12' := h_ hw12
            have P12' := h_ P12
            have B12' := h_ B12
            have q12 := h_ (show w12.heap[nb]? = some (.cells F.toArray 71 (0, 0)) by rw [← hF'.out]; exact P12.nbx.heap)
            have r12 := h_ P12.rb
            have ct12 := cell_of_heap P12.tb 0
            simp at ct12
            have tb12 := h_ P12.tb
            have d12 := h_ (show w12.heap[cb]? = some (.cells D.toArray 71 (0, 0)) by rw [← hD]; exact B12.box.heap)
            have hD' := h_ hD
            clear hJe hk11 hJb hneJ P11 B11 B12 P12 hw12 hD
            by_cases h1 : ej = 0
            · subst h1
              rw [if_pos rfl] at hres
              have hsp := treeSplit P12'.out.to_.store B12'.out.ents hfew
              rw [hsb'.out, hD'.out] at hsp
              have hob := (split_bound M1 J).2
              obtain ⟨R, hR⟩ : ∃ R, M1.split J = R := ⟨_, rfl⟩
              rw [hR] at hsp hob
              simp only [hR] at hres
              obtain ⟨M2, out, er2⟩ := R
              dsimp only at hsp hres hob
              have hsp' := h_ hsp
              clear hsp hR
              go_wp2_with (first | (refine wpList_store_whole 71 rfl rfl rfl D rfl (by rw [hDl.out]; exact node_size) 71 _ hcb11.out (by simp [hDl.out, hC1l.out]) hD1.out ?_; rw [hw12'.out]) | (refine wpList_load_agg 27 rfl rfl rfl _ Try.underlying27 rfl [.pointer (some ⟨A.sb, 0, none⟩)] (by kernel_rfl) (fun j v hj => by rw [Nat.zero_add, cell_of_heap tb12.out]; simpa using hj) ?_) | (refine wpList_load_agg 71 rfl rfl rfl _ Try.underlying71 rfl D (by rw [hDl.out]; exact node_size) (fun j v hv => by rw [cell_of_heap d12.out, Nat.zero_add]; simpa using hv) ?_))
              refine hsp'.out.mono ?_
              rintro e w13 ⟨A9, v9, rfl, hT9, hO9⟩
              obtain ⟨Ao, co, rfl, _⟩ := EntsAt.form hO9.ents.at_
              have P13 := h_ (P12'.out.step hT9)
              have O13 := h_ hO9
              have q13 := h_ (show w13.heap[nb]? = some (.cells F.toArray 71 (0, 0)) by rw [← hF'.out]; exact P13.out.nbx.heap)
              have r13 := h_ P13.out.rb
              have c13 := P13.out.nbx.c17
              clear hT9 hO9
              by_cases h2 : er2 = 0
              · subst h2
                rw [if_pos rfl] at hres
                go_wp2_with fail
                obtain ⟨C, hC⟩ : ∃ C, n.ents.take fr ++ out ++ n.ents.drop to = C := ⟨_, rfl⟩
                rw [hC] at hres
                by_cases hci : cap = to
                · have hcc : Hid (∀ W, Kept (fun _ => False) w13 W → Calls Try.prog 48 #[.slice (some ⟨W.heap.size, 0, none⟩) 3 3] (W.alloc (.cells #[.slice (some ⟨b, off, none⟩) fr cap, .slice Ao out.length co, .slice (some ⟨b, off, none⟩) 0 0] 36)) fun e w' => ∃ u, e = .returned u ∧ w'.ownsRow w13.heap.size 58 2 u C.length (entCells C) ∧ Kept (fun _ => False) W w') := h_ (fun W kW => by
                    have hE7 := SliceAt.fresh P13.out.own.ents.at_ kW
                    rw [← hC]
                    refine Calls.mono (?_ : Calls _ _ _ _ fun e w' => ∃ u, e = .returned u ∧ w'.ownsRow (W.heap.size + 1) 58 2 u (n.ents.take fr ++ out ++ n.ents.drop to).length (entCells (n.ents.take fr ++ out ++ n.ents.drop to)) ∧ Kept (fun _ => False) W w') fun e w' ⟨u, he, ho, hk⟩ => ⟨u, he, owns_weaken ho (by have := kW.size; omega), hk⟩
                    refine concat3 (entsAt_take (m := fr) hE7 (by omega) rfl) (SliceAt.fresh O13.out.ents.at_ kW) ?_ (by simp only [List.length_take, List.length_drop]; omega)
                    rw [List.drop_eq_nil_of_le (by omega)]; exact sliceNil (by unfold maxLen; omega))
                  have hj0 : (fr : Int) ≤ (n.ents.length : Int) := by omega
                  have hj4 : (to : Int) ≤ (n.ents.length : Int) := by omega
                  have hj7 : (fr : Int) ≤ (cap : Int) := by omega
                  have hj9 : (n.ents.length : Int) ≤ (cap : Int) := by omega
                  have hd0 : n.ents.length - to = 0 := by omega
                  subst hci
                  have hj1 : (n.ents.length : Int) ≤ (cap : Int) := by omega
                  have hj3 : n.ents.length ≤ cap := by omega
                  have hj5 : (fr : Int) ≤ (cap : Int) := by omega
                  clear hC
                  go_region_law (rw [if_pos (by rfl)]; go_simp; refine (hcc.out _ (by exact (Kept.refl _ _).drew)).mono ?_; rintro e w14 ⟨u, rfl, hown14, hk14⟩; obtain ⟨A3, c3, rfl, _⟩ := EntsAt.form (show EntsAt w14 u C from SliceAt.of_owns hown14); have P14 := P13.out.fresh ((Kept.refl (fun _ => False) w13).drew.trans hk14); have hE := P14.ends h'.out (C := C) (base := w13.heap.size) ⟨hown14, fun g hg e => by have h1 := (hown14.lt g hg).1; have h2 := P13.out.to_.store.lt (.inl e); omega⟩ (P13.out.to_.kept.size); obtain ⟨G, hG⟩ : ∃ G, nodeCells { n with ents := C } (.slice A3 C.length c3) = G := ⟨_, rfl⟩; have hGl : Hid (G.length = 18) := h_ (by rw [← hG]; exact nodeCells_len _ _); have hG1 : Hid (∀ v ∈ G, v.oneCell' = true) := h_ (by rw [← hG]; exact nodeCells_one _ _ _ _); have q15 := h_ (show (w14.setCell ⟨nb, 17, none⟩ (.slice A3 C.length c3)).heap[nb]? = some (.cells G.toArray 71 (0, 0)) by rw [← hG]; exact hE.1.heap); have r15 := h_ hE.2.1; have fin15 := h_ hE.2.2; have c14 := P14.nbx.c17; have f14 := free_of_heap P14.nbx.heap 17; have hG := h_ hG; clear hE P14 hown14 hk14)
                  all_goals (
                    go_wp2_with (first | (refine wpList_load_agg 71 rfl rfl rfl _ Try.underlying71 rfl G (by rw [hGl.out]; exact node_size) (fun j v hv => by rw [cell_of_heap q15.out, Nat.zero_add]; simpa using hv) ?_) | (refine wpList_store_whole 71 rfl rfl rfl G rfl (by rw [hGl.out]; exact node_size) 71 _ r15.out (by simp [hGl.out, hZl.out]) hG1.out ?_))
                    refine bodyPost_ret (results_row_tmp2 rfl _ _ (w.heap.size + 1) 71 G.toArray (0, 0) _ rfl (setRow_heap _ _ _ _ 71 (0, 0) r15.out) Try.underlying71 rfl (by simp only [List.size_toArray]; rw [hGl.out]; exact node_size)) rfl ?_
                    rw [hres.out]
                    exact ⟨A9, .slice A3 C.length c3, by rw [← hG.out]; rfl, (fin15.out _).1, (fin15.out _).2⟩)
                · have hcc : Hid (∀ W, Kept (fun _ => False) w13 W → Calls Try.prog 48 #[.slice (some ⟨W.heap.size, 0, none⟩) 3 3] (W.alloc (.cells #[.slice (some ⟨b, off, none⟩) fr cap, .slice Ao out.length co, .slice (some ⟨b, off + to * 2, none⟩) (n.ents.length - to) (cap - to)] 36)) fun e w' => ∃ u, e = .returned u ∧ w'.ownsRow w13.heap.size 58 2 u C.length (entCells C) ∧ Kept (fun _ => False) W w') := h_ (fun W kW => by
                    have hE7 := SliceAt.fresh P13.out.own.ents.at_ kW
                    rw [← hC]
                    refine Calls.mono (?_ : Calls _ _ _ _ fun e w' => ∃ u, e = .returned u ∧ w'.ownsRow (W.heap.size + 1) 58 2 u (n.ents.take fr ++ out ++ n.ents.drop to).length (entCells (n.ents.take fr ++ out ++ n.ents.drop to)) ∧ Kept (fun _ => False) W w') fun e w' ⟨u, he, ho, hk⟩ => ⟨u, he, owns_weaken ho (by have := kW.size; omega), hk⟩
                    refine concat3 (entsAt_take (m := fr) hE7 (by omega) rfl) (SliceAt.fresh O13.out.ents.at_ kW) ?_ (by simp only [List.length_take, List.length_drop]; omega)
                    exact entsAt_drop (m := to) hE7 (by omega) rfl)
                  have hj0 : (fr : Int) ≤ (n.ents.length : Int) := by omega
                  have hj4 : (to : Int) ≤ (n.ents.length : Int) := by omega
                  have hj7 : (fr : Int) ≤ (cap : Int) := by omega
                  have hj9 : (n.ents.length : Int) ≤ (cap : Int) := by omega
                  clear hC
                  go_region_law (rw [if_pos (by rfl)]; go_simp; refine (hcc.out _ (by exact (Kept.refl _ _).drew)).mono ?_; rintro e w14 ⟨u, rfl, hown14, hk14⟩; obtain ⟨A3, c3, rfl, _⟩ := EntsAt.form (show EntsAt w14 u C from SliceAt.of_owns hown14); have P14 := P13.out.fresh ((Kept.refl (fun _ => False) w13).drew.trans hk14); have hE := P14.ends h'.out (C := C) (base := w13.heap.size) ⟨hown14, fun g hg e => by have h1 := (hown14.lt g hg).1; have h2 := P13.out.to_.store.lt (.inl e); omega⟩ (P13.out.to_.kept.size); obtain ⟨G, hG⟩ : ∃ G, nodeCells { n with ents := C } (.slice A3 C.length c3) = G := ⟨_, rfl⟩; have hGl : Hid (G.length = 18) := h_ (by rw [← hG]; exact nodeCells_len _ _); have hG1 : Hid (∀ v ∈ G, v.oneCell' = true) := h_ (by rw [← hG]; exact nodeCells_one _ _ _ _); have q15 := h_ (show (w14.setCell ⟨nb, 17, none⟩ (.slice A3 C.length c3)).heap[nb]? = some (.cells G.toArray 71 (0, 0)) by rw [← hG]; exact hE.1.heap); have r15 := h_ hE.2.1; have fin15 := h_ hE.2.2; have c14 := P14.nbx.c17; have f14 := free_of_heap P14.nbx.heap 17; have hG := h_ hG; clear hE P14 hown14 hk14)
                  all_goals (
                    go_wp2_with (first | (refine wpList_load_agg 71 rfl rfl rfl _ Try.underlying71 rfl G (by rw [hGl.out]; exact node_size) (fun j v hv => by rw [cell_of_heap q15.out, Nat.zero_add]; simpa using hv) ?_) | (refine wpList_store_whole 71 rfl rfl rfl G rfl (by rw [hGl.out]; exact node_size) 71 _ r15.out (by simp [hGl.out, hZl.out]) hG1.out ?_))
                    refine bodyPost_ret (results_row_tmp2 rfl _ _ (w.heap.size + 1) 71 G.toArray (0, 0) _ rfl (setRow_heap _ _ _ _ 71 (0, 0) r15.out) Try.underlying71 rfl (by simp only [List.size_toArray]; rw [hGl.out]; exact node_size)) rfl ?_
                    rw [hres.out]
                    exact ⟨A9, .slice A3 C.length c3, by rw [← hG.out]; rfl, (fin15.out _).1, (fin15.out _).2⟩)
              · rw [if_neg h2] at hres
                have h2' : ((er2 : Int) == 0) = false := by rw [beq_eq_false_iff_ne]; omega
                clear h2
                go_wp2_with (first | (refine wpList_load_agg 71 rfl rfl rfl _ Try.underlying71 rfl F (by rw [hFl.out]; exact node_size) (fun j v hv => by rw [cell_of_heap q13.out, Nat.zero_add]; simpa using hv) ?_) | (refine wpList_store_whole 71 rfl rfl rfl F rfl (by rw [hFl.out]; exact node_size) 71 _ r13.out (by simp [hFl.out, hZl.out]) hF1.out ?_))
                refine bodyPost_ret (results_row_tmp2 rfl _ _ (w.heap.size + 1) 71 F.toArray (0, 0) _ rfl (setRow_heap _ _ _ _ 71 (0, 0) r13.out) Try.underlying71 rfl (by simp only [List.size_toArray]; rw [hFl.out]; exact node_size)) rfl ?_
                have hS := P13.out.stop h'.out F.toArray
                rw [hres.out]
                exact ⟨A9, .slice (some ⟨b, off, none⟩) n.ents.length cap, by rw [← hF'.out]; rfl, hS.1, hS.2⟩
            · rw [if_neg h1] at hres
              have h1' : ((ej : Int) == 0) = false := by rw [beq_eq_false_iff_ne]; omega
              clear h1
              go_wp2_with (first | (refine wpList_store_whole 71 rfl rfl rfl D rfl (by rw [hDl.out]; exact node_size) 71 _ hcb11.out (by simp [hDl.out, hC1l.out]) hD1.out ?_; rw [hw12'.out]) | (refine wpList_load_agg 71 rfl rfl rfl _ Try.underlying71 rfl F (by rw [hFl.out]; exact node_size) (fun j v hv => by rw [cell_of_heap q12.out, Nat.zero_add]; simpa using hv) ?_) | (refine wpList_store_whole 71 rfl rfl rfl F rfl (by rw [hFl.out]; exact node_size) 71 _ r12.out (by simp [hFl.out, hZl.out]) hF1.out ?_))
              refine bodyPost_ret (results_row_tmp2 rfl _ _ (w.heap.size + 1) 71 F.toArray (0, 0) _ rfl (setRow_heap _ _ _ _ 71 (0, 0) r12.out) Try.underlying71 rfl (by simp only [List.size_toArray]; rw [hFl.out]; exact node_size)) rfl ?_
              have hS := P12'.out.stop h'.out F.toArray
              rw [hres.out]
              exact ⟨A8, .slice (some ⟨b, off, none⟩) n.ents.length cap, by rw [← hF'.out]; rfl, hS.1, hS.2⟩
        · have hres : Hid (cutRes n i d M1 n1 was er = (M1, n, false, er)) := h_ (by unfold cutRes; rw [if_pos (Or.inl h0)])
          have h0' : ((er : Int) == 0) = false := by rw [beq_eq_false_iff_ne]; omega
          have h0b : ((er : Int) != 0) = true := by rw [bne, h0']; rfl
          clear h0
          go_wp2_with (first | (refine wpList_load_agg 71 rfl rfl rfl _ Try.underlying71 rfl F (by rw [hFl.out]; exact node_size) (fun j v hv => by rw [cell_of_heap q10.out, Nat.zero_add]; simpa using hv) ?_) | (refine wpList_store_whole 71 rfl rfl rfl F rfl (by rw [hFl.out]; exact node_size) 71 _ r10.out (by simp [hFl.out, hZl.out]) hF1.out ?_))
          refine bodyPost_ret (results_row_tmp2 rfl _ _ (w.heap.size + 1) 71 F.toArray (0, 0) _ rfl (setRow_heap _ _ _ _ 71 (0, 0) r10.out) Try.underlying71 rfl (by simp only [List.size_toArray]; rw [hFl.out]; exact node_size)) rfl ?_
          have hS := P10'.out.stop h'.out F.toArray
          rw [hres.out]
          exact ⟨A8, .slice (some ⟨b, off, none⟩) n.ents.length cap, by rw [← hF'.out]; rfl, hS.1, hS.2⟩
      exact AllReadyH.nil
    exact AllReadyH.nil
  refine AllReadyH.cons rfl (fun K hK => ?_) ?_
  · refine step_alloc_as 71 rfl rfl Z.toArray hZz.out ?_
    obtain ⟨cb, hcbe⟩ : ∃ cb, w5.drew.heap.size = cb := ⟨_, rfl⟩
    have kA := (Kept.refl (fun _ => False) w5).drew.alloc (.cells Z.toArray 71)
    have hcb0 : (w5.drew.alloc (.cells Z.toArray 71)).heap[cb]? = some (.cells Z.toArray 71 (0, 0)) := by rw [← hcbe]; exact heap_alloc_new _ _
    have P8 := P5'.out.fresh kA
    have hcs : cb < (w5.drew.alloc (.cells Z.toArray 71)).heap.size := by rw [← hcbe]; simp
    have h5s := P5'.out.to_.store
    have hA : ∀ j, A.own j → j < cb := fun j hj => by have := h5s.lt hj; rw [← hcbe]; exact this
    have Sc0 : Safe (w5.drew.alloc (.cells Z.toArray 71)) A cb := ⟨hcs, fun e => Nat.lt_irrefl _ (hA _ (.inl e))⟩
    have hcn : nb < cb := by have := P5'.out.sn.lt; rw [← hcbe]; exact this
    rw [hcbe]
    obtain ⟨w8, hw8⟩ : ∃ w8, w5.drew.alloc (.cells Z.toArray 71) = w8 := ⟨_, rfl⟩
    rw [hw8] at P8 hcb0 hcs Sc0 ⊢
    refine hK.out _ _ (P8.held hy'.out) (fun hH8 => ?_)
    clear hK K
    try simp only [Act.put, q1_, q2_, q3_, List.setIfInBounds_toArray, q5_, q6_]
    refine wpAnyH_ready (rs := [10]) (by kernel_rfl) (by simp) ?_
    refine AllReadyH.cons rfl (fun K hK => ?_) ?_
    · rw [if_pos (by rfl)]
      simp only [Go.wp_at_zero, Go.wp_at_succ]
      go_simp
      refine (ih'.out _ P8.to_.store).mono ?_
      rintro e w9 ⟨A8, v8, rfl, hT8, hO8⟩
      obtain ⟨Au, cu, rfl, _⟩ := EntsAt.form hO8.ents.at_
      obtain ⟨C1, hC1⟩ : ∃ C1, nodeCells n1 (.slice Au n1.ents.length cu) = C1 := ⟨_, rfl⟩
      have hC1l : Hid (C1.length = 18) := h_ (by rw [← hC1]; exact nodeCells_len _ _)
      have hC11 : Hid (∀ v ∈ C1, v.oneCell' = true) := h_ (by rw [← hC1]; exact nodeCells_one _ _ _ _)
      rw [hC1]
      have P9 := P8.step hT8
      have hcb := hT8.get hcb0 Sc0
      have Sc := Sc0.to hT8
      have hd := hT8.own_ne hA hcs
      have O9 := hO8
      have B10 := BoxAt.made P9.to_.store O9 hcb Sc
      have P10 := P9.boxed hcn Sc hcb hd (nodeCells n1 (.slice Au n1.ents.length cu)).toArray
      have hneC := h_ (O9.types hcb (fun cur e => by cases e))
      rw [hC1] at B10 P10
      refine hK.out _ _ (P9.held hy'.out) (fun hH9 => ?_)
      clear hK K
      try simp only [Act.put, q1_, q2_, q3_, List.setIfInBounds_toArray, q5_, q6_]
      refine wpAnyH_take (i := 11) (v := .tuple #[.agg C1.toArray, .bool was, .int .i64 er]) rfl (by kernel_rfl) (by kernel_rfl) (by kernel_rfl) (fun _ _ _ h => h) (Or.inl ⟨by rfl, fun W hW => by go_simp⟩) (by assumption) ?_
      simp only [Act.put, q1_, q2_, q3_, List.setIfInBounds_toArray, q5_, q6_]
      refine wpAnyH_take (i := 12) (v := .agg C1.toArray) rfl (by kernel_rfl) (by kernel_rfl) (by kernel_rfl) (fun _ _ _ h => h) (Or.inl ⟨by rfl, fun W hW => by go_simp⟩) (by assumption) ?_
      simp only [Act.put, q1_, q2_, q3_, List.setIfInBounds_toArray, q5_, q6_]
      refine wpAnyH_take (i := 13) (v := .bool was) rfl (by kernel_rfl) (by kernel_rfl) (by kernel_rfl) (fun _ _ _ h => h) (Or.inl ⟨by rfl, fun W hW => by go_simp⟩) (by assumption) ?_
      simp only [Act.put, q1_, q2_, q3_, List.setIfInBounds_toArray, q5_, q6_]
      refine wpAnyH_take (i := 14) (v := .int .i64 er) rfl (by kernel_rfl) (by kernel_rfl) (by kernel_rfl) (fun _ _ _ h => h) (Or.inl ⟨by rfl, fun W hW => by go_simp⟩) (by assumption) ?_
      simp only [Act.put, q1_, q2_, q3_, List.setIfInBounds_toArray, q5_, q6_]
      refine wpAnyH_ready (rs := [16]) (by kernel_rfl) (by simp) ?_
      refine AllReadyH.cons rfl (fun K hK => ?_) ?_
      · refine step_store_whole 71 rfl rfl (by rfl) C1 (by rfl) (by rw [hC1l.out]; exact node_size) 71 Z.toArray hcb (by simp [hC1l.out, hZl.out]) hC11.out ?_
        refine hK.out _ _ (P10.held hy'.out) (fun hH10 => ?_)
        clear hK K
        try simp only [Act.put, q1_, q2_, q3_, List.setIfInBounds_toArray, q5_, q6_]
        refine wpAnyH_take (i := 17) (v := .bool was) rfl (by kernel_rfl) (by kernel_rfl) (by kernel_rfl) (fun _ _ _ h => h) (Or.inl ⟨by rfl, fun W hW => by go_simp⟩) (by assumption) ?_
        simp only [Act.put, q1_, q2_, q3_, List.setIfInBounds_toArray, q5_, q6_]
        refine wpAnyH_take (i := 18) (v := .int .i64 er) rfl (by kernel_rfl) (by kernel_rfl) (by kernel_rfl) (fun _ _ _ h => h) (Or.inl ⟨by rfl, fun W hW => by go_simp⟩) (by assumption) ?_
        simp only [Act.put, q1_, q2_, q3_, List.setIfInBounds_toArray, q5_, q6_]
        refine wpAnyH_done (by kernel_rfl) ?_ _
        obtain ⟨w10, hw10⟩ : ∃ w10, w9.setRow cb C1.toArray = w10 := ⟨_, rfl⟩
        rw [hw10] at P10 B10 ⊢
        have P10' := h_ P10
        have B10' := h_ B10
        have hC1' := h_ hC1
        have hcn' := h_ hcn
        have hdA' := h_ hd
        clear P10 B10 hw10 hC1 hcn P8 P9 O9 hd Sc Sc0 hH hH8 hH9 hH10 hT8 hO8 kA hcb hcb0 hcbe hcs h5s hA hw8
        have q10 := h_ (show w10.heap[nb]? = some (.cells F.toArray 71 (0, 0)) by rw [← hF'.out]; exact P10'.out.nbx.heap)
        have r10 := h_ P10'.out.rb
        by_cases h0 : er = 0
        · subst h0
          cases was with
          | false =>
            have hres : Hid (cutRes n i d M1 n1 false 0 = (M1, n, false, 0)) := h_ (by unfold cutRes; rw [if_pos (Or.inr rfl)])
            go_wp2_with (first | (refine wpList_load_agg 71 rfl rfl rfl _ Try.underlying71 rfl F (by rw [hFl.out]; exact node_size) (fun j v hv => by rw [cell_of_heap q10.out, Nat.zero_add]; simpa using hv) ?_) | (refine wpList_store_whole 71 rfl rfl rfl F rfl (by rw [hFl.out]; exact node_size) 71 _ r10.out (by simp [hFl.out, hZl.out]) hF1.out ?_))
            refine bodyPost_ret (results_row_tmp2 rfl _ _ (w.heap.size + 1) 71 F.toArray (0, 0) _ rfl (setRow_heap _ _ _ _ 71 (0, 0) r10.out) Try.underlying71 rfl (by simp only [List.size_toArray]; rw [hFl.out]; exact node_size)) rfl ?_
            have hS := P10'.out.stop h'.out F.toArray
            rw [hres.out]
            exact ⟨A8, .slice (some ⟨b, off, none⟩) n.ents.length cap, by rw [← hF'.out]; rfl, hS.1, hS.2⟩
          | true =>
            have hsb := P10'.out.to_.sb
            have tb10 := h_ P10'.out.tb
            have cb10 := h_ (show w10.heap[cb]? = some (.cells C1.toArray 71 (0, 0)) by rw [← hC1'.out]; exact B10'.out.box.heap)
            have hjn := pruneJoin P10'.out.to_.store P10'.out.own.ents.at_ B10'.out.ents i d (by omega) hiln hln6 hn1l
            have hjb := join_bound M1 (d := d) hiln hn1l
            rw [hsb, hF'.out, hC1'.out] at hjn
            have hres : Hid (cutRes n i d M1 n1 true 0 = if (M1.join n n1 i d).2.2.2 = 0 then
                (if (M1.split (M1.join n n1 i d).1).2.2 = 0 then ((M1.split (M1.join n n1 i d).1).1, { n with ents := n.ents.take (M1.join n n1 i d).2.1 ++ (M1.split (M1.join n n1 i d).1).2.1 ++ n.ents.drop (M1.join n n1 i d).2.2.1 }, true, 0)
                 else ((M1.split (M1.join n n1 i d).1).1, n, false, (M1.split (M1.join n n1 i d).1).2.2))
              else (M1, n, false, (M1.join n n1 i d).2.2.2)) := h_ (by unfold cutRes; rw [if_neg (by simp)])
            obtain ⟨R, hR⟩ : ∃ R, M1.join n n1 i d = R := ⟨_, rfl⟩
            rw [hR] at hjn hjb
            simp only [hR] at hres
            obtain ⟨J, fr, to, ej⟩ := R
            dsimp only at hjn hjb hres
            obtain ⟨hjb1, hjb2, hjb3⟩ := hjb
            have hjn' := h_ hjn
            have hsb' := h_ hsb
            clear hjn hR hsb
            go_wp2_with (first | (refine wpList_load_agg 29 rfl rfl rfl _ Try.underlying29 rfl [.pointer (some ⟨A.sb, 0, none⟩)] (by kernel_rfl) (fun j v hj => by rw [Nat.zero_add, cell_of_heap tb10.out]; simpa using hj) ?_) | (refine wpList_load_agg 71 rfl rfl rfl _ Try.underlying71 rfl F (by rw [hFl.out]; exact node_size) (fun j v hv => by rw [cell_of_heap q10.out, Nat.zero_add]; simpa using hv) ?_) | (refine wpList_load_agg 71 rfl rfl rfl _ Try.underlying71 rfl C1 (by rw [hC1l.out]; exact node_size) (fun j v hv => by rw [cell_of_heap cb10.out, Nat.zero_add]; simpa using hv) ?_))
            refine hjn'.out.mono ?_
            rintro e w11 ⟨vJ, rfl, hJe, hk11, hJb⟩
            obtain ⟨AJ, cJ, rfl, _⟩ := EntsAt.form hJe.at_
            obtain ⟨D, hD⟩ : ∃ D, nodeCells J (.slice AJ J.ents.length cJ) = D := ⟨_, rfl⟩
            have hDl : Hid (D.length = 18) := h_ (by rw [← hD]; exact nodeCells_len _ _)
            have hD1 : Hid (∀ v ∈ D, v.oneCell' = true) := h_ (by rw [← hD]; exact nodeCells_one _ _ _ _)
            rw [hD]
            have hneJ : (Value.slice AJ J.ents.length cJ).ownBlock ≠ some cb := fun e => by
              rcases hJb cb e with h | h
              · exact hneC.out h
              · have := B10'.out.safe.lt; omega
            have P11 := P10'.out.fresh hk11
            have B11 := B10'.out.fresh hk11
            have hcb11 := h_ (show w11.heap[cb]? = some (.cells C1.toArray 71 (0, 0)) by rw [← hC1'.out]; exact B11.box.heap)
            have B12 := B11.again hJe hneJ
            have P12 := P11.boxed hcn'.out B11.safe B11.box.heap hdA'.out D.toArray
            rw [hD] at B12
            obtain ⟨w12, hw12⟩ : ∃ w12, w11.setRow cb D.toArray = w12 := ⟨_, rfl⟩
            rw [hw12] at B12 P12
            have hw12' := h_ hw12
            have P12' := h_ P12
            have B12' := h_ B12
            have q12 := h_ (show w12.heap[nb]? = some (.cells F.toArray 71 (0, 0)) by rw [← hF'.out]; exact P12.nbx.heap)
            have r12 := h_ P12.rb
            have ct12 := cell_of_heap P12.tb 0
            simp at ct12
            have tb12 := h_ P12.tb
            have d12 := h_ (show w12.heap[cb]? = some (.cells D.toArray 71 (0, 0)) by rw [← hD]; exact B12.box.heap)
            have hD' := h_ hD
            clear hJe hk11 hJb hneJ P11 B11 B12 P12 hw12 hD
            by_cases h1 : ej = 0
            · subst h1
              rw [if_pos rfl] at hres
              have hsp := treeSplit P12'.out.to_.store B12'.out.ents hfew
              rw [hsb'.out, hD'.out] at hsp
              have hob := (split_bound M1 J).2
              obtain ⟨R, hR⟩ : ∃ R, M1.split J = R := ⟨_, rfl⟩
              rw [hR] at hsp hob
              simp only [hR] at hres
              obtain ⟨M2, out, er2⟩ := R
              dsimp only at hsp hres hob
              have hsp' := h_ hsp
              clear hsp hR
              go_wp2_with (first | (refine wpList_store_whole 71 rfl rfl rfl D rfl (by rw [hDl.out]; exact node_size) 71 _ hcb11.out (by simp [hDl.out, hC1l.out]) hD1.out ?_; rw [hw12'.out]) | (refine wpList_load_agg 27 rfl rfl rfl _ Try.underlying27 rfl [.pointer (some ⟨A.sb, 0, none⟩)] (by kernel_rfl) (fun j v hj => by rw [Nat.zero_add, cell_of_heap tb12.out]; simpa using hj) ?_) | (refine wpList_load_agg 71 rfl rfl rfl _ Try.underlying71 rfl D (by rw [hDl.out]; exact node_size) (fun j v hv => by rw [cell_of_heap d12.out, Nat.zero_add]; simpa using hv) ?_))
              refine hsp'.out.mono ?_
              rintro e w13 ⟨A9, v9, rfl, hT9, hO9⟩
              obtain ⟨Ao, co, rfl, _⟩ := EntsAt.form hO9.ents.at_
              have P13 := h_ (P12'.out.step hT9)
              have O13 := h_ hO9
              have q13 := h_ (show w13.heap[nb]? = some (.cells F.toArray 71 (0, 0)) by rw [← hF'.out]; exact P13.out.nbx.heap)
              have r13 := h_ P13.out.rb
              have c13 := P13.out.nbx.c17
              clear hT9 hO9
              by_cases h2 : er2 = 0
              · subst h2
                rw [if_pos rfl] at hres
                go_wp2_with fail
                obtain ⟨C, hC⟩ : ∃ C, n.ents.take fr ++ out ++ n.ents.drop to = C := ⟨_, rfl⟩
                rw [hC] at hres
                by_cases hci : cap = to
                · have hcc : Hid (∀ W, Kept (fun _ => False) w13 W → Calls Try.prog 48 #[.slice (some ⟨W.heap.size, 0, none⟩) 3 3] (W.alloc (.cells #[.slice (some ⟨b, off, none⟩) fr cap, .slice Ao out.length co, .slice (some ⟨b, off, none⟩) 0 0] 36)) fun e w' => ∃ u, e = .returned u ∧ w'.ownsRow w13.heap.size 58 2 u C.length (entCells C) ∧ Kept (fun _ => False) W w') := h_ (fun W kW => by
                    have hE7 := SliceAt.fresh P13.out.own.ents.at_ kW
                    rw [← hC]
                    refine Calls.mono (?_ : Calls _ _ _ _ fun e w' => ∃ u, e = .returned u ∧ w'.ownsRow (W.heap.size + 1) 58 2 u (n.ents.take fr ++ out ++ n.ents.drop to).length (entCells (n.ents.take fr ++ out ++ n.ents.drop to)) ∧ Kept (fun _ => False) W w') fun e w' ⟨u, he, ho, hk⟩ => ⟨u, he, owns_weaken ho (by have := kW.size; omega), hk⟩
                    refine concat3 (entsAt_take (m := fr) hE7 (by omega) rfl) (SliceAt.fresh O13.out.ents.at_ kW) ?_ (by simp only [List.length_take, List.length_drop]; omega)
                    rw [List.drop_eq_nil_of_le (by omega)]; exact sliceNil (by unfold maxLen; omega))
                  have hj0 : (fr : Int) ≤ (n.ents.length : Int) := by omega
                  have hj4 : (to : Int) ≤ (n.ents.length : Int) := by omega
                  have hj7 : (fr : Int) ≤ (cap : Int) := by omega
                  have hj9 : (n.ents.length : Int) ≤ (cap : Int) := by omega
                  have hd0 : n.ents.length - to = 0 := by omega
                  subst hci
                  have hj1 : (n.ents.length : Int) ≤ (cap : Int) := by omega
                  have hj3 : n.ents.length ≤ cap := by omega
                  have hj5 : (fr : Int) ≤ (cap : Int) := by omega
                  clear hC
                  go_region_law (rw [if_pos (by rfl)]; go_simp; refine (hcc.out _ (by exact (Kept.refl _ _).drew)).mono ?_; rintro e w14 ⟨u, rfl, hown14, hk14⟩; obtain ⟨A3, c3, rfl, _⟩ := EntsAt.form (show EntsAt w14 u C from SliceAt.of_owns hown14); have P14 := P13.out.fresh ((Kept.refl (fun _ => False) w13).drew.trans hk14); have hE := P14.ends h'.out (C := C) (base := w13.heap.size) ⟨hown14, fun g hg e => by have h1 := (hown14.lt g hg).1; have h2 := P13.out.to_.store.lt (.inl e); omega⟩ (P13.out.to_.kept.size); obtain ⟨G, hG⟩ : ∃ G, nodeCells { n with ents := C } (.slice A3 C.length c3) = G := ⟨_, rfl⟩; have hGl : Hid (G.length = 18) := h_ (by rw [← hG]; exact nodeCells_len _ _); have hG1 : Hid (∀ v ∈ G, v.oneCell' = true) := h_ (by rw [← hG]; exact nodeCells_one _ _ _ _); have q15 := h_ (show (w14.setCell ⟨nb, 17, none⟩ (.slice A3 C.length c3)).heap[nb]? = some (.cells G.toArray 71 (0, 0)) by rw [← hG]; exact hE.1.heap); have r15 := h_ hE.2.1; have fin15 := h_ hE.2.2; have c14 := P14.nbx.c17; have f14 := free_of_heap P14.nbx.heap 17; have hG := h_ hG; clear hE P14 hown14 hk14)
                  all_goals (
                    go_wp2_with (first | (refine wpList_load_agg 71 rfl rfl rfl _ Try.underlying71 rfl G (by rw [hGl.out]; exact node_size) (fun j v hv => by rw [cell_of_heap q15.out, Nat.zero_add]; simpa using hv) ?_) | (refine wpList_store_whole 71 rfl rfl rfl G rfl (by rw [hGl.out]; exact node_size) 71 _ r15.out (by simp [hGl.out, hZl.out]) hG1.out ?_))
                    refine bodyPost_ret (results_row_tmp2 rfl _ _ (w.heap.size + 1) 71 G.toArray (0, 0) _ rfl (setRow_heap _ _ _ _ 71 (0, 0) r15.out) Try.underlying71 rfl (by simp only [List.size_toArray]; rw [hGl.out]; exact node_size)) rfl ?_
                    rw [hres.out]
                    exact ⟨A9, .slice A3 C.length c3, by rw [← hG.out]; rfl, (fin15.out _).1, (fin15.out _).2⟩)
                · have hcc : Hid (∀ W, Kept (fun _ => False) w13 W → Calls Try.prog 48 #[.slice (some ⟨W.heap.size, 0, none⟩) 3 3] (W.alloc (.cells #[.slice (some ⟨b, off, none⟩) fr cap, .slice Ao out.length co, .slice (some ⟨b, off + to * 2, none⟩) (n.ents.length - to) (cap - to)] 36)) fun e w' => ∃ u, e = .returned u ∧ w'.ownsRow w13.heap.size 58 2 u C.length (entCells C) ∧ Kept (fun _ => False) W w') := h_ (fun W kW => by
                    have hE7 := SliceAt.fresh P13.out.own.ents.at_ kW
                    rw [← hC]
                    refine Calls.mono (?_ : Calls _ _ _ _ fun e w' => ∃ u, e = .returned u ∧ w'.ownsRow (W.heap.size + 1) 58 2 u (n.ents.take fr ++ out ++ n.ents.drop to).length (entCells (n.ents.take fr ++ out ++ n.ents.drop to)) ∧ Kept (fun _ => False) W w') fun e w' ⟨u, he, ho, hk⟩ => ⟨u, he, owns_weaken ho (by have := kW.size; omega), hk⟩
                    refine concat3 (entsAt_take (m := fr) hE7 (by omega) rfl) (SliceAt.fresh O13.out.ents.at_ kW) ?_ (by simp only [List.length_take, List.length_drop]; omega)
                    exact entsAt_drop (m := to) hE7 (by omega) rfl)
                  have hj0 : (fr : Int) ≤ (n.ents.length : Int) := by omega
                  have hj4 : (to : Int) ≤ (n.ents.length : Int) := by omega
                  have hj7 : (fr : Int) ≤ (cap : Int) := by omega
                  have hj9 : (n.ents.length : Int) ≤ (cap : Int) := by omega
                  clear hC
                  go_region_law (rw [if_pos (by rfl)]; go_simp; refine (hcc.out _ (by exact (Kept.refl _ _).drew)).mono ?_; rintro e w14 ⟨u, rfl, hown14, hk14⟩; obtain ⟨A3, c3, rfl, _⟩ := EntsAt.form (show EntsAt w14 u C from SliceAt.of_owns hown14); have P14 := P13.out.fresh ((Kept.refl (fun _ => False) w13).drew.trans hk14); have hE := P14.ends h'.out (C := C) (base := w13.heap.size) ⟨hown14, fun g hg e => by have h1 := (hown14.lt g hg).1; have h2 := P13.out.to_.store.lt (.inl e); omega⟩ (P13.out.to_.kept.size); obtain ⟨G, hG⟩ : ∃ G, nodeCells { n with ents := C } (.slice A3 C.length c3) = G := ⟨_, rfl⟩; have hGl : Hid (G.length = 18) := h_ (by rw [← hG]; exact nodeCells_len _ _); have hG1 : Hid (∀ v ∈ G, v.oneCell' = true) := h_ (by rw [← hG]; exact nodeCells_one _ _ _ _); have q15 := h_ (show (w14.setCell ⟨nb, 17, none⟩ (.slice A3 C.length c3)).heap[nb]? = some (.cells G.toArray 71 (0, 0)) by rw [← hG]; exact hE.1.heap); have r15 := h_ hE.2.1; have fin15 := h_ hE.2.2; have c14 := P14.nbx.c17; have f14 := free_of_heap P14.nbx.heap 17; have hG := h_ hG; clear hE P14 hown14 hk14)
                  all_goals (
                    go_wp2_with (first | (refine wpList_load_agg 71 rfl rfl rfl _ Try.underlying71 rfl G (by rw [hGl.out]; exact node_size) (fun j v hv => by rw [cell_of_heap q15.out, Nat.zero_add]; simpa using hv) ?_) | (refine wpList_store_whole 71 rfl rfl rfl G rfl (by rw [hGl.out]; exact node_size) 71 _ r15.out (by simp [hGl.out, hZl.out]) hG1.out ?_))
                    refine bodyPost_ret (results_row_tmp2 rfl _ _ (w.heap.size + 1) 71 G.toArray (0, 0) _ rfl (setRow_heap _ _ _ _ 71 (0, 0) r15.out) Try.underlying71 rfl (by simp only [List.size_toArray]; rw [hGl.out]; exact node_size)) rfl ?_
                    rw [hres.out]
                    exact ⟨A9, .slice A3 C.length c3, by rw [← hG.out]; rfl, (fin15.out _).1, (fin15.out _).2⟩)
              · rw [if_neg h2] at hres
                have h2' : ((er2 : Int) == 0) = false := by rw [beq_eq_false_iff_ne]; omega
                clear h2
                go_wp2_with (first | (refine wpList_load_agg 71 rfl rfl rfl _ Try.underlying71 rfl F (by rw [hFl.out]; exact node_size) (fun j v hv => by rw [cell_of_heap q13.out, Nat.zero_add]; simpa using hv) ?_) | (refine wpList_store_whole 71 rfl rfl rfl F rfl (by rw [hFl.out]; exact node_size) 71 _ r13.out (by simp [hFl.out, hZl.out]) hF1.out ?_))
                refine bodyPost_ret (results_row_tmp2 rfl _ _ (w.heap.size + 1) 71 F.toArray (0, 0) _ rfl (setRow_heap _ _ _ _ 71 (0, 0) r13.out) Try.underlying71 rfl (by simp only [List.size_toArray]; rw [hFl.out]; exact node_size)) rfl ?_
                have hS := P13.out.stop h'.out F.toArray
                rw [hres.out]
                exact ⟨A9, .slice (some ⟨b, off, none⟩) n.ents.length cap, by rw [← hF'.out]; rfl, hS.1, hS.2⟩
            · rw [if_neg h1] at hres
              have h1' : ((ej : Int) == 0) = false := by rw [beq_eq_false_iff_ne]; omega
              clear h1
              go_wp2_with (first | (refine wpList_store_whole 71 rfl rfl rfl D rfl (by rw [hDl.out]; exact node_size) 71 _ hcb11.out (by simp [hDl.out, hC1l.out]) hD1.out ?_; rw [hw12'.out]) | (refine wpList_load_agg 71 rfl rfl rfl _ Try.underlying71 rfl F (by rw [hFl.out]; exact node_size) (fun j v hv => by rw [cell_of_heap q12.out, Nat.zero_add]; simpa using hv) ?_) | (refine wpList_store_whole 71 rfl rfl rfl F rfl (by rw [hFl.out]; exact node_size) 71 _ r12.out (by simp [hFl.out, hZl.out]) hF1.out ?_))
              refine bodyPost_ret (results_row_tmp2 rfl _ _ (w.heap.size + 1) 71 F.toArray (0, 0) _ rfl (setRow_heap _ _ _ _ 71 (0, 0) r12.out) Try.underlying71 rfl (by simp only [List.size_toArray]; rw [hFl.out]; exact node_size)) rfl ?_
              have hS := P12'.out.stop h'.out F.toArray
              rw [hres.out]
              exact ⟨A8, .slice (some ⟨b, off, none⟩) n.ents.length cap, by rw [← hF'.out]; rfl, hS.1, hS.2⟩
        · have hres : Hid (cutRes n i d M1 n1 was er = (M1, n, false, er)) := h_ (by unfold cutRes; rw [if_pos (Or.inl h0)])
          have h0' : ((er : Int) == 0) = false := by rw [beq_eq_false_iff_ne]; omega
          have h0b : ((er : Int) != 0) = true := by rw [bne, h0']; rfl
          clear h0
          go_wp2_with (first | (refine wpList_load_agg 71 rfl rfl rfl _ Try.underlying71 rfl F (by rw [hFl.out]; exact node_size) (fun j v hv => by rw [cell_of_heap q10.out, Nat.zero_add]; simpa using hv) ?_) | (refine wpList_store_whole 71 rfl rfl rfl F rfl (by rw [hFl.out]; exact node_size) 71 _ r10.out (by simp [hFl.out, hZl.out]) hF1.out ?_))
          refine bodyPost_ret (results_row_tmp2 rfl _ _ (w.heap.size + 1) 71 F.toArray (0, 0) _ rfl (setRow_heap _ _ _ _ 71 (0, 0) r10.out) Try.underlying71 rfl (by simp only [List.size_toArray]; rw [hFl.out]; exact node_size)) rfl ?_
          have hS := P10'.out.stop h'.out F.toArray
          rw [hres.out]
          exact ⟨A8, .slice (some ⟨b, off, none⟩) n.ents.length cap, by rw [← hF'.out]; rfl, hS.1, hS.2⟩
      exact AllReadyH.nil
    exact AllReadyH.nil
  exact AllReadyH.nil

theorem cutF_inner {f : Nat} {M : SM} {root key : Int} {n : NM} {i : Nat} (hR : M.tnode root (8 - f) = (n, 0)) (hk : n.kind = 3) (hi : atI n.ents key = i) :
  SM.cutF (f + 1) M root key = cutRes n i (8 - f) (SM.cutF f M (n.ents.getD i (0, 0)).2 key).1 (SM.cutF f M (n.ents.getD i (0, 0)).2 key).2.1 (SM.cutF f M (n.ents.getD i (0, 0)).2 key).2.2.1 (SM.cutF f M (n.ents.getD i (0, 0)).2 key).2.2.2 := by
 conv => lhs; unfold SM.cutF
 rw [hR]
 dsimp only
 rw [hi, if_neg (by omega), if_neg (by omega), Int.toNat_natCast]
 rfl
theorem cutF_leaf {f : Nat} {M : SM} {root key : Int} {n : NM} {i : Nat} (hR : M.tnode root (8 - f) = (n, 0)) (hk : n.kind = 2) (hi : atI n.ents key = i) :
  SM.cutF (f + 1) M root key = if (n.ents.getD i (0, 0)).1 = key then (M, { n with ents := n.ents.take i ++ n.ents.drop (i + 1) }, true, 0) else (M, n, false, 0) := by
 conv => lhs; unfold SM.cutF
 rw [hR]
 dsimp only
 rw [hi, if_neg (by omega), if_pos hk, Int.toNat_natCast]
theorem cutF_stop {f : Nat} {M : SM} {root key : Int} {n : NM} {er : Nat} (hR : M.tnode root (8 - f) = (n, er)) (h : er ≠ 0 ∨ atI n.ents key < 0) : SM.cutF (f + 1) M root key = (M, n, false, er) := by
 conv => lhs; unfold SM.cutF
 rw [hR]
 dsimp only
 rw [if_pos h]
theorem cutRes_log (n : NM) (i d : Nat) (M1 : SM) (n1 : NM) (was : Bool) (er : Nat) : (cutRes n i d M1 n1 was er).1.log.length ≤ M1.log.length + 2 := by
 have h := (split_bound M1 (M1.join n n1 i d).1).1
 unfold cutRes
 split
 ·dsimp only; omega
 ·split
  ·split <;> exact h
  ·dsimp only; omega
theorem cutRes_len {n : NM} {i d : Nat} {M1 : SM} {n1 : NM} {was : Bool} {er : Nat} (hi : i < n.ents.length) (hl : n.ents.length ≤ 6) (hc : n1.ents.length ≤ 12) : (cutRes n i d M1 n1 was er).2.1.ents.length ≤ 12 := by
 have h := (split_bound M1 (M1.join n n1 i d).1).2
 obtain ⟨h1, h2, h3⟩ := join_bound M1 (d := d) hi hc
 unfold cutRes
 split
 ·dsimp only; omega
 ·split
  ·split
   ·dsimp only
    simp only [List.length_append, List.length_take, List.length_drop]
    omega
   ·dsimp only; omega
  ·dsimp only; omega
theorem cut_cases {w : World} {A : SA} {M : SM} (h : StoreAt w A M) (root key : Int) (d : Nat) {n : NM} {er : Nat} (hR : M.tnode root d = (n, er)) :
  RisesK n.ents ∧ n.ents.length ≤ 6 ∧ ((er ≠ 0 ∨ atI n.ents key < 0) ∨ (er = 0 ∧ InnerOk n ∧ ∃ i : Nat, atI n.ents key = i ∧ i < n.ents.length)) := by
 by_cases h0 : er = 0
 ·subst h0
  have hin := (tnode_ok h (i := root) (d := d) (by rw [hR])).1
  rw [hR] at hin
  refine ⟨hin.keys, hin.le, ?_⟩
  have hb := atI_bound (l := n.ents) key
  by_cases ha : atI n.ents key < 0
  ·exact .inl (.inr ha)
  ·obtain ⟨i, hi⟩ := Int.eq_ofNat_of_zero_le (show 0 ≤ atI n.ents key by omega)
   exact .inr ⟨rfl, hin, i, hi, by omega⟩
 ·have he := tnode_err (M := M) (i := root) (d := d) (by rw [hR]; exact h0)
  rw [hR] at he
  dsimp only at he
  rw [he]
  exact ⟨by simp [RisesK], Nat.zero_le _, .inl (.inl h0)⟩
theorem cutF_log {w : World} {A : SA} {M : SM} (h : StoreAt w A M) : ∀ (f : Nat) (r key : Int), (SM.cutF f M r key).1.log.length ≤ M.log.length + 2 * f ∧ (SM.cutF f M r key).2.1.ents.length ≤ 12
 | 0, _, _ => by simp [SM.cutF, NM.zero]
 | f + 1, r, key => by
  obtain ⟨R, hR⟩ : ∃ R, M.tnode r (8 - f) = R := ⟨_, rfl⟩
  obtain ⟨n, er⟩ := R
  obtain ⟨_, hl, hc⟩ := cut_cases h r key (8 - f) hR
  rcases hc with hc | ⟨rfl, hin, i, hi, hil⟩
  ·rw [cutF_stop hR hc]
   dsimp only
   omega
  ·rcases hin.kind with hk | hk
   ·rw [cutF_leaf hR hk hi]
    split
    ·dsimp only
     simp only [List.length_append, List.length_take, List.length_drop]
     omega
    ·dsimp only; omega
   ·rw [cutF_inner hR hk hi]
    obtain ⟨ih1, ih2⟩ := cutF_log h f (n.ents.getD i (0, 0)).2 key
    have h1 := cutRes_log n i (8 - f) (SM.cutF f M (n.ents.getD i (0, 0)).2 key).1 (SM.cutF f M (n.ents.getD i (0, 0)).2 key).2.1 (SM.cutF f M (n.ents.getD i (0, 0)).2 key).2.2.1 (SM.cutF f M (n.ents.getD i (0, 0)).2 key).2.2.2
    exact ⟨by omega, cutRes_len hil hl ih2⟩

theorem pruneCutF : ∀ (f : Nat), 0 < f → f ≤ 9 → ∀ {w : World} {A : SA} {M : SM} (root key : Int), StoreAt w A M → M.log.length + 2 * f + 2 < 100000000 →
  Calls Try.prog 63 #[.agg #[.pointer (some ⟨A.sb, 0, none⟩)], .int .i64 root, .int .i64 ((9 - f : Nat) : Int), .int .i64 key] w fun e w' =>
   ∃ A' v, e = .returned (.tuple #[.agg (nodeCells (SM.cutF f M root key).2.1 v).toArray, .bool (SM.cutF f M root key).2.2.1, .int .i64 (SM.cutF f M root key).2.2.2]) ∧ StoreTo A A' (SM.cutF f M root key).1 w w' ∧ OutAt w' A' w.heap.size v (SM.cutF f M root key).2.1.ents
 | 0, h0, _, _, _, _, _, _, _, _ => by omega
 | f + 1, _, hf, w, A, M, root, key, h, hfew => by
  have still : ∀ {n : NM} {was : Bool} {er : Nat} {w' : World} {v : Value}, w'.ownsRow w.heap.size 58 2 v n.ents.length (entCells n.ents) → Kept (fun _ => False) w w' → SM.cutF (f + 1) M root key = (M, n, was, er) →
    StoreTo A A (SM.cutF (f + 1) M root key).1 w w' ∧ OutAt w' A w.heap.size v (SM.cutF (f + 1) M root key).2.1.ents := fun ho hk e => by
   rw [e]
   exact ⟨(StoreTo.refl h).fresh hk, ho, fun b hb e => by have := (ho.lt b hb).1; have := h.lt (.inl e); omega⟩
  have e9 : 9 - (f + 1) = 8 - f := by omega
  rw [e9]
  obtain ⟨R, hR⟩ : ∃ R, M.tnode root (8 - f) = R := ⟨_, rfl⟩
  obtain ⟨n, er⟩ := R
  obtain ⟨hkeys, hl, hc⟩ := cut_cases h root key (8 - f) hR
  rcases hc with hc | ⟨rfl, hin, i, hi, hil⟩
  ·have e := cutF_stop hR hc
   refine (cutStop h root (8 - f) (by omega) key hR hkeys hl hc).mono ?_
   rintro e' w' ⟨v, he, ho, hk⟩
   have hst := still (n := n) ho hk e
   exact ⟨A, v, by rw [he, e], hst.1, hst.2⟩
  ·rcases hin.kind with hk2 | hk3
   ·have e := cutF_leaf hR hk2 hi
    by_cases hy : (n.ents.getD i (0, 0)).1 = key
    ·rw [if_pos hy] at e
     refine (cutSame h root (8 - f) (by omega) key hR hin hk2 hi hy rfl).mono ?_
     rintro e' w' ⟨v, he, ho, hk⟩
     have hst := still (n := { n with ents := n.ents.take i ++ n.ents.drop (i + 1) }) ho hk e
     exact ⟨A, v, by rw [he, e]; rfl, hst.1, hst.2⟩
    ·rw [if_neg hy] at e
     refine (cutOther h root (8 - f) (by omega) key hR hin hk2 hi hy).mono ?_
     rintro e' w' ⟨v, he, ho, hk⟩
     have hst := still (n := n) ho hk e
     exact ⟨A, v, by rw [he, e]; rfl, hst.1, hst.2⟩
   ·have hd8 := (tnode_ok h (i := root) (d := 8 - f) (by rw [hR])).2
    rw [cutF_inner hR hk3 hi]
    obtain ⟨hlog, hlen⟩ := cutF_log h f (n.ents.getD i (0, 0)).2 key
    refine cutInner h root (8 - f) (by omega) key hR hin hk3 hi (by omega) hlen fun W hW => ?_
    have := pruneCutF f (by omega) (by omega) (n.ents.getD i (0, 0)).2 key hW (by omega)
    rw [show 9 - f = 8 - f + 1 by omega, Int.natCast_add, Int.natCast_one] at this
    exact this
theorem join_cases {M : SM} {n c : NM} {i d : Nat} (hi : i < n.ents.length) (h0 : c.ents.length ≠ 0)
    (hok : ∀ e ∈ n.ents, (M.tnode e.2 (d + 1)).2 = 0) :
    (∃ j, i = j + 1 ∧ c.ents.length + (M.tnode (n.ents.getD j (0, 0)).2 (d + 1)).1.ents.length ≤ 6 ∧
        M.join n c i d = (⟨c.kind, zeros16, (M.tnode (n.ents.getD j (0, 0)).2 (d + 1)).1.ents ++ c.ents⟩, j, i + 1, 0)) ∨
    (i + 1 < n.ents.length ∧ c.ents.length + (M.tnode (n.ents.getD (i + 1) (0, 0)).2 (d + 1)).1.ents.length ≤ 6 ∧
        M.join n c i d = (⟨c.kind, zeros16, c.ents ++ (M.tnode (n.ents.getD (i + 1) (0, 0)).2 (d + 1)).1.ents⟩, i, i + 2, 0)) ∨
    (M.join n c i d = (c, i, i + 1, 0) ∧ (∀ j, i = j + 1 → 6 < c.ents.length + (M.tnode (n.ents.getD j (0, 0)).2 (d + 1)).1.ents.length) ∧
        (i + 1 < n.ents.length → 6 < c.ents.length + (M.tnode (n.ents.getD (i + 1) (0, 0)).2 (d + 1)).1.ents.length)) := by
  have hmem : ∀ k, k < n.ents.length → (M.tnode (n.ents.getD k (0, 0)).2 (d + 1)).2 = 0 := fun k hk => by
    have : n.ents.getD k (0, 0) = n.ents[k] := by simp [List.getD, List.getElem?_eq_getElem hk]
    rw [this]
    exact hok _ (List.getElem_mem hk)
  unfold SM.join
  rw [if_neg h0]
  unfold SM.joinJ
  have right : M.joinStep n c i d ((i : Int) + 1) (c, i, i + 1, 0) =
      if i + 1 < n.ents.length ∧ c.ents.length + (M.tnode (n.ents.getD (i + 1) (0, 0)).2 (d + 1)).1.ents.length ≤ 6 then (⟨c.kind, zeros16, c.ents ++ (M.tnode (n.ents.getD (i + 1) (0, 0)).2 (d + 1)).1.ents⟩, i, i + 2, 0) else (c, i, i + 1, 0) := by
    unfold SM.joinStep
    by_cases hl : i + 1 < n.ents.length
    · rw [if_neg (by omega)]
      dsimp only
      rw [show ((i : Int) + 1).toNat = i + 1 by omega, if_pos (hmem _ hl)]
      by_cases hf : c.ents.length + (M.tnode (n.ents.getD (i + 1) (0, 0)).2 (d + 1)).1.ents.length ≤ 6
      · rw [if_pos hf, if_neg (show ¬ ((i : Int) + 1 < (i : Int)) by omega), if_pos (show i + 1 < n.ents.length ∧ c.ents.length + (M.tnode (n.ents.getD (i + 1) (0, 0)).2 (d + 1)).1.ents.length ≤ 6 from ⟨hl, hf⟩), show min i (i + 1) = i by omega, show max i (i + 1) + 1 = i + 2 by omega]
        rfl
      · rw [if_neg hf, if_neg (fun h => hf h.2)]
    · rw [if_pos (by omega), if_neg (fun h => hl h.1)]
  rw [right]
  cases i with
  | zero =>
    have : M.joinStep n c 0 d (((0 : Nat) : Int) - 1) (if 0 + 1 < n.ents.length ∧ c.ents.length + (M.tnode (n.ents.getD (0 + 1) (0, 0)).2 (d + 1)).1.ents.length ≤ 6 then (⟨c.kind, zeros16, c.ents ++ (M.tnode (n.ents.getD (0 + 1) (0, 0)).2 (d + 1)).1.ents⟩, 0, 0 + 2, 0) else (c, 0, 0 + 1, 0)) =
        (if 0 + 1 < n.ents.length ∧ c.ents.length + (M.tnode (n.ents.getD (0 + 1) (0, 0)).2 (d + 1)).1.ents.length ≤ 6 then (⟨c.kind, zeros16, c.ents ++ (M.tnode (n.ents.getD (0 + 1) (0, 0)).2 (d + 1)).1.ents⟩, 0, 0 + 2, 0) else (c, 0, 0 + 1, 0)) := by
      unfold SM.joinStep
      rw [if_pos (by omega)]
    rw [this]
    by_cases hr : 0 + 1 < n.ents.length ∧ c.ents.length + (M.tnode (n.ents.getD (0 + 1) (0, 0)).2 (d + 1)).1.ents.length ≤ 6
    · right; left
      rw [if_pos hr]
      exact ⟨hr.1, hr.2, rfl⟩
    · right; right
      rw [if_neg hr]
      exact ⟨rfl, fun j hj => by omega, fun hl => Nat.lt_of_not_le fun hf => hr ⟨hl, hf⟩⟩
  | succ j =>
    have left : ∀ nx, M.joinStep n c (j + 1) d (((j + 1 : Nat) : Int) - 1) nx =
        if c.ents.length + (M.tnode (n.ents.getD j (0, 0)).2 (d + 1)).1.ents.length ≤ 6 then (⟨c.kind, zeros16, (M.tnode (n.ents.getD j (0, 0)).2 (d + 1)).1.ents ++ c.ents⟩, j, j + 1 + 1, 0) else nx := fun nx => by
      unfold SM.joinStep
      rw [if_neg (by omega)]
      dsimp only
      rw [show (((j + 1 : Nat) : Int) - 1).toNat = j by omega, if_pos (hmem _ (by omega))]
      by_cases hf : c.ents.length + (M.tnode (n.ents.getD j (0, 0)).2 (d + 1)).1.ents.length ≤ 6
      · rw [if_pos hf, if_pos hf, if_pos (show (((j + 1 : Nat) : Int) - 1 < ((j + 1 : Nat) : Int)) by omega), show min (j + 1) j = j by omega, show max (j + 1) j + 1 = j + 1 + 1 by omega]
        rfl
      · rw [if_neg hf, if_neg hf]
    rw [left]
    by_cases hf : c.ents.length + (M.tnode (n.ents.getD j (0, 0)).2 (d + 1)).1.ents.length ≤ 6
    · left
      rw [if_pos hf]
      exact ⟨j, rfl, hf, rfl⟩
    · rw [if_neg hf]
      right
      by_cases hr : j + 1 + 1 < n.ents.length ∧ c.ents.length + (M.tnode (n.ents.getD (j + 1 + 1) (0, 0)).2 (d + 1)).1.ents.length ≤ 6
      · left
        rw [if_pos hr]
        exact ⟨hr.1, hr.2, rfl⟩
      · right
        rw [if_neg hr]
        exact ⟨rfl, fun k hk => by obtain rfl : k = j := by omega
                                   omega, fun hl => Nat.lt_of_not_le fun hf => hr ⟨hl, hf⟩⟩
theorem join_none {M : SM} {n c : NM} {i d : Nat} (h0 : c.ents.length = 0) : M.join n c i d = (c, i, i + 1, 0) := by unfold SM.join; rw [if_pos h0]
theorem split_none {M : SM} {n : NM} (h0 : n.ents.length = 0) : M.split n = (M, [], 0) := by
  unfold SM.split
  rw [if_neg (by omega)]
  have : partsOf n.ents = [] := by unfold partsOf; rw [if_pos h0]
  rw [this]
  rfl
theorem Kids.ge {T : Int → List (Int × Int) → Prop} : ∀ {es l : List (Int × Int)}, Kids T es l → RisesK l → ∀ y ∈ l, ∃ e ∈ es, e.1 ≤ y.1
 | [], l, h, _, y, hy => by rw [show l = [] from h] at hy; cases hy
 | e :: es, _, ⟨a, b, x, h1, h2, h3, h4, h5⟩, hr, y, hy => by
  rw [h1] at hr hy
  have hr' := List.pairwise_append.1 hr
  rcases List.mem_append.1 hy with hy | hy
  ·exact ⟨e, List.mem_cons_self .., by rw [← h4]; exact head_le hr'.1 h3 y hy⟩
  ·obtain ⟨f, hf, hle⟩ := Kids.ge h5 hr'.2.1 y hy
   exact ⟨f, List.mem_cons_of_mem _ hf, hle⟩
theorem NTr.ge {T : Int → List (Int × Int) → Prop} {h : Nat} {n : NM} {l : List (Int × Int)} (k : NTr T h n l) (hr : RisesK l) : ∀ y ∈ l, ∃ e ∈ n.ents, e.1 ≤ y.1 := by
 rcases k with ⟨_, _, hl⟩ | ⟨_, _, hK⟩
 ·intro y hy
  exact ⟨y, by rw [hl]; exact hy, Int.le_refl _⟩
 ·exact hK.ge hr
theorem atI_neg {l : List (Int × Int)} (hr : RisesK l) {key : Int} (h : atI l key < 0) : ∀ e ∈ l, key < e.1 := by
 have hb := (atI_bound (l := l) key).1
 obtain ⟨_, _, h3⟩ := atI_cut hr key (c := 0) (by omega)
 rw [List.drop_zero] at h3
 exact h3
theorem leaf_cut {l : List (Int × Int)} (hr : RisesK l) {key : Int} {i : Nat} (hi : atI l key = i) (hil : i < l.length) :
  ((l.getD i (0, 0)).1 = key → l.take i ++ l.drop (i + 1) = cutL l key ∧ ∃ y ∈ l, y.1 = key) ∧ (¬ (l.getD i (0, 0)).1 = key → ∀ y ∈ l, y.1 ≠ key) := by
 obtain ⟨_, h2, h3⟩ := atI_cut hr key (c := i + 1) (by rw [hi]; omega)
 have hg : l.getD i (0, 0) = l[i] := by simp [List.getD, List.getElem?_eq_getElem hil]
 have hd : l.drop i = l[i] :: l.drop (i + 1) := List.drop_eq_getElem_cons hil
 have hlt : ∀ y ∈ l.take i, y.1 < l[i].1 := fun y hy => rises_cut hr i y hy l[i] (by rw [hd]; exact List.mem_cons_self ..)
 rw [hg]
 constructor
 ·intro he
  refine ⟨?_, l[i], List.getElem_mem hil, he⟩
  have e : l = l.take i ++ [l[i]] ++ l.drop (i + 1) := by rw [List.append_assoc, List.singleton_append, ← hd, List.take_append_drop]
  conv => rhs; rw [e]
  rw [cutL_mid (fun y hy => by have := hlt y hy; omega) h3]
  have : cutL [l[i]] key = [] := by unfold cutL; simp [he]
  rw [this, List.append_nil]
 ·intro hne y hy he
  have hm : y ∈ l.take i ++ l.drop i := by rw [List.take_append_drop]; exact hy
  have h4 : l[i].1 ≤ key := h2 l[i] (by rw [List.mem_take_iff_getElem]; exact ⟨i, by omega, rfl⟩)
  rcases List.mem_append.1 hm with hy | hy
  ·have := hlt y hy; omega
  ·rw [hd] at hy
   rcases List.mem_cons.1 hy with rfl | hy
   ·exact hne he
   ·have := h3 y hy; omega

structure CutFin (M1 : SM) (ext : Nat → Nat) (h : Nat) (J : NM) (es1 es2 l : List (Int × Int)) (M2 : SM) (k : Int) (p : Nat) : Prop where
 exact : Exact M2 ext
 grown : Grown M1 M2
 kids : Kids (Sub 1 M2 (h + 1)) (es1 ++ [(k, (p : Int))] ++ es2) l
 free : M1.pool.freeCount = M2.pool.freeCount + 1
 sum : M2.sum = M1.sum + J.ents.length
 loose : ∀ E, Loose M1 (J.ents ++ E) → Loose M2 (E ++ [(k, (p : Int))])
 entN : M2.entN p = J.ents.length
 dense : DnN M1 h J.ents → Dn M2 (h + 1) p
 led : ∀ s, LedN M1 h J.ents s → Led M2 (h + 1) p s
theorem cut_fin {M1 : SM} {ext : Nat → Nat} (E : Exact M1 ext) {h : Nat} {J : NM} {es1 es2 a sJ t : List (Int × Int)} (tJ : NTr (Sub 1 M1 h) h J sJ) (g : Good M1 sJ) (h1 : 1 ≤ J.ents.length) (h6 : J.ents.length ≤ 6)
  (K1 : Kids (Sub 1 M1 (h + 1)) es1 a) (K2 : Kids (Sub 1 M1 (h + 1)) es2 t) :
  (∃ M2 k p, M1.split J = (M2, [(k, ((p : Nat) : Int))], 0) ∧ CutFin M1 ext h J es1 es2 (a ++ sJ ++ t) M2 k p) ∨
   ((M1.split J).2.2 = 71 ∧ M1.pool.freeCount = 0) ∨ ((M1.split J).2.2 = 72 ∧ ∃ c, 255 < M1.refs c + J.ents.length + ext c) := by
 unfold SM.split
 rw [if_neg (by omega)]
 have hp : partsOf J.ents = [J.ents] := by unfold partsOf; rw [if_neg (by omega), if_neg (by omega)]
 rw [hp, makes_cons]
 have t' : NTr (Sub 1 M1 h) h ⟨J.kind, zeros16, J.ents⟩ sJ := by
  rcases tJ with ⟨a, b, c⟩ | ⟨a, b, c⟩
  ·exact .inl ⟨a, b, c⟩
  ·exact .inr ⟨a, b, c⟩
 have ge := t'.good g
 rcases make_tr E t' g h1 h6 with ⟨i, e, H, hT, hN⟩ | ⟨e, hf⟩ | ⟨e, hc⟩
 ·obtain ⟨M', hM'⟩ : ∃ M', (M1.make ⟨J.kind, zeros16, J.ents⟩).1 = M' := ⟨_, rfl⟩
  rw [hM'] at H hT hN ⊢
  rw [e]
  dsimp only
  rw [if_pos rfl, makes_nil]
  obtain ⟨x, hx, hxe⟩ := t'.head h1
  refine .inl ⟨M', (J.ents.getD 0 (0, 0)).1, i, rfl, H.exact, H.grown, ?_, H.free, H.sum, fun F hF => H.loose (fun x hx => (ge.2 x hx).2.2) hF _, hN, fun hd => ?_, fun s hs => led_made H t' hs⟩
  ·refine Kids.append (Kids.append (K1.mono fun f _ z hz => Sub.grown H.grown hz) ?_) (K2.mono fun f _ z hz => Sub.grown H.grown hz)
   exact ⟨sJ, [], x, (List.append_nil _).symm, ⟨hT, by rw [hN]; exact h1⟩, hx, hxe, rfl⟩
  ·rcases hd with h0 | ⟨hA, hD⟩
   ·exact .inl h0
   ·by_cases h0 : h = 0
    ·exact .inl h0
    ·have hen : M'.ents ((i : Int).toNat) = J.ents := by rw [Int.toNat_natCast]; unfold SM.ents; rw [H.node]
     rcases t' with ⟨hz, _⟩ | ⟨_, _, hK⟩
     ·exact absurd hz h0
     ·refine .inr ⟨?_, fun f hf => ?_⟩
      ·rw [hen, sizes_grown H.grown (fun f hf => Kids.held (P := fun q => M1.pool.heldB q = true) (fun q a ha => ha.1.held) hK f hf)]
       exact hA
      ·rw [hen] at hf
       obtain ⟨b, hb, _⟩ := hK.each f hf
       exact Dn.grown H.grown hb.1 (hD f hf)
 ·rw [e]
  dsimp only
  rw [if_neg (by decide)]
  exact .inr (.inl ⟨rfl, hf⟩)
 ·rw [e]
  dsimp only
  rw [if_neg (by decide)]
  exact .inr (.inr ⟨rfl, hc⟩)
theorem Loose.mono {M : SM} {E F : List (Int × Int)} (h : Loose M E) (hm : ∀ y ∈ E, y ∈ F) : Loose M F := fun q hq hc => by
 obtain ⟨y, hy, he⟩ := h q hq hc
 exact ⟨y, hm y hy, he⟩
theorem NTr.append {T : Int → List (Int × Int) → Prop} {h : Nat} {n m : NM} {a b : List (Int × Int)} (k : NTr T h n a) (j : NTr T h m b) (c : Int) (hc : c = n.kind) (u : List Nat) : NTr T h ⟨c, u, n.ents ++ m.ents⟩ (a ++ b) := by
 subst hc
 rcases k with ⟨h0, hk, hl⟩ | ⟨h0, hk, hl⟩
 ·rcases j with ⟨_, hk', hl'⟩ | ⟨h1, _⟩
  ·exact .inl ⟨h0, hk, by rw [← hl, ← hl']⟩
  ·omega
 ·rcases j with ⟨h1, _⟩ | ⟨_, hk', hl'⟩
  ·omega
  ·exact .inr ⟨h0, hk, Kids.append hl hl'⟩
theorem NTr.same_kind {T : Int → List (Int × Int) → Prop} {h : Nat} {n m : NM} {a b : List (Int × Int)} (k : NTr T h n a) (j : NTr T h m b) : m.kind = n.kind := by
 rcases k with ⟨h0, hk, _⟩ | ⟨h0, hk, _⟩ <;> rcases j with ⟨h1, hk', _⟩ | ⟨h1, hk', _⟩ <;> first | omega | (rw [hk, hk'])
theorem NTr.nil {T : Int → List (Int × Int) → Prop} {h : Nat} {n : NM} {l : List (Int × Int)} (k : NTr T h n l) (h0 : n.ents.length = 0) : l = [] := by
 have he : n.ents = [] := List.eq_nil_of_length_eq_zero h0
 rcases k with ⟨_, _, hl⟩ | ⟨_, _, hl⟩
 ·rw [← hl, he]
 ·rw [he] at hl; exact hl

structure UpOk (M1 : SM) (ext : Nat → Nat) (h : Nat) (o1 o2 : List (Int × Int)) (n n1 : NM) (l : List (Int × Int)) (M2 : SM) (n' : NM) : Prop where
 exact : Exact M2 ext
 grown : Grown M1 M2
 tr : NTr (Sub 1 M2 (h + 1)) (h + 1) n' l
 lo : n.ents.length ≤ n'.ents.length + 1
 hi : n'.ents.length ≤ n.ents.length
 free : M1.pool.freeCount ≤ M2.pool.freeCount + 1
 sum : M2.sum ≤ M1.sum + 6
 loose : ∀ F, Loose M1 (n1.ents ++ F) → Loose M2 (n'.ents ++ F)
 dense : AdjN (sizesE M1 n.ents) → AdjN (sizesE M2 n'.ents)
 led : ∀ t u v, KidsL (LedS M1 (h + 1)) o1 t → 3 ^ (h + 1) ≤ u → LedN M1 h n1.ents u → KidsL (LedS M1 (h + 1)) o2 v → LedN M2 (h + 1) n'.ents (t + u + v)

theorem sizes_fin {M1 M2 : SM} (g : Grown M1 M2) {A C : List (Int × Int)} {k p : Int} {v : Nat} (hA : ∀ e ∈ A, M1.pool.heldB e.2 = true) (hC : ∀ e ∈ C, M1.pool.heldB e.2 = true) (hp : M2.entN p = v) : sizesE M2 (A ++ [(k, p)] ++ C) = sizesE M1 A ++ v :: sizesE M1 C := by
 have e1 := sizes_grown g hA
 have e2 := sizes_grown g hC
 unfold sizesE at *
 rw [List.map_append, List.map_append, e1, e2, List.map_cons, List.map_nil, hp, List.append_assoc]
 rfl

theorem up_fin {M1 : SM} {ext : Nat → Nat} (E : Exact M1 ext) {h d i x y : Nat} {n n1 J : NM} (hk : n.kind = 3) {o1 o2 es1 es2 a sJ tt : List (Int × Int)}
  (hj : M1.join n n1 i d = (J, x, y, 0)) (hx : n.ents.take x = es1) (hy : n.ents.drop y = es2) (tJ : NTr (Sub 1 M1 h) h J sJ) (g : Good M1 (a ++ sJ ++ tt)) (h1 : 1 ≤ J.ents.length) (h6 : J.ents.length ≤ 6)
  (K1 : Kids (Sub 1 M1 (h + 1)) es1 a) (K2 : Kids (Sub 1 M1 (h + 1)) es2 tt) (hlo : n.ents.length ≤ es1.length + 1 + es2.length + 1) (hhi : es1.length + 1 + es2.length ≤ n.ents.length) (hm : ∀ z ∈ n1.ents, z ∈ J.ents)
  (hD : AdjN (sizesE M1 n.ents) → AdjN (sizesE M1 es1 ++ J.ents.length :: sizesE M1 es2))
  (hL : ∀ t u v, KidsL (LedS M1 (h + 1)) o1 t → 3 ^ (h + 1) ≤ u → LedN M1 h n1.ents u → KidsL (LedS M1 (h + 1)) o2 v → ∃ t' u' v', t' + u' + v' ≤ t + u + v ∧ KidsL (LedS M1 (h + 1)) es1 t' ∧ 3 ^ (h + 1) ≤ u' ∧ LedN M1 h J.ents u' ∧ KidsL (LedS M1 (h + 1)) es2 v') :
  ((cutRes n i d M1 n1 true 0).2.2.2 = 0 ∧ (cutRes n i d M1 n1 true 0).2.2.1 = true ∧ UpOk M1 ext h o1 o2 n n1 (a ++ sJ ++ tt) (cutRes n i d M1 n1 true 0).1 (cutRes n i d M1 n1 true 0).2.1) ∨
   ((cutRes n i d M1 n1 true 0).2.2.2 = 71 ∧ M1.pool.freeCount = 0) ∨ ((cutRes n i d M1 n1 true 0).2.2.2 = 72 ∧ ∃ c, 255 < M1.refs c + 6 + ext c) := by
 unfold cutRes
 rw [if_neg (by simp), hj]
 dsimp only
 rw [if_pos rfl]
 rcases cut_fin E tJ g.left.right h1 h6 K1 K2 with ⟨M2, k, p, hs, C⟩ | ⟨hs, hf⟩ | ⟨hs, c, hc⟩
 ·rw [hs]
  dsimp only
  rw [if_pos rfl, hx, hy]
  have b1 := C.free
  have b2 := C.sum
  have hl : (es1 ++ [(k, (p : Int))] ++ es2).length = es1.length + 1 + es2.length := by simp; omega
  refine .inl ⟨rfl, rfl, ⟨C.exact, C.grown, .inr ⟨by omega, hk, C.kids⟩, ?_, ?_, ?_, ?_, fun F hF => ?_, fun hA => ?_, fun t u v ht hu hn hv => ?_⟩⟩
  ·show _ ≤ (es1 ++ [(k, (p : Int))] ++ es2).length + 1; omega
  ·show (es1 ++ [(k, (p : Int))] ++ es2).length ≤ _; omega
  ·show _ ≤ M2.pool.freeCount + 1; omega
  ·show M2.sum ≤ _; omega
  ·refine (C.loose F (hF.mono fun z hz => ?_)).mono fun z hz => ?_
   ·rcases List.mem_append.1 hz with hz | hz
    ·exact List.mem_append_left _ (hm z hz)
    ·exact List.mem_append_right _ hz
   ·show z ∈ es1 ++ [(k, (p : Int))] ++ es2 ++ F
    rcases List.mem_append.1 hz with hz | hz
    ·exact List.mem_append_right _ hz
    ·exact List.mem_append_left _ (List.mem_append_left _ (List.mem_append_right _ hz))
  ·show AdjN (sizesE M2 (es1 ++ [(k, (p : Int))] ++ es2))
   rw [sizes_fin C.grown (Kids.held (P := fun q => M1.pool.heldB q = true) (fun q a ha => ha.1.held) K1) (Kids.held (P := fun q => M1.pool.heldB q = true) (fun q a ha => ha.1.held) K2) C.entN]
   exact hD hA
  ·obtain ⟨t', u', v', h1', k1, h2', k2, k3⟩ := hL t u v ht hu hn hv
   refine .inr ⟨by omega, KidsL.weak (KidsL.append (KidsL.append (k1.grown C.grown K1) (show KidsL (LedS M2 (h + 1)) [(k, (p : Int))] u' from ⟨u', 0, Nat.le_refl _, ⟨h2', C.led _ k2⟩, trivial⟩)) (k3.grown C.grown K2)) (by omega)⟩
 ·rw [hs, if_neg (by decide)]
  exact .inr (.inl ⟨rfl, hf⟩)
 ·rw [hs, if_neg (by decide)]
  exact .inr (.inr ⟨rfl, c, by omega⟩)

theorem cut_up {M1 : SM} {ext : Nat → Nat} (E : Exact M1 ext) {h d : Nat} (hd : d + 1 < 8) {n n1 : NM} (hk : n.kind = 3) {es1 es2 a s s' tt : List (Int × Int)} {e : Int × Int}
  (hes : n.ents = es1 ++ e :: es2) (h6 : n.ents.length ≤ 6) (hK1 : Kids (Sub 1 M1 (h + 1)) es1 a) (hT : Sub 1 M1 (h + 1) e.2 s) (hK2 : Kids (Sub 1 M1 (h + 1)) es2 tt)
  (t1 : NTr (Sub 1 M1 h) h n1 s') (g : Good M1 (a ++ s' ++ tt)) (hlo : M1.entN e.2 ≤ n1.ents.length + 1) (h16 : n1.ents.length ≤ 6) :
  ((cutRes n es1.length d M1 n1 true 0).2.2.2 = 0 ∧ (cutRes n es1.length d M1 n1 true 0).2.2.1 = true ∧ UpOk M1 ext h es1 es2 n n1 (a ++ s' ++ tt) (cutRes n es1.length d M1 n1 true 0).1 (cutRes n es1.length d M1 n1 true 0).2.1) ∨
   ((cutRes n es1.length d M1 n1 true 0).2.2.2 = 71 ∧ M1.pool.freeCount = 0) ∨ ((cutRes n es1.length d M1 n1 true 0).2.2.2 = 72 ∧ ∃ c, 255 < M1.refs c + 6 + ext c) := by
 have hh1 : ∀ f ∈ es1, M1.pool.heldB f.2 = true := Kids.held (P := fun q => M1.pool.heldB q = true) (fun q a ha => ha.1.held) hK1
 have hh2 : ∀ f ∈ es2, M1.pool.heldB f.2 = true := Kids.held (P := fun q => M1.pool.heldB q = true) (fun q a ha => ha.1.held) hK2
 have hlen : n.ents.length = es1.length + 1 + es2.length := by rw [hes]; simp; omega
 by_cases h0 : n1.ents.length = 0
 ·unfold cutRes
  rw [if_neg (by simp), join_none h0]
  dsimp only
  rw [if_pos rfl, split_none h0]
  dsimp only
  rw [if_pos rfl]
  have e1 : n.ents.take es1.length ++ ([] : List (Int × Int)) ++ n.ents.drop (es1.length + 1) = es1 ++ es2 := by
   rw [hes, List.append_nil, List.take_left' rfl, show es1 ++ e :: es2 = (es1 ++ [e]) ++ es2 by simp, List.drop_left' (by simp)]
  rw [e1]
  have hs' : s' = [] := t1.nil h0
  subst hs'
  refine .inl ⟨rfl, rfl, ⟨E, Grown.refl _, .inr ⟨by omega, hk, by rw [List.append_nil]; exact Kids.append hK1 hK2⟩, ?_, ?_, Nat.le_succ _, Nat.le_add_right _ _, fun F hF => ?_, fun hD => ?_, fun t u v ht hu _ hv => .inr ⟨by omega, (KidsL.append ht hv).weak (by omega)⟩⟩⟩
  ·show _ ≤ (es1 ++ es2).length + 1; rw [List.length_append]; omega
  ·show (es1 ++ es2).length ≤ _; rw [List.length_append]; omega
  ·have : n1.ents = [] := List.eq_nil_of_length_eq_zero h0
   rw [this] at hF
   exact hF.mono fun y hy => List.mem_append_right _ hy
  ·rw [hes] at hD
   have e2 : sizesE M1 (es1 ++ e :: es2) = sizesE M1 es1 ++ M1.entN e.2 :: sizesE M1 es2 := by unfold sizesE; simp
   have e3 : sizesE M1 (es1 ++ es2) = sizesE M1 es1 ++ sizesE M1 es2 := by unfold sizesE; simp
   rw [e2] at hD
   show AdjN (sizesE M1 (es1 ++ es2))
   rw [e3]
   refine adj_gone hD (by omega) fun x hx => ?_
   unfold sizesE at hx
   obtain ⟨f, hf, rfl⟩ := List.mem_map.1 hx
   obtain ⟨b, hb, _⟩ := hK1.each f hf
   obtain ⟨hp, m, hm, hok, km⟩ := hb.1
   rw [entN_of hm]
   exact (innerOk_of hok (by have := km.kind; omega)).le
 ·have hok : ∀ f ∈ n.ents, (M1.tnode f.2 (d + 1)).2 = 0 := fun f hf => by
   have : ∃ b, Tr 1 M1 (h + 1) f.2 b := by
    rw [hes] at hf
    rcases List.mem_append.1 hf with hf | hf
    ·obtain ⟨b, hb, _⟩ := hK1.each f hf; exact ⟨b, hb.1⟩
    ·rcases List.mem_cons.1 hf with rfl | hf
     ·exact ⟨s, hT.1⟩
     ·obtain ⟨b, hb, _⟩ := hK2.each f hf; exact ⟨b, hb.1⟩
   obtain ⟨b, hb⟩ := this
   obtain ⟨m, hm, _⟩ := tnode_tr hb (d := d + 1) hd
   rw [hm]
  have hil : es1.length < n.ents.length := by omega
  have szn : sizesE M1 n.ents = sizesE M1 es1 ++ M1.entN e.2 :: sizesE M1 es2 := by rw [hes]; unfold sizesE; simp
  have take0 : n.ents.take es1.length = es1 := by rw [hes, List.take_left' rfl]
  have drop1 : n.ents.drop (es1.length + 1) = es2 := by rw [hes, show es1 ++ e :: es2 = (es1 ++ [e]) ++ es2 by simp, List.drop_left' (by simp)]
  have tn : ∀ f b, Sub 1 M1 (h + 1) f b → ∃ m, M1.tnode f (d + 1) = (m, 0) ∧ NTr (Sub 1 M1 h) h m b ∧ M1.entN f = m.ents.length ∧ 1 ≤ m.ents.length ∧ M1.ents f.toNat = m.ents := fun f b hb => by
   obtain ⟨m, hm, hma, _, km⟩ := tnode_tr hb.1 (d := d + 1) hd
   have := hb.2
   rw [entN_of hma] at this
   exact ⟨m, hm, km, entN_of hma, this, by unfold SM.ents; rw [hma]⟩
  rcases join_cases (M := M1) (n := n) (c := n1) (i := es1.length) (d := d) hil h0 hok with ⟨j, hj, hf, hJ⟩ | ⟨hj, hf, hJ⟩ | ⟨hJ, hl, hr⟩
  ·obtain ⟨es0, f, rfl⟩ : ∃ es0 f, es1 = es0 ++ [f] := by
    rcases List.eq_nil_or_concat es1 with h' | ⟨es0, f, h'⟩
    ·rw [h'] at hj; simp at hj
    ·exact ⟨es0, f, by rw [h', List.concat_eq_append]⟩
   have hj' : j = es0.length := by simp at hj; omega
   subst hj'
   have hgf : n.ents.getD es0.length (0, 0) = f := by rw [hes]; simp [List.getD]
   obtain ⟨a0, b, hab, hK0, b', b2, y0, hbb, hTf, _, _, hnil⟩ := hK1.cut
   rw [show b2 = [] from hnil, List.append_nil] at hbb
   subst hbb
   obtain ⟨m, hm, km, hme, hm1, hmn⟩ := tn f.2 b hTf
   rw [hgf, hm] at hf hJ
   dsimp only at hf hJ
   have e1 : a ++ s' ++ tt = a0 ++ (b ++ s') ++ tt := by rw [hab]; simp
   rw [e1] at g ⊢
   refine up_fin E hk hJ (by rw [hes]; simp) drop1 (km.append t1 _ (km.same_kind t1) zeros16) g ?_ ?_ hK0 hK2 ?_ ?_ (fun z hz => List.mem_append_right _ hz) (fun hA => ?_) (fun t u v ht hu hn hv => ?_)
   ·show 1 ≤ (m.ents ++ n1.ents).length; rw [List.length_append]; omega
   ·show (m.ents ++ n1.ents).length ≤ 6; rw [List.length_append]; omega
   ·rw [hlen]; simp; omega
   ·rw [hlen]; simp
   ·rw [szn, show sizesE M1 (es0 ++ [f]) = sizesE M1 es0 ++ [m.ents.length] by unfold sizesE; simp [hme], List.append_assoc] at hA
    show AdjN (_ ++ (m.ents ++ n1.ents).length :: _)
    rw [List.length_append]
    exact adj_left hA hm1 hlo
   ·obtain ⟨t0, tf, h1, h2, a, b, hab, hf, _⟩ := ht.cut
    have hf2 : LedN M1 h (M1.ents f.2.toNat) a := hf.2
    rw [hmn] at hf2
    exact ⟨t0, a + u, v, by omega, h2, by omega, hf2.append hn, hv⟩
  ·obtain ⟨f, es3, rfl⟩ : ∃ f es3, es2 = f :: es3 := by
    cases es2 with
    | nil => simp at hlen; omega
    | cons f es3 => exact ⟨f, es3, rfl⟩
   have hgf : n.ents.getD (es1.length + 1) (0, 0) = f := by rw [hes]; simp [List.getD]
   obtain ⟨b, t3, y0, htt, hTf, _, _, hK3⟩ := hK2
   subst htt
   obtain ⟨m, hm, km, hme, hm1, hmn⟩ := tn f.2 b hTf
   rw [hgf, hm] at hf hJ
   dsimp only at hf hJ
   have e1 : a ++ s' ++ (b ++ t3) = a ++ (s' ++ b) ++ t3 := by simp
   rw [e1] at g ⊢
   refine up_fin E hk hJ take0 (by rw [hes, show es1 ++ e :: f :: es3 = (es1 ++ [e, f]) ++ es3 by simp, List.drop_left' (by simp)]) (t1.append km _ rfl zeros16) g ?_ ?_ hK1 hK3 ?_ ?_ (fun z hz => List.mem_append_left _ hz) (fun hA => ?_) (fun t u v ht hu hn hv => ?_)
   ·show 1 ≤ (n1.ents ++ m.ents).length; rw [List.length_append]; omega
   ·show (n1.ents ++ m.ents).length ≤ 6; rw [List.length_append]; omega
   ·rw [hlen]; simp; omega
   ·rw [hlen]; simp
   ·rw [szn, show sizesE M1 (f :: es3) = m.ents.length :: sizesE M1 es3 by unfold sizesE; simp [hme]] at hA
    show AdjN (_ ++ (n1.ents ++ m.ents).length :: _)
    rw [List.length_append]
    exact adj_right hA hm1 hlo
   ·obtain ⟨a, b, hab, hf, h3⟩ := hv
    have hf2 : LedN M1 h (M1.ents f.2.toNat) a := hf.2
    rw [hmn] at hf2
    exact ⟨t, u + a, b, by omega, ht, by omega, hn.append hf2, h3⟩
  ·refine up_fin E hk hJ take0 drop1 t1 g (by omega) h16 hK1 hK2 (by omega) (by omega) (fun z hz => hz) (fun hA => ?_) (fun t u v ht hu hn hv => ⟨t, u, v, Nat.le_refl _, ht, hu, hn, hv⟩)
   rw [szn] at hA
   refine adj_stay hA (fun x hx => ?_) (fun x hx => ?_)
   ·rcases List.eq_nil_or_concat es1 with h' | ⟨es0, f, h'⟩
    ·subst h'; simp [sizesE] at hx
    ·rw [List.concat_eq_append] at h'
     subst h'
     have hx' : M1.entN f.2 = x := by simpa [sizesE] using hx
     have h2 := hl es0.length (by simp)
     have hgf : n.ents.getD es0.length (0, 0) = f := by rw [hes]; simp [List.getD]
     obtain ⟨a0, b, hab, hK0, b', b2, y0, hbb, hTf, _, _, hnil⟩ := hK1.cut
     obtain ⟨m, hm, km, hme, hm1, hmn⟩ := tn f.2 b' hTf
     rw [hgf, hm] at h2
     dsimp only at h2
     omega
   ·cases es2 with
    | nil => simp [sizesE] at hx
    | cons f es3 =>
     have hx' : M1.entN f.2 = x := by simpa [sizesE] using hx
     have h2 := hr (by simp at hlen; omega)
     have hgf : n.ents.getD (es1.length + 1) (0, 0) = f := by rw [hes]; simp [List.getD]
     obtain ⟨b, t3, y0, htt, hTf, _, _, hK3⟩ := hK2
     obtain ⟨m, hm, km, hme, hm1, hmn⟩ := tn f.2 b hTf
     rw [hgf, hm] at h2
     dsimp only at h2
     omega
structure CutOk (M : SM) (ext : Nat → Nat) (h : Nat) (root key : Int) (l : List (Int × Int)) (M' : SM) (n' : NM) : Prop where
 exact : Exact M' ext
 grown : Grown M M'
 tr : NTr (Sub 1 M' h) h n' (cutL l key)
 lo : M.entN root ≤ n'.ents.length + 1
 hi : n'.ents.length ≤ M.entN root
 entN : 1 ≤ M.entN root ∧ M.entN root ≤ 6
 free : M.pool.freeCount ≤ M'.pool.freeCount + h
 sum : M'.sum ≤ M.sum + 6 * h
 loose : ∀ E, Loose M E → Loose M' (n'.ents ++ E)
 dense : 0 < h → AdjN (sizesE M (M.ents root.toNat)) → AdjN (sizesE M' n'.ents)
 led : ∀ s, Led M (h + 1) root s → LedN M' h n'.ents s
 had : ∃ y ∈ l, y.1 = key

theorem cutF_ok {ext : Nat → Nat} {key : Int} : ∀ (h d : Nat) (M : SM) (l : List (Int × Int)) (root : Int), h + 1 + d ≤ 8 → Exact M ext → Tr 1 M (h + 1) root l → Good M l →
  (SM.cutF (9 - d) M root key = (M, (SM.cutF (9 - d) M root key).2.1, false, 0) ∧ ∀ y ∈ l, y.1 ≠ key) ∨
  ((SM.cutF (9 - d) M root key).2.2.2 = 0 ∧ (SM.cutF (9 - d) M root key).2.2.1 = true ∧ CutOk M ext h root key l (SM.cutF (9 - d) M root key).1 (SM.cutF (9 - d) M root key).2.1) ∨
   ((SM.cutF (9 - d) M root key).2.2.2 = 71 ∧ M.pool.freeCount < h) ∨ ((SM.cutF (9 - d) M root key).2.2.2 = 72 ∧ ∃ c, 255 < M.refs c + 6 * h + ext c) := by
 intro h
 induction h with
 | zero =>
  intro d M l root hd E t g
  obtain ⟨n, hn, hna, hok, k⟩ := tnode_tr t (d := d) (by omega)
  have hin := innerOk_of hok (by have := k.kind; omega)
  rw [show 9 - d = (8 - d) + 1 by omega]
  have hn' : M.tnode root (8 - (8 - d)) = (n, 0) := by rw [show 8 - (8 - d) = d by omega]; exact hn
  rcases k with ⟨_, hk, hl⟩ | ⟨h0, _⟩
  ·have hb := atI_bound (l := n.ents) key
   by_cases ha : atI n.ents key < 0
   ·rw [cutF_stop hn' (.inr ha)]
    refine .inl ⟨rfl, fun y hy => ?_⟩
    have := atI_neg (by rw [hl]; exact g.1) ha y (by rw [hl]; exact hy)
    omega
   ·obtain ⟨i, hi⟩ := Int.eq_ofNat_of_zero_le (show 0 ≤ atI n.ents key by omega)
    have hil : i < n.ents.length := by omega
    rw [cutF_leaf hn' hk hi]
    obtain ⟨c1, c2⟩ := leaf_cut (by rw [hl]; exact g.1) hi hil
    by_cases hkey : (n.ents.getD i (0, 0)).1 = key
    ·rw [if_pos hkey]
     obtain ⟨c3, c4⟩ := c1 hkey
     have hlen : (n.ents.take i ++ n.ents.drop (i + 1)).length + 1 = n.ents.length := by rw [List.length_append, List.length_take, List.length_drop]; omega
     have hen := entN_of hna
     refine .inr (.inl ⟨rfl, rfl, ⟨E, Grown.refl _, .inl ⟨rfl, hk, by rw [← hl]; exact c3⟩, ?_, ?_, by rw [hen]; exact ⟨hin.pos, hin.le⟩, Nat.le_refl _, Nat.le_refl _, fun F hF => hF.mono fun y hy => List.mem_append_right _ hy, fun h0 => absurd h0 (Nat.lt_irrefl 0), fun s hs => ?_, by rw [← hl]; exact c4⟩⟩)
     ·rw [hen]; show _ ≤ (n.ents.take i ++ n.ents.drop (i + 1)).length + 1; omega
     ·rw [hen]; show (n.ents.take i ++ n.ents.drop (i + 1)).length ≤ _; omega
     ·rcases hs with ⟨_, hs⟩ | ⟨h0, _⟩
      ·have hee : M.ents root.toNat = n.ents := by unfold SM.ents; rw [hna]
       rw [hee] at hs
       exact .inl ⟨rfl, by show (n.ents.take i ++ n.ents.drop (i + 1)).length ≤ _; omega⟩
      ·exact absurd h0 (Nat.lt_irrefl 0)
    ·rw [if_neg hkey]
     exact .inl ⟨rfl, by rw [← hl]; exact c2 hkey⟩
  ·exact absurd h0 (Nat.lt_irrefl 0)
 | succ h ih =>
  intro d M l root hd E t g
  obtain ⟨n, hn, hna, hok, k⟩ := tnode_tr t (d := d) (by omega)
  have hin := innerOk_of hok (by have := k.kind; omega)
  have ge := k.good g
  have hen := entN_of hna
  have hee : M.ents root.toNat = n.ents := by unfold SM.ents; rw [hna]
  rw [show 9 - d = (8 - d) + 1 by omega]
  have hn' : M.tnode root (8 - (8 - d)) = (n, 0) := by rw [show 8 - (8 - d) = d by omega]; exact hn
  have hb := atI_bound (l := n.ents) key
  by_cases ha : atI n.ents key < 0
  ·rw [cutF_stop hn' (.inr ha)]
   refine .inl ⟨rfl, fun y hy => ?_⟩
   obtain ⟨e, he, hle⟩ := k.ge g.1 y hy
   have := atI_neg ge.1 ha e he
   omega
  ·rcases k with ⟨h0, _⟩ | ⟨_, hk, hK⟩
   ·omega
   ·obtain ⟨i, hi⟩ := Int.eq_ofNat_of_zero_le (show 0 ≤ atI n.ents key by omega)
    have hil : i < n.ents.length := by omega
    rw [cutF_inner hn' hk hi, show 8 - (8 - d) = d by omega]
    obtain ⟨_, hc1, hc2⟩ := atI_cut ge.1 key (c := i + 1) (by rw [hi]; omega)
    have hg : n.ents.getD i (0, 0) = n.ents[i] := by simp [List.getD, List.getElem?_eq_getElem hil]
    have hes : n.ents = n.ents.take i ++ n.ents[i] :: n.ents.drop (i + 1) := by rw [← List.drop_eq_getElem_cons hil, List.take_append_drop]
    rw [hg]
    obtain ⟨e, he⟩ : ∃ e, n.ents[i] = e := ⟨_, rfl⟩
    obtain ⟨es1, he1⟩ : ∃ es1, n.ents.take i = es1 := ⟨_, rfl⟩
    obtain ⟨es2, he2⟩ : ∃ es2, n.ents.drop (i + 1) = es2 := ⟨_, rfl⟩
    have hl1 : es1.length = i := by rw [← he1, List.length_take]; omega
    have hee1 : e.1 ≤ key := hc1 e (by rw [← he, List.mem_take_iff_getElem]; exact ⟨i, by omega, rfl⟩)
    have hee2 : ∀ f ∈ es2, key < f.1 := fun f hf => hc2 f (by rw [he2]; exact hf)
    rw [he, he1, he2] at hes
    rw [he]
    rw [hes] at hK
    obtain ⟨a, b, hab, hK1, s, tt, y, hst, hT, hy, hye, hK2⟩ := hK.cut
    subst hab hst
    have ga : ∀ z ∈ a, z.1 < key := fun z hz => by
     have hys : y ∈ s ++ tt := List.mem_append_left _ (List.mem_of_mem_head? (by rw [hy]; rfl))
     have := (List.pairwise_append.1 g.1).2.2 z hz y hys
     omega
    have gt : ∀ z ∈ tt, key < z.1 := fun z hz => by
     cases es2 with
     | nil => rw [show tt = [] from hK2] at hz; cases hz
     | cons f es2 =>
      obtain ⟨u, hu, hue⟩ := hK2.head
      have h1 := hee2 f (List.mem_cons_self ..)
      have h2 := head_le g.right.right.1 hu z hz
      omega
    have hcut : cutL (a ++ (s ++ tt)) key = a ++ cutL s key ++ tt := by rw [← List.append_assoc]; exact cutL_mid ga gt
    have gs : Good M s := g.right.left
    have hr := ih (d + 1) M s e.2 (by omega) E hT.1 gs
    rw [show 9 - (d + 1) = 8 - d by omega] at hr
    obtain ⟨R, hR⟩ : ∃ R, SM.cutF (8 - d) M e.2 key = R := ⟨_, rfl⟩
    rw [hR] at hr ⊢
    obtain ⟨M1, n1, was, er⟩ := R
    dsimp only at hr ⊢
    rcases hr with ⟨hr, hno⟩ | ⟨rfl, rfl, P⟩ | ⟨rfl, hf⟩ | ⟨rfl, hf⟩
    ·injection hr with h1 h2
     injection h2 with _ h2
     injection h2 with h2 h3
     subst h1 h2 h3
     refine .inl ⟨by unfold cutRes; rw [if_pos (.inr rfl)], fun z hz => ?_⟩
     rcases List.mem_append.1 hz with hz | hz
     ·have := ga z hz; omega
     ·rcases List.mem_append.1 hz with hz | hz
      ·exact hno z hz
      ·have := gt z hz; omega
    ·have a1 := P.free
     have a2 := P.sum
     have G1 := P.grown
     have hen1 := entN_grown G1 hT.1.held
     have hlo := P.lo
     have hhi := P.hi
     have hpe := P.entN
     have g1 : Good M1 (a ++ cutL s key ++ tt) := by rw [← hcut]; exact (g.cut key).grown G1
     have hup := cut_up P.exact (d := d) (by omega) hk hes hin.le (hK1.mono fun f _ z hz => Sub.grown G1 hz) (Sub.grown G1 hT) (hK2.mono fun f _ z hz => Sub.grown G1 hz) P.tr g1 (by rw [hen1]; exact hlo) (by omega)
     rw [hl1] at hup
     obtain ⟨R, hR2⟩ : ∃ R, cutRes n i d M1 n1 true 0 = R := ⟨_, rfl⟩
     rw [hR2] at hup ⊢
     obtain ⟨M2, n2, was, er⟩ := R
     dsimp only at hup ⊢
     rcases hup with ⟨rfl, rfl, U⟩ | ⟨rfl, hf⟩ | ⟨rfl, c, hc⟩
     ·have b1 := U.free
      have b2 := U.sum
      have b3 := U.lo
      have b4 := U.hi
      have h1 : ∀ f ∈ n.ents, M.pool.heldB f.2 = true := by
       rw [hes]
       exact Kids.held (P := fun q => M.pool.heldB q = true) (fun q a ha => ha.1.held) hK
      refine .inr (.inl ⟨rfl, rfl, ⟨U.exact, G1.trans U.grown, by rw [hcut]; exact U.tr, by rw [hen]; exact b3, by rw [hen]; exact b4, by rw [hen]; exact ⟨hin.pos, hin.le⟩, by omega, by omega, fun F hF => U.loose F (P.loose F hF), fun _ hA => ?_, fun s0 hs0 => ?_, ?_⟩⟩)
      ·refine U.dense ?_
       rw [sizes_grown G1 h1, ← hee]
       exact hA
      ·rcases hs0 with ⟨h0, _⟩ | ⟨_, hs0⟩
       ·omega
       ·rw [hee, hes] at hs0
        obtain ⟨t0, u0, h0, k1, t2, u2, h2, ke, k3⟩ := hs0.cut
        exact (U.led t0 t2 u2 (k1.grown G1 hK1) ke.1 (P.led t2 ke.2) (k3.grown G1 hK2)).weak (by omega)
      ·obtain ⟨z, hz, hze⟩ := P.had
       exact ⟨z, List.mem_append_right _ (List.mem_append_left _ hz), hze⟩
     ·exact .inr (.inr (.inl ⟨rfl, by omega⟩))
     ·have hg := G1.refs c
      exact .inr (.inr (.inr ⟨rfl, c, by omega⟩))
    ·refine .inr (.inr (.inl ⟨?_, by omega⟩))
     unfold cutRes
     rw [if_pos (.inl (by decide))]
    ·obtain ⟨c, hf⟩ := hf
     refine .inr (.inr (.inr ⟨?_, c, by omega⟩))
     unfold cutRes
     rw [if_pos (.inl (by decide))]
theorem Kids.in {T : Int → List (Int × Int) → Prop} : ∀ {es l : List (Int × Int)}, Kids T es l → ∀ y ∈ l, ∃ e ∈ es, ∃ a, T e.2 a ∧ y ∈ a
 | [], l, h, y, hy => by rw [show l = [] from h] at hy; cases hy
 | e :: es, _, ⟨a, b, x, h1, h2, h3, h4, h5⟩, y, hy => by
  rw [h1] at hy
  rcases List.mem_append.1 hy with hy | hy
  ·exact ⟨e, List.mem_cons_self .., a, h2, hy⟩
  ·obtain ⟨f, hf, c, hc, hyc⟩ := Kids.in h5 y hy
   exact ⟨f, List.mem_cons_of_mem _ hf, c, hc, hyc⟩
theorem tr_held {m : Nat} {M : SM} {ext : Nat → Nat} (E : Exact M ext) : ∀ {h : Nat} {p : Int} {l : List (Int × Int)}, Tr m M h p l → ∀ y ∈ l, M.pool.heldB y.2 = true
 | 0, _, _, t, _, _ => t.elim
 | h + 1, p, l, ⟨hp, n, hn, hok, k⟩, y, hy => by
  rcases k with ⟨_, _, hl⟩ | ⟨_, _, hK⟩
  ·have hlv := (heldB_int hp).2
   have hy' : y ∈ M.ents p.toNat := by unfold SM.ents; rw [hn]; show y ∈ n.ents; rw [hl]; exact hy
   have h1 := E.kids _ hlv y hy'
   have h0 := E.pos hlv hy'
   obtain ⟨c, hc⟩ := Int.eq_ofNat_of_zero_le h0
   rw [hc] at h1 ⊢
   rw [heldB_nat]
   exact h1
  ·obtain ⟨e, _, a, ha, hya⟩ := hK.in y hy
   exact tr_held E ha.1 y hya
theorem ext_held {M : SM} {ext : Nat → Nat} (E : Exact M ext) {p : Nat} (hp : p < M.pool.size) (he : 0 < ext p) : M.pool.heldB (p : Int) = true := by
 rw [heldB_nat]
 have := E.cnt p hp
 unfold PM.live
 simp only [hp, decide_true, Bool.true_and]
 rw [Bool.or_eq_true]
 left
 rw [decide_eq_true_eq]
 omega

def Clean (M : SM) : Prop := ∀ q, (M.pool.st q = 0 ∨ M.pool.st q = 1) ∧ (0 < M.pool.cnt q → M.pool.st q = 1)
theorem clean_live {M : SM} (h : Clean M) {i : Int} (hi : M.pool.heldB i = true) : M.pool.st i.toNat = 1 := by
 have hl := (heldB_int hi).2
 have := h i.toNat
 simp only [PM.live, Bool.and_eq_true, Bool.or_eq_true, decide_eq_true_eq, beq_iff_eq] at hl
 rcases hl.2 with h1 | h1 | h1
 ·exact this.2 h1
 ·exact h1
 ·omega
theorem clean_closed : Closed Clean := by
 refine ⟨fun M i n hi h q => ?_, fun M i h q => ?_, fun M i hi h q => ?_⟩
 ·have := h q
  by_cases e : q = i
  ·subst e; simp [PM.setSt]
  ·simp only [PM.setSt, if_neg e]; exact this
 ·have := h q
  show ((M.pool.holdTo i).st q = 0 ∨ (M.pool.holdTo i).st q = 1) ∧ (0 < (M.pool.holdTo i).cnt q → (M.pool.holdTo i).st q = 1)
  unfold PM.holdTo
  split
  ·rename_i hc
   simp only [Bool.and_eq_true] at hc
   have hs := clean_live h hc.1
   simp only [PM.setCnt]
   refine ⟨this.1, fun hq => ?_⟩
   split at hq
   ·rename_i e; rw [e]; exact hs
   ·exact this.2 hq
  ·exact this
 ·have := h q
  have hs := clean_live h hi
  show ((M.pool.dropTo i.toNat).st q = 0 ∨ (M.pool.dropTo i.toNat).st q = 1) ∧ (0 < (M.pool.dropTo i.toNat).cnt q → (M.pool.dropTo i.toNat).st q = 1)
  unfold PM.dropTo
  split
  ·simp only [PM.setCnt]
   refine ⟨this.1, fun hq => ?_⟩
   split at hq
   ·rename_i e; rw [e]; exact hs
   ·exact this.2 hq
  ·simp only [PM.setCnt, PM.setSt]
   by_cases e : q = i.toNat
   ·subst e
    simp only [if_true]
    rw [hs]
    exact ⟨.inl rfl, fun h => by omega⟩
   ·simp only [if_neg e]
    exact this
theorem clean_free {M : SM} (h : Clean M) : M.pool.freeCount + M.liveN = M.pool.size := by
 unfold PM.freeCount SM.liveN
 rw [freeN_sum, ← sumN_add]
 have : ∀ n, n ≤ M.pool.size → sumN (fun i => (if M.pool.freeB i then 1 else 0) + if M.live i then 1 else 0) n = n := by
  intro n
  induction n with
  | zero => intro _; rfl
  | succ n ih =>
   intro hn
   unfold sumN
   rw [ih (by omega)]
   have hq := h n
   by_cases hl : M.live n = true
   ·have hf : M.pool.freeB n = false := by
     simp only [SM.live, PM.live, Bool.and_eq_true, Bool.or_eq_true, decide_eq_true_eq, beq_iff_eq] at hl
     unfold PM.freeB
     rw [Bool.and_eq_false_iff]
     rcases hl.2 with h1 | h1 | h1
     ·left; simp; omega
     ·right; rw [h1]; rfl
     ·right; rw [h1]; rfl
    rw [hf, hl]; simp
   ·have hf : M.pool.freeB n = true := by
     simp only [SM.live, PM.live, Bool.and_eq_true, Bool.or_eq_true, decide_eq_true_eq, beq_iff_eq, not_and, not_or] at hl
     have := hl (by omega)
     unfold PM.freeB
     simp
     omega
    have hl' : M.live n = false := by simpa using hl
    rw [hf, hl']; simp
 exact this _ (Nat.le_refl _)

def pagesF (M : SM) : Nat → Int → List Nat
 | 0, _ => []
 | h + 1, p => p.toNat :: (if h = 0 then [] else (M.ents p.toNat).flatMap fun e => pagesF M h e.2)
theorem pages_self {M : SM} {h : Nat} {p : Int} (h0 : 0 < h) : p.toNat ∈ pagesF M h p := by
 obtain ⟨k, rfl⟩ : ∃ k, h = k + 1 := ⟨h - 1, by omega⟩
 exact List.mem_cons_self ..
theorem tr_pos {m : Nat} {M : SM} {h : Nat} {p : Int} {l : List (Int × Int)} (t : Tr m M h p l) : 0 < h := by
 cases h with
 | zero => exact t.elim
 | succ h => omega
theorem ents_of {M : SM} {q : Nat} {n : NM} (h : M.nodeAt q = some n) : M.ents q = n.ents := by unfold SM.ents; rw [h]
theorem pages_closed {m : Nat} {M : SM} : ∀ {h : Nat} {p : Int} {l : List (Int × Int)}, Tr m M h p l → ∀ q ∈ pagesF M h p, ∀ x ∈ M.ents q, x.2.toNat ∈ pagesF M h p ∨ x ∈ l
 | 0, _, _, t, _, _, _, _ => t.elim
 | h + 1, p, l, ⟨hp, n, hn, hok, k⟩, q, hq, x, hx => by
  have he := ents_of hn
  unfold pagesF at hq ⊢
  rcases k with ⟨h0, _, hl⟩ | ⟨h0, _, hK⟩
  ·rw [if_pos h0, List.mem_singleton] at hq
   subst hq
   rw [he, hl] at hx
   exact .inr hx
  ·rw [if_neg (by omega)] at hq ⊢
   rcases List.mem_cons.1 hq with rfl | hq
   ·rw [he] at hx
    left
    refine List.mem_cons_of_mem _ (List.mem_flatMap.2 ⟨x, by rw [he]; exact hx, pages_self h0⟩)
   ·obtain ⟨e, hee, hqe⟩ := List.mem_flatMap.1 hq
    rw [he] at hee
    obtain ⟨a, ha, hal⟩ := hK.each e hee
    rcases pages_closed ha.1 q hqe x hx with h1 | h1
    ·exact .inl (List.mem_cons_of_mem _ (List.mem_flatMap.2 ⟨e, by rw [he]; exact hee, h1⟩))
    ·exact .inr (hal x h1)
def entSum (M : SM) (L : List Nat) : Nat := (L.map fun q => (M.ents q).length).sum
theorem entSum_append (M : SM) (a b : List Nat) : entSum M (a ++ b) = entSum M a + entSum M b := by unfold entSum; rw [List.map_append, List.sum_append]
theorem reach_all {M : SM} {ext : Nat → Nat} (E : Exact M ext) (hl : Loose M []) {L : List Nat} (h1 : ∀ q, q < M.pool.size → 0 < ext q → q ∈ L) (h2 : ∀ q ∈ L, ∀ x ∈ M.ents q, x.2.toNat ∈ L) : ∀ q, M.live q = true → q ∈ L := by
 obtain ⟨r, hr⟩ := E.rank
 have hb : ∀ q, M.live q = true → r q ≤ sumN r M.pool.size := fun q hq => sumN_get (live_lt hq)
 have key : ∀ d q, M.live q = true → sumN r M.pool.size - r q ≤ d → q ∈ L := by
  intro d
  induction d with
  | zero =>
   intro q hq hd
   refine Classical.byContradiction fun hn => ?_
   have hc : 0 < M.pool.cnt q := by
    rcases Nat.eq_zero_or_pos (M.pool.cnt q) with h0 | h0
    ·obtain ⟨x, hx, _⟩ := hl q hq h0; cases hx
    ·exact h0
   have he : ext q = 0 := by
    rcases Nat.eq_zero_or_pos (ext q) with h0 | h0
    ·exact h0
    ·exact absurd (h1 q (live_lt hq) h0) hn
   rw [E.cnt q (live_lt hq), he, Nat.add_zero] at hc
   obtain ⟨p, hp, x, hx, hxe⟩ := refs_pos hc
   have := hr p hp x hx
   rw [hxe] at this
   have := hb p hp
   have := hb q hq
   omega
  | succ d ih =>
   intro q hq hd
   refine Classical.byContradiction fun hn => ?_
   have hc : 0 < M.pool.cnt q := by
    rcases Nat.eq_zero_or_pos (M.pool.cnt q) with h0 | h0
    ·obtain ⟨x, hx, _⟩ := hl q hq h0; cases hx
    ·exact h0
   have he : ext q = 0 := by
    rcases Nat.eq_zero_or_pos (ext q) with h0 | h0
    ·exact h0
    ·exact absurd (h1 q (live_lt hq) h0) hn
   rw [E.cnt q (live_lt hq), he, Nat.add_zero] at hc
   obtain ⟨p, hp, x, hx, hxe⟩ := refs_pos hc
   have := hr p hp x hx
   rw [hxe] at this
   have hpL := ih p hp (by omega)
   have := h2 p hpL x hx
   rw [hxe] at this
   exact hn this
 exact fun q hq => key _ q hq (Nat.le_refl _)
where
 refs_pos {M : SM} {q : Nat} (h : 0 < M.refs q) : ∃ p, M.live p = true ∧ ∃ x ∈ M.ents p, x.2.toNat = q := by
  refine Classical.byContradiction fun hn => ?_
  have : M.refs q = 0 := sumN_zero fun p _ => by
   by_cases hp : M.live p = true
   ·rw [if_pos hp]
    rcases Nat.eq_zero_or_pos (occ (M.ents p) q) with h0 | h0
    ·exact h0
    ·obtain ⟨x, hx, he⟩ := List.countP_pos_iff.1 h0
     exact absurd ⟨p, hp, x, hx, by rw [show x.2 = (q : Int) by simpa using he]; exact Int.toNat_natCast q⟩ hn
   ·rw [if_neg hp]
  omega
theorem sum_list {f : Nat → Nat} {b : Nat → Bool} : ∀ (L : List Nat) (n : Nat), (∀ q, q < n → b q = true → q ∈ L) → sumN (fun q => if b q then f q else 0) n ≤ (L.map f).sum
 | [], n, h => by
  rw [sumN_zero fun q hq => by
   by_cases hb : b q = true
   ·exact absurd (h q hq hb) (by simp)
   ·rw [if_neg hb]]
  exact Nat.zero_le _
 | a :: L, n, h => by
  have ih := sum_list (f := f) (b := fun q => b q && decide (q ≠ a)) L n (fun q hq hb => by
   simp only [Bool.and_eq_true, decide_eq_true_eq] at hb
   rcases List.mem_cons.1 (h q hq hb.1) with e | e
   ·exact absurd e hb.2
   ·exact e)
  rw [List.map_cons, List.sum_cons]
  by_cases ha : a < n
  ·have := sumN_set (f := fun q => if b q then f q else 0) (g := fun q => if (b q && decide (q ≠ a)) then f q else 0) ha (fun j _ hj => by simp [hj])
   have e1 : (if (b a && decide (a ≠ a)) = true then f a else 0) = 0 := by simp
   rw [e1] at this
   have : (if b a = true then f a else 0) ≤ f a := by split <;> omega
   omega
  ·have : sumN (fun q => if b q then f q else 0) n = sumN (fun q => if (b q && decide (q ≠ a)) then f q else 0) n := sumN_congr fun q hq => by
    have hqa : q ≠ a := by omega
    rw [decide_eq_true hqa, Bool.and_true]
   omega
theorem liveN_list {M : SM} {L : List Nat} (h : ∀ q, M.live q = true → q ∈ L) : M.liveN ≤ L.length := by
 have := sum_list (f := fun _ => 1) (b := M.live) L M.pool.size (fun q _ hq => h q hq)
 have e : ∀ L : List Nat, (L.map fun _ => 1).sum = L.length := fun L => by
  induction L with
  | nil => rfl
  | cons a L ih => rw [List.map_cons, List.sum_cons, ih, List.length_cons]; omega
 rw [e] at this
 exact this
theorem sumE_list {M : SM} {L : List Nat} (h : ∀ q, M.live q = true → q ∈ L) : M.sum ≤ entSum M L := sum_list L M.pool.size (fun q _ hq => h q hq)
theorem tr_ents {m : Nat} {M : SM} {h : Nat} {p : Int} {l : List (Int × Int)} (t : Tr m M (h + 1) p l) : 1 ≤ (M.ents p.toNat).length ∧ (M.ents p.toNat).length ≤ 6 := by
 obtain ⟨_, n, hn, hok, k⟩ := t
 have := innerOk_of hok (by have := k.kind; omega)
 rw [ents_of hn]
 exact ⟨this.pos, this.le⟩
theorem led_high {m : Nat} {M : SM} {h : Nat} {p : Int} {l : List (Int × Int)} {s : Nat} (t : Tr m M (h + 1) p l) (k : Led M (h + 1) p s) (h0 : 0 < h) : 3 ^ h ≤ s := by
 rcases k with ⟨hz, _⟩ | ⟨_, hK⟩
 ·omega
 ·have h1 := (tr_ents t).1
  cases he : M.ents p.toNat with
  | nil => rw [he] at h1; simp at h1
  | cons e es =>
   rw [he] at hK
   obtain ⟨t, u, h2, h3, _⟩ := hK
   have := h3.1
   omega
theorem pages_cnt {M : SM} : ∀ (h : Nat) (p : Int), (pagesF M h p).length = sumN (fun j => cntL M (j + 1) h p) h
 | 0, _ => rfl
 | h + 1, p => by
  unfold pagesF sumN
  have e1 : cntL M (h + 1) (h + 1) p = 1 := by
   unfold cntL
   rw [if_pos rfl]
   split
   ·rfl
   ·have : ∀ es : List (Int × Int), (es.map fun e => cntL M (h + 1) h e.2).sum = 0 := fun es => by
     induction es with
     | nil => rfl
     | cons e es ih => rw [List.map_cons, List.sum_cons, ih, cntL_low (by omega)]
    rw [this]
  rw [e1, List.length_cons]
  by_cases h0 : h = 0
  ·subst h0; rfl
  ·rw [if_neg h0]
   have e2 : sumN (fun j => cntL M (j + 1) (h + 1) p) h = sumN (fun j => ((M.ents p.toNat).map fun e => cntL M (j + 1) h e.2).sum) h := sumN_congr fun j hj => by
    conv => lhs; unfold cntL
    rw [if_neg (by omega), if_neg h0, Nat.zero_add]
   rw [e2]
   have e3 : ∀ es : List (Int × Int), (es.flatMap fun e => pagesF M h e.2).length = sumN (fun j => (es.map fun e => cntL M (j + 1) h e.2).sum) h := fun es => by
    induction es with
    | nil => exact (sumN_zero (fun _ _ => rfl)).symm
    | cons e es ih =>
     have e4 : sumN (fun j => ((e :: es).map fun e => cntL M (j + 1) h e.2).sum) h = sumN (fun j => cntL M (j + 1) h e.2) h + sumN (fun j => (es.map fun e => cntL M (j + 1) h e.2).sum) h := by
      rw [← sumN_add]
      exact sumN_congr fun j _ => by rw [List.map_cons, List.sum_cons]
     rw [e4, ← ih, ← pages_cnt h e.2, List.flatMap_cons, List.length_append]
   rw [e3]
theorem led_pages {m : Nat} {M : SM} {h : Nat} {p : Int} {l : List (Int × Int)} {s : Nat} (t : Tr m M h p l) (k : Led M h p s) (hs : s ≤ 240) : h ≤ 5 ∧ (s ≤ 150 → (pagesF M h p).length ≤ 73) ∧ 2 * (pagesF M h p).length ≤ s + 3 := by
 have h5 : h ≤ 5 := by
  cases h with
  | zero => exact Nat.zero_le _
  | succ h =>
   by_cases h0 : 0 < h
   ·have := led_high t k h0
    refine Classical.byContradiction fun hn => ?_
    have h2 : 3 ^ 5 ≤ 3 ^ h := Nat.pow_le_pow_right (by decide) (by omega)
    have : (3 : Nat) ^ 5 = 243 := by decide
    omega
   ·omega
 refine ⟨h5, ?_⟩
 rw [pages_cnt]
 have hc : ∀ j, j < h → 3 ^ j * cntL M j h p ≤ s := fun j hj => led_cnt k hj
 have ht : cntL M h h p ≤ 1 := by
  cases h with
  | zero => exact Nat.zero_le _
  | succ h =>
   unfold cntL
   rw [if_pos rfl]
   split
   ·exact Nat.le_refl _
   ·have : ∀ es : List (Int × Int), (es.map fun e => cntL M (h + 1) h e.2).sum = 0 := fun es => by
     induction es with
     | nil => rfl
     | cons e es ih => rw [List.map_cons, List.sum_cons, ih, cntL_low (by omega)]
    rw [this]
    exact Nat.le_refl _
 have d1 := hc 1
 have d2 := hc 2
 have d3 := hc 3
 have d4 := hc 4
 have e2 : (3 : Nat) ^ 2 = 9 := by decide
 have e3 : (3 : Nat) ^ 3 = 27 := by decide
 have e4 : (3 : Nat) ^ 4 = 81 := by decide
 rw [Nat.pow_one] at d1
 rw [e2] at d2
 rw [e3] at d3
 rw [e4] at d4
 have hcase : h = 0 ∨ h = 1 ∨ h = 2 ∨ h = 3 ∨ h = 4 ∨ h = 5 := by omega
 rcases hcase with rfl | rfl | rfl | rfl | rfl | rfl
 ·simp [sumN]
 ·simp only [sumN, Nat.zero_add, Nat.reduceAdd]; omega
 ·have := d1 (by decide)
  simp only [sumN, Nat.zero_add, Nat.reduceAdd]; omega
 ·have := d1 (by decide); have := d2 (by decide)
  simp only [sumN, Nat.zero_add, Nat.reduceAdd]; omega
 ·have := d1 (by decide); have := d2 (by decide); have := d3 (by decide)
  simp only [sumN, Nat.zero_add, Nat.reduceAdd]; omega
 ·have := d1 (by decide); have := d2 (by decide); have := d3 (by decide); have := d4 (by decide)
  simp only [sumN, Nat.zero_add, Nat.reduceAdd]; omega
theorem pages_sum {m : Nat} {M : SM} : ∀ {h : Nat} {p : Int} {l : List (Int × Int)}, Tr m M h p l → entSum M (pagesF M h p) + 1 = l.length + (pagesF M h p).length
 | 0, _, _, t => t.elim
 | h + 1, p, l, ⟨hp, n, hn, hok, k⟩ => by
  have he := ents_of hn
  unfold pagesF
  rcases k with ⟨h0, _, hl⟩ | ⟨h0, _, hK⟩
  ·rw [if_pos h0]
   unfold entSum
   simp only [List.map_cons, List.map_nil, List.sum_cons, List.sum_nil, List.length_cons, List.length_nil]
   rw [he, hl]
   omega
  ·rw [if_neg (by omega), he]
   have key : ∀ (es l : List (Int × Int)), Kids (Sub m M h) es l → entSum M (es.flatMap fun e => pagesF M h e.2) + es.length = l.length + (es.flatMap fun e => pagesF M h e.2).length := by
    intro es
    induction es with
    | nil => intro l hl; rw [show l = [] from hl]; rfl
    | cons e es ih =>
     rintro l ⟨a, b, x, h1, h2, h3, h4, h5⟩
     have i1 := pages_sum h2.1
     have i2 := ih b h5
     rw [List.flatMap_cons, entSum_append, h1, List.length_append, List.length_append, List.length_cons]
     omega
   have i3 := key n.ents l hK
   have e1 : entSum M (p.toNat :: n.ents.flatMap fun e => pagesF M h e.2) = n.ents.length + entSum M (n.ents.flatMap fun e => pagesF M h e.2) := by
    unfold entSum
    rw [List.map_cons, List.sum_cons, he]
   rw [e1, List.length_cons]
   omega
theorem cutF_closed {Q : SM → Prop} (C : Closed Q) : ∀ (f : Nat) (M : SM) (root key : Int), Q M → Q (SM.cutF f M root key).1
 | 0, _, _, _, h => h
 | f + 1, M, root, key, h => by
  unfold SM.cutF
  dsimp only
  split
  ·exact h
  ·split
   ·split <;> exact h
   ·have hc := cutF_closed C f M ((M.tnode root (8 - f)).1.ents.getD (atI (M.tnode root (8 - f)).1.ents key).toNat (0, 0)).2 key h
    split
    ·exact hc
    ·split
     ·split <;> exact C.split _ hc
     ·exact hc
theorem cut_closed {Q : SM → Prop} (C : Closed Q) {M : SM} (root key : Int) (h : Q M) : Q (M.cut root key).1 := by
 have hc := cutF_closed C 9 M root key h
 unfold SM.cut
 split
 ·exact h
 ·split
  ·exact h
  ·dsimp only
   split
   ·exact hc
   ·split
    ·exact hc
    ·split
     ·exact hc
     ·split <;> exact C.split _ hc
structure CutTop (M : SM) (ext : Nat → Nat) (h : Nat) (root key : Int) (l : List (Int × Int)) (M' : SM) (p : Int) : Prop where
 exact : Exact M' ext
 grown : Grown M M'
 sum : M'.sum ≤ M.sum + 6 * h + 6
 loose : Loose M' [((0 : Int), p)]
 had : ∃ y ∈ l, y.1 = key
 tr : (p = -1 ∧ cutL l key = []) ∨ ∃ h', h' ≤ h + 1 ∧ Tr 1 M' h' p (cutL l key) ∧ (∀ s, Led M (h + 1) root s → Led M' h' p s) ∧
  (h' = h + 1 → 0 < h → 2 ≤ (M'.ents p.toNat).length ∧ (AdjN (sizesE M (M.ents root.toNat)) → AdjN (sizesE M' (M'.ents p.toNat))))

theorem cut_ok {M : SM} {ext : Nat → Nat} (E : Exact M ext) {h : Nat} {root key : Int} {l : List (Int × Int)} (t : Tr 1 M (h + 1) root l) (h8 : h + 1 ≤ 8) (g : Good M l) (hl : Loose M []) (k0 : 0 ≤ key) (k1 : key < 64) :
  (M.cut root key = (M, root, false, 0) ∧ ∀ y ∈ l, y.1 ≠ key) ∨
   ((M.cut root key).2.2.2 = 0 ∧ (M.cut root key).2.2.1 = true ∧ CutTop M ext h root key l (M.cut root key).1 (M.cut root key).2.1) ∨
   ((M.cut root key).2.2.2 = 71 ∧ M.pool.freeCount < h + 1) ∨ ((M.cut root key).2.2.2 = 72 ∧ ∃ c, 255 < M.refs c + 6 * h + 6 + ext c) := by
 have hne : root ≠ -1 := fun e => by have := (heldB_int t.held).1; omega
 have hc := cutF_ok (key := key) h 0 M l root (by omega) E t g
 rw [Nat.sub_zero] at hc
 unfold SM.cut
 rw [if_neg (by omega), if_neg hne]
 dsimp only
 obtain ⟨R, hR⟩ : ∃ R, SM.cutF 9 M root key = R := ⟨_, rfl⟩
 rw [hR] at hc ⊢
 obtain ⟨M1, n1, was, er⟩ := R
 dsimp only at hc ⊢
 rcases hc with ⟨e, hno⟩ | ⟨rfl, rfl, P⟩ | ⟨rfl, hf⟩ | ⟨rfl, c, hf⟩
 ·injection e with e1 e2
  injection e2 with _ e2
  injection e2 with e2 e3
  subst e1 e2 e3
  rw [if_neg (by decide), if_pos rfl]
  exact .inl ⟨rfl, hno⟩
 ·rw [if_neg (by decide), if_neg (by decide)]
  have a2 := P.sum
  have hhi := P.hi
  have hpe := P.entN
  have hL := P.loose [] hl
  rw [List.append_nil] at hL
  have g1 : Good M1 (cutL l key) := (g.cut key).grown P.grown
  by_cases hone : n1.kind = 3 ∧ n1.ents.length = 1
  ·rw [if_pos hone]
   obtain ⟨hk, h1⟩ := hone
   cases he : n1.ents with
   | nil => rw [he] at h1; simp at h1
   | cons e es =>
    have hes : es = [] := by rw [he] at h1; exact List.eq_nil_of_length_eq_zero (by simpa using h1)
    subst hes
    have hK := P.tr
    rcases hK with ⟨_, hk2, _⟩ | ⟨h0, _, hK⟩
    ·omega
    ·rw [he] at hK hL
     obtain ⟨a, b, x, hab, hT, _, _, hb⟩ := hK
     rw [show b = [] from hb, List.append_nil] at hab
     refine .inr (.inl ⟨rfl, rfl, P.exact, P.grown, by show M1.sum ≤ _; omega, ?_, P.had, .inr ⟨h, Nat.le_succ _, ?_, fun s hs => ?_, fun e => by omega⟩⟩)
     ·intro q hq hc
      obtain ⟨y, hy, hye⟩ := hL q hq hc
      rw [List.mem_singleton] at hy
      subst hy
      exact ⟨_, List.mem_singleton.2 rfl, hye⟩
     ·show Tr 1 M1 h e.2 (cutL l key)
      rw [hab]; exact hT.1
     ·have := P.led s hs
      rw [he] at this
      rcases this with ⟨hz, _⟩ | ⟨_, t, u, h2, h3, _⟩
      ·omega
      ·show Led M1 h e.2 s
       exact h3.2.weak (by omega)
  ·rw [if_neg hone]
   by_cases hz : n1.ents.length = 0
   ·rw [split_none hz]
    dsimp only
    rw [if_pos (.inr rfl)]
    refine .inr (.inl ⟨rfl, rfl, P.exact, P.grown, by show M1.sum ≤ _; omega, ?_, P.had, .inl ⟨rfl, P.tr.nil hz⟩⟩)
    have : n1.ents = [] := List.eq_nil_of_length_eq_zero hz
    rw [this] at hL
    exact hL.mono fun y hy => by cases hy
   ·have hsp := split_ok P.exact P.tr g1 (by omega) (by omega)
    obtain ⟨R, hR2⟩ : ∃ R, M1.split n1 = R := ⟨_, rfl⟩
    rw [hR2] at hsp ⊢
    obtain ⟨M2, out, er⟩ := R
    dsimp only at hsp ⊢
    rcases hsp with ⟨rfl, S⟩ | ⟨rfl, hf⟩ | ⟨rfl, c, hf⟩
    ·have b2 := S.sum
     obtain ⟨k, i, ho, hT, _, _⟩ := S.one (by omega)
     rw [ho]
     rw [if_neg (by simp)]
     refine .inr (.inl ⟨rfl, rfl, S.exact, P.grown.trans S.grown, by show M2.sum ≤ _; omega, ?_, P.had, .inr ⟨h + 1, Nat.le_refl _, hT, fun s hs => ?_, fun _ h0 => ?_⟩⟩)
     ·have := S.loose [] (by rw [List.append_nil]; exact hL)
      rw [ho] at this
      intro q hq hc
      obtain ⟨y, hy, he⟩ := this q hq hc
      rw [List.nil_append, List.mem_singleton] at hy
      subst hy
      exact ⟨_, List.mem_singleton.2 rfl, he⟩
     ·have := (S.led s (P.led s hs)).1 (by omega)
      rw [ho] at this
      exact this _ (List.mem_cons_self ..)
     ·obtain ⟨o, ho1, ho2⟩ := S.last
      obtain rfl : o = (k, (i : Int)) := by rw [ho] at ho1; simpa using ho1.symm
      rw [if_neg (by omega), List.drop_zero] at ho2
      show 2 ≤ (M2.ents (Int.toNat (i : Int))).length ∧ (_ → AdjN (sizesE M2 (M2.ents (Int.toNat (i : Int)))))
      rw [ho2]
      rcases P.tr with ⟨hz, _⟩ | ⟨_, hk3, hK⟩
      ·omega
      ·refine ⟨?_, fun hA => ?_⟩
       ·have : ¬ n1.ents.length = 1 := fun e => hone ⟨hk3, e⟩
        omega
       ·rw [sizes_grown S.grown (Kids.held (P := fun q => M1.pool.heldB q = true) (fun q a ha => ha.1.held) hK)]
        exact P.dense h0 hA
    ·have a1 := P.free
     refine .inr (.inr (.inl ⟨?_, by rw [if_neg (by omega)] at hf; omega⟩))
     rw [if_pos (.inl (by decide))]
    ·have hg := P.grown.refs c
     refine .inr (.inr (.inr ⟨?_, c, by omega⟩))
     rw [if_pos (.inl (by decide))]
 ·rw [if_pos (by decide)]
  exact .inr (.inr (.inl ⟨rfl, by omega⟩))
 ·rw [if_pos (by decide)]
  exact .inr (.inr (.inr ⟨rfl, c, by omega⟩))
structure TreeIn (m : Nat) (M : SM) (root : Int) (l : List (Int × Int)) (P : Nat) : Prop where
 root : (root = -1 ∧ l = []) ∨ ∃ h, Tr m M h root l ∧ Led M h root P
 keys : RisesK l ∧ ∀ y ∈ l, 0 ≤ y.1 ∧ y.1 < 64
theorem TreeIn.none (m : Nat) (M : SM) (P : Nat) : TreeIn m M (-1) [] P := ⟨.inl ⟨rfl, rfl⟩, List.Pairwise.nil, fun y hy => by cases hy⟩
section
variable {m : Nat} {M M' : SM} {ext : Nat → Nat} {root : Int} {l : List (Int × Int)} {P : Nat}
theorem TreeIn.held (t : TreeIn m M root l P) (E : Exact M ext) : ∀ y ∈ l, M.pool.heldB y.2 = true := fun y hy => by
 rcases t.root with ⟨_, el⟩ | ⟨h, t, _⟩
 ·rw [el] at hy; cases hy
 ·exact tr_held E t y hy
theorem TreeIn.good (t : TreeIn m M root l P) (E : Exact M ext) : Good M l := ⟨t.keys.1, fun y hy => ⟨(t.keys.2 y hy).1, (t.keys.2 y hy).2, t.held E y hy⟩⟩
theorem TreeIn.weak (t : TreeIn m M root l P) {P' : Nat} (h : P ≤ P') : TreeIn m M root l P' := ⟨t.root.imp id fun ⟨k, a, b⟩ => ⟨k, a, b.weak h⟩, t.keys⟩
theorem TreeIn.grown (t : TreeIn m M root l P) (g : Grown M M') : TreeIn m M' root l P := ⟨t.root.imp id fun ⟨k, a, b⟩ => ⟨k, Tr.grown g a, Led.grown g a b⟩, t.keys⟩
theorem TreeIn.len (t : TreeIn m M root l P) : l.length ≤ 64 := rises_len t.keys.1 t.keys.2
theorem TreeIn.stays (t : TreeIn m M root l P) (E : Exact M' ext) (hlog : M'.log = M.log) (hs : M'.pool.size = M.pool.size) (hr : root = -1 ∨ 0 < ext root.toNat) : TreeIn m M' root l P := by
 refine ⟨?_, t.keys⟩
 rcases t.root with e | ⟨h, t, k⟩
 ·exact .inl e
 ·have hh := t.held
  obtain ⟨h0, hl⟩ := heldB_int hh
  have hr' : 0 < ext root.toNat := by
   rcases hr with e | e
   ·omega
   ·exact e
  have hh' : M'.pool.heldB root = true := by
   have := ext_held E (p := root.toNat) (by rw [hs]; exact live_lt hl) hr'
   rw [Int.toNat_of_nonneg h0] at this
   exact this
  exact .inr ⟨h, Tr.stays E hlog t hh', Led.same (fun q _ => by unfold SM.nodeAt; rw [hlog]) t k⟩
theorem TreeIn.rooted (t : TreeIn m M root l P) (hP : P ≤ 240) : ∃ k, Rooted m M root l k ∧ k ≤ 5 ∧ (root = -1 ∨ Led M k root P) := by
 rcases t.root with ⟨e1, e2⟩ | ⟨k, t, j⟩
 ·exact ⟨0, .inl ⟨e1, e2, rfl⟩, Nat.zero_le _, .inl e1⟩
 ·exact ⟨k, .inr t, (led_pages t j hP).1, .inr j⟩
end

theorem tr_mem {m : Nat} {M : SM} : ∀ {h : Nat} {p : Int} {l : List (Int × Int)}, Tr m M h p l → ∀ y ∈ l, ∃ q, M.live q = true ∧ y ∈ M.ents q
 | 0, _, _, t, _, _ => t.elim
 | h + 1, p, l, ⟨hp, n, hn, _, k⟩, y, hy => by
  rcases k with ⟨_, _, hl⟩ | ⟨_, _, hK⟩
  ·exact ⟨p.toNat, (heldB_int hp).2, by rw [ents_of hn, hl]; exact hy⟩
  ·obtain ⟨e, _, a, ha, hya⟩ := hK.in y hy
   exact tr_mem ha.1 y hya
theorem ntr_mem {m : Nat} {M : SM} {h : Nat} {n : NM} {l : List (Int × Int)} (k : NTr (Sub m M h) h n l) : ∀ y ∈ l, y ∈ n.ents ∨ ∃ q, M.live q = true ∧ y ∈ M.ents q := fun y hy => by
 rcases k with ⟨_, _, hl⟩ | ⟨_, _, hK⟩
 ·exact .inl (by rw [hl]; exact hy)
 ·obtain ⟨e, _, a, ha, hya⟩ := hK.in y hy
  exact .inr (tr_mem ha.1 y hya)
theorem ref_pos {M : SM} {ext : Nat → Nat} (E : Exact M ext) {q : Nat} (hq : M.live q = true) {x : Int × Int} (hx : x ∈ M.ents q) : 0 < M.pool.cnt x.2.toNat := by
 have h1 := E.kids q hq x hx
 rw [E.cnt _ (live_lt h1)]
 unfold SM.refs
 have h2 := sumN_get (f := fun q => if M.live q then occ (M.ents q) x.2.toNat else 0) (live_lt hq)
 have h3 := occ_pos hx (E.pos hq hx)
 simp only [hq, if_true] at h2
 omega
theorem putL_has (l : List (Int × Int)) (x : Int × Int) : x ∈ putL l x := by
 unfold putL
 exact List.mem_append_left _ (List.mem_append_right _ (List.mem_singleton.2 rfl))
theorem put_new {m : Nat} (hm : m ≤ 3) {M : SM} {ext : Nat → Nat} (E : Exact M ext) {h : Nat} {root key page : Int} {l : List (Int × Int)} (t : Rooted m M root l h) (h8 : h ≤ 8) (g : Good M l) (hl : Loose M [(key, page)]) (hx : M.pool.heldB page = true) (k0 : 0 ≤ key) (k1 : key < 64) :
  ((M.put root key page).2.2 = 0 ∧ TopOk m M ext (h - 1) (putL l (key, page)) (2 * h + 3) (7 * h + 3) (M.put root key page).1 (M.put root key page).2.1 (fun s => ∃ r, s = r + 1 ∧ (root = -1 ∨ Led M h root r)) (fun _ => False)) ∨
   ((M.put root key page).2.1 = -1 ∧ (M.put root key page).2.2 = 71 ∧ M.pool.freeCount < 2 * h + 3) ∨ ((M.put root key page).2.1 = -1 ∧ (M.put root key page).2.2 = 72 ∧ ∃ c, 255 < M.refs c + 7 * h + 3 + ext c) := by
 unfold SM.put
 rw [if_neg (by omega)]
 rcases t with ⟨rfl, rfl, rfl⟩ | t
 ·rw [if_pos rfl]
  have t0 : NTr (Sub m M 0) 0 ⟨2, List.replicate 16 0, [(key, page)]⟩ (putL [] (key, page)) := .inl ⟨rfl, rfl, rfl⟩
  rcases top_ok hm E t0 (g.put k0 k1 hx) (by show 1 ≤ 1; omega) (by show 1 ≤ 12; omega) hl with ⟨e, T⟩ | ⟨e1, e, hf⟩ | ⟨e1, e, c, hc⟩
  ·have b1 := T.free
   have b2 := T.sum
   dsimp only [List.length_cons, List.length_nil] at b2
   exact .inl ⟨e, ⟨T.exact, T.grown, T.tr, by omega, by omega, T.zero, T.loose, fun s hs => T.led s (.inl ⟨rfl, by obtain ⟨r, hr, _⟩ := hs; show 1 ≤ s; omega⟩), fun sp hsp => hsp.elim⟩⟩
  ·exact .inr (.inl ⟨e1, e, by omega⟩)
  ·exact .inr (.inr ⟨e1, e, c, by dsimp only [List.length_cons, List.length_nil] at hc; omega⟩)
 ·have hne : root ≠ -1 := fun e => by have := (heldB_int t.held).1; omega
  rw [if_neg hne]
  cases h with
  | zero => exact t.elim
  | succ h =>
   have hp := putF_ok hm (x := (key, page)) k0 k1 h 0 M l root (by omega) E t g hx
   rw [Nat.sub_zero] at hp
   obtain ⟨R, hR⟩ : ∃ R, SM.putF 9 M root (key, page) = R := ⟨_, rfl⟩
   rw [hR] at hp ⊢
   obtain ⟨M1, n1, er⟩ := R
   dsimp only at hp ⊢
   rcases hp with ⟨rfl, P⟩ | ⟨rfl, hf⟩ | ⟨rfl, hf⟩
   ·rw [if_pos rfl]
    have a1 := P.free
    have a2 := P.sum
    have hen := P.entN
    have hlo := P.lo
    have hhi := P.hi
    have hL : Loose M1 n1.ents := fun q hq hc => by
     obtain ⟨y, hy, he⟩ := P.loose [(key, page)] hl q hq hc
     rcases List.mem_append.1 hy with hy | hy
     ·exact ⟨y, hy, he⟩
     ·rw [List.mem_singleton] at hy
      subst hy
      rcases ntr_mem P.tr (key, page) (putL_has _ _) with h1 | ⟨q', hq', h1⟩
      ·exact ⟨_, h1, he⟩
      ·have := ref_pos P.exact hq' h1
       rw [he, Int.toNat_natCast] at this
       omega
    rcases top_ok hm P.exact P.tr ((g.put k0 k1 hx).grown P.grown) (by omega) (by omega) hL with ⟨e, T⟩ | ⟨e1, e, hf⟩ | ⟨e1, e, c, hc⟩
    ·have b1 := T.free
     have b2 := T.sum
     exact .inl ⟨e, ⟨T.exact, P.grown.trans T.grown, T.tr, by omega, by omega, T.zero, T.loose, fun s hs => by
      obtain ⟨r, rfl, hr⟩ := hs
      rcases hr with hr | hr
      ·exact absurd hr hne
      ·exact T.led _ (P.led r hr), fun sp hsp => hsp.elim⟩⟩
    ·exact .inr (.inl ⟨e1, e, by omega⟩)
    ·have hg := P.grown.refs c
     exact .inr (.inr ⟨e1, e, c, by omega⟩)
   ·rw [if_neg (by decide)]
    exact .inr (.inl ⟨rfl, rfl, by omega⟩)
   ·rw [if_neg (by decide)]
    obtain ⟨c, hc⟩ := hf
    exact .inr (.inr ⟨rfl, rfl, c, by omega⟩)

def SM.one (M : SM) (root : Int) (c : Int × Int) : SM × Int × Nat := if c.2 = -1 then ((M.cut root c.1).1, (M.cut root c.1).2.1, (M.cut root c.1).2.2.2) else M.put root c.1 c.2
def SM.change (M : SM) (root : Int) (c : Int × Int) : SM × Int × Nat :=
 let o := M.one root c
 if o.2.2 = 0 then (if (o.1.swap root o.2.1).2 = 0 then ((o.1.swap root o.2.1).1, o.2.1, 0) else ((o.1.swap root o.2.1).1, -1, (o.1.swap root o.2.1).2)) else (o.1, -1, o.2.2)
def SM.changes : List (Int × Int) → SM → Int → SM × Int × Nat
 | [], M, root => (M, root, 0)
 | c :: cs, M, root => if (M.change root c).2.2 = 0 then SM.changes cs (M.change root c).1 (M.change root c).2.1 else M.change root c
theorem one_closed {Q : SM → Prop} (C : Closed Q) {M : SM} (root : Int) (c : Int × Int) (h : Q M) : Q (M.one root c).1 := by
 unfold SM.one
 split
 ·exact cut_closed C root c.1 h
 ·exact C.put root c.1 c.2 h
theorem change_closed {Q : SM → Prop} (C : Closed Q) {M : SM} (root : Int) (c : Int × Int) (h : Q M) : Q (M.change root c).1 := by
 have h1 := one_closed C root c h
 unfold SM.change
 dsimp only
 split
 ·split <;> exact C.swap _ _ h1
 ·exact h1
def chgL (l : List (Int × Int)) (c : Int × Int) : List (Int × Int) := if c.2 = -1 then cutL l c.1 else putL l c
structure Changed (m : Nat) (M : SM) (ext : Nat → Nat) (root : Int) (l' : List (Int × Int)) (P' : Nat) (M' : SM) (next : Int) : Prop where
 exact : Exact M' (swapE ext root next)
 size : M'.pool.size = M.pool.size
 node : ∀ q, M.live q = true → M'.nodeAt q = M.nodeAt q
 tree : TreeIn m M' next l' P'
 loose : Loose M' []
 others : ∀ m0 r l0 P0, TreeIn m0 M r l0 P0 → (r = -1 ∨ 0 < swapE ext root next r.toNat) → TreeIn m0 M' r l0 P0
theorem swap_full {M : SM} {old next : Int} (hn : M.pool.heldB next = true) (hc : ¬ M.pool.cnt next.toNat < 255) : (M.swap old next).2 = 72 := by
 have hne : next ≠ -1 := fun e => by have := (heldB_int hn).1; omega
 unfold SM.swap
 dsimp only
 rw [if_neg hne]
 have : (M.hold next).2 = 72 := by
  unfold SM.hold PM.holdErr
  rw [if_pos hn, if_neg hc]
 rw [this, if_neg (by decide)]
 exact this
section
variable {m : Nat} {M M1 : SM} {ext : Nat → Nat} {root next : Int} {l l' : List (Int × Int)} {P P' : Nat}
theorem swapE_next (ext : Nat → Nat) {root next : Int} (h0 : 0 ≤ next) (hr : root = -1 ∨ 0 < ext root.toNat) : 0 < swapE ext root next next.toNat := by
 unfold swapE
 rw [if_pos (show ((next.toNat : Nat) : Int) = next by omega)]
 by_cases e : ((next.toNat : Nat) : Int) = root
 ·rw [if_pos e]
  have : root.toNat = next.toNat := by omega
  rw [this] at hr
  omega
 ·rw [if_neg e]; omega
theorem changed_of (E1 : Exact M1 ext) (g : Grown M M1) (hl1 : Loose M1 [((0 : Int), next)]) (hr : root = -1 ∨ (M.pool.heldB root = true ∧ 0 < ext root.toNat)) (t : TreeIn m M1 next l' P') :
  ((M1.swap root next).2 = 0 ∧ Changed m M ext root l' P' (M1.swap root next).1 next) ∨ ((M1.swap root next).2 = 72 ∧ 255 ≤ M1.refs next.toNat + ext next.toNat) := by
 by_cases hc : next = -1 ∨ (M1.pool.heldB next = true ∧ M1.pool.cnt next.toNat < 255)
 ·have hold : root = -1 ∨ (M1.pool.heldB root = true ∧ 0 < ext root.toNat) := hr.imp id fun ⟨a, b⟩ => ⟨g.held a, b⟩
  obtain ⟨r1, E2, hlog, hsz, hlv, hlo⟩ := swap_ok E1 hc hold
  refine .inl ⟨r1, E2, hsz.trans g.size, fun q hq => ?_, ?_, fun q hq hc => ?_, fun _ r l0 P0 t0 hr0 => (t0.grown g).stays E2 hlog hsz hr0⟩
  ·have : (M1.swap root next).1.nodeAt q = M1.nodeAt q := by unfold SM.nodeAt; rw [hlog]
   rw [this, g.node q hq]
  ·refine t.stays E2 hlog hsz ?_
   rcases hc with e | ⟨h1, _⟩
   ·exact .inl e
   ·exact .inr (swapE_next ext (heldB_int h1).1 (hr.imp id fun h => h.2))
  ·obtain ⟨c1, c2⟩ := hlo q hq hc
   obtain ⟨x, hx, he⟩ := hl1 q (hlv q hq) c1
   rw [List.mem_singleton] at hx
   rw [hx] at he
   exact absurd he.symm c2
 ·rcases t.root with ⟨e, _⟩ | ⟨h, t, _⟩
  ·exact absurd (.inl e) hc
  ·have hh := t.held
   have hf : ¬ M1.pool.cnt next.toNat < 255 := fun h => hc (.inr ⟨hh, h⟩)
   have := E1.cnt next.toNat (live_lt (heldB_int hh).2)
   exact .inr ⟨swap_full hh hf, by omega⟩
theorem change_ok (hm : m ≤ 3) (E : Exact M ext) (t : TreeIn m M root l P) (hP : P + 1 ≤ 240) (hr : root = -1 ∨ 0 < ext root.toNat) {c : Int × Int} (k0 : 0 ≤ c.1) (k1 : c.1 < 64) (hx : c.2 = -1 ∨ M.pool.heldB c.2 = true)
  (hl : Loose M (if c.2 = -1 then [] else [c])) (hm1 : c.2 = -1 → m = 1) :
  ((M.change root c).2.2 = 0 ∧ Changed m M ext root (chgL l c) (P + 1) (M.change root c).1 (M.change root c).2.1) ∨
   ((M.change root c).2.1 = -1 ∧ (((M.change root c).2.2 = 71 ∧ ∃ h, Rooted m M root l h ∧ (root = -1 ∨ Led M h root P) ∧ M.pool.freeCount < 2 * h + 3) ∨ ((M.change root c).2.2 = 72 ∧ ∃ q, 255 ≤ M.refs q + 38 + ext q))) := by
 obtain ⟨k, hro, hk, hled⟩ := t.rooted (by omega)
 have hr' : root = -1 ∨ (M.pool.heldB root = true ∧ 0 < ext root.toNat) := by
  rcases t.root with ⟨e, _⟩ | ⟨h, t, _⟩
  ·exact .inl e
  ·have hh := t.held
   have h0 := (heldB_int hh).1
   refine .inr ⟨hh, ?_⟩
   rcases hr with e | e
   ·omega
   ·exact e
 have fin : ∀ {M1 : SM} {next : Int} {l' : List (Int × Int)}, M.one root c = (M1, next, 0) → Exact M1 ext → Grown M M1 → Loose M1 [((0 : Int), next)] → M1.sum ≤ M.sum + 38 → TreeIn m M1 next l' (P + 1) → l' = chgL l c →
   ((M.change root c).2.2 = 0 ∧ Changed m M ext root (chgL l c) (P + 1) (M.change root c).1 (M.change root c).2.1) ∨
   ((M.change root c).2.1 = -1 ∧ (((M.change root c).2.2 = 71 ∧ ∃ h, Rooted m M root l h ∧ (root = -1 ∨ Led M h root P) ∧ M.pool.freeCount < 2 * h + 3) ∨ ((M.change root c).2.2 = 72 ∧ ∃ q, 255 ≤ M.refs q + 38 + ext q))) := by
  intro M1 next l' ho E1 g hl1 hs t1 hl'
  subst hl'
  unfold SM.change
  rw [ho]
  dsimp only
  rw [if_pos rfl]
  rcases changed_of E1 g hl1 hr' t1 with ⟨e, C⟩ | ⟨e, h⟩
  ·rw [if_pos e]
   exact .inl ⟨rfl, C⟩
  ·rw [if_neg (by omega)]
   have hg := g.refs next.toNat
   exact .inr ⟨rfl, .inr ⟨e, next.toNat, by omega⟩⟩
 have err : ∀ {M1 : SM} {n : Int} {e : Nat}, M.one root c = (M1, n, e) → e ≠ 0 → (M.change root c).2.1 = -1 ∧ (M.change root c).2.2 = e := by
  intro M1 n e ho he
  unfold SM.change
  rw [ho]
  dsimp only
  rw [if_neg he]
  exact ⟨rfl, rfl⟩
 by_cases hc : c.2 = -1
 ·have hm1 := hm1 hc
  subst hm1
  rw [if_pos hc] at hl
  have hone : M.one root c = ((M.cut root c.1).1, (M.cut root c.1).2.1, (M.cut root c.1).2.2.2) := by unfold SM.one; rw [if_pos hc]
  have hchg : chgL l c = cutL l c.1 := by unfold chgL; rw [if_pos hc]
  rcases t.root with ⟨e, el⟩ | ⟨h, tt, j⟩
  ·have hcut : M.cut root c.1 = (M, -1, false, 0) := by
    unfold SM.cut
    rw [if_neg (by omega), if_pos e]
   rw [hcut] at hone
   exact fin hone E (Grown.refl M) (hl.mono fun y hy => by cases hy) (show M.sum ≤ M.sum + 38 by omega) (l' := []) (TreeIn.none _ M _) (by rw [hchg, el]; rfl)
  ·obtain ⟨h, rfl⟩ : ∃ i, h = i + 1 := ⟨h - 1, by have := tr_pos tt; omega⟩
   have h5 := (led_pages tt j (by omega)).1
   rcases cut_ok (key := c.1) E tt (by omega) (t.good E) hl k0 k1 with ⟨e, hno⟩ | ⟨e, ew, T⟩ | ⟨e, hf⟩ | ⟨e, q, hq⟩
   ·rw [e] at hone
    exact fin hone E (Grown.refl M) (hl.mono fun y hy => by cases hy) (show M.sum ≤ M.sum + 38 by omega) (t.weak (Nat.le_succ P)) (by rw [hchg, cutL_none hno])
   ·have ts := T.sum
    have hone' : M.one root c = ((M.cut root c.1).1, (M.cut root c.1).2.1, 0) := by rw [hone, e]
    exact fin hone' T.exact T.grown T.loose (by omega) (l' := cutL l c.1) ⟨T.tr.imp id fun ⟨h', _, t', k', _⟩ => ⟨h', t', (k' P j).weak (Nat.le_succ P)⟩, cutL_rises t.keys.1 _, fun y hy => t.keys.2 y (List.mem_filter.1 hy).1⟩ hchg.symm
   ·have := err hone (by rw [e]; decide)
    exact .inr ⟨this.1, .inl ⟨this.2.trans e, h + 1, .inr tt, .inr j, by omega⟩⟩
   ·have := err hone (by rw [e]; decide)
    exact .inr ⟨this.1, .inr ⟨this.2.trans e, q, by omega⟩⟩
 ·rw [if_neg hc] at hl
  have hx' : M.pool.heldB c.2 = true := hx.resolve_left hc
  have hone : M.one root c = M.put root c.1 c.2 := by unfold SM.one; rw [if_neg hc]
  have hchg : chgL l c = putL l c := by unfold chgL; rw [if_neg hc]
  rcases put_new hm E hro (by omega) (t.good E) (key := c.1) (page := c.2) hl hx' k0 k1 with ⟨e, T⟩ | ⟨e1, e, hf⟩ | ⟨e1, e, q, hq⟩
  ·have ts := T.sum
   obtain ⟨h', tt, _, j⟩ := T.led (P + 1) ⟨P, rfl, hled⟩
   have hone' : M.one root c = ((M.put root c.1 c.2).1, (M.put root c.1 c.2).2.1, 0) := by rw [hone, ← e]
   have g := (t.good E).put (x := c) k0 k1 hx'
   exact fin hone' T.exact T.grown (T.loose [] rfl) (by omega) (l' := putL l c) ⟨.inr ⟨h', tt, j⟩, g.1, fun y hy => ⟨(g.2 y hy).1, (g.2 y hy).2.1⟩⟩ hchg.symm
  ·have := err (M1 := (M.put root c.1 c.2).1) (n := (M.put root c.1 c.2).2.1) (e := (M.put root c.1 c.2).2.2) hone (by omega)
   exact .inr ⟨this.1, .inl ⟨this.2.trans e, k, hro, hled, hf⟩⟩
  ·have := err (M1 := (M.put root c.1 c.2).1) (n := (M.put root c.1 c.2).2.1) (e := (M.put root c.1 c.2).2.2) hone (by omega)
   exact .inr ⟨this.1, .inr ⟨this.2.trans e, q, by omega⟩⟩
end
end Go.Proofs.Ytdcnogjbmdhgaaa
