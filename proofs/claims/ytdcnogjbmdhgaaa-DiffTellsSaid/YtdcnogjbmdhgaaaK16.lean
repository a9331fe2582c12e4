/-
 Nodes on a disk (package nodes): the walk of Drop.
-/
import Derived.Test.YtdcnogjbmdhgaaaK12
import Derived.Test.YtdcnogjbmdhgaaaK15
set_option linter.unusedVariables false
set_option linter.unusedSimpArgs false
namespace Go.Proofs.Ytdcnogjbmdhgaaa
open Go.RowKit
set_option maxRecDepth 100000

theorem dropAns_held {p : PM} {i : Int} (h : p.heldB i = true) : p.dropGone i = decide (p.cnt i.toNat ≤ 1) ∧ p.dropErr i = 0 ∧ p.dropAll i = p.dropTo i.toNat := by
 unfold PM.dropGone PM.dropErr PM.dropAll
 simp [h]
theorem dropAns_free {p : PM} {i : Int} (h : p.heldB i = false) : p.dropGone i = false ∧ p.dropErr i = 73 ∧ p.dropAll i = p := by
 unfold PM.dropGone PM.dropErr PM.dropAll
 simp [h]

theorem dropAllF_live (f : Nat) : ∀ (l : List Int) (s : SM × Nat), (dropAllF f s l).1.pool.size = s.1.pool.size ∧ (dropAllF f s l).1.log = s.1.log ∧ ∀ p, (dropAllF f s l).1.live p = true → s.1.live p = true := by
 intro l
 induction l with
 | nil => intro s; exact ⟨rfl, rfl, fun _ h => h⟩
 | cons c l ih =>
  intro s
  unfold dropAllF
  rw [List.foldl_cons]
  by_cases hs : s.2 = 0
  ·rw [if_pos hs]
   have h1 := dropF_live f s.1 c
   have h2 := ih (SM.dropF f s.1 c)
   unfold dropAllF at h2
   exact ⟨h2.1.trans h1.1, h2.2.1.trans h1.2.1, fun p hp => h1.2.2 p (h2.2.2 p hp)⟩
  ·rw [if_neg hs]
   have h2 := ih s
   unfold dropAllF at h2
   exact h2
theorem dropAllF_next {f : Nat} {s : SM × Nat} {N : SM} {l : List (Int × Int)} {k : Nat} {x : Int × Int} (hp : dropAllF f s ((l.take k).map (·.2)) = (N, 0)) (hx : l[k]? = some x) :
  dropAllF f s ((l.take (k + 1)).map (·.2)) = SM.dropF f N x.2 ∧ ((SM.dropF f N x.2).2 ≠ 0 → dropAllF f s (l.map (·.2)) = SM.dropF f N x.2) := by
 have h1 : (l.take (k + 1)).map (·.2) = (l.take k).map (·.2) ++ [x.2] := by rw [List.take_add_one, hx]; simp
 have h2 : l.map (·.2) = (l.take k).map (·.2) ++ ([x.2] ++ (l.drop (k + 1)).map (·.2)) := by
  obtain ⟨hk, he⟩ := List.getElem?_eq_some_iff.1 hx
  conv => lhs; rw [← List.take_append_drop k l, List.drop_eq_getElem_cons hk, he]
  simp
 refine ⟨?_, fun h => ?_⟩
 ·rw [h1, dropAllF_append, hp, dropAllF_one _ _ _ rfl]
 ·rw [h2, dropAllF_append, hp, dropAllF_append, dropAllF_one _ _ _ rfl, dropAllF_bad _ _ _ h]

set_option maxHeartbeats 4000000 in
theorem storeDropF : ∀ (f : Nat) {w : World} {A : SA} {M : SM} (i : Int), StoreAt w A M → M.liveN < f →
  Calls Try.prog 34 #[.pointer (some ⟨A.sb, 0, none⟩), .int .i64 i] w fun e w' => e = .returned (.int .i64 (SM.dropF f M i).2) ∧ StoreTo A A (SM.dropF f M i).1 w w'
 | 0, _, _, _, _, _, hf => by omega
 | f + 1, w, A, M, i, h, hf => by
  have c1 := cell_of_heap h.head 1
  simp at c1
  by_cases hh : M.pool.heldB i = true
  ·obtain ⟨hi0, hl⟩ := heldB_int hh
   obtain ⟨e1, e2, e3⟩ := dropAns_held hh
   have hD := drop_all h.pool i
   rw [e1, e2, e3] at hD
   have hT := h_ (fun w' (k : PoolTo A.pb (M.pool.dropTo i.toNat) w w') => h.pooled k (dropTo_size _ _))
   by_cases hc : M.pool.cnt i.toNat ≤ 1
   ·have hgl := gone_live (M := M) hl hc
    rw [decide_eq_true hc] at hD
    have hD' := h_ hD
    obtain ⟨_, hi1, hi2⟩ := held_room h hh
    obtain ⟨j, rfl⟩ := Int.eq_ofNat_of_zero_le hi0
    simp at hi1
    have hPz : Hid ((Try.prog.info? 98).map (·.zero) = some (some (.agg (pageCells zeroPage).toArray))) := h_ page_zero
    have hNz : Hid ((Try.prog.info? 71).map (·.zero) = some (some (.agg (nodeCells ⟨0, zeros16, []⟩ (.slice none 0 0)).toArray))) := h_ node_zero
    obtain ⟨Z, hZ⟩ : ∃ Z, nodeCells ⟨0, zeros16, []⟩ (.slice none 0 0) = Z := ⟨_, rfl⟩
    rw [hZ] at hNz
    have hZl : Hid (Z.length = 18) := h_ (by rw [← hZ]; exact nodeCells_len _ _)
    have hrd := h_ (fun w1 (h1 : StoreAt w1 A { M with pool := M.pool.dropTo ((j : Int)).toNat }) => diskRead_ok h1.disk (j + 4) hi1)
    have hj4 : ((j + 4 : Nat) : Int) = (j : Int) + 4 := by omega
    have hrd2 : Hid (∀ w1, StoreAt w1 A { M with pool := M.pool.dropTo ((j : Int)).toNat } → Calls Try.prog 51 #[.pointer (some ⟨A.db, 0, none⟩), .int .i64 ((j : Int) + 4)] w1 fun e w' => e = .returned (.tuple #[.agg (pageCells (match M.nodeAt j with | some n => pageOf n | none => zeroPage)).toArray, .int .i64 0]) ∧ Kept (fun _ => False) w1 w') := h_ (fun w1 h1 => by
     have := hrd.out w1 h1
     rw [disk_read, hj4] at this
     exact this)
    have hfold : Hid (SM.dropF (f + 1) M (j : Int) = match M.nodeAt j with | none => ({ M with pool := M.pool.dropTo j }, 81) | some n => dropAllF f ({ M with pool := M.pool.dropTo j }, 0) (n.ents.map (·.2))) := h_ (by
     rw [dropF_succ, if_pos hh, if_pos hc]; rfl)
    have hlive : Hid (SM.liveN { M with pool := M.pool.dropTo j } < f) := h_ (by have := hgl.1; simp at this; omega)
    have hlog : Hid (∀ x ∈ M.log, x.2.ok) := h_ h.right
    have hstore := h_ h
    have hlt : Hid (∀ k, A.own k → k < w.heap.size) := h_ (fun k hk => h.lt hk)
    simp at hT
    cases hn : M.nodeAt j with
    | none =>
     rw [hn] at hrd2 hfold
     have hop := h_ (fun w => open_zero (w := w))
     obtain ⟨pc, hpc⟩ : ∃ pc, pageCells zeroPage = pc := ⟨_, rfl⟩
     dsimp only at hrd2 hfold
     rw [hpc] at hrd2 hPz hop
     rw [show nodeCells NM.zero (.slice none 0 0) = Z from hZ] at hop
     have hpl : Hid (pc.length = 256) := h_ (by rw [← hpc]; exact pageCells_len _)
     have hp1 : Hid (∀ v ∈ pc, v.oneCell' = true) := h_ (by rw [← hpc]; exact pageCells_one _)
     have hZ1 : Hid (∀ v ∈ Z, v.oneCell' = true) := h_ (by rw [← hZ]; exact nodeCells_one _ _ _ _)
     rw [hfold.out]
     clear h hh hl e1 e2 e3 hD hc hgl hZ hrd hj4 hn hpc hf
     go_enter Try.func34, Try.ntmps34
     go_wp2_with fail
     refine hD'.out.mono ?_
     rintro e w1 ⟨rfl, hk1⟩
     have hT1 := h_ (hT.out _ hk1)
     have c2 := cell_of_heap hT1.out.store.head 0
     simp at c2
     clear hk1
     go_wp2_with fail
     refine (hrd2.out _ hT1.out.store).mono ?_
     rintro e w2 ⟨rfl, hk2⟩
     have kA := ((Kept.refl (fun _ => False) w2).alloc (.cells pc.toArray 98)).setRowNew (g := w2.heap.size) (Nat.le_refl _) pc.toArray
     obtain ⟨w3, hw3⟩ : ∃ w3, (w2.alloc (.cells pc.toArray 98)).setRow w2.heap.size pc.toArray = w3 := ⟨_, rfl⟩
     have q3 := h_ (show w3.heap[w2.heap.size]? = some (.cells pc.toArray 98 (0, 0)) by rw [← hw3]; exact setRow_heap _ _ _ _ _ _ (heap_alloc_new _ _))
     rw [hw3] at kA
     have hT3 := h_ (hT1.out.fresh (hk2.trans kA))
     have hw3' := h_ hw3
     clear hk2 kA hw3
     go_wp2_with (first | (refine wpList_alloc_as 98 rfl rfl pc.toArray hPz.out ?_) | (refine wpList_store_whole 98 rfl rfl rfl pc rfl (by rw [hpl.out]; exact page_size) 98 _ (heap_alloc_new _ _) (by simp) hp1.out ?_; rw [hw3'.out]) | (refine wpList_load_agg 98 rfl rfl rfl _ Try.underlying98 rfl pc (by rw [hpl.out]; exact page_size) (fun j v hv => by rw [cell_of_heap q3.out, Nat.zero_add]; simpa using hv) ?_))
     refine (hop.out _).mono ?_
     rintro e w4 ⟨rfl, hk4⟩
     have kB := ((Kept.refl (fun _ => False) w4).alloc (.cells Z.toArray 71)).setRowNew (g := w4.heap.size) (Nat.le_refl _) Z.toArray
     have hT4 := h_ (hT3.out.fresh (hk4.trans kB))
     clear hk4 kB
     go_wp2_with (first | (refine wpList_alloc_as 71 rfl rfl Z.toArray hNz.out ?_) | (refine wpList_store_whole 71 rfl rfl rfl Z rfl (by rw [hZl.out]; exact node_size) 71 _ (heap_alloc_new _ _) (by simp) hZ1.out ?_))
     go_ret
     exact ⟨rfl, hT4.out⟩
    | some n =>
     rw [hn] at hrd2 hfold
     have hok := nodeAt_ok h hn
     have hlen : n.ents.length ≤ 6 := by
      have h1 := hok.1
      unfold NM.rightB at h1
      split at h1
      ·simp at h1; simp [h1]
      ·split at h1
       ·simp only [Bool.and_eq_true, risesB, decide_eq_true_eq] at h1; exact h1.2.2
       ·cases h1
     have hop := h_ (fun w => open_node (w := w) hok)
     obtain ⟨pc, hpc⟩ : ∃ pc, pageCells (pageOf n) = pc := ⟨_, rfl⟩
     dsimp only at hrd2 hfold
     rw [hpc] at hrd2 hop
     have hpl : Hid (pc.length = 256) := h_ (by rw [← hpc]; exact pageCells_len _)
     have hp1 : Hid (∀ v ∈ pc, v.oneCell' = true) := h_ (by rw [← hpc]; exact pageCells_one _)
     have ih := h_ (fun (w : World) (N : SM) (i : Int) (h : StoreAt w A N) (hl : N.liveN < f) => storeDropF f i h hl)
     rw [hfold.out]
     clear h hh hl e1 e2 e3 hD hc hgl hZ hrd hj4 hn hpc hf hok
     go_enter Try.func34, Try.ntmps34
     go_wp2_with fail
     refine hD'.out.mono ?_
     rintro e w1 ⟨rfl, hk1⟩
     have hT1 := h_ (hT.out _ hk1)
     have c2 := cell_of_heap hT1.out.store.head 0
     simp at c2
     clear hk1
     go_wp2_with fail
     refine (hrd2.out _ hT1.out.store).mono ?_
     rintro e w2 ⟨rfl, hk2⟩
     have kA := ((Kept.refl (fun _ => False) w2).alloc (.cells (pageCells zeroPage).toArray 98)).setRowNew (g := w2.heap.size) (Nat.le_refl _) pc.toArray
     obtain ⟨w3, hw3⟩ : ∃ w3, (w2.alloc (.cells (pageCells zeroPage).toArray 98)).setRow w2.heap.size pc.toArray = w3 := ⟨_, rfl⟩
     have q3 := h_ (show w3.heap[w2.heap.size]? = some (.cells pc.toArray 98 (0, 0)) by rw [← hw3]; exact setRow_heap _ _ _ _ _ _ (heap_alloc_new _ _))
     rw [hw3] at kA
     have hT3 := h_ (hT1.out.fresh (hk2.trans kA))
     have hw3' := h_ hw3
     clear hk2 kA hw3
     go_wp2_with (first | (refine wpList_alloc_as 98 rfl rfl (pageCells zeroPage).toArray hPz.out ?_) | (refine wpList_store_whole 98 rfl rfl rfl pc rfl (by rw [hpl.out]; exact page_size) 98 _ (heap_alloc_new _ _) (by simp [hpl.out, pageCells_len]) hp1.out ?_; rw [hw3'.out]) | (refine wpList_load_agg 98 rfl rfl rfl _ Try.underlying98 rfl pc (by rw [hpl.out]; exact page_size) (fun j v hv => by rw [cell_of_heap q3.out, Nat.zero_add]; simpa using hv) ?_))
     refine (hop.out _).mono ?_
     rintro e w4 ⟨v, rfl, hown4, hk4⟩
     obtain ⟨A4, cap4, rfl, hf1, hf2⟩ := EntsAt.form (show EntsAt w4 v n.ents from SliceAt.of_owns hown4)
     unfold maxLen at hf2
     obtain ⟨F, hF⟩ : ∃ F, nodeCells n (.slice A4 n.ents.length cap4) = F := ⟨_, rfl⟩
     have hFl : Hid (F.length = 18) := h_ (by rw [← hF]; exact nodeCells_len _ _)
     have hF1 : Hid (∀ v ∈ F, v.oneCell' = true) := h_ (by rw [← hF]; exact nodeCells_one _ _ _ _)
     obtain ⟨w5, hw5⟩ : ∃ w5, (w4.alloc (.cells Z.toArray 71)).setRow w4.heap.size F.toArray = w5 := ⟨_, rfl⟩
     have kB : Kept (fun _ => False) w4 w5 := by rw [← hw5]; exact ((Kept.refl _ _).alloc _).setRowNew (Nat.le_refl _) _
     have q5 := h_ (show w5.heap[w4.heap.size]? = some (.cells F.toArray 71 (0, 0)) by rw [← hw5]; exact setRow_heap _ _ _ _ _ _ (heap_alloc_new _ _))
     have hT5 := h_ (hT3.out.fresh (hk4.trans kB))
     have hC := children_any (n := n) (SliceAt.fresh (SliceAt.of_owns hown4) kB) (by omega)
     rw [hF] at hC ⊢
     have hC' := h_ hC
     have hw5' := h_ hw5
     clear hk4 kB hown4 hw5 hF hC
     go_wp2_with (first | (refine wpList_alloc_as 71 rfl rfl Z.toArray hNz.out ?_) | (refine wpList_store_whole 71 rfl rfl rfl F rfl (by rw [hFl.out]; exact node_size) 71 _ (heap_alloc_new _ _) (by simp [hFl.out, hZl.out]) hF1.out ?_; rw [hw5'.out]) | (refine wpList_load_agg 71 rfl rfl rfl _ Try.underlying71 rfl F (by rw [hFl.out]; exact node_size) (fun j v hv => by rw [cell_of_heap q5.out, Nat.zero_add]; simpa using hv) ?_))
     refine hC'.out.mono ?_
     rintro e w7 ⟨u7, rfl, hown7, hk7⟩
     have hT7 := h_ (hT5.out.fresh hk7)
     obtain ⟨A7, cap7, rfl, hd1, hd2, hcell7⟩ := (SliceAt.of_owns hown7).cells1
     unfold maxLen at hd2
     have hblk7 : Hid (∀ k, A7.map Addr.block = some k → w5.heap.size ≤ k) := h_ (fun k hk => (hown7.lt k (by cases A7 <;> simp_all [Value.ownBlock])).1)
     have hcell7' := h_ hcell7
     clear hk7 hown7 hcell7 hC'
     go_wp2_with fail
     go_loopw [52] (fun x wr => ∃ (k : Nat) (N : SM), k ≤ n.ents.length ∧ x = .int .i64 k ∧ Hid (dropAllF f ({ M with pool := M.pool.dropTo j }, 0) ((n.ents.take k).map (·.2)) = (N, 0)) ∧ Hid (StoreTo A A N w wr) ∧ Hid (Kept A.foot w7 wr)) (fun x _ => n.ents.length - (intOf x).toNat)
     case atStart => exact ⟨0, _, Nat.zero_le _, rfl, h_ rfl, hT7, h_ (Kept.refl _ _)⟩
     case round =>
      obtain ⟨k, N, hk, rfl, hq, hTr, hkr⟩ := hrel
      by_cases hlt2 : k < n.ents.length
      ·obtain ⟨x, hx⟩ : ∃ x, n.ents[k]? = some x := ⟨_, List.getElem?_eq_getElem hlt2⟩
       obtain ⟨b7, off7, rfl, hcb⟩ := hcell7'.out k (.int .i64 x.2) (by simp [pageCellsOf, hx])
       have hb7 := hblk7.out b7 rfl
       have hcb' := hkr.out.cell hcb (fun e => by have := hlt.out _ (.inl e); have := hT5.out.kept.size; simp at *; omega)
       have hn1 := h_ (dropAllF_next hq.out hx)
       have hNl : N.liveN < f := by
        have h3 := dropAllF_live f ((n.ents.take k).map (·.2)) ({ M with pool := M.pool.dropTo j }, 0)
        rw [hq.out] at h3
        exact Nat.lt_of_le_of_lt (liveN_mono h3.1 h3.2.2) hlive.out
       have hh := h_ (ih.out wr N x.2 hTr.out.store hNl)
       obtain ⟨R, hR⟩ : ∃ R, SM.dropF f N x.2 = R := ⟨_, rfl⟩
       rw [hR] at hh hn1
       obtain ⟨N2, er⟩ := R
       dsimp only at hh
       clear hcb hx hNl hR
       go_wp2_with fail
       refine hh.out.mono ?_
       rintro e w8 ⟨rfl, hk8⟩
       have hT8 := h_ (hTr.out.trans hk8)
       have hk8' := h_ (hkr.out.trans hk8.kept)
       clear hk8
       by_cases h0 : er = 0
       ·subst h0
        go_wp2_with fail
        go_roundw
        case rel => exact ⟨k + 1, N2, by omega, by go_num, h_ hn1.out.1, hT8, hk8'⟩
        case measure => simp [intOf]; omega
       ·have h0' : ((er : Int) == 0) = false := by simp; omega
        have hend := h_ (hn1.out.2 h0)
        clear h0
        go_wp2_with fail
        go_ret
        exact ⟨by rw [hend.out]; rfl, by rw [hend.out]; exact hT8.out⟩
      ·obtain rfl : k = n.ents.length := by omega
       have hq2 : Hid (dropAllF f ({ M with pool := M.pool.dropTo j }, 0) (n.ents.map (·.2)) = (N, 0)) := h_ (by have := hq.out; rwa [List.take_length] at this)
       go_wp2_with fail
       go_ret
       exact ⟨by rw [hq2.out]; rfl, by rw [hq2.out]; exact hTr.out⟩
   ·rw [decide_eq_false hc] at hD
    have hD' := h_ hD
    have hr : SM.dropF (f + 1) M i = ({ M with pool := M.pool.dropTo i.toNat }, 0) := by rw [dropF_succ, if_pos hh, if_neg hc]
    rw [hr]
    clear h hh hl e1 e2 e3 hD hc hr
    go_enter Try.func34, Try.ntmps34
    go_wp2_with fail
    refine hD'.out.mono ?_
    rintro e w1 ⟨rfl, hk1⟩
    have hT1 := h_ (hT.out _ hk1)
    clear hk1
    go_wp2_with fail
    go_ret
    exact ⟨rfl, hT1.out⟩
  ·have hh' : M.pool.heldB i = false := by simpa using hh
   obtain ⟨e1, e2, e3⟩ := dropAns_free hh'
   have hD := drop_all h.pool i
   rw [e1, e2, e3] at hD
   have hD' := h_ hD
   have hT := h_ (fun w' (k : PoolTo A.pb M.pool w w') => h.pooled k rfl)
   have hr : SM.dropF (f + 1) M i = (M, 73) := by rw [dropF_succ, if_neg hh]
   rw [hr]
   clear h hh hh' e1 e2 e3 hD hr
   go_enter Try.func34, Try.ntmps34
   go_wp2_with fail
   refine hD'.out.mono ?_
   rintro e w1 ⟨rfl, hk1⟩
   have hT1 := h_ (hT.out _ hk1)
   clear hk1
   go_wp2_with fail
   go_ret
   exact ⟨rfl, hT1.out⟩

theorem storeDrop {w : World} {A : SA} {M : SM} (h : StoreAt w A M) (i : Int) :
  Calls Try.prog 34 #[.pointer (some ⟨A.sb, 0, none⟩), .int .i64 i] w fun e w' => e = .returned (.int .i64 (M.drop i).2) ∧ StoreTo A A (M.drop i).1 w w' :=
 storeDropF 241 i h (by have := M.liveN_le; have := h.pool.hsize; omega)

theorem ret_i64 {a b : Int} (h : a = b) : Ending.returned (.int .i64 a) = .returned (.int .i64 b) := by rw [h]
theorem nodesSize (x : Int) (w : World) (h0 : 0 ≤ x) (h1 : x ≤ 1000) :
  Calls Try.prog 22 #[.int .i64 x] w fun e w' => e = .returned (.int .i64 (max 0 (min x 244 - 4))) ∧ w = w' := by
 go_enter Try.func22, Try.ntmps22
 go_wp2_with fail
 all_goals go_ret
 all_goals exact ⟨ret_i64 (by omega), rfl⟩

theorem nodesNew {w : World} {d : DM} {pb : Nat} {p : PM} (hd : DiskAt w d) (hp : PoolAt w pb p) (hpend : d.pend = []) (hoff : ¬ d.own pb) (hroom : p.size = 0 ∨ p.size + 4 ≤ d.n) :
  Calls Try.prog 19 #[.pointer (some ⟨d.b, 0, none⟩), .pointer (some ⟨pb, 0, none⟩)] w fun e w' => ∃ A, e = .returned (.pointer (some ⟨A.sb, 0, none⟩)) ∧ StoreAt w' A { pool := p, log := [] } ∧ Kept (fun _ => False) w w' ∧ (∀ k, A.own k → k = pb ∨ d.own k ∨ w.heap.size ≤ k) := by
 have hT : Hid (StoreAt (w.alloc (.cells #[.pointer (some ⟨d.b, 0, none⟩), .pointer (some ⟨pb, 0, none⟩)] 82)) { sb := w.heap.size, db := d.b, pb := pb, pv := d.pv, n := d.n, sv := d.sv, gm := d.gm } { pool := p, log := [] }) := h_ (by
  have k := (Kept.refl (fun _ => False) w).alloc (.cells #[.pointer (some ⟨d.b, 0, none⟩), .pointer (some ⟨pb, 0, none⟩)] 82)
  have e : SA.disk { sb := w.heap.size, db := d.b, pb := pb, pv := d.pv, n := d.n, sv := d.sv, gm := d.gm } { pool := p, log := [] } = d := by cases d; simp_all [SA.disk]
  have hpb := lt_of_heap hp.heap
  refine ⟨heap_alloc_new _ _, by rw [e]; exact hd.fresh k, hp.kept k id, ?_, by rw [e]; exact hoff, ?_, hroom, fun x hx => by cases hx⟩
  ·rw [e]; exact fun e2 => Nat.lt_irrefl _ (hd.lt _ e2)
  ·show w.heap.size ≠ pb; omega)
 clear hd hp hoff hroom hpend
 go_enter Try.func19, Try.ntmps19
 go_wp2_with fail
 go_ret
 refine ⟨_, rfl, hT.out, (Kept.refl _ _).alloc _, ?_⟩
 rintro k ((rfl | rfl | rfl | e) | rfl | e)
 ·exact .inr (.inr (Nat.le_refl _))
 ·exact .inl rfl
 ·exact .inr (.inl (.inl (.inl rfl)))
 ·exact .inr (.inl (.inl (.inr e)))
 ·exact .inr (.inl (.inr (.inl rfl)))
 ·exact .inr (.inl (.inr (.inr e)))

set_option maxHeartbeats 4000000 in
theorem treeNode {w : World} {A : SA} {M : SM} (h : StoreAt w A M) (i : Int) (d : Nat) (hd : d ≤ 100) :
  Calls Try.prog 45 #[.agg #[.pointer (some ⟨A.sb, 0, none⟩)], .int .i64 i, .int .i64 d] w fun e w' => ∃ v, e = .returned (.tuple #[.agg (nodeCells (M.tnode i d).1 v).toArray, .int .i64 (M.tnode i d).2]) ∧
   w'.ownsRow w.heap.size 58 2 v (M.tnode i d).1.ents.length (entCells (M.tnode i d).1.ents) ∧ Kept (fun _ => False) w w' := by
 obtain ⟨Z, hZ⟩ : ∃ Z, nodeCells NM.zero (.slice none 0 0) = Z := ⟨_, rfl⟩
 obtain ⟨w1, hw1⟩ : ∃ w1, w.alloc (.cells #[.pointer (some ⟨A.sb, 0, none⟩)] 27) = w1 := ⟨_, rfl⟩
 obtain ⟨w2, hw2⟩ : ∃ w2, w1.alloc (.cells Z.toArray 71) = w2 := ⟨_, rfl⟩
 have k1 : Kept (fun _ => False) w w1 := by rw [← hw1]; exact (Kept.refl _ _).alloc _
 have k2 : Kept (fun _ => False) w1 w2 := by rw [← hw2]; exact (Kept.refl _ _).alloc _
 have s1 : w1.heap.size = w.heap.size + 1 := by rw [← hw1]; simp
 have t1 : w1.heap[w.heap.size]? = some (.cells #[.pointer (some ⟨A.sb, 0, none⟩)] 27 (0, 0)) := by rw [← hw1]; exact heap_alloc_new _ _
 have t2 := cell_of_heap (k2.get t1 id) 0
 simp at t2
 have d2 : w2.heap[w.heap.size + 1]? = some (.cells Z.toArray 71 (0, 0)) := by rw [← hw2, ← s1]; exact heap_alloc_new _ _
 have hZz : Hid ((Try.prog.info? 71).map (·.zero) = some (some (.agg Z.toArray))) := h_ (by rw [← hZ]; exact node_zero)
 have hZl : Hid (Z.length = 18) := h_ (by rw [← hZ]; exact nodeCells_len _ _)
 have hZ1 : Hid (∀ v ∈ Z, v.oneCell' = true) := h_ (by rw [← hZ]; exact nodeCells_one _ _ _ _)
 have hbz : Hid (∀ w, (Instr.build 71 #[]).run Try.prog w = .ok (.agg Z.toArray) w) := h_ (fun w => by rw [← hZ]; exact run_build _ _ _ _ (by kernel_rfl))
 have hz2 : Hid (nodeCells NM.zero (.slice none 0 0) = Z) := h_ hZ
 have hG := h_ (get_any ((h.fresh k1).fresh k2) i)
 have hT : Hid (M.tnode i d = if (M.get i).2 = 0 then (if (M.get i).1.kind = 1 ∨ 8 ≤ d then (.zero, 81) else M.get i) else (.zero, (M.get i).2)) := h_ rfl
 obtain ⟨R, hR⟩ : ∃ R, M.get i = R := ⟨_, rfl⟩
 rw [hR] at hG hT
 obtain ⟨n, er⟩ := R
 dsimp only at hG hT
 have hw1' := h_ hw1
 have hw2' := h_ hw2
 have s1' := h_ s1
 have d2' := h_ d2
 have k12 := h_ (k1.trans k2)
 clear hw1 hw2 s1 d2 k1 k2 t1 hZ h hR
 have tail : Hid (∀ (w3 : World) (v : Value), w3.ownsRow w2.heap.size 58 2 v n.ents.length (entCells n.ents) → Kept (fun _ => False) w2 w3 → ∃ Av cap, v = .slice Av n.ents.length cap) := h_ (fun w3 v ho _ => by
  obtain ⟨Av, cap, hv, _⟩ := EntsAt.form (show EntsAt w3 v n.ents from SliceAt.of_owns ho)
  exact ⟨Av, cap, hv⟩)
 by_cases h0 : er = 0
 ·subst h0
  by_cases hbad : n.kind = 1 ∨ 8 ≤ d
  ·rw [if_pos rfl, if_pos hbad] at hT
   rw [hT.out]
   by_cases hk1 : n.kind = 1
   ·clear hbad
    go_enter Try.func45, Try.ntmps45
    go_wp2_with (first | (refine wpList_box_named 27 rfl rfl _ rfl hw1'.out ?_) | (refine wpList_alloc_as 71 rfl rfl Z.toArray hZz.out ?_; rw [hw2'.out, s1'.out]))
    refine hG.out.mono ?_
    rintro e w3 ⟨v, rfl, hown, hk3⟩
    obtain ⟨Av, cap, rfl⟩ := tail.out w3 v hown hk3
    obtain ⟨F, hF⟩ : ∃ F, nodeCells n (.slice Av n.ents.length cap) = F := ⟨_, rfl⟩
    have hFl : Hid (F.length = 18) := h_ (by rw [← hF]; exact nodeCells_len _ _)
    have hF1 : Hid (∀ v ∈ F, v.oneCell' = true) := h_ (by rw [← hF]; exact nodeCells_one _ _ _ _)
    obtain ⟨w4, hw4⟩ : ∃ w4, (w3.alloc (.cells Z.toArray 71)).setRow w3.heap.size F.toArray = w4 := ⟨_, rfl⟩
    have k4 : Kept (fun _ => False) w3 w4 := by rw [← hw4]; exact ((Kept.refl _ _).alloc _).setRowNew (Nat.le_refl _) _
    have bx4 : NodeBox w4 w3.heap.size n (.slice Av n.ents.length cap) := ⟨by rw [hF, ← hw4]; exact setRow_heap _ _ _ _ _ _ (heap_alloc_new _ _)⟩
    have c0 := bx4.c0
    rw [hk1] at c0
    have f4 := h_ (show w4.heap[w3.heap.size]? = some (.cells F.toArray 71 (0, 0)) by rw [← hw4]; exact setRow_heap _ _ _ _ _ _ (heap_alloc_new _ _))
    have d4 := h_ (k4.get (hk3.get d2'.out id) id)
    have kall := h_ ((k12.out.trans hk3).trans k4)
    have hsz3 := k12.out.size
    have hown4 := h_ (ownsRow.keptOf hown k4 (fun _ _ => id))
    rw [hF]
    have hF' := h_ hF
    have hw4' := h_ hw4
    clear hown hk3 hF k4 hw4 bx4 hk1
    go_wp2_with (first | (refine wpList_alloc_as 71 rfl rfl Z.toArray hZz.out ?_) | (refine wpList_store_whole 71 rfl rfl rfl F rfl (by rw [hFl.out]; exact node_size) 71 _ (heap_alloc_new _ _) (by simp [hFl.out, hZl.out]) hF1.out ?_; rw [hw4'.out]) | (refine wpList_exec rfl (exec_build 71 #[] _ rfl (by simp) (hbz.out _)) ?_) | (refine wpList_store_whole 71 rfl rfl rfl Z rfl (by rw [hZl.out]; exact node_size) 71 _ d4.out (by simp) hZ1.out ?_) | (refine wpList_load_agg 71 rfl rfl rfl _ Try.underlying71 rfl F (by rw [hFl.out]; exact node_size) (fun j v hv => by rw [cell_of_heap f4.out, Nat.zero_add]; simpa using hv) ?_) | (refine wpList_store_whole 71 rfl rfl rfl F rfl (by rw [hFl.out]; exact node_size) 71 _ d4.out (by simp [hFl.out, hZl.out]) hF1.out ?_))
    refine bodyPost_ret (results_row_tmp rfl _ _ (w.heap.size + 1) 71 Z.toArray (0, 0) _ rfl (setRow_heap _ _ _ _ 71 (0, 0) d4.out) Try.underlying71 rfl (by simp only [List.size_toArray]; rw [hZl.out]; exact node_size)) rfl ?_
    exact ⟨.slice none 0 0, by rw [hz2.out]; rfl, World.ownsRow_nil _ _ _ _, kall.out.setRowNew (by omega) _⟩
   ·have hd8 : 8 ≤ d := by omega
    have hkk : (n.kind == 1) = false := by simpa using hk1
    have hd8' : (8 : Int) ≤ (d : Int) := by omega
    clear hbad hk1
    go_enter Try.func45, Try.ntmps45
    go_wp2_with (first | (refine wpList_box_named 27 rfl rfl _ rfl hw1'.out ?_) | (refine wpList_alloc_as 71 rfl rfl Z.toArray hZz.out ?_; rw [hw2'.out, s1'.out]))
    refine hG.out.mono ?_
    rintro e w3 ⟨v, rfl, hown, hk3⟩
    obtain ⟨Av, cap, rfl⟩ := tail.out w3 v hown hk3
    obtain ⟨F, hF⟩ : ∃ F, nodeCells n (.slice Av n.ents.length cap) = F := ⟨_, rfl⟩
    have hFl : Hid (F.length = 18) := h_ (by rw [← hF]; exact nodeCells_len _ _)
    have hF1 : Hid (∀ v ∈ F, v.oneCell' = true) := h_ (by rw [← hF]; exact nodeCells_one _ _ _ _)
    obtain ⟨w4, hw4⟩ : ∃ w4, (w3.alloc (.cells Z.toArray 71)).setRow w3.heap.size F.toArray = w4 := ⟨_, rfl⟩
    have k4 : Kept (fun _ => False) w3 w4 := by rw [← hw4]; exact ((Kept.refl _ _).alloc _).setRowNew (Nat.le_refl _) _
    have bx4 : NodeBox w4 w3.heap.size n (.slice Av n.ents.length cap) := ⟨by rw [hF, ← hw4]; exact setRow_heap _ _ _ _ _ _ (heap_alloc_new _ _)⟩
    have c0 := bx4.c0
    have f4 := h_ (show w4.heap[w3.heap.size]? = some (.cells F.toArray 71 (0, 0)) by rw [← hw4]; exact setRow_heap _ _ _ _ _ _ (heap_alloc_new _ _))
    have d4 := h_ (k4.get (hk3.get d2'.out id) id)
    have kall := h_ ((k12.out.trans hk3).trans k4)
    have hsz3 := k12.out.size
    have hown4 := h_ (ownsRow.keptOf hown k4 (fun _ _ => id))
    rw [hF]
    have hF' := h_ hF
    have hw4' := h_ hw4
    clear hown hk3 hF k4 hw4 bx4
    go_wp2_with (first | (refine wpList_alloc_as 71 rfl rfl Z.toArray hZz.out ?_) | (refine wpList_store_whole 71 rfl rfl rfl F rfl (by rw [hFl.out]; exact node_size) 71 _ (heap_alloc_new _ _) (by simp [hFl.out, hZl.out]) hF1.out ?_; rw [hw4'.out]) | (refine wpList_exec rfl (exec_build 71 #[] _ rfl (by simp) (hbz.out _)) ?_) | (refine wpList_store_whole 71 rfl rfl rfl Z rfl (by rw [hZl.out]; exact node_size) 71 _ d4.out (by simp) hZ1.out ?_) | (refine wpList_load_agg 71 rfl rfl rfl _ Try.underlying71 rfl F (by rw [hFl.out]; exact node_size) (fun j v hv => by rw [cell_of_heap f4.out, Nat.zero_add]; simpa using hv) ?_) | (refine wpList_store_whole 71 rfl rfl rfl F rfl (by rw [hFl.out]; exact node_size) 71 _ d4.out (by simp [hFl.out, hZl.out]) hF1.out ?_))
    refine bodyPost_ret (results_row_tmp rfl _ _ (w.heap.size + 1) 71 Z.toArray (0, 0) _ rfl (setRow_heap _ _ _ _ 71 (0, 0) d4.out) Try.underlying71 rfl (by simp only [List.size_toArray]; rw [hZl.out]; exact node_size)) rfl ?_
    exact ⟨.slice none 0 0, by rw [hz2.out]; rfl, World.ownsRow_nil _ _ _ _, kall.out.setRowNew (by omega) _⟩
  ·rw [if_pos rfl, if_neg hbad] at hT
   rw [hT.out]
   have hkk : (n.kind == 1) = false := by simp; omega
   have hd8 : decide (8 ≤ d) = false := by simp; omega
   have hd8' : decide ((8 : Int) ≤ (d : Int)) = false := by simp; omega
   have hd9 : (d : Int) < 8 := by omega
   clear hbad
   go_enter Try.func45, Try.ntmps45
   go_wp2_with (first | (refine wpList_box_named 27 rfl rfl _ rfl hw1'.out ?_) | (refine wpList_alloc_as 71 rfl rfl Z.toArray hZz.out ?_; rw [hw2'.out, s1'.out]))
   refine hG.out.mono ?_
   rintro e w3 ⟨v, rfl, hown, hk3⟩
   obtain ⟨Av, cap, rfl⟩ := tail.out w3 v hown hk3
   obtain ⟨F, hF⟩ : ∃ F, nodeCells n (.slice Av n.ents.length cap) = F := ⟨_, rfl⟩
   have hFl : Hid (F.length = 18) := h_ (by rw [← hF]; exact nodeCells_len _ _)
   have hF1 : Hid (∀ v ∈ F, v.oneCell' = true) := h_ (by rw [← hF]; exact nodeCells_one _ _ _ _)
   obtain ⟨w4, hw4⟩ : ∃ w4, (w3.alloc (.cells Z.toArray 71)).setRow w3.heap.size F.toArray = w4 := ⟨_, rfl⟩
   have k4 : Kept (fun _ => False) w3 w4 := by rw [← hw4]; exact ((Kept.refl _ _).alloc _).setRowNew (Nat.le_refl _) _
   have bx4 : NodeBox w4 w3.heap.size n (.slice Av n.ents.length cap) := ⟨by rw [hF, ← hw4]; exact setRow_heap _ _ _ _ _ _ (heap_alloc_new _ _)⟩
   have c0 := bx4.c0
   have f4 := h_ (show w4.heap[w3.heap.size]? = some (.cells F.toArray 71 (0, 0)) by rw [← hw4]; exact setRow_heap _ _ _ _ _ _ (heap_alloc_new _ _))
   have d4 := h_ (k4.get (hk3.get d2'.out id) id)
   have kall := h_ ((k12.out.trans hk3).trans k4)
   have hsz3 := k12.out.size
   have hown4 := h_ (ownsRow.keptOf hown k4 (fun _ _ => id))
   rw [hF]
   have hF' := h_ hF
   have hw4' := h_ hw4
   clear hown hk3 hF k4 hw4 bx4
   go_wp2_with (first | (refine wpList_alloc_as 71 rfl rfl Z.toArray hZz.out ?_) | (refine wpList_store_whole 71 rfl rfl rfl F rfl (by rw [hFl.out]; exact node_size) 71 _ (heap_alloc_new _ _) (by simp [hFl.out, hZl.out]) hF1.out ?_; rw [hw4'.out]) | (refine wpList_exec rfl (exec_build 71 #[] _ rfl (by simp) (hbz.out _)) ?_) | (refine wpList_store_whole 71 rfl rfl rfl Z rfl (by rw [hZl.out]; exact node_size) 71 _ d4.out (by simp) hZ1.out ?_) | (refine wpList_load_agg 71 rfl rfl rfl _ Try.underlying71 rfl F (by rw [hFl.out]; exact node_size) (fun j v hv => by rw [cell_of_heap f4.out, Nat.zero_add]; simpa using hv) ?_) | (refine wpList_store_whole 71 rfl rfl rfl F rfl (by rw [hFl.out]; exact node_size) 71 _ d4.out (by simp [hFl.out, hZl.out]) hF1.out ?_))
   refine bodyPost_ret (results_row_tmp rfl _ _ (w.heap.size + 1) 71 F.toArray (0, 0) _ rfl (setRow_heap _ _ _ _ 71 (0, 0) d4.out) Try.underlying71 rfl (by simp only [List.size_toArray]; rw [hFl.out]; exact node_size)) rfl ?_
   have kS := (Kept.refl (fun i => i = w.heap.size + 1) w4).setRow rfl F.toArray
   have hs2 := (show w2.heap.size = w.heap.size + 2 by rw [← hw2'.out]; simp [s1'.out])
   exact ⟨.slice Av n.ents.length cap, by rw [hF'.out]; rfl, owns_weaken (ownsRow.keptOf hown4.out kS (fun g hg e => by have := (hown4.out.lt g hg).1; omega)) (by omega), kall.out.setRowNew (by omega) _⟩
 ·rw [if_neg h0] at hT
  rw [hT.out]
  have h0' : ((er : Int) == 0) = false := by simp; omega
  clear h0
  go_enter Try.func45, Try.ntmps45
  go_wp2_with (first | (refine wpList_box_named 27 rfl rfl _ rfl hw1'.out ?_) | (refine wpList_alloc_as 71 rfl rfl Z.toArray hZz.out ?_; rw [hw2'.out, s1'.out]))
  refine hG.out.mono ?_
  rintro e w3 ⟨v, rfl, hown, hk3⟩
  obtain ⟨Av, cap, rfl⟩ := tail.out w3 v hown hk3
  obtain ⟨F, hF⟩ : ∃ F, nodeCells n (.slice Av n.ents.length cap) = F := ⟨_, rfl⟩
  have hFl : Hid (F.length = 18) := h_ (by rw [← hF]; exact nodeCells_len _ _)
  have hF1 : Hid (∀ v ∈ F, v.oneCell' = true) := h_ (by rw [← hF]; exact nodeCells_one _ _ _ _)
  obtain ⟨w4, hw4⟩ : ∃ w4, (w3.alloc (.cells Z.toArray 71)).setRow w3.heap.size F.toArray = w4 := ⟨_, rfl⟩
  have k4 : Kept (fun _ => False) w3 w4 := by rw [← hw4]; exact ((Kept.refl _ _).alloc _).setRowNew (Nat.le_refl _) _
  have bx4 : NodeBox w4 w3.heap.size n (.slice Av n.ents.length cap) := ⟨by rw [hF, ← hw4]; exact setRow_heap _ _ _ _ _ _ (heap_alloc_new _ _)⟩
  have c0 := bx4.c0
  have f4 := h_ (show w4.heap[w3.heap.size]? = some (.cells F.toArray 71 (0, 0)) by rw [← hw4]; exact setRow_heap _ _ _ _ _ _ (heap_alloc_new _ _))
  have d4 := h_ (k4.get (hk3.get d2'.out id) id)
  have kall := h_ ((k12.out.trans hk3).trans k4)
  have hsz3 := k12.out.size
  have hown4 := h_ (ownsRow.keptOf hown k4 (fun _ _ => id))
  rw [hF]
  have hF' := h_ hF
  have hw4' := h_ hw4
  clear hown hk3 hF k4 hw4 bx4
  go_wp2_with (first | (refine wpList_alloc_as 71 rfl rfl Z.toArray hZz.out ?_) | (refine wpList_store_whole 71 rfl rfl rfl F rfl (by rw [hFl.out]; exact node_size) 71 _ (heap_alloc_new _ _) (by simp [hFl.out, hZl.out]) hF1.out ?_; rw [hw4'.out]) | (refine wpList_exec rfl (exec_build 71 #[] _ rfl (by simp) (hbz.out _)) ?_) | (refine wpList_store_whole 71 rfl rfl rfl Z rfl (by rw [hZl.out]; exact node_size) 71 _ d4.out (by simp) hZ1.out ?_) | (refine wpList_load_agg 71 rfl rfl rfl _ Try.underlying71 rfl F (by rw [hFl.out]; exact node_size) (fun j v hv => by rw [cell_of_heap f4.out, Nat.zero_add]; simpa using hv) ?_) | (refine wpList_store_whole 71 rfl rfl rfl F rfl (by rw [hFl.out]; exact node_size) 71 _ d4.out (by simp [hFl.out, hZl.out]) hF1.out ?_))
  refine bodyPost_ret (results_row_tmp rfl _ _ (w.heap.size + 1) 71 Z.toArray (0, 0) _ rfl (setRow_heap _ _ _ _ 71 (0, 0) d4.out) Try.underlying71 rfl (by simp only [List.size_toArray]; rw [hZl.out]; exact node_size)) rfl ?_
  exact ⟨.slice none 0 0, by rw [hz2.out]; rfl, World.ownsRow_nil _ _ _ _, kall.out.setRowNew (by omega) _⟩

theorem storeMake {w : World} {A : SA} {M : SM} (h : StoreAt w A M) {n : NM} {sv : Value} (hv : EntsOff w A sv n.ents) (hb : n.block.length = 16) (hb2 : ∀ b ∈ n.block, b < 256) (hfew : M.log.length < 100000000) :
  Calls Try.prog 23 #[.pointer (some ⟨A.sb, 0, none⟩), .agg (nodeCells n sv).toArray] w fun e w' => ∃ A', e = .returned (.tuple #[.int .i64 (M.make n).2.1, .int .i64 (M.make n).2.2]) ∧ StoreTo A A' (M.make n).1 w w' := by
 by_cases hr : n.rightB = true
 ·exact makeGood h hv ⟨hr, hb, hb2⟩ hfew
 ·exact makeBad h hv.at_ hb (by simpa using hr)
theorem make_log (M : SM) (n : NM) : (M.make n).1.log.length ≤ M.log.length + 1 := by
 unfold SM.make
 split
 ·split
  ·exact Nat.le_succ _
  ·split
   ·exact Nat.le_succ _
   ·simp
 ·exact Nat.le_succ _
structure Safe (w : World) (A : SA) (b : Nat) : Prop where
 lt : b < w.heap.size
 off : ¬ A.foot b
theorem Safe.to {A A' : SA} {M' : SM} {w w' : World} {b : Nat} (h : Safe w A b) (k : StoreTo A A' M' w w') : Safe w' A' b :=
 ⟨Nat.lt_of_lt_of_le h.lt k.kept.size, fun e => (k.foot b e).elim h.off fun e => absurd h.lt (Nat.not_lt.2 e)⟩
theorem Safe.fresh {A : SA} {w w' : World} {b : Nat} (h : Safe w A b) (k : Kept (fun _ => False) w w') : Safe w' A b := ⟨Nat.lt_of_lt_of_le h.lt k.size, h.off⟩
theorem StoreTo.get {A A' : SA} {M' : SM} {w w' : World} {b : Nat} {o : Obj} (k : StoreTo A A' M' w w') (h : w.heap[b]? = some o) (hs : Safe w A b) : w'.heap[b]? = some o := k.kept.get h hs.off
theorem Safe.new {A : SA} {M : SM} {w w' : World} {b : Nat} (h : StoreAt w A M) (hb : w.heap.size ≤ b) (hlt : b < w'.heap.size) : Safe w' A b := ⟨hlt, fun e => absurd (h.lt (.inl e)) (Nat.not_lt.2 hb)⟩
structure OutAt (w : World) (A : SA) (base : Nat) (v : Value) (l : List (Int × Int)) : Prop where
 own : w.ownsRow base 58 2 v l.length (entCells l)
 off : ∀ b, v.ownBlock = some b → ¬ A.foot b
theorem OutAt.to {A A' : SA} {M' : SM} {w w' : World} {base : Nat} {v : Value} {l : List (Int × Int)} (h : OutAt w A base v l) (k : StoreTo A A' M' w w') : OutAt w' A' base v l :=
 ⟨ownsRow.keptOf h.own k.kept h.off, fun b hb e => (k.foot b e).elim (h.off b hb) fun e => absurd (h.own.lt b hb).2 (Nat.not_lt.2 e)⟩
theorem OutAt.fresh {A : SA} {w w' : World} {base : Nat} {v : Value} {l : List (Int × Int)} (h : OutAt w A base v l) (k : Kept (fun _ => False) w w') : OutAt w' A base v l :=
 ⟨ownsRow.keptOf h.own k (fun _ _ => id), h.off⟩
theorem OutAt.ents {A : SA} {w : World} {base : Nat} {v : Value} {l : List (Int × Int)} (h : OutAt w A base v l) : EntsOff w A v l := ⟨SliceAt.of_owns h.own, fun _ b hb => ⟨(h.own.lt b hb).2, h.off b hb⟩⟩
theorem OutAt.nil (w : World) (A : SA) (base : Nat) : OutAt w A base (.slice none 0 0) [] := ⟨World.ownsRow_nil _ _ _ _, fun b hb => by simp [Value.ownBlock] at hb⟩
theorem OutAt.more {A : SA} {M : SM} {w w' : World} {base : Nat} {v v' : Value} {l : List (Int × Int)} {x : Int × Int} (h : OutAt w A base v l) (hs : StoreAt w A M)
  (ho : w'.ownsRow base 58 2 v' (l.length + 1) (entCells l ++ [.int .i64 x.1, .int .i64 x.2])) (ha : v'.ownBlock = v.ownBlock ∨ v'.ownBlock = some w.heap.size) : OutAt w' A base v' (l ++ [x]) := by
 refine ⟨?_, fun b hb e => ?_⟩
 ·have : entCells (l ++ [x]) = entCells l ++ [.int .i64 x.1, .int .i64 x.2] := by rw [entCells_append]; rfl
  rw [this, List.length_append]; exact ho
 ·rcases ha with ha | ha
  ·exact h.off b (by rw [← ha]; exact hb) e
  ·rw [ha] at hb
   cases hb
   exact Nat.lt_irrefl _ (hs.lt (.inl e))
theorem StoreTo.grown {A A' : SA} {M' : SM} {w wr w' : World} {v : Value} (k : StoreTo A A' M' w wr) (hg : wr.grownBy w' v.ownBlock) (ho : ∀ b, v.ownBlock = some b → w.heap.size ≤ b ∧ ¬ A'.own b) : StoreTo A A' M' w w' := by
 have kg : Kept (fun i => v.ownBlock = some i) wr w' := Kept.of_grown hg
 refine ⟨k.store.kept kg fun i hi e => (ho i e).2 hi, k.kept.trans_new kg fun i hi e => absurd hi (Nat.not_lt.2 (ho i e).1), k.foot, k.sb, k.fix⟩
theorem entsAt_take {w : World} {A : Option Addr} {n cap m : Nat} {l : List (Int × Int)} (h : EntsAt w (.slice A n cap) l) (hm : m ≤ n) (hn : n = l.length) : EntsAt w (.slice A m cap) (l.take m) := by
 obtain ⟨hl, A', cap', hv, h1, h2, h3⟩ := h
 cases hv
 have e : entCells (l.take m) = (entCells l).take (m * 2) := by
  have h4 : entCells l = entCells (l.take m) ++ entCells (l.drop m) := by rw [← entCells_append, List.take_append_drop]
  rw [h4, List.take_left' (by rw [entCells_len, List.length_take]; omega)]
 have hlt : (l.take m).length = m := by rw [List.length_take]; omega
 refine ⟨entCells_len _, A, cap, by rw [hlt], by rw [hlt]; omega, h2, fun j u hj => ?_⟩
 rw [e, List.getElem?_take] at hj
 split at hj
 ·exact h3 j u hj
 ·cases hj
theorem entsAt_drop {w : World} {b off n cap m : Nat} {l : List (Int × Int)} (h : EntsAt w (.slice (some ⟨b, off, none⟩) n cap) l) (hm : m ≤ n) (hn : n = l.length) : EntsAt w (.slice (some ⟨b, off + m * 2, none⟩) (n - m) (cap - m)) (l.drop m) := by
 obtain ⟨hl, A', cap', hv, h1, h2, h3⟩ := h
 cases hv
 have e : entCells (l.drop m) = (entCells l).drop (m * 2) := by
  have h4 : entCells l = entCells (l.take m) ++ entCells (l.drop m) := by rw [← entCells_append, List.take_append_drop]
  rw [h4, List.drop_left' (by rw [entCells_len, List.length_take]; omega)]
 have hlt : (l.drop m).length = l.length - m := by rw [List.length_drop]
 refine ⟨entCells_len _, _, cap - m, by rw [hlt], by rw [hlt]; omega, by omega, fun j u hj => ?_⟩
 rw [e, List.getElem?_drop] at hj
 obtain ⟨b', off', hA, hc⟩ := h3 _ u hj
 cases hA
 exact ⟨b, off + m * 2, rfl, by rw [Nat.add_assoc]; exact hc⟩

theorem makes_cons (kind : Int) (p : List (Int × Int)) (ps : List (List (Int × Int))) (M : SM) (out : List (Int × Int)) :
  SM.makes kind (p :: ps) M out = if (M.make ⟨kind, zeros16, p⟩).2.2 = 0 then SM.makes kind ps (M.make ⟨kind, zeros16, p⟩).1 (out ++ [((p.getD 0 (0, 0)).1, (M.make ⟨kind, zeros16, p⟩).2.1)]) else ((M.make ⟨kind, zeros16, p⟩).1, [], (M.make ⟨kind, zeros16, p⟩).2.2) := rfl
theorem run_build_part (w : World) (k : Int) (p : List (Int × Int)) (A : Option Addr) (m c : Nat) : (Instr.build 71 #[(0, .int .i64 k), (2, .slice A m c)]).run Try.prog w = .ok (.agg (nodeCells ⟨k, zeros16, p⟩ (.slice A m c)).toArray) w := run_build _ _ _ _ (by kernel_rfl)
structure SplitSt (w : World) (A : SA) (n : NM) (sv : Value) (gp : Nat) (vs : List Value) (ps : List (List (Int × Int))) (wr : World) (A' : SA) (M' : SM) (v : Value) (out : List (Int × Int)) : Prop where
 to_ : StoreTo A A' M' w wr
 out_ : OutAt wr A' w.heap.size v out
 parts : wr.heap[gp]? = some (.cells vs.toArray 36 (0, 0))
 sp : Safe wr A' gp
 tb : wr.heap[w.heap.size]? = some (.cells #[.pointer (some ⟨A.sb, 0, none⟩)] 27 (0, 0))
 st : Safe wr A' w.heap.size
 nb : NodeBox wr (w.heap.size + 1) n sv
 sn : Safe wr A' (w.heap.size + 1)
 ents : ∀ (i : Nat) (u : Value) (p : List (Int × Int)), vs[i]? = some u → ps[i]? = some p → EntsOff wr A' u p
section
variable {w : World} {A : SA} {n : NM} {sv : Value} {gp : Nat} {vs : List Value} {ps : List (List (Int × Int))} {wr : World} {A' : SA} {M' : SM} {v : Value} {out : List (Int × Int)} {M0 : SM}
theorem SplitSt.fresh {w' : World} (h : SplitSt w A n sv gp vs ps wr A' M' v out) (kk : Kept (fun _ => False) wr w') : SplitSt w A n sv gp vs ps w' A' M' v out :=
 ⟨h.to_.fresh kk, h.out_.fresh kk, kk.get h.parts id, h.sp.fresh kk, kk.get h.tb id, h.st.fresh kk, h.nb.kept kk id, h.sn.fresh kk, fun i u p hu hp => (h.ents i u p hu hp).fresh kk⟩
theorem SplitSt.step {w' : World} {A2 : SA} {M2 : SM} (h : SplitSt w A n sv gp vs ps wr A' M' v out) (kk : StoreTo A' A2 M2 wr w') : SplitSt w A n sv gp vs ps w' A2 M2 v out :=
 ⟨h.to_.trans kk, h.out_.to kk, kk.get h.parts h.sp, h.sp.to kk, kk.get h.tb h.st, h.st.to kk, ⟨kk.get h.nb.heap h.sn⟩, h.sn.to kk, fun i u p hu hp => (h.ents i u p hu hp).to kk⟩
theorem OutAt.types {base : Nat} (h : OutAt wr A' base v out) {b : Nat} {o : Obj} (hb : wr.heap[b]? = some o) (ho : ∀ cur, o ≠ .cells cur 58 (0, 0)) : v.ownBlock ≠ some b := by
 rcases h.own.2 with ⟨rfl, _⟩ | ⟨g, cap, cur, rfl, _, hg, _⟩
 ·simp [Value.ownBlock]
 ·intro e
  simp [Value.ownBlock] at e
  subst e
  rw [hg] at hb
  exact ho cur (by cases hb; rfl)
theorem SplitSt.more {w2 : World} {v2 : Value} {x : Int × Int} (h : SplitSt w A n sv gp vs ps wr A' M' v out) (hents : ∀ (i : Nat) (u : Value) (b : Nat), vs[i]? = some u → u.ownBlock = some b → b < w.heap.size)
  (ho : w2.ownsRow w.heap.size 58 2 v2 (out.length + 1) (entCells out ++ [.int .i64 x.1, .int .i64 x.2])) (hg : wr.grownBy w2 v.ownBlock) (ha : v2.ownBlock = v.ownBlock ∨ v2.ownBlock = some wr.heap.size) (hA : StoreAt w A M0) :
  SplitSt w A n sv gp vs ps w2 A' M' v2 (out ++ [x]) := by
 have kg : Kept (fun i => v.ownBlock = some i) wr w2 := Kept.of_grown hg
 have hsz := kg.size
 have hown : ∀ b, v.ownBlock = some b → ¬ A'.own b := fun b hb e => by
  have hb1 := (h.out_.own.lt b hb).1
  rcases e with e | e | e
  ·exact h.out_.off b hb e
  ·rw [h.to_.fix.2] at e
   have := hA.lt (k := A.gm) (.inr (.inl rfl))
   omega
  ·rw [h.to_.fix.1] at e
   have := hA.lt (k := b) (.inr (.inr e))
   omega
 refine ⟨h.to_.grown hg (fun b hb => ⟨(h.out_.own.lt b hb).1, hown b hb⟩), h.out_.more h.to_.store ho ha, kg.get h.parts (h.out_.types h.parts (by simp)), ⟨Nat.lt_of_lt_of_le h.sp.lt hsz, h.sp.off⟩,
  kg.get h.tb (h.out_.types h.tb (by simp)), ⟨Nat.lt_of_lt_of_le h.st.lt hsz, h.st.off⟩, ⟨kg.get h.nb.heap (h.out_.types h.nb.heap (by simp))⟩, ⟨Nat.lt_of_lt_of_le h.sn.lt hsz, h.sn.off⟩, fun i u p hu hp => ?_⟩
 have := h.ents i u p hu hp
 exact ⟨SliceAt.kept this.at_ kg (fun b hb e => by have := hents i u b hu hb; have := (h.out_.own.lt b e).1; omega), fun hl b hb => ⟨Nat.lt_of_lt_of_le (this.off hl b hb).1 hsz, (this.off hl b hb).2⟩⟩
end

set_option maxHeartbeats 4000000 in
theorem splitSmall {w : World} {A : SA} {M : SM} (h : StoreAt w A M) {n : NM} {sv : Value} (hv : EntsOff w A sv n.ents) (hl1 : 1 ≤ n.ents.length) (hl6 : n.ents.length ≤ 6) (hfew : M.log.length + 2 < 100000000) :
  Calls Try.prog 46 #[.agg #[.pointer (some ⟨A.sb, 0, none⟩)], .agg (nodeCells n sv).toArray] w fun e w' => ∃ A' v, e = .returned (.tuple #[v, .int .i64 (M.split n).2.2]) ∧ StoreTo A A' (M.split n).1 w w' ∧ OutAt w' A' w.heap.size v (M.split n).2.1 := by
 obtain ⟨A0, cap, rfl, hc1, hc2⟩ := hv.at_.form
 have hc2' := hc2
 unfold maxLen at hc2
 obtain ⟨cs, hcs⟩ : ∃ cs, nodeCells n (.slice A0 n.ents.length cap) = cs := ⟨_, rfl⟩
 obtain ⟨w1, hw1⟩ : ∃ w1, w.alloc (.cells #[.pointer (some ⟨A.sb, 0, none⟩)] 27) = w1 := ⟨_, rfl⟩
 obtain ⟨w2, hw2⟩ : ∃ w2, w1.alloc (.cells cs.toArray 71) = w2 := ⟨_, rfl⟩
 have k1 : Kept (fun _ => False) w w1 := by rw [← hw1]; exact (Kept.refl _ _).alloc _
 have k2 : Kept (fun _ => False) w1 w2 := by rw [← hw2]; exact (Kept.refl _ _).alloc _
 have s1 : w1.heap.size = w.heap.size + 1 := by rw [← hw1]; simp
 have s2 : w2.heap.size = w.heap.size + 2 := by rw [← hw2]; simp [s1]
 have t1 : w1.heap[w.heap.size]? = some (.cells #[.pointer (some ⟨A.sb, 0, none⟩)] 27 (0, 0)) := by rw [← hw1]; exact heap_alloc_new _ _
 have bx2 : NodeBox w2 (w.heap.size + 1) n (.slice A0 n.ents.length cap) := ⟨by rw [hcs, ← hw2, ← s1]; exact heap_alloc_new _ _⟩
 have c17 := bx2.c17
 have h' := h_ h
 obtain ⟨ps, hps⟩ : ∃ ps, [n.ents] = ps := ⟨_, rfl⟩
 obtain ⟨vs, hvs⟩ : ∃ vs, [Value.slice A0 n.ents.length cap] = vs := ⟨_, rfl⟩
 have hsp : Hid (M.split n = SM.makes n.kind ps M []) := h_ (by unfold SM.split partsOf; rw [if_neg (by omega), if_neg (by omega), if_neg (by omega), hps])
 have hpsl : Hid (ps.length = 1) := h_ (by rw [← hps]; rfl)
 have hvsl : vs.length = 1 := by rw [← hvs]; rfl
 have hes : ∀ (i : Nat) (u : Value) (p : List (Int × Int)), vs[i]? = some u → ps[i]? = some p → EntsOff w A u p := fun i u p hu hp => by
  rw [← hvs] at hu; rw [← hps] at hp
  cases i with
  | zero => simp at hu hp; subst hu hp; exact hv
  | succ i => simp at hu
 have hpart : Hid (∀ k, k < 1 → ∃ (p : List (Int × Int)) (u : Value), ps[k]? = some p ∧ vs[k]? = some u ∧ 0 < p.length ∧ ∃ Au mu cu, u = .slice Au mu cu) := h_ (fun k hk => by
  obtain rfl : k = 0 := by omega
  exact ⟨n.ents, _, by rw [← hps]; rfl, by rw [← hvs]; rfl, by omega, A0, n.ents.length, cap, rfl⟩)
 have hst0 : Hid (SplitSt w A n (.slice A0 n.ents.length cap) w2.heap.size vs ps (w2.alloc (.cells vs.toArray 36)) A M (.slice none 0 0) []) := h_ (by
  have k3 := (Kept.refl (fun _ => False) w2).alloc (.cells vs.toArray 36)
  have kk := (k1.trans k2).trans k3
  have hsz : (w2.alloc (.cells vs.toArray 36)).heap.size = w.heap.size + 3 := by simp [s2]
  exact ⟨(StoreTo.refl h).fresh kk, OutAt.nil _ _ _, heap_alloc_new _ _, Safe.new h (by omega) (by omega), (k2.trans k3).get t1 id, Safe.new h (by omega) (by omega), bx2.kept k3 id, Safe.new h (by omega) (by omega), fun i u p hu hp => (hes i u p hu hp).fresh kk⟩)
 have hub : Hid (∀ (i : Nat) (u : Value) (b : Nat), vs[i]? = some u → u.ownBlock = some b → b < w.heap.size) := h_ (fun i u b hu hb => by
  have hi : i < vs.length := (List.getElem?_eq_some_iff.1 hu).1
  obtain ⟨p, hp⟩ : ∃ p, ps[i]? = some p := ⟨_, List.getElem?_eq_getElem (by rw [hpsl.out]; rw [hvsl] at hi; exact hi)⟩
  exact ((hes i u p hu hp).off (by obtain ⟨p', u', h1, _, h3, _⟩ := hpart.out i (by omega); rw [hp] at h1; cases h1; intro e; rw [e] at h3; cases h3) b hb).1)
 have hw1' := h_ hw1
 have hw2' := h_ hw2
 have s1' := h_ s1
 have hvs' : Hid (w2.alloc (.cells #[.slice A0 n.ents.length cap] 36) = w2.alloc (.cells vs.toArray 36)) := h_ (by rw [← hvs])
 obtain ⟨w3, hw3⟩ : ∃ w3, w2.alloc (.cells vs.toArray 36) = w3 := ⟨_, rfl⟩
 rw [hw3] at hst0 hvs'
 have hn0 : ((n.ents.length : Int) == 0) = false := by rw [beq_eq_false_iff_ne]; omega
 have hn6 : decide ((6 : Int) < (n.ents.length : Int)) = false := by rw [decide_eq_false_iff_not]; omega
 have hn12 : decide ((12 : Int) < (n.ents.length : Int)) = false := by rw [decide_eq_false_iff_not]; omega
 rw [hcs]
 clear hcs hw1 hw2 k1 k2 s1 s2 t1 bx2 h hv hps hvs hes hw3 hvsl
 go_enter Try.func46, Try.ntmps46
 go_wp2_with (first | (refine wpList_box_named 27 rfl rfl _ rfl hw1'.out ?_) | (refine wpList_box_named 71 rfl rfl _ rfl hw2'.out ?_; rw [s1'.out]))
 rw [hvs'.out]
 go_loopw [8, 41] (fun v x wr => ∃ (k : Nat) (A' : SA) (M' : SM) (out : List (Int × Int)), k ≤ 1 ∧ x = .int .i64 k ∧ Hid (SplitSt w A n (.slice A0 n.ents.length cap) w2.heap.size vs ps wr A' M' v out) ∧ Hid (SM.makes n.kind (ps.drop k) M' out = SM.makes n.kind ps M [] ∧ out.length = k ∧ M'.log.length ≤ M.log.length + k)) (fun _ x _ => 1 - (intOf x).toNat)
 case atStart => exact ⟨0, A, M, [], by omega, rfl, hst0, h_ ⟨rfl, rfl, Nat.le_refl _⟩⟩
 case round =>
  obtain ⟨k, A', M', out, hk, rfl, hst, hq⟩ := hrel
  by_cases hlt : k < 1
  ·obtain ⟨p, u, hp, hu, hp0, Au, mu, cu, rfl⟩ := hpart.out k hlt
   have cu' := cell_of_heap hst.out.parts k
   rw [show vs.toArray[k]? = some (.slice Au mu cu) by simpa using hu] at cu'
   have ct := cell_of_heap hst.out.tb 0
   simp at ct
   have c0 := hst.out.nb.c0
   have hen := hst.out.ents k _ p hu hp
   have hmk := storeMake (n := ⟨n.kind, zeros16, p⟩) hst.out.to_.store hen (by rfl) (by intro b hb; have := List.eq_of_mem_replicate hb; omega) (by have := hq.out.2.2; omega)
   rw [hst.out.to_.sb] at hmk
   have hstep : Hid (SM.makes n.kind (ps.drop k) M' out = if (M'.make ⟨n.kind, zeros16, p⟩).2.2 = 0 then SM.makes n.kind (ps.drop (k + 1)) (M'.make ⟨n.kind, zeros16, p⟩).1 (out ++ [((p.getD 0 (0, 0)).1, (M'.make ⟨n.kind, zeros16, p⟩).2.1)]) else ((M'.make ⟨n.kind, zeros16, p⟩).1, [], (M'.make ⟨n.kind, zeros16, p⟩).2.2)) := h_ (by
    obtain ⟨hkl, hpe⟩ := List.getElem?_eq_some_iff.1 hp
    rw [List.drop_eq_getElem_cons hkl, hpe, makes_cons])
   have hlog := h_ (make_log M' ⟨n.kind, zeros16, p⟩)
   obtain ⟨R, hR⟩ : ∃ R, M'.make ⟨n.kind, zeros16, p⟩ = R := ⟨_, rfl⟩
   rw [hR] at hmk hstep hlog
   obtain ⟨M2, pg, er⟩ := R
   dsimp only at hmk
   have hmk' := h_ hmk
   have hp' := h_ hp
   have hu' := h_ hu
   have hp0' := h_ hp0
   clear hmk hR hen hp hu hp0
   go_wp2_with (refine wpList_exec rfl (exec_build 71 #[(0, .tmp 49), (2, .tmp 50)] _ rfl (by simp [Act.eval]) (run_build_part _ _ p _ _ _)) ?_)
   refine hmk'.out.mono ?_
   rintro e w8 ⟨A2, rfl, hT8⟩
   have hst8 := h_ (hst.out.step hT8)
   clear hT8 cu' ct c0
   by_cases h0 : er = 0
   ·subst h0
    have hst9 := hstep.out
    rw [if_pos (by rfl)] at hst9
    have hstep' := h_ hst9
    obtain ⟨x, hx⟩ : ∃ x, p[0]? = some x := ⟨_, List.getElem?_eq_getElem hp0'.out⟩
    have hxd : Hid ((p.getD 0 (0, 0)).1 = x.1) := h_ (by simp [hx])
    have hen8 := hst8.out.ents k _ p hu'.out hp'.out
    obtain ⟨Aq, cq, hv, _⟩ := EntsAt.form hen8.at_
    cases hv
    obtain ⟨b, off, rfl, hbl, hx1, _⟩ := EntsAt.get hen8.at_ hx
    rw [Nat.zero_mul, Nat.add_zero] at hx1
    have hpl : 0 < p.length := hp0'.out
    have hw9 : Hid (SplitSt w A n (.slice A0 n.ents.length cap) w2.heap.size vs ps (w8.alloc (.cells #[.int .i64 x.1, .int .i64 pg] 58)) A2 M2 _ out) := h_ (hst8.out.fresh ((Kept.refl _ _).alloc _))
    have hlen := hq.out.2.1
    have hsz9 := hw9.out.to_.kept.size
    clear hen8 hst9 hx
    go_wp2_with (at_builtin; refine wpList_append_src rfl elemEntry (.tmp 58) (.tmp 65) rfl (by rfl) (by rfl) hw9.out.out_.own (SliceAt.block_new (ys := [.int .i64 x.1, .int .i64 pg]) (m := 1) (heap_alloc_new _ _) (by rfl) (by decide)) (by intro c hc; simp at hc; rcases hc with rfl | rfl <;> rfl) (by omega) (by omega) hsz9 ?_; intro v2 w10 hown10 hg10 hat10)
    have hst10 := h_ (hw9.out.more (x := (x.1, pg)) (M0 := M) (fun i u b hu hb => hub.out i u b hu hb) hown10 hg10 hat10 h'.out)
    clear hown10 hg10 hat10
    go_roundw
    case rel => exact ⟨k + 1, A2, M2, out ++ [(x.1, pg)], by omega, by go_num, hst10, h_ ⟨by have h1 := hstep'.out; rw [hxd.out] at h1; rw [← h1]; exact hq.out.1, by simp [hlen], by have := hlog.out; have := hq.out.2.2; omega⟩⟩
    case measure => simp [intOf]; omega
   ·have h0' : ((er : Int) == 0) = false := by simp; omega
    have hst9 := hstep.out
    rw [if_neg (by exact h0)] at hst9
    have hend : Hid (M.split n = (M2, [], er)) := h_ (by rw [hsp.out, ← hq.out.1]; exact hst9)
    clear h0 hst9
    go_wp2_with fail
    go_ret2
    exact ⟨A2, .slice none 0 0, by rw [hend.out]; rfl, by rw [hend.out]; exact hst8.out.to_, by rw [hend.out]; exact OutAt.nil _ _ _⟩
  ·obtain rfl : k = 1 := by omega
   have hend : Hid (M.split n = (M', out, 0)) := h_ (by rw [hsp.out, ← hq.out.1, List.drop_eq_nil_of_le (by rw [hpsl.out]; omega)]; rfl)
   go_wp2_with fail
   go_ret2
   exact ⟨A', _, by rw [hend.out]; rfl, by rw [hend.out]; exact hst.out.to_, by rw [hend.out]; exact hst.out.out_⟩

theorem splitNone {w : World} {A : SA} {M : SM} (h : StoreAt w A M) {n : NM} {sv : Value} (hv : EntsOff w A sv n.ents) (hl : n.ents.length = 0) :
  Calls Try.prog 46 #[.agg #[.pointer (some ⟨A.sb, 0, none⟩)], .agg (nodeCells n sv).toArray] w fun e w' => ∃ A' v, e = .returned (.tuple #[v, .int .i64 (M.split n).2.2]) ∧ StoreTo A A' (M.split n).1 w w' ∧ OutAt w' A' w.heap.size v (M.split n).2.1 := by
 obtain ⟨A0, cap, rfl, hc1, hc2⟩ := hv.at_.form
 have hc2' := hc2
 unfold maxLen at hc2
 obtain ⟨cs, hcs⟩ : ∃ cs, nodeCells n (.slice A0 n.ents.length cap) = cs := ⟨_, rfl⟩
 obtain ⟨w1, hw1⟩ : ∃ w1, w.alloc (.cells #[.pointer (some ⟨A.sb, 0, none⟩)] 27) = w1 := ⟨_, rfl⟩
 obtain ⟨w2, hw2⟩ : ∃ w2, w1.alloc (.cells cs.toArray 71) = w2 := ⟨_, rfl⟩
 have k1 : Kept (fun _ => False) w w1 := by rw [← hw1]; exact (Kept.refl _ _).alloc _
 have k2 : Kept (fun _ => False) w1 w2 := by rw [← hw2]; exact (Kept.refl _ _).alloc _
 have s1 : w1.heap.size = w.heap.size + 1 := by rw [← hw1]; simp
 have s2 : w2.heap.size = w.heap.size + 2 := by rw [← hw2]; simp [s1]
 have t1 : w1.heap[w.heap.size]? = some (.cells #[.pointer (some ⟨A.sb, 0, none⟩)] 27 (0, 0)) := by rw [← hw1]; exact heap_alloc_new _ _
 have bx2 : NodeBox w2 (w.heap.size + 1) n (.slice A0 n.ents.length cap) := ⟨by rw [hcs, ← hw2, ← s1]; exact heap_alloc_new _ _⟩
 have c17 := bx2.c17
 have h' := h_ h
 have hsp : Hid (M.split n = (M, [], 0)) := h_ (by unfold SM.split partsOf; rw [if_neg (by omega), if_pos hl]; rfl)
 have kall := h_ ((k1.trans k2).alloc (.cells #[.slice A0 n.ents.length cap] 36))
 have hn0 : ((n.ents.length : Int) == 0) = true := by rw [beq_iff_eq]; omega
 have hn12 : decide ((12 : Int) < (n.ents.length : Int)) = false := by rw [decide_eq_false_iff_not]; omega
 have hw1' := h_ hw1
 have hw2' := h_ hw2
 have s1' := h_ s1
 rw [hcs]
 clear hcs hw1 hw2 k1 k2 s1 s2 t1 bx2 h hv hl
 go_enter Try.func46, Try.ntmps46
 go_wp2_with (first | (refine wpList_box_named 27 rfl rfl _ rfl hw1'.out ?_) | (refine wpList_box_named 71 rfl rfl _ rfl hw2'.out ?_; rw [s1'.out]))
 go_ret2
 exact ⟨A, .slice none 0 0, by rw [hsp.out]; rfl, by rw [hsp.out]; exact (StoreTo.refl h'.out).fresh kall.out, by rw [hsp.out]; exact OutAt.nil _ _ _⟩
theorem splitOver {w : World} {A : SA} {M : SM} (h : StoreAt w A M) {n : NM} {sv : Value} (hv : EntsOff w A sv n.ents) (hl : 12 < n.ents.length) :
  Calls Try.prog 46 #[.agg #[.pointer (some ⟨A.sb, 0, none⟩)], .agg (nodeCells n sv).toArray] w fun e w' => ∃ A' v, e = .returned (.tuple #[v, .int .i64 (M.split n).2.2]) ∧ StoreTo A A' (M.split n).1 w w' ∧ OutAt w' A' w.heap.size v (M.split n).2.1 := by
 obtain ⟨A0, cap, rfl, hc1, hc2⟩ := hv.at_.form
 have hc2' := hc2
 unfold maxLen at hc2
 obtain ⟨cs, hcs⟩ : ∃ cs, nodeCells n (.slice A0 n.ents.length cap) = cs := ⟨_, rfl⟩
 obtain ⟨w1, hw1⟩ : ∃ w1, w.alloc (.cells #[.pointer (some ⟨A.sb, 0, none⟩)] 27) = w1 := ⟨_, rfl⟩
 obtain ⟨w2, hw2⟩ : ∃ w2, w1.alloc (.cells cs.toArray 71) = w2 := ⟨_, rfl⟩
 have k1 : Kept (fun _ => False) w w1 := by rw [← hw1]; exact (Kept.refl _ _).alloc _
 have k2 : Kept (fun _ => False) w1 w2 := by rw [← hw2]; exact (Kept.refl _ _).alloc _
 have s1 : w1.heap.size = w.heap.size + 1 := by rw [← hw1]; simp
 have s2 : w2.heap.size = w.heap.size + 2 := by rw [← hw2]; simp [s1]
 have t1 : w1.heap[w.heap.size]? = some (.cells #[.pointer (some ⟨A.sb, 0, none⟩)] 27 (0, 0)) := by rw [← hw1]; exact heap_alloc_new _ _
 have bx2 : NodeBox w2 (w.heap.size + 1) n (.slice A0 n.ents.length cap) := ⟨by rw [hcs, ← hw2, ← s1]; exact heap_alloc_new _ _⟩
 have c17 := bx2.c17
 have h' := h_ h
 have hsp : Hid (M.split n = (M, [], 81)) := h_ (by unfold SM.split; rw [if_pos hl])
 have kall := h_ (k1.trans k2)
 have hn12 : (12 : Int) < (n.ents.length : Int) := by omega
 have hw1' := h_ hw1
 have hw2' := h_ hw2
 have s1' := h_ s1
 rw [hcs]
 clear hcs hw1 hw2 k1 k2 s1 s2 t1 bx2 h hv hl
 go_enter Try.func46, Try.ntmps46
 go_wp2_with (first | (refine wpList_box_named 27 rfl rfl _ rfl hw1'.out ?_) | (refine wpList_box_named 71 rfl rfl _ rfl hw2'.out ?_; rw [s1'.out]))
 go_ret2
 exact ⟨A, .slice none 0 0, by rw [hsp.out]; rfl, by rw [hsp.out]; exact (StoreTo.refl h'.out).fresh kall.out, by rw [hsp.out]; exact OutAt.nil _ _ _⟩

set_option maxHeartbeats 4000000 in
theorem splitBig {w : World} {A : SA} {M : SM} (h : StoreAt w A M) {n : NM} {sv : Value} (hv : EntsOff w A sv n.ents) (hl1 : 6 < n.ents.length) (hl6 : n.ents.length ≤ 12) (hfew : M.log.length + 2 < 100000000) :
  Calls Try.prog 46 #[.agg #[.pointer (some ⟨A.sb, 0, none⟩)], .agg (nodeCells n sv).toArray] w fun e w' => ∃ A' v, e = .returned (.tuple #[v, .int .i64 (M.split n).2.2]) ∧ StoreTo A A' (M.split n).1 w w' ∧ OutAt w' A' w.heap.size v (M.split n).2.1 := by
 obtain ⟨A0, cap, rfl, hc1, hc2⟩ := hv.at_.form
 have hc2' := hc2
 unfold maxLen at hc2
 obtain ⟨cs, hcs⟩ : ∃ cs, nodeCells n (.slice A0 n.ents.length cap) = cs := ⟨_, rfl⟩
 obtain ⟨w1, hw1⟩ : ∃ w1, w.alloc (.cells #[.pointer (some ⟨A.sb, 0, none⟩)] 27) = w1 := ⟨_, rfl⟩
 obtain ⟨w2, hw2⟩ : ∃ w2, w1.alloc (.cells cs.toArray 71) = w2 := ⟨_, rfl⟩
 have k1 : Kept (fun _ => False) w w1 := by rw [← hw1]; exact (Kept.refl _ _).alloc _
 have k2 : Kept (fun _ => False) w1 w2 := by rw [← hw2]; exact (Kept.refl _ _).alloc _
 have s1 : w1.heap.size = w.heap.size + 1 := by rw [← hw1]; simp
 have s2 : w2.heap.size = w.heap.size + 2 := by rw [← hw2]; simp [s1]
 have t1 : w1.heap[w.heap.size]? = some (.cells #[.pointer (some ⟨A.sb, 0, none⟩)] 27 (0, 0)) := by rw [← hw1]; exact heap_alloc_new _ _
 have bx2 : NodeBox w2 (w.heap.size + 1) n (.slice A0 n.ents.length cap) := ⟨by rw [hcs, ← hw2, ← s1]; exact heap_alloc_new _ _⟩
 have c17 := bx2.c17
 have h' := h_ h
 obtain ⟨b0, off0, rfl, _, _⟩ := SliceAt.elem hv.at_ (i := 0) (by omega) (by omega)
 obtain ⟨m, hm⟩ : ∃ m, n.ents.length / 2 = m := ⟨_, rfl⟩
 have hm1 : 0 < m := by omega
 have hm2 : m < n.ents.length := by omega
 have hmi : (n.ents.length : Int) / 2 = (m : Int) := by omega
 obtain ⟨ps, hps⟩ : ∃ ps, [n.ents.take m, n.ents.drop m] = ps := ⟨_, rfl⟩
 obtain ⟨vs, hvs⟩ : ∃ vs, [Value.slice (some ⟨b0, off0, none⟩) m cap, Value.slice (some ⟨b0, off0 + m * 2, none⟩) (n.ents.length - m) (cap - m)] = vs := ⟨_, rfl⟩
 have hsp : Hid (M.split n = SM.makes n.kind ps M []) := h_ (by unfold SM.split partsOf; rw [if_neg (by omega), if_neg (by omega), if_pos (by omega), hm, hps])
 have hpsl : Hid (ps.length = 2) := h_ (by rw [← hps]; rfl)
 have hvsl : vs.length = 2 := by rw [← hvs]; rfl
 have hes : ∀ (i : Nat) (u : Value) (p : List (Int × Int)), vs[i]? = some u → ps[i]? = some p → EntsOff w A u p := fun i u p hu hp => by
  rw [← hvs] at hu; rw [← hps] at hp
  cases i with
  | zero => simp at hu hp; subst hu hp; exact ⟨entsAt_take hv.at_ (by omega) rfl, fun _ b hb => hv.off (by intro e; rw [e] at hl1; simp at hl1) b hb⟩
  | succ i => cases i with
   | zero => simp at hu hp; subst hu hp; exact ⟨entsAt_drop hv.at_ (by omega) rfl, fun _ b hb => hv.off (by intro e; rw [e] at hl1; simp at hl1) b (by simpa [Value.ownBlock] using hb)⟩
   | succ i => simp at hu
 have hpart : Hid (∀ k, k < 2 → ∃ (p : List (Int × Int)) (u : Value), ps[k]? = some p ∧ vs[k]? = some u ∧ 0 < p.length ∧ ∃ Au mu cu, u = .slice Au mu cu) := h_ (fun k hk => by
  rcases (show k = 0 ∨ k = 1 by omega) with rfl | rfl
  ·exact ⟨n.ents.take m, _, by rw [← hps]; rfl, by rw [← hvs]; rfl, by rw [List.length_take]; omega, _, _, _, rfl⟩
  ·exact ⟨n.ents.drop m, _, by rw [← hps]; rfl, by rw [← hvs]; rfl, by rw [List.length_drop]; omega, _, _, _, rfl⟩)
 have hst0 : Hid (SplitSt w A n (.slice (some ⟨b0, off0, none⟩) n.ents.length cap) (w2.heap.size + 1) vs ps (((w2.alloc (.cells #[.slice (some ⟨b0, off0, none⟩) n.ents.length cap] 36)).alloc (.cells vs.toArray 36)).drew) A M (.slice none 0 0) []) := h_ (by
  have k3 := (((Kept.refl (fun _ => False) w2).alloc (.cells #[.slice (some ⟨b0, off0, none⟩) n.ents.length cap] 36)).alloc (.cells vs.toArray 36)).drew
  have kk := (k1.trans k2).trans k3
  have hsz : (((w2.alloc (.cells #[.slice (some ⟨b0, off0, none⟩) n.ents.length cap] 36)).alloc (.cells vs.toArray 36)).drew).heap.size = w.heap.size + 4 := by simp [s2]
  have hnew := heap_alloc_new (w2.alloc (.cells #[.slice (some ⟨b0, off0, none⟩) n.ents.length cap] 36)) (.cells vs.toArray 36)
  rw [show (w2.alloc (.cells #[.slice (some ⟨b0, off0, none⟩) n.ents.length cap] 36)).heap.size = w2.heap.size + 1 by simp] at hnew
  exact ⟨(StoreTo.refl h).fresh kk, OutAt.nil _ _ _, hnew, Safe.new h (by omega) (by omega), (k2.trans k3).get t1 id, Safe.new h (by omega) (by omega), bx2.kept k3 id, Safe.new h (by omega) (by omega), fun i u p hu hp => (hes i u p hu hp).fresh kk⟩)
 have hub : Hid (∀ (i : Nat) (u : Value) (b : Nat), vs[i]? = some u → u.ownBlock = some b → b < w.heap.size) := h_ (fun i u b hu hb => by
  have hi : i < vs.length := (List.getElem?_eq_some_iff.1 hu).1
  obtain ⟨p, hp⟩ : ∃ p, ps[i]? = some p := ⟨_, List.getElem?_eq_getElem (by rw [hpsl.out]; rw [hvsl] at hi; exact hi)⟩
  exact ((hes i u p hu hp).off (by obtain ⟨p', u', h1, _, h3, _⟩ := hpart.out i (by omega); rw [hp] at h1; cases h1; intro e; rw [e] at h3; cases h3) b hb).1)
 have hw1' := h_ hw1
 have hw2' := h_ hw2
 have s1' := h_ s1
 have hvs' : Hid (((w2.alloc (.cells #[.slice (some ⟨b0, off0, none⟩) n.ents.length cap] 36)).alloc (.cells #[Value.slice (some ⟨b0, off0, none⟩) m cap, Value.slice (some ⟨b0, off0 + m * 2, none⟩) (n.ents.length - m) (cap - m)] 36)).drew = ((w2.alloc (.cells #[.slice (some ⟨b0, off0, none⟩) n.ents.length cap] 36)).alloc (.cells vs.toArray 36)).drew) := h_ (by rw [← hvs])
 have hn0 : ((n.ents.length : Int) == 0) = false := by rw [beq_eq_false_iff_ne]; omega
 have hn6 : (6 : Int) < (n.ents.length : Int) := by omega
 have hn12 : decide ((12 : Int) < (n.ents.length : Int)) = false := by rw [decide_eq_false_iff_not]; omega
 have hmi0 : (0 : Int) ≤ (m : Int) := by omega
 have hmi1 : (m : Int) ≤ (n.ents.length : Int) := by omega
 have hmi2 : (m : Int) ≤ (cap : Int) := by omega
 have hmc : ¬ cap = m := by omega
 have hq1 : (n.ents.length : Int).tdiv 2 = (m : Int) := by rw [Int.tdiv_eq_ediv_of_nonneg (by omega)]; omega
 have hq2 : IntKind.i64.wrap (m : Int) = (m : Int) := IntWalk.i64_in _ (by omega)
 rw [hcs]
 clear hcs hw1 hw2 k1 k2 s1 s2 t1 bx2 h hv hps hvs hes hvsl hm
 go_enter Try.func46, Try.ntmps46
 go_wp2_with (first | (refine wpList_box_named 27 rfl rfl _ rfl hw1'.out ?_) | (refine wpList_box_named 71 rfl rfl _ rfl hw2'.out ?_; rw [s1'.out]))
 go_region_held3 (fun _ => True) (first | trivial) (fail)
 go_wp2_with fail
 rw [hvs'.out]
 go_loopw [8, 41] (fun v x wr => ∃ (k : Nat) (A' : SA) (M' : SM) (out : List (Int × Int)), k ≤ 2 ∧ x = .int .i64 k ∧ Hid (SplitSt w A n (.slice (some ⟨b0, off0, none⟩) n.ents.length cap) (w2.heap.size + 1) vs ps wr A' M' v out) ∧ Hid (SM.makes n.kind (ps.drop k) M' out = SM.makes n.kind ps M [] ∧ out.length = k ∧ M'.log.length ≤ M.log.length + k)) (fun _ x _ => 2 - (intOf x).toNat)
 case atStart => exact ⟨0, A, M, [], by omega, rfl, hst0, h_ ⟨rfl, rfl, Nat.le_refl _⟩⟩
 case round =>
  obtain ⟨k, A', M', out, hk, rfl, hst, hq⟩ := hrel
  by_cases hlt : k < 2
  ·obtain ⟨p, u, hp, hu, hp0, Au, mu, cu, rfl⟩ := hpart.out k hlt
   have cu' := cell_of_heap hst.out.parts k
   rw [show vs.toArray[k]? = some (.slice Au mu cu) by simpa using hu] at cu'
   have ct := cell_of_heap hst.out.tb 0
   simp at ct
   have c0 := hst.out.nb.c0
   have hen := hst.out.ents k _ p hu hp
   have hmk := storeMake (n := ⟨n.kind, zeros16, p⟩) hst.out.to_.store hen (by rfl) (by intro b hb; have := List.eq_of_mem_replicate hb; omega) (by have := hq.out.2.2; omega)
   rw [hst.out.to_.sb] at hmk
   have hstep : Hid (SM.makes n.kind (ps.drop k) M' out = if (M'.make ⟨n.kind, zeros16, p⟩).2.2 = 0 then SM.makes n.kind (ps.drop (k + 1)) (M'.make ⟨n.kind, zeros16, p⟩).1 (out ++ [((p.getD 0 (0, 0)).1, (M'.make ⟨n.kind, zeros16, p⟩).2.1)]) else ((M'.make ⟨n.kind, zeros16, p⟩).1, [], (M'.make ⟨n.kind, zeros16, p⟩).2.2)) := h_ (by
    obtain ⟨hkl, hpe⟩ := List.getElem?_eq_some_iff.1 hp
    rw [List.drop_eq_getElem_cons hkl, hpe, makes_cons])
   have hlog := h_ (make_log M' ⟨n.kind, zeros16, p⟩)
   obtain ⟨R, hR⟩ : ∃ R, M'.make ⟨n.kind, zeros16, p⟩ = R := ⟨_, rfl⟩
   rw [hR] at hmk hstep hlog
   obtain ⟨M2, pg, er⟩ := R
   dsimp only at hmk
   have hmk' := h_ hmk
   have hp' := h_ hp
   have hu' := h_ hu
   have hp0' := h_ hp0
   clear hmk hR hen hp hu hp0
   go_wp2_with (refine wpList_exec rfl (exec_build 71 #[(0, .tmp 49), (2, .tmp 50)] _ rfl (by simp [Act.eval]) (run_build_part _ _ p _ _ _)) ?_)
   refine hmk'.out.mono ?_
   rintro e w8 ⟨A2, rfl, hT8⟩
   have hst8 := h_ (hst.out.step hT8)
   clear hT8 cu' ct c0
   by_cases h0 : er = 0
   ·subst h0
    have hst9 := hstep.out
    rw [if_pos (by rfl)] at hst9
    have hstep' := h_ hst9
    obtain ⟨x, hx⟩ : ∃ x, p[0]? = some x := ⟨_, List.getElem?_eq_getElem hp0'.out⟩
    have hxd : Hid ((p.getD 0 (0, 0)).1 = x.1) := h_ (by simp [hx])
    have hen8 := hst8.out.ents k _ p hu'.out hp'.out
    obtain ⟨Aq, cq, hv, _⟩ := EntsAt.form hen8.at_
    cases hv
    obtain ⟨b, off, rfl, hbl, hx1, _⟩ := EntsAt.get hen8.at_ hx
    rw [Nat.zero_mul, Nat.add_zero] at hx1
    have hpl : 0 < p.length := hp0'.out
    have hw9 : Hid (SplitSt w A n (.slice (some ⟨b0, off0, none⟩) n.ents.length cap) (w2.heap.size + 1) vs ps (w8.alloc (.cells #[.int .i64 x.1, .int .i64 pg] 58)) A2 M2 _ out) := h_ (hst8.out.fresh ((Kept.refl _ _).alloc _))
    have hlen := hq.out.2.1
    have hsz9 := hw9.out.to_.kept.size
    clear hen8 hst9 hx
    go_wp2_with (at_builtin; refine wpList_append_src rfl elemEntry (.tmp 58) (.tmp 65) rfl (by rfl) (by rfl) hw9.out.out_.own (SliceAt.block_new (ys := [.int .i64 x.1, .int .i64 pg]) (m := 1) (heap_alloc_new _ _) (by rfl) (by decide)) (by intro c hc; simp at hc; rcases hc with rfl | rfl <;> rfl) (by omega) (by omega) hsz9 ?_; intro v2 w10 hown10 hg10 hat10)
    have hst10 := h_ (hw9.out.more (x := (x.1, pg)) (M0 := M) (fun i u b hu hb => hub.out i u b hu hb) hown10 hg10 hat10 h'.out)
    clear hown10 hg10 hat10
    go_roundw
    case rel => exact ⟨k + 1, A2, M2, out ++ [(x.1, pg)], by omega, by go_num, hst10, h_ ⟨by have h1 := hstep'.out; rw [hxd.out] at h1; rw [← h1]; exact hq.out.1, by simp [hlen], by have := hlog.out; have := hq.out.2.2; omega⟩⟩
    case measure => simp [intOf]; omega
   ·have h0' : ((er : Int) == 0) = false := by simp; omega
    have hst9 := hstep.out
    rw [if_neg (by exact h0)] at hst9
    have hend : Hid (M.split n = (M2, [], er)) := h_ (by rw [hsp.out, ← hq.out.1]; exact hst9)
    clear h0 hst9
    go_wp2_with fail
    go_ret2
    exact ⟨A2, .slice none 0 0, by rw [hend.out]; rfl, by rw [hend.out]; exact hst8.out.to_, by rw [hend.out]; exact OutAt.nil _ _ _⟩
  ·obtain rfl : k = 2 := by omega
   have hend : Hid (M.split n = (M', out, 0)) := h_ (by rw [hsp.out, ← hq.out.1, List.drop_eq_nil_of_le (by rw [hpsl.out]; omega)]; rfl)
   go_wp2_with fail
   go_ret2
   exact ⟨A', _, by rw [hend.out]; rfl, by rw [hend.out]; exact hst.out.to_, by rw [hend.out]; exact hst.out.out_⟩
theorem treeSplit {w : World} {A : SA} {M : SM} (h : StoreAt w A M) {n : NM} {sv : Value} (hv : EntsOff w A sv n.ents) (hfew : M.log.length + 2 < 100000000) :
  Calls Try.prog 46 #[.agg #[.pointer (some ⟨A.sb, 0, none⟩)], .agg (nodeCells n sv).toArray] w fun e w' => ∃ A' v, e = .returned (.tuple #[v, .int .i64 (M.split n).2.2]) ∧ StoreTo A A' (M.split n).1 w w' ∧ OutAt w' A' w.heap.size v (M.split n).2.1 := by
 by_cases h0 : n.ents.length = 0
 ·exact splitNone h hv h0
 ·by_cases h6 : n.ents.length ≤ 6
  ·exact splitSmall h hv (by omega) h6 hfew
  ·by_cases h12 : n.ents.length ≤ 12
   ·exact splitBig h hv (by omega) h12 hfew
   ·exact splitOver h hv (by omega)

theorem treeSwap {w : World} {A : SA} {M : SM} (h : StoreAt w A M) (old next : Int) :
  Calls Try.prog 18 #[.agg #[.pointer (some ⟨A.sb, 0, none⟩)], .int .i64 old, .int .i64 next] w fun e w' => e = .returned (.int .i64 (M.swap old next).2) ∧ StoreTo A A (M.swap old next).1 w w' := by
 obtain ⟨w1, hw1⟩ : ∃ w1, w.alloc (.cells #[.pointer (some ⟨A.sb, 0, none⟩)] 27) = w1 := ⟨_, rfl⟩
 have k1 : Kept (fun _ => False) w w1 := by rw [← hw1]; exact (Kept.refl _ _).alloc _
 have t1 : w1.heap[w.heap.size]? = some (.cells #[.pointer (some ⟨A.sb, 0, none⟩)] 27 (0, 0)) := by rw [← hw1]; exact heap_alloc_new _ _
 have c1 := cell_of_heap t1 0
 simp at c1
 have s1 : w1.heap.size = w.heap.size + 1 := by rw [← hw1]; simp
 have st1 : Safe w1 A w.heap.size := Safe.new h (Nat.le_refl _) (by omega)
 have h1 := h.fresh k1
 have hT1 := h_ ((StoreTo.refl h).fresh k1)
 have t1' := h_ t1
 have st1' := h_ st1
 have hw1' := h_ hw1
 have hs : Hid (M.swap old next = if (if next = -1 then (M, 0) else M.hold next).2 = 0 then (if old = -1 then ((if next = -1 then (M, 0) else M.hold next).1, 0) else (if next = -1 then (M, 0) else M.hold next).1.drop old) else (if next = -1 then (M, 0) else M.hold next)) := h_ rfl
 by_cases hn : next = -1
 ·subst hn
  rw [if_pos rfl] at hs
  by_cases ho : old = -1
  ·subst ho
   have hs' : Hid (M.swap (-1) (-1) = (M, 0)) := h_ (by rw [hs.out]; rfl)
   rw [hs'.out]
   clear hw1 k1 t1 s1 st1 h1 h
   go_enter Try.func18, Try.ntmps18
   go_wp2_with (first | (refine wpList_box_named 27 rfl rfl _ rfl hw1'.out ?_))
   go_ret
   exact ⟨rfl, hT1.out⟩
  ·have hs' : Hid (M.swap old (-1) = M.drop old) := h_ (by rw [hs.out]; simp [ho])
   rw [hs'.out]
   have hd := h_ (storeDrop h1 old)
   have ho' : (old == -1) = false := by simpa using ho
   clear hw1 k1 t1 s1 st1 h1 h ho
   go_enter Try.func18, Try.ntmps18
   go_wp2_with (first | (refine wpList_box_named 27 rfl rfl _ rfl hw1'.out ?_))
   refine hd.out.mono ?_
   rintro e w2 ⟨rfl, hk⟩
   have hk' := h_ (hT1.out.trans hk)
   clear hk
   go_wp2_with fail
   go_ret
   exact ⟨rfl, hk'.out⟩
 ·rw [if_neg hn] at hs
  have hn' : (next == -1) = false := by simpa using hn
  have hh := h_ (storeHold h1 next)
  obtain ⟨R, hR⟩ : ∃ R, M.hold next = R := ⟨_, rfl⟩
  rw [hR] at hs hh
  obtain ⟨M2, er⟩ := R
  dsimp only at hs hh
  by_cases h0 : er = 0
  ·subst h0
   by_cases ho : old = -1
   ·subst ho
    have hs' : Hid (M.swap (-1) next = (M2, 0)) := h_ (by rw [hs.out]; rfl)
    rw [hs'.out]
    clear hw1 k1 t1 s1 st1 h1 h hn hR
    go_enter Try.func18, Try.ntmps18
    go_wp2_with (first | (refine wpList_box_named 27 rfl rfl _ rfl hw1'.out ?_))
    refine hh.out.mono ?_
    rintro e w2 ⟨rfl, hk⟩
    have hk' := h_ (hT1.out.trans hk)
    clear hk
    go_wp2_with fail
    go_ret
    exact ⟨rfl, hk'.out⟩
   ·have hs' : Hid (M.swap old next = M2.drop old) := h_ (by rw [hs.out]; simp [ho])
    rw [hs'.out]
    have ho' : (old == -1) = false := by simpa using ho
    clear hw1 k1 t1 s1 st1 h1 h hn hR ho
    go_enter Try.func18, Try.ntmps18
    go_wp2_with (first | (refine wpList_box_named 27 rfl rfl _ rfl hw1'.out ?_))
    refine hh.out.mono ?_
    rintro e w2 ⟨rfl, hk⟩
    have hk' := h_ (hT1.out.trans hk)
    have c2 := cell_of_heap (hk.get t1'.out st1'.out) 0
    simp at c2
    have hd := h_ (storeDrop hk.store old)
    clear hk
    go_wp2_with fail
    refine hd.out.mono ?_
    rintro e w3 ⟨rfl, hk3⟩
    have hk3' := h_ (hk'.out.trans hk3)
    clear hk3
    go_wp2_with fail
    go_ret
    exact ⟨rfl, hk3'.out⟩
  ·have hs' : Hid (M.swap old next = (M2, er)) := h_ (by rw [hs.out, if_neg h0])
   rw [hs'.out]
   have h0' : ((er : Int) == 0) = false := by simp; omega
   clear hw1 k1 t1 s1 st1 h1 h hn hR h0
   go_enter Try.func18, Try.ntmps18
   go_wp2_with (first | (refine wpList_box_named 27 rfl rfl _ rfl hw1'.out ?_))
   refine hh.out.mono ?_
   rintro e w2 ⟨rfl, hk⟩
   have hk' := h_ (hT1.out.trans hk)
   clear hk
   go_wp2_with fail
   go_ret
   exact ⟨rfl, hk'.out⟩

theorem risesB_keys {l : List (Int × Int)} (h : risesB l = true) : RisesK l := by
 simp only [risesB, Bool.and_eq_true, List.all_eq_true, List.mem_range] at h
 have hs : ∀ (i : Nat) (x y : Int × Int), l[i]? = some x → l[i + 1]? = some y → x.1 < y.1 := fun i x y hx hy => by
  have := h.1.1 (i + 1) (List.getElem?_eq_some_iff.1 hy).1
  simp only [entB, hy, Bool.and_eq_true, Bool.or_eq_true, decide_eq_true_eq] at this
  rcases this.2 with e | e
  ·simp at e
  ·rw [show i + 1 - 1 = i by omega, List.getD_eq_getElem?_getD, hx] at e; exact e
 clear h
 unfold RisesK
 induction l with
 | nil => exact List.Pairwise.nil
 | cons a l ih =>
  have ih' := ih (fun i x y hx hy => hs (i + 1) x y (by simpa using hx) (by simpa using hy))
  refine List.pairwise_cons.2 ⟨fun b hb => ?_, ih'⟩
  cases l with
  | nil => cases hb
  | cons c l =>
   have h1 : a.1 < c.1 := hs 0 a c rfl rfl
   rcases List.mem_cons.1 hb with rfl | hb
   ·exact h1
   ·have := (List.pairwise_cons.1 ih').1 b hb
    omega
structure InnerOk (n : NM) : Prop where
 ok : n.ok
 kind : n.kind = 2 ∨ n.kind = 3
 keys : RisesK n.ents
 pos : 1 ≤ n.ents.length
 le : n.ents.length ≤ 6
theorem innerOk_of {n : NM} (hok : n.ok) (hk : n.kind ≠ 1) : InnerOk n := by
 have h1 := hok.1
 unfold NM.rightB at h1
 rw [if_neg hk] at h1
 by_cases hk2 : n.kind = 2 ∨ n.kind = 3
 ·rw [if_pos hk2] at h1
  simp only [Bool.and_eq_true] at h1
  have h2 := h1.2
  have h3 := h2
  simp only [risesB, Bool.and_eq_true, decide_eq_true_eq] at h3
  exact ⟨hok, hk2, risesB_keys h2, h3.1.2, h3.2⟩
 ·rw [if_neg hk2] at h1; cases h1
theorem tnode_ok {w : World} {A : SA} {M : SM} (h : StoreAt w A M) {i : Int} {d : Nat} (h0 : (M.tnode i d).2 = 0) : InnerOk (M.tnode i d).1 ∧ d < 8 := by
 unfold SM.tnode at h0 ⊢
 by_cases hg : (M.get i).2 = 0
 ·simp only [hg, if_true] at h0 ⊢
  by_cases hb : (M.get i).1.kind = 1 ∨ 8 ≤ d
  ·rw [if_pos hb] at h0; cases h0
  ·rw [if_neg hb]
   refine ⟨innerOk_of ?_ (by omega), by omega⟩
   unfold SM.get at hg ⊢
   split at hg
   ·cases hn : M.nodeAt i.toNat with
    | none => rw [hn] at hg; cases hg
    | some n =>
     rename_i hh
     rw [if_pos hh]
     exact nodeAt_ok h hn
   ·cases hg
 ·simp only [hg, if_false] at h0

theorem atI_bound {l : List (Int × Int)} (key : Int) : -1 ≤ atI l key ∧ atI l key < l.length := by
 unfold atI
 have := List.length_filter_le (fun x : Int × Int => decide (x.1 ≤ key)) l
 omega



def listStep (f : Nat) (M : SM) (s : List (Int × Int) × Nat) (c : Int) : List (Int × Int) × Nat := if s.2 = 0 then (if (SM.listF f M c).2 = 0 then (s.1 ++ (SM.listF f M c).1, 0) else ([], (SM.listF f M c).2)) else s
theorem listF_succ (f : Nat) (M : SM) (root : Int) : SM.listF (f + 1) M root =
  if (M.tnode root (8 - f)).2 = 0 ∧ (M.tnode root (8 - f)).1.kind ≠ 2 then ((M.tnode root (8 - f)).1.ents.map (·.2)).foldl (listStep f M) ([], 0) else ((M.tnode root (8 - f)).1.ents, (M.tnode root (8 - f)).2) := rfl
theorem listStep_bad (f : Nat) (M : SM) (l : List Int) (s : List (Int × Int) × Nat) (h : s.2 ≠ 0) : l.foldl (listStep f M) s = s := by
 induction l with
 | nil => rfl
 | cons c l ih => rw [List.foldl_cons]; unfold listStep; rw [if_neg h]; exact ih
theorem tnode_err {M : SM} {i : Int} {d : Nat} (h : (M.tnode i d).2 ≠ 0) : (M.tnode i d).1.ents = [] := by
 unfold SM.tnode at h ⊢
 by_cases hg : (M.get i).2 = 0
 ·simp only [hg, if_true] at h ⊢
  split at h
  ·rename_i hb; rw [if_pos hb]; rfl
  ·exact absurd hg h
 ·simp only [hg, if_false]; rfl
theorem listF_len {w : World} {A : SA} {M : SM} (h : StoreAt w A M) : ∀ (f : Nat) (root : Int), (SM.listF f M root).1.length ≤ 6 ^ f
 | 0, _ => by simp [SM.listF]
 | f + 1, root => by
  rw [listF_succ]
  have h6 : 6 ^ (f + 1) = 6 * 6 ^ f := by rw [Nat.pow_succ]; omega
  have hp : 0 < 6 ^ f := Nat.pow_pos (by omega)
  by_cases h0 : (M.tnode root (8 - f)).2 = 0
  ·have hin := (tnode_ok h h0).1
   by_cases hk : (M.tnode root (8 - f)).1.kind ≠ 2
   ·rw [if_pos ⟨h0, hk⟩]
    have : ∀ (l : List Int) (s : List (Int × Int) × Nat), (l.foldl (listStep f M) s).1.length ≤ s.1.length + l.length * 6 ^ f := by
     intro l
     induction l with
     | nil => intro s; simp
     | cons c l ih =>
      intro s
      rw [List.foldl_cons]
      have h1 := ih (listStep f M s c)
      have h2 : (listStep f M s c).1.length ≤ s.1.length + 6 ^ f := by
       have := listF_len h f c
       unfold listStep
       split
       ·split
        ·rw [List.length_append]; omega
        ·simp
       ·omega
      rw [List.length_cons, Nat.add_mul]
      omega
    have h3 := this ((M.tnode root (8 - f)).1.ents.map (·.2)) ([], 0)
    have h4 := hin.le
    rw [List.length_map] at h3
    have h5 : (M.tnode root (8 - f)).1.ents.length * 6 ^ f ≤ 6 * 6 ^ f := Nat.mul_le_mul_right _ h4
    simp at h3
    omega
   ·rw [if_neg (fun e => hk e.2)]
    have := hin.le
    show (M.tnode root (8 - f)).1.ents.length ≤ _
    omega
  ·rw [if_neg (fun e => h0 e.1)]
   show (M.tnode root (8 - f)).1.ents.length ≤ _
   rw [tnode_err h0]; simp
theorem list_next {f : Nat} {M : SM} {l : List (Int × Int)} {k : Nat} {x : Int × Int} {out : List (Int × Int)} (hp : ((l.take k).map (·.2)).foldl (listStep f M) ([], 0) = (out, 0)) (hx : l[k]? = some x) :
  ((SM.listF f M x.2).2 = 0 → ((l.take (k + 1)).map (·.2)).foldl (listStep f M) ([], 0) = (out ++ (SM.listF f M x.2).1, 0)) ∧ ((SM.listF f M x.2).2 ≠ 0 → (l.map (·.2)).foldl (listStep f M) ([], 0) = ([], (SM.listF f M x.2).2)) := by
 have h1 : (l.take (k + 1)).map (·.2) = (l.take k).map (·.2) ++ [x.2] := by rw [List.take_add_one, hx]; simp
 have h2 : l.map (·.2) = (l.take k).map (·.2) ++ ([x.2] ++ (l.drop (k + 1)).map (·.2)) := by
  obtain ⟨hk, he⟩ := List.getElem?_eq_some_iff.1 hx
  conv => lhs; rw [← List.take_append_drop k l, List.drop_eq_getElem_cons hk, he]
  simp
 refine ⟨fun h => ?_, fun h => ?_⟩
 ·rw [h1, List.foldl_append, hp]
  simp [listStep, h]
 ·rw [h2, List.foldl_append, hp, List.foldl_append]
  have : [x.2].foldl (listStep f M) (out, 0) = ([], (SM.listF f M x.2).2) := by simp [listStep, h]
  rw [this]
  exact listStep_bad _ _ _ _ h

theorem listFold_len {w : World} {A : SA} {M : SM} (h : StoreAt w A M) (f : Nat) : ∀ (l : List Int) (s : List (Int × Int) × Nat), (l.foldl (listStep f M) s).1.length ≤ s.1.length + l.length * 6 ^ f := by
 intro l
 induction l with
 | nil => intro s; simp
 | cons c l ih =>
  intro s
  rw [List.foldl_cons]
  have h1 := ih (listStep f M s c)
  have h2 : (listStep f M s c).1.length ≤ s.1.length + 6 ^ f := by
   have := listF_len h f c
   unfold listStep
   split
   ·split
    ·rw [List.length_append]; omega
    ·simp
   ·omega
  rw [List.length_cons, Nat.add_mul]
  omega

set_option maxHeartbeats 4000000 in
theorem treeListF : ∀ (f : Nat), 0 < f → f ≤ 9 → ∀ {w : World} {A : SA} {M : SM} (root : Int), StoreAt w A M →
  Calls Try.prog 31 #[.agg #[.pointer (some ⟨A.sb, 0, none⟩)], .int .i64 root, .int .i64 ((9 - f : Nat) : Int)] w fun e w' => ∃ v, e = .returned (.tuple #[v, .int .i64 (SM.listF f M root).2]) ∧
   w'.ownsRow w.heap.size 58 2 v (SM.listF f M root).1.length (entCells (SM.listF f M root).1) ∧ Kept (fun _ => False) w w'
 | 0, h0, _, _, _, _, _, _ => by omega
 | f + 1, _, hf, w, A, M, root, h => by
  obtain ⟨w1, hw1⟩ : ∃ w1, w.alloc (.cells #[.pointer (some ⟨A.sb, 0, none⟩)] 27) = w1 := ⟨_, rfl⟩
  have k1 := h_ (show Kept (fun _ => False) w w1 by rw [← hw1]; exact (Kept.refl _ _).alloc _)
  have t1 := h_ (show w1.heap[w.heap.size]? = some (.cells #[.pointer (some ⟨A.sb, 0, none⟩)] 27 (0, 0)) by rw [← hw1]; exact heap_alloc_new _ _)
  have hw1' := h_ hw1
  obtain ⟨Z, hZ⟩ : ∃ Z, nodeCells NM.zero (.slice none 0 0) = Z := ⟨_, rfl⟩
  have hZz : Hid ((Try.prog.info? 71).map (·.zero) = some (some (.agg Z.toArray))) := h_ (by rw [← hZ]; exact node_zero)
  have hZl : Hid (Z.length = 18) := h_ (by rw [← hZ]; exact nodeCells_len _ _)
  have h' := h_ h
  obtain ⟨d, hd⟩ : ∃ d, 8 - f = d := ⟨_, rfl⟩
  have e1 : 9 - (f + 1) = d := by omega
  have hd8 : d ≤ 8 := by omega
  have hnd := treeNode (h.fresh k1.out) root d (by omega)
  have hok := h_ (fun h0 => tnode_ok h'.out (i := root) (d := d) h0)
  have her := h_ (tnode_err (M := M) (i := root) (d := d))
  have hL := h_ (show SM.listF (f + 1) M root = _ from hd ▸ listF_succ f M root)
  obtain ⟨R, hR⟩ : ∃ R, M.tnode root d = R := ⟨_, rfl⟩
  rw [hR] at hnd hok hL her
  obtain ⟨n, er⟩ := R
  dsimp only at hnd hok hL her
  have hnd' := h_ hnd
  have hload : Hid (∀ j v, [Value.pointer (some ⟨A.sb, 0, none⟩)][j]? = some v → w1.cell? ⟨w.heap.size, 0 + j, none⟩ = some v) := h_ (fun j v hj => by rw [Nat.zero_add, cell_of_heap t1.out]; simpa using hj)
  have ih := h_ (fun (W : World) (hW : StoreAt W A M) (hf0 : 0 < f) (i : Int) => treeListF f hf0 (by omega) i hW)
  have e2 : 0 < f → 9 - f = d + 1 := by omega
  rw [e1]
  clear hw1 hZ hR hnd h e1
  go_enter Try.func31, Try.ntmps31
  go_wp2_with (first | (refine wpList_box_named 27 rfl rfl _ rfl hw1'.out ?_) | (refine wpList_load_agg 27 rfl rfl rfl _ Try.underlying27 rfl [.pointer (some ⟨A.sb, 0, none⟩)] (by kernel_rfl) hload.out ?_))
  refine hnd'.out.mono ?_
  rintro e w3 ⟨v, rfl, hown, hk3⟩
  obtain ⟨Av, cap, rfl, hf1, hf2⟩ := EntsAt.form (show EntsAt w3 v n.ents from SliceAt.of_owns hown)
  unfold maxLen at hf2
  obtain ⟨F, hF⟩ : ∃ F, nodeCells n (.slice Av n.ents.length cap) = F := ⟨_, rfl⟩
  have hFl : Hid (F.length = 18) := h_ (by rw [← hF]; exact nodeCells_len _ _)
  have hF1 : Hid (∀ v ∈ F, v.oneCell' = true) := h_ (by rw [← hF]; exact nodeCells_one _ _ _ _)
  obtain ⟨w4, hw4⟩ : ∃ w4, (w3.alloc (.cells Z.toArray 71)).setRow w3.heap.size F.toArray = w4 := ⟨_, rfl⟩
  have k4 : Kept (fun _ => False) w3 w4 := by rw [← hw4]; exact ((Kept.refl _ _).alloc _).setRowNew (Nat.le_refl _) _
  have bx4 : NodeBox w4 w3.heap.size n (.slice Av n.ents.length cap) := ⟨by rw [hF, ← hw4]; exact setRow_heap _ _ _ _ _ _ (heap_alloc_new _ _)⟩
  have hown4 := h_ (ownsRow.keptOf hown k4 (fun _ _ => id))
  have hkr4 := h_ (hk3.trans k4)
  have t4 := h_ (hkr4.out.get t1.out id)
  have q4 := h_ (show w4.heap[w3.heap.size]? = some (.cells F.toArray 71 (0, 0)) by rw [← hF]; exact bx4.heap)
  rw [hF]
  have bx4' := h_ bx4
  have hw4' := h_ hw4
  have hks := hkr4.out.size
  have hk1s := k1.out.size
  clear hown hk3 k4 hw4 bx4
  by_cases h0 : er = 0
  ·subst h0
   obtain ⟨hin, hdd⟩ := hok.out rfl
   have hkd := h_ hin.kind
   have hlen6 := hin.le
   have c0 := bx4'.out.c0
   have c17 := bx4'.out.c17
   rcases hkd.out with hk2 | hk3
   ·have hend : Hid (SM.listF (f + 1) M root = (n.ents, 0)) := h_ (by rw [hL.out, if_neg (by simp [hk2])])
    rw [hk2] at c0
    clear hk2 hin hF
    go_wp2_with (first | (refine wpList_alloc_as 71 rfl rfl Z.toArray hZz.out ?_) | (refine wpList_store_whole 71 rfl rfl rfl F rfl (by rw [hFl.out]; exact node_size) 71 _ (heap_alloc_new _ _) (by simp [hFl.out, hZl.out]) hF1.out ?_; rw [hw4'.out]))
    go_ret2
    exact ⟨_, by rw [hend.out]; rfl, by rw [hend.out]; exact owns_weaken hown4.out hk1s, k1.out.trans hkr4.out⟩
   ·have hfold : Hid (SM.listF (f + 1) M root = (n.ents.map (·.2)).foldl (listStep f M) ([], 0)) := h_ (by rw [hL.out, if_pos ⟨rfl, by omega⟩])
    have hf0 : 0 < f := by omega
    have hC := children_any (n := n) (SliceAt.of_owns hown4.out) (by omega)
    rw [hF] at hC
    have hC' := h_ hC
    rw [hk3] at c0
    have e3 := e2 hf0
    clear hk3 hin hF hC e2
    go_wp2_with (first | (refine wpList_alloc_as 71 rfl rfl Z.toArray hZz.out ?_) | (refine wpList_store_whole 71 rfl rfl rfl F rfl (by rw [hFl.out]; exact node_size) 71 _ (heap_alloc_new _ _) (by simp [hFl.out, hZl.out]) hF1.out ?_; rw [hw4'.out]) | (refine wpList_load_agg 71 rfl rfl rfl _ Try.underlying71 rfl F (by rw [hFl.out]; exact node_size) (fun j v hv => by rw [cell_of_heap q4.out, Nat.zero_add]; simpa using hv) ?_))
    refine hC'.out.mono ?_
    rintro e w7 ⟨u7, rfl, hown7, hk7⟩
    obtain ⟨A7, cap7, rfl, hd1, hd2, hcell7⟩ := (SliceAt.of_owns hown7).cells1
    unfold maxLen at hd2
    have hcell7' := h_ hcell7
    have hk47 := h_ (hkr4.out.trans hk7)
    clear hk7 hown7 hcell7 hC'
    go_wp2_with fail
    go_loopw [10, 35] (fun v x wr => ∃ (k : Nat) (out : List (Int × Int)), k ≤ n.ents.length ∧ x = .int .i64 k ∧ Hid (((n.ents.take k).map (·.2)).foldl (listStep f M) ([], 0) = (out, 0)) ∧ Hid (wr.ownsRow w7.heap.size 58 2 v out.length (entCells out)) ∧ Hid (Kept (fun _ => False) w7 wr)) (fun _ x _ => n.ents.length - (intOf x).toNat)
    case atStart => exact ⟨0, [], Nat.zero_le _, rfl, h_ rfl, h_ (World.ownsRow_nil _ _ _ _), h_ (Kept.refl _ _)⟩
    case round =>
     obtain ⟨k, out, hk, rfl, hq, hor, hkr⟩ := hrel
     obtain ⟨Ao, capo, rfl, ho1, ho2⟩ := EntsAt.form (show EntsAt wr _ out from SliceAt.of_owns hor.out)
     unfold maxLen at ho2
     by_cases hlt2 : k < n.ents.length
     ·obtain ⟨x, hx⟩ : ∃ x, n.ents[k]? = some x := ⟨_, List.getElem?_eq_getElem hlt2⟩
      obtain ⟨b7, off7, rfl, hcb⟩ := hcell7'.out k (.int .i64 x.2) (by simp [pageCellsOf, hx])
      have hcb' := hkr.out.cell hcb id
      have hn1 := h_ (list_next hq.out hx)
      have hkw := h_ (k1.out.trans (hk47.out.trans hkr.out))
      have ct := cell_of_heap ((hk47.out.trans hkr.out).get t1.out id) 0
      simp at ct
      have hloadr : Hid (∀ j v, [Value.pointer (some ⟨A.sb, 0, none⟩)][j]? = some v → wr.cell? ⟨w.heap.size, 0 + j, none⟩ = some v) := h_ (fun j v hj => by rw [Nat.zero_add, cell_of_heap ((hk47.out.trans hkr.out).get t1.out id)]; simpa using hj)
      have hh := ih.out wr (h'.out.fresh hkw.out) hf0 x.2
      rw [e3, Int.natCast_add, Int.natCast_one] at hh
      have hh' := h_ hh
      have hlenx := listF_len h'.out f x.2
      have hleno := listFold_len h'.out f ((n.ents.take k).map (·.2)) ([], 0)
      rw [hq.out, List.length_map, List.length_take] at hleno
      have hpow : 6 ^ f ≤ 6 ^ 8 := Nat.pow_le_pow_right (by omega) (by omega)
      have hmul : min k n.ents.length * 6 ^ f ≤ 6 * 6 ^ 8 := Nat.mul_le_mul (by omega) hpow
      obtain ⟨R, hR⟩ : ∃ R, SM.listF f M x.2 = R := ⟨_, rfl⟩
      rw [hR] at hh' hn1 hlenx
      obtain ⟨out2, er⟩ := R
      dsimp only at hh' hn1 hlenx
      simp only [List.length_nil, Nat.zero_add] at hleno
      have hsum : out.length + out2.length ≤ 100000000 := by
       have : (6 : Nat) ^ 8 = 1679616 := by decide
       omega
      clear hcb hx hR hh hleno hlenx hmul hpow
      go_wp2_with (first | (refine wpList_load_agg 27 rfl rfl rfl _ Try.underlying27 rfl [.pointer (some ⟨A.sb, 0, none⟩)] (by kernel_rfl) hloadr.out ?_))
      refine hh'.out.mono ?_
      rintro e w8 ⟨v8, rfl, hown8, hk8⟩
      obtain ⟨A8, cap8, rfl, hp1, hp2⟩ := EntsAt.form (show EntsAt w8 v8 out2 from SliceAt.of_owns hown8)
      unfold maxLen at hp2
      have hor8 := h_ (ownsRow.keptOf hor.out hk8 (fun _ _ => id))
      have hown8' := h_ hown8
      have hk8' := h_ (hkr.out.trans hk8)
      have hs8 := (hkr.out.trans hk8).size
      clear hown8 hk8
      by_cases h0 : er = 0
      ·subst h0
       have hst := h_ (hn1.out.1 rfl)
       have hone : Hid (∀ c ∈ entCells out2, c.oneCell' = true) := h_ (entCells_one _)
       have hsl := h_ (SliceAt.of_owns hown8'.out)
       go_wp2_with (at_builtin; refine wpList_append_src rfl elemEntry (.tmp 50) (.tmp 51) rfl (by rfl) (by rfl) hor8.out hsl.out hone.out (by omega) (by omega) hs8 ?_; intro v2 w2 hown2 hg2 hat2)
       have hk2 := h_ (hk8'.out.grown hg2 (fun k e => .inr (hor8.out.lt k e).1))
       have hown2' := h_ hown2
       clear hown2 hg2 hat2
       go_roundw
       case rel => exact ⟨k + 1, _, by omega, by go_num, hst, h_ (by rw [List.length_append, entCells_append]; exact hown2'.out), hk2⟩
       case measure => simp [intOf]; omega
      ·have h0' : ((er : Int) == 0) = false := by simp; omega
       have hend : Hid (SM.listF (f + 1) M root = ([], er)) := h_ (hfold.out.trans (hn1.out.2 h0))
       clear h0
       go_wp2_with fail
       go_ret2
       exact ⟨_, by rw [hend.out]; rfl, by rw [hend.out]; exact World.ownsRow_nil _ _ _ _, k1.out.trans (hk47.out.trans hk8'.out)⟩
     ·obtain rfl : k = n.ents.length := by omega
      have hend : Hid (SM.listF (f + 1) M root = (out, 0)) := h_ (by have := hq.out; rw [List.take_length] at this; exact hfold.out.trans this)
      go_wp2_with fail
      go_ret2
      exact ⟨_, by rw [hend.out]; rfl, by rw [hend.out]; exact owns_weaken hor.out (k1.out.trans hk47.out).size, k1.out.trans (hk47.out.trans hkr.out)⟩
  ·have hnil := her.out h0
   have hend : Hid (SM.listF (f + 1) M root = (n.ents, er)) := h_ (by rw [hL.out, if_neg (fun e => h0 e.1)])
   have h0' : ((er : Int) == 0) = false := by simp; omega
   have c17 := bx4'.out.c17
   clear hnil hF
   go_wp2_with (first | (refine wpList_alloc_as 71 rfl rfl Z.toArray hZz.out ?_) | (refine wpList_store_whole 71 rfl rfl rfl F rfl (by rw [hFl.out]; exact node_size) 71 _ (heap_alloc_new _ _) (by simp [hFl.out, hZl.out]) hF1.out ?_; rw [hw4'.out]))
   go_ret2
   exact ⟨_, by rw [hend.out]; rfl, by rw [hend.out]; exact owns_weaken hown4.out hk1s, k1.out.trans hkr4.out⟩

theorem treeList {w : World} {A : SA} {M : SM} (h : StoreAt w A M) (root : Int) :
  Calls Try.prog 16 #[.agg #[.pointer (some ⟨A.sb, 0, none⟩)], .int .i64 root] w fun e w' => ∃ v, e = .returned (.tuple #[v, .int .i64 (M.list root).2]) ∧
   w'.ownsRow w.heap.size 58 2 v (M.list root).1.length (entCells (M.list root).1) ∧ Kept (fun _ => False) w w' := by
 obtain ⟨w1, hw1⟩ : ∃ w1, w.alloc (.cells #[.pointer (some ⟨A.sb, 0, none⟩)] 27) = w1 := ⟨_, rfl⟩
 have k1 := h_ (show Kept (fun _ => False) w w1 by rw [← hw1]; exact (Kept.refl _ _).alloc _)
 have t1 := h_ (show w1.heap[w.heap.size]? = some (.cells #[.pointer (some ⟨A.sb, 0, none⟩)] 27 (0, 0)) by rw [← hw1]; exact heap_alloc_new _ _)
 have hw1' := h_ hw1
 have hload : Hid (∀ j v, [Value.pointer (some ⟨A.sb, 0, none⟩)][j]? = some v → w1.cell? ⟨w.heap.size, 0 + j, none⟩ = some v) := h_ (fun j v hj => by rw [Nat.zero_add, cell_of_heap t1.out]; simpa using hj)
 have hl := h_ (treeListF 9 (by omega) (by omega) root (h.fresh k1.out))
 clear hw1 h
 by_cases hr : root = -1
 ·subst hr
  have hend : Hid (M.list (-1) = ([], 0)) := h_ (by unfold SM.list; rw [if_pos rfl])
  go_enter Try.func16, Try.ntmps16
  go_wp2_with (first | (refine wpList_box_named 27 rfl rfl _ rfl hw1'.out ?_))
  go_ret2
  exact ⟨_, by rw [hend.out]; rfl, by rw [hend.out]; exact World.ownsRow_nil _ _ _ _, k1.out⟩
 ·have hend : Hid (M.list root = SM.listF 9 M root) := h_ (by unfold SM.list; rw [if_neg hr])
  have hrb : (root == -1) = false := by simpa using hr
  clear hr
  go_enter Try.func16, Try.ntmps16
  go_wp2_with (first | (refine wpList_box_named 27 rfl rfl _ rfl hw1'.out ?_) | (refine wpList_load_agg 27 rfl rfl rfl _ Try.underlying27 rfl [.pointer (some ⟨A.sb, 0, none⟩)] (by kernel_rfl) hload.out ?_))
  refine hl.out.mono ?_
  rintro e w3 ⟨v, rfl, hown, hk3⟩
  obtain ⟨Av, cap, rfl, _, _⟩ := EntsAt.form (show EntsAt w3 v _ from SliceAt.of_owns hown)
  have hown' := h_ (owns_weaken hown k1.out.size)
  have hk3' := h_ (k1.out.trans hk3)
  clear hown hk3
  go_wp2_with fail
  go_ret2
  exact ⟨_, by rw [hend.out]; rfl, by rw [hend.out]; exact hown'.out, hk3'.out⟩

theorem makes_bound (kind : Int) : ∀ (ps : List (List (Int × Int))) (M : SM) (out : List (Int × Int)), (SM.makes kind ps M out).1.log.length ≤ M.log.length + ps.length ∧ (SM.makes kind ps M out).2.1.length ≤ out.length + ps.length
 | [], M, out => ⟨Nat.le_refl _, Nat.le_refl _⟩
 | p :: ps, M, out => by
  rw [makes_cons]
  have hm := make_log M ⟨kind, zeros16, p⟩
  split
  ·have := makes_bound kind ps (M.make ⟨kind, zeros16, p⟩).1 (out ++ [((p.getD 0 (0, 0)).1, (M.make ⟨kind, zeros16, p⟩).2.1)])
   rw [List.length_append] at this
   simp only [List.length_cons, List.length_nil] at *
   omega
  ·simp only [List.length_cons, List.length_nil]
   omega
theorem split_bound (M : SM) (n : NM) : (M.split n).1.log.length ≤ M.log.length + 2 ∧ (M.split n).2.1.length ≤ 2 := by
 unfold SM.split
 split
 ·simp
 ·have h1 := makes_bound n.kind (partsOf n.ents) M []
  have h2 : (partsOf n.ents).length ≤ 2 := by unfold partsOf; split <;> (try split) <;> simp
  simp only [List.length_nil] at h1
  omega
theorem top_bound (M : SM) (n : NM) : (M.top n).1.log.length ≤ M.log.length + 4 := by
 unfold SM.top
 have h1 := split_bound M n
 have h2 := split_bound (M.split n).1 ⟨3, List.replicate 16 0, (M.split n).2.1⟩
 dsimp only
 split
 ·split
  ·split <;> (dsimp only; omega)
  ·dsimp only; omega
 ·dsimp only; omega
structure Closed (Q : SM → Prop) : Prop where
 take : ∀ (M : SM) (i : Nat) (n : NM), M.pool.takeIx = some i → Q M → Q ⟨M.pool.setSt i 1, M.log ++ [(i, n)]⟩
 hold : ∀ (M : SM) (i : Int), Q M → Q ⟨M.pool.holdTo i, M.log⟩
 drop : ∀ (M : SM) (i : Int), M.pool.heldB i = true → Q M → Q ⟨M.pool.dropTo i.toNat, M.log⟩
theorem Closed.holds {Q : SM → Prop} (C : Closed Q) : ∀ (cs : List Int) (p : PM) (L : List (Nat × NM)), Q ⟨p, L⟩ → Q ⟨(Go.Proofs.Ytdcnogjbmdhgaaa.holds p cs).1, L⟩
 | [], _, _, h => h
 | c :: cs, p, L, h => by
  unfold Go.Proofs.Ytdcnogjbmdhgaaa.holds
  split
  ·exact Closed.holds C cs _ _ (C.hold ⟨p, L⟩ c h)
  ·exact h
theorem Closed.make {Q : SM → Prop} (C : Closed Q) {M : SM} (n : NM) (h : Q M) : Q (M.make n).1 := by
 unfold SM.make
 split
 ·split
  ·exact h
  ·split
   ·exact h
   ·rename_i i hi
    exact C.holds _ _ _ (C.take M i n hi h)
 ·exact h
theorem Closed.makes {Q : SM → Prop} (C : Closed Q) (kind : Int) : ∀ (ps : List (List (Int × Int))) (M : SM) (out : List (Int × Int)), Q M → Q (SM.makes kind ps M out).1
 | [], _, _, h => h
 | p :: ps, M, out, h => by
  unfold SM.makes
  dsimp only
  split
  ·exact Closed.makes C kind ps _ _ (C.make _ h)
  ·exact C.make _ h
theorem Closed.split {Q : SM → Prop} (C : Closed Q) {M : SM} (n : NM) (h : Q M) : Q (M.split n).1 := by
 unfold SM.split
 split
 ·exact h
 ·exact C.makes _ _ _ _ h
theorem Closed.putF {Q : SM → Prop} (C : Closed Q) : ∀ (f : Nat) (M : SM) (r : Int) (x : Int × Int), Q M → Q (SM.putF f M r x).1
 | 0, _, _, _, h => h
 | f + 1, M, r, x, h => by
  unfold SM.putF
  dsimp only
  split
  ·split
   ·split
    ·split
     ·exact C.split _ (Closed.putF C f _ _ _ h)
     ·exact C.split _ (Closed.putF C f _ _ _ h)
    ·exact Closed.putF C f _ _ _ h
   ·split <;> exact h
  ·exact h
theorem Closed.top {Q : SM → Prop} (C : Closed Q) {M : SM} (n : NM) (h : Q M) : Q (M.top n).1 := by
 unfold SM.top
 dsimp only
 split
 ·split
  ·split <;> exact C.split _ (C.split _ h)
  ·exact C.split _ h
 ·exact C.split _ h
theorem Closed.put {Q : SM → Prop} (C : Closed Q) {M : SM} (r k p : Int) (h : Q M) : Q (M.put r k p).1 := by
 unfold SM.put
 dsimp only
 split
 ·exact h
 ·split
  ·exact C.top _ h
  ·split
   ·exact C.top _ (C.putF _ _ _ _ h)
   ·exact C.putF _ _ _ _ h
theorem Closed.dropF {Q : SM → Prop} (C : Closed Q) : ∀ (f : Nat) (M : SM) (i : Int), Q M → Q (SM.dropF f M i).1
 | 0, _, _, h => h
 | f + 1, M, i, h => by
  rw [dropF_succ]
  split
  ·rename_i hh
   have h1 := C.drop M i hh h
   split
   ·split
    ·exact h1
    ·rename_i n _
     have : ∀ (l : List Int) (s : SM × Nat), Q s.1 → Q (dropAllF f s l).1 := by
      intro l
      induction l with
      | nil => intro s hs; exact hs
      | cons c l ih =>
       intro s hs
       unfold dropAllF
       rw [List.foldl_cons]
       split
       ·exact ih _ (Closed.dropF C f _ _ hs)
       ·exact ih _ hs
     exact this _ _ h1
   ·exact h1
  ·exact h
theorem Closed.swap {Q : SM → Prop} (C : Closed Q) {M : SM} (a b : Int) (h : Q M) : Q (M.swap a b).1 := by
 unfold SM.swap
 dsimp only
 have h1 : Q (if b = -1 then (M, 0) else M.hold b).1 := by
  split
  ·exact h
  ·exact C.hold M b h
 obtain ⟨R, hR⟩ : ∃ R, (if b = -1 then (M, 0) else M.hold b) = R := ⟨_, rfl⟩
 rw [hR] at h1 ⊢
 split
 ·split
  ·exact h1
  ·exact C.dropF _ _ _ h1
 ·exact h1

theorem sumN_zero {f : Nat → Nat} : ∀ {n}, (∀ i, i < n → f i = 0) → sumN f n = 0
 | 0, _ => rfl
 | n + 1, h => by unfold sumN; rw [sumN_zero (fun i hi => h i (by omega)), h n (by omega)]
theorem freeN_sum (p : PM) : ∀ n, p.freeN n = sumN (fun i => if p.freeB i then 1 else 0) n
 | 0 => rfl
 | n + 1 => by unfold PM.freeN sumN; rw [freeN_sum p n]
theorem takeIx_free {p : PM} {i : Nat} (h : p.takeIx = some i) : i < p.size ∧ p.freeB i = true := ⟨(PM.takeN_some h).1, (PM.takeN_some h).2.1⟩
theorem free_zero {p : PM} (h : p.takeIx = none) : p.freeCount = 0 := by
 unfold PM.freeCount
 rw [freeN_sum]
 exact sumN_zero fun i hi => by rw [PM.takeN_none h i hi]; rfl
theorem free_not_live {p : PM} {i : Nat} (h : p.freeB i = true) : p.live i = false := by
 simp only [PM.freeB, Bool.and_eq_true, beq_iff_eq] at h
 simp [PM.live, h.1, h.2]

structure Held (p : PM) (cs : List Int) (p' : PM) : Prop where
 size : p'.size = p.size
 st : p'.st = p.st
 cnt : ∀ j, p'.cnt j = p.cnt j + cs.countP fun c => c == (j : Int)
theorem Held.live {p p' : PM} {cs : List Int} (h : Held p cs p') (hl : ∀ c ∈ cs, p.heldB c = true) (q : Nat) : p'.live q = p.live q := by
 unfold PM.live
 rw [h.size, h.st, h.cnt q]
 by_cases hz : cs.countP (fun c => c == (q : Int)) = 0
 ·rw [hz, Nat.add_zero]
 ·obtain ⟨c, hc, he⟩ := List.countP_pos_iff.1 (Nat.pos_of_ne_zero hz)
  have hq := hl c hc
  rw [show c = (q : Int) by simpa using he, heldB_nat] at hq
  unfold PM.live at hq
  rw [hq]
  simp only [Bool.and_eq_true, decide_eq_true_eq] at hq
  simp [hq.1]; omega
theorem holds_split (p : PM) : ∀ (cs : List Int), (∀ c ∈ cs, p.heldB c = true) → (∀ j, p.cnt j ≤ 255) →
  ((holds p cs).2 = 0 ∧ Held p cs (holds p cs).1 ∧ ∀ j, (holds p cs).1.cnt j ≤ 255) ∨ ((holds p cs).2 = 72 ∧ ∃ c ∈ cs, 255 < p.cnt c.toNat + cs.length) := by
 intro cs
 induction cs generalizing p with
 | nil => intro _ hb; exact .inl ⟨rfl, ⟨rfl, rfl, fun j => by simp [holds]⟩, hb⟩
 | cons c cs ih =>
  intro hl hb
  have hc := hl c (List.mem_cons_self ..)
  obtain ⟨h0, hcl⟩ := heldB_int hc
  obtain ⟨k, rfl⟩ := Int.eq_ofNat_of_zero_le h0
  simp only [Int.toNat_natCast] at hcl
  unfold holds
  by_cases hlt : p.cnt k < 255
  ·have he : p.holdErr (k : Int) = 0 := by simp [PM.holdErr, hc, hlt]
   have ht : p.holdTo (k : Int) = p.setCnt k (p.cnt k + 1) := by simp [PM.holdTo, hc, hlt]
   rw [if_pos he, ht]
   have hone : Held p [(k : Int)] (p.setCnt k (p.cnt k + 1)) := ⟨rfl, rfl, fun j => by
    unfold PM.setCnt
    by_cases hj : j = k
    ·subst hj; simp
    ·simp [hj]; omega⟩
   have hlv := hone.live (fun x hx => by rw [List.mem_singleton.1 hx]; exact hc)
   rcases ih (p.setCnt k (p.cnt k + 1)) (fun x hx => by
     have := hl x (List.mem_cons_of_mem _ hx)
     obtain ⟨h0, _⟩ := heldB_int this
     obtain ⟨m, rfl⟩ := Int.eq_ofNat_of_zero_le h0
     rw [heldB_nat] at this ⊢
     rw [hlv]; exact this) (fun j => by unfold PM.setCnt; dsimp only; split; omega; exact hb j) with ⟨e, H, hb'⟩ | ⟨e, d, hd, hs⟩
   ·refine .inl ⟨e, ⟨H.size, H.st, fun j => ?_⟩, hb'⟩
    rw [H.cnt, hone.cnt, List.countP_cons, List.countP_cons, List.countP_nil]
    omega
   ·refine .inr ⟨e, d, List.mem_cons_of_mem _ hd, ?_⟩
    have : (p.setCnt k (p.cnt k + 1)).cnt d.toNat ≤ p.cnt d.toNat + 1 := by unfold PM.setCnt; dsimp only; split; (rename_i e; rw [e]; omega); omega
    rw [List.length_cons]
    omega
  ·have he : p.holdErr (k : Int) = 72 := by simp [PM.holdErr, hc, hlt]
   rw [if_neg (by rw [he]; decide), he]
   refine .inr ⟨rfl, (k : Int), List.mem_cons_self .., ?_⟩
   have := hb k
   simp only [Int.toNat_natCast, List.length_cons]
   omega

def SM.sum (M : SM) : Nat := sumN (fun q => if M.live q then (M.ents q).length else 0) M.pool.size
theorem occ_le (l : List (Int × Int)) (p : Nat) : occ l p ≤ l.length := List.countP_le_length
theorem SM.refs_le (M : SM) (p : Nat) : M.refs p ≤ M.sum := by
 unfold SM.refs SM.sum
 refine sumN_le fun q _ => ?_
 split
 ·exact occ_le _ _
 ·exact Nat.le_refl _
theorem Exact.cnt_le {M : SM} {ext : Nat → Nat} (h : Exact M ext) {p : Nat} (hp : M.live p = true) : M.pool.cnt p ≤ M.sum + ext p := by
 have := h.cnt p (live_lt hp)
 have := M.refs_le p
 omega

structure Grown (M M' : SM) : Prop where
 size : M'.pool.size = M.pool.size
 live : ∀ q, M.live q = true → M'.live q = true
 node : ∀ q, M.live q = true → M'.nodeAt q = M.nodeAt q
theorem Grown.refl (M : SM) : Grown M M := ⟨rfl, fun _ h => h, fun _ _ => rfl⟩
theorem Grown.trans {A B C : SM} (h : Grown A B) (k : Grown B C) : Grown A C := ⟨k.size.trans h.size, fun q hq => k.live q (h.live q hq), fun q hq => (k.node q (h.live q hq)).trans (h.node q hq)⟩
theorem Grown.held {M M' : SM} (h : Grown M M') {i : Int} (hi : M.pool.heldB i = true) : M'.pool.heldB i = true := by
 obtain ⟨h0, h1⟩ := heldB_int hi
 obtain ⟨n, rfl⟩ := Int.eq_ofNat_of_zero_le h0
 rw [heldB_nat]
 exact h.live n h1

theorem Grown.refs {M M' : SM} (h : Grown M M') (c : Nat) : M'.refs c + M.sum ≤ M.refs c + M'.sum := by
 unfold SM.refs SM.sum
 rw [h.size, ← sumN_add, ← sumN_add]
 refine sumN_le fun q _ => ?_
 cases hq : M.live q with
 | false =>
  have := occ_le (M'.ents q) c
  simp only [Bool.false_eq_true, if_false]
  split <;> omega
 | true =>
  have e : M'.ents q = M.ents q := by unfold SM.ents; rw [h.node q hq]
  rw [h.live q hq, e]
  simp
def Loose (M : SM) (E : List (Int × Int)) : Prop := ∀ q, M.live q = true → M.pool.cnt q = 0 → ∃ x ∈ E, x.2 = (q : Int)

structure Made (M : SM) (n : NM) (ext : Nat → Nat) (M' : SM) (i : Nat) : Prop where
 exact : Exact M' ext
 grown : Grown M M'
 new : M.live i = false
 live : M'.live i = true
 node : M'.nodeAt i = some n
 free : M.pool.freeCount = M'.pool.freeCount + 1
 sum : M'.sum = M.sum + n.ents.length
 cnt : ∀ q, M'.pool.cnt q = M.pool.cnt q + occ n.ents q
 only : ∀ q, M'.live q = true → q = i ∨ M.live q = true

theorem make_ok {M : SM} {ext : Nat → Nat} (h : Exact M ext) {n : NM} (hn : n.ok) (hk : ∀ x ∈ n.ents, M.pool.heldB x.2 = true) :
  (∃ i : Nat, (M.make n).2 = ((i : Int), 0) ∧ Made M n ext (M.make n).1 i) ∨ ((M.make n).2 = (-1, 71) ∧ M.pool.freeCount = 0) ∨ ((M.make n).2 = (-1, 72) ∧ ∃ c, 255 < M.refs c + n.ents.length + ext c) := by
 unfold SM.make
 rw [if_pos hn.1]
 have hany : ¬ (n.ents.any (fun x => !M.pool.heldB x.2) = true) := by
  rw [List.any_eq_true]
  rintro ⟨x, hx, hb⟩
  rw [hk x hx] at hb
  cases hb
 rw [if_neg hany]
 cases hti : M.pool.takeIx with
 | none => exact .inr (.inl ⟨rfl, free_zero hti⟩)
 | some i =>
  dsimp only
  obtain ⟨hil, hif⟩ := takeIx_free hti
  have hnl := free_not_live hif
  have hif' := hif
  simp only [PM.freeB, Bool.and_eq_true, beq_iff_eq] at hif'
  have hs1 : (M.pool.setSt i 1).size = M.pool.size := rfl
  have hc1 : (M.pool.setSt i 1).cnt = M.pool.cnt := rfl
  have hl1 : ∀ q, (M.pool.setSt i 1).live q = (M.pool.live q || decide (q = i)) := by
   intro q
   unfold PM.live PM.setSt
   dsimp only
   by_cases hq : q = i
   ·subst hq; simp [hil]
   ·simp [hq]
  have hk1 : ∀ c ∈ n.ents.map (·.2), (M.pool.setSt i 1).heldB c = true := by
   intro c hc
   obtain ⟨x, hx, rfl⟩ := List.mem_map.1 hc
   have := hk x hx
   obtain ⟨h0, h2⟩ := heldB_int this
   obtain ⟨m, hm⟩ := Int.eq_ofNat_of_zero_le h0
   rw [hm] at h2 ⊢
   rw [heldB_nat, hl1]
   simp only [Int.toNat_natCast] at h2
   rw [h2]; rfl
  rcases holds_split (M.pool.setSt i 1) (n.ents.map (·.2)) hk1 (fun j => by rw [hc1]; exact h.cntLe j) with ⟨he, H, hb⟩ | ⟨he, c, hc, hs⟩
  ·refine .inl ⟨i, by rw [he]; rfl, ?_⟩
   obtain ⟨p', hp'⟩ : ∃ p', (holds (M.pool.setSt i 1) (n.ents.map (·.2))).1 = p' := ⟨_, rfl⟩
   rw [hp'] at H hb ⊢
   have hlive : ∀ q, SM.live ⟨p', M.log ++ [(i, n)]⟩ q = (M.live q || decide (q = i)) := fun q => by
    show p'.live q = _
    rw [H.live hk1, hl1]; rfl
   have hnode : ∀ q, SM.nodeAt ⟨p', M.log ++ [(i, n)]⟩ q = if i = q then some n else M.nodeAt q := fun q => logAt_put _ _ _ _
   have hents : ∀ q, SM.ents ⟨p', M.log ++ [(i, n)]⟩ q = if i = q then n.ents else M.ents q := fun q => by
    unfold SM.ents
    rw [hnode]
    by_cases e : i = q
    ·rw [if_pos e, if_pos e]
    ·rw [if_neg e, if_neg e]
   have hcnt : ∀ q, p'.cnt q = M.pool.cnt q + occ n.ents q := fun q => by
    rw [H.cnt, hc1]
    unfold occ
    rw [List.countP_map]
    rfl
   have hfun : ∀ (g : List (Int × Int) → Nat), sumN (fun q => if SM.live ⟨p', M.log ++ [(i, n)]⟩ q then g (SM.ents ⟨p', M.log ++ [(i, n)]⟩ q) else 0) M.pool.size = sumN (fun q => if M.live q then g (M.ents q) else 0) M.pool.size + g n.ents := fun g => by
    have := sumN_set (f := fun q => if M.live q then g (M.ents q) else 0) (g := fun q => if SM.live ⟨p', M.log ++ [(i, n)]⟩ q then g (SM.ents ⟨p', M.log ++ [(i, n)]⟩ q) else 0) hil
     (fun j _ hj => by have hj' : ¬ i = j := fun e => hj e.symm; rw [hlive, hents]; simp [hj, hj'])
    rw [hlive, hents] at this
    simp only [decide_true, Bool.or_true, if_true, show M.live i = false from hnl] at this
    simpa using this
   have hsz : p'.size = M.pool.size := H.size
   have hrefs : ∀ q, SM.refs ⟨p', M.log ++ [(i, n)]⟩ q = M.refs q + occ n.ents q := fun q => by
    unfold SM.refs
    show sumN _ p'.size = _
    rw [hsz]
    exact hfun fun l => occ l q
   have hkl : ∀ x ∈ n.ents, M.live x.2.toNat = true := fun x hx => (heldB_int (hk x hx)).2
   refine ⟨⟨by show p'.size ≤ 240; rw [hsz]; exact h.size, hb, fun q hq => ?_, fun q hq => ?_, fun q hq x hx => ?_, ?_⟩, ⟨hsz, fun q hq => ?_, fun q hq => ?_⟩, hnl, ?_, ?_, ?_, ?_, hcnt, fun q hq => ?_⟩
   ·show p'.cnt q = _
    rw [hcnt, hrefs]
    have hq' : q < M.pool.size := by rw [← hsz]; exact hq
    have := h.cnt q hq'
    omega
   ·rw [hlive] at hq
    rw [hnode]
    by_cases e : i = q
    ·rw [if_pos e]; exact ⟨n, rfl, hn⟩
    ·rw [if_neg e]
     have e' : ¬ q = i := fun z => e z.symm
     simp [e'] at hq
     exact h.node q hq
   ·rw [hlive] at hq ⊢
    rw [hents] at hx
    by_cases e : i = q
    ·rw [if_pos e] at hx
     rw [hkl x hx]; rfl
    ·rw [if_neg e] at hx
     have e' : ¬ q = i := fun z => e z.symm
     simp [e'] at hq
     rw [h.kids q hq x hx]; rfl
   ·obtain ⟨r, hr⟩ := h.rank
    refine ⟨fun q => if q = i then sumN r M.pool.size + 1 else r q, fun q hq x hx => ?_⟩
    rw [hlive] at hq
    rw [hents] at hx
    have hne : ∀ y, M.live y = true → y ≠ i := fun y hy e => by rw [e] at hy; rw [show M.live i = false from hnl] at hy; cases hy
    by_cases e : i = q
    ·rw [if_pos e] at hx
     have h1 := hkl x hx
     simp only [if_neg (hne _ h1), if_pos e.symm]
     exact Nat.lt_succ_of_le (sumN_get (f := r) (live_lt h1))
    ·rw [if_neg e] at hx
     have e' : ¬ q = i := fun z => e z.symm
     simp [e'] at hq
     simp only [if_neg (hne _ (h.kids q hq x hx)), if_neg e']
     exact hr q hq x hx
   ·rw [hlive, hq]; rfl
   ·rw [hnode, if_neg (fun e => by rw [← e, show M.live i = false from hnl] at hq; cases hq)]
   ·rw [hlive]; simp
   ·rw [hnode, if_pos rfl]
   ·show M.pool.freeN M.pool.size = p'.freeN p'.size + 1
    rw [hsz, freeN_sum, freeN_sum]
    have hfr : ∀ q, M.live q = true → occ n.ents q = 0 ∨ True := fun _ _ => .inr trivial
    have := sumN_set (f := fun q => if M.pool.freeB q then 1 else 0) (g := fun q => if p'.freeB q then 1 else 0) hil
     (fun j hj hji => by
      have : p'.freeB j = M.pool.freeB j := by
       unfold PM.freeB
       rw [hcnt, H.st]
       have hst : (M.pool.setSt i 1).st j = M.pool.st j := by unfold PM.setSt; simp [hji]
       rw [hst]
       by_cases ho : occ n.ents j = 0
       ·rw [ho, Nat.add_zero]
       ·unfold occ at ho
        obtain ⟨x, hx, he⟩ := List.countP_pos_iff.1 (Nat.pos_of_ne_zero ho)
        have hlx := hkl x hx
        rw [show x.2 = (j : Int) by simpa using he, Int.toNat_natCast] at hlx
        simp only [SM.live, PM.live, Bool.and_eq_true, decide_eq_true_eq, Bool.or_eq_true, beq_iff_eq] at hlx
        rw [Bool.eq_iff_iff]
        simp only [Bool.and_eq_true, beq_iff_eq]
        constructor <;> intro hz <;> omega
      rw [this])
    rw [hif] at this
    have hnf : p'.freeB i = false := by
     unfold PM.freeB
     rw [H.st]
     simp [PM.setSt]
    rw [hnf] at this
    simp at this
    omega
   ·unfold SM.sum
    show sumN _ p'.size = _
    rw [hsz]
    exact hfun List.length
   ·rw [hlive] at hq
    simp only [Bool.or_eq_true, decide_eq_true_eq] at hq
    exact hq.symm
  ·refine .inr (.inr ⟨by rw [he]; rfl, c.toNat, ?_⟩)
   obtain ⟨x, hx, rfl⟩ := List.mem_map.1 hc
   have hl := (heldB_int (hk x hx)).2
   have := h.cnt _ (live_lt hl)
   rw [hc1, List.length_map] at hs
   omega
theorem Made.loose {M M' : SM} {n : NM} {ext : Nat → Nat} {i : Nat} (h : Made M n ext M' i) (hk : ∀ x ∈ n.ents, M.pool.heldB x.2 = true) {E : List (Int × Int)} (hl : Loose M (n.ents ++ E)) (k : Int) : Loose M' (E ++ [(k, (i : Int))]) := by
 intro q hq hc
 rcases h.only q hq with rfl | hq
 ·exact ⟨_, List.mem_append_right _ (List.mem_singleton.2 rfl), rfl⟩
 ·rw [h.cnt] at hc
  obtain ⟨x, hx, he⟩ := hl q hq (by omega)
  rcases List.mem_append.1 hx with hx | hx
  ·have h0 : 0 ≤ x.2 := (heldB_int (hk x hx)).1
   have := occ_pos hx h0
   rw [he, Int.toNat_natCast] at this
   omega
  ·exact ⟨x, List.mem_append_left _ hx, he⟩
def putL (l : List (Int × Int)) (x : Int × Int) : List (Int × Int) := l.filter (fun y => decide (y.1 < x.1)) ++ [x] ++ l.filter (fun y => decide (x.1 < y.1))
theorem filter_all {l : List (Int × Int)} {p : Int × Int → Bool} (h : ∀ y ∈ l, p y = true) : l.filter p = l := List.filter_eq_self.2 h
theorem filter_none {l : List (Int × Int)} {p : Int × Int → Bool} (h : ∀ y ∈ l, p y = false) : l.filter p = [] := List.filter_eq_nil_iff.2 fun y hy => by rw [h y hy]; decide
theorem putL_mid {a b c : List (Int × Int)} {x : Int × Int} (ha : ∀ y ∈ a, y.1 < x.1) (hc : ∀ y ∈ c, x.1 < y.1) : putL (a ++ b ++ c) x = a ++ putL b x ++ c := by
 unfold putL
 simp only [List.filter_append]
 rw [filter_all (l := a) (p := fun y => decide (y.1 < x.1)) (fun y hy => by simpa using ha y hy), filter_none (l := a) (p := fun y => decide (x.1 < y.1)) (fun y hy => by have := ha y hy; simp; omega),
  filter_none (l := c) (p := fun y => decide (y.1 < x.1)) (fun y hy => by have := hc y hy; simp; omega), filter_all (l := c) (p := fun y => decide (x.1 < y.1)) (fun y hy => by simpa using hc y hy)]
 simp
theorem putL_rises {l : List (Int × Int)} (h : RisesK l) (x : Int × Int) : RisesK (putL l x) := by
 unfold putL RisesK
 rw [List.append_assoc]
 refine List.pairwise_append.2 ⟨List.Pairwise.filter _ h, List.pairwise_append.2 ⟨List.pairwise_singleton _ _, List.Pairwise.filter _ h, fun a ha b hb => ?_⟩, fun a ha b hb => ?_⟩
 ·rw [List.mem_singleton.1 ha]
  simp at hb; exact hb.2
 ·simp at ha
  rcases List.mem_append.1 hb with hb | hb
  ·rw [List.mem_singleton.1 hb]; exact ha.2
  ·simp at hb; omega
theorem putL_mem {l : List (Int × Int)} {x y : Int × Int} (h : y ∈ putL l x) : y = x ∨ y ∈ l := by
 unfold putL at h
 simp only [List.mem_append, List.mem_singleton, List.mem_filter] at h
 rcases h with (h | h) | h
 ·exact .inr h.1
 ·exact .inl h
 ·exact .inr h.1
theorem rises_cut {l : List (Int × Int)} (h : RisesK l) (i : Nat) : (∀ y ∈ l.take i, ∀ z ∈ l.drop i, y.1 < z.1) := by
 have : RisesK (l.take i ++ l.drop i) := by rw [List.take_append_drop]; exact h
 exact fun y hy z hz => (List.pairwise_append.1 this).2.2 y hy z hz
theorem putL_take {l : List (Int × Int)} {x : Int × Int} {i j : Nat} (hij : i ≤ j) (h1 : ∀ y ∈ l.take i, y.1 < x.1) (h2 : ∀ y ∈ l.drop j, x.1 < y.1) (h3 : ∀ y ∈ (l.drop i).take (j - i), y.1 = x.1) :
  l.take i ++ [x] ++ l.drop j = putL l x := by
 have e : l = l.take i ++ (l.drop i).take (j - i) ++ l.drop j := by
  rw [List.append_assoc]
  have : (l.drop i).take (j - i) ++ l.drop j = l.drop i := by
   have := List.take_append_drop (j - i) (l.drop i)
   rw [List.drop_drop, show i + (j - i) = j by omega] at this
   exact this
  rw [this, List.take_append_drop]
 have hm : putL ((l.drop i).take (j - i)) x = [x] := by
  unfold putL
  rw [filter_none (fun y hy => by have := h3 y hy; simp; omega), filter_none (fun y hy => by have := h3 y hy; simp; omega)]
  rfl
 conv => rhs; rw [e]
 rw [putL_mid h1 h2, hm]

theorem atI_cut {l : List (Int × Int)} (h : RisesK l) (key : Int) {c : Nat} (hc : (c : Int) = atI l key + 1) : c ≤ l.length ∧ (∀ y ∈ l.take c, y.1 ≤ key) ∧ (∀ y ∈ l.drop c, key < y.1) := by
 have hlen : c = (l.filter fun x => decide (x.1 ≤ key)).length := by unfold atI at hc; omega
 clear hc
 subst hlen
 have key' : ∀ {l : List (Int × Int)}, RisesK l → l.take (l.filter fun x => decide (x.1 ≤ key)).length = l.filter (fun x => decide (x.1 ≤ key)) ∧ l.drop (l.filter fun x => decide (x.1 ≤ key)).length = l.filter (fun x => decide (key < x.1)) := by
  intro l
  induction l with
  | nil => intro _; exact ⟨rfl, rfl⟩
  | cons y l ih =>
   intro hr
   have hr' := List.pairwise_cons.1 hr
   by_cases hy : y.1 ≤ key
   ·rw [List.filter_cons_of_pos (by simpa using hy), List.length_cons, List.take_succ_cons, List.drop_succ_cons, (ih hr'.2).1, (ih hr'.2).2, List.filter_cons_of_neg (by simp; omega)]
    exact ⟨rfl, rfl⟩
   ·have hall : l.filter (fun x => decide (x.1 ≤ key)) = [] := List.filter_eq_nil_iff.2 fun z hz => by have := hr'.1 z hz; simp; omega
    have hall2 : l.filter (fun x => decide (key < x.1)) = l := filter_all fun z hz => by have := hr'.1 z hz; simp; omega
    rw [List.filter_cons_of_neg (by simpa using hy), hall, List.filter_cons_of_pos (by simp; omega), hall2]
    exact ⟨rfl, rfl⟩
 refine ⟨List.length_filter_le _ _, fun y hy => ?_, fun y hy => ?_⟩
 ·rw [(key' h).1] at hy; simp at hy; exact hy.2
 ·rw [(key' h).2] at hy; simp at hy; exact hy.2

def Kids (T : Int → List (Int × Int) → Prop) : List (Int × Int) → List (Int × Int) → Prop
 | [], l => l = []
 | e :: es, l => ∃ a b x, l = a ++ b ∧ T e.2 a ∧ a.head? = some x ∧ x.1 = e.1 ∧ Kids T es b
theorem Kids.append {T : Int → List (Int × Int) → Prop} : ∀ {es fs l m : List (Int × Int)}, Kids T es l → Kids T fs m → Kids T (es ++ fs) (l ++ m)
 | [], _, _, _, h, k => by rw [show _ = [] from h]; exact k
 | _ :: _, _, _, _, ⟨a, b, x, h1, h2, h3, h4, h5⟩, k => ⟨a, b ++ _, x, by rw [h1, List.append_assoc], h2, h3, h4, Kids.append h5 k⟩
theorem Kids.cut {T : Int → List (Int × Int) → Prop} : ∀ {es fs l : List (Int × Int)}, Kids T (es ++ fs) l → ∃ a b, l = a ++ b ∧ Kids T es a ∧ Kids T fs b
 | [], _, l, h => ⟨[], l, rfl, rfl, h⟩
 | _ :: _, _, _, ⟨a, b, x, h1, h2, h3, h4, h5⟩ => by
  obtain ⟨c, d, e1, e2, e3⟩ := Kids.cut h5
  exact ⟨a ++ c, d, by rw [h1, e1, List.append_assoc], ⟨a, c, x, rfl, h2, h3, h4, e2⟩, e3⟩
theorem Kids.mono {T U : Int → List (Int × Int) → Prop} : ∀ {es l : List (Int × Int)}, (∀ e ∈ es, ∀ a, T e.2 a → U e.2 a) → Kids T es l → Kids U es l
 | [], _, _, h => h
 | _ :: _, _, h, ⟨a, b, x, h1, h2, h3, h4, h5⟩ => ⟨a, b, x, h1, h _ (List.mem_cons_self ..) _ h2, h3, h4, Kids.mono (fun e he => h e (List.mem_cons_of_mem _ he)) h5⟩
theorem Kids.head {T : Int → List (Int × Int) → Prop} {e : Int × Int} {es l : List (Int × Int)} (h : Kids T (e :: es) l) : ∃ x, l.head? = some x ∧ x.1 = e.1 := by
 obtain ⟨a, b, x, h1, h2, h3, h4, h5⟩ := h
 refine ⟨x, ?_, h4⟩
 cases a with
 | nil => cases h3
 | cons y a => rw [h1]; exact h3
theorem Kids.each {T : Int → List (Int × Int) → Prop} : ∀ {es l : List (Int × Int)}, Kids T es l → ∀ e ∈ es, ∃ a, T e.2 a ∧ ∀ y ∈ a, y ∈ l
 | [], _, _, _, he => by cases he
 | _ :: _, _, ⟨a, b, x, h1, h2, h3, h4, h5⟩, e, he => by
  rcases List.mem_cons.1 he with rfl | he
  ·exact ⟨a, h2, fun y hy => by rw [h1]; exact List.mem_append_left _ hy⟩
  ·obtain ⟨c, hc, hm⟩ := Kids.each h5 e he
   exact ⟨c, hc, fun y hy => by rw [h1]; exact List.mem_append_right _ (hm y hy)⟩
theorem head_le {l : List (Int × Int)} (h : RisesK l) {x : Int × Int} (hx : l.head? = some x) : ∀ y ∈ l, x.1 ≤ y.1 := by
 cases l with
 | nil => cases hx
 | cons z l =>
  cases hx
  intro y hy
  rcases List.mem_cons.1 hy with rfl | hy
  ·exact Int.le_refl _
  ·exact Int.le_of_lt ((List.pairwise_cons.1 h).1 y hy)

def NTr (T : Int → List (Int × Int) → Prop) (h : Nat) (n : NM) (l : List (Int × Int)) : Prop := (h = 0 ∧ n.kind = 2 ∧ n.ents = l) ∨ (0 < h ∧ n.kind = 3 ∧ Kids T n.ents l)
def SM.entN (M : SM) (p : Int) : Nat := (M.ents p.toNat).length
def Tr (m : Nat) (M : SM) : Nat → Int → List (Int × Int) → Prop
 | 0, _, _ => False
 | h + 1, p, l => M.pool.heldB p = true ∧ ∃ n, M.nodeAt p.toNat = some n ∧ n.ok ∧ NTr (fun q a => Tr m M h q a ∧ m ≤ M.entN q) h n l
def Sub (m : Nat) (M : SM) (h : Nat) (q : Int) (a : List (Int × Int)) : Prop := Tr m M h q a ∧ m ≤ M.entN q
theorem entN_of {M : SM} {p : Int} {n : NM} (h : M.nodeAt p.toNat = some n) : M.entN p = n.ents.length := by unfold SM.entN SM.ents; rw [h]
theorem NTr.mono {T U : Int → List (Int × Int) → Prop} {h : Nat} {n : NM} {l : List (Int × Int)} (k : NTr T h n l) (f : ∀ e ∈ n.ents, ∀ a, T e.2 a → U e.2 a) : NTr U h n l := by
 rcases k with k | ⟨h0, hk, k⟩
 ·exact .inl k
 ·exact .inr ⟨h0, hk, Kids.mono f k⟩
theorem Tr.held {m : Nat} {M : SM} {h : Nat} {p : Int} {l : List (Int × Int)} (t : Tr m M h p l) : M.pool.heldB p = true := by
 cases h with
 | zero => exact t.elim
 | succ h => exact t.1
theorem Tr.grown {m : Nat} {M M' : SM} (g : Grown M M') : ∀ {h : Nat} {p : Int} {l : List (Int × Int)}, Tr m M h p l → Tr m M' h p l
 | 0, _, _, t => t
 | h + 1, p, l, ⟨hp, n, hn, hok, k⟩ => by
  have hl := (heldB_int hp).2
  refine ⟨g.held hp, n, by rw [g.node _ hl]; exact hn, hok, k.mono fun e _ a ha => ⟨Tr.grown g ha.1, ?_⟩⟩
  have h2 := (heldB_int ha.1.held).2
  unfold SM.entN SM.ents
  rw [g.node _ h2]
  exact ha.2
theorem Sub.grown {m : Nat} {M M' : SM} (g : Grown M M') {h : Nat} {p : Int} {l : List (Int × Int)} (t : Sub m M h p l) : Sub m M' h p l := by
 refine ⟨Tr.grown g t.1, ?_⟩
 have h2 := (heldB_int t.1.held).2
 unfold SM.entN SM.ents
 rw [g.node _ h2]
 exact t.2
theorem Tr.stays {m : Nat} {M M' : SM} {ext : Nat → Nat} (E : Exact M' ext) (hlog : M'.log = M.log) : ∀ {h : Nat} {p : Int} {l : List (Int × Int)}, Tr m M h p l → M'.pool.heldB p = true → Tr m M' h p l
 | 0, _, _, t, _ => t
 | h + 1, p, l, ⟨hp, n, hn, hok, k⟩, hp' => by
  have hn' : M'.nodeAt p.toNat = some n := by unfold SM.nodeAt; rw [hlog]; exact hn
  have hl := (heldB_int hp').2
  have hents : M'.ents p.toNat = n.ents := by unfold SM.ents; rw [hn']
  refine ⟨hp', n, hn', hok, k.mono fun e he a ha => ?_⟩
  have hc : M'.pool.heldB e.2 = true := by
   have h0 := (heldB_int ha.1.held).1
   have h1 := E.kids _ hl e (by rw [hents]; exact he)
   obtain ⟨c, hc⟩ := Int.eq_ofNat_of_zero_le h0
   rw [hc] at h1 ⊢
   rw [heldB_nat]
   exact h1
  refine ⟨Tr.stays E hlog ha.1 hc, ?_⟩
  have : M'.entN e.2 = M.entN e.2 := by unfold SM.entN SM.ents SM.nodeAt; rw [hlog]
  rw [this]; exact ha.2
theorem rises_right {l : List (Int × Int)} (hr : RisesK l) (h1 : 1 ≤ l.length) (h6 : l.length ≤ 6) (hb : ∀ x ∈ l, 0 ≤ x.1 ∧ x.1 < 64 ∧ 0 ≤ x.2 ∧ x.2 < 240) : risesB l = true := by
 rw [risesB_all]
 ·simp [h1, h6]
 ·intro i hi
  have hm := hb l[i] (List.getElem_mem hi)
  simp only [entB, List.getElem?_eq_getElem hi, Bool.and_eq_true, decide_eq_true_eq, Bool.or_eq_true, beq_iff_eq]
  refine ⟨⟨⟨⟨hm.1, hm.2.1⟩, hm.2.2.1⟩, hm.2.2.2⟩, ?_⟩
  by_cases h0 : i = 0
  ·exact .inl h0
  ·refine .inr ?_
   have : (l.getD (i - 1) (0, 0)) = l[i - 1] := by simp [List.getD, List.getElem?_eq_getElem (show i - 1 < l.length by omega)]
   rw [this]
   exact List.pairwise_iff_getElem.1 hr (i - 1) i (by omega) hi (by omega)
theorem zeros_ok : zeros16.length = 16 ∧ (∀ b ∈ zeros16, b < 256) ∧ zeros16.all (· == 0) = true := by
 unfold zeros16
 refine ⟨by decide, ?_, by decide⟩
 intro b hb
 rw [List.eq_of_mem_replicate hb]; decide
theorem node_ok {k : Int} (hk : k = 2 ∨ k = 3) {l : List (Int × Int)} (hr : RisesK l) (h1 : 1 ≤ l.length) (h6 : l.length ≤ 6) (hb : ∀ x ∈ l, 0 ≤ x.1 ∧ x.1 < 64 ∧ 0 ≤ x.2 ∧ x.2 < 240) : NM.ok ⟨k, zeros16, l⟩ := by
 refine ⟨?_, zeros_ok.1, zeros_ok.2.1⟩
 unfold NM.rightB
 rw [if_neg (by dsimp only; omega), if_pos hk]
 simp only [zeros_ok.2.2, rises_right hr h1 h6 hb, Bool.and_self]
def KidsL (T : Int → Nat → Prop) : List (Int × Int) → Nat → Prop
 | [], _ => True
 | e :: es, s => ∃ t u, t + u ≤ s ∧ T e.2 t ∧ KidsL T es u
theorem KidsL.weak {T : Int → Nat → Prop} : ∀ {es : List (Int × Int)} {s s' : Nat}, KidsL T es s → s ≤ s' → KidsL T es s'
 | [], _, _, _, _ => trivial
 | _ :: _, _, _, ⟨t, u, h1, h2, h3⟩, h => ⟨t, u, Nat.le_trans h1 h, h2, h3⟩
theorem KidsL.append {T : Int → Nat → Prop} : ∀ {es fs : List (Int × Int)} {s t : Nat}, KidsL T es s → KidsL T fs t → KidsL T (es ++ fs) (s + t)
 | [], _, _, _, _, h => h.weak (Nat.le_add_left _ _)
 | _ :: _, _, _, _, ⟨a, b, h1, h2, h3⟩, h => ⟨a, _, by omega, h2, KidsL.append h3 h⟩
theorem KidsL.cut {T : Int → Nat → Prop} : ∀ {es fs : List (Int × Int)} {s : Nat}, KidsL T (es ++ fs) s → ∃ t u, t + u ≤ s ∧ KidsL T es t ∧ KidsL T fs u
 | [], _, s, h => ⟨0, s, by omega, trivial, h⟩
 | _ :: _, _, _, ⟨a, b, h1, h2, h3⟩ => by
  obtain ⟨t, u, h4, h5, h6⟩ := KidsL.cut h3
  exact ⟨a + t, u, by omega, ⟨a, t, Nat.le_refl _, h2, h5⟩, h6⟩
theorem KidsL.mono {T U : Int → Nat → Prop} : ∀ {es : List (Int × Int)} {s : Nat}, (∀ e ∈ es, ∀ t, T e.2 t → U e.2 t) → KidsL T es s → KidsL U es s
 | [], _, _, _ => trivial
 | e :: _, _, f, ⟨t, u, h1, h2, h3⟩ => ⟨t, u, h1, f e (List.mem_cons_self ..) t h2, KidsL.mono (fun e he => f e (List.mem_cons_of_mem _ he)) h3⟩
theorem KidsL.ge {T : Int → Nat → Prop} {c : Nat} (hT : ∀ q t, T q t → c ≤ t) : ∀ {es : List (Int × Int)} {s : Nat}, KidsL T es s → es.length * c ≤ s
 | [], _, _ => by simp
 | _ :: es, _, ⟨t, u, h1, h2, h3⟩ => by
  have h4 := hT _ _ h2
  have h5 := KidsL.ge hT h3
  rw [List.length_cons, Nat.succ_mul]
  omega
def Led (M : SM) : Nat → Int → Nat → Prop
 | 0, _, _ => False
 | h + 1, p, s => (h = 0 ∧ (M.ents p.toNat).length ≤ s) ∨ (0 < h ∧ KidsL (fun q t => 3 ^ h ≤ t ∧ Led M h q t) (M.ents p.toNat) s)
def LedS (M : SM) (h : Nat) (q : Int) (t : Nat) : Prop := 3 ^ h ≤ t ∧ Led M h q t
def LedN (M : SM) (h : Nat) (es : List (Int × Int)) (s : Nat) : Prop := (h = 0 ∧ es.length ≤ s) ∨ (0 < h ∧ KidsL (LedS M h) es s)
theorem LedN.weak {M : SM} {h : Nat} {es : List (Int × Int)} {s s' : Nat} (k : LedN M h es s) (hs : s ≤ s') : LedN M h es s' := by
 rcases k with ⟨h0, hl⟩ | ⟨h0, hK⟩
 ·exact .inl ⟨h0, Nat.le_trans hl hs⟩
 ·exact .inr ⟨h0, hK.weak hs⟩
theorem Led.weak {M : SM} {h : Nat} {p : Int} {s s' : Nat} (k : Led M h p s) (hs : s ≤ s') : Led M h p s' := by
 cases h with
 | zero => exact k.elim
 | succ h => exact LedN.weak (es := M.ents p.toNat) k hs
theorem LedN.append {M : SM} {h : Nat} {es fs : List (Int × Int)} {s t : Nat} (k : LedN M h es s) (j : LedN M h fs t) : LedN M h (es ++ fs) (s + t) := by
 rcases k with ⟨h0, hl⟩ | ⟨h0, hK⟩
 ·rcases j with ⟨_, hl'⟩ | ⟨h1, _⟩
  ·exact .inl ⟨h0, by rw [List.length_append]; omega⟩
  ·omega
 ·rcases j with ⟨h1, _⟩ | ⟨_, hK'⟩
  ·omega
  ·exact .inr ⟨h0, hK.append hK'⟩
theorem Led.same {m : Nat} {M M' : SM} (hn : ∀ q, M.live q = true → M'.nodeAt q = M.nodeAt q) : ∀ {h : Nat} {p : Int} {l : List (Int × Int)} {s : Nat}, Tr m M h p l → Led M h p s → Led M' h p s
 | 0, _, _, _, _, k => k.elim
 | h + 1, p, l, s, ⟨hp, n, hna, _, k⟩, hl => by
  have hen : M.ents p.toNat = n.ents := by unfold SM.ents; rw [hna]
  have hen' : M'.ents p.toNat = n.ents := by unfold SM.ents; rw [hn _ (heldB_int hp).2, hna]
  rcases hl with ⟨h0, hl⟩ | ⟨h0, hK⟩
  ·exact .inl ⟨h0, by rw [hen']; rw [hen] at hl; exact hl⟩
  ·rcases k with ⟨h1, _⟩ | ⟨_, _, hKd⟩
   ·omega
   ·rw [hen] at hK
    refine .inr ⟨h0, ?_⟩
    rw [hen']
    refine KidsL.mono (fun e he t ht => ⟨ht.1, ?_⟩) hK
    obtain ⟨a, ha, _⟩ := hKd.each e he
    exact Led.same hn ha.1 ht.2
theorem Led.grown {m : Nat} {M M' : SM} (g : Grown M M') {h : Nat} {p : Int} {l : List (Int × Int)} {s : Nat} (t : Tr m M h p l) (k : Led M h p s) : Led M' h p s := Led.same g.node t k
theorem KidsL.grown {m : Nat} {M M' : SM} (g : Grown M M') {h : Nat} {es l : List (Int × Int)} {s : Nat} (k : Kids (Sub m M h) es l) (j : KidsL (LedS M h) es s) : KidsL (LedS M' h) es s :=
 KidsL.mono (fun e he t ht => by
  obtain ⟨a, ha, _⟩ := k.each e he
  exact ⟨ht.1, Led.grown g ha.1 ht.2⟩) j
theorem LedN.grown {m : Nat} {M M' : SM} (g : Grown M M') {h : Nat} {n : NM} {l : List (Int × Int)} {s : Nat} (k : NTr (Sub m M h) h n l) (j : LedN M h n.ents s) : LedN M' h n.ents s := by
 rcases j with h0 | ⟨h0, hK⟩
 ·exact .inl h0
 ·rcases k with ⟨h1, _⟩ | ⟨_, _, hKd⟩
  ·omega
  ·exact .inr ⟨h0, hK.grown g hKd⟩
theorem LedN.part {M : SM} {h : Nat} {es : List (Int × Int)} {s : Nat} (k : LedN M h es s) (h3 : 3 ≤ es.length) : 3 ^ (h + 1) ≤ s := by
 rcases k with ⟨h0, hl⟩ | ⟨_, hK⟩
 ·subst h0; omega
 ·have h1 := KidsL.ge (T := LedS M h) (c := 3 ^ h) (fun q t ht => ht.1) hK
  have h2 := Nat.mul_le_mul_right (3 ^ h) h3
  rw [Nat.pow_succ]
  omega
theorem LedN.halves {M : SM} {h : Nat} {es fs : List (Int × Int)} {s : Nat} (k : LedN M h (es ++ fs) s) : ∃ t u, t + u ≤ s ∧ LedN M h es t ∧ LedN M h fs u := by
 rcases k with ⟨h0, hl⟩ | ⟨h0, hK⟩
 ·rw [List.length_append] at hl
  exact ⟨_, _, hl, .inl ⟨h0, Nat.le_refl _⟩, .inl ⟨h0, Nat.le_refl _⟩⟩
 ·obtain ⟨t, u, h1, h2, h3⟩ := hK.cut
  exact ⟨t, u, h1, .inr ⟨h0, h2⟩, .inr ⟨h0, h3⟩⟩
def spine (M : SM) : Nat → Int → List Nat
 | 0, _ => []
 | h + 1, p => (M.ents p.toNat).length :: (if h = 0 then [] else spine M h ((M.ents p.toNat).getLastD (0, 0)).2)
def spineN (M : SM) (h : Nat) (es : List (Int × Int)) : List Nat := es.length :: (if h = 0 then [] else spine M h (es.getLastD (0, 0)).2)
theorem spine_succ (M : SM) (h : Nat) (p : Int) : spine M (h + 1) p = spineN M h (M.ents p.toNat) := rfl
theorem lastD_append (es : List (Int × Int)) (e : Int × Int) : (es ++ [e]).getLastD (0, 0) = e := by
 rw [List.getLastD_eq_getLast?, List.getLast?_append]; rfl
theorem lastD_mem {es : List (Int × Int)} (h : es ≠ []) : es.getLastD (0, 0) ∈ es := by
 rcases List.eq_nil_or_concat es with h' | ⟨r, e, h'⟩
 ·exact absurd h' h
 ·rw [List.concat_eq_append] at h'
  rw [h', lastD_append]
  exact List.mem_append_right _ (List.mem_singleton.2 rfl)
theorem spine_grown {m : Nat} {M M' : SM} (g : Grown M M') : ∀ {h : Nat} {p : Int} {l : List (Int × Int)}, Tr m M h p l → spine M' h p = spine M h p
 | 0, _, _, _ => rfl
 | h + 1, p, l, ⟨hp, n, hna, hok, k⟩ => by
  have hen : M.ents p.toNat = n.ents := by unfold SM.ents; rw [hna]
  have hen' : M'.ents p.toNat = n.ents := by unfold SM.ents; rw [g.node _ (heldB_int hp).2, hna]
  unfold spine
  rw [hen, hen']
  by_cases h0 : h = 0
  ·rw [if_pos h0, if_pos h0]
  ·rw [if_neg h0, if_neg h0]
   rcases k with ⟨h1, _⟩ | ⟨_, hk3, hK⟩
   ·exact absurd h1 h0
   ·have hne : n.ents ≠ [] := by
     intro e
     have h1 := hok.1
     unfold NM.rightB at h1
     rw [if_neg (by omega), if_pos (.inr hk3), e] at h1
     simp [risesB] at h1
    obtain ⟨a, ha, _⟩ := hK.each _ (lastD_mem hne)
    rw [spine_grown g ha.1]
def bumpF : List Nat → List Nat
 | [] => []
 | [x] => [x + 1]
 | x :: y :: r => let b := bumpF (y :: r); if b.headD 0 = 7 then (x + 1) :: 4 :: b.tail else x :: b
def topS (sp : List Nat) : List Nat := if sp.headD 0 = 7 then 2 :: 4 :: sp.tail else sp
def cntL (M : SM) (j : Nat) : Nat → Int → Nat
 | 0, _ => 0
 | h + 1, p => (if h + 1 = j then 1 else 0) + (if h = 0 then 0 else ((M.ents p.toNat).map fun e => cntL M j h e.2).sum)
theorem cntL_low {M : SM} {j : Nat} : ∀ {h : Nat} {p : Int}, h < j → cntL M j h p = 0
 | 0, _, _ => rfl
 | h + 1, p, hj => by
  unfold cntL
  rw [if_neg (by omega)]
  split
  ·rfl
  ·have : ∀ es : List (Int × Int), (es.map fun e => cntL M j h e.2).sum = 0 := fun es => by
    induction es with
    | nil => rfl
    | cons e es ih => rw [List.map_cons, List.sum_cons, ih, cntL_low (by omega)]
   rw [this]
theorem led_cnt {M : SM} {j : Nat} : ∀ {h : Nat} {p : Int} {s : Nat}, Led M h p s → j < h → 3 ^ j * cntL M j h p ≤ s
 | 0, _, _, k, _ => k.elim
 | h + 1, p, s, k, hj => by
  unfold cntL
  rw [if_neg (by omega), Nat.zero_add]
  rcases k with ⟨h0, _⟩ | ⟨h0, hK⟩
  ·rw [if_pos h0]; simp
  ·rw [if_neg (by omega)]
   have key : ∀ (es : List (Int × Int)) (s : Nat), KidsL (LedS M h) es s → 3 ^ j * (es.map fun e => cntL M j h e.2).sum ≤ s := by
    intro es
    induction es with
    | nil => intro s _; simp
    | cons e es ih =>
     rintro s ⟨t, u, h1, h2, h3⟩
     rw [List.map_cons, List.sum_cons, Nat.mul_add]
     have a := ih u h3
     have b : 3 ^ j * cntL M j h e.2 ≤ t := by
      by_cases hjh : j < h
      ·exact led_cnt h2.2 hjh
      ·have hjh : h = j := by omega
       subst hjh
       have : cntL M h h e.2 = 1 := by
        obtain ⟨k, rfl⟩ : ∃ k, h = k + 1 := ⟨h - 1, by omega⟩
        unfold cntL
        rw [if_pos rfl]
        split
        ·rfl
        ·have : ∀ es : List (Int × Int), (es.map fun e => cntL M (k + 1) k e.2).sum = 0 := fun es => by
          induction es with
          | nil => rfl
          | cons e es ih => rw [List.map_cons, List.sum_cons, ih, cntL_low (by omega)]
         rw [this]
       rw [this, Nat.mul_one]
       exact h2.1
     omega
   exact key _ _ hK
def Good (M : SM) (l : List (Int × Int)) : Prop := RisesK l ∧ ∀ y ∈ l, 0 ≤ y.1 ∧ y.1 < 64 ∧ M.pool.heldB y.2 = true
theorem Good.grown {M M' : SM} (g : Grown M M') {l : List (Int × Int)} (h : Good M l) : Good M' l := ⟨h.1, fun y hy => ⟨(h.2 y hy).1, (h.2 y hy).2.1, g.held (h.2 y hy).2.2⟩⟩
theorem Good.left {M : SM} {a b : List (Int × Int)} (h : Good M (a ++ b)) : Good M a := ⟨(List.pairwise_append.1 h.1).1, fun y hy => h.2 y (List.mem_append_left _ hy)⟩
theorem Good.right {M : SM} {a b : List (Int × Int)} (h : Good M (a ++ b)) : Good M b := ⟨(List.pairwise_append.1 h.1).2.1, fun y hy => h.2 y (List.mem_append_right _ hy)⟩
theorem Good.put {M : SM} {l : List (Int × Int)} (h : Good M l) {x : Int × Int} (h0 : 0 ≤ x.1) (h1 : x.1 < 64) (hx : M.pool.heldB x.2 = true) : Good M (putL l x) :=
 ⟨putL_rises h.1 x, fun y hy => by rcases putL_mem hy with rfl | hy; exact ⟨h0, h1, hx⟩; exact h.2 y hy⟩
theorem Kids.good {M : SM} {T : Int → List (Int × Int) → Prop} (hT : ∀ q a, T q a → M.pool.heldB q = true) : ∀ {es l : List (Int × Int)}, Kids T es l → Good M l → Good M es ∧ (∀ e ∈ es, ∃ y ∈ l, y.1 = e.1)
 | [], _, _, _ => ⟨⟨List.Pairwise.nil, fun y hy => by cases hy⟩, fun y hy => by cases hy⟩
 | e :: es, l, ⟨a, b, x, h1, h2, h3, h4, h5⟩, g => by
  subst h1
  obtain ⟨⟨r1, r2⟩, r3⟩ := Kids.good hT h5 g.right
  have hxa : x ∈ a := List.mem_of_mem_head? (by rw [h3]; rfl)
  refine ⟨⟨List.pairwise_cons.2 ⟨fun f hf => ?_, r1⟩, fun f hf => ?_⟩, fun f hf => ?_⟩
  ·obtain ⟨y, hy, he⟩ := r3 f hf
   rw [← he, ← h4]
   exact (List.pairwise_append.1 g.1).2.2 x hxa y hy
  ·rcases List.mem_cons.1 hf with rfl | hf
   ·have := g.2 x (List.mem_append_left _ hxa)
    rw [h4] at this
    exact ⟨this.1, this.2.1, hT _ _ h2⟩
   ·exact r2 f hf
  ·rcases List.mem_cons.1 hf with rfl | hf
   ·exact ⟨x, List.mem_append_left _ hxa, h4⟩
   ·obtain ⟨y, hy, he⟩ := r3 f hf
    exact ⟨y, List.mem_append_right _ hy, he⟩
theorem NTr.good {m : Nat} {M : SM} {h : Nat} {n : NM} {l : List (Int × Int)} (k : NTr (Sub m M h) h n l) (g : Good M l) : Good M n.ents := by
 rcases k with ⟨_, _, k⟩ | ⟨_, _, k⟩
 ·rw [k]; exact g
 ·exact (k.good (fun q a hq => hq.1.held) g).1
theorem NTr.kind {T : Int → List (Int × Int) → Prop} {h : Nat} {n : NM} {l : List (Int × Int)} (k : NTr T h n l) : n.kind = 2 ∨ n.kind = 3 := by
 rcases k with ⟨_, k, _⟩ | ⟨_, k, _⟩
 ·exact .inl k
 ·exact .inr k
theorem NTr.head {T : Int → List (Int × Int) → Prop} {h : Nat} {n : NM} {l : List (Int × Int)} (k : NTr T h n l) (h1 : 1 ≤ n.ents.length) : ∃ x, l.head? = some x ∧ x.1 = (n.ents.getD 0 (0, 0)).1 := by
 rcases k with ⟨_, _, k⟩ | ⟨_, _, k⟩
 ·rw [k] at h1 ⊢
  cases l with
  | nil => simp at h1
  | cons y l => exact ⟨y, rfl, rfl⟩
 ·cases he : n.ents with
  | nil => rw [he] at h1; simp at h1
  | cons e es => rw [he] at k; exact k.head
theorem NTr.parts {T : Int → List (Int × Int) → Prop} {h : Nat} {n : NM} {l : List (Int × Int)} (k : NTr T h n l) {e1 e2 : List (Int × Int)} (he : n.ents = e1 ++ e2) :
  ∃ l1 l2, l = l1 ++ l2 ∧ NTr T h ⟨n.kind, zeros16, e1⟩ l1 ∧ NTr T h ⟨n.kind, zeros16, e2⟩ l2 := by
 rcases k with ⟨h0, hk, k⟩ | ⟨h0, hk, k⟩
 ·exact ⟨e1, e2, by rw [← k, he], .inl ⟨h0, hk, rfl⟩, .inl ⟨h0, hk, rfl⟩⟩
 ·rw [he] at k
  obtain ⟨a, b, h1, h2, h3⟩ := k.cut
  exact ⟨a, b, h1, .inr ⟨h0, hk, h2⟩, .inr ⟨h0, hk, h3⟩⟩
theorem held_bound {M : SM} {ext : Nat → Nat} (h : Exact M ext) {i : Int} (hi : M.pool.heldB i = true) : 0 ≤ i ∧ i < 240 := by
 have := heldB_pos hi
 have := h.size
 omega

theorem make_tr {m : Nat} {M : SM} {ext : Nat → Nat} (E : Exact M ext) {h : Nat} {k : Int} {es l : List (Int × Int)} (t : NTr (Sub m M h) h ⟨k, zeros16, es⟩ l) (g : Good M l) (h1 : 1 ≤ es.length) (h6 : es.length ≤ 6) :
  (∃ i : Nat, (M.make ⟨k, zeros16, es⟩).2 = ((i : Int), 0) ∧ Made M ⟨k, zeros16, es⟩ ext (M.make ⟨k, zeros16, es⟩).1 i ∧ Tr m (M.make ⟨k, zeros16, es⟩).1 (h + 1) i l ∧ (M.make ⟨k, zeros16, es⟩).1.entN i = es.length) ∨
   ((M.make ⟨k, zeros16, es⟩).2 = (-1, 71) ∧ M.pool.freeCount = 0) ∨ ((M.make ⟨k, zeros16, es⟩).2 = (-1, 72) ∧ ∃ c, 255 < M.refs c + es.length + ext c) := by
 have ge := t.good g
 have hok : NM.ok ⟨k, zeros16, es⟩ := node_ok t.kind ge.1 h1 h6 (fun x hx => by
  have := ge.2 x hx
  have := held_bound E this.2.2
  exact ⟨(ge.2 x hx).1, (ge.2 x hx).2.1, this.1, this.2⟩)
 rcases make_ok E hok (fun x hx => (ge.2 x hx).2.2) with ⟨i, e, H⟩ | e | e
 ·refine .inl ⟨i, e, H, ⟨?_, _, by rw [Int.toNat_natCast]; exact H.node, hok, t.mono fun e _ a ha => Sub.grown H.grown ha⟩, ?_⟩
  ·rw [heldB_nat]; exact H.live
  ·rw [entN_of (by rw [Int.toNat_natCast]; exact H.node)]
 ·exact .inr (.inl e)
 ·exact .inr (.inr e)

structure SplitOk (m : Nat) (M : SM) (ext : Nat → Nat) (h : Nat) (n : NM) (l : List (Int × Int)) (M' : SM) (out : List (Int × Int)) : Prop where
 exact : Exact M' ext
 grown : Grown M M'
 len : out.length = if 6 < n.ents.length then 2 else 1
 free : M.pool.freeCount = M'.pool.freeCount + out.length
 sum : M'.sum = M.sum + n.ents.length
 loose : ∀ E, Loose M (n.ents ++ E) → Loose M' (E ++ out)
 one : n.ents.length ≤ 6 → ∃ (k : Int) (i : Nat), out = [(k, (i : Int))] ∧ Tr m M' (h + 1) i l ∧ M'.pool.cnt i = 0 ∧ M.live i = false
 kids : m ≤ 3 → m ≤ n.ents.length → Kids (Sub m M' (h + 1)) out l
 led : ∀ s, LedN M h n.ents s → (n.ents.length ≤ 6 → ∀ e ∈ out, Led M' (h + 1) e.2 s) ∧ (6 < n.ents.length → KidsL (LedS M' (h + 1)) out s)
 last : ∃ o, out.getLast? = some o ∧ M'.ents o.2.toNat = n.ents.drop (if 6 < n.ents.length then n.ents.length / 2 else 0)
theorem led_made {m : Nat} {M M' : SM} {n : NM} {ext : Nat → Nat} {i h : Nat} {l : List (Int × Int)} (H : Made M n ext M' i) (t : NTr (Sub m M h) h n l) {s : Nat} (j : LedN M h n.ents s) : Led M' (h + 1) (i : Int) s := by
 show LedN M' h (M'.ents (Int.toNat (i : Int))) s
 have : M'.ents (Int.toNat (i : Int)) = n.ents := by rw [Int.toNat_natCast]; unfold SM.ents; rw [H.node]
 rw [this]
 exact LedN.grown H.grown t j

theorem Made.zero {M M' : SM} {n : NM} {ext : Nat → Nat} {i : Nat} (h : Made M n ext M' i) (E : Exact M ext) (hk : ∀ x ∈ n.ents, M.pool.heldB x.2 = true) : M'.pool.cnt i = 0 := by
 have hl := live_lt h.live
 rw [show M'.pool.size = M.pool.size from h.grown.size] at hl
 rw [h.cnt]
 have h1 : M.pool.cnt i = 0 := by
  have := h.new
  simp only [SM.live, PM.live, hl, decide_true, Bool.true_and, Bool.or_eq_false_iff, decide_eq_false_iff_not] at this
  omega
 have h2 : occ n.ents i = 0 := by
  rcases Nat.eq_zero_or_pos (occ n.ents i) with h0 | h0
  ·exact h0
  ·obtain ⟨x, hx, he⟩ := List.countP_pos_iff.1 h0
   have := (heldB_int (hk x hx)).2
   rw [show x.2 = (i : Int) by simpa using he, Int.toNat_natCast] at this
   have h3 := h.new
   rw [show M.live i = M.pool.live i from rfl, this] at h3
   cases h3
 omega

theorem spineN_grown {m : Nat} {M M' : SM} (g : Grown M M') {h : Nat} {n : NM} {l : List (Int × Int)} (k : NTr (Sub m M h) h n l) (h1 : 1 ≤ n.ents.length) : spineN M' h n.ents = spineN M h n.ents := by
 unfold spineN
 by_cases h0 : h = 0
 ·rw [if_pos h0, if_pos h0]
 ·rw [if_neg h0, if_neg h0]
  rcases k with ⟨hz, _⟩ | ⟨_, _, hK⟩
  ·exact absurd hz h0
  ·obtain ⟨a, ha, _⟩ := hK.each _ (lastD_mem (es := n.ents) (by rintro e; rw [e] at h1; simp at h1))
   rw [spine_grown g ha.1]
theorem spineN_drop {m : Nat} {M M' : SM} (g : Grown M M') {h : Nat} {n : NM} {l : List (Int × Int)} (k : NTr (Sub m M h) h n l) (h7 : n.ents.length = 7) : spineN M' h (n.ents.drop 3) = 4 :: (spineN M h n.ents).tail := by
 have e1 : (n.ents.drop 3).length = 4 := by rw [List.length_drop]; omega
 have e2 : (n.ents.drop 3).getLastD (0, 0) = n.ents.getLastD (0, 0) := by
  rw [List.getLastD_eq_getLast?, List.getLastD_eq_getLast?, List.getLast?_drop, if_neg (by omega)]
 have := spineN_grown g k (by omega)
 unfold spineN at this ⊢
 rw [e1, e2]
 injection this with _ h2
 rw [h2]
 rfl
theorem makes_nil (k : Int) (M : SM) (out : List (Int × Int)) : SM.makes k [] M out = (M, out, 0) := rfl
theorem split_ok {m : Nat} {M : SM} {ext : Nat → Nat} (E : Exact M ext) {h : Nat} {n : NM} {l : List (Int × Int)} (t : NTr (Sub m M h) h n l) (g : Good M l) (h1 : 1 ≤ n.ents.length) (h12 : n.ents.length ≤ 12) :
  ((M.split n).2.2 = 0 ∧ SplitOk m M ext h n l (M.split n).1 (M.split n).2.1) ∨ ((M.split n).2.2 = 71 ∧ M.pool.freeCount < if 6 < n.ents.length then 2 else 1) ∨ ((M.split n).2.2 = 72 ∧ ∃ c, 255 < M.refs c + n.ents.length + ext c) := by
 unfold SM.split
 rw [if_neg (by omega)]
 by_cases h6 : n.ents.length ≤ 6
 ·have hp : partsOf n.ents = [n.ents] := by unfold partsOf; rw [if_neg (by omega), if_neg (by omega)]
  rw [hp, makes_cons]
  have t' : NTr (Sub m M h) h ⟨n.kind, zeros16, n.ents⟩ l := by
   rcases t with ⟨a, b, c⟩ | ⟨a, b, c⟩
   ·exact .inl ⟨a, b, c⟩
   ·exact .inr ⟨a, b, c⟩
  have ge := t'.good g
  rcases make_tr E t' g h1 h6 with ⟨i, e, H, hT, hN⟩ | ⟨e, hf⟩ | ⟨e, hc⟩
  ·obtain ⟨M', hM'⟩ : ∃ M', (M.make ⟨n.kind, zeros16, n.ents⟩).1 = M' := ⟨_, rfl⟩
   rw [hM'] at H hT hN ⊢
   rw [e]
   dsimp only
   rw [if_pos rfl, makes_nil]
   refine .inl ⟨rfl, ⟨H.exact, H.grown, ?_, H.free, H.sum, fun F hF => H.loose (fun x hx => (ge.2 x hx).2.2) hF _, fun _ => ⟨_, i, rfl, hT, H.zero E (fun x hx => (ge.2 x hx).2.2), H.new⟩, fun _ hm => ?_, fun s hs => ⟨fun _ e he => ?_, fun hh => absurd hh (by omega)⟩, ⟨_, rfl, by rw [if_neg (by omega), List.drop_zero]; show M'.ents (Int.toNat (i : Int)) = _; rw [Int.toNat_natCast]; unfold SM.ents; rw [H.node]⟩⟩⟩
   ·rw [if_neg (by omega)]; rfl
   ·obtain ⟨x, hx, hxe⟩ := t'.head h1
    exact ⟨l, [], x, (List.append_nil l).symm, ⟨hT, by rw [hN]; exact hm⟩, hx, hxe, rfl⟩
   ·rw [List.mem_singleton.1 he]
    exact led_made H t' hs
  ·rw [e]
   dsimp only
   rw [if_neg (by decide)]
   exact .inr (.inl ⟨rfl, by split <;> omega⟩)
  ·rw [e]
   dsimp only
   rw [if_neg (by decide)]
   exact .inr (.inr ⟨rfl, hc⟩)
 ·have hp : partsOf n.ents = [n.ents.take (n.ents.length / 2), n.ents.drop (n.ents.length / 2)] := by unfold partsOf; rw [if_neg (by omega), if_pos (by omega)]
  rw [hp, makes_cons]
  obtain ⟨e1, he1⟩ : ∃ e1, n.ents.take (n.ents.length / 2) = e1 := ⟨_, rfl⟩
  obtain ⟨e2, he2⟩ : ∃ e2, n.ents.drop (n.ents.length / 2) = e2 := ⟨_, rfl⟩
  have hee : n.ents = e1 ++ e2 := by rw [← he1, ← he2, List.take_append_drop]
  have hl1 : e1.length = n.ents.length / 2 := by rw [← he1, List.length_take]; omega
  have hl2 : e2.length = n.ents.length - n.ents.length / 2 := by rw [← he2, List.length_drop]
  rw [he1, he2]
  obtain ⟨l1, l2, hll, t1, t2⟩ := t.parts hee
  have g1 : Good M l1 := Good.left (b := l2) (by rw [← hll]; exact g)
  have g2 : Good M l2 := Good.right (a := l1) (by rw [← hll]; exact g)
  have ge1 := t1.good g1
  rcases make_tr E t1 g1 (by omega) (by omega) with ⟨i, e, H, hT, hN⟩ | ⟨e, hf⟩ | ⟨e, hc⟩
  ·obtain ⟨M', hM'⟩ : ∃ M', (M.make ⟨n.kind, zeros16, e1⟩).1 = M' := ⟨_, rfl⟩
   rw [hM'] at H hT hN ⊢
   rw [e]
   dsimp only
   rw [if_pos rfl, makes_cons]
   have t2' : NTr (Sub m M' h) h ⟨n.kind, zeros16, e2⟩ l2 := t2.mono fun e _ a ha => Sub.grown H.grown ha
   have g2' := g2.grown H.grown
   have ge2 := t2'.good g2'
   rcases make_tr H.exact t2' g2' (by omega) (by omega) with ⟨j, f, K, kT, kN⟩ | ⟨f, hf⟩ | ⟨f, hc⟩
   ·obtain ⟨M2, hM2⟩ : ∃ M2, (M'.make ⟨n.kind, zeros16, e2⟩).1 = M2 := ⟨_, rfl⟩
    rw [hM2] at K kT kN ⊢
    rw [f]
    dsimp only
    rw [if_pos rfl, makes_nil]
    have hH : Sub m M' (h + 1) i l1 → Sub m M2 (h + 1) i l1 := Sub.grown K.grown
    refine .inl ⟨rfl, ⟨K.exact, H.grown.trans K.grown, ?_, ?_, ?_, fun F hF => ?_, fun hh => absurd hh h6, fun hm hm2 => ?_, fun s hs => ⟨fun hh => absurd hh h6, fun _ => ?_⟩, ⟨_, rfl, by rw [if_pos (by omega), he2]; show M2.ents (Int.toNat (j : Int)) = _; rw [Int.toNat_natCast]; unfold SM.ents; rw [K.node]⟩⟩⟩
    ·rw [if_pos (by omega)]; rfl
    ·have a1 := H.free
     have a2 := K.free
     show _ = M2.pool.freeCount + 2
     omega
    ·have a1 := H.sum
     have a2 := K.sum
     dsimp only at a1 a2
     show M2.sum = _
     omega
    ·have a1 := H.loose (fun x hx => (ge1.2 x hx).2.2) (E := e2 ++ F) (by rw [← List.append_assoc, ← hee]; exact hF) ((e1.getD 0 (0, 0)).1)
     rw [List.append_assoc] at a1
     have a2 := K.loose (fun x hx => (ge2.2 x hx).2.2) a1 ((e2.getD 0 (0, 0)).1)
     rw [List.append_assoc] at a2
     exact a2
    ·obtain ⟨x, hx, hxe⟩ := t1.head (by show 1 ≤ e1.length; omega)
     obtain ⟨y, hy, hye⟩ := t2.head (by show 1 ≤ e2.length; omega)
     exact ⟨l1, l2, x, hll, hH ⟨hT, by rw [hN]; omega⟩, hx, hxe, l2, [], y, (List.append_nil _).symm, ⟨kT, by rw [kN]; omega⟩, hy, hye, rfl⟩
    ·rw [hee] at hs
     obtain ⟨a, b, hab, ha, hb⟩ := hs.halves
     refine ⟨a, b, hab, ⟨ha.part (by omega), Led.grown K.grown hT (led_made H t1 ha)⟩, b, 0, Nat.le_refl _, ⟨hb.part (by omega), led_made K t2' (LedN.grown H.grown t2 hb)⟩, trivial⟩
   ·rw [f]
    dsimp only
    rw [if_neg (by decide)]
    have a1 := H.free
    exact .inr (.inl ⟨rfl, by split <;> omega⟩)
   ·rw [f]
    dsimp only
    rw [if_neg (by decide)]
    have a1 := H.sum
    dsimp only at a1
    obtain ⟨c, hc⟩ := hc
    have hg := H.grown.refs c
    exact .inr (.inr ⟨rfl, c, by omega⟩)
  ·rw [e]
   dsimp only
   rw [if_neg (by decide)]
   exact .inr (.inl ⟨rfl, by split <;> omega⟩)
  ·rw [e]
   dsimp only
   rw [if_neg (by decide)]
   obtain ⟨c, hc⟩ := hc
   exact .inr (.inr ⟨rfl, c, by omega⟩)
end Go.Proofs.Ytdcnogjbmdhgaaa
