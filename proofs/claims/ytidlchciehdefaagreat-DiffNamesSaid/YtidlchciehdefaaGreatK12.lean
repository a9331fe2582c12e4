/-
  Nodes on a disk (package nodes): a page is held once less, and its children, where it goes.
-/
import Derived.Test.YtidlchciehdefaaGreatK08
import Derived.Test.YtidlchciehdefaaGreatK11
set_option linter.unusedVariables false
set_option linter.unusedSimpArgs false
namespace Go.Proofs.YtidlchciehdefaaGreat
open Go.RowKit
set_option maxRecDepth 100000

theorem gone_live {M : SM} {i : Nat} (hi : M.live i = true) (hc : M.pool.cnt i ≤ 1) :
    SM.liveN { M with pool := M.pool.dropTo i } + 1 = M.liveN ∧ (∀ p, SM.live { M with pool := M.pool.dropTo i } p = (M.live p && decide (p ≠ i))) := by
  have hd : M.pool.dropTo i = (M.pool.setCnt i 0).setSt i (PM.lastSt (M.pool.st i)) := by unfold PM.dropTo; rw [if_neg (by omega)]
  have hil := live_lt hi
  rw [hd]
  have hl : ∀ p, SM.live { M with pool := (M.pool.setCnt i 0).setSt i (PM.lastSt (M.pool.st i)) } p = (M.live p && decide (p ≠ i)) := by
    intro p
    unfold SM.live PM.live PM.setCnt PM.setSt
    dsimp only
    by_cases hp : p = i
    · subst hp
      have : PM.lastSt (M.pool.st p) ≠ 1 ∧ PM.lastSt (M.pool.st p) ≠ 2 := by unfold PM.lastSt; split <;> (try split) <;> omega
      simp [this.1, this.2]
    · simp [hp]
  refine ⟨?_, hl⟩
  have := sumN_set (f := fun q => if M.live q then 1 else 0) (g := fun q => if SM.live { M with pool := (M.pool.setCnt i 0).setSt i (PM.lastSt (M.pool.st i)) } q then 1 else 0) hil
    (fun j _ hj => by rw [hl j]; simp [hj])
  simp only [hl i, hi, if_true] at this
  simp at this
  exact this
theorem less_live {M : SM} {i : Nat} (hc : 1 < M.pool.cnt i) : ∀ p, SM.live { M with pool := M.pool.dropTo i } p = M.live p := by
  have hd : M.pool.dropTo i = M.pool.setCnt i (M.pool.cnt i - 1) := by unfold PM.dropTo; rw [if_pos hc]
  rw [hd]
  intro p
  unfold SM.live PM.live PM.setCnt
  dsimp only
  by_cases hp : p = i
  · subst hp
    simp [show 0 < M.pool.cnt p - 1 by omega, show 0 < M.pool.cnt p by omega]
  · simp [hp]
theorem dropTo_size (p : PM) (i : Nat) : (p.dropTo i).size = p.size := by unfold PM.dropTo; split <;> rfl
/-- One child after the other. -/
def dropAllF (f : Nat) (s : SM × Nat) (l : List Int) : SM × Nat := l.foldl (fun s c => if s.2 = 0 then SM.dropF f s.1 c else s) s
theorem dropF_succ (f : Nat) (M : SM) (i : Int) : SM.dropF (f + 1) M i =
    if M.pool.heldB i then
      (if M.pool.cnt i.toNat ≤ 1 then
        match M.nodeAt i.toNat with
        | none => ({ M with pool := M.pool.dropTo i.toNat }, 81)
        | some n => dropAllF f ({ M with pool := M.pool.dropTo i.toNat }, 0) (n.ents.map (·.2))
      else ({ M with pool := M.pool.dropTo i.toNat }, 0))
    else (M, 73) := rfl
theorem dropAllF_bad (f : Nat) (s : SM × Nat) (l : List Int) (h : s.2 ≠ 0) : dropAllF f s l = s := by
  unfold dropAllF
  induction l with
  | nil => rfl
  | cons c l ih => rw [List.foldl_cons, if_neg h]; exact ih
theorem dropAllF_append (f : Nat) (s : SM × Nat) (a b : List Int) : dropAllF f s (a ++ b) = dropAllF f (dropAllF f s a) b := by simp [dropAllF, List.foldl_append]
theorem dropAllF_one (f : Nat) (s : SM × Nat) (c : Int) (h : s.2 = 0) : dropAllF f s [c] = SM.dropF f s.1 c := by simp [dropAllF, h]
/-- Dropping leaves no page held that wasn't, and all that was written. -/
theorem dropF_live : ∀ (f : Nat) (M : SM) (i : Int), (SM.dropF f M i).1.pool.size = M.pool.size ∧ (SM.dropF f M i).1.log = M.log ∧ ∀ p, (SM.dropF f M i).1.live p = true → M.live p = true
  | 0, M, i => ⟨rfl, rfl, fun _ h => h⟩
  | f + 1, M, i => by
    rw [dropF_succ]
    split
    · rename_i hh
      obtain ⟨h0, hl⟩ := heldB_int hh
      split
      · rename_i hc
        have hg := (gone_live (M := M) hl hc).2
        have base : ∀ p, SM.live { M with pool := M.pool.dropTo i.toNat } p = true → M.live p = true := fun p hp => by rw [hg] at hp; simp at hp; exact hp.1
        split
        · exact ⟨dropTo_size _ _, rfl, base⟩
        · rename_i n _
          have : ∀ (l : List Int) (s : SM × Nat), (dropAllF f s l).1.pool.size = s.1.pool.size ∧ (dropAllF f s l).1.log = s.1.log ∧ ∀ p, (dropAllF f s l).1.live p = true → s.1.live p = true := by
            intro l
            induction l with
            | nil => intro s; exact ⟨rfl, rfl, fun _ h => h⟩
            | cons c l ih =>
              intro s
              unfold dropAllF
              rw [List.foldl_cons]
              by_cases hs : s.2 = 0
              · rw [if_pos hs]
                have h1 := dropF_live f s.1 c
                have h2 := ih (SM.dropF f s.1 c)
                unfold dropAllF at h2
                exact ⟨h2.1.trans h1.1, h2.2.1.trans h1.2.1, fun p hp => h1.2.2 p (h2.2.2 p hp)⟩
              · rw [if_neg hs]
                have h2 := ih s
                unfold dropAllF at h2
                exact h2
          have h3 := this (n.ents.map (·.2)) ({ M with pool := M.pool.dropTo i.toNat }, 0)
          exact ⟨h3.1.trans (dropTo_size _ _), h3.2.1, fun p hp => base p (h3.2.2 p hp)⟩
      · rename_i hc
        have hg := less_live (M := M) (i := i.toNat) (by omega)
        exact ⟨dropTo_size _ _, rfl, fun p hp => by rw [hg] at hp; exact hp⟩
    · exact ⟨rfl, rfl, fun _ h => h⟩
theorem liveN_mono {M N : SM} (hs : N.pool.size = M.pool.size) (h : ∀ p, N.live p = true → M.live p = true) : N.liveN ≤ M.liveN := by
  unfold SM.liveN
  rw [hs]
  refine sumN_le fun i _ => ?_
  by_cases hi : N.live i = true
  · rw [if_pos hi, if_pos (h i hi)]; exact Nat.le_refl _
  · rw [if_neg hi]; exact Nat.zero_le _
end Go.Proofs.YtidlchciehdefaaGreat
/-
  Nodes on a disk (package nodes): the walk of Drop.
-/
namespace Go.Proofs.YtidlchciehdefaaGreat
open Go.RowKit
set_option maxRecDepth 100000

theorem dropAns_held {p : PM} {i : Int} (h : p.heldB i = true) : p.dropGone i = decide (p.cnt i.toNat ≤ 1) ∧ p.dropErr i = 0 ∧ p.dropAll i = p.dropTo i.toNat := by
  unfold PM.dropGone PM.dropErr PM.dropAll
  simp [h]
theorem dropAns_free {p : PM} {i : Int} (h : p.heldB i = false) : p.dropGone i = false ∧ p.dropErr i = 73 ∧ p.dropAll i = p := by
  unfold PM.dropGone PM.dropErr PM.dropAll
  simp [h]

theorem dropAllF_live (f : Nat) : ∀ (l : List Int) (s : SM × Nat), (dropAllF f s l).1.pool.size = s.1.pool.size ∧ (dropAllF f s l).1.log = s.1.log ∧ ∀ p, (dropAllF f s l).1.live p = true → s.1.live p = true := by
  intro l
  induction l with
  | nil => intro s; exact ⟨rfl, rfl, fun _ h => h⟩
  | cons c l ih =>
    intro s
    unfold dropAllF
    rw [List.foldl_cons]
    by_cases hs : s.2 = 0
    · rw [if_pos hs]
      have h1 := dropF_live f s.1 c
      have h2 := ih (SM.dropF f s.1 c)
      unfold dropAllF at h2
      exact ⟨h2.1.trans h1.1, h2.2.1.trans h1.2.1, fun p hp => h1.2.2 p (h2.2.2 p hp)⟩
    · rw [if_neg hs]
      have h2 := ih s
      unfold dropAllF at h2
      exact h2
/-- One more child is dropped. -/
theorem dropAllF_next {f : Nat} {s : SM × Nat} {N : SM} {l : List (Int × Int)} {k : Nat} {x : Int × Int} (hp : dropAllF f s ((l.take k).map (·.2)) = (N, 0)) (hx : l[k]? = some x) :
    dropAllF f s ((l.take (k + 1)).map (·.2)) = SM.dropF f N x.2 ∧ ((SM.dropF f N x.2).2 ≠ 0 → dropAllF f s (l.map (·.2)) = SM.dropF f N x.2) := by
  have h1 : (l.take (k + 1)).map (·.2) = (l.take k).map (·.2) ++ [x.2] := by rw [List.take_add_one, hx]; simp
  have h2 : l.map (·.2) = (l.take k).map (·.2) ++ ([x.2] ++ (l.drop (k + 1)).map (·.2)) := by
    obtain ⟨hk, he⟩ := List.getElem?_eq_some_iff.1 hx
    conv => lhs; rw [← List.take_append_drop k l, List.drop_eq_getElem_cons hk, he]
    simp
  refine ⟨?_, fun h => ?_⟩
  · rw [h1, dropAllF_append, hp, dropAllF_one _ _ _ rfl]
  · rw [h2, dropAllF_append, hp, dropAllF_append, dropAllF_one _ _ _ rfl, dropAllF_bad _ _ _ h]

set_option maxHeartbeats 4000000 in
theorem storeDropF : ∀ (f : Nat) {w : World} {A : SA} {M : SM} (i : Int), StoreAt w A M → M.liveN < f →
    Calls Tryz.prog 93 #[.pointer (some ⟨A.sb, 0, none⟩), .int .i64 i] w fun e w' => e = .returned (.int .i64 (SM.dropF f M i).2) ∧ StoreTo A A (SM.dropF f M i).1 w w'
  | 0, _, _, _, _, _, hf => by omega
  | f + 1, w, A, M, i, h, hf => by
    have c1 := cell_of_heap h.head 1
    simp at c1
    by_cases hh : M.pool.heldB i = true
    · obtain ⟨hi0, hl⟩ := heldB_int hh
      obtain ⟨e1, e2, e3⟩ := dropAns_held hh
      have hD := drop_all h.pool i
      rw [e1, e2, e3] at hD
      have hT := Lib.hid (fun w' (k : PoolTo A.pb (M.pool.dropTo i.toNat) w w') => h.pooled k (dropTo_size _ _))
      by_cases hc : M.pool.cnt i.toNat ≤ 1
      · have hgl := gone_live (M := M) hl hc
        rw [decide_eq_true hc] at hD
        have hD' := Lib.hid hD
        obtain ⟨_, hi1, hi2⟩ := held_room h hh
        obtain ⟨j, rfl⟩ := Int.eq_ofNat_of_zero_le hi0
        simp at hi1
        have hPz : Hid ((Tryz.prog.info? 165).map (·.zero) = some (some (.agg (pageCells zeroPage).toArray))) := Lib.hid page_zero
        have hNz : Hid ((Tryz.prog.info? 115).map (·.zero) = some (some (.agg (nodeCells ⟨0, zeros16, []⟩ (.slice none 0 0)).toArray))) := Lib.hid node_zero
        obtain ⟨Z, hZ⟩ : ∃ Z, nodeCells ⟨0, zeros16, []⟩ (.slice none 0 0) = Z := ⟨_, rfl⟩
        rw [hZ] at hNz
        have hZl : Hid (Z.length = 18) := Lib.hid (by rw [← hZ]; exact nodeCells_len _ _)
        have hrd := Lib.hid (fun w1 (h1 : StoreAt w1 A { M with pool := M.pool.dropTo ((j : Int)).toNat }) => diskRead_ok h1.disk (j + 4) hi1)
        have hj4 : ((j + 4 : Nat) : Int) = (j : Int) + 4 := by omega
        have hrd2 : Hid (∀ w1, StoreAt w1 A { M with pool := M.pool.dropTo ((j : Int)).toNat } → Calls Tryz.prog 121 #[.pointer (some ⟨A.db, 0, none⟩), .int .i64 ((j : Int) + 4)] w1 fun e w' => e = .returned (.tuple #[.agg (pageCells (match M.nodeAt j with | some n => pageOf n | none => zeroPage)).toArray, .int .i64 0]) ∧ Kept (fun _ => False) w1 w') := Lib.hid (fun w1 h1 => by
          have := hrd.out w1 h1
          rw [disk_read, hj4] at this
          exact this)
        have hfold : Hid (SM.dropF (f + 1) M (j : Int) = match M.nodeAt j with | none => ({ M with pool := M.pool.dropTo j }, 81) | some n => dropAllF f ({ M with pool := M.pool.dropTo j }, 0) (n.ents.map (·.2))) := Lib.hid (by
          rw [dropF_succ, if_pos hh, if_pos hc]; rfl)
        have hlive : Hid (SM.liveN { M with pool := M.pool.dropTo j } < f) := Lib.hid (by have := hgl.1; simp at this; omega)
        have hlog : Hid (∀ x ∈ M.log, x.2.ok) := Lib.hid h.right
        have hstore := Lib.hid h
        have hlt : Hid (∀ k, A.own k → k < w.heap.size) := Lib.hid (fun k hk => h.lt hk)
        simp at hT
        cases hn : M.nodeAt j with
        | none =>
          rw [hn] at hrd2 hfold
          have hop := Lib.hid (fun w => open_zero (w := w))
          obtain ⟨pc, hpc⟩ : ∃ pc, pageCells zeroPage = pc := ⟨_, rfl⟩
          dsimp only at hrd2 hfold
          rw [hpc] at hrd2 hPz hop
          rw [show nodeCells NM.zero (.slice none 0 0) = Z from hZ] at hop
          have hpl : Hid (pc.length = 256) := Lib.hid (by rw [← hpc]; exact pageCells_len _)
          have hp1 : Hid (∀ v ∈ pc, v.oneCell' = true) := Lib.hid (by rw [← hpc]; exact pageCells_one _)
          have hZ1 : Hid (∀ v ∈ Z, v.oneCell' = true) := Lib.hid (by rw [← hZ]; exact nodeCells_one _ _ _ _)
          rw [hfold.out]
          clear h hh hl e1 e2 e3 hD hc hgl hZ hrd hj4 hn hpc hf
          go_enter Tryz.func93, Tryz.ntmps93
          go_wp2_with fail
          refine hD'.out.mono ?_
          rintro e w1 ⟨rfl, hk1⟩
          have hT1 := Lib.hid (hT.out _ hk1)
          have c2 := cell_of_heap hT1.out.store.head 0
          simp at c2
          clear hk1
          go_wp2_with fail
          refine (hrd2.out _ hT1.out.store).mono ?_
          rintro e w2 ⟨rfl, hk2⟩
          have kA := ((Kept.refl (fun _ => False) w2).alloc (.cells pc.toArray 165)).setRowNew (g := w2.heap.size) (Nat.le_refl _) pc.toArray
          obtain ⟨w3, hw3⟩ : ∃ w3, (w2.alloc (.cells pc.toArray 165)).setRow w2.heap.size pc.toArray = w3 := ⟨_, rfl⟩
          have q3 := Lib.hid (show w3.heap[w2.heap.size]? = some (.cells pc.toArray 165 (0, 0)) by rw [← hw3]; exact setRow_heap _ _ _ _ _ _ (heap_alloc_new _ _))
          rw [hw3] at kA
          have hT3 := Lib.hid (hT1.out.fresh (hk2.trans kA))
          have hw3' := Lib.hid hw3
          clear hk2 kA hw3
          go_wp2_with (first | (refine wpList_alloc_as 165 rfl rfl pc.toArray hPz.out ?_) | (refine wpList_store_whole 165 rfl rfl rfl pc rfl (by rw [hpl.out]; exact page_size) 165 _ (heap_alloc_new _ _) (by simp) hp1.out ?_; rw [hw3'.out]) | (refine wpList_load_agg 165 rfl rfl rfl _ Tryz.underlying165 rfl pc (by rw [hpl.out]; exact page_size) (fun j v hv => by rw [cell_of_heap q3.out, Nat.zero_add]; simpa using hv) ?_))
          refine (hop.out _).mono ?_
          rintro e w4 ⟨rfl, hk4⟩
          have kB := ((Kept.refl (fun _ => False) w4).alloc (.cells Z.toArray 115)).setRowNew (g := w4.heap.size) (Nat.le_refl _) Z.toArray
          have hT4 := Lib.hid (hT3.out.fresh (hk4.trans kB))
          clear hk4 kB
          go_wp2_with (first | (refine wpList_alloc_as 115 rfl rfl Z.toArray hNz.out ?_) | (refine wpList_store_whole 115 rfl rfl rfl Z rfl (by rw [hZl.out]; exact node_size) 115 _ (heap_alloc_new _ _) (by simp) hZ1.out ?_))
          go_ret
          exact ⟨rfl, hT4.out⟩
        | some n =>
          rw [hn] at hrd2 hfold
          have hok := nodeAt_ok h hn
          have hlen : n.ents.length ≤ 6 := by
            have h1 := hok.1
            unfold NM.rightB at h1
            split at h1
            · simp at h1; simp [h1]
            · split at h1
              · simp only [Bool.and_eq_true, risesB, decide_eq_true_eq] at h1; exact h1.2.2
              · cases h1
          have hop := Lib.hid (fun w => open_node (w := w) hok)
          obtain ⟨pc, hpc⟩ : ∃ pc, pageCells (pageOf n) = pc := ⟨_, rfl⟩
          dsimp only at hrd2 hfold
          rw [hpc] at hrd2 hop
          have hpl : Hid (pc.length = 256) := Lib.hid (by rw [← hpc]; exact pageCells_len _)
          have hp1 : Hid (∀ v ∈ pc, v.oneCell' = true) := Lib.hid (by rw [← hpc]; exact pageCells_one _)
          have ih := Lib.hid (fun (w : World) (N : SM) (i : Int) (h : StoreAt w A N) (hl : N.liveN < f) => storeDropF f i h hl)
          rw [hfold.out]
          clear h hh hl e1 e2 e3 hD hc hgl hZ hrd hj4 hn hpc hf hok
          go_enter Tryz.func93, Tryz.ntmps93
          go_wp2_with fail
          refine hD'.out.mono ?_
          rintro e w1 ⟨rfl, hk1⟩
          have hT1 := Lib.hid (hT.out _ hk1)
          have c2 := cell_of_heap hT1.out.store.head 0
          simp at c2
          clear hk1
          go_wp2_with fail
          refine (hrd2.out _ hT1.out.store).mono ?_
          rintro e w2 ⟨rfl, hk2⟩
          have kA := ((Kept.refl (fun _ => False) w2).alloc (.cells (pageCells zeroPage).toArray 165)).setRowNew (g := w2.heap.size) (Nat.le_refl _) pc.toArray
          obtain ⟨w3, hw3⟩ : ∃ w3, (w2.alloc (.cells (pageCells zeroPage).toArray 165)).setRow w2.heap.size pc.toArray = w3 := ⟨_, rfl⟩
          have q3 := Lib.hid (show w3.heap[w2.heap.size]? = some (.cells pc.toArray 165 (0, 0)) by rw [← hw3]; exact setRow_heap _ _ _ _ _ _ (heap_alloc_new _ _))
          rw [hw3] at kA
          have hT3 := Lib.hid (hT1.out.fresh (hk2.trans kA))
          have hw3' := Lib.hid hw3
          clear hk2 kA hw3
          go_wp2_with (first | (refine wpList_alloc_as 165 rfl rfl (pageCells zeroPage).toArray hPz.out ?_) | (refine wpList_store_whole 165 rfl rfl rfl pc rfl (by rw [hpl.out]; exact page_size) 165 _ (heap_alloc_new _ _) (by simp [hpl.out, pageCells_len]) hp1.out ?_; rw [hw3'.out]) | (refine wpList_load_agg 165 rfl rfl rfl _ Tryz.underlying165 rfl pc (by rw [hpl.out]; exact page_size) (fun j v hv => by rw [cell_of_heap q3.out, Nat.zero_add]; simpa using hv) ?_))
          refine (hop.out _).mono ?_
          rintro e w4 ⟨v, rfl, hown4, hk4⟩
          obtain ⟨A4, cap4, rfl, hf1, hf2⟩ := EntsAt.form (show EntsAt w4 v n.ents from SliceAt.of_owns hown4)
          unfold maxLen at hf2
          obtain ⟨F, hF⟩ : ∃ F, nodeCells n (.slice A4 n.ents.length cap4) = F := ⟨_, rfl⟩
          have hFl : Hid (F.length = 18) := Lib.hid (by rw [← hF]; exact nodeCells_len _ _)
          have hF1 : Hid (∀ v ∈ F, v.oneCell' = true) := Lib.hid (by rw [← hF]; exact nodeCells_one _ _ _ _)
          obtain ⟨w5, hw5⟩ : ∃ w5, (w4.alloc (.cells Z.toArray 115)).setRow w4.heap.size F.toArray = w5 := ⟨_, rfl⟩
          have kB : Kept (fun _ => False) w4 w5 := by rw [← hw5]; exact ((Kept.refl _ _).alloc _).setRowNew (Nat.le_refl _) _
          have q5 := Lib.hid (show w5.heap[w4.heap.size]? = some (.cells F.toArray 115 (0, 0)) by rw [← hw5]; exact setRow_heap _ _ _ _ _ _ (heap_alloc_new _ _))
          have hT5 := Lib.hid (hT3.out.fresh (hk4.trans kB))
          have hC := children_any (n := n) (SliceAt.fresh (SliceAt.of_owns hown4) kB) (by omega)
          rw [hF] at hC ⊢
          have hC' := Lib.hid hC
          have hw5' := Lib.hid hw5
          clear hk4 kB hown4 hw5 hF hC
          go_wp2_with (first | (refine wpList_alloc_as 115 rfl rfl Z.toArray hNz.out ?_) | (refine wpList_store_whole 115 rfl rfl rfl F rfl (by rw [hFl.out]; exact node_size) 115 _ (heap_alloc_new _ _) (by simp [hFl.out, hZl.out]) hF1.out ?_; rw [hw5'.out]) | (refine wpList_load_agg 115 rfl rfl rfl _ Tryz.underlying115 rfl F (by rw [hFl.out]; exact node_size) (fun j v hv => by rw [cell_of_heap q5.out, Nat.zero_add]; simpa using hv) ?_))
          refine hC'.out.mono ?_
          rintro e w7 ⟨u7, rfl, hown7, hk7⟩
          have hT7 := Lib.hid (hT5.out.fresh hk7)
          obtain ⟨A7, cap7, rfl, hd1, hd2, hcell7⟩ := (SliceAt.of_owns hown7).cells1
          unfold maxLen at hd2
          have hblk7 : Hid (∀ k, A7.map Addr.block = some k → w5.heap.size ≤ k) := Lib.hid (fun k hk => (hown7.lt k (by cases A7 <;> simp_all [Value.ownBlock])).1)
          have hcell7' := Lib.hid hcell7
          clear hk7 hown7 hcell7 hC'
          go_wp2_with fail
          go_loopw [52] (fun x wr => ∃ (k : Nat) (N : SM), k ≤ n.ents.length ∧ x = .int .i64 k ∧ Hid (dropAllF f ({ M with pool := M.pool.dropTo j }, 0) ((n.ents.take k).map (·.2)) = (N, 0)) ∧ Hid (StoreTo A A N w wr) ∧ Hid (Kept A.foot w7 wr)) (fun x _ => n.ents.length - (intOf x).toNat)
          case atStart => exact ⟨0, _, Nat.zero_le _, rfl, Lib.hid rfl, hT7, Lib.hid (Kept.refl _ _)⟩
          case round =>
            obtain ⟨k, N, hk, rfl, hq, hTr, hkr⟩ := hrel
            by_cases hlt2 : k < n.ents.length
            · obtain ⟨x, hx⟩ : ∃ x, n.ents[k]? = some x := ⟨_, List.getElem?_eq_getElem hlt2⟩
              obtain ⟨b7, off7, rfl, hcb⟩ := hcell7'.out k (.int .i64 x.2) (by simp [pageCellsOf, hx])
              have hb7 := hblk7.out b7 rfl
              have hcb' := hkr.out.cell hcb (fun e => by have := hlt.out _ (.inl e); have := hT5.out.kept.size; simp at *; omega)
              have hn1 := Lib.hid (dropAllF_next hq.out hx)
              have hNl : N.liveN < f := by
                have h3 := dropAllF_live f ((n.ents.take k).map (·.2)) ({ M with pool := M.pool.dropTo j }, 0)
                rw [hq.out] at h3
                exact Nat.lt_of_le_of_lt (liveN_mono h3.1 h3.2.2) hlive.out
              have hh := Lib.hid (ih.out wr N x.2 hTr.out.store hNl)
              obtain ⟨R, hR⟩ : ∃ R, SM.dropF f N x.2 = R := ⟨_, rfl⟩
              rw [hR] at hh hn1
              obtain ⟨N2, er⟩ := R
              dsimp only at hh
              clear hcb hx hNl hR
              go_wp2_with fail
              refine hh.out.mono ?_
              rintro e w8 ⟨rfl, hk8⟩
              have hT8 := Lib.hid (hTr.out.trans hk8)
              have hk8' := Lib.hid (hkr.out.trans hk8.kept)
              clear hk8
              by_cases h0 : er = 0
              · subst h0
                go_wp2_with fail
                go_roundw
                case rel => exact ⟨k + 1, N2, by omega, by go_num, Lib.hid hn1.out.1, hT8, hk8'⟩
                case measure => simp [intOf]; omega
              · have h0' : ((er : Int) == 0) = false := by simp; omega
                have hend := Lib.hid (hn1.out.2 h0)
                clear h0
                go_wp2_with fail
                go_ret
                exact ⟨by rw [hend.out]; rfl, by rw [hend.out]; exact hT8.out⟩
            · obtain rfl : k = n.ents.length := by omega
              have hq2 : Hid (dropAllF f ({ M with pool := M.pool.dropTo j }, 0) (n.ents.map (·.2)) = (N, 0)) := Lib.hid (by have := hq.out; rwa [List.take_length] at this)
              go_wp2_with fail
              go_ret
              exact ⟨by rw [hq2.out]; rfl, by rw [hq2.out]; exact hTr.out⟩
      · rw [decide_eq_false hc] at hD
        have hD' := Lib.hid hD
        have hr : SM.dropF (f + 1) M i = ({ M with pool := M.pool.dropTo i.toNat }, 0) := by rw [dropF_succ, if_pos hh, if_neg hc]
        rw [hr]
        clear h hh hl e1 e2 e3 hD hc hr
        go_enter Tryz.func93, Tryz.ntmps93
        go_wp2_with fail
        refine hD'.out.mono ?_
        rintro e w1 ⟨rfl, hk1⟩
        have hT1 := Lib.hid (hT.out _ hk1)
        clear hk1
        go_wp2_with fail
        go_ret
        exact ⟨rfl, hT1.out⟩
    · have hh' : M.pool.heldB i = false := by simpa using hh
      obtain ⟨e1, e2, e3⟩ := dropAns_free hh'
      have hD := drop_all h.pool i
      rw [e1, e2, e3] at hD
      have hD' := Lib.hid hD
      have hT := Lib.hid (fun w' (k : PoolTo A.pb M.pool w w') => h.pooled k rfl)
      have hr : SM.dropF (f + 1) M i = (M, 73) := by rw [dropF_succ, if_neg hh]
      rw [hr]
      clear h hh hh' e1 e2 e3 hD hr
      go_enter Tryz.func93, Tryz.ntmps93
      go_wp2_with fail
      refine hD'.out.mono ?_
      rintro e w1 ⟨rfl, hk1⟩
      have hT1 := Lib.hid (hT.out _ hk1)
      clear hk1
      go_wp2_with fail
      go_ret
      exact ⟨rfl, hT1.out⟩
end Go.Proofs.YtidlchciehdefaaGreat
/-
  Nodes on a disk (package nodes): a new store; its pool; marks.
-/
namespace Go.Proofs.YtidlchciehdefaaGreat
open Go.RowKit
set_option maxRecDepth 100000

theorem storeDrop {w : World} {A : SA} {M : SM} (h : StoreAt w A M) (i : Int) :
    Calls Tryz.prog 93 #[.pointer (some ⟨A.sb, 0, none⟩), .int .i64 i] w fun e w' => e = .returned (.int .i64 (M.drop i).2) ∧ StoreTo A A (M.drop i).1 w w' :=
  storeDropF 241 i h (by have := M.liveN_le; have := h.pool.hsize; omega)

theorem ret_i64 {a b : Int} (h : a = b) : Ending.returned (.int .i64 a) = .returned (.int .i64 b) := by rw [h]
theorem nodesSize (x : Int) (w : World) (h0 : 0 ≤ x) (h1 : x ≤ 1000) :
    Calls Tryz.prog 60 #[.int .i64 x] w fun e w' => e = .returned (.int .i64 (max 0 (min x 244 - 4))) ∧ w = w' := by
  go_enter Tryz.func60, Tryz.ntmps60
  go_wp2_with fail
  all_goals go_ret
  all_goals exact ⟨ret_i64 (by omega), rfl⟩

theorem StoreAt.undone {w w1 : World} {A : SA} {M : SM} {c : Nat} {p : PM} (h : StoreAt w A M) (hs : p.size = M.pool.size) (hc : w.heap.size ≤ c) (hp : PoolAt w1 c p) (k : Kept (fun _ => False) w w1) :
    StoreTo A { A with pb := c } { M with pool := p } w (w1.setCell ⟨A.sb, 1, none⟩ (.pointer (some ⟨c, 0, none⟩))) := by
  have h1 := h.fresh k
  have kS := (Kept.refl (fun i => i = A.sb) w1).setCell (p := ⟨A.sb, 1, none⟩) rfl (.pointer (some ⟨c, 0, none⟩))
  have hsb := lt_of_heap h.head
  have hd : ∀ j, (A.disk M).own j → j ≠ A.sb := fun j hj e => h.offS (e ▸ hj)
  refine ⟨⟨?_, h1.disk.kept kS hd, hp.kept kS (by omega), h.offS, ?_, ?_, ?_, h.right⟩, ((k.mono fun _ => False.elim).trans (kS.mono fun i e => .inl e)), ?_, rfl, rfl, rfl⟩
  · have := heap_setCell_same h1.head 1 (.pointer (some ⟨c, 0, none⟩))
    simp at this
    exact this
  · exact fun e => by have := h.disk.lt c e; omega
  · show A.sb ≠ c; omega
  · show p.size = 0 ∨ p.size + 4 ≤ A.n; rw [hs]; exact h.room
  · rintro i (e | e | e | e)
    · exact .inl (.inl e)
    · exact .inr (by rw [e]; exact hc)
    · exact .inl (.inr (.inr (.inl e)))
    · exact .inl (.inr (.inr (.inr e)))
/-- A new store, over a new disk and a new pool. -/
theorem nodesNew {w : World} {d : DM} {pb : Nat} {p : PM} (hd : DiskAt w d) (hp : PoolAt w pb p) (hpend : d.pend = []) (hoff : ¬ d.own pb) (hroom : p.size = 0 ∨ p.size + 4 ≤ d.n) :
    Calls Tryz.prog 57 #[.pointer (some ⟨d.b, 0, none⟩), .pointer (some ⟨pb, 0, none⟩)] w fun e w' => ∃ A, e = .returned (.pointer (some ⟨A.sb, 0, none⟩)) ∧ StoreAt w' A { pool := p, log := [] } ∧ Kept (fun _ => False) w w' ∧ (∀ k, A.own k → k = pb ∨ d.own k ∨ w.heap.size ≤ k) := by
  have hT : Hid (StoreAt (w.alloc (.cells #[.pointer (some ⟨d.b, 0, none⟩), .pointer (some ⟨pb, 0, none⟩)] 125)) { sb := w.heap.size, db := d.b, pb := pb, pv := d.pv, n := d.n, sv := d.sv, gm := d.gm } { pool := p, log := [] }) := Lib.hid (by
    have k := (Kept.refl (fun _ => False) w).alloc (.cells #[.pointer (some ⟨d.b, 0, none⟩), .pointer (some ⟨pb, 0, none⟩)] 125)
    have e : SA.disk { sb := w.heap.size, db := d.b, pb := pb, pv := d.pv, n := d.n, sv := d.sv, gm := d.gm } { pool := p, log := [] } = d := by cases d; simp_all [SA.disk]
    have hpb := lt_of_heap hp.heap
    refine ⟨heap_alloc_new _ _, by rw [e]; exact hd.fresh k, hp.kept k id, ?_, by rw [e]; exact hoff, ?_, hroom, fun x hx => by cases hx⟩
    · rw [e]; exact fun e2 => Nat.lt_irrefl _ (hd.lt _ e2)
    · show w.heap.size ≠ pb; omega)
  clear hd hp hoff hroom hpend
  go_enter Tryz.func57, Tryz.ntmps57
  go_wp2_with fail
  go_ret
  refine ⟨_, rfl, hT.out, (Kept.refl _ _).alloc _, ?_⟩
  rintro k ((rfl | rfl | rfl | e) | rfl | e)
  · exact .inr (.inr (Nat.le_refl _))
  · exact .inl rfl
  · exact .inr (.inl (.inl (.inl rfl)))
  · exact .inr (.inl (.inl (.inr e)))
  · exact .inr (.inl (.inr (.inl rfl)))
  · exact .inr (.inl (.inr (.inr e)))
end Go.Proofs.YtidlchciehdefaaGreat
/-
  What pages of the pool hold (package leaf): where a key belongs.
-/
namespace Go.Proofs.YtidlchciehdefaaGreat
open Go.RowKit
set_option maxRecDepth 100000

theorem isNaN_any (a : Int) (w : World) : Calls Tryz.prog 149 #[.int .i64 a] w fun e w' => e = .returned (.bool false) ∧ w = w' := by
  go_enter Tryz.func149, Tryz.ntmps149
  go_wp2_with fail
  go_ret
  exact ⟨ret_bool (by simp), rfl⟩
def cmpI (a b : Int) : Int := if a < b then -1 else if b < a then 1 else 0
theorem compare_any (a b : Int) (w : World) : Calls Tryz.prog 135 #[.int .i64 a, .int .i64 b] w fun e w' => e = .returned (.int .i64 (cmpI a b)) ∧ w = w' := by
  unfold cmpI
  have h1 := Lib.hid (isNaN_any a w)
  have h2 := Lib.hid (isNaN_any b w)
  by_cases c1 : a < b
  · rw [if_pos c1]
    go_enter Tryz.func135, Tryz.ntmps135
    go_wp2_with fail
    refine h1.out.mono ?_
    rintro e w' ⟨rfl, rfl⟩
    go_wp2_with fail
    refine h2.out.mono ?_
    rintro e w' ⟨rfl, rfl⟩
    go_wp2_with fail
    go_ret
    exact ⟨rfl, rfl⟩
  · rw [if_neg c1]
    have d1 : decide (a < b) = false := by simpa using c1
    by_cases c2 : b < a
    · rw [if_pos c2]
      clear c1
      go_enter Tryz.func135, Tryz.ntmps135
      go_wp2_with fail
      refine h1.out.mono ?_
      rintro e w' ⟨rfl, rfl⟩
      go_wp2_with fail
      refine h2.out.mono ?_
      rintro e w' ⟨rfl, rfl⟩
      go_wp2_with fail
      go_ret
      exact ⟨rfl, rfl⟩
    · rw [if_neg c2]
      have d2 : decide (b < a) = false := by simpa using c2
      clear c1 c2
      go_enter Tryz.func135, Tryz.ntmps135
      go_wp2_with fail
      refine h1.out.mono ?_
      rintro e w' ⟨rfl, rfl⟩
      go_wp2_with fail
      refine h2.out.mono ?_
      rintro e w' ⟨rfl, rfl⟩
      go_wp2_with fail
      go_ret
      exact ⟨rfl, rfl⟩
theorem atCmp_any (x : Int × Int) (k : Int) (w : World) : Calls Tryz.prog 134 #[.agg #[.int .i64 x.1, .int .i64 x.2], .int .i64 k] w fun e w' => e = .returned (.int .i64 (cmpI x.1 k)) ∧ Kept (fun _ => False) w w' := by
  have k1 := Lib.hid ((Kept.refl (fun _ => False) w).alloc (.cells #[.int .i64 x.1, .int .i64 x.2] 86))
  obtain ⟨a, b⟩ := x
  dsimp only at k1 ⊢
  go_enter Tryz.func134, Tryz.ntmps134
  go_wp2_with fail
  refine (compare_any _ _ _).mono ?_
  rintro e w' ⟨rfl, rfl⟩
  go_wp2_with fail
  go_ret
  exact ⟨rfl, k1.out⟩

/-- Keys rise. -/
def RisesK (l : List (Int × Int)) : Prop := l.Pairwise fun a b => a.1 < b.1
def ltN (l : List (Int × Int)) (key : Int) : Nat := (l.filter fun x => decide (x.1 < key)).length
theorem ltN_iff : ∀ {l : List (Int × Int)} (_ : RisesK l) (key : Int) {i : Nat} {x : Int × Int}, l[i]? = some x → (x.1 < key ↔ i < ltN l key)
  | [], _, _, _, _, h => by simp at h
  | y :: l, hr, key, i, x, h => by
    have hr' := List.pairwise_cons.1 hr
    unfold ltN
    by_cases hy : y.1 < key
    · rw [List.filter_cons_of_pos (by simpa using hy), List.length_cons]
      cases i with
      | zero => simp at h; subst h; simp [hy]
      | succ i =>
        have := ltN_iff hr'.2 key (i := i) (x := x) (by simpa using h)
        unfold ltN at this
        rw [this]; omega
    · have hall : l.filter (fun x => decide (x.1 < key)) = [] := List.filter_eq_nil_iff.2 fun z hz => by have := hr'.1 z hz; simp; omega
      rw [List.filter_cons_of_neg (by simpa using hy), hall]
      cases i with
      | zero => simp at h; subst h; simp; omega
      | succ i =>
        have hx : x ∈ l := List.mem_of_getElem? (by simpa using h)
        have := hr'.1 x hx
        simp; omega
theorem ltN_le (l : List (Int × Int)) (key : Int) : ltN l key ≤ l.length := List.length_filter_le _ _
/-- Is the key there? -/
def thereK (l : List (Int × Int)) (key : Int) : Bool := match l[ltN l key]? with | some x => x.1 == key | none => false
theorem atI_eq {l : List (Int × Int)} (hr : RisesK l) (key : Int) : atI l key = if thereK l key then (ltN l key : Int) else (ltN l key : Int) - 1 := by
  have : ∀ {l : List (Int × Int)}, RisesK l → (l.filter fun x => decide (x.1 ≤ key)).length = ltN l key + (if thereK l key then 1 else 0) := by
    intro l
    induction l with
    | nil => intro _; rfl
    | cons y l ih =>
      intro hr
      have hr' := List.pairwise_cons.1 hr
      by_cases hy : y.1 < key
      · have e1 : ltN (y :: l) key = ltN l key + 1 := by unfold ltN; rw [List.filter_cons_of_pos (by simpa using hy)]; rfl
        have e2 : thereK (y :: l) key = thereK l key := by unfold thereK; rw [e1, List.getElem?_cons_succ]
        rw [List.filter_cons_of_pos (by simp; omega), List.length_cons, ih hr'.2, e1, e2]; omega
      · have hall : l.filter (fun x => decide (x.1 < key)) = [] := List.filter_eq_nil_iff.2 fun z hz => by have := hr'.1 z hz; simp; omega
        have e1 : ltN (y :: l) key = 0 := by unfold ltN; rw [List.filter_cons_of_neg (by simpa using hy), hall]; rfl
        by_cases he : y.1 = key
        · have e2 : thereK (y :: l) key = true := by unfold thereK; rw [e1]; simp [he]
          have h3 : l.filter (fun x => decide (x.1 ≤ key)) = [] := List.filter_eq_nil_iff.2 fun z hz => by have := hr'.1 z hz; simp; omega
          rw [List.filter_cons_of_pos (by simp; omega), h3, e1, e2]; rfl
        · have e2 : thereK (y :: l) key = false := by unfold thereK; rw [e1]; simp [he]
          have h3 : l.filter (fun x => decide (x.1 ≤ key)) = [] := List.filter_eq_nil_iff.2 fun z hz => by have := hr'.1 z hz; simp; omega
          rw [List.filter_cons_of_neg (by simp; omega), h3, e1, e2]; rfl
  unfold atI
  rw [this hr]
  split <;> omega
end Go.Proofs.YtidlchciehdefaaGreat
/-
  What pages of the pool hold (package leaf): where a key belongs, found by halves.
-/
namespace Go.Proofs.YtidlchciehdefaaGreat
open Go.RowKit
set_option maxRecDepth 100000

set_option maxHeartbeats 2000000 in
theorem bsearch_any {w : World} {v : Value} {l : List (Int × Int)} (h : EntsAt w v l) (hr : RisesK l) (key : Int) (hlen : l.length ≤ 1000) :
    Calls Tryz.prog 133 #[v, .int .i64 key, .func (.func 134) #[] #[]] w fun e w' => e = .returned (.tuple #[.int .i64 (ltN l key), .bool (thereK l key)]) ∧ Kept (fun _ => False) w w' := by
  obtain ⟨A, cap, rfl, hc1, hc2⟩ := h.form
  unfold maxLen at hc2
  have h' := Lib.hid h
  have hN := ltN_le l key
  have hiff := Lib.hid (fun (i : Nat) (x : Int × Int) (hx : l[i]? = some x) => ltN_iff hr key hx)
  have hth : Hid (∀ x, l[ltN l key]? = some x → thereK l key = (x.1 == key)) := Lib.hid (fun x hx => by unfold thereK; rw [hx])
  have hth2 : Hid (l[ltN l key]? = none → thereK l key = false) := Lib.hid (fun hx => by unfold thereK; rw [hx])
  obtain ⟨c, hc⟩ : ∃ c, ltN l key = c := ⟨_, rfl⟩
  obtain ⟨t, ht⟩ : ∃ t, thereK l key = t := ⟨_, rfl⟩
  rw [hc] at hN hiff hth hth2 ⊢
  rw [ht] at hth hth2 ⊢
  clear hc ht h hr
  go_enter Tryz.func133, Tryz.ntmps133
  go_wp2_with fail
  go_loopw [9, 10] (fun x y wr => ∃ i j : Nat, i ≤ c ∧ c ≤ j ∧ j ≤ l.length ∧ x = .int .i64 i ∧ y = .int .i64 j ∧ Kept (fun _ => False) w wr) (fun x y _ => (intOf y - intOf x).toNat)
  case atStart => exact ⟨0, l.length, Nat.zero_le _, hN, Nat.le_refl _, rfl, rfl, Kept.refl _ _⟩
  case round =>
    obtain ⟨i, j, hi, hj, hjl, rfl, rfl, hkk⟩ := hrel
    by_cases hlt : i < j
    · obtain ⟨m, hm⟩ : ∃ m, (i + j) / 2 = m := ⟨_, rfl⟩
      have hm1 : i ≤ m := by omega
      have hm2 : m < j := by omega
      have hm3 : ((i : Int) + (j : Int)) / 2 = (m : Int) := by omega
      obtain ⟨x, hx⟩ : ∃ x, l[m]? = some x := ⟨_, List.getElem?_eq_getElem (by omega)⟩
      obtain ⟨b, off, rfl, hbl, hx1, hx2⟩ := EntsAt.get (SliceAt.fresh h'.out hkk) hx
      have hif := Lib.hid (hiff.out m x hx)
      have hkk' := Lib.hid hkk
      have hm0 : (0 : Int) ≤ (m : Int) := by omega
      have hml : (m : Int) < (l.length : Int) := by omega
      clear hx hkk hm
      by_cases hlk : x.1 < key
      · have hcm : Hid (cmpI x.1 key = -1) := Lib.hid (by unfold cmpI; rw [if_pos hlk])
        have hmc : m < c := hif.out.1 hlk
        have hcall := Lib.hid (fun w => atCmp_any x key w)
        rw [hcm.out] at hcall
        clear hlk
        go_wp2_with fail
        refine (hcall.out _).mono ?_
        rintro e w2 ⟨rfl, hk2⟩
        have hk2' := Lib.hid (hkk'.out.trans hk2)
        clear hk2
        go_wp2_with fail
        go_roundw
        case rel => exact ⟨m + 1, j, by omega, by omega, by omega, by go_num, rfl, hk2'.out⟩
        case measure => simp [intOf]; omega
      · obtain ⟨r, hr⟩ : ∃ r, cmpI x.1 key = r := ⟨_, rfl⟩
        have hr0 : 0 ≤ r := by rw [← hr]; unfold cmpI; rw [if_neg hlk]; split <;> omega
        have hmc : c ≤ m := by
          rcases Nat.lt_or_ge m c with h1 | h1
          · exact absurd (hif.out.2 h1) hlk
          · exact h1
        have hcall := Lib.hid (fun w => atCmp_any x key w)
        rw [hr] at hcall
        clear hlk hr
        go_wp2_with fail
        refine (hcall.out _).mono ?_
        rintro e w2 ⟨rfl, hk2⟩
        have hk2' := Lib.hid (hkk'.out.trans hk2)
        clear hk2
        go_wp2_with fail
        go_roundw
        case rel => exact ⟨i, m, by omega, by omega, by omega, rfl, rfl, hk2'.out⟩
        case measure => simp [intOf]; omega
    · obtain rfl : i = j := by omega
      obtain rfl : i = c := by omega
      have hkk' := Lib.hid hkk
      clear hlt
      by_cases hcl : i < l.length
      · obtain ⟨x, hx⟩ : ∃ x, l[i]? = some x := ⟨_, List.getElem?_eq_getElem hcl⟩
        obtain ⟨b, off, rfl, hbl, hx1, hx2⟩ := EntsAt.get (SliceAt.fresh h'.out hkk) hx
        have hnl : ¬ x.1 < key := fun h1 => Nat.lt_irrefl _ ((hiff.out i x hx).1 h1)
        have htt := hth.out x hx
        have hcall := Lib.hid (fun w => atCmp_any x key w)
        by_cases he : x.1 = key
        · have hcm : cmpI x.1 key = 0 := by unfold cmpI; rw [if_neg (by omega), if_neg (by omega)]
          have e2 : t = true := by rw [htt]; simp [he]
          rw [hcm] at hcall
          subst e2
          clear hkk hx hnl htt he hcm
          go_wp2_with fail
          refine (hcall.out _).mono ?_
          rintro e w2 ⟨rfl, hk2⟩
          have hk2' := Lib.hid (hkk'.out.trans hk2)
          clear hk2
          go_wp2_with fail
          go_ret2
          exact ⟨rfl, hk2'.out⟩
        · have hcm : cmpI x.1 key = 1 := by unfold cmpI; rw [if_neg (by omega), if_pos (by omega)]
          have e2 : t = false := by rw [htt]; simp [he]
          rw [hcm] at hcall
          subst e2
          clear hkk hx hnl htt he hcm
          go_wp2_with fail
          refine (hcall.out _).mono ?_
          rintro e w2 ⟨rfl, hk2⟩
          have hk2' := Lib.hid (hkk'.out.trans hk2)
          clear hk2
          go_wp2_with fail
          go_ret2
          exact ⟨rfl, hk2'.out⟩
      · have e2 : t = false := hth2.out (List.getElem?_eq_none (by omega))
        have hd : decide (i < l.length) = false := by simpa using hcl
        subst e2
        clear hkk hcl
        go_wp2_with fail
        go_ret2
        exact ⟨rfl, hkk'.out⟩
theorem at_any {w : World} {v : Value} {l : List (Int × Int)} (h : EntsAt w v l) (hr : RisesK l) (key : Int) (hlen : l.length ≤ 1000) :
    Calls Tryz.prog 104 #[v, .int .i64 key] w fun e w' => e = .returned (.int .i64 (atI l key)) ∧ Kept (fun _ => False) w w' := by
  have hb := Lib.hid (bsearch_any h hr key hlen)
  rw [atI_eq hr]
  have hN := ltN_le l key
  obtain ⟨c, hc⟩ : ∃ c, ltN l key = c := ⟨_, rfl⟩
  obtain ⟨t, ht⟩ : ∃ t, thereK l key = t := ⟨_, rfl⟩
  rw [hc] at hN hb ⊢
  rw [ht] at hb ⊢
  obtain ⟨A, cap, rfl, _⟩ := h.form
  clear h hr hc ht
  cases t
  all_goals
    go_enter Tryz.func104, Tryz.ntmps104
    go_wp2_with fail
    refine hb.out.mono ?_
    rintro e w2 ⟨rfl, hk2⟩
    have hk2' := Lib.hid hk2
    clear hk2
    go_wp2_with fail
    go_ret
    exact ⟨rfl, hk2'.out⟩
end Go.Proofs.YtidlchciehdefaaGreat
/-
  Trees (package tree): a node at a depth.
-/
namespace Go.Proofs.YtidlchciehdefaaGreat
open Go.RowKit
set_option maxRecDepth 100000

set_option maxHeartbeats 4000000 in
theorem treeNode {w : World} {A : SA} {M : SM} (h : StoreAt w A M) (i : Int) (d : Nat) (hd : d ≤ 100) :
    Calls Tryz.prog 91 #[.agg #[.pointer (some ⟨A.sb, 0, none⟩)], .int .i64 i, .int .i64 d] w fun e w' => ∃ v, e = .returned (.tuple #[.agg (nodeCells (M.tnode i d).1 v).toArray, .int .i64 (M.tnode i d).2]) ∧
      w'.ownsRow w.heap.size 86 2 v (M.tnode i d).1.ents.length (entCells (M.tnode i d).1.ents) ∧ Kept (fun _ => False) w w' := by
  obtain ⟨Z, hZ⟩ : ∃ Z, nodeCells NM.zero (.slice none 0 0) = Z := ⟨_, rfl⟩
  obtain ⟨w1, hw1⟩ : ∃ w1, w.alloc (.cells #[.pointer (some ⟨A.sb, 0, none⟩)] 26) = w1 := ⟨_, rfl⟩
  obtain ⟨w2, hw2⟩ : ∃ w2, w1.alloc (.cells Z.toArray 115) = w2 := ⟨_, rfl⟩
  have k1 : Kept (fun _ => False) w w1 := by rw [← hw1]; exact (Kept.refl _ _).alloc _
  have k2 : Kept (fun _ => False) w1 w2 := by rw [← hw2]; exact (Kept.refl _ _).alloc _
  have s1 : w1.heap.size = w.heap.size + 1 := by rw [← hw1]; simp
  have t1 : w1.heap[w.heap.size]? = some (.cells #[.pointer (some ⟨A.sb, 0, none⟩)] 26 (0, 0)) := by rw [← hw1]; exact heap_alloc_new _ _
  have t2 := cell_of_heap (k2.get t1 id) 0
  simp at t2
  have d2 : w2.heap[w.heap.size + 1]? = some (.cells Z.toArray 115 (0, 0)) := by rw [← hw2, ← s1]; exact heap_alloc_new _ _
  have hZz : Hid ((Tryz.prog.info? 115).map (·.zero) = some (some (.agg Z.toArray))) := Lib.hid (by rw [← hZ]; exact node_zero)
  have hZl : Hid (Z.length = 18) := Lib.hid (by rw [← hZ]; exact nodeCells_len _ _)
  have hZ1 : Hid (∀ v ∈ Z, v.oneCell' = true) := Lib.hid (by rw [← hZ]; exact nodeCells_one _ _ _ _)
  have hbz : Hid (∀ w, (Instr.build 115 #[]).run Tryz.prog w = .ok (.agg Z.toArray) w) := Lib.hid (fun w => by rw [← hZ]; exact run_build _ _ _ _ (by kernel_rfl))
  have hz2 : Hid (nodeCells NM.zero (.slice none 0 0) = Z) := Lib.hid hZ
  have hG := Lib.hid (get_any ((h.fresh k1).fresh k2) i)
  have hT : Hid (M.tnode i d = if (M.get i).2 = 0 then (if (M.get i).1.kind = 1 ∨ 8 ≤ d then (.zero, 81) else M.get i) else (.zero, (M.get i).2)) := Lib.hid rfl
  obtain ⟨R, hR⟩ : ∃ R, M.get i = R := ⟨_, rfl⟩
  rw [hR] at hG hT
  obtain ⟨n, er⟩ := R
  dsimp only at hG hT
  have hw1' := Lib.hid hw1
  have hw2' := Lib.hid hw2
  have s1' := Lib.hid s1
  have d2' := Lib.hid d2
  have k12 := Lib.hid (k1.trans k2)
  clear hw1 hw2 s1 d2 k1 k2 t1 hZ h hR
  have tail : Hid (∀ (w3 : World) (v : Value), w3.ownsRow w2.heap.size 86 2 v n.ents.length (entCells n.ents) → Kept (fun _ => False) w2 w3 → ∃ Av cap, v = .slice Av n.ents.length cap) := Lib.hid (fun w3 v ho _ => by
    obtain ⟨Av, cap, hv, _⟩ := EntsAt.form (show EntsAt w3 v n.ents from SliceAt.of_owns ho)
    exact ⟨Av, cap, hv⟩)
  by_cases h0 : er = 0
  · subst h0
    by_cases hbad : n.kind = 1 ∨ 8 ≤ d
    · rw [if_pos rfl, if_pos hbad] at hT
      rw [hT.out]
      by_cases hk1 : n.kind = 1
      · clear hbad
        go_enter Tryz.func91, Tryz.ntmps91
        go_wp2_with (first | (refine wpList_box_named 26 rfl rfl _ rfl hw1'.out ?_) | (refine wpList_alloc_as 115 rfl rfl Z.toArray hZz.out ?_; rw [hw2'.out, s1'.out]))
        refine hG.out.mono ?_
        rintro e w3 ⟨v, rfl, hown, hk3⟩
        obtain ⟨Av, cap, rfl⟩ := tail.out w3 v hown hk3
        obtain ⟨F, hF⟩ : ∃ F, nodeCells n (.slice Av n.ents.length cap) = F := ⟨_, rfl⟩
        have hFl : Hid (F.length = 18) := Lib.hid (by rw [← hF]; exact nodeCells_len _ _)
        have hF1 : Hid (∀ v ∈ F, v.oneCell' = true) := Lib.hid (by rw [← hF]; exact nodeCells_one _ _ _ _)
        obtain ⟨w4, hw4⟩ : ∃ w4, (w3.alloc (.cells Z.toArray 115)).setRow w3.heap.size F.toArray = w4 := ⟨_, rfl⟩
        have k4 : Kept (fun _ => False) w3 w4 := by rw [← hw4]; exact ((Kept.refl _ _).alloc _).setRowNew (Nat.le_refl _) _
        have bx4 : NodeBox w4 w3.heap.size n (.slice Av n.ents.length cap) := ⟨by rw [hF, ← hw4]; exact setRow_heap _ _ _ _ _ _ (heap_alloc_new _ _)⟩
        have c0 := bx4.c0
        rw [hk1] at c0
        have f4 := Lib.hid (show w4.heap[w3.heap.size]? = some (.cells F.toArray 115 (0, 0)) by rw [← hw4]; exact setRow_heap _ _ _ _ _ _ (heap_alloc_new _ _))
        have d4 := Lib.hid (k4.get (hk3.get d2'.out id) id)
        have kall := Lib.hid ((k12.out.trans hk3).trans k4)
        have hsz3 := k12.out.size
        have hown4 := Lib.hid (ownsRow.keptOf hown k4 (fun _ _ => id))
        rw [hF]
        have hF' := Lib.hid hF
        have hw4' := Lib.hid hw4
        clear hown hk3 hF k4 hw4 bx4 hk1
        go_wp2_with (first | (refine wpList_alloc_as 115 rfl rfl Z.toArray hZz.out ?_) | (refine wpList_store_whole 115 rfl rfl rfl F rfl (by rw [hFl.out]; exact node_size) 115 _ (heap_alloc_new _ _) (by simp [hFl.out, hZl.out]) hF1.out ?_; rw [hw4'.out]) | (refine wpList_exec rfl (exec_build 115 #[] _ rfl (by simp) (hbz.out _)) ?_) | (refine wpList_store_whole 115 rfl rfl rfl Z rfl (by rw [hZl.out]; exact node_size) 115 _ d4.out (by simp) hZ1.out ?_) | (refine wpList_load_agg 115 rfl rfl rfl _ Tryz.underlying115 rfl F (by rw [hFl.out]; exact node_size) (fun j v hv => by rw [cell_of_heap f4.out, Nat.zero_add]; simpa using hv) ?_) | (refine wpList_store_whole 115 rfl rfl rfl F rfl (by rw [hFl.out]; exact node_size) 115 _ d4.out (by simp [hFl.out, hZl.out]) hF1.out ?_))
        refine bodyPost_ret (results_row_tmp rfl _ _ (w.heap.size + 1) 115 Z.toArray (0, 0) _ rfl (setRow_heap _ _ _ _ 115 (0, 0) d4.out) Tryz.underlying115 rfl (by simp only [List.size_toArray]; rw [hZl.out]; exact node_size)) rfl ?_
        exact ⟨.slice none 0 0, by rw [hz2.out]; rfl, World.ownsRow_nil _ _ _ _, kall.out.setRowNew (by omega) _⟩
      · have hd8 : 8 ≤ d := by omega
        have hkk : (n.kind == 1) = false := by simpa using hk1
        have hd8' : (8 : Int) ≤ (d : Int) := by omega
        clear hbad hk1
        go_enter Tryz.func91, Tryz.ntmps91
        go_wp2_with (first | (refine wpList_box_named 26 rfl rfl _ rfl hw1'.out ?_) | (refine wpList_alloc_as 115 rfl rfl Z.toArray hZz.out ?_; rw [hw2'.out, s1'.out]))
        refine hG.out.mono ?_
        rintro e w3 ⟨v, rfl, hown, hk3⟩
        obtain ⟨Av, cap, rfl⟩ := tail.out w3 v hown hk3
        obtain ⟨F, hF⟩ : ∃ F, nodeCells n (.slice Av n.ents.length cap) = F := ⟨_, rfl⟩
        have hFl : Hid (F.length = 18) := Lib.hid (by rw [← hF]; exact nodeCells_len _ _)
        have hF1 : Hid (∀ v ∈ F, v.oneCell' = true) := Lib.hid (by rw [← hF]; exact nodeCells_one _ _ _ _)
        obtain ⟨w4, hw4⟩ : ∃ w4, (w3.alloc (.cells Z.toArray 115)).setRow w3.heap.size F.toArray = w4 := ⟨_, rfl⟩
        have k4 : Kept (fun _ => False) w3 w4 := by rw [← hw4]; exact ((Kept.refl _ _).alloc _).setRowNew (Nat.le_refl _) _
        have bx4 : NodeBox w4 w3.heap.size n (.slice Av n.ents.length cap) := ⟨by rw [hF, ← hw4]; exact setRow_heap _ _ _ _ _ _ (heap_alloc_new _ _)⟩
        have c0 := bx4.c0
        have f4 := Lib.hid (show w4.heap[w3.heap.size]? = some (.cells F.toArray 115 (0, 0)) by rw [← hw4]; exact setRow_heap _ _ _ _ _ _ (heap_alloc_new _ _))
        have d4 := Lib.hid (k4.get (hk3.get d2'.out id) id)
        have kall := Lib.hid ((k12.out.trans hk3).trans k4)
        have hsz3 := k12.out.size
        have hown4 := Lib.hid (ownsRow.keptOf hown k4 (fun _ _ => id))
        rw [hF]
        have hF' := Lib.hid hF
        have hw4' := Lib.hid hw4
        clear hown hk3 hF k4 hw4 bx4
        go_wp2_with (first | (refine wpList_alloc_as 115 rfl rfl Z.toArray hZz.out ?_) | (refine wpList_store_whole 115 rfl rfl rfl F rfl (by rw [hFl.out]; exact node_size) 115 _ (heap_alloc_new _ _) (by simp [hFl.out, hZl.out]) hF1.out ?_; rw [hw4'.out]) | (refine wpList_exec rfl (exec_build 115 #[] _ rfl (by simp) (hbz.out _)) ?_) | (refine wpList_store_whole 115 rfl rfl rfl Z rfl (by rw [hZl.out]; exact node_size) 115 _ d4.out (by simp) hZ1.out ?_) | (refine wpList_load_agg 115 rfl rfl rfl _ Tryz.underlying115 rfl F (by rw [hFl.out]; exact node_size) (fun j v hv => by rw [cell_of_heap f4.out, Nat.zero_add]; simpa using hv) ?_) | (refine wpList_store_whole 115 rfl rfl rfl F rfl (by rw [hFl.out]; exact node_size) 115 _ d4.out (by simp [hFl.out, hZl.out]) hF1.out ?_))
        refine bodyPost_ret (results_row_tmp rfl _ _ (w.heap.size + 1) 115 Z.toArray (0, 0) _ rfl (setRow_heap _ _ _ _ 115 (0, 0) d4.out) Tryz.underlying115 rfl (by simp only [List.size_toArray]; rw [hZl.out]; exact node_size)) rfl ?_
        exact ⟨.slice none 0 0, by rw [hz2.out]; rfl, World.ownsRow_nil _ _ _ _, kall.out.setRowNew (by omega) _⟩
    · rw [if_pos rfl, if_neg hbad] at hT
      rw [hT.out]
      have hkk : (n.kind == 1) = false := by simp; omega
      have hd8 : decide (8 ≤ d) = false := by simp; omega
      have hd8' : decide ((8 : Int) ≤ (d : Int)) = false := by simp; omega
      have hd9 : (d : Int) < 8 := by omega
      clear hbad
      go_enter Tryz.func91, Tryz.ntmps91
      go_wp2_with (first | (refine wpList_box_named 26 rfl rfl _ rfl hw1'.out ?_) | (refine wpList_alloc_as 115 rfl rfl Z.toArray hZz.out ?_; rw [hw2'.out, s1'.out]))
      refine hG.out.mono ?_
      rintro e w3 ⟨v, rfl, hown, hk3⟩
      obtain ⟨Av, cap, rfl⟩ := tail.out w3 v hown hk3
      obtain ⟨F, hF⟩ : ∃ F, nodeCells n (.slice Av n.ents.length cap) = F := ⟨_, rfl⟩
      have hFl : Hid (F.length = 18) := Lib.hid (by rw [← hF]; exact nodeCells_len _ _)
      have hF1 : Hid (∀ v ∈ F, v.oneCell' = true) := Lib.hid (by rw [← hF]; exact nodeCells_one _ _ _ _)
      obtain ⟨w4, hw4⟩ : ∃ w4, (w3.alloc (.cells Z.toArray 115)).setRow w3.heap.size F.toArray = w4 := ⟨_, rfl⟩
      have k4 : Kept (fun _ => False) w3 w4 := by rw [← hw4]; exact ((Kept.refl _ _).alloc _).setRowNew (Nat.le_refl _) _
      have bx4 : NodeBox w4 w3.heap.size n (.slice Av n.ents.length cap) := ⟨by rw [hF, ← hw4]; exact setRow_heap _ _ _ _ _ _ (heap_alloc_new _ _)⟩
      have c0 := bx4.c0
      have f4 := Lib.hid (show w4.heap[w3.heap.size]? = some (.cells F.toArray 115 (0, 0)) by rw [← hw4]; exact setRow_heap _ _ _ _ _ _ (heap_alloc_new _ _))
      have d4 := Lib.hid (k4.get (hk3.get d2'.out id) id)
      have kall := Lib.hid ((k12.out.trans hk3).trans k4)
      have hsz3 := k12.out.size
      have hown4 := Lib.hid (ownsRow.keptOf hown k4 (fun _ _ => id))
      rw [hF]
      have hF' := Lib.hid hF
      have hw4' := Lib.hid hw4
      clear hown hk3 hF k4 hw4 bx4
      go_wp2_with (first | (refine wpList_alloc_as 115 rfl rfl Z.toArray hZz.out ?_) | (refine wpList_store_whole 115 rfl rfl rfl F rfl (by rw [hFl.out]; exact node_size) 115 _ (heap_alloc_new _ _) (by simp [hFl.out, hZl.out]) hF1.out ?_; rw [hw4'.out]) | (refine wpList_exec rfl (exec_build 115 #[] _ rfl (by simp) (hbz.out _)) ?_) | (refine wpList_store_whole 115 rfl rfl rfl Z rfl (by rw [hZl.out]; exact node_size) 115 _ d4.out (by simp) hZ1.out ?_) | (refine wpList_load_agg 115 rfl rfl rfl _ Tryz.underlying115 rfl F (by rw [hFl.out]; exact node_size) (fun j v hv => by rw [cell_of_heap f4.out, Nat.zero_add]; simpa using hv) ?_) | (refine wpList_store_whole 115 rfl rfl rfl F rfl (by rw [hFl.out]; exact node_size) 115 _ d4.out (by simp [hFl.out, hZl.out]) hF1.out ?_))
      refine bodyPost_ret (results_row_tmp rfl _ _ (w.heap.size + 1) 115 F.toArray (0, 0) _ rfl (setRow_heap _ _ _ _ 115 (0, 0) d4.out) Tryz.underlying115 rfl (by simp only [List.size_toArray]; rw [hFl.out]; exact node_size)) rfl ?_
      have kS := (Kept.refl (fun i => i = w.heap.size + 1) w4).setRow rfl F.toArray
      have hs2 := (show w2.heap.size = w.heap.size + 2 by rw [← hw2'.out]; simp [s1'.out])
      exact ⟨.slice Av n.ents.length cap, by rw [hF'.out]; rfl, owns_weaken (ownsRow.keptOf hown4.out kS (fun g hg e => by have := (hown4.out.lt g hg).1; omega)) (by omega), kall.out.setRowNew (by omega) _⟩
  · rw [if_neg h0] at hT
    rw [hT.out]
    have h0' : ((er : Int) == 0) = false := by simp; omega
    clear h0
    go_enter Tryz.func91, Tryz.ntmps91
    go_wp2_with (first | (refine wpList_box_named 26 rfl rfl _ rfl hw1'.out ?_) | (refine wpList_alloc_as 115 rfl rfl Z.toArray hZz.out ?_; rw [hw2'.out, s1'.out]))
    refine hG.out.mono ?_
    rintro e w3 ⟨v, rfl, hown, hk3⟩
    obtain ⟨Av, cap, rfl⟩ := tail.out w3 v hown hk3
    obtain ⟨F, hF⟩ : ∃ F, nodeCells n (.slice Av n.ents.length cap) = F := ⟨_, rfl⟩
    have hFl : Hid (F.length = 18) := Lib.hid (by rw [← hF]; exact nodeCells_len _ _)
    have hF1 : Hid (∀ v ∈ F, v.oneCell' = true) := Lib.hid (by rw [← hF]; exact nodeCells_one _ _ _ _)
    obtain ⟨w4, hw4⟩ : ∃ w4, (w3.alloc (.cells Z.toArray 115)).setRow w3.heap.size F.toArray = w4 := ⟨_, rfl⟩
    have k4 : Kept (fun _ => False) w3 w4 := by rw [← hw4]; exact ((Kept.refl _ _).alloc _).setRowNew (Nat.le_refl _) _
    have bx4 : NodeBox w4 w3.heap.size n (.slice Av n.ents.length cap) := ⟨by rw [hF, ← hw4]; exact setRow_heap _ _ _ _ _ _ (heap_alloc_new _ _)⟩
    have c0 := bx4.c0
    have f4 := Lib.hid (show w4.heap[w3.heap.size]? = some (.cells F.toArray 115 (0, 0)) by rw [← hw4]; exact setRow_heap _ _ _ _ _ _ (heap_alloc_new _ _))
    have d4 := Lib.hid (k4.get (hk3.get d2'.out id) id)
    have kall := Lib.hid ((k12.out.trans hk3).trans k4)
    have hsz3 := k12.out.size
    have hown4 := Lib.hid (ownsRow.keptOf hown k4 (fun _ _ => id))
    rw [hF]
    have hF' := Lib.hid hF
    have hw4' := Lib.hid hw4
    clear hown hk3 hF k4 hw4 bx4
    go_wp2_with (first | (refine wpList_alloc_as 115 rfl rfl Z.toArray hZz.out ?_) | (refine wpList_store_whole 115 rfl rfl rfl F rfl (by rw [hFl.out]; exact node_size) 115 _ (heap_alloc_new _ _) (by simp [hFl.out, hZl.out]) hF1.out ?_; rw [hw4'.out]) | (refine wpList_exec rfl (exec_build 115 #[] _ rfl (by simp) (hbz.out _)) ?_) | (refine wpList_store_whole 115 rfl rfl rfl Z rfl (by rw [hZl.out]; exact node_size) 115 _ d4.out (by simp) hZ1.out ?_) | (refine wpList_load_agg 115 rfl rfl rfl _ Tryz.underlying115 rfl F (by rw [hFl.out]; exact node_size) (fun j v hv => by rw [cell_of_heap f4.out, Nat.zero_add]; simpa using hv) ?_) | (refine wpList_store_whole 115 rfl rfl rfl F rfl (by rw [hFl.out]; exact node_size) 115 _ d4.out (by simp [hFl.out, hZl.out]) hF1.out ?_))
    refine bodyPost_ret (results_row_tmp rfl _ _ (w.heap.size + 1) 115 Z.toArray (0, 0) _ rfl (setRow_heap _ _ _ _ 115 (0, 0) d4.out) Tryz.underlying115 rfl (by simp only [List.size_toArray]; rw [hZl.out]; exact node_size)) rfl ?_
    exact ⟨.slice none 0 0, by rw [hz2.out]; rfl, World.ownsRow_nil _ _ _ _, kall.out.setRowNew (by omega) _⟩
end Go.Proofs.YtidlchciehdefaaGreat
/-
  Trees (package tree): what is safe from a store's calls; making whatever node.
-/
namespace Go.Proofs.YtidlchciehdefaaGreat
open Go.RowKit
set_option maxRecDepth 100000

theorem storeMake {w : World} {A : SA} {M : SM} (h : StoreAt w A M) {n : NM} {sv : Value} (hv : EntsOff w A sv n.ents) (hb : n.block.length = 16) (hb2 : ∀ b ∈ n.block, b < 256) (hfew : M.log.length < 100000000) :
    Calls Tryz.prog 64 #[.pointer (some ⟨A.sb, 0, none⟩), .agg (nodeCells n sv).toArray] w fun e w' => ∃ A', e = .returned (.tuple #[.int .i64 (M.make n).2.1, .int .i64 (M.make n).2.2]) ∧ StoreTo A A' (M.make n).1 w w' := by
  by_cases hr : n.rightB = true
  · exact makeGood h hv ⟨hr, hb, hb2⟩ hfew
  · exact makeBad h hv.at_ hb (by simpa using hr)
theorem make_log (M : SM) (n : NM) : (M.make n).1.log.length ≤ M.log.length + 1 := by
  unfold SM.make
  split
  · split
    · exact Nat.le_succ _
    · split
      · exact Nat.le_succ _
      · simp
  · exact Nat.le_succ _
/-- A block that no call of a store writes. -/
structure Safe (w : World) (A : SA) (b : Nat) : Prop where
  lt : b < w.heap.size
  off : ¬ A.foot b
theorem Safe.to {A A' : SA} {M' : SM} {w w' : World} {b : Nat} (h : Safe w A b) (k : StoreTo A A' M' w w') : Safe w' A' b :=
  ⟨Nat.lt_of_lt_of_le h.lt k.kept.size, fun e => (k.foot b e).elim h.off fun e => absurd h.lt (Nat.not_lt.2 e)⟩
theorem Safe.fresh {A : SA} {w w' : World} {b : Nat} (h : Safe w A b) (k : Kept (fun _ => False) w w') : Safe w' A b := ⟨Nat.lt_of_lt_of_le h.lt k.size, h.off⟩
theorem StoreTo.get {A A' : SA} {M' : SM} {w w' : World} {b : Nat} {o : Obj} (k : StoreTo A A' M' w w') (h : w.heap[b]? = some o) (hs : Safe w A b) : w'.heap[b]? = some o := k.kept.get h hs.off
/-- A new block is safe. -/
theorem Safe.new {A : SA} {M : SM} {w w' : World} {b : Nat} (h : StoreAt w A M) (hb : w.heap.size ≤ b) (hlt : b < w'.heap.size) : Safe w' A b := ⟨hlt, fun e => absurd (h.lt (.inl e)) (Nat.not_lt.2 hb)⟩
/-- Entries that a call owns, and that no call of a store writes. -/
structure OutAt (w : World) (A : SA) (base : Nat) (v : Value) (l : List (Int × Int)) : Prop where
  own : w.ownsRow base 86 2 v l.length (entCells l)
  off : ∀ b, v.ownBlock = some b → ¬ A.foot b
theorem OutAt.to {A A' : SA} {M' : SM} {w w' : World} {base : Nat} {v : Value} {l : List (Int × Int)} (h : OutAt w A base v l) (k : StoreTo A A' M' w w') : OutAt w' A' base v l :=
  ⟨ownsRow.keptOf h.own k.kept h.off, fun b hb e => (k.foot b e).elim (h.off b hb) fun e => absurd (h.own.lt b hb).2 (Nat.not_lt.2 e)⟩
theorem OutAt.fresh {A : SA} {w w' : World} {base : Nat} {v : Value} {l : List (Int × Int)} (h : OutAt w A base v l) (k : Kept (fun _ => False) w w') : OutAt w' A base v l :=
  ⟨ownsRow.keptOf h.own k (fun _ _ => id), h.off⟩
theorem OutAt.ents {A : SA} {w : World} {base : Nat} {v : Value} {l : List (Int × Int)} (h : OutAt w A base v l) : EntsOff w A v l := ⟨SliceAt.of_owns h.own, fun _ b hb => ⟨(h.own.lt b hb).2, h.off b hb⟩⟩
theorem OutAt.nil (w : World) (A : SA) (base : Nat) : OutAt w A base (.slice none 0 0) [] := ⟨World.ownsRow_nil _ _ _ _, fun b hb => by simp [Value.ownBlock] at hb⟩
/-- One entry more. -/
theorem OutAt.more {A : SA} {M : SM} {w w' : World} {base : Nat} {v v' : Value} {l : List (Int × Int)} {x : Int × Int} (h : OutAt w A base v l) (hs : StoreAt w A M)
    (ho : w'.ownsRow base 86 2 v' (l.length + 1) (entCells l ++ [.int .i64 x.1, .int .i64 x.2])) (ha : v'.ownBlock = v.ownBlock ∨ v'.ownBlock = some w.heap.size) : OutAt w' A base v' (l ++ [x]) := by
  refine ⟨?_, fun b hb e => ?_⟩
  · have : entCells (l ++ [x]) = entCells l ++ [.int .i64 x.1, .int .i64 x.2] := by rw [entCells_append]; rfl
    rw [this, List.length_append]; exact ho
  · rcases ha with ha | ha
    · exact h.off b (by rw [← ha]; exact hb) e
    · rw [ha] at hb
      cases hb
      exact Nat.lt_irrefl _ (hs.lt (.inl e))
/-- An append leaves a store as it was. -/
theorem StoreTo.grown {A A' : SA} {M' : SM} {w wr w' : World} {v : Value} (k : StoreTo A A' M' w wr) (hg : wr.grownBy w' v.ownBlock) (ho : ∀ b, v.ownBlock = some b → w.heap.size ≤ b ∧ ¬ A'.own b) : StoreTo A A' M' w w' := by
  have kg : Kept (fun i => v.ownBlock = some i) wr w' := Kept.of_grown hg
  refine ⟨k.store.kept kg fun i hi e => (ho i e).2 hi, k.kept.trans_new kg fun i hi e => absurd hi (Nat.not_lt.2 (ho i e).1), k.foot, k.sb, k.fix⟩
theorem entsAt_take {w : World} {A : Option Addr} {n cap m : Nat} {l : List (Int × Int)} (h : EntsAt w (.slice A n cap) l) (hm : m ≤ n) (hn : n = l.length) : EntsAt w (.slice A m cap) (l.take m) := by
  obtain ⟨hl, A', cap', hv, h1, h2, h3⟩ := h
  cases hv
  have e : entCells (l.take m) = (entCells l).take (m * 2) := by
    have h4 : entCells l = entCells (l.take m) ++ entCells (l.drop m) := by rw [← entCells_append, List.take_append_drop]
    rw [h4, List.take_left' (by rw [entCells_len, List.length_take]; omega)]
  have hlt : (l.take m).length = m := by rw [List.length_take]; omega
  refine ⟨entCells_len _, A, cap, by rw [hlt], by rw [hlt]; omega, h2, fun j u hj => ?_⟩
  rw [e, List.getElem?_take] at hj
  split at hj
  · exact h3 j u hj
  · cases hj
theorem entsAt_drop {w : World} {b off n cap m : Nat} {l : List (Int × Int)} (h : EntsAt w (.slice (some ⟨b, off, none⟩) n cap) l) (hm : m ≤ n) (hn : n = l.length) : EntsAt w (.slice (some ⟨b, off + m * 2, none⟩) (n - m) (cap - m)) (l.drop m) := by
  obtain ⟨hl, A', cap', hv, h1, h2, h3⟩ := h
  cases hv
  have e : entCells (l.drop m) = (entCells l).drop (m * 2) := by
    have h4 : entCells l = entCells (l.take m) ++ entCells (l.drop m) := by rw [← entCells_append, List.take_append_drop]
    rw [h4, List.drop_left' (by rw [entCells_len, List.length_take]; omega)]
  have hlt : (l.drop m).length = l.length - m := by rw [List.length_drop]
  refine ⟨entCells_len _, _, cap - m, by rw [hlt], by rw [hlt]; omega, by omega, fun j u hj => ?_⟩
  rw [e, List.getElem?_drop] at hj
  obtain ⟨b', off', hA, hc⟩ := h3 _ u hj
  cases hA
  exact ⟨b, off + m * 2, rfl, by rw [Nat.add_assoc]; exact hc⟩
end Go.Proofs.YtidlchciehdefaaGreat
/-
  Trees (package tree): what splitting holds between its steps.
-/
namespace Go.Proofs.YtidlchciehdefaaGreat
open Go.RowKit
set_option maxRecDepth 100000

theorem makes_cons (kind : Int) (p : List (Int × Int)) (ps : List (List (Int × Int))) (M : SM) (out : List (Int × Int)) :
    SM.makes kind (p :: ps) M out = if (M.make ⟨kind, zeros16, p⟩).2.2 = 0 then SM.makes kind ps (M.make ⟨kind, zeros16, p⟩).1 (out ++ [((p.getD 0 (0, 0)).1, (M.make ⟨kind, zeros16, p⟩).2.1)]) else ((M.make ⟨kind, zeros16, p⟩).1, [], (M.make ⟨kind, zeros16, p⟩).2.2) := rfl
theorem run_build_part (w : World) (k : Int) (p : List (Int × Int)) (A : Option Addr) (m c : Nat) : (Instr.build 115 #[(0, .int .i64 k), (2, .slice A m c)]).run Tryz.prog w = .ok (.agg (nodeCells ⟨k, zeros16, p⟩ (.slice A m c)).toArray) w := run_build _ _ _ _ (by kernel_rfl)
structure SplitSt (w : World) (A : SA) (n : NM) (sv : Value) (gp : Nat) (vs : List Value) (ps : List (List (Int × Int))) (wr : World) (A' : SA) (M' : SM) (v : Value) (out : List (Int × Int)) : Prop where
  to_ : StoreTo A A' M' w wr
  out_ : OutAt wr A' w.heap.size v out
  parts : wr.heap[gp]? = some (.cells vs.toArray 94 (0, 0))
  sp : Safe wr A' gp
  tb : wr.heap[w.heap.size]? = some (.cells #[.pointer (some ⟨A.sb, 0, none⟩)] 26 (0, 0))
  st : Safe wr A' w.heap.size
  nb : NodeBox wr (w.heap.size + 1) n sv
  sn : Safe wr A' (w.heap.size + 1)
  ents : ∀ (i : Nat) (u : Value) (p : List (Int × Int)), vs[i]? = some u → ps[i]? = some p → EntsOff wr A' u p
section
variable {w : World} {A : SA} {n : NM} {sv : Value} {gp : Nat} {vs : List Value} {ps : List (List (Int × Int))} {wr : World} {A' : SA} {M' : SM} {v : Value} {out : List (Int × Int)} {M0 : SM}
theorem SplitSt.fresh {w' : World} (h : SplitSt w A n sv gp vs ps wr A' M' v out) (kk : Kept (fun _ => False) wr w') : SplitSt w A n sv gp vs ps w' A' M' v out :=
  ⟨h.to_.fresh kk, h.out_.fresh kk, kk.get h.parts id, h.sp.fresh kk, kk.get h.tb id, h.st.fresh kk, h.nb.kept kk id, h.sn.fresh kk, fun i u p hu hp => (h.ents i u p hu hp).fresh kk⟩
theorem SplitSt.step {w' : World} {A2 : SA} {M2 : SM} (h : SplitSt w A n sv gp vs ps wr A' M' v out) (kk : StoreTo A' A2 M2 wr w') : SplitSt w A n sv gp vs ps w' A2 M2 v out :=
  ⟨h.to_.trans kk, h.out_.to kk, kk.get h.parts h.sp, h.sp.to kk, kk.get h.tb h.st, h.st.to kk, ⟨kk.get h.nb.heap h.sn⟩, h.sn.to kk, fun i u p hu hp => (h.ents i u p hu hp).to kk⟩
theorem OutAt.types {base : Nat} (h : OutAt wr A' base v out) {b : Nat} {o : Obj} (hb : wr.heap[b]? = some o) (ho : ∀ cur, o ≠ .cells cur 86 (0, 0)) : v.ownBlock ≠ some b := by
  rcases h.own.2 with ⟨rfl, _⟩ | ⟨g, cap, cur, rfl, _, hg, _⟩
  · simp [Value.ownBlock]
  · intro e
    simp [Value.ownBlock] at e
    subst e
    rw [hg] at hb
    exact ho cur (by cases hb; rfl)
/-- The slices of the parts lie in blocks that aren't the result's. -/
theorem SplitSt.more {w2 : World} {v2 : Value} {x : Int × Int} (h : SplitSt w A n sv gp vs ps wr A' M' v out) (hents : ∀ (i : Nat) (u : Value) (b : Nat), vs[i]? = some u → u.ownBlock = some b → b < w.heap.size)
    (ho : w2.ownsRow w.heap.size 86 2 v2 (out.length + 1) (entCells out ++ [.int .i64 x.1, .int .i64 x.2])) (hg : wr.grownBy w2 v.ownBlock) (ha : v2.ownBlock = v.ownBlock ∨ v2.ownBlock = some wr.heap.size) (hA : StoreAt w A M0) :
    SplitSt w A n sv gp vs ps w2 A' M' v2 (out ++ [x]) := by
  have kg : Kept (fun i => v.ownBlock = some i) wr w2 := Kept.of_grown hg
  have hsz := kg.size
  have hown : ∀ b, v.ownBlock = some b → ¬ A'.own b := fun b hb e => by
    have hb1 := (h.out_.own.lt b hb).1
    rcases e with e | e | e
    · exact h.out_.off b hb e
    · rw [h.to_.fix.2] at e
      have := hA.lt (k := A.gm) (.inr (.inl rfl))
      omega
    · rw [h.to_.fix.1] at e
      have := hA.lt (k := b) (.inr (.inr e))
      omega
  refine ⟨h.to_.grown hg (fun b hb => ⟨(h.out_.own.lt b hb).1, hown b hb⟩), h.out_.more h.to_.store ho ha, kg.get h.parts (h.out_.types h.parts (by simp)), ⟨Nat.lt_of_lt_of_le h.sp.lt hsz, h.sp.off⟩,
    kg.get h.tb (h.out_.types h.tb (by simp)), ⟨Nat.lt_of_lt_of_le h.st.lt hsz, h.st.off⟩, ⟨kg.get h.nb.heap (h.out_.types h.nb.heap (by simp))⟩, ⟨Nat.lt_of_lt_of_le h.sn.lt hsz, h.sn.off⟩, fun i u p hu hp => ?_⟩
  have := h.ents i u p hu hp
  exact ⟨SliceAt.kept this.at_ kg (fun b hb e => by have := hents i u b hu hb; have := (h.out_.own.lt b e).1; omega), fun hl b hb => ⟨Nat.lt_of_lt_of_le (this.off hl b hb).1 hsz, (this.off hl b hb).2⟩⟩
end
end Go.Proofs.YtidlchciehdefaaGreat
/-
  Trees (package tree): entries split into nodes (printed by gen_treed.py).
-/
namespace Go.Proofs.YtidlchciehdefaaGreat
open Go.RowKit
set_option maxRecDepth 100000

set_option maxHeartbeats 4000000 in
theorem splitSmall {w : World} {A : SA} {M : SM} (h : StoreAt w A M) {n : NM} {sv : Value} (hv : EntsOff w A sv n.ents) (hl1 : 1 ≤ n.ents.length) (hl6 : n.ents.length ≤ 6) (hfew : M.log.length + 2 < 100000000) :
    Calls Tryz.prog 137 #[.agg #[.pointer (some ⟨A.sb, 0, none⟩)], .agg (nodeCells n sv).toArray] w fun e w' => ∃ A' v, e = .returned (.tuple #[v, .int .i64 (M.split n).2.2]) ∧ StoreTo A A' (M.split n).1 w w' ∧ OutAt w' A' w.heap.size v (M.split n).2.1 := by
  obtain ⟨A0, cap, rfl, hc1, hc2⟩ := hv.at_.form
  have hc2' := hc2
  unfold maxLen at hc2
  obtain ⟨cs, hcs⟩ : ∃ cs, nodeCells n (.slice A0 n.ents.length cap) = cs := ⟨_, rfl⟩
  obtain ⟨w1, hw1⟩ : ∃ w1, w.alloc (.cells #[.pointer (some ⟨A.sb, 0, none⟩)] 26) = w1 := ⟨_, rfl⟩
  obtain ⟨w2, hw2⟩ : ∃ w2, w1.alloc (.cells cs.toArray 115) = w2 := ⟨_, rfl⟩
  have k1 : Kept (fun _ => False) w w1 := by rw [← hw1]; exact (Kept.refl _ _).alloc _
  have k2 : Kept (fun _ => False) w1 w2 := by rw [← hw2]; exact (Kept.refl _ _).alloc _
  have s1 : w1.heap.size = w.heap.size + 1 := by rw [← hw1]; simp
  have s2 : w2.heap.size = w.heap.size + 2 := by rw [← hw2]; simp [s1]
  have t1 : w1.heap[w.heap.size]? = some (.cells #[.pointer (some ⟨A.sb, 0, none⟩)] 26 (0, 0)) := by rw [← hw1]; exact heap_alloc_new _ _
  have bx2 : NodeBox w2 (w.heap.size + 1) n (.slice A0 n.ents.length cap) := ⟨by rw [hcs, ← hw2, ← s1]; exact heap_alloc_new _ _⟩
  have c17 := bx2.c17
  have h' := Lib.hid h
  obtain ⟨ps, hps⟩ : ∃ ps, [n.ents] = ps := ⟨_, rfl⟩
  obtain ⟨vs, hvs⟩ : ∃ vs, [Value.slice A0 n.ents.length cap] = vs := ⟨_, rfl⟩
  have hsp : Hid (M.split n = SM.makes n.kind ps M []) := Lib.hid (by unfold SM.split partsOf; rw [if_neg (by omega), if_neg (by omega), if_neg (by omega), hps])
  have hpsl : Hid (ps.length = 1) := Lib.hid (by rw [← hps]; rfl)
  have hvsl : vs.length = 1 := by rw [← hvs]; rfl
  have hes : ∀ (i : Nat) (u : Value) (p : List (Int × Int)), vs[i]? = some u → ps[i]? = some p → EntsOff w A u p := fun i u p hu hp => by
    rw [← hvs] at hu; rw [← hps] at hp
    cases i with
    | zero => simp at hu hp; subst hu hp; exact hv
    | succ i => simp at hu
  have hpart : Hid (∀ k, k < 1 → ∃ (p : List (Int × Int)) (u : Value), ps[k]? = some p ∧ vs[k]? = some u ∧ 0 < p.length ∧ ∃ Au mu cu, u = .slice Au mu cu) := Lib.hid (fun k hk => by
    obtain rfl : k = 0 := by omega
    exact ⟨n.ents, _, by rw [← hps]; rfl, by rw [← hvs]; rfl, by omega, A0, n.ents.length, cap, rfl⟩)
  have hst0 : Hid (SplitSt w A n (.slice A0 n.ents.length cap) w2.heap.size vs ps (w2.alloc (.cells vs.toArray 94)) A M (.slice none 0 0) []) := Lib.hid (by
    have k3 := (Kept.refl (fun _ => False) w2).alloc (.cells vs.toArray 94)
    have kk := (k1.trans k2).trans k3
    have hsz : (w2.alloc (.cells vs.toArray 94)).heap.size = w.heap.size + 3 := by simp [s2]
    exact ⟨(StoreTo.refl h).fresh kk, OutAt.nil _ _ _, heap_alloc_new _ _, Safe.new h (by omega) (by omega), (k2.trans k3).get t1 id, Safe.new h (by omega) (by omega), bx2.kept k3 id, Safe.new h (by omega) (by omega), fun i u p hu hp => (hes i u p hu hp).fresh kk⟩)
  have hub : Hid (∀ (i : Nat) (u : Value) (b : Nat), vs[i]? = some u → u.ownBlock = some b → b < w.heap.size) := Lib.hid (fun i u b hu hb => by
    have hi : i < vs.length := (List.getElem?_eq_some_iff.1 hu).1
    obtain ⟨p, hp⟩ : ∃ p, ps[i]? = some p := ⟨_, List.getElem?_eq_getElem (by rw [hpsl.out]; rw [hvsl] at hi; exact hi)⟩
    exact ((hes i u p hu hp).off (by obtain ⟨p', u', h1, _, h3, _⟩ := hpart.out i (by omega); rw [hp] at h1; cases h1; intro e; rw [e] at h3; cases h3) b hb).1)
  have hw1' := Lib.hid hw1
  have hw2' := Lib.hid hw2
  have s1' := Lib.hid s1
  have hvs' : Hid (w2.alloc (.cells #[.slice A0 n.ents.length cap] 94) = w2.alloc (.cells vs.toArray 94)) := Lib.hid (by rw [← hvs])
  obtain ⟨w3, hw3⟩ : ∃ w3, w2.alloc (.cells vs.toArray 94) = w3 := ⟨_, rfl⟩
  rw [hw3] at hst0 hvs'
  have hn0 : ((n.ents.length : Int) == 0) = false := by rw [beq_eq_false_iff_ne]; omega
  have hn6 : decide ((6 : Int) < (n.ents.length : Int)) = false := by rw [decide_eq_false_iff_not]; omega
  have hn12 : decide ((12 : Int) < (n.ents.length : Int)) = false := by rw [decide_eq_false_iff_not]; omega
  rw [hcs]
  clear hcs hw1 hw2 k1 k2 s1 s2 t1 bx2 h hv hps hvs hes hw3 hvsl
  go_enter Tryz.func137, Tryz.ntmps137
  go_wp2_with (first | (refine wpList_box_named 26 rfl rfl _ rfl hw1'.out ?_) | (refine wpList_box_named 115 rfl rfl _ rfl hw2'.out ?_; rw [s1'.out]))
  rw [hvs'.out]
  go_loopw [8, 41] (fun v x wr => ∃ (k : Nat) (A' : SA) (M' : SM) (out : List (Int × Int)), k ≤ 1 ∧ x = .int .i64 k ∧ Hid (SplitSt w A n (.slice A0 n.ents.length cap) w2.heap.size vs ps wr A' M' v out) ∧ Hid (SM.makes n.kind (ps.drop k) M' out = SM.makes n.kind ps M [] ∧ out.length = k ∧ M'.log.length ≤ M.log.length + k)) (fun _ x _ => 1 - (intOf x).toNat)
  case atStart => exact ⟨0, A, M, [], by omega, rfl, hst0, Lib.hid ⟨rfl, rfl, Nat.le_refl _⟩⟩
  case round =>
    obtain ⟨k, A', M', out, hk, rfl, hst, hq⟩ := hrel
    by_cases hlt : k < 1
    · obtain ⟨p, u, hp, hu, hp0, Au, mu, cu, rfl⟩ := hpart.out k hlt
      have cu' := cell_of_heap hst.out.parts k
      rw [show vs.toArray[k]? = some (.slice Au mu cu) by simpa using hu] at cu'
      have ct := cell_of_heap hst.out.tb 0
      simp at ct
      have c0 := hst.out.nb.c0
      have hen := hst.out.ents k _ p hu hp
      have hmk := storeMake (n := ⟨n.kind, zeros16, p⟩) hst.out.to_.store hen (by rfl) (by intro b hb; have := List.eq_of_mem_replicate hb; omega) (by have := hq.out.2.2; omega)
      rw [hst.out.to_.sb] at hmk
      have hstep : Hid (SM.makes n.kind (ps.drop k) M' out = if (M'.make ⟨n.kind, zeros16, p⟩).2.2 = 0 then SM.makes n.kind (ps.drop (k + 1)) (M'.make ⟨n.kind, zeros16, p⟩).1 (out ++ [((p.getD 0 (0, 0)).1, (M'.make ⟨n.kind, zeros16, p⟩).2.1)]) else ((M'.make ⟨n.kind, zeros16, p⟩).1, [], (M'.make ⟨n.kind, zeros16, p⟩).2.2)) := Lib.hid (by
        obtain ⟨hkl, hpe⟩ := List.getElem?_eq_some_iff.1 hp
        rw [List.drop_eq_getElem_cons hkl, hpe, makes_cons])
      have hlog := Lib.hid (make_log M' ⟨n.kind, zeros16, p⟩)
      obtain ⟨R, hR⟩ : ∃ R, M'.make ⟨n.kind, zeros16, p⟩ = R := ⟨_, rfl⟩
      rw [hR] at hmk hstep hlog
      obtain ⟨M2, pg, er⟩ := R
      dsimp only at hmk
      have hmk' := Lib.hid hmk
      have hp' := Lib.hid hp
      have hu' := Lib.hid hu
      have hp0' := Lib.hid hp0
      clear hmk hR hen hp hu hp0
      go_wp2_with (refine wpList_exec rfl (exec_build 115 #[(0, .tmp 49), (2, .tmp 50)] _ rfl (by simp [Act.eval]) (run_build_part _ _ p _ _ _)) ?_)
      refine hmk'.out.mono ?_
      rintro e w8 ⟨A2, rfl, hT8⟩
      have hst8 := Lib.hid (hst.out.step hT8)
      clear hT8 cu' ct c0
      by_cases h0 : er = 0
      · subst h0
        have hst9 := hstep.out
        rw [if_pos (by rfl)] at hst9
        have hstep' := Lib.hid hst9
        obtain ⟨x, hx⟩ : ∃ x, p[0]? = some x := ⟨_, List.getElem?_eq_getElem hp0'.out⟩
        have hxd : Hid ((p.getD 0 (0, 0)).1 = x.1) := Lib.hid (by simp [hx])
        have hen8 := hst8.out.ents k _ p hu'.out hp'.out
        obtain ⟨Aq, cq, hv, _⟩ := EntsAt.form hen8.at_
        cases hv
        obtain ⟨b, off, rfl, hbl, hx1, _⟩ := EntsAt.get hen8.at_ hx
        rw [Nat.zero_mul, Nat.add_zero] at hx1
        have hpl : 0 < p.length := hp0'.out
        have hw9 : Hid (SplitSt w A n (.slice A0 n.ents.length cap) w2.heap.size vs ps (w8.alloc (.cells #[.int .i64 x.1, .int .i64 pg] 86)) A2 M2 _ out) := Lib.hid (hst8.out.fresh ((Kept.refl _ _).alloc _))
        have hlen := hq.out.2.1
        have hsz9 := hw9.out.to_.kept.size
        clear hen8 hst9 hx
        go_wp2_with (at_builtin; refine wpList_append_src rfl elemEntry (.tmp 58) (.tmp 65) rfl (by rfl) (by rfl) hw9.out.out_.own (SliceAt.block_new (ys := [.int .i64 x.1, .int .i64 pg]) (m := 1) (heap_alloc_new _ _) (by rfl) (by decide)) (by intro c hc; simp at hc; rcases hc with rfl | rfl <;> rfl) (by omega) (by omega) hsz9 ?_; intro v2 w10 hown10 hg10 hat10)
        have hst10 := Lib.hid (hw9.out.more (x := (x.1, pg)) (M0 := M) (fun i u b hu hb => hub.out i u b hu hb) hown10 hg10 hat10 h'.out)
        clear hown10 hg10 hat10
        go_roundw
        case rel => exact ⟨k + 1, A2, M2, out ++ [(x.1, pg)], by omega, by go_num, hst10, Lib.hid ⟨by have h1 := hstep'.out; rw [hxd.out] at h1; rw [← h1]; exact hq.out.1, by simp [hlen], by have := hlog.out; have := hq.out.2.2; omega⟩⟩
        case measure => simp [intOf]; omega
      · have h0' : ((er : Int) == 0) = false := by simp; omega
        have hst9 := hstep.out
        rw [if_neg (by exact h0)] at hst9
        have hend : Hid (M.split n = (M2, [], er)) := Lib.hid (by rw [hsp.out, ← hq.out.1]; exact hst9)
        clear h0 hst9
        go_wp2_with fail
        go_ret2
        exact ⟨A2, .slice none 0 0, by rw [hend.out]; rfl, by rw [hend.out]; exact hst8.out.to_, by rw [hend.out]; exact OutAt.nil _ _ _⟩
    · obtain rfl : k = 1 := by omega
      have hend : Hid (M.split n = (M', out, 0)) := Lib.hid (by rw [hsp.out, ← hq.out.1, List.drop_eq_nil_of_le (by rw [hpsl.out]; omega)]; rfl)
      go_wp2_with fail
      go_ret2
      exact ⟨A', _, by rw [hend.out]; rfl, by rw [hend.out]; exact hst.out.to_, by rw [hend.out]; exact hst.out.out_⟩

theorem splitNone {w : World} {A : SA} {M : SM} (h : StoreAt w A M) {n : NM} {sv : Value} (hv : EntsOff w A sv n.ents) (hl : n.ents.length = 0) :
    Calls Tryz.prog 137 #[.agg #[.pointer (some ⟨A.sb, 0, none⟩)], .agg (nodeCells n sv).toArray] w fun e w' => ∃ A' v, e = .returned (.tuple #[v, .int .i64 (M.split n).2.2]) ∧ StoreTo A A' (M.split n).1 w w' ∧ OutAt w' A' w.heap.size v (M.split n).2.1 := by
  obtain ⟨A0, cap, rfl, hc1, hc2⟩ := hv.at_.form
  have hc2' := hc2
  unfold maxLen at hc2
  obtain ⟨cs, hcs⟩ : ∃ cs, nodeCells n (.slice A0 n.ents.length cap) = cs := ⟨_, rfl⟩
  obtain ⟨w1, hw1⟩ : ∃ w1, w.alloc (.cells #[.pointer (some ⟨A.sb, 0, none⟩)] 26) = w1 := ⟨_, rfl⟩
  obtain ⟨w2, hw2⟩ : ∃ w2, w1.alloc (.cells cs.toArray 115) = w2 := ⟨_, rfl⟩
  have k1 : Kept (fun _ => False) w w1 := by rw [← hw1]; exact (Kept.refl _ _).alloc _
  have k2 : Kept (fun _ => False) w1 w2 := by rw [← hw2]; exact (Kept.refl _ _).alloc _
  have s1 : w1.heap.size = w.heap.size + 1 := by rw [← hw1]; simp
  have s2 : w2.heap.size = w.heap.size + 2 := by rw [← hw2]; simp [s1]
  have t1 : w1.heap[w.heap.size]? = some (.cells #[.pointer (some ⟨A.sb, 0, none⟩)] 26 (0, 0)) := by rw [← hw1]; exact heap_alloc_new _ _
  have bx2 : NodeBox w2 (w.heap.size + 1) n (.slice A0 n.ents.length cap) := ⟨by rw [hcs, ← hw2, ← s1]; exact heap_alloc_new _ _⟩
  have c17 := bx2.c17
  have h' := Lib.hid h
  have hsp : Hid (M.split n = (M, [], 0)) := Lib.hid (by unfold SM.split partsOf; rw [if_neg (by omega), if_pos hl]; rfl)
  have kall := Lib.hid ((k1.trans k2).alloc (.cells #[.slice A0 n.ents.length cap] 94))
  have hn0 : ((n.ents.length : Int) == 0) = true := by rw [beq_iff_eq]; omega
  have hn12 : decide ((12 : Int) < (n.ents.length : Int)) = false := by rw [decide_eq_false_iff_not]; omega
  have hw1' := Lib.hid hw1
  have hw2' := Lib.hid hw2
  have s1' := Lib.hid s1
  rw [hcs]
  clear hcs hw1 hw2 k1 k2 s1 s2 t1 bx2 h hv hl
  go_enter Tryz.func137, Tryz.ntmps137
  go_wp2_with (first | (refine wpList_box_named 26 rfl rfl _ rfl hw1'.out ?_) | (refine wpList_box_named 115 rfl rfl _ rfl hw2'.out ?_; rw [s1'.out]))
  go_ret2
  exact ⟨A, .slice none 0 0, by rw [hsp.out]; rfl, by rw [hsp.out]; exact (StoreTo.refl h'.out).fresh kall.out, by rw [hsp.out]; exact OutAt.nil _ _ _⟩
theorem splitOver {w : World} {A : SA} {M : SM} (h : StoreAt w A M) {n : NM} {sv : Value} (hv : EntsOff w A sv n.ents) (hl : 12 < n.ents.length) :
    Calls Tryz.prog 137 #[.agg #[.pointer (some ⟨A.sb, 0, none⟩)], .agg (nodeCells n sv).toArray] w fun e w' => ∃ A' v, e = .returned (.tuple #[v, .int .i64 (M.split n).2.2]) ∧ StoreTo A A' (M.split n).1 w w' ∧ OutAt w' A' w.heap.size v (M.split n).2.1 := by
  obtain ⟨A0, cap, rfl, hc1, hc2⟩ := hv.at_.form
  have hc2' := hc2
  unfold maxLen at hc2
  obtain ⟨cs, hcs⟩ : ∃ cs, nodeCells n (.slice A0 n.ents.length cap) = cs := ⟨_, rfl⟩
  obtain ⟨w1, hw1⟩ : ∃ w1, w.alloc (.cells #[.pointer (some ⟨A.sb, 0, none⟩)] 26) = w1 := ⟨_, rfl⟩
  obtain ⟨w2, hw2⟩ : ∃ w2, w1.alloc (.cells cs.toArray 115) = w2 := ⟨_, rfl⟩
  have k1 : Kept (fun _ => False) w w1 := by rw [← hw1]; exact (Kept.refl _ _).alloc _
  have k2 : Kept (fun _ => False) w1 w2 := by rw [← hw2]; exact (Kept.refl _ _).alloc _
  have s1 : w1.heap.size = w.heap.size + 1 := by rw [← hw1]; simp
  have s2 : w2.heap.size = w.heap.size + 2 := by rw [← hw2]; simp [s1]
  have t1 : w1.heap[w.heap.size]? = some (.cells #[.pointer (some ⟨A.sb, 0, none⟩)] 26 (0, 0)) := by rw [← hw1]; exact heap_alloc_new _ _
  have bx2 : NodeBox w2 (w.heap.size + 1) n (.slice A0 n.ents.length cap) := ⟨by rw [hcs, ← hw2, ← s1]; exact heap_alloc_new _ _⟩
  have c17 := bx2.c17
  have h' := Lib.hid h
  have hsp : Hid (M.split n = (M, [], 81)) := Lib.hid (by unfold SM.split; rw [if_pos hl])
  have kall := Lib.hid (k1.trans k2)
  have hn12 : (12 : Int) < (n.ents.length : Int) := by omega
  have hw1' := Lib.hid hw1
  have hw2' := Lib.hid hw2
  have s1' := Lib.hid s1
  rw [hcs]
  clear hcs hw1 hw2 k1 k2 s1 s2 t1 bx2 h hv hl
  go_enter Tryz.func137, Tryz.ntmps137
  go_wp2_with (first | (refine wpList_box_named 26 rfl rfl _ rfl hw1'.out ?_) | (refine wpList_box_named 115 rfl rfl _ rfl hw2'.out ?_; rw [s1'.out]))
  go_ret2
  exact ⟨A, .slice none 0 0, by rw [hsp.out]; rfl, by rw [hsp.out]; exact (StoreTo.refl h'.out).fresh kall.out, by rw [hsp.out]; exact OutAt.nil _ _ _⟩
end Go.Proofs.YtidlchciehdefaaGreat
/-
  Trees (package tree): entries split into nodes (printed by gen_treed.py).
-/
namespace Go.Proofs.YtidlchciehdefaaGreat
open Go.RowKit
set_option maxRecDepth 100000

set_option maxHeartbeats 4000000 in
theorem splitBig {w : World} {A : SA} {M : SM} (h : StoreAt w A M) {n : NM} {sv : Value} (hv : EntsOff w A sv n.ents) (hl1 : 6 < n.ents.length) (hl6 : n.ents.length ≤ 12) (hfew : M.log.length + 2 < 100000000) :
    Calls Tryz.prog 137 #[.agg #[.pointer (some ⟨A.sb, 0, none⟩)], .agg (nodeCells n sv).toArray] w fun e w' => ∃ A' v, e = .returned (.tuple #[v, .int .i64 (M.split n).2.2]) ∧ StoreTo A A' (M.split n).1 w w' ∧ OutAt w' A' w.heap.size v (M.split n).2.1 := by
  obtain ⟨A0, cap, rfl, hc1, hc2⟩ := hv.at_.form
  have hc2' := hc2
  unfold maxLen at hc2
  obtain ⟨cs, hcs⟩ : ∃ cs, nodeCells n (.slice A0 n.ents.length cap) = cs := ⟨_, rfl⟩
  obtain ⟨w1, hw1⟩ : ∃ w1, w.alloc (.cells #[.pointer (some ⟨A.sb, 0, none⟩)] 26) = w1 := ⟨_, rfl⟩
  obtain ⟨w2, hw2⟩ : ∃ w2, w1.alloc (.cells cs.toArray 115) = w2 := ⟨_, rfl⟩
  have k1 : Kept (fun _ => False) w w1 := by rw [← hw1]; exact (Kept.refl _ _).alloc _
  have k2 : Kept (fun _ => False) w1 w2 := by rw [← hw2]; exact (Kept.refl _ _).alloc _
  have s1 : w1.heap.size = w.heap.size + 1 := by rw [← hw1]; simp
  have s2 : w2.heap.size = w.heap.size + 2 := by rw [← hw2]; simp [s1]
  have t1 : w1.heap[w.heap.size]? = some (.cells #[.pointer (some ⟨A.sb, 0, none⟩)] 26 (0, 0)) := by rw [← hw1]; exact heap_alloc_new _ _
  have bx2 : NodeBox w2 (w.heap.size + 1) n (.slice A0 n.ents.length cap) := ⟨by rw [hcs, ← hw2, ← s1]; exact heap_alloc_new _ _⟩
  have c17 := bx2.c17
  have h' := Lib.hid h
  obtain ⟨b0, off0, rfl, _, _⟩ := SliceAt.elem hv.at_ (i := 0) (by omega) (by omega)
  obtain ⟨m, hm⟩ : ∃ m, n.ents.length / 2 = m := ⟨_, rfl⟩
  have hm1 : 0 < m := by omega
  have hm2 : m < n.ents.length := by omega
  have hmi : (n.ents.length : Int) / 2 = (m : Int) := by omega
  obtain ⟨ps, hps⟩ : ∃ ps, [n.ents.take m, n.ents.drop m] = ps := ⟨_, rfl⟩
  obtain ⟨vs, hvs⟩ : ∃ vs, [Value.slice (some ⟨b0, off0, none⟩) m cap, Value.slice (some ⟨b0, off0 + m * 2, none⟩) (n.ents.length - m) (cap - m)] = vs := ⟨_, rfl⟩
  have hsp : Hid (M.split n = SM.makes n.kind ps M []) := Lib.hid (by unfold SM.split partsOf; rw [if_neg (by omega), if_neg (by omega), if_pos (by omega), hm, hps])
  have hpsl : Hid (ps.length = 2) := Lib.hid (by rw [← hps]; rfl)
  have hvsl : vs.length = 2 := by rw [← hvs]; rfl
  have hes : ∀ (i : Nat) (u : Value) (p : List (Int × Int)), vs[i]? = some u → ps[i]? = some p → EntsOff w A u p := fun i u p hu hp => by
    rw [← hvs] at hu; rw [← hps] at hp
    cases i with
    | zero => simp at hu hp; subst hu hp; exact ⟨entsAt_take hv.at_ (by omega) rfl, fun _ b hb => hv.off (by intro e; rw [e] at hl1; simp at hl1) b hb⟩
    | succ i => cases i with
      | zero => simp at hu hp; subst hu hp; exact ⟨entsAt_drop hv.at_ (by omega) rfl, fun _ b hb => hv.off (by intro e; rw [e] at hl1; simp at hl1) b (by simpa [Value.ownBlock] using hb)⟩
      | succ i => simp at hu
  have hpart : Hid (∀ k, k < 2 → ∃ (p : List (Int × Int)) (u : Value), ps[k]? = some p ∧ vs[k]? = some u ∧ 0 < p.length ∧ ∃ Au mu cu, u = .slice Au mu cu) := Lib.hid (fun k hk => by
    rcases (show k = 0 ∨ k = 1 by omega) with rfl | rfl
    · exact ⟨n.ents.take m, _, by rw [← hps]; rfl, by rw [← hvs]; rfl, by rw [List.length_take]; omega, _, _, _, rfl⟩
    · exact ⟨n.ents.drop m, _, by rw [← hps]; rfl, by rw [← hvs]; rfl, by rw [List.length_drop]; omega, _, _, _, rfl⟩)
  have hst0 : Hid (SplitSt w A n (.slice (some ⟨b0, off0, none⟩) n.ents.length cap) (w2.heap.size + 1) vs ps (((w2.alloc (.cells #[.slice (some ⟨b0, off0, none⟩) n.ents.length cap] 94)).alloc (.cells vs.toArray 94)).drew) A M (.slice none 0 0) []) := Lib.hid (by
    have k3 := (((Kept.refl (fun _ => False) w2).alloc (.cells #[.slice (some ⟨b0, off0, none⟩) n.ents.length cap] 94)).alloc (.cells vs.toArray 94)).drew
    have kk := (k1.trans k2).trans k3
    have hsz : (((w2.alloc (.cells #[.slice (some ⟨b0, off0, none⟩) n.ents.length cap] 94)).alloc (.cells vs.toArray 94)).drew).heap.size = w.heap.size + 4 := by simp [s2]
    have hnew := heap_alloc_new (w2.alloc (.cells #[.slice (some ⟨b0, off0, none⟩) n.ents.length cap] 94)) (.cells vs.toArray 94)
    rw [show (w2.alloc (.cells #[.slice (some ⟨b0, off0, none⟩) n.ents.length cap] 94)).heap.size = w2.heap.size + 1 by simp] at hnew
    exact ⟨(StoreTo.refl h).fresh kk, OutAt.nil _ _ _, hnew, Safe.new h (by omega) (by omega), (k2.trans k3).get t1 id, Safe.new h (by omega) (by omega), bx2.kept k3 id, Safe.new h (by omega) (by omega), fun i u p hu hp => (hes i u p hu hp).fresh kk⟩)
  have hub : Hid (∀ (i : Nat) (u : Value) (b : Nat), vs[i]? = some u → u.ownBlock = some b → b < w.heap.size) := Lib.hid (fun i u b hu hb => by
    have hi : i < vs.length := (List.getElem?_eq_some_iff.1 hu).1
    obtain ⟨p, hp⟩ : ∃ p, ps[i]? = some p := ⟨_, List.getElem?_eq_getElem (by rw [hpsl.out]; rw [hvsl] at hi; exact hi)⟩
    exact ((hes i u p hu hp).off (by obtain ⟨p', u', h1, _, h3, _⟩ := hpart.out i (by omega); rw [hp] at h1; cases h1; intro e; rw [e] at h3; cases h3) b hb).1)
  have hw1' := Lib.hid hw1
  have hw2' := Lib.hid hw2
  have s1' := Lib.hid s1
  have hvs' : Hid (((w2.alloc (.cells #[.slice (some ⟨b0, off0, none⟩) n.ents.length cap] 94)).alloc (.cells #[Value.slice (some ⟨b0, off0, none⟩) m cap, Value.slice (some ⟨b0, off0 + m * 2, none⟩) (n.ents.length - m) (cap - m)] 94)).drew = ((w2.alloc (.cells #[.slice (some ⟨b0, off0, none⟩) n.ents.length cap] 94)).alloc (.cells vs.toArray 94)).drew) := Lib.hid (by rw [← hvs])
  have hn0 : ((n.ents.length : Int) == 0) = false := by rw [beq_eq_false_iff_ne]; omega
  have hn6 : (6 : Int) < (n.ents.length : Int) := by omega
  have hn12 : decide ((12 : Int) < (n.ents.length : Int)) = false := by rw [decide_eq_false_iff_not]; omega
  have hmi0 : (0 : Int) ≤ (m : Int) := by omega
  have hmi1 : (m : Int) ≤ (n.ents.length : Int) := by omega
  have hmi2 : (m : Int) ≤ (cap : Int) := by omega
  have hmc : ¬ cap = m := by omega
  have hq1 : (n.ents.length : Int).tdiv 2 = (m : Int) := by rw [Int.tdiv_eq_ediv_of_nonneg (by omega)]; omega
  have hq2 : IntKind.i64.wrap (m : Int) = (m : Int) := IntWalk.i64_in _ (by omega)
  rw [hcs]
  clear hcs hw1 hw2 k1 k2 s1 s2 t1 bx2 h hv hps hvs hes hvsl hm
  go_enter Tryz.func137, Tryz.ntmps137
  go_wp2_with (first | (refine wpList_box_named 26 rfl rfl _ rfl hw1'.out ?_) | (refine wpList_box_named 115 rfl rfl _ rfl hw2'.out ?_; rw [s1'.out]))
  go_region_held3 (fun _ => True) (first | trivial) (fail)
  go_wp2_with fail
  rw [hvs'.out]
  go_loopw [8, 41] (fun v x wr => ∃ (k : Nat) (A' : SA) (M' : SM) (out : List (Int × Int)), k ≤ 2 ∧ x = .int .i64 k ∧ Hid (SplitSt w A n (.slice (some ⟨b0, off0, none⟩) n.ents.length cap) (w2.heap.size + 1) vs ps wr A' M' v out) ∧ Hid (SM.makes n.kind (ps.drop k) M' out = SM.makes n.kind ps M [] ∧ out.length = k ∧ M'.log.length ≤ M.log.length + k)) (fun _ x _ => 2 - (intOf x).toNat)
  case atStart => exact ⟨0, A, M, [], by omega, rfl, hst0, Lib.hid ⟨rfl, rfl, Nat.le_refl _⟩⟩
  case round =>
    obtain ⟨k, A', M', out, hk, rfl, hst, hq⟩ := hrel
    by_cases hlt : k < 2
    · obtain ⟨p, u, hp, hu, hp0, Au, mu, cu, rfl⟩ := hpart.out k hlt
      have cu' := cell_of_heap hst.out.parts k
      rw [show vs.toArray[k]? = some (.slice Au mu cu) by simpa using hu] at cu'
      have ct := cell_of_heap hst.out.tb 0
      simp at ct
      have c0 := hst.out.nb.c0
      have hen := hst.out.ents k _ p hu hp
      have hmk := storeMake (n := ⟨n.kind, zeros16, p⟩) hst.out.to_.store hen (by rfl) (by intro b hb; have := List.eq_of_mem_replicate hb; omega) (by have := hq.out.2.2; omega)
      rw [hst.out.to_.sb] at hmk
      have hstep : Hid (SM.makes n.kind (ps.drop k) M' out = if (M'.make ⟨n.kind, zeros16, p⟩).2.2 = 0 then SM.makes n.kind (ps.drop (k + 1)) (M'.make ⟨n.kind, zeros16, p⟩).1 (out ++ [((p.getD 0 (0, 0)).1, (M'.make ⟨n.kind, zeros16, p⟩).2.1)]) else ((M'.make ⟨n.kind, zeros16, p⟩).1, [], (M'.make ⟨n.kind, zeros16, p⟩).2.2)) := Lib.hid (by
        obtain ⟨hkl, hpe⟩ := List.getElem?_eq_some_iff.1 hp
        rw [List.drop_eq_getElem_cons hkl, hpe, makes_cons])
      have hlog := Lib.hid (make_log M' ⟨n.kind, zeros16, p⟩)
      obtain ⟨R, hR⟩ : ∃ R, M'.make ⟨n.kind, zeros16, p⟩ = R := ⟨_, rfl⟩
      rw [hR] at hmk hstep hlog
      obtain ⟨M2, pg, er⟩ := R
      dsimp only at hmk
      have hmk' := Lib.hid hmk
      have hp' := Lib.hid hp
      have hu' := Lib.hid hu
      have hp0' := Lib.hid hp0
      clear hmk hR hen hp hu hp0
      go_wp2_with (refine wpList_exec rfl (exec_build 115 #[(0, .tmp 49), (2, .tmp 50)] _ rfl (by simp [Act.eval]) (run_build_part _ _ p _ _ _)) ?_)
      refine hmk'.out.mono ?_
      rintro e w8 ⟨A2, rfl, hT8⟩
      have hst8 := Lib.hid (hst.out.step hT8)
      clear hT8 cu' ct c0
      by_cases h0 : er = 0
      · subst h0
        have hst9 := hstep.out
        rw [if_pos (by rfl)] at hst9
        have hstep' := Lib.hid hst9
        obtain ⟨x, hx⟩ : ∃ x, p[0]? = some x := ⟨_, List.getElem?_eq_getElem hp0'.out⟩
        have hxd : Hid ((p.getD 0 (0, 0)).1 = x.1) := Lib.hid (by simp [hx])
        have hen8 := hst8.out.ents k _ p hu'.out hp'.out
        obtain ⟨Aq, cq, hv, _⟩ := EntsAt.form hen8.at_
        cases hv
        obtain ⟨b, off, rfl, hbl, hx1, _⟩ := EntsAt.get hen8.at_ hx
        rw [Nat.zero_mul, Nat.add_zero] at hx1
        have hpl : 0 < p.length := hp0'.out
        have hw9 : Hid (SplitSt w A n (.slice (some ⟨b0, off0, none⟩) n.ents.length cap) (w2.heap.size + 1) vs ps (w8.alloc (.cells #[.int .i64 x.1, .int .i64 pg] 86)) A2 M2 _ out) := Lib.hid (hst8.out.fresh ((Kept.refl _ _).alloc _))
        have hlen := hq.out.2.1
        have hsz9 := hw9.out.to_.kept.size
        clear hen8 hst9 hx
        go_wp2_with (at_builtin; refine wpList_append_src rfl elemEntry (.tmp 58) (.tmp 65) rfl (by rfl) (by rfl) hw9.out.out_.own (SliceAt.block_new (ys := [.int .i64 x.1, .int .i64 pg]) (m := 1) (heap_alloc_new _ _) (by rfl) (by decide)) (by intro c hc; simp at hc; rcases hc with rfl | rfl <;> rfl) (by omega) (by omega) hsz9 ?_; intro v2 w10 hown10 hg10 hat10)
        have hst10 := Lib.hid (hw9.out.more (x := (x.1, pg)) (M0 := M) (fun i u b hu hb => hub.out i u b hu hb) hown10 hg10 hat10 h'.out)
        clear hown10 hg10 hat10
        go_roundw
        case rel => exact ⟨k + 1, A2, M2, out ++ [(x.1, pg)], by omega, by go_num, hst10, Lib.hid ⟨by have h1 := hstep'.out; rw [hxd.out] at h1; rw [← h1]; exact hq.out.1, by simp [hlen], by have := hlog.out; have := hq.out.2.2; omega⟩⟩
        case measure => simp [intOf]; omega
      · have h0' : ((er : Int) == 0) = false := by simp; omega
        have hst9 := hstep.out
        rw [if_neg (by exact h0)] at hst9
        have hend : Hid (M.split n = (M2, [], er)) := Lib.hid (by rw [hsp.out, ← hq.out.1]; exact hst9)
        clear h0 hst9
        go_wp2_with fail
        go_ret2
        exact ⟨A2, .slice none 0 0, by rw [hend.out]; rfl, by rw [hend.out]; exact hst8.out.to_, by rw [hend.out]; exact OutAt.nil _ _ _⟩
    · obtain rfl : k = 2 := by omega
      have hend : Hid (M.split n = (M', out, 0)) := Lib.hid (by rw [hsp.out, ← hq.out.1, List.drop_eq_nil_of_le (by rw [hpsl.out]; omega)]; rfl)
      go_wp2_with fail
      go_ret2
      exact ⟨A', _, by rw [hend.out]; rfl, by rw [hend.out]; exact hst.out.to_, by rw [hend.out]; exact hst.out.out_⟩
theorem treeSplit {w : World} {A : SA} {M : SM} (h : StoreAt w A M) {n : NM} {sv : Value} (hv : EntsOff w A sv n.ents) (hfew : M.log.length + 2 < 100000000) :
    Calls Tryz.prog 137 #[.agg #[.pointer (some ⟨A.sb, 0, none⟩)], .agg (nodeCells n sv).toArray] w fun e w' => ∃ A' v, e = .returned (.tuple #[v, .int .i64 (M.split n).2.2]) ∧ StoreTo A A' (M.split n).1 w w' ∧ OutAt w' A' w.heap.size v (M.split n).2.1 := by
  by_cases h0 : n.ents.length = 0
  · exact splitNone h hv h0
  · by_cases h6 : n.ents.length ≤ 6
    · exact splitSmall h hv (by omega) h6 hfew
    · by_cases h12 : n.ents.length ≤ 12
      · exact splitBig h hv (by omega) h12 hfew
      · exact splitOver h hv (by omega)
end Go.Proofs.YtidlchciehdefaaGreat
/-
  Trees (package tree): one root held in the place of another one.
-/
namespace Go.Proofs.YtidlchciehdefaaGreat
open Go.RowKit
set_option maxRecDepth 100000

theorem treeSwap {w : World} {A : SA} {M : SM} (h : StoreAt w A M) (old next : Int) :
    Calls Tryz.prog 85 #[.agg #[.pointer (some ⟨A.sb, 0, none⟩)], .int .i64 old, .int .i64 next] w fun e w' => e = .returned (.int .i64 (M.swap old next).2) ∧ StoreTo A A (M.swap old next).1 w w' := by
  obtain ⟨w1, hw1⟩ : ∃ w1, w.alloc (.cells #[.pointer (some ⟨A.sb, 0, none⟩)] 26) = w1 := ⟨_, rfl⟩
  have k1 : Kept (fun _ => False) w w1 := by rw [← hw1]; exact (Kept.refl _ _).alloc _
  have t1 : w1.heap[w.heap.size]? = some (.cells #[.pointer (some ⟨A.sb, 0, none⟩)] 26 (0, 0)) := by rw [← hw1]; exact heap_alloc_new _ _
  have c1 := cell_of_heap t1 0
  simp at c1
  have s1 : w1.heap.size = w.heap.size + 1 := by rw [← hw1]; simp
  have st1 : Safe w1 A w.heap.size := Safe.new h (Nat.le_refl _) (by omega)
  have h1 := h.fresh k1
  have hT1 := Lib.hid ((StoreTo.refl h).fresh k1)
  have t1' := Lib.hid t1
  have st1' := Lib.hid st1
  have hw1' := Lib.hid hw1
  have hs : Hid (M.swap old next = if (if next = -1 then (M, 0) else M.hold next).2 = 0 then (if old = -1 then ((if next = -1 then (M, 0) else M.hold next).1, 0) else (if next = -1 then (M, 0) else M.hold next).1.drop old) else (if next = -1 then (M, 0) else M.hold next)) := Lib.hid rfl
  by_cases hn : next = -1
  · subst hn
    rw [if_pos rfl] at hs
    by_cases ho : old = -1
    · subst ho
      have hs' : Hid (M.swap (-1) (-1) = (M, 0)) := Lib.hid (by rw [hs.out]; rfl)
      rw [hs'.out]
      clear hw1 k1 t1 s1 st1 h1 h
      go_enter Tryz.func85, Tryz.ntmps85
      go_wp2_with (first | (refine wpList_box_named 26 rfl rfl _ rfl hw1'.out ?_))
      go_ret
      exact ⟨rfl, hT1.out⟩
    · have hs' : Hid (M.swap old (-1) = M.drop old) := Lib.hid (by rw [hs.out]; simp [ho])
      rw [hs'.out]
      have hd := Lib.hid (storeDrop h1 old)
      have ho' : (old == -1) = false := by simpa using ho
      clear hw1 k1 t1 s1 st1 h1 h ho
      go_enter Tryz.func85, Tryz.ntmps85
      go_wp2_with (first | (refine wpList_box_named 26 rfl rfl _ rfl hw1'.out ?_))
      refine hd.out.mono ?_
      rintro e w2 ⟨rfl, hk⟩
      have hk' := Lib.hid (hT1.out.trans hk)
      clear hk
      go_wp2_with fail
      go_ret
      exact ⟨rfl, hk'.out⟩
  · rw [if_neg hn] at hs
    have hn' : (next == -1) = false := by simpa using hn
    have hh := Lib.hid (storeHold h1 next)
    obtain ⟨R, hR⟩ : ∃ R, M.hold next = R := ⟨_, rfl⟩
    rw [hR] at hs hh
    obtain ⟨M2, er⟩ := R
    dsimp only at hs hh
    by_cases h0 : er = 0
    · subst h0
      by_cases ho : old = -1
      · subst ho
        have hs' : Hid (M.swap (-1) next = (M2, 0)) := Lib.hid (by rw [hs.out]; rfl)
        rw [hs'.out]
        clear hw1 k1 t1 s1 st1 h1 h hn hR
        go_enter Tryz.func85, Tryz.ntmps85
        go_wp2_with (first | (refine wpList_box_named 26 rfl rfl _ rfl hw1'.out ?_))
        refine hh.out.mono ?_
        rintro e w2 ⟨rfl, hk⟩
        have hk' := Lib.hid (hT1.out.trans hk)
        clear hk
        go_wp2_with fail
        go_ret
        exact ⟨rfl, hk'.out⟩
      · have hs' : Hid (M.swap old next = M2.drop old) := Lib.hid (by rw [hs.out]; simp [ho])
        rw [hs'.out]
        have ho' : (old == -1) = false := by simpa using ho
        clear hw1 k1 t1 s1 st1 h1 h hn hR ho
        go_enter Tryz.func85, Tryz.ntmps85
        go_wp2_with (first | (refine wpList_box_named 26 rfl rfl _ rfl hw1'.out ?_))
        refine hh.out.mono ?_
        rintro e w2 ⟨rfl, hk⟩
        have hk' := Lib.hid (hT1.out.trans hk)
        have c2 := cell_of_heap (hk.get t1'.out st1'.out) 0
        simp at c2
        have hd := Lib.hid (storeDrop hk.store old)
        clear hk
        go_wp2_with fail
        refine hd.out.mono ?_
        rintro e w3 ⟨rfl, hk3⟩
        have hk3' := Lib.hid (hk'.out.trans hk3)
        clear hk3
        go_wp2_with fail
        go_ret
        exact ⟨rfl, hk3'.out⟩
    · have hs' : Hid (M.swap old next = (M2, er)) := Lib.hid (by rw [hs.out, if_neg h0])
      rw [hs'.out]
      have h0' : ((er : Int) == 0) = false := by simp; omega
      clear hw1 k1 t1 s1 st1 h1 h hn hR h0
      go_enter Tryz.func85, Tryz.ntmps85
      go_wp2_with (first | (refine wpList_box_named 26 rfl rfl _ rfl hw1'.out ?_))
      refine hh.out.mono ?_
      rintro e w2 ⟨rfl, hk⟩
      have hk' := Lib.hid (hT1.out.trans hk)
      clear hk
      go_wp2_with fail
      go_ret
      exact ⟨rfl, hk'.out⟩
end Go.Proofs.YtidlchciehdefaaGreat
/-
  Trees (package tree): what a node at a depth is.
-/
namespace Go.Proofs.YtidlchciehdefaaGreat
open Go.RowKit
set_option maxRecDepth 100000

theorem risesB_keys {l : List (Int × Int)} (h : risesB l = true) : RisesK l := by
  simp only [risesB, Bool.and_eq_true, List.all_eq_true, List.mem_range] at h
  have hs : ∀ (i : Nat) (x y : Int × Int), l[i]? = some x → l[i + 1]? = some y → x.1 < y.1 := fun i x y hx hy => by
    have := h.1.1 (i + 1) (List.getElem?_eq_some_iff.1 hy).1
    simp only [entB, hy, Bool.and_eq_true, Bool.or_eq_true, decide_eq_true_eq] at this
    rcases this.2 with e | e
    · simp at e
    · rw [show i + 1 - 1 = i by omega, List.getD_eq_getElem?_getD, hx] at e; exact e
  clear h
  unfold RisesK
  induction l with
  | nil => exact List.Pairwise.nil
  | cons a l ih =>
    have ih' := ih (fun i x y hx hy => hs (i + 1) x y (by simpa using hx) (by simpa using hy))
    refine List.pairwise_cons.2 ⟨fun b hb => ?_, ih'⟩
    cases l with
    | nil => cases hb
    | cons c l =>
      have h1 : a.1 < c.1 := hs 0 a c rfl rfl
      rcases List.mem_cons.1 hb with rfl | hb
      · exact h1
      · have := (List.pairwise_cons.1 ih').1 b hb
        omega
/-- A node that stands at a depth. -/
structure InnerOk (n : NM) : Prop where
  ok : n.ok
  kind : n.kind = 2 ∨ n.kind = 3
  keys : RisesK n.ents
  pos : 1 ≤ n.ents.length
  le : n.ents.length ≤ 6
theorem innerOk_of {n : NM} (hok : n.ok) (hk : n.kind ≠ 1) : InnerOk n := by
  have h1 := hok.1
  unfold NM.rightB at h1
  rw [if_neg hk] at h1
  by_cases hk2 : n.kind = 2 ∨ n.kind = 3
  · rw [if_pos hk2] at h1
    simp only [Bool.and_eq_true] at h1
    have h2 := h1.2
    have h3 := h2
    simp only [risesB, Bool.and_eq_true, decide_eq_true_eq] at h3
    exact ⟨hok, hk2, risesB_keys h2, h3.1.2, h3.2⟩
  · rw [if_neg hk2] at h1; cases h1
theorem tnode_ok {w : World} {A : SA} {M : SM} (h : StoreAt w A M) {i : Int} {d : Nat} (h0 : (M.tnode i d).2 = 0) : InnerOk (M.tnode i d).1 ∧ d < 8 := by
  unfold SM.tnode at h0 ⊢
  by_cases hg : (M.get i).2 = 0
  · simp only [hg, if_true] at h0 ⊢
    by_cases hb : (M.get i).1.kind = 1 ∨ 8 ≤ d
    · rw [if_pos hb] at h0; cases h0
    · rw [if_neg hb]
      refine ⟨innerOk_of ?_ (by omega), by omega⟩
      unfold SM.get at hg ⊢
      split at hg
      · cases hn : M.nodeAt i.toNat with
        | none => rw [hn] at hg; cases hg
        | some n =>
          rename_i hh
          rw [if_pos hh]
          exact nodeAt_ok h hn
      · cases hg
  · simp only [hg, if_false] at h0
end Go.Proofs.YtidlchciehdefaaGreat
