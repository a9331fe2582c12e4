/-
  Trees (package tree): all that is in one: the walk.
-/
import Derived.Test.YthmjcbmeiabbgaaK12
set_option linter.unusedVariables false
set_option linter.unusedSimpArgs false
namespace Go.Proofs.Ythmjcbmeiabbgaa
open Go.RowKit
set_option maxRecDepth 100000

theorem listFold_len {w : World} {A : SA} {M : SM} (h : StoreAt w A M) (f : Nat) : ∀ (l : List Int) (s : List (Int × Int) × Nat), (l.foldl (listStep f M) s).1.length ≤ s.1.length + l.length * 6 ^ f := by
  intro l
  induction l with
  | nil => intro s; simp
  | cons c l ih =>
    intro s
    rw [List.foldl_cons]
    have h1 := ih (listStep f M s c)
    have h2 : (listStep f M s c).1.length ≤ s.1.length + 6 ^ f := by
      have := listF_len h f c
      unfold listStep
      split
      · split
        · rw [List.length_append]; omega
        · simp
      · omega
    rw [List.length_cons, Nat.add_mul]
    omega

set_option maxHeartbeats 4000000 in
theorem treeListF : ∀ (f : Nat), 0 < f → f ≤ 9 → ∀ {w : World} {A : SA} {M : SM} (root : Int), StoreAt w A M →
    Calls Try.prog 51 #[.agg #[.pointer (some ⟨A.sb, 0, none⟩)], .int .i64 root, .int .i64 ((9 - f : Nat) : Int)] w fun e w' => ∃ v, e = .returned (.tuple #[v, .int .i64 (SM.listF f M root).2]) ∧
      w'.ownsRow w.heap.size 35 2 v (SM.listF f M root).1.length (entCells (SM.listF f M root).1) ∧ Kept (fun _ => False) w w'
  | 0, h0, _, _, _, _, _, _ => by omega
  | f + 1, _, hf, w, A, M, root, h => by
    obtain ⟨w1, hw1⟩ : ∃ w1, w.alloc (.cells #[.pointer (some ⟨A.sb, 0, none⟩)] 26) = w1 := ⟨_, rfl⟩
    have k1 := Lib.hid (show Kept (fun _ => False) w w1 by rw [← hw1]; exact (Kept.refl _ _).alloc _)
    have t1 := Lib.hid (show w1.heap[w.heap.size]? = some (.cells #[.pointer (some ⟨A.sb, 0, none⟩)] 26 (0, 0)) by rw [← hw1]; exact heap_alloc_new _ _)
    have hw1' := Lib.hid hw1
    obtain ⟨Z, hZ⟩ : ∃ Z, nodeCells NM.zero (.slice none 0 0) = Z := ⟨_, rfl⟩
    have hZz : Hid ((Try.prog.info? 33).map (·.zero) = some (some (.agg Z.toArray))) := Lib.hid (by rw [← hZ]; exact node_zero)
    have hZl : Hid (Z.length = 18) := Lib.hid (by rw [← hZ]; exact nodeCells_len _ _)
    have h' := Lib.hid h
    obtain ⟨d, hd⟩ : ∃ d, 8 - f = d := ⟨_, rfl⟩
    have e1 : 9 - (f + 1) = d := by omega
    have hd8 : d ≤ 8 := by omega
    have hnd := treeNode (h.fresh k1.out) root d (by omega)
    have hok := Lib.hid (fun h0 => tnode_ok h'.out (i := root) (d := d) h0)
    have her := Lib.hid (tnode_err (M := M) (i := root) (d := d))
    have hL := Lib.hid (show SM.listF (f + 1) M root = _ from hd ▸ listF_succ f M root)
    obtain ⟨R, hR⟩ : ∃ R, M.tnode root d = R := ⟨_, rfl⟩
    rw [hR] at hnd hok hL her
    obtain ⟨n, er⟩ := R
    dsimp only at hnd hok hL her
    have hnd' := Lib.hid hnd
    have hload : Hid (∀ j v, [Value.pointer (some ⟨A.sb, 0, none⟩)][j]? = some v → w1.cell? ⟨w.heap.size, 0 + j, none⟩ = some v) := Lib.hid (fun j v hj => by rw [Nat.zero_add, cell_of_heap t1.out]; simpa using hj)
    have ih := Lib.hid (fun (W : World) (hW : StoreAt W A M) (hf0 : 0 < f) (i : Int) => treeListF f hf0 (by omega) i hW)
    have e2 : 0 < f → 9 - f = d + 1 := by omega
    rw [e1]
    clear hw1 hZ hR hnd h e1
    go_enter Try.func51, Try.ntmps51
    go_wp2_with (first | (refine wpList_box_named 26 rfl rfl _ rfl hw1'.out ?_) | (refine wpList_load_agg 26 rfl rfl rfl _ Try.underlying26 rfl [.pointer (some ⟨A.sb, 0, none⟩)] (by kernel_rfl) hload.out ?_))
    refine hnd'.out.mono ?_
    rintro e w3 ⟨v, rfl, hown, hk3⟩
    obtain ⟨Av, cap, rfl, hf1, hf2⟩ := EntsAt.form (show EntsAt w3 v n.ents from SliceAt.of_owns hown)
    unfold maxLen at hf2
    obtain ⟨F, hF⟩ : ∃ F, nodeCells n (.slice Av n.ents.length cap) = F := ⟨_, rfl⟩
    have hFl : Hid (F.length = 18) := Lib.hid (by rw [← hF]; exact nodeCells_len _ _)
    have hF1 : Hid (∀ v ∈ F, v.oneCell' = true) := Lib.hid (by rw [← hF]; exact nodeCells_one _ _ _ _)
    obtain ⟨w4, hw4⟩ : ∃ w4, (w3.alloc (.cells Z.toArray 33)).setRow w3.heap.size F.toArray = w4 := ⟨_, rfl⟩
    have k4 : Kept (fun _ => False) w3 w4 := by rw [← hw4]; exact ((Kept.refl _ _).alloc _).setRowNew (Nat.le_refl _) _
    have bx4 : NodeBox w4 w3.heap.size n (.slice Av n.ents.length cap) := ⟨by rw [hF, ← hw4]; exact setRow_heap _ _ _ _ _ _ (heap_alloc_new _ _)⟩
    have hown4 := Lib.hid (ownsRow.keptOf hown k4 (fun _ _ => id))
    have hkr4 := Lib.hid (hk3.trans k4)
    have t4 := Lib.hid (hkr4.out.get t1.out id)
    have q4 := Lib.hid (show w4.heap[w3.heap.size]? = some (.cells F.toArray 33 (0, 0)) by rw [← hF]; exact bx4.heap)
    rw [hF]
    have bx4' := Lib.hid bx4
    have hw4' := Lib.hid hw4
    have hks := hkr4.out.size
    have hk1s := k1.out.size
    clear hown hk3 k4 hw4 bx4
    by_cases h0 : er = 0
    · subst h0
      obtain ⟨hin, hdd⟩ := hok.out rfl
      have hkd := Lib.hid hin.kind
      have hlen6 := hin.le
      have c0 := bx4'.out.c0
      have c17 := bx4'.out.c17
      rcases hkd.out with hk2 | hk3
      · have hend : Hid (SM.listF (f + 1) M root = (n.ents, 0)) := Lib.hid (by rw [hL.out, if_neg (by simp [hk2])])
        rw [hk2] at c0
        clear hk2 hin hF
        go_wp2_with (first | (refine wpList_alloc_as 33 rfl rfl Z.toArray hZz.out ?_) | (refine wpList_store_whole 33 rfl rfl rfl F rfl (by rw [hFl.out]; exact node_size) 33 _ (heap_alloc_new _ _) (by simp [hFl.out, hZl.out]) hF1.out ?_; rw [hw4'.out]))
        go_ret2
        exact ⟨_, by rw [hend.out]; rfl, by rw [hend.out]; exact owns_weaken hown4.out hk1s, k1.out.trans hkr4.out⟩
      · have hfold : Hid (SM.listF (f + 1) M root = (n.ents.map (·.2)).foldl (listStep f M) ([], 0)) := Lib.hid (by rw [hL.out, if_pos ⟨rfl, by omega⟩])
        have hf0 : 0 < f := by omega
        have hC := children_any (n := n) (SliceAt.of_owns hown4.out) (by omega)
        rw [hF] at hC
        have hC' := Lib.hid hC
        rw [hk3] at c0
        have e3 := e2 hf0
        clear hk3 hin hF hC e2
        go_wp2_with (first | (refine wpList_alloc_as 33 rfl rfl Z.toArray hZz.out ?_) | (refine wpList_store_whole 33 rfl rfl rfl F rfl (by rw [hFl.out]; exact node_size) 33 _ (heap_alloc_new _ _) (by simp [hFl.out, hZl.out]) hF1.out ?_; rw [hw4'.out]) | (refine wpList_load_agg 33 rfl rfl rfl _ Try.underlying33 rfl F (by rw [hFl.out]; exact node_size) (fun j v hv => by rw [cell_of_heap q4.out, Nat.zero_add]; simpa using hv) ?_))
        refine hC'.out.mono ?_
        rintro e w7 ⟨u7, rfl, hown7, hk7⟩
        obtain ⟨A7, cap7, rfl, hd1, hd2, hcell7⟩ := (SliceAt.of_owns hown7).cells1
        unfold maxLen at hd2
        have hcell7' := Lib.hid hcell7
        have hk47 := Lib.hid (hkr4.out.trans hk7)
        clear hk7 hown7 hcell7 hC'
        go_wp2_with fail
        go_loopw [10, 35] (fun v x wr => ∃ (k : Nat) (out : List (Int × Int)), k ≤ n.ents.length ∧ x = .int .i64 k ∧ Hid (((n.ents.take k).map (·.2)).foldl (listStep f M) ([], 0) = (out, 0)) ∧ Hid (wr.ownsRow w7.heap.size 35 2 v out.length (entCells out)) ∧ Hid (Kept (fun _ => False) w7 wr)) (fun _ x _ => n.ents.length - (intOf x).toNat)
        case atStart => exact ⟨0, [], Nat.zero_le _, rfl, Lib.hid rfl, Lib.hid (World.ownsRow_nil _ _ _ _), Lib.hid (Kept.refl _ _)⟩
        case round =>
          obtain ⟨k, out, hk, rfl, hq, hor, hkr⟩ := hrel
          obtain ⟨Ao, capo, rfl, ho1, ho2⟩ := EntsAt.form (show EntsAt wr _ out from SliceAt.of_owns hor.out)
          unfold maxLen at ho2
          by_cases hlt2 : k < n.ents.length
          · obtain ⟨x, hx⟩ : ∃ x, n.ents[k]? = some x := ⟨_, List.getElem?_eq_getElem hlt2⟩
            obtain ⟨b7, off7, rfl, hcb⟩ := hcell7'.out k (.int .i64 x.2) (by simp [pageCellsOf, hx])
            have hcb' := hkr.out.cell hcb id
            have hn1 := Lib.hid (list_next hq.out hx)
            have hkw := Lib.hid (k1.out.trans (hk47.out.trans hkr.out))
            have ct := cell_of_heap ((hk47.out.trans hkr.out).get t1.out id) 0
            simp at ct
            have hloadr : Hid (∀ j v, [Value.pointer (some ⟨A.sb, 0, none⟩)][j]? = some v → wr.cell? ⟨w.heap.size, 0 + j, none⟩ = some v) := Lib.hid (fun j v hj => by rw [Nat.zero_add, cell_of_heap ((hk47.out.trans hkr.out).get t1.out id)]; simpa using hj)
            have hh := ih.out wr (h'.out.fresh hkw.out) hf0 x.2
            rw [e3, Int.natCast_add, Int.natCast_one] at hh
            have hh' := Lib.hid hh
            have hlenx := listF_len h'.out f x.2
            have hleno := listFold_len h'.out f ((n.ents.take k).map (·.2)) ([], 0)
            rw [hq.out, List.length_map, List.length_take] at hleno
            have hpow : 6 ^ f ≤ 6 ^ 8 := Nat.pow_le_pow_right (by omega) (by omega)
            have hmul : min k n.ents.length * 6 ^ f ≤ 6 * 6 ^ 8 := Nat.mul_le_mul (by omega) hpow
            obtain ⟨R, hR⟩ : ∃ R, SM.listF f M x.2 = R := ⟨_, rfl⟩
            rw [hR] at hh' hn1 hlenx
            obtain ⟨out2, er⟩ := R
            dsimp only at hh' hn1 hlenx
            simp only [List.length_nil, Nat.zero_add] at hleno
            have hsum : out.length + out2.length ≤ 100000000 := by
              have : (6 : Nat) ^ 8 = 1679616 := by decide
              omega
            clear hcb hx hR hh hleno hlenx hmul hpow
            go_wp2_with (first | (refine wpList_load_agg 26 rfl rfl rfl _ Try.underlying26 rfl [.pointer (some ⟨A.sb, 0, none⟩)] (by kernel_rfl) hloadr.out ?_))
            refine hh'.out.mono ?_
            rintro e w8 ⟨v8, rfl, hown8, hk8⟩
            obtain ⟨A8, cap8, rfl, hp1, hp2⟩ := EntsAt.form (show EntsAt w8 v8 out2 from SliceAt.of_owns hown8)
            unfold maxLen at hp2
            have hor8 := Lib.hid (ownsRow.keptOf hor.out hk8 (fun _ _ => id))
            have hown8' := Lib.hid hown8
            have hk8' := Lib.hid (hkr.out.trans hk8)
            have hs8 := (hkr.out.trans hk8).size
            clear hown8 hk8
            by_cases h0 : er = 0
            · subst h0
              have hst := Lib.hid (hn1.out.1 rfl)
              have hone : Hid (∀ c ∈ entCells out2, c.oneCell' = true) := Lib.hid (entCells_one _)
              have hsl := Lib.hid (SliceAt.of_owns hown8'.out)
              go_wp2_with (at_builtin; refine wpList_append_src rfl elemEntry (.tmp 50) (.tmp 51) rfl (by rfl) (by rfl) hor8.out hsl.out hone.out (by omega) (by omega) hs8 ?_; intro v2 w2 hown2 hg2 hat2)
              have hk2 := Lib.hid (hk8'.out.grown hg2 (fun k e => .inr (hor8.out.lt k e).1))
              have hown2' := Lib.hid hown2
              clear hown2 hg2 hat2
              go_roundw
              case rel => exact ⟨k + 1, _, by omega, by go_num, hst, Lib.hid (by rw [List.length_append, entCells_append]; exact hown2'.out), hk2⟩
              case measure => simp [intOf]; omega
            · have h0' : ((er : Int) == 0) = false := by simp; omega
              have hend : Hid (SM.listF (f + 1) M root = ([], er)) := Lib.hid (hfold.out.trans (hn1.out.2 h0))
              clear h0
              go_wp2_with fail
              go_ret2
              exact ⟨_, by rw [hend.out]; rfl, by rw [hend.out]; exact World.ownsRow_nil _ _ _ _, k1.out.trans (hk47.out.trans hk8'.out)⟩
          · obtain rfl : k = n.ents.length := by omega
            have hend : Hid (SM.listF (f + 1) M root = (out, 0)) := Lib.hid (by have := hq.out; rw [List.take_length] at this; exact hfold.out.trans this)
            go_wp2_with fail
            go_ret2
            exact ⟨_, by rw [hend.out]; rfl, by rw [hend.out]; exact owns_weaken hor.out (k1.out.trans hk47.out).size, k1.out.trans (hk47.out.trans hkr.out)⟩
    · have hnil := her.out h0
      have hend : Hid (SM.listF (f + 1) M root = (n.ents, er)) := Lib.hid (by rw [hL.out, if_neg (fun e => h0 e.1)])
      have h0' : ((er : Int) == 0) = false := by simp; omega
      have c17 := bx4'.out.c17
      clear hnil hF
      go_wp2_with (first | (refine wpList_alloc_as 33 rfl rfl Z.toArray hZz.out ?_) | (refine wpList_store_whole 33 rfl rfl rfl F rfl (by rw [hFl.out]; exact node_size) 33 _ (heap_alloc_new _ _) (by simp [hFl.out, hZl.out]) hF1.out ?_; rw [hw4'.out]))
      go_ret2
      exact ⟨_, by rw [hend.out]; rfl, by rw [hend.out]; exact owns_weaken hown4.out hk1s, k1.out.trans hkr4.out⟩
end Go.Proofs.Ythmjcbmeiabbgaa
/-
  Trees (package tree): List.
-/
namespace Go.Proofs.Ythmjcbmeiabbgaa
open Go.RowKit
set_option maxRecDepth 100000

theorem treeList {w : World} {A : SA} {M : SM} (h : StoreAt w A M) (root : Int) :
    Calls Try.prog 19 #[.agg #[.pointer (some ⟨A.sb, 0, none⟩)], .int .i64 root] w fun e w' => ∃ v, e = .returned (.tuple #[v, .int .i64 (M.list root).2]) ∧
      w'.ownsRow w.heap.size 35 2 v (M.list root).1.length (entCells (M.list root).1) ∧ Kept (fun _ => False) w w' := by
  obtain ⟨w1, hw1⟩ : ∃ w1, w.alloc (.cells #[.pointer (some ⟨A.sb, 0, none⟩)] 26) = w1 := ⟨_, rfl⟩
  have k1 := Lib.hid (show Kept (fun _ => False) w w1 by rw [← hw1]; exact (Kept.refl _ _).alloc _)
  have t1 := Lib.hid (show w1.heap[w.heap.size]? = some (.cells #[.pointer (some ⟨A.sb, 0, none⟩)] 26 (0, 0)) by rw [← hw1]; exact heap_alloc_new _ _)
  have hw1' := Lib.hid hw1
  have hload : Hid (∀ j v, [Value.pointer (some ⟨A.sb, 0, none⟩)][j]? = some v → w1.cell? ⟨w.heap.size, 0 + j, none⟩ = some v) := Lib.hid (fun j v hj => by rw [Nat.zero_add, cell_of_heap t1.out]; simpa using hj)
  have hl := Lib.hid (treeListF 9 (by omega) (by omega) root (h.fresh k1.out))
  clear hw1 h
  by_cases hr : root = -1
  · subst hr
    have hend : Hid (M.list (-1) = ([], 0)) := Lib.hid (by unfold SM.list; rw [if_pos rfl])
    go_enter Try.func19, Try.ntmps19
    go_wp2_with (first | (refine wpList_box_named 26 rfl rfl _ rfl hw1'.out ?_))
    go_ret2
    exact ⟨_, by rw [hend.out]; rfl, by rw [hend.out]; exact World.ownsRow_nil _ _ _ _, k1.out⟩
  · have hend : Hid (M.list root = SM.listF 9 M root) := Lib.hid (by unfold SM.list; rw [if_neg hr])
    have hrb : (root == -1) = false := by simpa using hr
    clear hr
    go_enter Try.func19, Try.ntmps19
    go_wp2_with (first | (refine wpList_box_named 26 rfl rfl _ rfl hw1'.out ?_) | (refine wpList_load_agg 26 rfl rfl rfl _ Try.underlying26 rfl [.pointer (some ⟨A.sb, 0, none⟩)] (by kernel_rfl) hload.out ?_))
    refine hl.out.mono ?_
    rintro e w3 ⟨v, rfl, hown, hk3⟩
    obtain ⟨Av, cap, rfl, _, _⟩ := EntsAt.form (show EntsAt w3 v _ from SliceAt.of_owns hown)
    have hown' := Lib.hid (owns_weaken hown k1.out.size)
    have hk3' := Lib.hid (k1.out.trans hk3)
    clear hown hk3
    go_wp2_with fail
    go_ret2
    exact ⟨_, by rw [hend.out]; rfl, by rw [hend.out]; exact hown'.out, hk3'.out⟩
end Go.Proofs.Ythmjcbmeiabbgaa
/-
  Trees (package tree): the root over a node's entries.
-/
namespace Go.Proofs.Ythmjcbmeiabbgaa
open Go.RowKit
set_option maxRecDepth 100000

theorem makes_bound (kind : Int) : ∀ (ps : List (List (Int × Int))) (M : SM) (out : List (Int × Int)), (SM.makes kind ps M out).1.log.length ≤ M.log.length + ps.length ∧ (SM.makes kind ps M out).2.1.length ≤ out.length + ps.length
  | [], M, out => ⟨Nat.le_refl _, Nat.le_refl _⟩
  | p :: ps, M, out => by
    rw [makes_cons]
    have hm := make_log M ⟨kind, zeros16, p⟩
    split
    · have := makes_bound kind ps (M.make ⟨kind, zeros16, p⟩).1 (out ++ [((p.getD 0 (0, 0)).1, (M.make ⟨kind, zeros16, p⟩).2.1)])
      rw [List.length_append] at this
      simp only [List.length_cons, List.length_nil] at *
      omega
    · simp only [List.length_cons, List.length_nil]
      omega
theorem split_bound (M : SM) (n : NM) : (M.split n).1.log.length ≤ M.log.length + 2 ∧ (M.split n).2.1.length ≤ 2 := by
  unfold SM.split
  split
  · simp
  · have h1 := makes_bound n.kind (partsOf n.ents) M []
    have h2 : (partsOf n.ents).length ≤ 2 := by unfold partsOf; split <;> (try split) <;> simp
    simp only [List.length_nil] at h1
    omega
theorem top_bound (M : SM) (n : NM) : (M.top n).1.log.length ≤ M.log.length + 4 := by
  unfold SM.top
  have h1 := split_bound M n
  have h2 := split_bound (M.split n).1 ⟨3, List.replicate 16 0, (M.split n).2.1⟩
  dsimp only
  split
  · split
    · split <;> (dsimp only; omega)
    · dsimp only; omega
  · dsimp only; omega
end Go.Proofs.Ythmjcbmeiabbgaa
/-
  Trees (package tree): the root over a node's entries: the walk.
-/
namespace Go.Proofs.Ythmjcbmeiabbgaa
open Go.RowKit
set_option maxRecDepth 100000

set_option maxHeartbeats 4000000 in
theorem treeTop {w : World} {A : SA} {M : SM} (h : StoreAt w A M) {n : NM} {sv : Value} (hv : EntsOff w A sv n.ents) (hfew : M.log.length + 4 < 100000000) :
    Calls Try.prog 52 #[.agg #[.pointer (some ⟨A.sb, 0, none⟩)], .agg (nodeCells n sv).toArray] w fun e w' => ∃ A', e = .returned (.tuple #[.int .i64 (M.top n).2.1, .int .i64 (M.top n).2.2]) ∧ StoreTo A A' (M.top n).1 w w' := by
  obtain ⟨cs, hcs⟩ : ∃ cs, nodeCells n sv = cs := ⟨_, rfl⟩
  obtain ⟨w1, hw1⟩ : ∃ w1, w.alloc (.cells #[.pointer (some ⟨A.sb, 0, none⟩)] 26) = w1 := ⟨_, rfl⟩
  obtain ⟨w2, hw2⟩ : ∃ w2, w1.alloc (.cells cs.toArray 33) = w2 := ⟨_, rfl⟩
  have k1 : Kept (fun _ => False) w w1 := by rw [← hw1]; exact (Kept.refl _ _).alloc _
  have k2 : Kept (fun _ => False) w1 w2 := by rw [← hw2]; exact (Kept.refl _ _).alloc _
  have s1 : w1.heap.size = w.heap.size + 1 := by rw [← hw1]; simp
  have s2 : w2.heap.size = w.heap.size + 2 := by rw [← hw2]; simp [s1]
  have t1 : w1.heap[w.heap.size]? = some (.cells #[.pointer (some ⟨A.sb, 0, none⟩)] 26 (0, 0)) := by rw [← hw1]; exact heap_alloc_new _ _
  have t2 := k2.get t1 id
  have b2 : w2.heap[w.heap.size + 1]? = some (.cells cs.toArray 33 (0, 0)) := by rw [← hw2, ← s1]; exact heap_alloc_new _ _
  have st2 : Safe w2 A w.heap.size := Safe.new h (Nat.le_refl _) (by omega)
  have hT2 := Lib.hid ((StoreTo.refl h).fresh (k1.trans k2))
  have hcl : Hid (cs.length = 18) := Lib.hid (by rw [← hcs]; exact nodeCells_len _ _)
  have hload : Hid (∀ j v, [Value.pointer (some ⟨A.sb, 0, none⟩)][j]? = some v → w2.cell? ⟨w.heap.size, 0 + j, none⟩ = some v) := Lib.hid (fun j v hj => by rw [Nat.zero_add, cell_of_heap t2]; simpa using hj)
  have hloadn : Hid (∀ j v, cs[j]? = some v → w2.cell? ⟨w.heap.size + 1, 0 + j, none⟩ = some v) := Lib.hid (fun j v hj => by rw [Nat.zero_add, cell_of_heap b2]; simpa using hj)
  have hsp := treeSplit (h.fresh (k1.trans k2)) (hv.fresh (k1.trans k2)) (by omega)
  rw [hcs] at hsp
  have hbd := split_bound M n
  have htop : Hid (M.top n = if (M.split n).2.2 = 0 then (if 1 < (M.split n).2.1.length then (if ((M.split n).1.split ⟨3, zeros16, (M.split n).2.1⟩).2.2 = 0 then (((M.split n).1.split ⟨3, zeros16, (M.split n).2.1⟩).1, if ((M.split n).1.split ⟨3, zeros16, (M.split n).2.1⟩).2.1.length = 0 then -1 else (((M.split n).1.split ⟨3, zeros16, (M.split n).2.1⟩).2.1.getD 0 (0, 0)).2, 0) else (((M.split n).1.split ⟨3, zeros16, (M.split n).2.1⟩).1, -1, ((M.split n).1.split ⟨3, zeros16, (M.split n).2.1⟩).2.2)) else ((M.split n).1, if (M.split n).2.1.length = 0 then -1 else ((M.split n).2.1.getD 0 (0, 0)).2, 0)) else ((M.split n).1, -1, (M.split n).2.2)) := Lib.hid rfl
  obtain ⟨R, hR⟩ : ∃ R, M.split n = R := ⟨_, rfl⟩
  rw [hR] at hsp hbd htop
  obtain ⟨M1, out, er⟩ := R
  dsimp only at hsp hbd htop
  have hsp' := Lib.hid hsp
  have hw1' := Lib.hid hw1
  have hw2' := Lib.hid hw2
  have s1' := Lib.hid s1
  have t2' := Lib.hid t2
  have st2' := Lib.hid st2
  obtain ⟨hbd1, hbd2⟩ := hbd
  rw [hcs]
  clear hcs hw1 hw2 k1 k2 s1 s2 t1 t2 b2 st2 h hv hsp hR
  go_enter Try.func52, Try.ntmps52
  go_wp2_with (first | (refine wpList_box_named 26 rfl rfl _ rfl hw1'.out ?_) | (refine wpList_box_named 33 rfl rfl _ rfl hw2'.out ?_; rw [s1'.out]) | (refine wpList_load_agg 26 rfl rfl rfl _ Try.underlying26 rfl [.pointer (some ⟨A.sb, 0, none⟩)] (by kernel_rfl) hload.out ?_) | (refine wpList_load_agg 33 rfl rfl rfl _ Try.underlying33 rfl cs (by rw [hcl.out]; exact node_size) hloadn.out ?_))
  refine hsp'.out.mono ?_
  rintro e w3 ⟨A3, v, rfl, hT3, hO3⟩
  obtain ⟨Av, cap, rfl, hf1, hf2⟩ := hO3.ents.at_.form
  unfold maxLen at hf2
  have t3 := Lib.hid (hT3.get t2'.out st2'.out)
  have st3 := Lib.hid (st2'.out.to hT3)
  have hsb3 := hT3.sb
  have hTT := Lib.hid (hT2.out.trans hT3)
  have hO3' := Lib.hid hO3
  clear hT3 hO3
  by_cases h0 : er = 0
  · subst h0
    rw [if_pos rfl] at htop
    by_cases hl : 1 < out.length
    · rw [if_pos hl] at htop
      have hsp2 := treeSplit hTT.out.store (n := ⟨3, zeros16, out⟩) hO3'.out.ents (by omega)
      have hs2 := Lib.hid hsp2
      have hload3 : Hid (∀ j v, [Value.pointer (some ⟨A.sb, 0, none⟩)][j]? = some v → w3.cell? ⟨w.heap.size, 0 + j, none⟩ = some v) := Lib.hid (fun j v hj => by rw [Nat.zero_add, cell_of_heap t3.out]; simpa using hj)
      obtain ⟨R, hR⟩ : ∃ R, M1.split ⟨3, zeros16, out⟩ = R := ⟨_, rfl⟩
      rw [hR] at hs2 htop
      obtain ⟨M2, out2, er2⟩ := R
      dsimp only at hs2 htop
      have hlb : decide ((1 : Int) < (out.length : Int)) = true := by rw [decide_eq_true_eq]; omega
      rw [hsb3] at hs2
      clear hsp2 hR
      go_wp2_with (first | (refine wpList_load_agg 26 rfl rfl rfl _ Try.underlying26 rfl [.pointer (some ⟨A.sb, 0, none⟩)] (by kernel_rfl) hload3.out ?_) | (refine wpList_exec rfl (exec_build 33 #[(0, .const (.int .i64 3)), (2, .tmp 23)] _ rfl (by simp [Act.eval]) (run_build_part _ _ out _ _ _)) ?_))
      refine hs2.out.mono ?_
      rintro e w4 ⟨A4, v4, rfl, hT4, hO4⟩
      obtain ⟨Av4, cap4, rfl, hg1, hg2⟩ := hO4.ents.at_.form
      unfold maxLen at hg2
      have hTT4 := Lib.hid (hTT.out.trans hT4)
      have hO4' := Lib.hid hO4
      clear hT4 hO4
      by_cases h02 : er2 = 0
      · subst h02
        rw [if_pos rfl] at htop
        by_cases hl2 : out2.length = 0
        · rw [if_pos hl2] at htop
          have hlb2 : ((out2.length : Int) == 0) = true := by simp [hl2]
          go_wp2_with fail
          go_ret2
          exact ⟨A4, by rw [htop.out]; rfl, by rw [htop.out]; exact hTT4.out⟩
        · rw [if_neg hl2] at htop
          obtain ⟨x, hx⟩ : ∃ x, out2[0]? = some x := ⟨_, List.getElem?_eq_getElem (by omega)⟩
          obtain ⟨b, off, rfl, _, hx1, hx2⟩ := EntsAt.get hO4'.out.ents.at_ hx
          have hxd : out2.getD 0 (0, 0) = x := by simp [hx]
          rw [hxd] at htop
          rw [Nat.zero_mul, Nat.add_zero] at hx1 hx2
          have hlb2 : ((out2.length : Int) == 0) = false := by simp; exact fun e => hl2 (by simp [e])
          have hpos : 0 < out2.length := by omega
          clear hx hxd
          go_wp2_with fail
          go_ret2
          exact ⟨A4, by rw [htop.out]; rfl, by rw [htop.out]; exact hTT4.out⟩
      · rw [if_neg h02] at htop
        have h0' : ((er2 : Int) == 0) = false := by simp; omega
        go_wp2_with fail
        go_ret2
        exact ⟨A4, by rw [htop.out]; rfl, by rw [htop.out]; exact hTT4.out⟩
    · rw [if_neg hl] at htop
      have hlb : decide ((1 : Int) < (out.length : Int)) = false := by rw [decide_eq_false_iff_not]; omega
      by_cases hl2 : out.length = 0
      · rw [if_pos hl2] at htop
        have hlb2 : ((out.length : Int) == 0) = true := by simp [hl2]
        go_wp2_with fail
        go_ret2
        exact ⟨A3, by rw [htop.out]; rfl, by rw [htop.out]; exact hTT.out⟩
      · rw [if_neg hl2] at htop
        obtain ⟨x, hx⟩ : ∃ x, out[0]? = some x := ⟨_, List.getElem?_eq_getElem (by omega)⟩
        obtain ⟨b, off, rfl, _, hx1, hx2⟩ := EntsAt.get hO3'.out.ents.at_ hx
        have hxd : out.getD 0 (0, 0) = x := by simp [hx]
        rw [hxd] at htop
        rw [Nat.zero_mul, Nat.add_zero] at hx1 hx2
        have hlb2 : ((out.length : Int) == 0) = false := by simp; exact fun e => hl2 (by simp [e])
        have hpos : 0 < out.length := by omega
        clear hx hxd
        go_wp2_with fail
        go_ret2
        exact ⟨A3, by rw [htop.out]; rfl, by rw [htop.out]; exact hTT.out⟩
  · rw [if_neg h0] at htop
    have h0' : ((er : Int) == 0) = false := by simp; omega
    go_wp2_with fail
    go_ret2
    exact ⟨A3, by rw [htop.out]; rfl, by rw [htop.out]; exact hTT.out⟩
end Go.Proofs.Ythmjcbmeiabbgaa
/-
  slices.Insert at entries: a copy of entries from one block to another (or within one).
-/
namespace Go.Proofs.Ythmjcbmeiabbgaa
open Go.RowKit
set_option maxRecDepth 100000

theorem run_copy_ents (w : World) (ty : TypeId) (g o dLen dCap : Nat) (a : Addr) (sLen sCap : Nat) (cur : Array Value) (t : TypeId) (cs : List Value) (m : Nat)
    (hg : w.heap[g]? = some (.cells cur t (0, 0))) (hm : m = Nat.min sLen dLen) (hn : cs.length = m * 2)
    (hsrc : ∀ j v, cs[j]? = some v → w.cell? (a.add j) = some v) (hfit : o + cs.length ≤ cur.size) (h1 : ∀ v ∈ cs, v.oneCell' = true) :
    (Builtin.copy_ #[31, 31] ty #[.slice (some ⟨g, o, none⟩) dLen dCap, .slice (some a) sLen sCap]).run Try.prog w =
      .ok (goInt m) (w.setRow g (cur.toList.take o ++ cs ++ cur.toList.drop (o + cs.length)).toArray) := by
  have hl := run_loadCells_list (P := Try.prog) w a cs hsrc
  have hst := run_storeCells_at Try.prog g o t cs 0 cur w hg (by simpa using hfit) h1
  obtain ⟨i, z, hq, _, hi, _⟩ := elemEntry.info
  simp [Builtin.copy_, run_underlying elemEntry.ht, Builtin.lenOf, Builtin.firstCells, sizeOf, typeInfo, hq, hi, ← hm, ← hn, hl, hst]
theorem wp_copy_ents {o : Oper} {a : Act} {w : World} {K : Act → World → Prop} {Q : Exit → Act → World → Prop} (d s : Operand)
    (ho : o.op = .call { callee := .builtin .copy, args := #[d, s], argTypes := #[31, 31] })
    {g off dLen dCap sg so sLen sCap m : Nat} (hd : a.eval d = .slice (some ⟨g, off, none⟩) dLen dCap) (hs : a.eval s = .slice (some ⟨sg, so, none⟩) sLen sCap)
    {cur cs : List Value} {t : TypeId} (hg : w.heap[g]? = some (.cells cur.toArray t (0, 0))) (hm : m = Nat.min sLen dLen) (hn : cs.length = m * 2)
    (hsrc : ∀ j v, cs[j]? = some v → w.cell? ⟨sg, so + j, none⟩ = some v) (hfit : off + cs.length ≤ cur.length) (h1 : ∀ v ∈ cs, v.oneCell' = true)
    (h : ∀ w', w'.heap[g]? = some (.cells (splice cur off cs).toArray t (0, 0)) → Kept (fun k => k = g) w w' → K (a.put o.dst (goInt m)) w') :
    o.wp Try.prog a w K Q := by
  have hrun := run_copy_ents w o.type g off dLen dCap ⟨sg, so, none⟩ sLen sCap cur.toArray t cs m hg hm hn (fun j v hj => by rw [addr_add]; exact hsrc j v hj) (by simpa using hfit) h1
  unfold Oper.wp
  simp [execOp, ho, resolve, invoke, builtin, hd, hs, hrun, Result.andThen]
  exact h _ (by simpa [splice] using setRow_heap w g _ _ t _ hg) (Kept.setRow (S := fun k => k = g) (Kept.refl _ _) rfl _)
theorem step_copy_ents {ops : Array Oper} {o : Oper} {a : Act} {w : World} {K : Act → World → Prop} {Q : Exit → Act → World → Prop} {E : Prop} (hgd : o.guard = none) (d s : Operand)
    (ho : o.op = .call { callee := .builtin .copy, args := #[d, s], argTypes := #[31, 31] })
    {g off dLen dCap sg so sLen sCap m : Nat} (hd : a.eval d = .slice (some ⟨g, off, none⟩) dLen dCap) (hs : a.eval s = .slice (some ⟨sg, so, none⟩) sLen sCap)
    {cur cs : List Value} {t : TypeId} (hg : w.heap[g]? = some (.cells cur.toArray t (0, 0))) (hm : m = Nat.min sLen dLen) (hn : cs.length = m * 2)
    (hsrc : ∀ j v, cs[j]? = some v → w.cell? ⟨sg, so + j, none⟩ = some v) (hfit : off + cs.length ≤ cur.length) (h1 : ∀ v ∈ cs, v.oneCell' = true)
    (h : ∀ w', w'.heap[g]? = some (.cells (splice cur off cs).toArray t (0, 0)) → Kept (fun k => k = g) w w' → K (a.put o.dst (goInt m)) w') :
    if Region.wanted o (yielded ops a.tmps) = true then Oper.wp Try.prog o a w K Q else E := by
  rw [if_pos (by simp [Region.wanted, hgd])]
  exact wp_copy_ents d s ho hd hs hg hm hn hsrc hfit h1 h
theorem wpList_copy_ents {ops : Array Oper} {rest : List Oper} {o : Oper} {a : Act} {w : World} {Q : Exit → Act → World → Prop} (hgd : o.guard = none) (d s : Operand)
    (ho : o.op = .call { callee := .builtin .copy, args := #[d, s], argTypes := #[31, 31] })
    {g off dLen dCap sg so sLen sCap m : Nat} (hd : a.eval d = .slice (some ⟨g, off, none⟩) dLen dCap) (hs : a.eval s = .slice (some ⟨sg, so, none⟩) sLen sCap)
    {cur cs : List Value} {t : TypeId} (hg : w.heap[g]? = some (.cells cur.toArray t (0, 0))) (hm : m = Nat.min sLen dLen) (hn : cs.length = m * 2)
    (hsrc : ∀ j v, cs[j]? = some v → w.cell? ⟨sg, so + j, none⟩ = some v) (hfit : off + cs.length ≤ cur.length) (h1 : ∀ v ∈ cs, v.oneCell' = true)
    (h : ∀ w', w'.heap[g]? = some (.cells (splice cur off cs).toArray t (0, 0)) → Kept (fun k => k = g) w w' → wpList Try.prog ops Q rest (a.put o.dst (goInt m)) w') :
    wpList Try.prog ops Q (o :: rest) a w :=
  wpList_plain hgd fun _ hK => wp_copy_ents d s ho hd hs hg hm hn hsrc hfit h1 fun w' h2 h3 => hK _ _ (h w' h2 h3)
end Go.Proofs.Ythmjcbmeiabbgaa
/-
  slices.Insert at entries: at the end.
-/
namespace Go.Proofs.Ythmjcbmeiabbgaa
open Go.RowKit
set_option maxRecDepth 100000

theorem insertEnd {w : World} {base n cap g : Nat} {A : Option Addr} {l : List (Int × Int)} {x : Int × Int} (hown : w.ownsRow base 35 2 (.slice A n cap) n (entCells l)) (hg : w.heap[g]? = some (.cells #[.int .i64 x.1, .int .i64 x.2] 35 (0, 0))) (hbase : base ≤ w.heap.size) (hlen : n ≤ 1000) :
    Calls Try.prog 74 #[.slice A n cap, .int .i64 n, .slice (some ⟨g, 0, none⟩) 1 1] w fun e w' => ∃ v, e = .returned v ∧ w'.ownsRow base 35 2 v (n + 1) (entCells (l ++ [x])) ∧ Kept (fun b => (Value.slice A n cap).ownBlock = some b) w w' := by
  obtain ⟨_, _, _, hv, hc1, hc2, _⟩ := SliceAt.of_owns hown
  cases hv
  unfold maxLen at hc2
  have hown' := Lib.hid hown
  have hsrc := Lib.hid (SliceAt.block_new (size := 2) (ys := [.int .i64 x.1, .int .i64 x.2]) (m := 1) hg (by rfl) (by decide))
  have hst : Hid (entCells (l ++ [x]) = entCells l ++ [.int .i64 x.1, .int .i64 x.2]) := Lib.hid (by rw [entCells_append]; rfl)
  have hA : A = none → n = 0 ∧ cap = 0 := fun e => by
    subst e
    rcases hown.2 with ⟨h1, h2⟩ | ⟨g', c', cur, h1, _⟩
    · cases h1; exact ⟨rfl, rfl⟩
    · cases h1
  clear hown hg
  have hb : Hid (base ≤ w.heap.size) := Lib.hid hbase
  go_enter Try.func74, Try.ntmps74
  cases A with
  | none =>
    obtain ⟨rfl, rfl⟩ := hA rfl
    go_wp2_with (at_builtin; refine wpList_append_src rfl elemEntry (.tmp 23) (.tmp 24) rfl (by rfl) (by rfl) hown'.out hsrc.out (by intro c hc; simp at hc; rcases hc with rfl | rfl <;> rfl) (by omega) (by omega) hb.out ?_; intro v2 w2 hown2 hg2 hat2)
    obtain ⟨_, A2, cap2, rfl, _, _, _⟩ := SliceAt.of_owns hown2
    have hown3 := Lib.hid hown2
    have hk := Lib.hid (Kept.of_grown hg2)
    clear hown2 hg2 hat2
    go_ret
    exact ⟨_, rfl, by rw [hst.out]; exact hown3.out, hk.out⟩
  | some a =>
    obtain ⟨ab, ao, asp⟩ := a
    go_wp2_with (at_builtin; refine wpList_append_src rfl elemEntry (.tmp 23) (.tmp 24) rfl (by rfl) (by rfl) hown'.out hsrc.out (by intro c hc; simp at hc; rcases hc with rfl | rfl <;> rfl) (by omega) (by omega) hb.out ?_; intro v2 w2 hown2 hg2 hat2)
    all_goals (
      obtain ⟨_, A2, cap2, rfl, _, _, _⟩ := SliceAt.of_owns hown2
      have hown3 := Lib.hid hown2
      have hk := Lib.hid (Kept.of_grown hg2)
      clear hown2 hg2 hat2
      go_ret
      exact ⟨_, rfl, by rw [hst.out]; exact hown3.out, hk.out⟩)
end Go.Proofs.Ythmjcbmeiabbgaa
/-
  slices.Insert at entries: in place: the plain part.
-/
namespace Go.Proofs.Ythmjcbmeiabbgaa
open Go.RowKit
set_option maxRecDepth 100000

theorem inplace_cells {cur : List Value} {l : List (Int × Int)} {x : Int × Int} {i n cap : Nat} (hn : n = l.length) (hi : i < n) (hcap : n + 1 ≤ cap) (hcl : cur.length = cap * 2) (hcur : cur.take (n * 2) = entCells l) :
    (splice (splice cur ((i + 1) * 2) (entCells (l.drop i))) (i * 2) (entCells [x])).take ((n + 1) * 2) = entCells (l.take i ++ [x] ++ l.drop i) ∧ (splice (splice cur ((i + 1) * 2) (entCells (l.drop i))) (i * 2) (entCells [x])).length = cap * 2 := by
  have h1 : cur.take (i * 2) = entCells (l.take i) := by
    have : (cur.take (n * 2)).take (i * 2) = (entCells l).take (i * 2) := by rw [hcur]
    rw [List.take_take, Nat.min_eq_left (by omega)] at this
    rw [this, show entCells l = entCells (l.take i) ++ entCells (l.drop i) by rw [← entCells_append, List.take_append_drop], List.take_left' (by rw [entCells_len, List.length_take]; omega)]
  have hd : (entCells (l.drop i)).length = (n - i) * 2 := by rw [entCells_len, List.length_drop, hn]
  have hx : (entCells [x]).length = 2 := by rw [entCells_len]; rfl
  have ht : (entCells (l.take i)).length = i * 2 := by rw [entCells_len, List.length_take]; omega
  obtain ⟨D, hD⟩ : ∃ D, entCells (l.drop i) = D := ⟨_, rfl⟩
  obtain ⟨X, hX⟩ : ∃ X, entCells [x] = X := ⟨_, rfl⟩
  obtain ⟨T, hT⟩ : ∃ T, entCells (l.take i) = T := ⟨_, rfl⟩
  rw [entCells_append, entCells_append, hD, hX, hT]
  rw [hD] at hd; rw [hX] at hx; rw [hT] at ht h1
  obtain ⟨Y, hY⟩ : ∃ Y, (cur.drop (i * 2)).take 2 = Y := ⟨_, rfl⟩
  obtain ⟨R, hR⟩ : ∃ R, cur.drop ((i + 1) * 2 + D.length) = R := ⟨_, rfl⟩
  have hYl : Y.length = 2 := by rw [← hY, List.length_take, List.length_drop]; omega
  have hRl : R.length = cap * 2 - (n + 1) * 2 := by rw [← hR, List.length_drop]; omega
  have e1 : splice cur ((i + 1) * 2) D = T ++ (Y ++ (D ++ R)) := by
    unfold splice
    rw [hR, show (i + 1) * 2 = i * 2 + 2 by omega, List.take_add, h1, hY, List.append_assoc]
  have e2 : splice (T ++ (Y ++ (D ++ R))) (i * 2) X = T ++ (X ++ (D ++ R)) := by
    unfold splice
    rw [← ht, List.take_left, hx, ← hYl, ← List.length_append, ← List.append_assoc T Y, List.drop_left]
  rw [e1, e2]
  refine ⟨?_, by simp only [List.length_append]; omega⟩
  rw [← List.append_assoc, ← List.append_assoc]
  exact List.take_left' (by simp only [List.length_append]; omega)
end Go.Proofs.Ythmjcbmeiabbgaa
