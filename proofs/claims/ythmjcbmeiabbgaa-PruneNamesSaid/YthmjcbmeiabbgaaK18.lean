/-
  Layer 10's laws: the chapter's example.
-/
import Derived.Test.YthmjcbmeiabbgaaK17
set_option linter.unusedVariables false
set_option linter.unusedSimpArgs false
namespace Go.Proofs.Ythmjcbmeiabbgaa
open Go.RowKit
set_option maxRecDepth 100000

theorem alive10_facts : ∃ M1 M2 : SM, (madeM 16 9).put (-1) 5 0 = (M1, 1, 0) ∧ M1.swap (-1) 1 = (M2, 0) ∧ M2.find 1 5 = (0, 0) ∧ M2.find 1 6 = (-1, 0) :=
  ⟨((madeM 16 9).put (-1) 5 0).1, (((madeM 16 9).put (-1) 5 0).1.swap (-1) 1).1, Prod.ext rfl (by kernel_rfl), Prod.ext rfl (by kernel_rfl), by kernel_rfl, by kernel_rfl⟩
/-- A store that is a call's own. -/
structure OwnStore (w : World) (A : SA) (M : SM) (wr : World) : Prop where
  store : StoreAt wr A M
  kept : Kept (fun _ => False) w wr
  new : ∀ k, A.own k → w.heap.size ≤ k
theorem OwnStore.fresh {w wr w' : World} {A : SA} {M : SM} (h : OwnStore w A M wr) (k : Kept (fun _ => False) wr w') : OwnStore w A M w' := ⟨h.store.fresh k, h.kept.trans k, h.new⟩
theorem OwnStore.to {w wr w' : World} {A A' : SA} {M M' : SM} (h : OwnStore w A M wr) (k : StoreTo A A' M' wr w') : OwnStore w A' M' w' := by
  refine ⟨k.store, h.kept.trans_new k.kept (fun i hi e => by have := h.new _ (.inl e); omega), fun j hj => ?_⟩
  have hsz := h.kept.size
  rcases hj with hj | hj | hj
  · rcases k.foot j hj with e | e
    · exact h.new _ (.inl e)
    · omega
  · rw [k.fix.2] at hj; exact h.new _ (.inr (.inl hj))
  · rw [k.fix.1] at hj; exact h.new _ (.inr (.inr hj))
/-- A tree's variable: a box with its store's address. -/
structure TreeVar (wr : World) (A : SA) (b sb : Nat) : Prop where
  heap : wr.heap[b]? = some (.cells #[.pointer (some ⟨sb, 0, none⟩)] 26 (0, 0))
  safe : Safe wr A b
  eq : A.sb = sb
theorem TreeVar.fresh {wr w' : World} {A : SA} {b sb : Nat} (h : TreeVar wr A b sb) (k : Kept (fun _ => False) wr w') : TreeVar w' A b sb := ⟨k.get h.heap id, h.safe.fresh k, h.eq⟩
theorem TreeVar.to {wr w' : World} {A A' : SA} {M' : SM} {b sb : Nat} (h : TreeVar wr A b sb) (k : StoreTo A A' M' wr w') : TreeVar w' A' b sb := ⟨k.get h.heap h.safe, h.safe.to k, k.sb.trans h.eq⟩
theorem TreeVar.load {wr : World} {A : SA} {b sb : Nat} (h : TreeVar wr A b sb) : ∀ j v, [Value.pointer (some ⟨sb, 0, none⟩)][j]? = some v → wr.cell? ⟨b, 0 + j, none⟩ = some v := fun j v hj => by rw [Nat.zero_add, cell_of_heap h.heap]; simpa using hj
/-- The variable is made, and filled. -/
theorem TreeVar.made {w wr : World} {A : SA} {M : SM} (h : OwnStore w A M wr) {b : Nat} (hb : wr.heap.size = b) :
    OwnStore w A M ((wr.alloc (.cells #[.pointer none] 26)).setRow b #[.pointer (some ⟨A.sb, 0, none⟩)]) ∧ TreeVar ((wr.alloc (.cells #[.pointer none] 26)).setRow b #[.pointer (some ⟨A.sb, 0, none⟩)]) A b A.sb := by
  have k : Kept (fun _ => False) wr ((wr.alloc (.cells #[.pointer none] 26)).setRow b #[.pointer (some ⟨A.sb, 0, none⟩)]) := ((Kept.refl _ _).alloc _).setRowNew (by omega) _
  refine ⟨h.fresh k, ⟨by rw [← hb]; exact setRow_heap _ _ _ _ _ _ (heap_alloc_new _ _), Safe.new h.store (by omega) (by simp [World.setRow]; omega), rfl⟩⟩

set_option maxHeartbeats 4000000 in
theorem alive10 (w : World) : Calls Try.prog 13 #[] w fun e w' => e = .returned (.bool true) ∧ Kept (fun _ => False) w w' := by
  obtain ⟨M1, M2, e1, e2, e3, e4⟩ := alive10_facts
  have hlog : M1.log.length ≤ 23 := by have := put_log (madeM 16 9) (-1) 5 0; rw [e1] at this; exact this
  have hlog2 : M2.log.length ≤ 23 := by have := swap_log M1 (-1) 1; rw [e2] at this; simp only at this; rw [this]; exact hlog
  have hm := made10 20 (by decide) (by decide) w
  rw [show (min (20 : Int) 244 - 4).toNat = 16 from by decide] at hm
  have hm' := Lib.hid hm
  have e1' := Lib.hid e1
  have e2' := Lib.hid e2
  have e3' := Lib.hid e3
  have e4' := Lib.hid e4
  clear e1 e2 e3 e4 hm
  go_enter Try.func13, Try.ntmps13
  go_wp2_with fail
  refine hm'.out.mono ?_
  rintro e w2 ⟨A, rfl, hA, hk, hn⟩
  obtain ⟨b, hb⟩ : ∃ b, w2.heap.size = b := ⟨_, rfl⟩
  have hO := TreeVar.made (b := b) ⟨hA, hk, hn⟩ hb
  obtain ⟨w3, hw3⟩ : ∃ w3, (w2.alloc (.cells #[.pointer none] 26)).setRow b #[.pointer (some ⟨A.sb, 0, none⟩)] = w3 := ⟨_, rfl⟩
  rw [hw3] at hO
  obtain ⟨hO3, hT3⟩ := hO
  have hO3 := Lib.hid hO3
  have hT3 := Lib.hid hT3
  have hw3' := Lib.hid hw3
  have hb' := Lib.hid hb
  obtain ⟨sb, hsb⟩ : ∃ sb, A.sb = sb := ⟨_, rfl⟩
  have c3 := cell_of_heap hT3.out.heap 0
  have hP := treePut hO3.out.store (-1) 5 0 (by show 1 + 30 < 100000000; omega)
  rw [e1'.out, hsb] at hP
  have hP' := Lib.hid hP
  rw [hsb] at hw3' hT3 c3 ⊢
  simp at c3
  clear hA hk hn hw3 hb hP
  go_wp2_with (first | (refine wpList_alloc_as 26 rfl rfl #[.pointer none] tree_zero ?_; rw [hb'.out]) | (refine wpList_store_whole 26 rfl rfl rfl [.pointer (some ⟨sb, 0, none⟩)] rfl (by kernel_rfl) 26 #[.pointer none] (by rw [← hb'.out]; exact heap_alloc_new _ _) rfl (by intro c hc; simp at hc; subst hc; rfl) ?_; rw [hw3'.out]) | (refine wpList_load_agg 26 rfl rfl rfl _ Try.underlying26 rfl [.pointer (some ⟨sb, 0, none⟩)] (by kernel_rfl) hT3.out.load ?_))
  refine hP'.out.mono ?_
  rintro e w4 ⟨A4, rfl, hT4⟩
  have hO4 := Lib.hid (hO3.out.to hT4)
  have hV4 := Lib.hid (hT3.out.to hT4)
  have hS := treeSwap hO4.out.store (-1) 1
  rw [e2'.out, hV4.out.eq] at hS
  have hS' := Lib.hid hS
  clear hT4 hS c3
  go_wp2_with (first | (refine wpList_load_agg 26 rfl rfl rfl _ Try.underlying26 rfl [.pointer (some ⟨sb, 0, none⟩)] (by kernel_rfl) hV4.out.load ?_))
  refine hS'.out.mono ?_
  rintro e w5 ⟨rfl, hT5⟩
  have hO5 := Lib.hid (hO4.out.to hT5)
  have hV5 := Lib.hid (hV4.out.to hT5)
  have hF := treeFind hO5.out.store 1 5
  rw [e3'.out, hV5.out.eq] at hF
  have hF' := Lib.hid hF
  clear hT5 hF
  go_wp2_with (first | (refine wpList_load_agg 26 rfl rfl rfl _ Try.underlying26 rfl [.pointer (some ⟨sb, 0, none⟩)] (by kernel_rfl) hV5.out.load ?_))
  refine hF'.out.mono ?_
  rintro e w6 ⟨rfl, hk6⟩
  have hO6 := Lib.hid (hO5.out.fresh hk6)
  have hV6 := Lib.hid (hV5.out.fresh hk6)
  have hF := treeFind hO6.out.store 1 6
  rw [e4'.out, hV6.out.eq] at hF
  have hF' := Lib.hid hF
  clear hk6 hF
  go_wp2_with (first | (refine wpList_load_agg 26 rfl rfl rfl _ Try.underlying26 rfl [.pointer (some ⟨sb, 0, none⟩)] (by kernel_rfl) hV6.out.load ?_))
  refine hF'.out.mono ?_
  rintro e w7 ⟨rfl, hk7⟩
  have hO7 := Lib.hid (hO6.out.fresh hk7)
  clear hk7
  go_wp2_with fail
  go_ret
  exact ⟨rfl, hO7.out.kept⟩
end Go.Proofs.Ythmjcbmeiabbgaa
/-
  Layer 11's laws: an empty store with a page of a block.
-/
namespace Go.Proofs.Ythmjcbmeiabbgaa
open Go.RowKit
set_option maxRecDepth 100000

theorem pruner_zero : (Try.prog.info? 57).map (·.zero) = some (some (.agg #[.pointer none])) := by kernel_rfl
set_option maxHeartbeats 4000000 in
theorem made11 (x : Int) (h0 : 5 ≤ x) (h1 : x ≤ 1000) (w : World) :
    Calls Try.prog 28 #[.int .i64 x] w fun e w' => ∃ A, e = .returned (.tuple #[.agg #[.pointer (some ⟨A.sb, 0, none⟩)], .int .i64 0, .bool true]) ∧ StoreAt w' A (madeM (min x 244 - 4).toNat 9) ∧ Kept (fun _ => False) w w' ∧ ∀ k, A.own k → w.heap.size ≤ k := by
  obtain ⟨s, hs⟩ : ∃ s, (min x 244 - 4).toNat = s := ⟨_, rfl⟩
  have hsz : Hid (clampN (max 0 (min x 244 - 4)) = s) := Lib.hid (by unfold clampN; omega)
  have hdn : Hid (max 0 (min x 244) = ((s + 4 : Nat) : Int)) := Lib.hid (by omega)
  have hs0 : 0 < s := by omega
  have hs1 : s ≤ 240 := by omega
  obtain ⟨w1, hw1⟩ : ∃ w1, w.alloc (.cells #[.pointer none] 57) = w1 := ⟨_, rfl⟩
  have k1 := Lib.hid (show Kept (fun _ => False) w w1 by rw [← hw1]; exact (Kept.refl _ _).alloc _)
  have t1 := Lib.hid (show w1.heap[w.heap.size]? = some (.cells #[.pointer none] 57 (0, 0)) by rw [← hw1]; exact heap_alloc_new _ _)
  have z1 : Hid (w1.heap.size = w.heap.size + 1) := Lib.hid (by rw [← hw1]; simp)
  have hw1' := Lib.hid hw1
  have hb1 : Hid (∀ w, (Instr.build 30 #[(0, .int .u8 9)]).run Try.prog w = .ok (.agg (blockCells (dataN 9).block).toArray) w) := Lib.hid (fun w => run_build _ _ _ _ (by kernel_rfl))
  have hb2 : Hid (∀ w, (Instr.build 33 #[(0, .int .i64 1), (1, .agg (blockCells (dataN 9).block).toArray)]).run Try.prog w = .ok (.agg (nodeCells (dataN 9) (.slice none 0 0)).toArray) w) := Lib.hid (fun w => run_build _ _ _ _ (by kernel_rfl))
  obtain ⟨B, hB⟩ : ∃ B, blockCells (dataN 9).block = B := ⟨_, rfl⟩
  obtain ⟨C, hC⟩ : ∃ C, nodeCells (dataN 9) (.slice none 0 0) = C := ⟨_, rfl⟩
  rw [hB] at hb1 hb2
  rw [hC] at hb2
  have hC' := Lib.hid hC
  rw [hs]
  clear hw1 hB hC hs
  go_enter Try.func28, Try.ntmps28
  go_wp2_with (first | (refine wpList_alloc_as 57 rfl rfl #[.pointer none] pruner_zero ?_; rw [hw1'.out]))
  refine (diskNew (s + 4) (by omega) x hdn.out _).mono ?_
  rintro e w2 ⟨D, rfl, hD, hDn, hDp, hDo, hk2⟩
  have hD' := Lib.hid hD
  have hDn' := Lib.hid hDn
  have hDp' := Lib.hid hDp
  have hDo' := Lib.hid hDo
  have hk2' := Lib.hid hk2
  clear hD hDn hDp hDo hk2
  go_wp2_with fail
  refine (nodesSize x _ (by omega) h1).mono ?_
  rintro e w3 ⟨rfl, rfl⟩
  go_wp2_with fail
  refine (new_any _ _).mono ?_
  rintro e w3 ⟨c, rfl, hnew⟩
  have hP := hnew.pool
  rw [hsz.out] at hP
  have hP' := Lib.hid hP
  have hck := hnew.new
  have hk3 := Lib.hid hnew.kept
  clear hnew hP
  go_wp2_with fail
  refine (nodesNew (hD'.out.fresh hk3.out) hP'.out hDp'.out (fun e => by have := hD'.out.lt _ e; omega) (.inr (by rw [hDn'.out]; exact Nat.le_refl _))).mono ?_
  rintro e w4 ⟨A, rfl, hA, hk4, hAo⟩
  have hA' := Lib.hid hA
  have hk14 := Lib.hid (((hk2'.out.trans hk3.out).trans hk4))
  have hAo' : Hid (∀ k, A.own k → w1.heap.size ≤ k) := Lib.hid (fun k hk => by
    rcases hAo k hk with rfl | h | h
    · have := hk2'.out.size; omega
    · exact hDo'.out _ h
    · have := hk2'.out.size; have := hk3.out.size; omega)
  have hmk := storeMake (n := dataN 9) (sv := .slice none 0 0) hA ⟨sliceNil (by decide), fun b hb => by simp [Value.ownBlock] at hb⟩ rfl (dataN_ok 9 (by decide)).2.2 (by show 0 < 100000000; omega)
  rw [make_first s 9 hs0, hC'.out] at hmk
  have hmk' := Lib.hid hmk
  clear hA hk4 hAo hmk
  go_wp2_with (first | (refine wpList_exec rfl (exec_build 30 #[(0, .const (.int .u8 9))] _ rfl (by simp [Act.eval]) (hb1.out _)) ?_) | (refine wpList_exec rfl (exec_build 33 #[(0, .const (.int .i64 1)), (1, .tmp 19)] _ rfl (by simp [Act.eval, Act.put]) (hb2.out _)) ?_))
  refine hmk'.out.mono ?_
  rintro e w5 ⟨A5, rfl, hT5⟩
  have hsb5 := hT5.sb
  have hh := storeHold hT5.store 0
  rw [hold_first s 9 hs0, hsb5] at hh
  have hh' := Lib.hid hh
  have hT5' := Lib.hid hT5
  clear hh hT5 hsb5
  have hbt : Hid (∀ w, (Instr.build 26 #[(0, .pointer (some ⟨A.sb, 0, none⟩))]).run Try.prog w = .ok (.agg [Value.pointer (some ⟨A.sb, 0, none⟩)].toArray) w) := Lib.hid (fun w => run_build _ _ _ _ (by kernel_rfl))
  have hbp : Hid (∀ w, (Instr.build 57 #[(0, .agg [Value.pointer (some ⟨A.sb, 0, none⟩)].toArray)]).run Try.prog w = .ok (.agg [Value.pointer (some ⟨A.sb, 0, none⟩)].toArray) w) := Lib.hid (fun w => run_build _ _ _ _ (by kernel_rfl))
  go_wp2_with (first | (refine wpList_exec rfl (exec_build 26 #[(0, .tmp 24)] _ rfl (by simp [Act.eval, Act.put]) (hbt.out _)) ?_) | (refine wpList_exec rfl (exec_build 57 #[(0, .tmp 25)] _ rfl (by simp [Act.eval, Act.put]) (hbp.out _)) ?_))
  refine hh'.out.mono ?_
  rintro e w6 ⟨rfl, hT6⟩
  have hT := Lib.hid (hT5'.out.trans hT6)
  have t6 := Lib.hid (hT.out.kept.get (hk14.out.get t1.out id) (fun e => by have := hAo'.out _ (.inl e); have := z1.out; omega))
  have hk6 : Hid (Kept (fun _ => False) w w6) := Lib.hid ((k1.out.trans hk14.out).trans_new hT.out.kept (fun i hi e => by have := hAo'.out _ (.inl e); have := z1.out; omega))
  have c6 := cell_of_heap t6.out 0
  have f6 := free_of_heap t6.out 0
  simp at c6
  have hk46 : Hid (∀ k, A5.own k → w.heap.size + 1 ≤ k) := Lib.hid (fun k hk => by
    have hz := z1.out
    have hsz4 := hk14.out.size
    rcases hk with hk | hk | hk
    · rcases hT.out.foot k hk with h | h
      · have := hAo'.out _ (.inl h); omega
      · omega
    · rw [hT.out.fix.2] at hk
      have := hAo'.out _ (.inr (.inl hk)); omega
    · rw [hT.out.fix.1] at hk
      have := hAo'.out _ (.inr (.inr hk)); omega)
  have hsb : A5.sb = A.sb := hT.out.sb
  clear hT6
  go_wp2_with (first | (refine wpList_store_whole 57 rfl rfl rfl [.pointer (some ⟨A.sb, 0, none⟩)] rfl (by kernel_rfl) 57 #[.pointer none] t6.out rfl (by intro c hc; simp at hc; subst hc; rfl) ?_))
  refine bodyPost_ret (results_row_tmp2 rfl _ _ w.heap.size 57 #[.pointer (some ⟨A.sb, 0, none⟩)] (0, 0) _ rfl (setRow_heap _ _ _ _ 57 (0, 0) t6.out) Try.underlying57 rfl (by kernel_rfl)) rfl ?_
  have kS := (Kept.refl (fun i => i = w.heap.size) w6).setRow rfl #[.pointer (some ⟨A.sb, 0, none⟩)]
  exact ⟨A5, by rw [hsb]; rfl, hT.out.store.kept kS (fun i hi e => by have := hk46.out i hi; omega), hk6.out.setRowNew (Nat.le_refl _) _, fun k hk => by have := hk46.out k hk; omega⟩
end Go.Proofs.Ythmjcbmeiabbgaa
/-
  Layer 11's laws: the chapter's example.
-/
namespace Go.Proofs.Ythmjcbmeiabbgaa
open Go.RowKit
set_option maxRecDepth 100000

/-- A pruner's variable: a box with its store's address. -/
structure PrVar (wr : World) (A : SA) (b sb : Nat) : Prop where
  heap : wr.heap[b]? = some (.cells #[.pointer (some ⟨sb, 0, none⟩)] 57 (0, 0))
  safe : Safe wr A b
  eq : A.sb = sb
theorem PrVar.fresh {wr w' : World} {A : SA} {b sb : Nat} (h : PrVar wr A b sb) (k : Kept (fun _ => False) wr w') : PrVar w' A b sb := ⟨k.get h.heap id, h.safe.fresh k, h.eq⟩
theorem PrVar.to {wr w' : World} {A A' : SA} {M' : SM} {b sb : Nat} (h : PrVar wr A b sb) (k : StoreTo A A' M' wr w') : PrVar w' A' b sb := ⟨k.get h.heap h.safe, h.safe.to k, k.sb.trans h.eq⟩
theorem PrVar.load {wr : World} {A : SA} {b sb : Nat} (h : PrVar wr A b sb) : ∀ j v, [Value.pointer (some ⟨sb, 0, none⟩)][j]? = some v → wr.cell? ⟨b, 0 + j, none⟩ = some v := fun j v hj => by rw [Nat.zero_add, cell_of_heap h.heap]; simpa using hj
/-- The variable is made, and filled. -/
theorem PrVar.made {w wr : World} {A : SA} {M : SM} (h : OwnStore w A M wr) {b : Nat} (hb : wr.heap.size = b) :
    OwnStore w A M ((wr.alloc (.cells #[.pointer none] 57)).setRow b #[.pointer (some ⟨A.sb, 0, none⟩)]) ∧ PrVar ((wr.alloc (.cells #[.pointer none] 57)).setRow b #[.pointer (some ⟨A.sb, 0, none⟩)]) A b A.sb := by
  have k : Kept (fun _ => False) wr ((wr.alloc (.cells #[.pointer none] 57)).setRow b #[.pointer (some ⟨A.sb, 0, none⟩)]) := ((Kept.refl _ _).alloc _).setRowNew (by omega) _
  refine ⟨h.fresh k, ⟨by rw [← hb]; exact setRow_heap _ _ _ _ _ _ (heap_alloc_new _ _), Safe.new h.store (by omega) (by simp [World.setRow]; omega), rfl⟩⟩
/-- Entries that are written out. -/
theorem ents_new {w : World} {A : SA} {M : SM} (h : StoreAt w A M) (l : List (Int × Int)) (hl : l.length ≤ 1000) : StoreAt (w.alloc (.cells (entCells l).toArray 35)) A M ∧ EntsOff (w.alloc (.cells (entCells l).toArray 35)) A (.slice (some ⟨w.heap.size, 0, none⟩) l.length l.length) l := by
  refine ⟨h.fresh ((Kept.refl _ _).alloc _), SliceAt.block_new (heap_alloc_new _ _) (entCells_len _) (by unfold maxLen; omega), fun b hb => ?_⟩
  simp [Value.ownBlock] at hb
  subst hb
  exact ⟨by simp, fun e => Nat.lt_irrefl _ (h.lt (.inl e))⟩
def m11a : SM := (SM.build [(1, 0), (2, 0)] (madeM 26 9) (-1)).1
def m11b : SM := (m11a.cut 2 1).1
def m11c : SM := (m11b.cut 2 3).1
theorem m11_build : SM.build [(1, 0), (2, 0)] (madeM 26 9) (-1) = (m11a, 2, 0) := Prod.ext rfl (by kernel_rfl)
theorem m11_cut : m11a.cut 2 1 = (m11b, 1, true, 0) := Prod.ext rfl (by kernel_rfl)
theorem m11_cut2 : m11b.cut 2 3 = (m11c, 2, false, 0) := Prod.ext rfl (by kernel_rfl)
theorem m11_list : m11c.list 1 = ([(2, 0)], 0) := by kernel_rfl
theorem m11_log : m11a.log.length ≤ 100 ∧ m11b.log.length ≤ 100 := ⟨of_decide_eq_true (by kernel_rfl), of_decide_eq_true (by kernel_rfl)⟩
set_option maxHeartbeats 4000000 in
theorem alive11 (w : World) : Calls Try.prog 29 #[] w fun e w' => e = .returned (.bool true) ∧ Kept (fun _ => False) w w' := by
  have e1 := m11_build
  have e2 := m11_cut
  have e3 := m11_cut2
  have e4 := m11_list
  obtain ⟨hl1, hl2⟩ := m11_log
  generalize m11a = M1 at *
  generalize m11b = M2 at *
  generalize m11c = M3 at *
  have hm := made11 30 (by decide) (by decide) w
  rw [show (min (30 : Int) 244 - 4).toNat = 26 from by decide] at hm
  have hm' := Lib.hid hm
  have e1' := Lib.hid e1
  have e2' := Lib.hid e2
  have e3' := Lib.hid e3
  have e4' := Lib.hid e4
  clear e1 e2 e3 e4 hm
  go_enter Try.func29, Try.ntmps29
  go_wp2_with fail
  refine hm'.out.mono ?_
  rintro e w2 ⟨A, rfl, hA, hk, hn⟩
  obtain ⟨b, hb⟩ : ∃ b, w2.heap.size = b := ⟨_, rfl⟩
  have hO := PrVar.made (b := b) ⟨hA, hk, hn⟩ hb
  obtain ⟨w3, hw3⟩ : ∃ w3, (w2.alloc (.cells #[.pointer none] 57)).setRow b #[.pointer (some ⟨A.sb, 0, none⟩)] = w3 := ⟨_, rfl⟩
  rw [hw3] at hO
  obtain ⟨hO3, hT3⟩ := hO
  have hO3 := Lib.hid hO3
  have hT3 := Lib.hid hT3
  have hw3' := Lib.hid hw3
  have hb' := Lib.hid hb
  obtain ⟨sb, hsb⟩ : ∃ sb, A.sb = sb := ⟨_, rfl⟩
  rw [hsb] at hw3' hT3 ⊢
  clear hA hk hn hw3 hb
  go_wp2_with (first | (refine wpList_alloc_as 57 rfl rfl #[.pointer none] pruner_zero ?_; rw [hb'.out]) | (refine wpList_store_whole 57 rfl rfl rfl [.pointer (some ⟨sb, 0, none⟩)] rfl (by kernel_rfl) 57 #[.pointer none] (by rw [← hb'.out]; exact heap_alloc_new _ _) rfl (by intro c hc; simp at hc; subst hc; rfl) ?_; rw [hw3'.out]) | (refine wpList_load_agg 26 rfl rfl rfl _ Try.underlying26 rfl [.pointer (some ⟨sb, 0, none⟩)] (by kernel_rfl) hT3.out.load ?_))
  obtain ⟨hS4, hE4⟩ := ents_new hO3.out.store [(1, 0), (2, 0)] (by decide)
  have hB := treeBuild hS4 hE4 (by decide) (by show 1 + 100000 < 100000000; omega)
  rw [e1'.out, hT3.out.eq] at hB
  refine hB.mono ?_
  rintro e w5 ⟨A5, rfl, hT5⟩
  have hk4 : Kept (fun _ => False) w3 (w3.alloc (.cells (entCells [((1 : Int), (0 : Int)), (2, 0)]).toArray 35)) := (Kept.refl _ _).alloc _
  have hO5 := Lib.hid ((hO3.out.fresh hk4).to hT5)
  have hV5 := Lib.hid ((hT3.out.fresh hk4).to hT5)
  have hC := pruneCut hO5.out.store 2 1 (by show M1.log.length + 30 < 100000000; omega)
  rw [e2'.out, hV5.out.eq] at hC
  have hC' := Lib.hid hC
  clear hB hT5 hk4 hC hS4 hE4
  go_wp2_with (first | (refine wpList_load_agg 57 rfl rfl rfl _ Try.underlying57 rfl [.pointer (some ⟨sb, 0, none⟩)] (by kernel_rfl) hV5.out.load ?_))
  refine hC'.out.mono ?_
  rintro e w6 ⟨A6, rfl, hT6⟩
  have hO6 := Lib.hid (hO5.out.to hT6)
  have hV6 := Lib.hid (hV5.out.to hT6)
  have hC := pruneCut hO6.out.store 2 3 (by show M2.log.length + 30 < 100000000; omega)
  rw [e3'.out, hV6.out.eq] at hC
  have hC' := Lib.hid hC
  clear hC hT6
  go_wp2_with (first | (refine wpList_load_agg 57 rfl rfl rfl _ Try.underlying57 rfl [.pointer (some ⟨sb, 0, none⟩)] (by kernel_rfl) hV6.out.load ?_))
  refine hC'.out.mono ?_
  rintro e w7 ⟨A7, rfl, hT7⟩
  have hO7 := Lib.hid (hO6.out.to hT7)
  have hV7 := Lib.hid (hV6.out.to hT7)
  have hL := treeList hO7.out.store 1
  rw [e4'.out, hV7.out.eq] at hL
  have hL' := Lib.hid hL
  clear hL hT7
  go_wp2_with (first | (refine wpList_load_agg 26 rfl rfl rfl _ Try.underlying26 rfl [.pointer (some ⟨sb, 0, none⟩)] (by kernel_rfl) hV7.out.load ?_))
  refine hL'.out.mono ?_
  rintro e w8 ⟨v, rfl, hown, hk8⟩
  have hE8 : EntsAt w8 v [(2, 0)] := SliceAt.of_owns hown
  obtain ⟨Av, cap, rfl, _⟩ := EntsAt.form hE8
  obtain ⟨b8, off8, rfl, _, c1, c2⟩ := EntsAt.get hE8 (i := 0) (x := (2, 0)) rfl
  have hO8 := Lib.hid (hO7.out.fresh hk8)
  rw [Nat.zero_mul, Nat.add_zero] at c1
  clear hown hE8 hk8 c2
  go_wp2_with fail
  go_ret
  exact ⟨rfl, hO8.out.kept⟩
end Go.Proofs.Ythmjcbmeiabbgaa
