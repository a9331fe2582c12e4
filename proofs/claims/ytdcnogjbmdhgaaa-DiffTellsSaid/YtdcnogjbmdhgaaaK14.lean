/-
 What pages of the pool hold (package leaf): no page of a node that can't be; reading nodes.
-/
import Derived.Test.YtdcnogjbmdhgaaaK07
import Derived.Test.YtdcnogjbmdhgaaaK13
set_option linter.unusedVariables false
set_option linter.unusedSimpArgs false
namespace Go.Proofs.Ytdcnogjbmdhgaaa
open Go.RowKit
set_option maxRecDepth 100000

set_option maxHeartbeats 2000000 in
theorem page_bad {w : World} {n : NM} {sv : Value} (h : EntsAt w sv n.ents) (hb : n.block.length = 16) (hbad : n.rightB = false) :
  Calls Try.prog 35 #[.agg (nodeCells n sv).toArray] w fun e w' => e = .returned (.tuple #[.agg (pageCells zeroPage).toArray, .int .i64 81]) ∧ Kept (fun _ => False) w w' := by
 obtain ⟨A, cap, rfl, hc1, hc2⟩ := h.form
 unfold maxLen at hc2
 obtain ⟨cs, hcs⟩ : ∃ cs, nodeCells n (.slice A n.ents.length cap) = cs := ⟨_, rfl⟩
 obtain ⟨zs, hzs⟩ : ∃ zs, pageCells zeroPage = zs := ⟨_, rfl⟩
 obtain ⟨w1, hw1⟩ : ∃ w1, w.alloc (.cells cs.toArray 71) = w1 := ⟨_, rfl⟩
 obtain ⟨w2, hw2⟩ : ∃ w2, w1.alloc (.cells zs.toArray 98) = w2 := ⟨_, rfl⟩
 obtain ⟨w3, hw3⟩ : ∃ w3, w2.alloc (.cells zs.toArray 98) = w3 := ⟨_, rfl⟩
 have k1 : Kept (fun _ => False) w w1 := by rw [← hw1]; exact (Kept.refl _ _).alloc _
 have k2 : Kept (fun _ => False) w1 w2 := by rw [← hw2]; exact (Kept.refl _ _).alloc _
 have k3 : Kept (fun _ => False) w2 w3 := by rw [← hw3]; exact (Kept.refl _ _).alloc _
 have s1 : w1.heap.size = w.heap.size + 1 := by rw [← hw1]; simp
 have s2 : w2.heap.size = w.heap.size + 2 := by rw [← hw2]; simp [s1]
 have bx1 : NodeBox w1 w.heap.size n (.slice A n.ents.length cap) := ⟨by rw [hcs, ← hw1]; exact heap_alloc_new _ _⟩
 have bx3 := (bx1.kept k2 id).kept k3 id
 have p2 : w2.heap[w.heap.size + 1]? = some (.cells zs.toArray 98 (0, 0)) := by rw [← hw2, ← s1]; exact heap_alloc_new _ _
 have p2' := k3.get p2 id
 have p3 : w3.heap[w.heap.size + 2]? = some (.cells zs.toArray 98 (0, 0)) := by rw [← hw3, ← s2]; exact heap_alloc_new _ _
 have hLc : Hid (cs.length = 18) := h_ (by rw [← hcs]; exact nodeCells_len _ _)
 have hLz : Hid (zs.length = 256) := h_ (by rw [← hzs]; exact pageCells_len _)
 have hZ1 : Hid (∀ v ∈ zs, v.oneCell' = true) := h_ (by rw [← hzs]; exact pageCells_one _)
 have hZ : Hid ((Try.prog.info? 98).map (·.zero) = some (some (.agg zs.toArray))) := h_ (by rw [← hzs]; exact page_zero)
 have hall : Hid (∀ j v, cs[j]? = some v → w3.cell? ⟨w.heap.size, 0 + j, none⟩ = some v) := h_ (by rw [← hcs]; exact bx3.all)
 have hR := right_any ((h.fresh (k1.trans k2)).fresh k3) hb
 rw [hbad, hcs] at hR
 have hR' := h_ hR; clear hR
 rw [hcs, hzs]
 have kall := h_ ((k1.trans k2).trans k3)
 have hw1' := h_ hw1
 have hw2' := h_ hw2
 have hw3' := h_ hw3
 have p2'' := h_ p2'
 have p3' := h_ p3
 have s1' := h_ s1
 have s2' := h_ s2
 clear hcs hzs hw1 hw2 hw3 k1 k2 k3 s1 s2 bx1 bx3 p2 p2' p3 h hb hbad
 go_enter Try.func35, Try.ntmps35
 go_wp2_with (first | (refine wpList_box_named 71 rfl rfl _ rfl hw1'.out ?_) | (refine wpList_alloc_as 98 rfl rfl zs.toArray hZ.out ?_; first | (rw [hw2'.out, s1'.out]) | (rw [hw3'.out, s2'.out])) | (refine wpList_load_agg 71 rfl rfl rfl _ Try.underlying71 rfl cs (by rw [hLc.out]; exact node_size) hall.out ?_))
 refine hR'.out.mono ?_
 rintro e w4 ⟨rfl, hk4⟩
 have hh3 := h_ (hk4.get p3'.out id)
 have hh2 := h_ (hk4.get p2''.out id)
 have hk8 := h_ (kall.out.trans hk4)
 clear hk4
 go_wp2_with (first | (refine wpList_load_agg 98 rfl rfl rfl _ Try.underlying98 rfl zs (by rw [hLz.out]; exact page_size) (fun j v hv => by rw [cell_of_heap hh3.out, Nat.zero_add]; simpa using hv) ?_) | (refine wpList_store_whole 98 rfl rfl rfl zs rfl (by rw [hLz.out]; exact page_size) 98 _ hh2.out (by simp) hZ1.out ?_))
 refine bodyPost_ret (results_row_tmp rfl _ _ (w.heap.size + 1) 98 zs.toArray (0, 0) _ rfl (setRow_heap _ _ _ _ 98 (0, 0) hh2.out) Try.underlying98 rfl (by simp only [List.size_toArray]; rw [hLz.out]; exact page_size)) rfl ?_
 exact ⟨rfl, hk8.out.setRowNew (by omega) _⟩

def zeros16 : List Nat := List.replicate 16 0
theorem node_zero : (Try.prog.info? 71).map (·.zero) = some (some (.agg (nodeCells ⟨0, zeros16, []⟩ (.slice none 0 0)).toArray)) := by kernel_rfl
theorem run_build_node (w : World) (k : Int) : (Instr.build 71 #[(0, .int .i64 k)]).run Try.prog w = .ok (.agg (nodeCells ⟨k, zeros16, []⟩ (.slice none 0 0)).toArray) w := run_build _ _ _ _ (by kernel_rfl)
theorem nodeCells_one (n : NM) (A : Option Addr) (m c : Nat) : ∀ v ∈ nodeCells n (.slice A m c), v.oneCell' = true := by
 intro v hv
 simp only [nodeCells, List.mem_cons, List.mem_append, List.not_mem_nil, or_false] at hv
 rcases hv with rfl | hv | rfl
 ·rfl
 ·exact blockCells_one _ v hv
 ·rfl

structure ReadSt (w0 : World) (B b c d : Nat) (k : Int) (W : World) (es : List (Int × Int)) (v : Value) (l : List Nat) : Prop where
 rd : ReaderAt B W b l
 box : NodeBox W c ⟨k, zeros16, es⟩ v
 res : W.heap[d]? = some (.cells (nodeCells ⟨0, zeros16, []⟩ (.slice none 0 0)).toArray 71 (0, 0))
 own : W.ownsRow w0.heap.size 58 2 v es.length (entCells es)
 kept : Kept (fun i => i = b) w0 W
 le : B ≤ w0.heap.size
 lt : b < B
 geD : w0.heap.size ≤ d
 geC : w0.heap.size ≤ c
 ne : c ≠ d
theorem ReadSt.cell {w0 : World} {B b c d : Nat} {k : Int} {W : World} {es : List (Int × Int)} {v : Value} {l : List Nat} (h : ReadSt w0 B b c d k W es v l) : W.cell? ⟨c, 17, none⟩ = some v := h.box.c17
theorem ReadSt.offC {w0 : World} {B b c d : Nat} {k : Int} {W : World} {es : List (Int × Int)} {v : Value} {l : List Nat} (h : ReadSt w0 B b c d k W es v l) : v.ownBlock ≠ some c ∧ v.ownBlock ≠ some d := by
 rcases h.own.2 with ⟨rfl, _⟩ | ⟨g, cap, cur, rfl, _, hg, _⟩
 ·simp [Value.ownBlock]
 ·refine ⟨fun e => ?_, fun e => ?_⟩
  ·simp [Value.ownBlock] at e
   subst e
   have := h.box.heap
   rw [hg] at this
   simp at this
  ·simp [Value.ownBlock] at e
   subst e
   have := h.res
   rw [hg] at this
   simp at this
theorem ReadSt.step {w0 : World} {B b c d : Nat} {k : Int} {W W' : World} {es : List (Int × Int)} {v : Value} {l l' : List Nat} (h : ReadSt w0 B b c d k W es v l) (hr : ReaderAt B W' b l') (hk : Kept (fun i => i = b) W W') : ReadSt w0 B b c d k W' es v l' := by
 have h1 := h.le
 have h2 := h.lt
 have h3 := h.geC
 have h4 := h.geD
 exact ⟨hr, h.box.kept hk (by omega), hk.get h.res (by omega), ownsRow.keptOf h.own hk (fun g hg e => by have := (h.own.lt g hg).1; omega), h.kept.trans hk, h.le, h.lt, h.geD, h.geC, h.ne⟩
theorem ReadSt.fresh {w0 : World} {B b c d : Nat} {k : Int} {W W' : World} {es : List (Int × Int)} {v : Value} {l : List Nat} (h : ReadSt w0 B b c d k W es v l) (hk : Kept (fun _ => False) W W') : ReadSt w0 B b c d k W' es v l :=
 h.step (h.rd.kept hk (fun _ _ => id)) (hk.mono (fun _ => False.elim))
theorem ReadSt.more {w0 : World} {B b c d : Nat} {k : Int} {W w1 : World} {es : List (Int × Int)} {v : Value} {l : List Nat} (h : ReadSt w0 B b c d k W es v l) (x : Int × Int) {g cap : Nat}
  (hown : w1.ownsRow w0.heap.size 58 2 (.slice (some ⟨g, 0, none⟩) (es.length + 1) cap) (es.length + 1) (entCells es ++ [.int .i64 x.1, .int .i64 x.2])) (hg : W.grownBy w1 v.ownBlock) :
  ReadSt w0 B b c d k (w1.setCell ⟨c, 17, none⟩ (.slice (some ⟨g, 0, none⟩) (es.length + 1) cap)) (es ++ [x]) (.slice (some ⟨g, 0, none⟩) (es.length + 1) cap) l := by
 have h1 := h.le
 have h2 := h.lt
 have h3 := h.geC
 have h4 := h.geD
 obtain ⟨o1, o2⟩ := h.offC
 have kg : Kept (fun i => v.ownBlock = some i) W w1 := Kept.of_grown hg
 have hlt := h.own.lt
 have b1 : NodeBox w1 c ⟨k, zeros16, es⟩ v := h.box.kept kg o1
 have r1 := kg.get h.res o2
 have hgc : g ≠ c := by
  rcases hown.2 with ⟨e, _⟩ | ⟨g', cap', cur, e, _, hg', _⟩
  ·cases e
  ·intro e2
   cases e
   subst e2
   have := b1.heap
   rw [hg'] at this
   simp at this
 have kS : ∀ u, Kept (fun i => i = c) w1 (w1.setCell ⟨c, 17, none⟩ u) := fun u => (Kept.refl (fun i => i = c) w1).setCell (p := ⟨c, 17, none⟩) rfl u
 have hrd : ReaderAt B w1 b l := h.rd.kept kg (fun i hi e => by have := (hlt i e).1; omega)
 refine ⟨hrd.kept (kS _) (fun i hi e => by omega), ⟨?_⟩, (kS _).get r1 (fun e => h.ne e.symm), ?_, ?_, h.le, h.lt, h.geD, h.geC, h.ne⟩
 ·have := heap_setCell_same b1.heap 17 (.slice (some ⟨g, 0, none⟩) (es.length + 1) cap)
  rw [this]
  rfl
 ·have hx : entCells (es ++ [x]) = entCells es ++ [.int .i64 x.1, .int .i64 x.2] := by rw [entCells_append]; rfl
  rw [hx, List.length_append]
  exact ownsRow.keptOf hown (kS _) (fun k hk e => by simp [Value.ownBlock] at hk; omega)
 ·exact (h.kept.trans_new kg (fun i hi e => by have := (hlt i e).1; omega)).trans_new (kS _) (fun i hi e => by omega)
end Go.Proofs.Ytdcnogjbmdhgaaa
