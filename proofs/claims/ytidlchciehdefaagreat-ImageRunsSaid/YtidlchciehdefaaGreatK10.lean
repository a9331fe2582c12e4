/-
 Numbers as bytes (package ends): the next number, of one byte (a range over a function).
-/
import Derived.Test.YtidlchciehdefaaGreatK09
import Derived.RangeFuncNested
import Derived.RangeFuncBound
import Derived.RangeFuncCalls
import Derived.RangeFuncLeaves
import Derived.RangeFuncBox
import Derived.Shelf.Abstract
import Derived.Shelf.RegionOpen
import Derived.WalkKit
import Derived.OwnWalkIn
import Derived.TacticsInMore
import Derived.LoopNIn
import Derived.LoopIn
import Derived.Laws.BitsAllLaws
set_option linter.unusedVariables false
set_option linter.unusedSimpArgs false
namespace Go.Proofs.YtidlchciehdefaaGreat
open Go.RowKit Go.Shelf
abbrev U8 := { x : Int // 0 ≤ x ∧ x ≤ 255 }
attribute [local go_sem] Oper.semAt_some

set_option maxRecDepth 100000 in
set_option maxHeartbeats 2000000 in
theorem backward1_in (F : Fence) (n : Nat) (h8 : F.fn 183) (hro : F.round = none) (hn : 1 ≤ n) (l Bs b off cap : Nat) (c : U8) (J Jx : List U8 → World → Prop)
  (hY : ∀ pre x W, J pre W → pre.length < 1 → YieldAt F (n - 1) Tryz.prog l #[.int .i64 0, .int .u8 x.1] W fun e W' =>
   (e = .returned (.bool true) ∧ J (pre ++ [x]) W' ∧ True) ∨ (e = .returned (.bool false) ∧ Jx (pre ++ [x]) W'))
  (W : World) (hBs : W.cell? ⟨Bs, 0, none⟩ = some (.slice (some ⟨b, off, none⟩) 1 cap)) (hc : W.cell? ⟨b, off, none⟩ = some (.int .u8 c.1)) (h0 : J [] W) :
  CallsIn F n Tryz.prog 183 #[.func (.yield l) #[] #[], .pointer (some ⟨Bs, 0, none⟩)] W fun e W' => (∃ v, e = .returned v) ∧
   ((∃ ys, ys = [c] ∧ J ys W') ∨ (∃ pre, True ∧ Jx pre W')) := by
 refine callsIn_of_wp Tryz.func183 rfl h8 ?_ hro
 simp only [Tryz.ntmps183, List.size_toArray, List.length_cons, List.length_nil, Nat.reduceAdd, Nat.reduceSub, Array.replicate_succ, Array.replicate_zero, List.push_toArray, List.append_toArray, List.nil_append, List.cons_append]
 obtain ⟨fn, tmps, assign, body, hy, hR⟩ := hY [] c W h0 (by simp)
 gi_wp2
 gi_loopw [3] (fun i wr => (i = .int .i64 0 ∧ wr = W) ∨ (i = .int .i64 (-1) ∧ J [c] wr)) (fun i _ => (intOf i + 1).toNat)
 case atStart => exact .inl ⟨rfl, rfl⟩
 case round =>
  rcases hrel with ⟨rfl, rfl⟩ | ⟨rfl, hJs⟩
  ·gi_wp2
   refine hR.mono ?_
   rintro e W3 (⟨rfl, hJ3, _⟩ | ⟨rfl, hJx3⟩)
   ·gi_wp2
    go_roundw
    case rel => exact .inr ⟨rfl, hJ3⟩
    case measure => simp [intOf]
   ·gi_wp2
    refine bodyPost_ret (results_none rfl _ _ _) rfl ?_
    exact ⟨⟨_, rfl⟩, .inr ⟨_, trivial, hJx3⟩⟩
  ·gi_wp2
   go_end0
   exact ⟨⟨_, rfl⟩, .inl ⟨_, rfl, hJs⟩⟩

theorem backward_in (F : Fence) (n : Nat) (h5 : F.fn 179) (hro : F.round = none) (a : Option Addr) (len cap : Nat) (w : World) :
  CallsIn F n Tryz.prog 179 #[.slice a len cap] w fun e w' => e = .returned (.func (.func 183) #[] #[.pointer (some ⟨w.heap.size, 0, none⟩)]) ∧ w' = w.alloc (.cells #[.slice a len cap] 121) := by
 refine callsIn_of_wp Tryz.func179 rfl h5 ?_ hro
 simp only [Tryz.ntmps179, List.size_toArray, List.length_cons, List.length_nil, Nat.reduceAdd, Nat.reduceSub, Array.replicate_succ, Array.replicate_zero, List.push_toArray, List.append_toArray, List.nil_append, List.cons_append]
 gi_wp2
 go_ret
 exact ⟨rfl, rfl⟩

theorem backward_stops (F : Fence) (n : Nat) (h8 : F.fn 183) (hro : F.round = none) (hn : 1 ≤ n) (Bs b off cap : Nat) (c : U8) (w : World) (hBs : Bs < w.heap.size) (hb : b < w.heap.size)
  (hc : w.cell? ⟨Bs, 0, none⟩ = some (.slice (some ⟨b, off, none⟩) 1 cap)) (hI : w.cell? ⟨b, off, none⟩ = some (.int .u8 c.1)) :
  SeqStopsK F n Tryz.prog 183 #[.pointer (some ⟨Bs, 0, none⟩)] (fun x : U8 => #[Value.int .i64 0, Value.int .u8 x.1]) (fun _ _ => True) (fun ys => ys = [c]) (fun _ => True) 1 w := fun l J Jx W hW _ _ hY h0 =>
 backward1_in F n h8 hro hn l Bs b off cap c J Jx hY W ((hW.cell (p := ⟨Bs, 0, none⟩) hBs).trans hc) ((hW.cell (p := ⟨b, off, none⟩) hb).trans hI) h0

set_option maxRecDepth 100000 in
set_option maxHeartbeats 2000000 in
theorem readerNum {B : Nat} {w : World} {b c : Nat} {rest : List Nat} (h : ReaderAt B w b (c :: rest)) (hr : rest ≠ []) :
  Calls Tryz.prog 167 #[.pointer (some ⟨b, 0, none⟩), .int .i64 1] w fun e w' => e = .returned (.int .u64 c) ∧ ReaderAt B w' b rest ∧ Kept (fun k => k = b) w w' := by
 have hlen : 1 < (c :: rest).length := by have := List.length_pos_iff.2 hr; simp; omega
 have hc256 : c < 256 := by obtain ⟨_, _, _, _, h2, _⟩ := h.head; exact h2.lt c (by simp)
 have k1 := (Kept.refl (fun _ => False) w).alloc (.cells #[.int .u64 0] 233)
 have ht := h_ (readerTake (h.kept k1 (fun _ _ => id)) 1 hlen)
 have k1' := h_ k1; clear k1
 have hB := h.le
 have hbB : b < B := by obtain ⟨_, _, _, _, _, _, _, h5⟩ := h.head; exact h5
 clear h hlen hr
 refine (callsIn_wide (n := 9)).1 ?_
 refine callsIn_of_wp_marks Tryz.func167 rfl trivial ?_ rfl
 simp only [Tryz.ntmps167, List.size_toArray, List.length_cons, List.length_nil, Nat.reduceAdd, Nat.reduceSub, Array.replicate_succ, Array.replicate_zero, List.push_toArray, List.append_toArray, List.nil_append, List.cons_append]
 gi_wp2_with (first | (refine ⟨trivial, ?_⟩; gi_at_call 178; refine (callsIn_wide.2 (endsRight _)).mono ?_; rintro e w' ⟨rfl, rfl⟩))
 refine ⟨trivial, ?_⟩
 refine (callsIn_wide.2 ht.out).mono ?_
 rintro e w2 ⟨u, rfl, hown, hrd, hk⟩
 obtain ⟨g, cp, cur, rfl, hg1, hg2, hg3, hg4, hg5, hg6⟩ := owns_some hown (by omega)
 have hcg : w2.cell? ⟨g, 0, none⟩ = some (.int .u8 c) := by
  rw [cell_of_heap hg2]
  have h6 := congrArg (fun l => l[0]?) hg6
  simp [byteCells] at h6
  exact h6
 have hglt := lt_of_heap hg2
 have bN : Boxed w2 w.heap.size 233 (.int .u64 0) := hk.get (heap_alloc_new w _) (by omega)
 have hk' := h_ hk; clear hk
 have hrd' := h_ hrd; clear hrd
 clear hown hg2 hg5 hg6 hg3 hg4
 gi_wp2_with (first | (refine ⟨trivial, ?_⟩; gi_at_call 179; refine (backward_in Fence.wide _ trivial rfl _ _ _ _).mono ?_; rintro e w' ⟨rfl, rfl⟩))
 have bS := Boxed.new w2 121 (.slice (some ⟨g, 0, none⟩) 1 cp)
 have hcg2 : (w2.alloc (.cells #[.slice (some ⟨g, 0, none⟩) 1 cp] 121)).cell? ⟨g, 0, none⟩ = some (.int .u8 c) := by rw [World.cell?_alloc_lt _ _ _ hglt]; exact hcg
 have bN2 := bN.alloc (.cells #[.slice (some ⟨g, 0, none⟩) 1 cp] 121)
 obtain ⟨w3, hw3⟩ : ∃ w3, w2.alloc (.cells #[.slice (some ⟨g, 0, none⟩) 1 cp] 121) = w3 := ⟨_, rfl⟩
 have hk3 : Hid (Kept (fun k => k = b) w w3) := h_ (by rw [← hw3]; exact ((k1'.out.mono (fun _ => False.elim)).trans hk'.out).alloc _)
 have hs3 : w3.heap.size = w2.heap.size + 1 := by rw [← hw3]; simp
 have hrd3 : Hid (ReaderAt B w3 b rest) := h_ (by rw [← hw3]; exact hrd'.out.kept ((Kept.refl (fun _ => False) w2).alloc _) (fun _ _ => id))
 have hs2 : w.heap.size < w2.heap.size := bN.lt
 rw [hw3] at bS hcg2 bN2 ⊢
 clear hw3 bN hcg hk' hrd' ht k1'
 refine wpIn_rangeFunc_ownF (F := Fence.wide) (n := 9) rfl (by omega) (gf := 183) (lb := #[.pointer (some ⟨w2.heap.size, 0, none⟩)]) rfl trivial (enters_of Tryz.func183 (by kernel_rfl) rfl)
  (backward_stops Fence.wide 8 trivial rfl (by omega) w2.heap.size g 0 cp ⟨c, by omega, by omega⟩ w3 (by omega) (by omega) bS.cell hcg2) (fun _ _ => trivial) (fun _ _ _ _ _ _ _ _ => trivial) (Below.refl _ _) (fun _ => rfl)
  (fun pre W => Boxed W w.heap.size 233 (.int .u64 ((pre.map Subtype.val).headD 0)) ∧ Kept (fun k => k = w.heap.size) w3 W)
  (fun _ _ _ => False)
  (OwnFrom.and (Own.from (boxed_own _ _ _) _) (fun s W W' row hs hg hr => hs.grown hg (fun k e => .inr (hr k e).1)))
  (fun _ _ _ _ _ hs _ _ => hs)
  ⟨bN2, Kept.refl _ _⟩
  (fun x => { tmps := #[.pointer (some ⟨b, 0, none⟩), .int .i64 1, undef, undef, .int .u64 0, .pointer (some ⟨w.heap.size, 0, none⟩), undef, .int .u8 x.1, .int .i64 1, .bool true, .bool false, undef, undef, undef, .pointer (some ⟨b, 0, none⟩), .int .i64 1, .slice (some ⟨g, 0, none⟩) 1 cp, .func (.func 183) #[] #[.pointer (some ⟨w2.heap.size, 0, none⟩)], .int .i64 0, .int .u8 x.1, undef, undef, undef, undef, undef, undef], defers := [] }) ?assign ?body ?done ?stop
 case assign =>
  intro l x W K hK
  gi_wp2
  exact hK
 case body =>
  rintro l pre x W ⟨hb, hkk⟩ hpl
  obtain rfl : pre = [] := List.eq_nil_of_length_eq_zero (by omega)
  have hcb := hb.cell
  have hfb := hb.frozen
  simp at hcb
  have hx := x.2
  obtain ⟨hx1, hx2⟩ := hx
  have hor : bits .or .u64 0 x.1 = x.1 := by rw [u64_or 0 x.1 (by omega) (by omega) hx1 (by omega)]; simp; omega
  gi_wp2
  exact ⟨KeepsOthers.setCell _ _ _, trivial, hb.set _, hkk.setCell (p := ⟨w.heap.size, 0, none⟩) rfl _⟩
 case done =>
  rintro D ys W hD rfl ⟨hb, hkk⟩ hK
  have hcb := hb.cell
  gi_wp2
  refine ⟨by simp, .inl ⟨_, _, rfl, run_takeDeferred hK, ?_⟩⟩
  have kall : Kept (fun k => k = w.heap.size) w3 (W.putObj D (.deferred none)) := hkk.grown (grownBy_putObj' W D (.deferred none)) (fun k e => .inr (by cases e; exact hD))
  refine ⟨_, results_tmp rfl _ _ _, rfl, hrd3.out.kept kall (fun i hi e => by omega), hk3.out.trans_new kall (fun i hi e => by omega)⟩
 case stop =>
  rintro D c pre W _ _ h _
  exact h.elim
end Go.Proofs.YtidlchciehdefaaGreat
/-
 What pages of the pool hold (package leaf): no page of a node that can't be; reading nodes.
-/
namespace Go.Proofs.YtidlchciehdefaaGreat
open Go.RowKit
set_option maxRecDepth 100000

set_option maxHeartbeats 2000000 in
theorem page_bad {w : World} {n : NM} {sv : Value} (h : EntsAt w sv n.ents) (hb : n.block.length = 16) (hbad : n.rightB = false) :
  Calls Tryz.prog 96 #[.agg (nodeCells n sv).toArray] w fun e w' => e = .returned (.tuple #[.agg (pageCells zeroPage).toArray, .int .i64 81]) ∧ Kept (fun _ => False) w w' := by
 obtain ⟨A, cap, rfl, hc1, hc2⟩ := h.form
 unfold maxLen at hc2
 obtain ⟨cs, hcs⟩ : ∃ cs, nodeCells n (.slice A n.ents.length cap) = cs := ⟨_, rfl⟩
 obtain ⟨zs, hzs⟩ : ∃ zs, pageCells zeroPage = zs := ⟨_, rfl⟩
 obtain ⟨w1, hw1⟩ : ∃ w1, w.alloc (.cells cs.toArray 115) = w1 := ⟨_, rfl⟩
 obtain ⟨w2, hw2⟩ : ∃ w2, w1.alloc (.cells zs.toArray 165) = w2 := ⟨_, rfl⟩
 obtain ⟨w3, hw3⟩ : ∃ w3, w2.alloc (.cells zs.toArray 165) = w3 := ⟨_, rfl⟩
 have k1 : Kept (fun _ => False) w w1 := by rw [← hw1]; exact (Kept.refl _ _).alloc _
 have k2 : Kept (fun _ => False) w1 w2 := by rw [← hw2]; exact (Kept.refl _ _).alloc _
 have k3 : Kept (fun _ => False) w2 w3 := by rw [← hw3]; exact (Kept.refl _ _).alloc _
 have s1 : w1.heap.size = w.heap.size + 1 := by rw [← hw1]; simp
 have s2 : w2.heap.size = w.heap.size + 2 := by rw [← hw2]; simp [s1]
 have bx1 : NodeBox w1 w.heap.size n (.slice A n.ents.length cap) := ⟨by rw [hcs, ← hw1]; exact heap_alloc_new _ _⟩
 have bx3 := (bx1.kept k2 id).kept k3 id
 have p2 : w2.heap[w.heap.size + 1]? = some (.cells zs.toArray 165 (0, 0)) := by rw [← hw2, ← s1]; exact heap_alloc_new _ _
 have p2' := k3.get p2 id
 have p3 : w3.heap[w.heap.size + 2]? = some (.cells zs.toArray 165 (0, 0)) := by rw [← hw3, ← s2]; exact heap_alloc_new _ _
 have hLc : Hid (cs.length = 18) := h_ (by rw [← hcs]; exact nodeCells_len _ _)
 have hLz : Hid (zs.length = 256) := h_ (by rw [← hzs]; exact pageCells_len _)
 have hZ1 : Hid (∀ v ∈ zs, v.oneCell' = true) := h_ (by rw [← hzs]; exact pageCells_one _)
 have hZ : Hid ((Tryz.prog.info? 165).map (·.zero) = some (some (.agg zs.toArray))) := h_ (by rw [← hzs]; exact page_zero)
 have hall : Hid (∀ j v, cs[j]? = some v → w3.cell? ⟨w.heap.size, 0 + j, none⟩ = some v) := h_ (by rw [← hcs]; exact bx3.all)
 have hR := right_any ((h.fresh (k1.trans k2)).fresh k3) hb
 rw [hbad, hcs] at hR
 have hR' := h_ hR; clear hR
 rw [hcs, hzs]
 have kall := h_ ((k1.trans k2).trans k3)
 have hw1' := h_ hw1
 have hw2' := h_ hw2
 have hw3' := h_ hw3
 have p2'' := h_ p2'
 have p3' := h_ p3
 have s1' := h_ s1
 have s2' := h_ s2
 clear hcs hzs hw1 hw2 hw3 k1 k2 k3 s1 s2 bx1 bx3 p2 p2' p3 h hb hbad
 go_enter Tryz.func96, Tryz.ntmps96
 go_wp2_with (first | (refine wpList_box_named 115 rfl rfl _ rfl hw1'.out ?_) | (refine wpList_alloc_as 165 rfl rfl zs.toArray hZ.out ?_; first | (rw [hw2'.out, s1'.out]) | (rw [hw3'.out, s2'.out])) | (refine wpList_load_agg 115 rfl rfl rfl _ Tryz.underlying115 rfl cs (by rw [hLc.out]; exact node_size) hall.out ?_))
 refine hR'.out.mono ?_
 rintro e w4 ⟨rfl, hk4⟩
 have hh3 := h_ (hk4.get p3'.out id)
 have hh2 := h_ (hk4.get p2''.out id)
 have hk8 := h_ (kall.out.trans hk4)
 clear hk4
 go_wp2_with (first | (refine wpList_load_agg 165 rfl rfl rfl _ Tryz.underlying165 rfl zs (by rw [hLz.out]; exact page_size) (fun j v hv => by rw [cell_of_heap hh3.out, Nat.zero_add]; simpa using hv) ?_) | (refine wpList_store_whole 165 rfl rfl rfl zs rfl (by rw [hLz.out]; exact page_size) 165 _ hh2.out (by simp) hZ1.out ?_))
 refine bodyPost_ret (results_row_tmp rfl _ _ (w.heap.size + 1) 165 zs.toArray (0, 0) _ rfl (setRow_heap _ _ _ _ 165 (0, 0) hh2.out) Tryz.underlying165 rfl (by simp only [List.size_toArray]; rw [hLz.out]; exact page_size)) rfl ?_
 exact ⟨rfl, hk8.out.setRowNew (by omega) _⟩

def zeros16 : List Nat := List.replicate 16 0
theorem node_zero : (Tryz.prog.info? 115).map (·.zero) = some (some (.agg (nodeCells ⟨0, zeros16, []⟩ (.slice none 0 0)).toArray)) := by kernel_rfl
theorem run_build_node (w : World) (k : Int) : (Instr.build 115 #[(0, .int .i64 k)]).run Tryz.prog w = .ok (.agg (nodeCells ⟨k, zeros16, []⟩ (.slice none 0 0)).toArray) w := run_build _ _ _ _ (by kernel_rfl)
theorem nodeCells_one (n : NM) (A : Option Addr) (m c : Nat) : ∀ v ∈ nodeCells n (.slice A m c), v.oneCell' = true := by
 intro v hv
 simp only [nodeCells, List.mem_cons, List.mem_append, List.not_mem_nil, or_false] at hv
 rcases hv with rfl | hv | rfl
 ·rfl
 ·exact blockCells_one _ v hv
 ·rfl

structure ReadSt (w0 : World) (B b c d : Nat) (k : Int) (W : World) (es : List (Int × Int)) (v : Value) (l : List Nat) : Prop where
 rd : ReaderAt B W b l
 box : NodeBox W c ⟨k, zeros16, es⟩ v
 res : W.heap[d]? = some (.cells (nodeCells ⟨0, zeros16, []⟩ (.slice none 0 0)).toArray 115 (0, 0))
 own : W.ownsRow w0.heap.size 86 2 v es.length (entCells es)
 kept : Kept (fun i => i = b) w0 W
 le : B ≤ w0.heap.size
 lt : b < B
 geD : w0.heap.size ≤ d
 geC : w0.heap.size ≤ c
 ne : c ≠ d
theorem ReadSt.cell {w0 : World} {B b c d : Nat} {k : Int} {W : World} {es : List (Int × Int)} {v : Value} {l : List Nat} (h : ReadSt w0 B b c d k W es v l) : W.cell? ⟨c, 17, none⟩ = some v := h.box.c17
theorem ReadSt.offC {w0 : World} {B b c d : Nat} {k : Int} {W : World} {es : List (Int × Int)} {v : Value} {l : List Nat} (h : ReadSt w0 B b c d k W es v l) : v.ownBlock ≠ some c ∧ v.ownBlock ≠ some d := by
 rcases h.own.2 with ⟨rfl, _⟩ | ⟨g, cap, cur, rfl, _, hg, _⟩
 ·simp [Value.ownBlock]
 ·refine ⟨fun e => ?_, fun e => ?_⟩
  ·simp [Value.ownBlock] at e
   subst e
   have := h.box.heap
   rw [hg] at this
   simp at this
  ·simp [Value.ownBlock] at e
   subst e
   have := h.res
   rw [hg] at this
   simp at this
theorem ReadSt.step {w0 : World} {B b c d : Nat} {k : Int} {W W' : World} {es : List (Int × Int)} {v : Value} {l l' : List Nat} (h : ReadSt w0 B b c d k W es v l) (hr : ReaderAt B W' b l') (hk : Kept (fun i => i = b) W W') : ReadSt w0 B b c d k W' es v l' := by
 have h1 := h.le
 have h2 := h.lt
 have h3 := h.geC
 have h4 := h.geD
 exact ⟨hr, h.box.kept hk (by omega), hk.get h.res (by omega), ownsRow.keptOf h.own hk (fun g hg e => by have := (h.own.lt g hg).1; omega), h.kept.trans hk, h.le, h.lt, h.geD, h.geC, h.ne⟩
theorem ReadSt.fresh {w0 : World} {B b c d : Nat} {k : Int} {W W' : World} {es : List (Int × Int)} {v : Value} {l : List Nat} (h : ReadSt w0 B b c d k W es v l) (hk : Kept (fun _ => False) W W') : ReadSt w0 B b c d k W' es v l :=
 h.step (h.rd.kept hk (fun _ _ => id)) (hk.mono (fun _ => False.elim))
theorem ReadSt.more {w0 : World} {B b c d : Nat} {k : Int} {W w1 : World} {es : List (Int × Int)} {v : Value} {l : List Nat} (h : ReadSt w0 B b c d k W es v l) (x : Int × Int) {g cap : Nat}
  (hown : w1.ownsRow w0.heap.size 86 2 (.slice (some ⟨g, 0, none⟩) (es.length + 1) cap) (es.length + 1) (entCells es ++ [.int .i64 x.1, .int .i64 x.2])) (hg : W.grownBy w1 v.ownBlock) :
  ReadSt w0 B b c d k (w1.setCell ⟨c, 17, none⟩ (.slice (some ⟨g, 0, none⟩) (es.length + 1) cap)) (es ++ [x]) (.slice (some ⟨g, 0, none⟩) (es.length + 1) cap) l := by
 have h1 := h.le
 have h2 := h.lt
 have h3 := h.geC
 have h4 := h.geD
 obtain ⟨o1, o2⟩ := h.offC
 have kg : Kept (fun i => v.ownBlock = some i) W w1 := Kept.of_grown hg
 have hlt := h.own.lt
 have b1 : NodeBox w1 c ⟨k, zeros16, es⟩ v := h.box.kept kg o1
 have r1 := kg.get h.res o2
 have hgc : g ≠ c := by
  rcases hown.2 with ⟨e, _⟩ | ⟨g', cap', cur, e, _, hg', _⟩
  ·cases e
  ·intro e2
   cases e
   subst e2
   have := b1.heap
   rw [hg'] at this
   simp at this
 have kS : ∀ u, Kept (fun i => i = c) w1 (w1.setCell ⟨c, 17, none⟩ u) := fun u => (Kept.refl (fun i => i = c) w1).setCell (p := ⟨c, 17, none⟩) rfl u
 have hrd : ReaderAt B w1 b l := h.rd.kept kg (fun i hi e => by have := (hlt i e).1; omega)
 refine ⟨hrd.kept (kS _) (fun i hi e => by omega), ⟨?_⟩, (kS _).get r1 (fun e => h.ne e.symm), ?_, ?_, h.le, h.lt, h.geD, h.geC, h.ne⟩
 ·have := heap_setCell_same b1.heap 17 (.slice (some ⟨g, 0, none⟩) (es.length + 1) cap)
  rw [this]
  rfl
 ·have hx : entCells (es ++ [x]) = entCells es ++ [.int .i64 x.1, .int .i64 x.2] := by rw [entCells_append]; rfl
  rw [hx, List.length_append]
  exact ownsRow.keptOf hown (kS _) (fun k hk e => by simp [Value.ownBlock] at hk; omega)
 ·exact (h.kept.trans_new kg (fun i hi e => by have := (hlt i e).1; omega)).trans_new (kS _) (fun i hi e => by omega)
end Go.Proofs.YtidlchciehdefaaGreat
