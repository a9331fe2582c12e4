/-
 The document's images (understudyref13): the sum.
-/
import Derived.Test.YtidlchciehdefaaGreatK02
import Derived.Test.YtidlchciehdefaaGreatK13
import Derived.Test.YtidlchciehdefaaGreatK18
import Derived.Test.YtidlchciehdefaaGreatK27
import Derived.Test.YtidlchciehdefaaGreatK29
import Derived.RangeFuncNested
import Derived.RangeFuncBound
import Derived.RangeFuncCalls
import Derived.RangeFuncLeaves
import Derived.RangeFuncBox
import Derived.Shelf.Abstract
import Derived.Shelf.RegionOpen
import Derived.WalkKit
import Derived.OwnWalkIn
import Derived.TacticsInMore
import Derived.LoopNIn
import Derived.LoopIn
set_option linter.unusedVariables false
set_option linter.unusedSimpArgs false
namespace Go.Proofs.YtidlchciehdefaaGreat
open Go.RowKit
set_option maxRecDepth 100000

theorem img_size : (Tryz.prog.info? 37).map (·.size) = some 1024 := by kernel_rfl

def newM (s : Nat) : SM := ⟨PM.fresh0 s, []⟩
theorem newM_live (s q : Nat) : (newM s).live q = false := by
 unfold newM SM.live PM.live PM.fresh0
 simp
theorem newM_imgs (m : Nat) {s : Nat} (h : s ≤ 240) : Imgs m (newM s) [.none] := by
 refine ⟨⟨h, fun p => Nat.zero_le _, fun p hp => ?_, fun q hq => ?_, fun q hq => ?_, fun _ => 0, fun q hq => ?_⟩, fun q hq => ?_, fun i hi => ?_⟩
 ·have hr : (newM s).refs p = 0 := sumN_zero fun q _ => by rw [newM_live]; rfl
  rw [hr]
  show (0 : Nat) = 0 + List.count (p : Int) [-1]
  rw [List.count_eq_zero.2 (by simp)]
 ·rw [newM_live] at hq; cases hq
 ·rw [newM_live] at hq; cases hq
 ·rw [newM_live] at hq; cases hq
 ·rw [newM_live] at hq; cases hq
 ·rw [List.mem_singleton.1 hi]; exact Img.none m _
theorem newM_gone (s n : Nat) : Gone n [] (newM s) := fun q _ => ⟨Nat.zero_le _, fun h => (by cases h), fun h => absurd h (Nat.lt_irrefl 0)⟩
theorem images_zero : (Tryz.prog.info? 32).map (·.zero) = some (some (.agg #[.pointer none])) := by kernel_rfl
theorem images_size : (Tryz.prog.info? 32).map (·.size) = some 1 := by kernel_rfl
set_option maxHeartbeats 4000000 in
theorem imageOver (sb : Nat) (w : World) : Calls Tryz.prog 56 #[.pointer (some ⟨sb, 0, none⟩)] w fun e w' => e = .returned (.agg #[.pointer (some ⟨sb, 0, none⟩)]) ∧ Kept (fun _ => False) w w' := by
 have hb1 : Hid (∀ w, (Instr.build 26 #[(0, .pointer (some ⟨sb, 0, none⟩))]).run Tryz.prog w = .ok (.agg #[.pointer (some ⟨sb, 0, none⟩)]) w) := h_ (fun w => run_build _ _ _ _ (by kernel_rfl))
 have hb2 : Hid (∀ w, (Instr.build 28 #[(0, .agg #[.pointer (some ⟨sb, 0, none⟩)])]).run Tryz.prog w = .ok (.agg #[.pointer (some ⟨sb, 0, none⟩)]) w) := h_ (fun w => run_build _ _ _ _ (by kernel_rfl))
 have hb3 : Hid (∀ w, (Instr.build 30 #[(0, .agg #[.pointer (some ⟨sb, 0, none⟩)])]).run Tryz.prog w = .ok (.agg #[.pointer (some ⟨sb, 0, none⟩)]) w) := h_ (fun w => run_build _ _ _ _ (by kernel_rfl))
 have hb4 : Hid (∀ w, (Instr.build 32 #[(0, .agg #[.pointer (some ⟨sb, 0, none⟩)])]).run Tryz.prog w = .ok (.agg #[.pointer (some ⟨sb, 0, none⟩)]) w) := h_ (fun w => run_build _ _ _ _ (by kernel_rfl))
 obtain ⟨rb, hrb⟩ : ∃ rb, w.heap.size = rb := ⟨_, rfl⟩
 obtain ⟨w1, hw1⟩ : ∃ w1, w.alloc (.cells #[.pointer none] 32) = w1 := ⟨_, rfl⟩
 have k1 := h_ (show Kept (fun _ => False) w w1 by rw [← hw1]; exact (Kept.refl _ _).alloc _)
 have q1 := h_ (show w1.heap[rb]? = some (.cells #[.pointer none] 32 (0, 0)) by rw [← hw1, ← hrb]; exact heap_alloc_new _ _)
 have hw1' := h_ hw1
 have hrb' := h_ hrb
 clear hw1 hrb
 go_enter Tryz.func56, Tryz.ntmps56
 go_wp2_with (first | (refine wpList_alloc_as 32 rfl rfl #[.pointer none] images_zero ?_; rw [hw1'.out, hrb'.out]) | (refine wpList_exec rfl (exec_build 26 #[(0, .tmp 3)] _ rfl (by simp [Act.eval, Act.put]) (hb1.out _)) ?_) | (refine wpList_exec rfl (exec_build 28 #[(0, .tmp 4)] _ rfl (by simp [Act.eval, Act.put]) (hb2.out _)) ?_) | (refine wpList_exec rfl (exec_build 30 #[(0, .tmp 5)] _ rfl (by simp [Act.eval, Act.put]) (hb3.out _)) ?_) | (refine wpList_exec rfl (exec_build 32 #[(0, .tmp 6)] _ rfl (by simp [Act.eval, Act.put]) (hb4.out _)) ?_) | (refine wpList_store_whole 32 rfl rfl rfl [.pointer (some ⟨sb, 0, none⟩)] rfl images_size 32 #[.pointer none] q1.out rfl (by intro c hc; simp at hc; subst hc; rfl) ?_))
 refine bodyPost_ret (results_row1 rfl _ _ rb 32 #[.pointer (some ⟨sb, 0, none⟩)] (0, 0) _ rfl (setRow_heap _ _ _ _ 32 (0, 0) q1.out) Tryz.underlying32 rfl images_size) rfl ?_
 exact ⟨rfl, k1.out.setRowNew (by rw [hrb'.out]; exact Nat.le_refl _) _⟩

theorem run_build_img (w : World) : (Instr.build 37 #[]).run Tryz.prog w = .ok (.agg (List.replicate 1024 (Value.int .u8 0)).toArray) w := run_build _ _ _ _ (by kernel_rfl)
theorem blk_all {l m : List Nat} (hl : l.length = 16) (hm : m.length = 16) : ((List.range 16).all fun i => ((l.getD i 0 : Nat) : Int) == ((m.getD i 0 : Nat) : Int)) = decide (l = m) := by
 rw [Bool.eq_iff_iff, List.all_eq_true, decide_eq_true_eq]
 constructor
 ·intro h
  refine List.ext_getElem? fun i => ?_
  by_cases hi : i < 16
  ·have := h i (List.mem_range.2 hi)
   rw [beq_iff_eq] at this
   have e : l.getD i 0 = m.getD i 0 := by omega
   rw [List.getElem?_eq_getElem (by omega), List.getElem?_eq_getElem (by omega)]
   simpa [List.getD, List.getElem?_eq_getElem (show i < l.length by omega), List.getElem?_eq_getElem (show i < m.length by omega)] using e
  ·rw [List.getElem?_eq_none (by omega), List.getElem?_eq_none (by omega)]
 ·rintro rfl i _
  simp
theorem exec_blk_eql {o : Oper} {a : Act} {w : World} {u : TypeId} (x y : Operand) (ho : o.op = .binOp .eql 35 x y u) {l m : List Nat} (hl : l.length = 16) (hm : m.length = 16) (hx : a.eval x = .agg (blockCells l).toArray) (hy : a.eval y = .agg (blockCells m).toArray) :
  (execOp a.eval o).run Tryz.prog w = .ok (.value (.bool (decide (l = m)))) w := by
 rw [← blk_all hl hm]
 exact exec_eql_arr ho (fun i => ((l.getD i 0 : Nat) : Int)) (fun i => ((m.getD i 0 : Nat) : Int)) hx hy (by kernel_rfl) Tryz.underlying35 Tryz.underlying5 (by kernel_rfl)
theorem img_pageOf {m : Nat} {M : SM} {ext : Nat → Nat} {i : IM} (h : Img m M i) (E : Exact M ext) (hB : Bytes i.w) {key : Int} (k0 : 0 ≤ key) (k1 : key < 64) : PageOf M (findL i.l key) (i.w key) := ⟨hB.len _, h.read E k0 k1⟩
theorem make_page {M : SM} {n : NM} (h : (M.make n).2.2 = 0) : (M.make n).2.1 ≠ -1 := by
 unfold SM.make at h ⊢
 split at h
 ·rename_i hr
  rw [if_pos hr]
  split at h
  ·cases h
  ·rename_i hf
   rw [if_neg hf]
   cases hti : M.pool.takeIx with
   | none => rw [hti] at h; cases h
   | some i =>
    rw [hti] at h
    dsimp only at h ⊢
    rw [if_pos h]
    omega
 ·cases h
theorem write1_log (M : SM) (root key : Int) (b : List Nat) : (M.write1 root key b).1.log.length ≤ M.log.length + 23 := by
 have hm := make_log M ⟨1, b, []⟩
 unfold SM.write1
 dsimp only
 by_cases h0 : (M.make ⟨1, b, []⟩).2.2 = 0
 ·rw [if_pos h0, change_one]
  have hne := make_page h0
  have hp := put_log (M.make ⟨1, b, []⟩).1 root key (M.make ⟨1, b, []⟩).2.1
  have hone : (M.make ⟨1, b, []⟩).1.one root (key, (M.make ⟨1, b, []⟩).2.1) = (M.make ⟨1, b, []⟩).1.put root key (M.make ⟨1, b, []⟩).2.1 := by unfold SM.one; rw [if_neg hne]
  unfold SM.change
  rw [hone]
  dsimp only
  split
  ·split
   ·show (SM.swap _ _ _).1.log.length ≤ _
    rw [swap_log]; omega
   ·show (SM.swap _ _ _).1.log.length ≤ _
    rw [swap_log]; omega
  ·show (SM.put _ _ _ _).1.log.length ≤ _
   omega
 ·rw [if_neg h0]
  show (M.make ⟨1, b, []⟩).1.log.length ≤ _
  omega
def b1 : List Nat := 1 :: List.replicate 15 0

structure ImVar (wr : World) (A : SA) (b sb : Nat) : Prop where
 heap : wr.heap[b]? = some (.cells #[.pointer (some ⟨sb, 0, none⟩)] 32 (0, 0))
 safe : Safe wr A b
 eq : A.sb = sb
theorem ImVar.fresh {wr w' : World} {A : SA} {b sb : Nat} (h : ImVar wr A b sb) (k : Kept (fun _ => False) wr w') : ImVar w' A b sb := ⟨k.get h.heap id, h.safe.fresh k, h.eq⟩
theorem ImVar.to {wr w' : World} {A A' : SA} {M' : SM} {b sb : Nat} (h : ImVar wr A b sb) (k : StoreTo A A' M' wr w') : ImVar w' A' b sb := ⟨k.get h.heap h.safe, h.safe.to k, k.sb.trans h.eq⟩
theorem ImVar.load {wr : World} {A : SA} {b sb : Nat} (h : ImVar wr A b sb) : ∀ j v, [Value.pointer (some ⟨sb, 0, none⟩)][j]? = some v → wr.cell? ⟨b, 0 + j, none⟩ = some v := ptr_load h.heap
theorem ImVar.c0 {wr : World} {A : SA} {b sb : Nat} (h : ImVar wr A b sb) : wr.cell? ⟨b, 0, none⟩ = some (.pointer (some ⟨sb, 0, none⟩)) := h.load 0 _ rfl
theorem ImVar.made {w wr : World} {A : SA} {M : SM} (h : OwnStore w A M wr) {b : Nat} (hb : wr.heap.size = b) :
  OwnStore w A M ((wr.alloc (.cells #[.pointer none] 32)).setRow b #[.pointer (some ⟨A.sb, 0, none⟩)]) ∧ ImVar ((wr.alloc (.cells #[.pointer none] 32)).setRow b #[.pointer (some ⟨A.sb, 0, none⟩)]) A b A.sb := by
 have k : Kept (fun _ => False) wr ((wr.alloc (.cells #[.pointer none] 32)).setRow b #[.pointer (some ⟨A.sb, 0, none⟩)]) := ((Kept.refl _ _).alloc _).setRowNew (by omega) _
 refine ⟨h.fresh k, ⟨by rw [← hb]; exact setRow_heap _ _ _ _ _ _ (heap_alloc_new _ _), Safe.new h.store (by omega) (by simp [World.setRow]; omega), rfl⟩⟩

structure ItemM where
 key : Int
 has : Bool
 block : List Nat
def ItemM.ok (x : ItemM) : Prop := x.block.length = 16 ∧ ∀ b ∈ x.block, b < 256
def itemCells (x : ItemM) : List Value := .int .i64 x.key :: .bool x.has :: blockCells x.block
theorem itemCells_len (x : ItemM) : (itemCells x).length = 18 := by unfold itemCells; simp [blockCells_len]
theorem itemCells_one (x : ItemM) : ∀ v ∈ itemCells x, v.oneCell' = true := by
 unfold itemCells
 intro v hv
 rcases List.mem_cons.1 hv with rfl | hv
 ·rfl
 rcases List.mem_cons.1 hv with rfl | hv
 ·rfl
 exact blockCells_one _ v hv
def ItemM.zero : ItemM := ⟨0, false, zeros16⟩
theorem item_zero : (Tryz.prog.info? 61).map (·.zero) = some (some (.agg (itemCells .zero).toArray)) := by kernel_rfl
theorem item_size : (Tryz.prog.info? 61).map (·.size) = some 18 := by kernel_rfl
theorem item_box {wx : World} {xb : Nat} {x : ItemM} (q : wx.heap[xb]? = some (.cells (itemCells x).toArray 61 (0, 0))) :
  wx.cell? ⟨xb, 0, none⟩ = some (.int .i64 x.key) ∧ wx.cell? ⟨xb, 1, none⟩ = some (.bool x.has) ∧ ∀ j u, (blockCells x.block)[j]? = some u → wx.cell? ⟨xb, 2 + j, none⟩ = some u := by
 refine ⟨by rw [cell_of_heap q]; rfl, by rw [cell_of_heap q]; rfl, fun j u hj => ?_⟩
 rw [cell_of_heap q]
 have : (itemCells x)[2 + j]? = (blockCells x.block)[j]? := by
  unfold itemCells
  rw [show 2 + j = j + 1 + 1 by omega]
  rfl
 simpa [this] using hj
def rightB (x : ItemM) : Bool := decide (0 ≤ x.key ∧ x.key < 64) && (x.has || decide (x.block = zeros16))
theorem rightB_iff {x : ItemM} : rightB x = true ↔ (0 ≤ x.key ∧ x.key < 64) ∧ (x.has = false → x.block = zeros16) := by
 unfold rightB
 cases x.has <;> simp
set_option maxHeartbeats 4000000 in
theorem deltaRight {x : ItemM} (hx : x.ok) (w : World) : Calls Tryz.prog 36 #[.agg (itemCells x).toArray] w fun e w' => e = .returned (.bool (rightB x)) ∧ Kept (fun _ => False) w w' := by
 obtain ⟨I, hI⟩ : ∃ I, itemCells x = I := ⟨_, rfl⟩
 obtain ⟨xb, hxb⟩ : ∃ xb, w.heap.size = xb := ⟨_, rfl⟩
 obtain ⟨w1, hw1⟩ : ∃ w1, w.alloc (.cells I.toArray 61) = w1 := ⟨_, rfl⟩
 have k1 : Kept (fun _ => False) w w1 := by rw [← hw1]; exact (Kept.refl _ _).alloc _
 have q1 : w1.heap[xb]? = some (.cells I.toArray 61 (0, 0)) := by rw [← hw1, ← hxb]; exact heap_alloc_new _ _
 obtain ⟨c0, c1, c2⟩ := item_box (x := x) (by rw [hI]; exact q1)
 obtain ⟨C, hC⟩ : ∃ C, blockCells x.block = C := ⟨_, rfl⟩
 obtain ⟨Z, hZ⟩ : ∃ Z, blockCells zeros16 = Z := ⟨_, rfl⟩
 have hCl : Hid (C.length = 16) := h_ (by rw [← hC]; exact blockCells_len _)
 have hbz : Hid (∀ w, (Instr.build 35 #[]).run Tryz.prog w = .ok (.agg Z.toArray) w) := h_ (fun w => by rw [← hZ, blockCells_eq _ rfl]; exact run_build_block w)
 rw [hC] at c2
 have c2' := h_ c2
 have k1' := h_ k1
 have hw1' := h_ hw1
 have hxb' := h_ hxb
 have hC' := h_ hC
 have hZ' := h_ hZ
 have hx' := h_ hx
 rw [hI]
 clear hw1 hxb k1 q1 c2 hC hZ hI hx
 by_cases h0 : 0 ≤ x.key
 ·have hb0 : decide ((0 : Int) ≤ x.key) = true := decide_eq_true h0
  by_cases h1 : x.key < 64
  ·have hb1 : decide (x.key < 64) = true := decide_eq_true (by omega)
   cases hh : x.has with
   | true =>
    have hres : Hid (rightB x = true) := h_ (rightB_iff.2 ⟨⟨h0, h1⟩, fun e => by rw [hh] at e; cases e⟩)
    rw [hh] at c1
    clear h0 h1 hh
    go_enter Tryz.func36, Tryz.ntmps36
    go_wp2_with (refine wpList_box_named 61 rfl rfl _ rfl hw1'.out ?_; rw [hxb'.out])
    go_ret
    exact ⟨by rw [hres.out]; rfl, k1'.out⟩
   | false =>
    have hres : Hid (rightB x = decide (x.block = zeros16)) := h_ (by unfold rightB; rw [decide_eq_true ⟨h0, h1⟩, hh]; rfl)
    have hq : Hid (∀ (o : Oper) (a : Act) (w : World) (y z : Operand) (u : TypeId), o.op = .binOp .eql 35 y z u → a.eval y = .agg C.toArray → a.eval z = .agg Z.toArray → (execOp a.eval o).run Tryz.prog w = .ok (.value (.bool (decide (x.block = zeros16)))) w) := h_ (fun o a w y z u ho hy hz => exec_blk_eql (w := w) y z ho hx'.out.1 rfl (by rw [hC'.out]; exact hy) (by rw [hZ'.out]; exact hz))
    rw [hh] at c1
    clear h0 h1 hh
    go_enter Tryz.func36, Tryz.ntmps36
    go_wp2_with (first | (refine wpList_box_named 61 rfl rfl _ rfl hw1'.out ?_; rw [hxb'.out]) | (refine wpList_exec_g (by rfl) (exec_load_agg (g := xb) (off := 2) rfl (by rfl) C Tryz.underlying35 rfl (by rw [hCl.out]; exact block_size) c2'.out) ?_) | (refine wpList_exec_g (by rfl) (exec_build 35 #[] _ rfl (by simp [Act.eval]) (hbz.out _)) ?_) | (refine wpList_exec_g (by rfl) (hq.out _ _ _ (.tmp 16) (.tmp 17) _ rfl (by rfl) (by rfl)) ?_))
    go_ret
    exact ⟨by rw [hres.out]; rfl, k1'.out⟩
  ·have hb1 : decide (x.key < 64) = false := decide_eq_false (by omega)
   have hres : Hid (rightB x = false) := h_ (by unfold rightB; rw [decide_eq_false (by omega)]; rfl)
   clear h0 h1
   go_enter Tryz.func36, Tryz.ntmps36
   go_wp2_with (refine wpList_box_named 61 rfl rfl _ rfl hw1'.out ?_; rw [hxb'.out])
   go_ret
   exact ⟨by rw [hres.out]; rfl, k1'.out⟩
 ·have hb0 : decide ((0 : Int) ≤ x.key) = false := decide_eq_false h0
  have hres : Hid (rightB x = false) := h_ (by unfold rightB; rw [decide_eq_false (by omega)]; rfl)
  clear h0
  go_enter Tryz.func36, Tryz.ntmps36
  go_wp2_with (refine wpList_box_named 61 rfl rfl _ rfl hw1'.out ?_; rw [hxb'.out])
  go_ret
  exact ⟨by rw [hres.out]; rfl, k1'.out⟩
set_option maxHeartbeats 4000000 in
theorem ref17Right {x : ItemM} (hx : x.ok) (w : World) : Calls Tryz.prog 37 #[.agg (itemCells x).toArray] w fun e w' => e = .returned (.bool (rightB x)) ∧ Kept (fun _ => False) w w' := by
 obtain ⟨I, hI⟩ : ∃ I, itemCells x = I := ⟨_, rfl⟩
 obtain ⟨xb, hxb⟩ : ∃ xb, w.heap.size = xb := ⟨_, rfl⟩
 obtain ⟨w1, hw1⟩ : ∃ w1, w.alloc (.cells I.toArray 61) = w1 := ⟨_, rfl⟩
 have k1 : Kept (fun _ => False) w w1 := by rw [← hw1]; exact (Kept.refl _ _).alloc _
 have q1 : w1.heap[xb]? = some (.cells I.toArray 61 (0, 0)) := by rw [← hw1, ← hxb]; exact heap_alloc_new _ _
 obtain ⟨c0, c1, c2⟩ := item_box (x := x) (by rw [hI]; exact q1)
 obtain ⟨C, hC⟩ : ∃ C, blockCells x.block = C := ⟨_, rfl⟩
 obtain ⟨Z, hZ⟩ : ∃ Z, blockCells zeros16 = Z := ⟨_, rfl⟩
 have hCl : Hid (C.length = 16) := h_ (by rw [← hC]; exact blockCells_len _)
 have hbz : Hid (∀ w, (Instr.build 35 #[]).run Tryz.prog w = .ok (.agg Z.toArray) w) := h_ (fun w => by rw [← hZ, blockCells_eq _ rfl]; exact run_build_block w)
 rw [hC] at c2
 have c2' := h_ c2
 have k1' := h_ k1
 have hw1' := h_ hw1
 have hxb' := h_ hxb
 have hC' := h_ hC
 have hZ' := h_ hZ
 have hx' := h_ hx
 rw [hI]
 clear hw1 hxb k1 q1 c2 hC hZ hI hx
 by_cases h0 : 0 ≤ x.key
 ·have hb0 : decide ((0 : Int) ≤ x.key) = true := decide_eq_true h0
  by_cases h1 : x.key < 64
  ·have hb1 : decide (x.key ≤ 63) = true := decide_eq_true (by omega)
   cases hh : x.has with
   | true =>
    have hres : Hid (rightB x = true) := h_ (rightB_iff.2 ⟨⟨h0, h1⟩, fun e => by rw [hh] at e; cases e⟩)
    rw [hh] at c1
    clear h0 h1 hh
    go_enter Tryz.func37, Tryz.ntmps37
    go_wp2_with (refine wpList_box_named 61 rfl rfl _ rfl hw1'.out ?_; rw [hxb'.out])
    go_ret
    exact ⟨by rw [hres.out]; rfl, k1'.out⟩
   | false =>
    have hres : Hid (rightB x = decide (x.block = zeros16)) := h_ (by unfold rightB; rw [decide_eq_true ⟨h0, h1⟩, hh]; rfl)
    have hq : Hid (∀ (o : Oper) (a : Act) (w : World) (y z : Operand) (u : TypeId), o.op = .binOp .eql 35 y z u → a.eval y = .agg C.toArray → a.eval z = .agg Z.toArray → (execOp a.eval o).run Tryz.prog w = .ok (.value (.bool (decide (x.block = zeros16)))) w) := h_ (fun o a w y z u ho hy hz => exec_blk_eql (w := w) y z ho hx'.out.1 rfl (by rw [hC'.out]; exact hy) (by rw [hZ'.out]; exact hz))
    rw [hh] at c1
    clear h0 h1 hh
    go_enter Tryz.func37, Tryz.ntmps37
    go_wp2_with (first | (refine wpList_box_named 61 rfl rfl _ rfl hw1'.out ?_; rw [hxb'.out]) | (refine wpList_exec_g (by rfl) (exec_load_agg (g := xb) (off := 2) rfl (by rfl) C Tryz.underlying35 rfl (by rw [hCl.out]; exact block_size) c2'.out) ?_) | (refine wpList_exec_g (by rfl) (exec_build 35 #[] _ rfl (by simp [Act.eval]) (hbz.out _)) ?_) | (refine wpList_exec_g (by rfl) (hq.out _ _ _ (.tmp 16) (.tmp 17) _ rfl (by rfl) (by rfl)) ?_))
    go_ret
    exact ⟨by rw [hres.out]; rfl, k1'.out⟩
  ·have hb1 : decide (x.key ≤ 63) = false := decide_eq_false (by omega)
   have hres : Hid (rightB x = false) := h_ (by unfold rightB; rw [decide_eq_false (by omega)]; rfl)
   clear h0 h1
   go_enter Tryz.func37, Tryz.ntmps37
   go_wp2_with (refine wpList_box_named 61 rfl rfl _ rfl hw1'.out ?_; rw [hxb'.out])
   go_ret
   exact ⟨by rw [hres.out]; rfl, k1'.out⟩
 ·have hb0 : decide ((0 : Int) ≤ x.key) = false := decide_eq_false h0
  have hres : Hid (rightB x = false) := h_ (by unfold rightB; rw [decide_eq_false (by omega)]; rfl)
  clear h0
  go_enter Tryz.func37, Tryz.ntmps37
  go_wp2_with (refine wpList_box_named 61 rfl rfl _ rfl hw1'.out ?_; rw [hxb'.out])
  go_ret
  exact ⟨by rw [hres.out]; rfl, k1'.out⟩
set_option maxHeartbeats 4000000 in
theorem deltaNot {x : ItemM} (hx : x.ok) (w : World) : Calls Tryz.prog 74 #[.agg (itemCells x).toArray] w fun e w' => e = .returned (.bool (!rightB x)) ∧ Kept (fun _ => False) w w' := by
 obtain ⟨I, hI⟩ : ∃ I, itemCells x = I := ⟨_, rfl⟩
 obtain ⟨xb, hxb⟩ : ∃ xb, w.heap.size = xb := ⟨_, rfl⟩
 obtain ⟨w1, hw1⟩ : ∃ w1, w.alloc (.cells I.toArray 61) = w1 := ⟨_, rfl⟩
 have k1 : Kept (fun _ => False) w w1 := by rw [← hw1]; exact (Kept.refl _ _).alloc _
 have q1 : w1.heap[xb]? = some (.cells I.toArray 61 (0, 0)) := by rw [← hw1, ← hxb]; exact heap_alloc_new _ _
 have hIl : Hid (I.length = 18) := h_ (by rw [← hI]; exact itemCells_len _)
 have hl1 : Hid (∀ j v, I[j]? = some v → w1.cell? ⟨xb, 0 + j, none⟩ = some v) := h_ (fun j v hj => by rw [Nat.zero_add, cell_of_heap q1]; simpa using hj)
 have hR := deltaRight hx w1
 rw [hI] at hR
 have hR' := h_ hR
 have k1' := h_ k1
 have hw1' := h_ hw1
 have hxb' := h_ hxb
 rw [hI]
 clear hw1 hxb k1 q1 hI hx hR
 go_enter Tryz.func74, Tryz.ntmps74
 go_wp2_with (first | (refine wpList_box_named 61 rfl rfl _ rfl hw1'.out ?_; rw [hxb'.out]) | (refine wpList_load_agg 61 rfl rfl rfl _ Tryz.underlying61 rfl I (by rw [hIl.out]; exact item_size) hl1.out ?_))
 refine hR'.out.mono ?_
 rintro e w2 ⟨rfl, k2⟩
 have k3 := h_ (k1'.out.trans k2)
 clear k2
 go_wp2_with fail
 go_ret
 exact ⟨rfl, k3.out⟩

def SM.item (M : SM) (root : Int) (x : ItemM) : SM × Int × Nat := if x.has = true then M.write1 root x.key x.block else M.changes [(x.key, -1)] root
theorem chg_zero : (Tryz.prog.info? 92).map (·.zero) = some (some (.agg #[.int .i64 0, .int .i64 0])) := by kernel_rfl
theorem chg_size : (Tryz.prog.info? 92).map (·.size) = some 2 := by kernel_rfl
set_option maxHeartbeats 8000000 in
theorem deltaOne {w : World} {A : SA} {M : SM} (h : StoreAt w A M) (root : Int) {x : ItemM} (hx : x.ok) (hfew : M.log.length + 100100 < 100000000) :
  Calls Tryz.prog 75 #[.agg #[.pointer (some ⟨A.sb, 0, none⟩)], .int .i64 root, .agg (itemCells x).toArray] w fun e w' => ∃ A', e = .returned (.tuple #[.int .i64 (M.item root x).2.1, .int .i64 (M.item root x).2.2]) ∧ StoreTo A A' (M.item root x).1 w w' := by
 obtain ⟨I, hI⟩ : ∃ I, itemCells x = I := ⟨_, rfl⟩
 obtain ⟨C, hC⟩ : ∃ C, blockCells x.block = C := ⟨_, rfl⟩
 have hCl : Hid (C.length = 16) := h_ (by rw [← hC]; exact blockCells_len _)
 obtain ⟨key, hkey⟩ : ∃ key, x.key = key := ⟨_, rfl⟩
 obtain ⟨mb, hmb⟩ : ∃ mb, w.heap.size = mb := ⟨_, rfl⟩
 obtain ⟨w1, hw1⟩ : ∃ w1, w.alloc (.cells #[.pointer (some ⟨A.sb, 0, none⟩)] 32) = w1 := ⟨_, rfl⟩
 obtain ⟨xb, hxb⟩ : ∃ xb, w1.heap.size = xb := ⟨_, rfl⟩
 obtain ⟨w2, hw2⟩ : ∃ w2, w1.alloc (.cells I.toArray 61) = w2 := ⟨_, rfl⟩
 obtain ⟨cb, hcb⟩ : ∃ cb, w2.heap.size = cb := ⟨_, rfl⟩
 obtain ⟨w3, hw3⟩ : ∃ w3, (w2.alloc (.cells #[.int .i64 0, .int .i64 0] 92)).setRow cb #[.int .i64 key, .int .i64 (-1)] = w3 := ⟨_, rfl⟩
 have k1 : Kept (fun _ => False) w w1 := by rw [← hw1]; exact (Kept.refl _ _).alloc _
 have k2 : Kept (fun _ => False) w1 w2 := by rw [← hw2]; exact (Kept.refl _ _).alloc _
 have k3 : Kept (fun _ => False) w2 w3 := by rw [← hw3]; exact ((Kept.refl _ _).alloc _).setRowNew (by omega) _
 have k13 := k1.trans (k2.trans k3)
 have m3 : w3.heap[mb]? = some (.cells #[.pointer (some ⟨A.sb, 0, none⟩)] 32 (0, 0)) := (k2.trans k3).get (by rw [← hw1, ← hmb]; exact heap_alloc_new _ _) id
 have x3 : w3.heap[xb]? = some (.cells I.toArray 61 (0, 0)) := k3.get (by rw [← hw2, ← hxb]; exact heap_alloc_new _ _) id
 have c3 : w3.heap[cb]? = some (.cells #[.int .i64 key, .int .i64 (-1)] 92 (0, 0)) := by rw [← hw3, ← hcb]; exact setRow_heap _ _ _ _ _ _ (heap_alloc_new _ _)
 have x2 : w2.heap[xb]? = some (.cells I.toArray 61 (0, 0)) := by rw [← hw2, ← hxb]; exact heap_alloc_new _ _
 obtain ⟨i20, _, _⟩ := item_box (x := x) (by rw [hI]; exact x2)
 obtain ⟨_, i31, i32⟩ := item_box (x := x) (by rw [hI]; exact x3)
 rw [hkey] at i20
 rw [hC] at i32
 have S3 := h_ (h.fresh k13)
 have hlt1 := k1.size
 have hlt2 := k2.size
 have hlt3 := k3.size
 have sm : Hid (Safe w3 A mb) := h_ (Safe.new h (by omega) (lt_of_heap m3))
 have sc : Hid (Safe w3 A cb) := h_ (Safe.new h (by omega) (lt_of_heap c3))
 have hlb := h_ i32
 have cm3 := cell_of_heap m3 0
 simp at cm3
 have hm3 := h_ m3
 have hc3 := h_ c3
 have K13 := h_ k13
 have hw1' := h_ hw1
 have hw2' := h_ hw2
 have hw3' := h_ hw3
 have hmb' := h_ hmb
 have hxb' := h_ hxb
 have hcb' := h_ hcb
 have hfew' := h_ hfew
 have h' := h_ h
 have hcw : Hid (w.heap.size ≤ cb) := h_ (by omega)
 have hIt : Hid (M.item root x = if x.has = true then M.write1 root key x.block else M.changes [(key, -1)] root) := h_ (by unfold SM.item; rw [hkey])
 rw [hI]
 clear hw1 hw2 hw3 hmb hxb hcb k1 k2 k3 k13 m3 x3 c3 x2 i32 hlt1 hlt2 hlt3 hI hkey hfew h
 cases hh : x.has with
 | false =>
  have hIt2 := hIt.out
  rw [hh, if_neg (by decide)] at hIt2
  rw [hh] at i31
  have ldm := h_ (ptr_load hm3.out)
  have ldc : Hid (∀ j v, [Value.int .i64 key, .int .i64 (-1)][j]? = some v → w3.cell? ⟨cb, 0 + j, none⟩ = some v) := h_ (fun j v hj => by rw [Nat.zero_add, cell_of_heap hc3.out]; simpa using hj)
  clear hh hIt
  have kx : Kept (fun _ => False) w3 (w3.alloc (.cells #[.int .i64 key, .int .i64 (-1)] 92)) := (Kept.refl _ _).alloc _
  have E1 : EntsOff (w3.alloc (.cells #[.int .i64 key, .int .i64 (-1)] 92)) A (.slice (some ⟨w3.heap.size, 0, none⟩) 1 1) [(key, (-1))] := ⟨SliceAt.block_new (heap_alloc_new _ _) rfl (by decide), fun _ b hb => by
   simp [Value.ownBlock] at hb
   subst hb
   exact ⟨by simp, fun e => Nat.lt_irrefl _ (S3.out.lt (.inl e))⟩⟩
  have hAp := diffApply (S3.out.fresh kx) root E1 (by simp) (by have := hfew'.out; omega)
  skip
  obtain ⟨R, hR⟩ : ∃ R, SM.changes [(key, (-1))] M root = R := ⟨_, rfl⟩
  rw [hR] at hAp hIt2
  obtain ⟨M2, next, es⟩ := R
  dsimp only at hAp
  have hAp' := h_ hAp
  have hIt3 := h_ hIt2
  have kx' := h_ kx
  clear hAp hR E1 kx hIt2
  go_enter Tryz.func75, Tryz.ntmps75
  go_wp2_with (first | (refine wpList_box_named 32 rfl rfl _ rfl hw1'.out ?_; rw [hmb'.out]) | (refine wpList_box_named 61 rfl rfl _ rfl hw2'.out ?_; rw [hxb'.out]) | (refine wpList_alloc_as 92 rfl rfl #[.int .i64 0, .int .i64 0] chg_zero ?_; rw [hcb'.out]) | (refine wpList_store_whole 92 rfl rfl rfl [.int .i64 key, .int .i64 (-1)] rfl chg_size 92 #[.int .i64 0, .int .i64 0] (by rw [← hcb'.out]; exact heap_alloc_new _ _) rfl (by intro c hc; simp at hc; rcases hc with rfl | rfl <;> rfl) ?_; rw [hw3'.out]) | (refine wpList_load_agg 30 rfl rfl rfl _ Tryz.underlying30 rfl [.pointer (some ⟨A.sb, 0, none⟩)] (by kernel_rfl) ldm.out ?_) | (refine wpList_load_agg 92 rfl rfl rfl _ Tryz.underlying92 rfl [.int .i64 key, .int .i64 (-1)] chg_size ldc.out ?_))
  refine hAp'.out.mono ?_
  rintro e w9 ⟨A2, rfl, hT2⟩
  have T2 := h_ (StoreTo.before K13.out (StoreTo.before kx'.out hT2))
  clear hT2
  go_wp2_with fail
  go_ret2
  rw [hIt3.out]
  exact ⟨A2, rfl, T2.out⟩
 | true =>
  have hIt2 := hIt.out
  rw [hh, if_pos rfl] at hIt2
  rw [hh] at i31
  obtain ⟨D, hD⟩ : ∃ D, nodeCells ⟨1, x.block, []⟩ (.slice none 0 0) = D := ⟨_, rfl⟩
  have hbd : Hid (∀ w, (Instr.build 115 #[(0, .int .i64 1), (1, .agg C.toArray)]).run Tryz.prog w = .ok (.agg D.toArray) w) := h_ (fun w => by rw [← hC, ← hD]; exact run_build_data w x.block)
  have hMk := storeMake S3.out (n := ⟨1, x.block, []⟩) (sv := .slice none 0 0) ⟨sliceNil (by decide), fun _ b hb => by simp [Value.ownBlock] at hb⟩ hx.1 hx.2 (by have := hfew'.out; omega)
  have hml := make_log M ⟨1, x.block, []⟩
  rw [hD] at hMk
  have hwr : M.write1 root key x.block = if (M.make ⟨1, x.block, []⟩).2.2 = 0 then (M.make ⟨1, x.block, []⟩).1.changes [(key, (M.make ⟨1, x.block, []⟩).2.1)] root else ((M.make ⟨1, x.block, []⟩).1, -1, (M.make ⟨1, x.block, []⟩).2.2) := rfl
  rw [hwr] at hIt2
  obtain ⟨R, hR⟩ : ∃ R, M.make ⟨1, x.block, []⟩ = R := ⟨_, rfl⟩
  rw [hR] at hMk hml hIt2
  obtain ⟨M1, pg, er⟩ := R
  dsimp only at hMk hml hIt2
  have hMk' := h_ hMk
  have hml' := h_ hml
  have hItA := h_ hIt2
  clear hMk hml hR hD hC hwr hIt2 hh hIt hx
  go_enter Tryz.func75, Tryz.ntmps75
  go_wp2_with (first | (refine wpList_box_named 32 rfl rfl _ rfl hw1'.out ?_; rw [hmb'.out]) | (refine wpList_box_named 61 rfl rfl _ rfl hw2'.out ?_; rw [hxb'.out]) | (refine wpList_alloc_as 92 rfl rfl #[.int .i64 0, .int .i64 0] chg_zero ?_; rw [hcb'.out]) | (refine wpList_store_whole 92 rfl rfl rfl [.int .i64 key, .int .i64 (-1)] rfl chg_size 92 #[.int .i64 0, .int .i64 0] (by rw [← hcb'.out]; exact heap_alloc_new _ _) rfl (by intro c hc; simp at hc; rcases hc with rfl | rfl <;> rfl) ?_; rw [hw3'.out]) | (refine wpList_load_agg 35 rfl rfl rfl _ Tryz.underlying35 rfl C (by rw [hCl.out]; exact block_size) hlb.out ?_) | (refine wpList_exec rfl (exec_build 115 #[(0, .const (.int .i64 1)), (1, .tmp 23)] _ rfl (by simp [Act.eval, Act.put]) (hbd.out _)) ?_))
  refine hMk'.out.mono ?_
  rintro e w4 ⟨A1, rfl, hT1⟩
  have T1 := h_ hT1
  have hm4 := h_ (hT1.get hm3.out sm.out)
  have hc4 := h_ (hT1.get hc3.out sc.out)
  have sc4 := h_ (sc.out.to hT1)
  clear hT1 cm3 i20 i31
  by_cases h0 : er = 0
  ·subst h0
   have hIt2 := hItA.out
   rw [if_pos rfl] at hIt2
   have p1 : w4.cell? ⟨cb, 1, none⟩ = some (.int .i64 (-1)) := by rw [cell_of_heap hc4.out]; rfl
   have p2 : w4.frozen? ⟨cb, 1, none⟩ = false := free_of_heap hc4.out 1
   obtain ⟨w5, hw5⟩ : ∃ w5, w4.setCell ⟨cb, 1, none⟩ (.int .i64 pg) = w5 := ⟨_, rfl⟩
   have k5 : Kept (fun j => j = cb) w4 w5 := by rw [← hw5]; exact Kept.setCell (S := fun j => j = cb) (Kept.refl _ _) (p := ⟨cb, 1, none⟩) rfl _
   have hm5 : w5.heap[mb]? = some (.cells #[.pointer (some ⟨A.sb, 0, none⟩)] 32 (0, 0)) := k5.get hm4.out (fun e => by
    have h1 := hm4.out
    rw [e, hc4.out] at h1
    cases h1)
   have hc5 : w5.heap[cb]? = some (.cells #[.int .i64 key, .int .i64 pg] 92 (0, 0)) := by rw [← hw5, heap_setCell_same hc4.out]; rfl
   have T5 : StoreTo A A1 M1 w w5 := StoreTo.touch h'.out (StoreTo.before K13.out T1.out) hcw.out sc4.out.off k5
   have ldm := h_ (ptr_load hm5)
   have ldc : Hid (∀ j v, [Value.int .i64 key, .int .i64 pg][j]? = some v → w5.cell? ⟨cb, 0 + j, none⟩ = some v) := h_ (fun j v hj => by rw [Nat.zero_add, cell_of_heap hc5]; simpa using hj)
   have T5' := h_ T5
   have hw5' := h_ hw5
   clear k5 hm5 hc5 T5
   have kx : Kept (fun _ => False) w5 (w5.alloc (.cells #[.int .i64 key, .int .i64 pg] 92)) := (Kept.refl _ _).alloc _
   have E1 : EntsOff (w5.alloc (.cells #[.int .i64 key, .int .i64 pg] 92)) A1 (.slice (some ⟨w5.heap.size, 0, none⟩) 1 1) [(key, pg)] := ⟨SliceAt.block_new (heap_alloc_new _ _) rfl (by decide), fun _ b hb => by
    simp [Value.ownBlock] at hb
    subst hb
    exact ⟨by simp, fun e => Nat.lt_irrefl _ (T5'.out.store.lt (.inl e))⟩⟩
   have hAp := diffApply (T5'.out.store.fresh kx) root E1 (by simp) (by have := hml'.out; have := hfew'.out; omega)
   rw [T5'.out.sb] at hAp
   obtain ⟨R, hR⟩ : ∃ R, SM.changes [(key, pg)] M1 root = R := ⟨_, rfl⟩
   rw [hR] at hAp hIt2
   obtain ⟨M2, next, es⟩ := R
   dsimp only at hAp
   have hAp' := h_ hAp
   have hIt3 := h_ hIt2
   have kx' := h_ kx
   clear hAp hR E1 kx hIt2
   go_wp2_with (first | (refine wpList_load_agg 30 rfl rfl rfl _ Tryz.underlying30 rfl [.pointer (some ⟨A.sb, 0, none⟩)] (by kernel_rfl) ldm.out ?_) | (refine wpList_load_agg 92 rfl rfl rfl _ Tryz.underlying92 rfl [.int .i64 key, .int .i64 pg] chg_size ldc.out ?_))
   refine hAp'.out.mono ?_
   rintro e w9 ⟨A2, rfl, hT2⟩
   have T2 := h_ (T5'.out.trans (StoreTo.before kx'.out hT2))
   clear hT2
   go_wp2_with fail
   go_ret2
   rw [hIt3.out]
   exact ⟨A2, rfl, T2.out⟩
  ·have h0' : ((er : Int) == 0) = false := by rw [beq_eq_false_iff_ne]; omega
   have hIt2 := hItA.out
   rw [if_neg h0] at hIt2
   have hIt3 := h_ hIt2
   have T4 := h_ (StoreTo.before K13.out T1.out)
   clear h0 hIt2
   go_wp2_with fail
   go_ret2
   rw [hIt3.out]
   exact ⟨A1, rfl, T4.out⟩

abbrev ItemsAt (w : World) (v : Value) (l : List ItemM) : Prop := SliceAt w v 18 l.length (l.flatMap itemCells)
theorem items_len : ∀ l : List ItemM, (l.flatMap itemCells).length = l.length * 18
 | [] => rfl
 | x :: l => by rw [List.flatMap_cons, List.length_append, itemCells_len, items_len l, List.length_cons]; omega
theorem items_get : ∀ {l : List ItemM} {k j : Nat} {x : ItemM}, l[k]? = some x → j < 18 → (l.flatMap itemCells)[k * 18 + j]? = (itemCells x)[j]?
 | [], _, _, _, hk, _ => by simp at hk
 | y :: l, 0, j, x, hk, hj => by
  simp at hk
  subst hk
  rw [Nat.zero_mul, Nat.zero_add, List.flatMap_cons, List.getElem?_append_left (by rw [itemCells_len]; exact hj)]
 | y :: l, k + 1, j, x, hk, hj => by
  have ih := items_get (l := l) (k := k) (x := x) (by simpa using hk) hj
  rw [List.flatMap_cons, show (k + 1) * 18 + j = (itemCells y).length + (k * 18 + j) by rw [itemCells_len]; omega, List.getElem?_append_right (by omega), Nat.add_sub_cancel_left, ih]
theorem ItemsAt.get {w : World} {A : Option Addr} {n cap : Nat} {l : List ItemM} (h : ItemsAt w (.slice A n cap) l) {i : Nat} {x : ItemM} (hx : l[i]? = some x) :
  ∃ b off, A = some ⟨b, off, none⟩ ∧ b < w.heap.size ∧ ∀ j v, (itemCells x)[j]? = some v → w.cell? ⟨b, off + i * 18 + j, none⟩ = some v := by
 have hi : i < l.length := (List.getElem?_eq_some_iff.1 hx).1
 obtain ⟨b, off, hA, hb, hc⟩ := SliceAt.elem h hi (by decide)
 refine ⟨b, off, hA, hb, fun j v hj => ?_⟩
 have hj18 : j < 18 := by
  have := (List.getElem?_eq_some_iff.1 hj).1
  rwa [itemCells_len] at this
 exact hc j v hj18 (by rw [items_get hx hj18]; exact hj)
def notIx (l : List ItemM) : Int := match l.findIdx? (fun x => !rightB x) with | some i => i | none => -1
set_option maxHeartbeats 4000000 in
theorem indexNot {w : World} {v : Value} {l : List ItemM} (hv : ItemsAt w v l) (hok : ∀ x ∈ l, x.ok) :
  Calls Tryz.prog 109 #[v, .func (.func 74) #[] #[]] w fun e w' => e = .returned (.int .i64 (notIx l)) ∧ Kept (fun _ => False) w w' := by
 obtain ⟨_, Av, cap, rfl, hc1, hc2, _⟩ := id hv
 unfold maxLen at hc2
 have hv' := h_ hv
 have hok' := h_ hok
 clear hv hok
 have hnone : Hid ((∀ x ∈ l, rightB x = true) → notIx l = -1) := h_ (fun h => by
  unfold notIx
  rw [List.findIdx?_eq_none_iff.2 (fun x hx => by simp [h x hx])])
 have hsome : Hid (∀ (k : Nat) (x : ItemM), l[k]? = some x → rightB x = false → (∀ (j : Nat) (y : ItemM), j < k → l[j]? = some y → rightB y = true) → notIx l = k) := h_ (fun k x hx hb hp => by
  obtain ⟨hk, hxe⟩ := List.getElem?_eq_some_iff.1 hx
  unfold notIx
  rw [List.findIdx?_eq_some_iff_getElem.2 ⟨hk, by rw [hxe]; simp [hb], fun j hj => by simp [hp j (l[j]'(by omega)) hj (List.getElem?_eq_getElem (by omega))]⟩])
 go_enter Tryz.func109, Tryz.ntmps109
 go_wp2_with fail
 go_loopw [8] (fun i wr => ∃ k : Nat, k ≤ l.length ∧ i = .int .i64 k ∧ Hid ((∀ (j : Nat) (y : ItemM), j < k → l[j]? = some y → rightB y = true) ∧ Kept (fun _ => False) w wr)) (fun i _ => l.length - (intOf i).toNat)
 case atStart => exact ⟨0, Nat.zero_le _, rfl, h_ ⟨fun j _ hj => by omega, Kept.refl _ _⟩⟩
 case round =>
  obtain ⟨k, hk, rfl, hpre⟩ := hrel
  by_cases hlt : k < l.length
  ·obtain ⟨x, hx⟩ : ∃ x, l[k]? = some x := ⟨_, List.getElem?_eq_getElem hlt⟩
   obtain ⟨b, off, rfl, hb, hcb⟩ := ItemsAt.get hv'.out hx
   obtain ⟨I, hI⟩ : ∃ I, itemCells x = I := ⟨_, rfl⟩
   have hIl : Hid (I.length = 18) := h_ (by rw [← hI]; exact itemCells_len _)
   have hfx := deltaNot (hok'.out x (List.mem_of_getElem? hx)) wr
   rw [hI] at hfx hcb
   have hcb' : Hid (∀ j v, I[j]? = some v → wr.cell? ⟨b, off + k * 18 + j, none⟩ = some v) := h_ (fun j v hj => hpre.out.2.cell (hcb j v hj) id)
   obtain ⟨z, hz⟩ : ∃ z, rightB x = z := ⟨_, rfl⟩
   rw [hz] at hfx
   have hfx' := h_ hfx
   have hz' := h_ hz
   have hx' := h_ hx
   have hki : (k : Int) < (l.length : Int) := by omega
   clear hz hx hfx hcb hI
   cases z
   ·go_wp2_with (first | (refine wpList_load_agg 61 rfl rfl rfl _ Tryz.underlying61 rfl I (by rw [hIl.out]; exact item_size) hcb'.out ?_))
    refine hfx'.out.mono ?_
    rintro e w' ⟨rfl, hk'⟩
    have fin := h_ (hpre.out.2.trans hk')
    clear hk'
    go_wp2_with fail
    go_ret
    exact ⟨by rw [hsome.out k x hx'.out hz'.out hpre.out.1]; rfl, fin.out⟩
   ·go_wp2_with (first | (refine wpList_load_agg 61 rfl rfl rfl _ Tryz.underlying61 rfl I (by rw [hIl.out]; exact item_size) hcb'.out ?_))
    refine hfx'.out.mono ?_
    rintro e w' ⟨rfl, hk'⟩
    have fin : Hid ((∀ (j : Nat) (y : ItemM), j < k + 1 → l[j]? = some y → rightB y = true) ∧ Kept (fun _ => False) w w') := h_ ⟨fun j y hj hy => by
     rcases Nat.lt_or_ge j k with h1 | h1
     ·exact hpre.out.1 j y h1 hy
     ·obtain rfl : j = k := by omega
      rw [hx'.out] at hy
      cases hy
      exact hz'.out, hpre.out.2.trans hk'⟩
    clear hk'
    go_wp2_with fail
    go_roundw
    case rel => exact ⟨k + 1, by omega, by go_num, fin⟩
    case measure => simp [intOf]; omega
  ·obtain rfl : k = l.length := by omega
   have hki : ¬ ((l.length : Int) < (l.length : Int)) := by omega
   go_wp2_with fail
   go_ret
   exact ⟨by rw [hnone.out (fun x hx => by obtain ⟨j, hj, rfl⟩ := List.getElem_of_mem hx; exact hpre.out.1 j _ hj (List.getElem?_eq_getElem hj))]; rfl, hpre.out.2⟩
theorem notIx_neg (l : List ItemM) : decide (0 ≤ notIx l) = l.any (fun x => !rightB x) ∧ -1 ≤ notIx l := by
 unfold notIx
 cases h : l.findIdx? (fun x => !rightB x) with
 | none =>
  have := List.findIdx?_eq_none_iff.1 h
  refine ⟨?_, by show (-1 : Int) ≤ -1; omega⟩
  have : l.any (fun x => !rightB x) = false := by rw [List.any_eq_false]; intro x hx; simpa using this x hx
  rw [this]; rfl
 | some i =>
  obtain ⟨hi, hp, _⟩ := List.findIdx?_eq_some_iff_getElem.1 h
  refine ⟨?_, by show (-1 : Int) ≤ (i : Int); omega⟩
  have : l.any (fun x => !rightB x) = true := List.any_eq_true.2 ⟨_, List.getElem_mem hi, hp⟩
  rw [this]; simp
theorem containsNot {w : World} {v : Value} {l : List ItemM} (hv : ItemsAt w v l) (hok : ∀ x ∈ l, x.ok) :
  Calls Tryz.prog 73 #[v, .func (.func 74) #[] #[]] w fun e w' => e = .returned (.bool (l.any fun x => !rightB x)) ∧ Kept (fun _ => False) w w' := by
 have hi := h_ (indexNot hv hok)
 obtain ⟨e1, e2⟩ := notIx_neg l
 rw [← e1]
 obtain ⟨x, hx⟩ : ∃ x, notIx l = x := ⟨_, rfl⟩
 rw [hx] at hi e2 ⊢
 clear hx e1
 obtain ⟨_, Av, cap, rfl, _⟩ := hv
 clear hok
 go_enter Tryz.func73, Tryz.ntmps73
 go_wp2_with fail
 refine hi.out.mono ?_
 rintro e w' ⟨rfl, hk⟩
 have hk' := h_ hk
 clear hk
 go_wp2_with fail
 go_ret
 exact ⟨rfl, hk'.out⟩

def SM.items : List ItemM → SM → Int → SM × Int × Nat
 | [], M, root => (M, root, 0)
 | x :: l, M, root => if (M.item root x).2.2 = 0 then SM.items l (M.item root x).1 (M.item root x).2.1 else ((M.item root x).1, -1, (M.item root x).2.2)
def SM.deliver (M : SM) (root : Int) (l : List ItemM) : SM × Int × Nat := if l.any (fun x => !rightB x) = true then (M, -1, 171) else M.safely (SM.items l M.marked root)
structure ItemsOff (w : World) (A : SA) (v : Value) (l : List ItemM) : Prop where
 at_ : ItemsAt w v l
 off : l ≠ [] → ∀ b, v.ownBlock = some b → b < w.heap.size ∧ ¬ A.foot b
theorem items_nil {w w' : World} {v : Value} (h : SliceAt w v 18 0 []) : SliceAt w' v 18 0 [] := by
 obtain ⟨hl, A, cap, hv, h1, h2, _⟩ := h
 exact ⟨hl, A, cap, hv, h1, h2, fun j u hj => by simp at hj⟩
theorem ItemsOff.fresh {w w' : World} {A : SA} {v : Value} {l : List ItemM} (h : ItemsOff w A v l) (k : Kept (fun _ => False) w w') : ItemsOff w' A v l :=
 ⟨SliceAt.fresh h.at_ k, fun hl b hb => ⟨Nat.lt_of_lt_of_le (h.off hl b hb).1 k.size, (h.off hl b hb).2⟩⟩
theorem ItemsOff.to {w w' : World} {A A' : SA} {M' : SM} {v : Value} {l : List ItemM} (h : ItemsOff w A v l) (k : StoreTo A A' M' w w') : ItemsOff w' A' v l := by
 by_cases hl : l = []
 ·subst hl
  exact ⟨items_nil h.at_, fun hh => absurd rfl hh⟩
 ·exact ⟨h.at_.kept k.kept (fun b hb => (h.off hl b hb).2), fun _ b hb => ⟨Nat.lt_of_lt_of_le (h.off hl b hb).1 k.kept.size, fun e => (k.foot b e).elim (h.off hl b hb).2 (fun e => absurd (h.off hl b hb).1 (Nat.not_lt.2 e))⟩⟩
theorem cutF_logD (M : SM) (key : Int) : ∀ (f : Nat) (r : Int), (SM.cutF f M r key).1.log.length ≤ M.log.length + 2 * f
 | 0, _ => by simp [SM.cutF]
 | f + 1, r => by
  have ih := cutF_logD M key f ((M.tnode r (8 - f)).1.ents.getD (atI (M.tnode r (8 - f)).1.ents key).toNat (0, 0)).2
  unfold SM.cutF
  dsimp only
  split
  ·dsimp only; omega
  ·split
   ·split <;> (dsimp only; omega)
   ·obtain ⟨C, hC⟩ : ∃ C, SM.cutF f M ((M.tnode r (8 - f)).1.ents.getD (atI (M.tnode r (8 - f)).1.ents key).toNat (0, 0)).2 key = C := ⟨_, rfl⟩
    rw [hC] at ih ⊢
    have h := (split_bound C.1 (C.1.join (M.tnode r (8 - f)).1 C.2.1 (atI (M.tnode r (8 - f)).1.ents key).toNat (8 - f)).1).1
    split
    ·dsimp only; omega
    ·split
     ·split <;> (dsimp only; omega)
     ·dsimp only; omega
theorem cut_logD (M : SM) (root key : Int) : (M.cut root key).1.log.length ≤ M.log.length + 20 := by
 have h1 := cutF_logD M key 9 root
 have h2 := (split_bound (SM.cutF 9 M root key).1 (SM.cutF 9 M root key).2.1).1
 unfold SM.cut
 split
 ·dsimp only; omega
 ·split
  ·dsimp only; omega
  ·dsimp only
   split
   ·dsimp only; omega
   ·split
    ·dsimp only; omega
    ·split
     ·dsimp only; omega
     ·split <;> (dsimp only; omega)
theorem cutc_log (M : SM) (root key : Int) : (M.changes [(key, -1)] root).1.log.length ≤ M.log.length + 22 := by
 have h1 := cut_logD M root key
 rw [change_one]
 have hone : M.one root (key, -1) = ((M.cut root key).1, (M.cut root key).2.1, (M.cut root key).2.2.2) := by unfold SM.one; rw [if_pos rfl]
 unfold SM.change
 rw [hone]
 dsimp only
 split
 ·split
  ·show (SM.swap _ _ _).1.log.length ≤ _
   rw [swap_log]; omega
  ·show (SM.swap _ _ _).1.log.length ≤ _
   rw [swap_log]; omega
 ·show (SM.cut _ _ _).1.log.length ≤ _
  omega
theorem item_log (M : SM) (root : Int) (x : ItemM) : (M.item root x).1.log.length ≤ M.log.length + 23 := by
 unfold SM.item
 split
 ·exact write1_log M root x.key x.block
 ·exact Nat.le_succ_of_le (cutc_log M root _)
theorem deli_size (M : SM) (root : Int) (x : ItemM) : (M.item root x).1.pool.size = M.pool.size := by
 unfold SM.item
 split
 ·exact write1_size M root x.key x.block
 ·exact changes_closed (Q := fun N => N.pool.size = M.pool.size) ⟨fun _ _ _ _ h => h, fun N i h => by show (N.pool.holdTo i).size = _; rw [holdTo_size]; exact h, fun N i _ h => by show (N.pool.dropTo i.toNat).size = _; rw [dropTo_size]; exact h⟩ _ root rfl
structure DvSt (w : World) (A : SA) (M : SM) (l : List ItemM) (v : Value) (R : SM × Int × Nat) (k mb c : Nat) (root : Int) (wr : World) (A' : SA) (M' : SM) : Prop where
 to : StoreTo A A' M' w wr
 box : wr.heap[mb]? = some (.cells #[.pointer (some ⟨A.sb, 0, none⟩)] 32 (0, 0))
 bsafe : Safe wr A' mb
 items : ItemsOff wr A' v l
 mark : PoolOff wr A' c M.marked.pool
 size : M'.pool.size = M.pool.size
 log : M'.log.length ≤ M.log.length + 23 * k
 rest : R = SM.items (l.drop k) M' root
theorem DvSt.fresh {w : World} {A : SA} {M : SM} {l : List ItemM} {v : Value} {R : SM × Int × Nat} {k mb c : Nat} {root : Int} {wr w' : World} {A' : SA} {M' : SM} (h : DvSt w A M l v R k mb c root wr A' M') (q : Kept (fun _ => False) wr w') : DvSt w A M l v R k mb c root w' A' M' :=
 ⟨h.to.fresh q, q.get h.box id, h.bsafe.fresh q, h.items.fresh q, h.mark.fresh q, h.size, h.log, h.rest⟩
set_option maxHeartbeats 8000000 in
theorem deltaApply {w : World} {A : SA} {M : SM} (h : StoreAt w A M) (root : Int) {v : Value} {l : List ItemM} (hv : ItemsOff w A v l) (hl : l.length ≤ 1000) (hok : ∀ x ∈ l, x.ok) (hfew : M.log.length + 200000 < 100000000) :
  Calls Tryz.prog 29 #[.agg #[.pointer (some ⟨A.sb, 0, none⟩)], .int .i64 root, v] w fun e w' => ∃ A', e = .returned (.tuple #[.int .i64 (M.deliver root l).2.1, .int .i64 (M.deliver root l).2.2]) ∧ StoreTo A A' (M.deliver root l).1 w w' := by
 obtain ⟨_, Av, cap, rfl, hc1, hc2, _⟩ := id hv.at_
 unfold maxLen at hc2
 obtain ⟨mb, hmb⟩ : ∃ mb, w.heap.size = mb := ⟨_, rfl⟩
 obtain ⟨w1, hw1⟩ : ∃ w1, w.alloc (.cells #[.pointer (some ⟨A.sb, 0, none⟩)] 32) = w1 := ⟨_, rfl⟩
 have k1 : Kept (fun _ => False) w w1 := by rw [← hw1]; exact (Kept.refl _ _).alloc _
 have q1 : w1.heap[mb]? = some (.cells #[.pointer (some ⟨A.sb, 0, none⟩)] 32 (0, 0)) := by rw [← hw1, ← hmb]; exact heap_alloc_new _ _
 have hCo := containsNot (hv.fresh k1).at_ hok
 have k1' := h_ k1
 have q1' := h_ q1
 have hw1' := h_ hw1
 have hmb' := h_ hmb
 have hv' := h_ hv
 have h' := h_ h
 have hok' := h_ hok
 have hfew' := h_ hfew
 obtain ⟨bad, hbad⟩ : ∃ bad, (l.any fun x => !rightB x) = bad := ⟨_, rfl⟩
 rw [hbad] at hCo
 have hCo' := h_ hCo
 have hdv : Hid (M.deliver root l = if bad = true then (M, -1, 171) else M.safely (SM.items l M.marked root)) := h_ (by unfold SM.deliver; rw [hbad])
 clear hw1 hmb k1 q1 hv h hok hfew hCo hbad
 go_enter Tryz.func29, Tryz.ntmps29
 go_wp2_with (first | (refine wpList_box_named 32 rfl rfl _ rfl hw1'.out ?_; rw [hmb'.out]))
 refine hCo'.out.mono ?_
 rintro e w2 ⟨rfl, hk2⟩
 have k2 := h_ (k1'.out.trans hk2)
 have q2 := h_ (hk2.get q1'.out id)
 clear hk2
 cases bad with
 | true =>
  have hd := hdv.out
  rw [if_pos rfl] at hd
  have hd' := h_ hd
  have fin := h_ ((StoreTo.refl h'.out).fresh k2.out)
  clear hd
  go_wp2_with fail
  go_ret2
  rw [hd'.out]
  exact ⟨A, rfl, fin.out⟩
 | false =>
  have hd := hdv.out
  rw [if_neg (by decide)] at hd
  have hd' := h_ hd
  have S2 := h_ (h'.out.fresh k2.out)
  have sm2 : Hid (Safe w2 A mb) := h_ (Safe.new h'.out (by have := hmb'.out; omega) (lt_of_heap q2.out))
  have cm2 := cell_of_heap q2.out 0
  simp at cm2
  clear hd
  go_wp2_with fail
  refine (storePool S2.out).mono ?_
  rintro e w3 ⟨rfl, rfl⟩
  go_wp2_with fail
  refine (tidy_any S2.out.pool).mono ?_
  rintro e w3 ⟨rfl, hT⟩
  have T3 : Hid (StoreTo A A M.tidy w2 w3) := h_ (S2.out.pooled hT rfl)
  have q3 := h_ (T3.out.get q2.out sm2.out)
  have s3 := h_ (sm2.out.to T3.out)
  have cm3 := cell_of_heap q3.out 0
  simp at cm3
  have hMk' := h_ (storeMark T3.out.store)
  clear hT cm2
  go_wp2_with fail
  refine hMk'.out.mono ?_
  rintro e w4 ⟨c, rfl, hT4, hpo4⟩
  have hold := hv'.out.fresh k2.out
  have T4 : StoreTo A A M.marked w w4 := StoreTo.before k2.out (T3.out.trans hT4)
  have I4 : Hid (∃ A' M', DvSt w A M l (.slice Av l.length cap) (SM.items l M.marked root) 0 mb c root w4 A' M') := h_ ⟨A, M.marked, T4, hT4.get q3.out s3.out, s3.out.to hT4, (hold.to T3.out).to hT4, hpo4, rfl, Nat.le_refl _, rfl⟩
  obtain ⟨R, hR⟩ : ∃ R, SM.items l M.marked root = R := ⟨_, rfl⟩
  rw [hR] at I4
  have hd2 : Hid (M.deliver root l = if R.2.2 = 0 then R else (⟨M.marked.pool, R.1.log⟩, -1, R.2.2)) := h_ (by rw [hd'.out, hR]; rfl)
  obtain ⟨Z, hZ⟩ : ∃ Z, itemCells .zero = Z := ⟨_, rfl⟩
  have hZz : Hid ((Tryz.prog.info? 61).map (·.zero) = some (some (.agg Z.toArray))) := h_ (by rw [← hZ]; exact item_zero)
  have hZl : Hid (Z.length = 18) := h_ (by rw [← hZ]; exact itemCells_len _)
  clear hT4 hpo4 hold T4 hR hZ cm3 hd'
  go_wp2_with fail
  go_loopw [1, 30] (fun r i wr => ∃ (k : Nat) (rt : Int), k ≤ l.length ∧ i = .int .i64 k ∧ r = .int .i64 rt ∧ Hid (∃ A' M', DvSt w A M l (.slice Av l.length cap) R k mb c rt wr A' M')) (fun _ i _ => l.length - (intOf i).toNat)
  case atStart => exact ⟨0, root, Nat.zero_le _, rfl, rfl, I4⟩
  case round =>
   obtain ⟨k, rt, hk, rfl, rfl, hI⟩ := hrel
   obtain ⟨A5, M5, St⟩ := hI.out
   by_cases hlt : k < l.length
   ·obtain ⟨x, hx⟩ : ∃ x, l[k]? = some x := ⟨_, List.getElem?_eq_getElem hlt⟩
    obtain ⟨b, off, rfl, hb, hcb⟩ := ItemsAt.get St.items.at_ hx
    have hki : (k : Int) < (l.length : Int) := by omega
    obtain ⟨I, hI2⟩ : ∃ I, itemCells x = I := ⟨_, rfl⟩
    rw [hI2] at hcb
    have hIl : Hid (I.length = 18) := h_ (by rw [← hI2]; exact itemCells_len _)
    have hI1 : Hid (∀ v ∈ I, v.oneCell' = true) := h_ (by rw [← hI2]; exact itemCells_one _)
    have hlo := h_ hcb
    obtain ⟨ib, hib⟩ : ∃ ib, wr.heap.size = ib := ⟨_, rfl⟩
    obtain ⟨w5, hw5⟩ : ∃ w5, (wr.alloc (.cells Z.toArray 61)).setRow ib I.toArray = w5 := ⟨_, rfl⟩
    have k5 : Kept (fun _ => False) wr w5 := by rw [← hw5]; exact ((Kept.refl _ _).alloc _).setRowNew (by omega) _
    have q5 : w5.heap[ib]? = some (.cells I.toArray 61 (0, 0)) := by rw [← hw5, ← hib]; exact setRow_heap _ _ _ _ _ _ (heap_alloc_new _ _)
    have hlb : Hid (∀ j v, I[j]? = some v → w5.cell? ⟨ib, 0 + j, none⟩ = some v) := h_ (fun j v hj => by rw [Nat.zero_add, cell_of_heap q5]; simpa using hj)
    have S5 := h_ (St.fresh k5)
    have hdrop : l.drop k = x :: l.drop (k + 1) := by rw [List.drop_eq_getElem_cons hlt]; congr 1; exact Option.some.inj ((List.getElem?_eq_getElem hlt).symm.trans hx)
    have hrest : R = if (M5.item rt x).2.2 = 0 then SM.items (l.drop (k + 1)) (M5.item rt x).1 (M5.item rt x).2.1 else ((M5.item rt x).1, -1, (M5.item rt x).2.2) := by rw [St.rest, hdrop]; rfl
    have hOn := deltaOne S5.out.to.store rt (hok'.out x (List.mem_of_getElem? hx)) (by have := hfew'.out; have := S5.out.log; omega)
    have hil := item_log M5 rt x
    have his := deli_size M5 rt x
    rw [S5.out.to.sb, hI2] at hOn
    obtain ⟨r, hr⟩ : ∃ r, M5.item rt x = r := ⟨_, rfl⟩
    rw [hr] at hOn hrest hil his
    obtain ⟨M6, next, er⟩ := r
    dsimp only at hOn hrest hil his
    have hOn' := h_ hOn
    have hrest' := h_ hrest
    have hil' := h_ hil
    have his' := h_ his
    have hld := h_ (ptr_load S5.out.box)
    have hw5' := h_ hw5
    have hib' := h_ hib
    clear hx hcb hI2 hw5 hib k5 q5 hdrop hrest hOn hil his hr hI St
    go_wp2_with (first | (refine wpList_load_agg 61 rfl rfl rfl _ Tryz.underlying61 rfl I (by rw [hIl.out]; exact item_size) hlo.out ?_) | (refine wpList_load_agg 61 rfl rfl rfl _ Tryz.underlying61 rfl I (by rw [hIl.out]; exact item_size) hlb.out ?_) | (refine wpList_alloc_as 61 rfl rfl Z.toArray hZz.out ?_; rw [hib'.out]) | (refine wpList_store_whole 61 rfl rfl rfl I rfl (by rw [hIl.out]; exact item_size) 61 Z.toArray (by rw [← hib'.out]; exact heap_alloc_new _ _) (by simp [hZl.out, hIl.out]) hI1.out ?_; rw [hw5'.out]) | (refine wpList_load_agg 32 rfl rfl rfl _ Tryz.underlying32 rfl [.pointer (some ⟨A.sb, 0, none⟩)] (by kernel_rfl) hld.out ?_))
    refine hOn'.out.mono ?_
    rintro e w6 ⟨A6, rfl, hT6⟩
    have T6 := h_ (S5.out.to.trans hT6)
    have b6 := h_ (hT6.get S5.out.box S5.out.bsafe)
    have bs6 := h_ (S5.out.bsafe.to hT6)
    have i6 := h_ (S5.out.items.to hT6)
    have m6 := h_ (S5.out.mark.to hT6)
    clear hT6 hOn'
    by_cases h0 : er = 0
    ·subst h0
     have hr2 := hrest'.out
     rw [if_pos rfl] at hr2
     have fin : Hid (∃ A' M', DvSt w A M l (.slice (some ⟨b, off, none⟩) l.length cap) R (k + 1) mb c next w6 A' M') := h_ ⟨A6, M6, T6.out, b6.out, bs6.out, i6.out, m6.out, by rw [his'.out]; exact S5.out.size, by have := hil'.out; have := S5.out.log; omega, hr2⟩
     clear hr2
     go_wp2_with fail
     go_roundw
     case rel => exact ⟨k + 1, next, by omega, by go_num, rfl, fin⟩
     case measure => simp [intOf] <;> omega
    ·have h0' : ((er : Int) == 0) = false := by rw [beq_eq_false_iff_ne]; omega
     have hr2 := hrest'.out
     rw [if_neg h0] at hr2
     have hd := hd2.out
     rw [hr2] at hd
     dsimp only at hd
     rw [if_neg h0] at hd
     have hd3 := h_ hd
     have hU := storeUndo T6.out.store m6.out.pool (by show M.pool.size = M6.pool.size; rw [his'.out]; exact S5.out.size.symm)
     rw [T6.out.sb] at hU
     have hU' := h_ hU
     have cm6 := cell_of_heap b6.out 0
     simp at cm6
     clear hd hr2 h0 hU
     go_wp2_with fail
     refine hU'.out.mono ?_
     rintro e w7 ⟨v7, A7, rfl, hT7⟩
     have T7 := h_ (T6.out.trans hT7)
     clear hT7
     go_wp2_with fail
     go_ret2
     rw [hd3.out]
     first | exact ⟨A7, rfl, T7.out⟩ | exact ⟨rfl, A7, T7.out⟩
   ·have hki : ¬ ((k : Int) < (l.length : Int)) := by omega
    have hrest : R = (M5, rt, 0) := by rw [St.rest, List.drop_eq_nil_of_le (by omega)]; rfl
    have hd := hd2.out
    rw [hrest] at hd
    dsimp only at hd
    rw [if_pos rfl] at hd
    have hd3 := h_ hd
    have fin := h_ St.to
    clear hd hrest St hI
    go_wp2_with fail
    go_ret2
    rw [hd3.out]
    first | exact ⟨A5, rfl, fin.out⟩ | exact ⟨rfl, A5, fin.out⟩

def boundI (x : Int) : Int := max 1 (min x 4)
theorem boundI_in (x : Int) : boundI x = 1 ∨ boundI x = 2 ∨ boundI x = 3 ∨ boundI x = 4 := by unfold boundI; omega
def chunksI (n size : Int) : Int := if n ≤ boundI size then 1 else n / boundI size + (if 0 < n % boundI size then 1 else 0)
theorem deltaBounded (x : Int) (w : World) : Calls Tryz.prog 76 #[.int .i64 x] w fun e w' => e = .returned (.int .i64 (boundI x)) ∧ w = w' := by
 go_enter Tryz.func76, Tryz.ntmps76
 go_wp2_with fail
 all_goals (try go_ret)
 all_goals
  refine ⟨congrArg (fun z : Int => Ending.returned (Value.int .i64 z)) ?_, rfl⟩
  unfold boundI
  omega
set_option maxHeartbeats 4000000 in
theorem deltaChunks (n size : Int) (h0 : -1000 ≤ n) (h1 : n ≤ 1000) (w : World) : Calls Tryz.prog 31 #[.int .i64 n, .int .i64 size] w fun e w' => e = .returned (.int .i64 (chunksI n size)) ∧ Kept (fun _ => False) w w' := by
 have hB := deltaBounded size w
 have hin := boundI_in size
 obtain ⟨s, hs⟩ : ∃ s, boundI size = s := ⟨_, rfl⟩
 obtain ⟨a, ha⟩ : ∃ a, max 0 n = a := ⟨_, rfl⟩
 have hcs : chunksI n size = if n ≤ s then 1 else n / s + (if 0 < n % s then 1 else 0) := by unfold chunksI; rw [hs]
 rw [hs] at hB hin
 have hB' := h_ hB
 have ha0 : 0 ≤ a := by omega
 have ha1 : a ≤ 1000 := by omega
 clear hB hs
 rcases hin with rfl | rfl | rfl | rfl
 ·have e1 : Int.tdiv a 1 = a / 1 := Int.tdiv_eq_ediv_of_nonneg ha0
  have e2 : Int.tmod a 1 = a % 1 := Int.tmod_eq_emod_of_nonneg ha0
  have hcs' : Hid (chunksI n size = max 1 (a / 1 + min 1 (a % 1))) := h_ (by
   rw [hcs]
   split
   ·omega
   ·split <;> omega)
  have hw1 : IntKind.i64.wrap (a / 1) = a / 1 := by rw [IntKind.wrap_i64]; omega
  have hw2 : IntKind.i64.wrap (a % 1) = a % 1 := by rw [IntKind.wrap_i64]; omega
  have hw3 : IntKind.i64.wrap (a / 1 + min 1 (a % 1)) = a / 1 + min 1 (a % 1) := by rw [IntKind.wrap_i64]; omega
  clear hcs
  go_enter Tryz.func31, Tryz.ntmps31
  go_wp2_with fail
  refine hB'.out.mono ?_
  rintro e w2 ⟨rfl, rfl⟩
  go_wp2_with fail
  refine wp_region_quiet (C := fun w' => Kept (fun _ => False) w w') (by kernel_rfl) (by kernel_rfl) (Kept.refl _ _).drew ?_
  simp only []
  refine wpQuiet_step (fun K hK => ?_); go_simp; refine ⟨_, fun _ _ => rfl, hK _ ?_⟩; clear hK K
  refine wpQuiet_step (fun K hK => ?_); go_simp; refine ⟨_, fun _ _ => rfl, hK _ ?_⟩; clear hK K
  refine wpQuiet_step (fun K hK => ?_); go_simp; refine ⟨_, fun _ _ => rfl, hK _ ?_⟩; clear hK K
  refine wpQuiet_step (fun K hK => ?_); go_simp; refine ⟨_, fun _ _ => rfl, hK _ ?_⟩; clear hK K
  refine wpQuiet_step (fun K hK => ?_); go_simp; refine ⟨_, fun _ _ => rfl, hK _ ?_⟩; clear hK K
  refine wpQuiet_step (fun K hK => ?_); go_simp; refine ⟨_, fun _ _ => rfl, hK _ ?_⟩; clear hK K
  refine wpQuiet_step (fun K hK => ?_); go_simp; refine ⟨_, fun _ _ => rfl, hK _ ?_⟩; clear hK K
  refine wpQuiet_step (fun K hK => ?_); go_simp; refine ⟨_, fun _ _ => rfl, hK _ ?_⟩; clear hK K
  refine wpQuiet_step (fun K hK => ?_); go_simp; refine ⟨_, fun _ _ => rfl, hK _ ?_⟩; clear hK K
  refine wpQuiet_step (fun K hK => ?_); go_simp; refine ⟨_, fun _ _ => rfl, hK _ ?_⟩; clear hK K
  refine wpQuiet_step (fun K hK => ?_); go_simp; refine ⟨_, fun _ _ => rfl, hK _ ?_⟩; clear hK K
  refine wpQuiet_step (fun K hK => ?_); go_simp; refine ⟨_, fun _ _ => rfl, hK _ ?_⟩; clear hK K
  refine wpQuiet_nil ?_
  intro wq hwq
  all_goals go_wp2_with fail
  all_goals (try go_ret)
  all_goals refine ⟨(congrArg (fun z : Int => Ending.returned (Value.int .i64 z)) (?_ : _ = max 1 (a / 1 + min 1 (a % 1)))).trans (by rw [hcs'.out]), hwq⟩
  all_goals
   rcases Int.lt_or_le 0 n with hn | hn
   ·have e1n := Int.tdiv_eq_ediv_of_nonneg (b := 1) (Int.le_of_lt hn)
    have e2n := Int.tmod_eq_emod_of_nonneg (b := 1) (Int.le_of_lt hn)
    try simp only [if_pos hn, e1n, e2n, IntKind.wrap_i64] at *
    omega
   ·try simp only [if_neg (Int.not_lt.mpr hn), Int.zero_tdiv, Int.zero_tmod, IntKind.wrap_i64] at *
    omega
 ·have e1 : Int.tdiv a 2 = a / 2 := Int.tdiv_eq_ediv_of_nonneg ha0
  have e2 : Int.tmod a 2 = a % 2 := Int.tmod_eq_emod_of_nonneg ha0
  have hcs' : Hid (chunksI n size = max 1 (a / 2 + min 1 (a % 2))) := h_ (by
   rw [hcs]
   split
   ·omega
   ·split <;> omega)
  have hw1 : IntKind.i64.wrap (a / 2) = a / 2 := by rw [IntKind.wrap_i64]; omega
  have hw2 : IntKind.i64.wrap (a % 2) = a % 2 := by rw [IntKind.wrap_i64]; omega
  have hw3 : IntKind.i64.wrap (a / 2 + min 1 (a % 2)) = a / 2 + min 1 (a % 2) := by rw [IntKind.wrap_i64]; omega
  clear hcs
  go_enter Tryz.func31, Tryz.ntmps31
  go_wp2_with fail
  refine hB'.out.mono ?_
  rintro e w2 ⟨rfl, rfl⟩
  go_wp2_with fail
  refine wp_region_quiet (C := fun w' => Kept (fun _ => False) w w') (by kernel_rfl) (by kernel_rfl) (Kept.refl _ _).drew ?_
  simp only []
  refine wpQuiet_step (fun K hK => ?_); go_simp; refine ⟨_, fun _ _ => rfl, hK _ ?_⟩; clear hK K
  refine wpQuiet_step (fun K hK => ?_); go_simp; refine ⟨_, fun _ _ => rfl, hK _ ?_⟩; clear hK K
  refine wpQuiet_step (fun K hK => ?_); go_simp; refine ⟨_, fun _ _ => rfl, hK _ ?_⟩; clear hK K
  refine wpQuiet_step (fun K hK => ?_); go_simp; refine ⟨_, fun _ _ => rfl, hK _ ?_⟩; clear hK K
  refine wpQuiet_step (fun K hK => ?_); go_simp; refine ⟨_, fun _ _ => rfl, hK _ ?_⟩; clear hK K
  refine wpQuiet_step (fun K hK => ?_); go_simp; refine ⟨_, fun _ _ => rfl, hK _ ?_⟩; clear hK K
  refine wpQuiet_step (fun K hK => ?_); go_simp; refine ⟨_, fun _ _ => rfl, hK _ ?_⟩; clear hK K
  refine wpQuiet_step (fun K hK => ?_); go_simp; refine ⟨_, fun _ _ => rfl, hK _ ?_⟩; clear hK K
  refine wpQuiet_step (fun K hK => ?_); go_simp; refine ⟨_, fun _ _ => rfl, hK _ ?_⟩; clear hK K
  refine wpQuiet_step (fun K hK => ?_); go_simp; refine ⟨_, fun _ _ => rfl, hK _ ?_⟩; clear hK K
  refine wpQuiet_step (fun K hK => ?_); go_simp; refine ⟨_, fun _ _ => rfl, hK _ ?_⟩; clear hK K
  refine wpQuiet_step (fun K hK => ?_); go_simp; refine ⟨_, fun _ _ => rfl, hK _ ?_⟩; clear hK K
  refine wpQuiet_nil ?_
  intro wq hwq
  all_goals go_wp2_with fail
  all_goals (try go_ret)
  all_goals refine ⟨(congrArg (fun z : Int => Ending.returned (Value.int .i64 z)) (?_ : _ = max 1 (a / 2 + min 1 (a % 2)))).trans (by rw [hcs'.out]), hwq⟩
  all_goals
   rcases Int.lt_or_le 0 n with hn | hn
   ·have e1n := Int.tdiv_eq_ediv_of_nonneg (b := 2) (Int.le_of_lt hn)
    have e2n := Int.tmod_eq_emod_of_nonneg (b := 2) (Int.le_of_lt hn)
    try simp only [if_pos hn, e1n, e2n, IntKind.wrap_i64] at *
    omega
   ·try simp only [if_neg (Int.not_lt.mpr hn), Int.zero_tdiv, Int.zero_tmod, IntKind.wrap_i64] at *
    omega
 ·have e1 : Int.tdiv a 3 = a / 3 := Int.tdiv_eq_ediv_of_nonneg ha0
  have e2 : Int.tmod a 3 = a % 3 := Int.tmod_eq_emod_of_nonneg ha0
  have hcs' : Hid (chunksI n size = max 1 (a / 3 + min 1 (a % 3))) := h_ (by
   rw [hcs]
   split
   ·omega
   ·split <;> omega)
  have hw1 : IntKind.i64.wrap (a / 3) = a / 3 := by rw [IntKind.wrap_i64]; omega
  have hw2 : IntKind.i64.wrap (a % 3) = a % 3 := by rw [IntKind.wrap_i64]; omega
  have hw3 : IntKind.i64.wrap (a / 3 + min 1 (a % 3)) = a / 3 + min 1 (a % 3) := by rw [IntKind.wrap_i64]; omega
  clear hcs
  go_enter Tryz.func31, Tryz.ntmps31
  go_wp2_with fail
  refine hB'.out.mono ?_
  rintro e w2 ⟨rfl, rfl⟩
  go_wp2_with fail
  refine wp_region_quiet (C := fun w' => Kept (fun _ => False) w w') (by kernel_rfl) (by kernel_rfl) (Kept.refl _ _).drew ?_
  simp only []
  refine wpQuiet_step (fun K hK => ?_); go_simp; refine ⟨_, fun _ _ => rfl, hK _ ?_⟩; clear hK K
  refine wpQuiet_step (fun K hK => ?_); go_simp; refine ⟨_, fun _ _ => rfl, hK _ ?_⟩; clear hK K
  refine wpQuiet_step (fun K hK => ?_); go_simp; refine ⟨_, fun _ _ => rfl, hK _ ?_⟩; clear hK K
  refine wpQuiet_step (fun K hK => ?_); go_simp; refine ⟨_, fun _ _ => rfl, hK _ ?_⟩; clear hK K
  refine wpQuiet_step (fun K hK => ?_); go_simp; refine ⟨_, fun _ _ => rfl, hK _ ?_⟩; clear hK K
  refine wpQuiet_step (fun K hK => ?_); go_simp; refine ⟨_, fun _ _ => rfl, hK _ ?_⟩; clear hK K
  refine wpQuiet_step (fun K hK => ?_); go_simp; refine ⟨_, fun _ _ => rfl, hK _ ?_⟩; clear hK K
  refine wpQuiet_step (fun K hK => ?_); go_simp; refine ⟨_, fun _ _ => rfl, hK _ ?_⟩; clear hK K
  refine wpQuiet_step (fun K hK => ?_); go_simp; refine ⟨_, fun _ _ => rfl, hK _ ?_⟩; clear hK K
  refine wpQuiet_step (fun K hK => ?_); go_simp; refine ⟨_, fun _ _ => rfl, hK _ ?_⟩; clear hK K
  refine wpQuiet_step (fun K hK => ?_); go_simp; refine ⟨_, fun _ _ => rfl, hK _ ?_⟩; clear hK K
  refine wpQuiet_step (fun K hK => ?_); go_simp; refine ⟨_, fun _ _ => rfl, hK _ ?_⟩; clear hK K
  refine wpQuiet_nil ?_
  intro wq hwq
  all_goals go_wp2_with fail
  all_goals (try go_ret)
  all_goals refine ⟨(congrArg (fun z : Int => Ending.returned (Value.int .i64 z)) (?_ : _ = max 1 (a / 3 + min 1 (a % 3)))).trans (by rw [hcs'.out]), hwq⟩
  all_goals
   rcases Int.lt_or_le 0 n with hn | hn
   ·have e1n := Int.tdiv_eq_ediv_of_nonneg (b := 3) (Int.le_of_lt hn)
    have e2n := Int.tmod_eq_emod_of_nonneg (b := 3) (Int.le_of_lt hn)
    try simp only [if_pos hn, e1n, e2n, IntKind.wrap_i64] at *
    omega
   ·try simp only [if_neg (Int.not_lt.mpr hn), Int.zero_tdiv, Int.zero_tmod, IntKind.wrap_i64] at *
    omega
 ·have e1 : Int.tdiv a 4 = a / 4 := Int.tdiv_eq_ediv_of_nonneg ha0
  have e2 : Int.tmod a 4 = a % 4 := Int.tmod_eq_emod_of_nonneg ha0
  have hcs' : Hid (chunksI n size = max 1 (a / 4 + min 1 (a % 4))) := h_ (by
   rw [hcs]
   split
   ·omega
   ·split <;> omega)
  have hw1 : IntKind.i64.wrap (a / 4) = a / 4 := by rw [IntKind.wrap_i64]; omega
  have hw2 : IntKind.i64.wrap (a % 4) = a % 4 := by rw [IntKind.wrap_i64]; omega
  have hw3 : IntKind.i64.wrap (a / 4 + min 1 (a % 4)) = a / 4 + min 1 (a % 4) := by rw [IntKind.wrap_i64]; omega
  clear hcs
  go_enter Tryz.func31, Tryz.ntmps31
  go_wp2_with fail
  refine hB'.out.mono ?_
  rintro e w2 ⟨rfl, rfl⟩
  go_wp2_with fail
  refine wp_region_quiet (C := fun w' => Kept (fun _ => False) w w') (by kernel_rfl) (by kernel_rfl) (Kept.refl _ _).drew ?_
  simp only []
  refine wpQuiet_step (fun K hK => ?_); go_simp; refine ⟨_, fun _ _ => rfl, hK _ ?_⟩; clear hK K
  refine wpQuiet_step (fun K hK => ?_); go_simp; refine ⟨_, fun _ _ => rfl, hK _ ?_⟩; clear hK K
  refine wpQuiet_step (fun K hK => ?_); go_simp; refine ⟨_, fun _ _ => rfl, hK _ ?_⟩; clear hK K
  refine wpQuiet_step (fun K hK => ?_); go_simp; refine ⟨_, fun _ _ => rfl, hK _ ?_⟩; clear hK K
  refine wpQuiet_step (fun K hK => ?_); go_simp; refine ⟨_, fun _ _ => rfl, hK _ ?_⟩; clear hK K
  refine wpQuiet_step (fun K hK => ?_); go_simp; refine ⟨_, fun _ _ => rfl, hK _ ?_⟩; clear hK K
  refine wpQuiet_step (fun K hK => ?_); go_simp; refine ⟨_, fun _ _ => rfl, hK _ ?_⟩; clear hK K
  refine wpQuiet_step (fun K hK => ?_); go_simp; refine ⟨_, fun _ _ => rfl, hK _ ?_⟩; clear hK K
  refine wpQuiet_step (fun K hK => ?_); go_simp; refine ⟨_, fun _ _ => rfl, hK _ ?_⟩; clear hK K
  refine wpQuiet_step (fun K hK => ?_); go_simp; refine ⟨_, fun _ _ => rfl, hK _ ?_⟩; clear hK K
  refine wpQuiet_step (fun K hK => ?_); go_simp; refine ⟨_, fun _ _ => rfl, hK _ ?_⟩; clear hK K
  refine wpQuiet_step (fun K hK => ?_); go_simp; refine ⟨_, fun _ _ => rfl, hK _ ?_⟩; clear hK K
  refine wpQuiet_nil ?_
  intro wq hwq
  all_goals go_wp2_with fail
  all_goals (try go_ret)
  all_goals refine ⟨(congrArg (fun z : Int => Ending.returned (Value.int .i64 z)) (?_ : _ = max 1 (a / 4 + min 1 (a % 4)))).trans (by rw [hcs'.out]), hwq⟩
  all_goals
   rcases Int.lt_or_le 0 n with hn | hn
   ·have e1n := Int.tdiv_eq_ediv_of_nonneg (b := 4) (Int.le_of_lt hn)
    have e2n := Int.tmod_eq_emod_of_nonneg (b := 4) (Int.le_of_lt hn)
    try simp only [if_pos hn, e1n, e2n, IntKind.wrap_i64] at *
    omega
   ·try simp only [if_neg (Int.not_lt.mpr hn), Int.zero_tdiv, Int.zero_tmod, IntKind.wrap_i64] at *
    omega
end Go.Proofs.YtidlchciehdefaaGreat
/-
 Layer 17: slices.Chunk at items.
-/
namespace Go.Proofs.YtidlchciehdefaaGreat
open Go.RowKit Go.Shelf
attribute [local go_sem] Oper.semAt_some

def chEnc (b off len s : Nat) (x : Nat) : Array Value := #[.slice (some ⟨b, off + x * s * 18, none⟩) (min s (len - x * s)) (min s (len - x * s))]
def KpC (Bs Bn : Nat) (A B : World) : Prop := B.cell? ⟨Bs, 0, none⟩ = A.cell? ⟨Bs, 0, none⟩ ∧ B.cell? ⟨Bn, 0, none⟩ = A.cell? ⟨Bn, 0, none⟩
set_option maxRecDepth 100000 in
set_option maxHeartbeats 4000000 in
theorem chunk1_in (F : Fence) (n : Nat) (h8 : F.fn 110) (hro : F.round = none) (hn : 1 ≤ n) (l Bs Bn b off len cap s : Nat) (A : Option Addr) (hA : 0 < len → A = some ⟨b, off, none⟩) (hs : 1 ≤ s) (hs4 : s ≤ 4) (hlen : len ≤ 1000) (hc1 : len ≤ cap) (hc2 : cap ≤ 9223372036854775807) (J Jx : List Nat → World → Prop) (hAb : ∀ pre A, J pre A → J pre A.drew)
  (hY : ∀ pre x W, J pre W → pre.length < len → YieldAt F (n - 1) Tryz.prog l (chEnc b off len s x) W fun e W' =>
   (e = .returned (.bool true) ∧ J (pre ++ [x]) W' ∧ KpC Bs Bn W W') ∨ (e = .returned (.bool false) ∧ Jx (pre ++ [x]) W'))
  (W : World) (hBs : W.cell? ⟨Bs, 0, none⟩ = some (.slice A len cap)) (hBn : W.cell? ⟨Bn, 0, none⟩ = some (.int .i64 s)) (h0 : J [] W) :
  CallsIn F n Tryz.prog 110 #[.func (.yield l) #[] #[], .pointer (some ⟨Bs, 0, none⟩), .pointer (some ⟨Bn, 0, none⟩)] W fun e W' => (∃ v, e = .returned v) ∧
   ((∃ ys, (∃ N, len ≤ N * s ∧ ys = List.range N) ∧ J ys W') ∨ (∃ pre, (∃ N, pre = List.range N) ∧ Jx pre W')) := by
 have hY' := h_ hY
 have hA' := h_ hA
 clear hA
 have hAb' := h_ hAb
 have h0' := h_ h0
 clear hY h0 hAb
 refine callsIn_of_wp Tryz.func110 rfl h8 ?_ hro
 simp only [Tryz.ntmps110, List.size_toArray, List.length_cons, List.length_nil, Nat.reduceAdd, Nat.reduceSub, Array.replicate_succ, Array.replicate_zero, List.push_toArray, List.append_toArray, List.nil_append, List.cons_append]
 have I0 : Hid (W.cell? ⟨Bs, 0, none⟩ = some (.slice A len cap) ∧ W.cell? ⟨Bn, 0, none⟩ = some (.int .i64 s) ∧ J (List.range 0) W) := h_ ⟨hBs, hBn, h0'.out⟩
 clear hBs hBn
 gi_wp2
 gi_loopw [4] (fun i wr => ∃ (j p : Nat), Hid (p = j * s ∧ p < len + s) ∧ i = .int .i64 p ∧ Hid (wr.cell? ⟨Bs, 0, none⟩ = some (.slice A len cap) ∧ wr.cell? ⟨Bn, 0, none⟩ = some (.int .i64 s) ∧ J (List.range j) wr)) (fun i _ => 2000 - (intOf i).toNat)
 case atStart => exact ⟨0, 0, h_ ⟨by omega, by omega⟩, rfl, I0⟩
 case round =>
  obtain ⟨j, p, hp, rfl, hI⟩ := hrel
  by_cases hlt : p < len
  ·obtain rfl := hA'.out (by omega)
   have c1 := hI.out.1
   have c2 := hI.out.2.1
   have hpi : (p : Int) < (len : Int) := by omega
   have hjl : j < len := by
    have h1 := hp.out.1
    have h2 : j ≤ j * s := Nat.le_mul_of_pos_right j (by omega)
    omega
   by_cases hsl : s ≤ len - p
   ·have hslI : (s : Int) ≤ ((len - p : Nat) : Int) := by omega
    have hq : min s (len - p) = s := by omega
    have hws : IntKind.i64.wrap ((p : Int) + (s : Int)) = (p : Int) + (s : Int) := by rw [IntKind.wrap_i64]; omega
    have hwp : IntKind.i64.wrap ((p : Int) + ((s : Nat) : Int)) = (p : Int) + ((s : Nat) : Int) := by rw [IntKind.wrap_i64]; omega
    have htn : ((p : Int) + ((s : Nat) : Int)).toNat - p = s := by omega
    have hpq1 : (p : Int) ≤ (p : Int) + ((s : Nat) : Int) := by omega
    have hpq2 : (p : Int) + ((s : Nat) : Int) ≤ (cap : Int) := by omega
    have hen : chEnc b off len s j = #[.slice (some ⟨b, off + p * 18, none⟩) (s) (s)] := by unfold chEnc; rw [← hp.out.1, hq]
    have hen' := h_ hen
    clear hen hq
    gi_wp2
    gi_region
    all_goals first
     | (exfalso; omega)
     | skip
    all_goals
     obtain ⟨wd, hwd⟩ : ∃ wd, wr.drew = wd := ⟨_, rfl⟩
     have c1d : wd.cell? ⟨Bs, 0, none⟩ = some (.slice (some ⟨b, off, none⟩) len cap) := by rw [← hwd]; exact c1
     have c2d : wd.cell? ⟨Bn, 0, none⟩ = some (.int .i64 s) := by rw [← hwd]; exact c2
     have hJd : J (List.range j) wd := by rw [← hwd]; exact hAb'.out _ _ hI.out.2.2
     rw [hwd]
     have hYj := hY'.out (List.range j) j wd hJd (by rw [List.length_range]; exact hjl)
     rw [hen'.out] at hYj
     obtain ⟨fn, tmps, assign, body, hy, hR⟩ := hYj
     have hR' := h_ hR
     clear hR hJd hwd
     gi_wp2
     refine hR'.out.mono ?_
     rintro e W3 (⟨rfl, hJ3, hk3⟩ | ⟨rfl, hJx3⟩)
     ·have e1 : W3.cell? ⟨Bs, 0, none⟩ = some (.slice (some ⟨b, off, none⟩) len cap) := hk3.1.trans c1d
      have e2 : W3.cell? ⟨Bn, 0, none⟩ = some (.int .i64 s) := hk3.2.trans c2d
      have fin : Hid (W3.cell? ⟨Bs, 0, none⟩ = some (.slice (some ⟨b, off, none⟩) len cap) ∧ W3.cell? ⟨Bn, 0, none⟩ = some (.int .i64 s) ∧ J (List.range (j + 1)) W3) := h_ ⟨e1, e2, by rw [List.range_succ]; exact hJ3⟩
      have fin2 : Hid (p + s = (j + 1) * s ∧ p + s < len + s) := h_ ⟨by have := hp.out.1; rw [Nat.add_mul, Nat.one_mul]; omega, by omega⟩
      clear hJ3 hk3
      gi_wp2
      go_roundw
      case rel => exact ⟨j + 1, p + s, fin2, by go_num, fin⟩
      case measure => simp [intOf]; omega
     ·have fin : Hid (Jx (List.range (j + 1)) W3) := h_ (by rw [List.range_succ]; exact hJx3)
      clear hJx3
      gi_wp2
      refine bodyPost_ret (results_none rfl _ _ _) rfl ?_
      exact ⟨⟨_, rfl⟩, .inr ⟨_, ⟨j + 1, rfl⟩, fin.out⟩⟩
   ·have hslI : ¬ ((s : Int) ≤ ((len - p : Nat) : Int)) := by omega
    have hq : min s (len - p) = len - p := by omega
    have hws : IntKind.i64.wrap ((p : Int) + (s : Int)) = (p : Int) + (s : Int) := by rw [IntKind.wrap_i64]; omega
    have hwp : IntKind.i64.wrap ((p : Int) + ((len - p : Nat) : Int)) = (p : Int) + ((len - p : Nat) : Int) := by rw [IntKind.wrap_i64]; omega
    have htn : ((p : Int) + ((len - p : Nat) : Int)).toNat - p = len - p := by omega
    have hpq1 : (p : Int) ≤ (p : Int) + ((len - p : Nat) : Int) := by omega
    have hpq2 : (p : Int) + ((len - p : Nat) : Int) ≤ (cap : Int) := by omega
    have hen : chEnc b off len s j = #[.slice (some ⟨b, off + p * 18, none⟩) (len - p) (len - p)] := by unfold chEnc; rw [← hp.out.1, hq]
    have hen' := h_ hen
    clear hen hq
    gi_wp2
    gi_region
    all_goals first
     | (exfalso; omega)
     | skip
    all_goals
     obtain ⟨wd, hwd⟩ : ∃ wd, wr.drew = wd := ⟨_, rfl⟩
     have c1d : wd.cell? ⟨Bs, 0, none⟩ = some (.slice (some ⟨b, off, none⟩) len cap) := by rw [← hwd]; exact c1
     have c2d : wd.cell? ⟨Bn, 0, none⟩ = some (.int .i64 s) := by rw [← hwd]; exact c2
     have hJd : J (List.range j) wd := by rw [← hwd]; exact hAb'.out _ _ hI.out.2.2
     rw [hwd]
     have hYj := hY'.out (List.range j) j wd hJd (by rw [List.length_range]; exact hjl)
     rw [hen'.out] at hYj
     obtain ⟨fn, tmps, assign, body, hy, hR⟩ := hYj
     have hR' := h_ hR
     clear hR hJd hwd
     gi_wp2
     refine hR'.out.mono ?_
     rintro e W3 (⟨rfl, hJ3, hk3⟩ | ⟨rfl, hJx3⟩)
     ·have e1 : W3.cell? ⟨Bs, 0, none⟩ = some (.slice (some ⟨b, off, none⟩) len cap) := hk3.1.trans c1d
      have e2 : W3.cell? ⟨Bn, 0, none⟩ = some (.int .i64 s) := hk3.2.trans c2d
      have fin : Hid (W3.cell? ⟨Bs, 0, none⟩ = some (.slice (some ⟨b, off, none⟩) len cap) ∧ W3.cell? ⟨Bn, 0, none⟩ = some (.int .i64 s) ∧ J (List.range (j + 1)) W3) := h_ ⟨e1, e2, by rw [List.range_succ]; exact hJ3⟩
      have fin2 : Hid (p + s = (j + 1) * s ∧ p + s < len + s) := h_ ⟨by have := hp.out.1; rw [Nat.add_mul, Nat.one_mul]; omega, by omega⟩
      clear hJ3 hk3
      gi_wp2
      go_roundw
      case rel => exact ⟨j + 1, p + s, fin2, by go_num, fin⟩
      case measure => simp [intOf]; omega
     ·have fin : Hid (Jx (List.range (j + 1)) W3) := h_ (by rw [List.range_succ]; exact hJx3)
      clear hJx3
      gi_wp2
      refine bodyPost_ret (results_none rfl _ _ _) rfl ?_
      exact ⟨⟨_, rfl⟩, .inr ⟨_, ⟨j + 1, rfl⟩, fin.out⟩⟩
  ·have hpi : ¬ ((p : Int) < (len : Int)) := by omega
   have c1 := hI.out.1
   have c2 := hI.out.2.1
   gi_wp2
   go_end0
   exact ⟨⟨_, rfl⟩, .inl ⟨List.range j, ⟨j, by have := hp.out.1; omega, rfl⟩, hI.out.2.2⟩⟩
end Go.Proofs.YtidlchciehdefaaGreat
/-
 The document's images (understudyref13): There, Write.
-/
namespace Go.Proofs.YtidlchciehdefaaGreat
open Go.RowKit
set_option maxRecDepth 100000

theorem img_zero : (Tryz.prog.info? 37).map (·.zero) = some (some (.agg (List.replicate 1024 (Value.int .u8 0)).toArray)) := by kernel_rfl

structure ClSt (w : World) (mb rb : Nat) (f : Int → List Nat) (wr : World) : Prop where
 box : wr.heap[mb]? = some (.cells (imgCells f).toArray 37 (0, 0))
 res : wr.heap[rb]? = some (.cells (List.replicate 1024 (Value.int .u8 0)).toArray 37 (0, 0))
 kept : Kept (fun _ => False) w wr
theorem exec_blk_neq {o : Oper} {a : Act} {w : World} {u : TypeId} (x y : Operand) (ho : o.op = .binOp .neq 35 x y u) {l m : List Nat} (hl : l.length = 16) (hm : m.length = 16) (hx : a.eval x = .agg (blockCells l).toArray) (hy : a.eval y = .agg (blockCells m).toArray) :
  (execOp a.eval o).run Tryz.prog w = .ok (.value (.bool (!decide (l = m)))) w := by
 rw [← blk_all hl hm]
 exact exec_neq_arr ho (fun i => ((l.getD i 0 : Nat) : Int)) (fun i => ((m.getD i 0 : Nat) : Int)) hx hy (by kernel_rfl) Tryz.underlying35 Tryz.underlying5 (by kernel_rfl)
set_option maxHeartbeats 4000000 in
theorem ref13Same {w : World} {f : Int → List Nat} (hB : Bytes f) {gb : Nat} (hg : w.heap[gb]? = some (.cells (imgCells f).toArray 35 (0, 0))) :
  Calls Tryz.prog 45 #[.slice (some ⟨gb, 0, none⟩) 64 64, .agg (imgCells f).toArray] w fun e w' => e = .returned (.bool true) ∧ Kept (fun _ => False) w w' := by
 obtain ⟨I, hI⟩ : ∃ I, imgCells f = I := ⟨_, rfl⟩
 have hIl : Hid (I.length = 1024) := h_ (by rw [← hI]; exact imgCells_len hB)
 have hgI : Hid (w.heap[gb]? = some (.cells I.toArray 35 (0, 0))) := h_ (by rw [← hI]; exact hg)
 obtain ⟨mb, hmb⟩ : ∃ mb, w.heap.size = mb := ⟨_, rfl⟩
 obtain ⟨w1, hw1⟩ : ∃ w1, w.alloc (.cells I.toArray 37) = w1 := ⟨_, rfl⟩
 have k1 : Kept (fun _ => False) w w1 := by rw [← hw1]; exact (Kept.refl _ _).alloc _
 have q1 := h_ (show w1.heap[mb]? = some (.cells I.toArray 37 (0, 0)) by rw [← hw1, ← hmb]; exact heap_alloc_new _ _)
 have q2 := h_ (k1.get hgI.out id)
 have k1' := h_ k1
 have hw1' := h_ hw1
 have hmb' := h_ hmb
 have hI' := h_ hI
 have hB' := h_ hB
 have hrow : Hid (∀ k : Nat, k < 64 → ∀ j v, (blockCells (f (k : Int)))[j]? = some v → I[k * 16 + j]? = some v) := h_ (fun k hk j v hj => by
  have hj16 : j < 16 := by
   have := (List.getElem?_eq_some_iff.1 hj).1
   rwa [blockCells_len] at this
  rw [← hI, imgCells_get hB hk hj16, ← blockCells_eq _ (hB.len _)]
  exact hj)
 rw [hI]
 clear hw1 hmb k1 hI hB hg
 go_enter Tryz.func45, Tryz.ntmps45
 go_wp2_with (first | (refine wpList_box_named 37 rfl rfl _ rfl hw1'.out ?_; rw [hmb'.out]))
 go_loopw [11] (fun i wr => ∃ (k : Nat), k ≤ 64 ∧ i = .int .i64 k ∧ Hid (Kept (fun _ => False) w1 wr)) (fun i _ => 64 - (intOf i).toNat)
 case atStart => exact ⟨0, by omega, rfl, h_ (Kept.refl _ _)⟩
 case round =>
  obtain ⟨k, hk, rfl, hK'⟩ := hrel
  by_cases hlt : k < 64
  ·have hki : (k : Int) < 64 := by omega
   obtain ⟨C, hC⟩ : ∃ C, blockCells (f (k : Int)) = C := ⟨_, rfl⟩
   have hCl : Hid (C.length = 16) := h_ (by rw [← hC]; exact blockCells_len _)
   have hr := hrow.out k hlt
   rw [hC] at hr
   have hr' := h_ hr
   have hix : Hid (∀ (o : Oper) (a : Act) (w : World), o.op = .indexAddr 37 (.tmp 3) (.tmp 18) → a.eval (.tmp 3) = .pointer (some ⟨mb, 0, none⟩) → a.eval (.tmp 18) = .int .i64 (k : Int) → (execOp a.eval o).run Tryz.prog w = .ok (.value (.pointer (some ⟨mb, 0 + k * 16, none⟩))) w) := h_ (fun o a w ho h7 h72 => by
    unfold execOp
    simp only [ho, h7, h72]
    go_simp)
   have hiy : Hid (∀ (o : Oper) (a : Act) (w : World), o.op = .indexAddr 73 (.tmp 14) (.tmp 15) → a.eval (.tmp 14) = .slice (some ⟨gb, 0, none⟩) 64 64 → a.eval (.tmp 15) = .int .i64 (k : Int) → (execOp a.eval o).run Tryz.prog w = .ok (.value (.pointer (some ⟨gb, 0 + k * 16, none⟩))) w) := h_ (fun o a w ho h7 h72 => by
    unfold execOp
    simp only [ho, h7, h72]
    go_simp)
   have hqC : Hid (∀ (o : Oper) (a : Act) (w : World) (x y : Operand) (u : TypeId), o.op = .binOp .neq 35 x y u → a.eval x = .agg C.toArray → a.eval y = .agg C.toArray → (execOp a.eval o).run Tryz.prog w = .ok (.value (.bool false)) w) := h_ (fun o a w x y u ho hx hy => by
    have := exec_blk_neq (w := w) x y ho (hB'.out.len (k : Int)) (hB'.out.len (k : Int)) (by rw [hC]; exact hx) (by rw [hC]; exact hy)
    rw [decide_eq_true rfl] at this
    exact this)
   clear hr hC
   go_wp2_with fail
   refine wp_region_quiet (C := fun w' => Kept (fun _ => False) wr w') (by kernel_rfl) (by kernel_rfl) (Kept.refl _ _).drew ?_
   simp only []
   refine wpQuiet_step (fun K hK => ?_); go_simp; refine ⟨_, fun _ _ => rfl, hK _ ?_⟩; clear hK K
   refine wpQuiet_step (fun K hK => ?_); go_simp; refine ⟨_, fun _ _ => rfl, hK _ ?_⟩; clear hK K
   refine wpQuiet_step (fun K hK => ?_); refine q_on rfl (q_val (.pointer (some ⟨gb, 0 + k * 16, none⟩)) (fun W hW => hiy.out _ _ W rfl (by rfl) (by rfl)) (hK _ ?_)); clear hK K
   refine wpQuiet_step (fun K hK => ?_); refine q_on rfl (q_val (.agg C.toArray) (fun W hW => exec_load_agg (g := gb) (off := 0 + k * 16) rfl (by rfl) C Tryz.underlying35 rfl (by rw [hCl.out]; exact block_size) (fun j v hj => by rw [Nat.zero_add, cell_of_heap ((hK'.out.trans hW).get q2.out id)]; simpa using hr'.out j v hj)) (hK _ ?_)); clear hK K
   refine wpQuiet_step (fun K hK => ?_); go_simp; refine ⟨_, fun _ _ => rfl, hK _ ?_⟩; clear hK K
   refine wpQuiet_step (fun K hK => ?_); refine q_on rfl (q_val (.pointer (some ⟨mb, 0 + k * 16, none⟩)) (fun W hW => hix.out _ _ W rfl (by rfl) (by rfl)) (hK _ ?_)); clear hK K
   refine wpQuiet_step (fun K hK => ?_); refine q_on rfl (q_val (.agg C.toArray) (fun W hW => exec_load_agg (g := mb) (off := 0 + k * 16) rfl (by rfl) C Tryz.underlying35 rfl (by rw [hCl.out]; exact block_size) (fun j v hj => by rw [Nat.zero_add, cell_of_heap ((hK'.out.trans hW).get q1.out id)]; simpa using hr'.out j v hj)) (hK _ ?_)); clear hK K
   refine wpQuiet_step (fun K hK => ?_); refine q_on rfl (q_val (.bool false) (fun W hW => hqC.out _ _ W (.tmp 17) (.tmp 20) _ rfl (by rfl) (by rfl)) (hK _ ?_)); clear hK K
   refine wpQuiet_nil ?_
   intro wq hwq
   have fin := h_ (hK'.out.trans hwq)
   clear hwq
   go_wp2_with fail
   go_roundw
   case rel => exact ⟨k + 1, by omega, by go_num, fin⟩
   case measure => simp [intOf]; omega
  ·obtain rfl : k = 64 := by omega
   go_wp2_with fail
   go_ret
   exact ⟨rfl, k1'.out.trans hK'.out⟩

end Go.Proofs.YtidlchciehdefaaGreat
/-
 ImageReads: the walk.
-/
namespace Go.Proofs.YtidlchciehdefaaGreat
open Go.RowKit
set_option maxRecDepth 100000

structure Apart (wr : World) (A : SA) (b : Nat) : Prop where
 lt : b < wr.heap.size
 off : ¬ A.own b
theorem own_to {A A' : SA} {M' : SM} {W w' : World} (k : StoreTo A A' M' W w') {j : Nat} (hj : A'.own j) : A.own j ∨ W.heap.size ≤ j := by
 rcases hj with hj | hj | hj
 ·exact (k.foot j hj).imp .inl id
 ·rw [k.fix.2] at hj; exact .inl (.inr (.inl hj))
 ·rw [k.fix.1] at hj; exact .inl (.inr (.inr hj))
theorem Apart.fresh {wr w' : World} {A : SA} {b : Nat} (h : Apart wr A b) (k : Kept (fun _ => False) wr w') : Apart w' A b := ⟨Nat.lt_of_lt_of_le h.lt k.size, h.off⟩
theorem Apart.to {wr w' : World} {A A' : SA} {M' : SM} {b : Nat} (h : Apart wr A b) (k : StoreTo A A' M' wr w') : Apart w' A' b := ⟨Nat.lt_of_lt_of_le h.lt k.kept.size, fun e => (own_to k e).elim h.off (fun e => by have := h.lt; omega)⟩
theorem Apart.safe {wr : World} {A : SA} {b : Nat} (h : Apart wr A b) : Safe wr A b := ⟨h.lt, fun e => h.off (.inl e)⟩
theorem Apart.new {wr w' : World} {A : SA} {M : SM} {b : Nat} (h : StoreAt wr A M) (hb : wr.heap.size ≤ b) (hl : b < w'.heap.size) : Apart w' A b := ⟨hl, fun e => absurd (h.lt e) (Nat.not_lt.2 hb)⟩
theorem Apart.kept {S : Nat → Prop} {wr w' : World} {A : SA} {b : Nat} (h : Apart wr A b) (k : Kept S wr w') : Apart w' A b := ⟨Nat.lt_of_lt_of_le h.lt k.size, h.off⟩
theorem OwnStore.apart {w wr w' : World} {A : SA} {M : SM} {b : Nat} (h : OwnStore w A M wr) (hb : Apart wr A b) (hn : w.heap.size ≤ b) (k : Kept (fun j => j = b) wr w') : OwnStore w A M w' :=
 ⟨h.store.kept k (fun i hi e => hb.off (e ▸ hi)), h.kept.trans_new k (fun i hi e => by omega), h.new⟩
theorem ImVar.kept {S : Nat → Prop} {wr w' : World} {A : SA} {b sb : Nat} (h : ImVar wr A b sb) (k : Kept S wr w') (hb : ¬ S b) : ImVar w' A b sb := ⟨k.get h.heap hb, ⟨Nat.lt_of_lt_of_le h.safe.lt k.size, h.safe.off⟩, h.eq⟩
structure ImgBox (wr : World) (A : SA) (b : Nat) (f : Int → List Nat) : Prop where
 heap : wr.heap[b]? = some (.cells (imgCells f).toArray 37 (0, 0))
 apart : Apart wr A b
theorem ImgBox.fresh {wr w' : World} {A : SA} {b : Nat} {f : Int → List Nat} (h : ImgBox wr A b f) (k : Kept (fun _ => False) wr w') : ImgBox w' A b f := ⟨k.get h.heap id, h.apart.fresh k⟩
theorem ImgBox.to {wr w' : World} {A A' : SA} {M' : SM} {b : Nat} {f : Int → List Nat} (h : ImgBox wr A b f) (k : StoreTo A A' M' wr w') : ImgBox w' A' b f := ⟨k.get h.heap h.apart.safe, h.apart.to k⟩
theorem ImgBox.load {wr : World} {A : SA} {b : Nat} {f : Int → List Nat} (h : ImgBox wr A b f) : ∀ j v, (imgCells f)[j]? = some v → wr.cell? ⟨b, 0 + j, none⟩ = some v := fun j v hj => by rw [Nat.zero_add, cell_of_heap h.heap]; simpa using hj
theorem ImgBox.row {wr : World} {A : SA} {b : Nat} {f : Int → List Nat} (h : ImgBox wr A b f) (hB : Bytes f) {k : Nat} (hk : k < 64) : ∀ j v, (blockCells (f (k : Int)))[j]? = some v → wr.cell? ⟨b, 0 + k * 16 + j, none⟩ = some v := fun j v hj => by
 have hj16 : j < 16 := by
  have := (List.getElem?_eq_some_iff.1 hj).1
  rwa [blockCells_len] at this
 rw [Nat.zero_add]
 refine (show _ = _ from ?_)
 rw [cell_of_heap h.heap]
 have := imgCells_get hB hk hj16
 rw [← blockCells_eq _ (hB.len _), hj] at this
 simpa using this
theorem ImgBox.set {wr : World} {A : SA} {b : Nat} {f g : Int → List Nat} (h : ImgBox wr A b f) : ImgBox (wr.setRow b (imgCells g).toArray) A b g := ⟨setRow_heap _ _ _ _ _ _ h.heap, h.apart.kept (Kept.setRow (S := fun j => j = b) (Kept.refl _ _) rfl _)⟩
namespace imageReads
structure ReadSt (w1 : World) (b sb vb : Nat) (root : Int) (k : Nat) (wr : World) (A : SA) (M : SM) (i : IM) : Prop where
 own : OwnStore w1 A M wr
 iv : ImVar wr A b sb
 img : Imgs 1 M [i]
 gone : Gone M.pool.size [] M
 size : M.pool.size = 240
 bytes : Bytes i.w
 box : ImgBox wr A vb i.w
 root : i.root = root
 puts : i.P ≤ k
 log : M.log.length ≤ 23 * k
theorem ReadSt.fresh {w1 wr w' : World} {b sb vb : Nat} {root : Int} {k : Nat} {A : SA} {M : SM} {i : IM} (h : ReadSt w1 b sb vb root k wr A M i) (q : Kept (fun _ => False) wr w') : ReadSt w1 b sb vb root k w' A M i :=
 ⟨h.own.fresh q, h.iv.fresh q, h.img, h.gone, h.size, h.bytes, h.box.fresh q, h.root, h.puts, h.log⟩
theorem ReadSt.more {w1 wr : World} {b sb vb : Nat} {root : Int} {k : Nat} {A : SA} {M : SM} {i : IM} (h : ReadSt w1 b sb vb root k wr A M i) : ReadSt w1 b sb vb root (k + 1) wr A M i :=
 ⟨h.own, h.iv, h.img, h.gone, h.size, h.bytes, h.box, h.root, Nat.le_succ_of_le h.puts, by have := h.log; omega⟩
end imageReads
end Go.Proofs.YtidlchciehdefaaGreat
