/-
 What pages of the pool hold (package leaf): which nodes can be.
-/
import Derived.Test.YtdcnogjbmdhgaaaK06
import Derived.Test.YtdcnogjbmdhgaaaK09
import Derived.Test.YtdcnogjbmdhgaaaK11
set_option linter.unusedVariables false
set_option linter.unusedSimpArgs false
namespace Go.Proofs.Ytdcnogjbmdhgaaa
open Go.RowKit
set_option maxRecDepth 100000

def entCells (l : List (Int × Int)) : List Value := l.flatMap fun x => [.int .i64 x.1, .int .i64 x.2]
theorem entCells_len (l : List (Int × Int)) : (entCells l).length = l.length * 2 := by
 induction l with
 | nil => rfl
 | cons x l ih => simp [entCells] at ih ⊢; omega
theorem entCells_append (a b : List (Int × Int)) : entCells (a ++ b) = entCells a ++ entCells b := by simp [entCells]
theorem entCells_get (l : List (Int × Int)) (i : Nat) (x : Int × Int) (h : l[i]? = some x) : (entCells l)[i * 2]? = some (.int .i64 x.1) ∧ (entCells l)[i * 2 + 1]? = some (.int .i64 x.2) := by
 induction l generalizing i with
 | nil => simp at h
 | cons y l ih =>
  rw [show entCells (y :: l) = .int .i64 y.1 :: .int .i64 y.2 :: entCells l from rfl]
  cases i with
  | zero => simp at h; subst h; simp
  | succ i =>
   have := ih i (by simpa using h)
   rw [show (i + 1) * 2 = i * 2 + 1 + 1 by omega, show i * 2 + 1 + 1 + 1 = i * 2 + 1 + 1 + 1 from rfl]
   simpa using this
theorem entCells_one (l : List (Int × Int)) : ∀ v ∈ entCells l, v.oneCell' = true := by
 intro v hv
 simp only [entCells, List.mem_flatMap] at hv
 obtain ⟨x, _, hv⟩ := hv
 simp at hv
 rcases hv with rfl | rfl <;> rfl
def EntsAt (w : World) (v : Value) (l : List (Int × Int)) : Prop := SliceAt w v 2 l.length (entCells l)
theorem EntsAt.get {w : World} {A : Option Addr} {n cap : Nat} {l : List (Int × Int)} (h : EntsAt w (.slice A n cap) l) {i : Nat} {x : Int × Int} (hx : l[i]? = some x) :
  ∃ b off, A = some ⟨b, off, none⟩ ∧ b < w.heap.size ∧ w.cell? ⟨b, off + i * 2, none⟩ = some (.int .i64 x.1) ∧ w.cell? ⟨b, off + i * 2 + 1, none⟩ = some (.int .i64 x.2) := by
 have hi : i < l.length := (List.getElem?_eq_some_iff.1 hx).1
 obtain ⟨b, off, hA, hlt, hc⟩ := SliceAt.elem h hi (by omega)
 obtain ⟨h1, h2⟩ := entCells_get l i x hx
 exact ⟨b, off, hA, hlt, by simpa using hc 0 _ (by omega) h1, hc 1 _ (by omega) h2⟩
theorem EntsAt.form {w : World} {v : Value} {l : List (Int × Int)} (h : EntsAt w v l) : ∃ A cap, v = .slice A l.length cap ∧ l.length ≤ cap ∧ cap ≤ maxLen := by
 obtain ⟨_, A, cap, hv, h1, h2, _⟩ := h; exact ⟨A, cap, hv, h1, h2⟩

theorem risesB_bad {l : List (Int × Int)} {k : Nat} (hk : k < l.length) (h : entB l k = false) : risesB l = false := by
 have : (List.range l.length).all (entB l) = false := by
  rw [List.all_eq_false]
  exact ⟨k, List.mem_range.2 hk, by simp [h]⟩
 simp [risesB, this]
theorem risesB_all {l : List (Int × Int)} (h : ∀ i, i < l.length → entB l i = true) : risesB l = (decide (1 ≤ l.length) && decide (l.length ≤ 6)) := by
 have : (List.range l.length).all (entB l) = true := List.all_eq_true.2 fun i hi => h i (List.mem_range.1 hi)
 simp [risesB, this]

set_option maxHeartbeats 2000000 in
theorem rises_any {w : World} {v : Value} {l : List (Int × Int)} (h : EntsAt w v l) :
  Calls Try.prog 73 #[v] w fun e w' => e = .returned (.bool (risesB l)) ∧ Kept (fun _ => False) w w' := by
 obtain ⟨A, cap, rfl, hc1, hc2⟩ := h.form
 unfold maxLen at hc2
 have h' := h_ h; clear h
 have hall := h_ (fun h => risesB_all (l := l) h)
 have hbad := h_ (fun k hk h => risesB_bad (l := l) (k := k) hk h)
 go_enter Try.func73, Try.ntmps73
 go_wp2_with fail
 go_loopw [7] (fun i wr => ∃ k : Nat, k ≤ l.length ∧ i = .int .i64 k ∧ Hid (∀ i, i < k → entB l i = true) ∧ Kept (fun _ => False) w wr) (fun i _ => l.length - (intOf i).toNat)
 case atStart => exact ⟨0, Nat.zero_le _, rfl, h_ (fun i hi => by omega), Kept.refl _ _⟩
 case round =>
  obtain ⟨k, hk, rfl, hpre, hkk⟩ := hrel
  by_cases hlt : k < l.length
  ·obtain ⟨x, hx⟩ : ∃ x, l[k]? = some x := ⟨_, List.getElem?_eq_getElem hlt⟩
   obtain ⟨b, off, rfl, hbl, hx1, hx2⟩ := EntsAt.get (SliceAt.fresh h'.out hkk) hx
   have hkk' := h_ hkk; clear hkk
   have hent : Hid (entB l k = (decide (0 ≤ x.1) && decide (x.1 < 64) && decide (0 ≤ x.2) && decide (x.2 < 240) && (k == 0 || decide ((l.getD (k - 1) (0, 0)).1 < x.1)))) := h_ (by simp [entB, hx])
   have hx' := h_ hx; clear hx
   have hne : b ≠ wr.heap.size := by omega
   by_cases h1 : x.1 < 0
   ·have hb' := h_ (hbad.out k hlt (by rw [hent.out]; simp; omega))
    go_wp2_with fail
    go_quiet (fail)
    go_wp2_with fail
    go_ret
    exact ⟨by rw [hb'.out]; rfl, (hkk'.out.alloc _).drewN _⟩
   have d1 : decide (x.1 < 0) = false := by simpa using h1
   have g1 : 0 ≤ x.1 := by omega
   clear h1
   by_cases h2 : 64 ≤ x.1
   ·have hb' := h_ (hbad.out k hlt (by rw [hent.out]; simp; omega))
    go_wp2_with fail
    go_quiet (fail)
    go_wp2_with fail
    go_ret
    exact ⟨by rw [hb'.out]; rfl, (hkk'.out.alloc _).drewN _⟩
   have d2 : decide (64 ≤ x.1) = false := by simpa using h2
   have g2 : x.1 < 64 := by omega
   clear h2
   by_cases h3 : x.2 < 0
   ·have hb' := h_ (hbad.out k hlt (by rw [hent.out]; simp; omega))
    go_wp2_with fail
    go_quiet (fail)
    go_wp2_with fail
    go_ret
    exact ⟨by rw [hb'.out]; rfl, (hkk'.out.alloc _).drewN _⟩
   have d3 : decide (x.2 < 0) = false := by simpa using h3
   have g3 : 0 ≤ x.2 := by omega
   clear h3
   by_cases h4 : 240 ≤ x.2
   ·have hb' := h_ (hbad.out k hlt (by rw [hent.out]; simp; omega))
    go_wp2_with fail
    go_quiet (fail)
    go_wp2_with fail
    go_ret
    exact ⟨by rw [hb'.out]; rfl, (hkk'.out.alloc _).drewN _⟩
   have d4 : decide (240 ≤ x.2) = false := by simpa using h4
   have g4 : x.2 < 240 := by omega
   clear h4
   have hnext : Hid (entB l k = true → ∀ i, i < k + 1 → entB l i = true) := h_ (fun h i hi => by
    rcases Nat.lt_or_ge i k with h' | h'
    ·exact hpre.out i h'
    ·obtain rfl : i = k := by omega
     exact h)
   by_cases hk0 : k = 0
   ·have hn := h_ (hnext.out (by rw [hent.out, hk0]; simp; omega))
    have d0 : decide (0 < k) = false := by simp; omega
    clear hk0
    go_wp2_with fail
    go_quiet (fail)
    go_wp2_with fail
    go_roundw
    case rel => exact ⟨k + 1, by omega, by go_num, hn, (hkk'.out.alloc _).drewN _⟩
    case measure => simp [intOf]; omega
   ·obtain ⟨m, rfl⟩ : ∃ m, k = m + 1 := ⟨k - 1, by omega⟩
    obtain ⟨y, hy⟩ : ∃ y, l[m]? = some y := ⟨_, List.getElem?_eq_getElem (by omega)⟩
    obtain ⟨b', off', hA', _, hy1, _⟩ := EntsAt.get (SliceAt.fresh h'.out hkk'.out) hy
    cases hA'
    have hyd : Hid (l.getD (m + 1 - 1) (0, 0) = y) := h_ (by simp [hy])
    clear hy hk0
    by_cases h5 : x.1 ≤ y.1
    ·have hb' := h_ (hbad.out (m + 1) hlt (by rw [hent.out, hyd.out]; simp; omega))
     go_wp2_with fail
     go_quiet (fail)
     go_wp2_with fail
     go_ret
     exact ⟨by rw [hb'.out]; rfl, (hkk'.out.alloc _).drewN _⟩
    ·have d5 : decide (x.1 ≤ y.1) = false := by simpa using h5
     have hn := h_ (hnext.out (by rw [hent.out, hyd.out]; simp; omega))
     clear h5
     go_wp2_with fail
     go_quiet (fail)
     go_wp2_with fail
     go_roundw
     case rel => exact ⟨m + 1 + 1, by omega, by go_num, hn, (hkk'.out.alloc _).drewN _⟩
     case measure => simp [intOf]; omega
  ·obtain rfl : k = l.length := by omega
   have hr := h_ (hall.out hpre.out)
   have hkk' := h_ hkk; clear hkk
   by_cases e1 : 1 ≤ l.length
   ·by_cases e2 : l.length ≤ 6
    ·have er : (decide (1 ≤ l.length) && decide (l.length ≤ 6)) = true := by simp; omega
     have hr' := h_ (hr.out.trans er)
     clear er
     go_wp2_with fail
     go_ret
     exact ⟨by rw [hr'.out]; first | rfl | exact ret_bool (by simp; omega), hkk'.out⟩
    ·have er : (decide (1 ≤ l.length) && decide (l.length ≤ 6)) = false := by simp; omega
     have hr' := h_ (hr.out.trans er)
     clear er
     go_wp2_with fail
     go_ret
     exact ⟨by rw [hr'.out]; first | rfl | exact ret_bool (by simp; omega), hkk'.out⟩
   ·have er : (decide (1 ≤ l.length) && decide (l.length ≤ 6)) = false := by simp; omega
    have hr' := h_ (hr.out.trans er)
    clear er
    go_wp2_with fail
    go_ret
    exact ⟨by rw [hr'.out]; first | rfl | exact ret_bool (by simp; omega), hkk'.out⟩

def blockCells (l : List Nat) : List Value := (List.range 16).map fun i => Value.int .u8 ((l.getD i 0 : Nat) : Int)
theorem blockCells_len (l : List Nat) : (blockCells l).length = 16 := by simp [blockCells]
theorem blockCells_eq (l : List Nat) (h : l.length = 16) : blockCells l = byteCells l := by
  apply List.ext_getElem?
  intro i
  by_cases hi : i < 16
  · simp [blockCells, byteCells, hi, h]
  · simp [blockCells, byteCells, hi, h]
theorem blockCells_one (l : List Nat) : ∀ v ∈ blockCells l, v.oneCell' = true := by
  intro v hv
  simp only [blockCells, List.mem_map] at hv
  obtain ⟨_, _, rfl⟩ := hv
  rfl
def nodeCells (n : NM) (sv : Value) : List Value := .int .i64 n.kind :: (blockCells n.block ++ [sv])
theorem nodeCells_len (n : NM) (sv : Value) : (nodeCells n sv).length = 18 := by simp [nodeCells, blockCells_len]
theorem nodeCells_0 (n : NM) (sv : Value) : (nodeCells n sv)[0]? = some (.int .i64 n.kind) := rfl
theorem nodeCells_block (n : NM) (sv : Value) (j : Nat) (v : Value) (h : (blockCells n.block)[j]? = some v) : (nodeCells n sv)[1 + j]? = some v := by
  have hj : j < 16 := by have := (List.getElem?_eq_some_iff.1 h).1; rwa [blockCells_len] at this
  rw [nodeCells, Nat.add_comm, List.getElem?_cons_succ, List.getElem?_append_left (by rw [blockCells_len]; exact hj)]
  exact h
theorem nodeCells_17 (n : NM) (sv : Value) : (nodeCells n sv)[17]? = some sv := by
  rw [nodeCells, List.getElem?_cons_succ, List.getElem?_append_right (by rw [blockCells_len]; omega), blockCells_len]; rfl
theorem node_size : (Try.prog.info? 71).map (·.size) = some 18 := by kernel_rfl
theorem block_size : (Try.prog.info? 69).map (·.size) = some 16 := by kernel_rfl

structure NodeBox (w : World) (b : Nat) (n : NM) (sv : Value) : Prop where
  heap : w.heap[b]? = some (.cells (nodeCells n sv).toArray 71 (0, 0))
theorem NodeBox.c0 {w : World} {b : Nat} {n : NM} {sv : Value} (h : NodeBox w b n sv) : w.cell? ⟨b, 0, none⟩ = some (.int .i64 n.kind) := by rw [cell_of_heap h.heap]; simpa using nodeCells_0 n sv
theorem NodeBox.c17 {w : World} {b : Nat} {n : NM} {sv : Value} (h : NodeBox w b n sv) : w.cell? ⟨b, 17, none⟩ = some sv := by rw [cell_of_heap h.heap]; simpa using nodeCells_17 n sv
theorem NodeBox.cb {w : World} {b : Nat} {n : NM} {sv : Value} (h : NodeBox w b n sv) : ∀ j v, (blockCells n.block)[j]? = some v → w.cell? ⟨b, 1 + j, none⟩ = some v := fun j v hj => by rw [cell_of_heap h.heap]; simpa using nodeCells_block n sv j v hj
theorem NodeBox.all {w : World} {b : Nat} {n : NM} {sv : Value} (h : NodeBox w b n sv) : ∀ j v, (nodeCells n sv)[j]? = some v → w.cell? ⟨b, 0 + j, none⟩ = some v := fun j v hj => by rw [cell_of_heap h.heap, Nat.zero_add]; simpa using hj

theorem wpList_box_named {P : Program} {ops : Array Oper} {rest : List Oper} {o : Oper} {a : Act} {Q : Exit → Act → World → Prop} {w w1 : World} (ty : TypeId) {x : Operand} (ho : o.op = .box ty x) (hgd : o.guard = none)
    (cs : Array Value) (hx : a.eval x = .agg cs) (hw : w.alloc (.cells cs ty) = w1)
    (h : wpList P ops Q rest (a.put o.dst (.pointer (some ⟨w.heap.size, 0, none⟩))) w1) : wpList P ops Q (o :: rest) a w := by
  subst hw
  exact wpList_box_as ty ho hgd (.agg cs) hx h

def zeroB (l : List Nat) : Bool := (List.range 16).all fun i => ((l.getD i 0 : Nat) : Int) == 0
theorem wpList_eql_block {ops : Array Oper} {rest : List Oper} {o : Oper} {a : Act} {Q : Exit → Act → World → Prop} {w : World} (hgd : o.guard = none) {x y : Operand} {u : TypeId} (ho : o.op = .binOp .eql 69 x y u) (l : List Nat)
    (hx : a.eval x = .agg (blockCells l).toArray) (hy : a.eval y = .agg (blockCells []).toArray) (z : Bool) (hz : zeroB l = z)
    (h : wpList Try.prog ops Q rest (a.put o.dst (.bool z)) w) : wpList Try.prog ops Q (o :: rest) a w := by
  subst hz
  refine wpList_exec hgd (exec_eql_arr ho (fun i => ((l.getD i 0 : Nat) : Int)) (fun _ => 0) hx (hy.trans (by simp [blockCells])) (by kernel_rfl) Try.underlying69 Try.underlying5 (by kernel_rfl)) h

theorem zeroB_all (l : List Nat) (h : l.length = 16) : l.all (· == 0) = zeroB l := by
  rw [Bool.eq_iff_iff]
  unfold zeroB
  simp only [List.all_eq_true, List.mem_range, beq_iff_eq]
  constructor
  · intro hh i hi
    have : l.getD i 0 = l[i]'(by omega) := by simp [h, hi]
    rw [this]
    have := hh (l[i]'(by omega)) (List.getElem_mem _)
    omega
  · intro hh x hx
    obtain ⟨i, hi, rfl⟩ := List.getElem_of_mem hx
    have h1 := hh i (by omega)
    have : l.getD i 0 = l[i] := by simp [hi]
    rw [this] at h1
    omega
set_option maxHeartbeats 1000000 in
theorem right_any {w : World} {n : NM} {sv : Value} (h : EntsAt w sv n.ents) (hb : n.block.length = 16) :
    Calls Try.prog 53 #[.agg (nodeCells n sv).toArray] w fun e w' => e = .returned (.bool n.rightB) ∧ Kept (fun _ => False) w w' := by
  obtain ⟨A, cap, rfl, hc1, hc2⟩ := h.form
  unfold maxLen at hc2
  obtain ⟨w1, hw1⟩ : ∃ w1, w.alloc (.cells (nodeCells n (.slice A n.ents.length cap)).toArray 71) = w1 := ⟨_, rfl⟩
  have hk1 : Hid (Kept (fun _ => False) w w1) := h_ (by rw [← hw1]; exact (Kept.refl _ _).alloc _)
  have hbx : NodeBox w1 w.heap.size n (.slice A n.ents.length cap) := ⟨by rw [← hw1]; exact heap_alloc_new _ _⟩
  have c0 := hbx.c0
  have c17 := hbx.c17
  have cb := h_ hbx.cb
  have hr := h_ (rises_any (SliceAt.fresh h hk1.out))
  have hw1' := h_ hw1; clear hw1 hbx h
  by_cases k1 : n.kind = 1
  · have hR : Hid (n.rightB = (n.ents.length == 0)) := h_ (by unfold NM.rightB; rw [if_pos k1])
    rw [k1] at c0
    clear k1
    go_enter Try.func53, Try.ntmps53
    go_wp2_with (refine wpList_box_named 71 rfl rfl _ rfl hw1'.out ?_)
    go_ret
    refine ⟨?_, hk1.out⟩
    rw [hR.out]
    exact ret_bool (by rw [Bool.eq_iff_iff]; simp)
  · by_cases k2 : n.kind = 2 ∨ n.kind = 3
    · have hR : Hid (n.rightB = (zeroB n.block && risesB n.ents)) := h_ (by unfold NM.rightB; rw [if_neg k1, if_pos k2, zeroB_all _ hb])
      have hR6 : Hid (6 < n.ents.length → risesB n.ents = false) := h_ (fun h6 => by simp [risesB]; omega)
      have hz := h_ (rfl : zeroB n.block = zeroB n.block)
      obtain ⟨z, hz⟩ : ∃ z, zeroB n.block = z := ⟨_, rfl⟩
      rw [hz] at hR
      have hz' := h_ hz; clear hz
      obtain ⟨y, hy⟩ : ∃ y, risesB n.ents = y := ⟨_, rfl⟩
      rw [hy] at hr hR hR6
      clear hy hb
      by_cases h6 : n.ents.length ≤ 6
      · cases z
        all_goals
          rcases k2 with k2 | k2
          all_goals
            rw [k2] at c0
            clear k1 k2
            go_enter Try.func53, Try.ntmps53
            go_wp2_with (first | (refine wpList_box_named 71 rfl rfl _ rfl hw1'.out ?_) | (refine wpList_load_agg 69 rfl rfl rfl _ Try.underlying69 rfl (blockCells n.block) (by rw [blockCells_len]; exact block_size) cb.out ?_) | (refine wpList_eql_block rfl rfl n.block (by rfl) (by rfl) _ hz'.out ?_))
            first
            | (refine hr.out.mono ?_
               rintro e w2 ⟨rfl, hk2⟩
               have hk2' := h_ hk2; clear hk2
               go_wp2_with fail
               go_ret
               exact ⟨by rw [hR.out]; first | rfl | exact ret_bool (by simp), hk1.out.trans hk2'.out⟩)
            | (go_ret
               exact ⟨by rw [hR.out]; first | rfl | exact ret_bool (by simp), hk1.out⟩)
      · have h6' : decide (n.ents.length ≤ 6) = false := by simpa using h6
        have h6'' : decide ((n.ents.length : Int) ≤ 6) = false := by simp; omega
        have h6i : (6 : Int) < (n.ents.length : Int) := by omega
        have hy := hR6.out (by omega)
        subst hy
        clear h6
        cases z
        all_goals
          rcases k2 with k2 | k2
          all_goals
            rw [k2] at c0
            clear k1 k2
            go_enter Try.func53, Try.ntmps53
            go_wp2_with (first | (refine wpList_box_named 71 rfl rfl _ rfl hw1'.out ?_) | (refine wpList_load_agg 69 rfl rfl rfl _ Try.underlying69 rfl (blockCells n.block) (by rw [blockCells_len]; exact block_size) cb.out ?_) | (refine wpList_eql_block rfl rfl n.block (by rfl) (by rfl) _ hz'.out ?_))
            go_ret
            exact ⟨by rw [hR.out]; first | rfl | exact ret_bool (by simp), hk1.out⟩
    · have hR : Hid (n.rightB = false) := h_ (by unfold NM.rightB; rw [if_neg k1, if_neg k2])
      have n1 : (n.kind == 1) = false := by simpa using k1
      have n2 : (n.kind == 2) = false := by simp; omega
      have n3 : (n.kind == 3) = false := by simp; omega
      clear k1 k2
      go_enter Try.func53, Try.ntmps53
      go_wp2_with (refine wpList_box_named 71 rfl rfl _ rfl hw1'.out ?_)
      go_ret
      exact ⟨by rw [hR.out]; rfl, hk1.out⟩

def pageCellsOf (l : List (Int × Int)) : List Value := l.map fun x => .int .i64 x.2
theorem pageCellsOf_take (l : List (Int × Int)) (k : Nat) (x : Int × Int) (h : l[k]? = some x) : pageCellsOf (l.take (k + 1)) = pageCellsOf (l.take k) ++ [.int .i64 x.2] := by
 unfold pageCellsOf
 rw [List.take_add_one, h]; simp

set_option maxHeartbeats 1000000 in
theorem children_any {w : World} {n : NM} {sv : Value} (h : EntsAt w sv n.ents) (hlen : n.ents.length ≤ 1000) :
  Calls Try.prog 37 #[.agg (nodeCells n sv).toArray] w fun e w' => ∃ u, e = .returned u ∧ w'.ownsRow w.heap.size 3 1 u n.ents.length (pageCellsOf n.ents) ∧ Kept (fun _ => False) w w' := by
 obtain ⟨A, cap, rfl, hc1, hc2⟩ := h.form
 unfold maxLen at hc2
 obtain ⟨w1, hw1⟩ : ∃ w1, w.alloc (.cells (nodeCells n (.slice A n.ents.length cap)).toArray 71) = w1 := ⟨_, rfl⟩
 have hk1 : Hid (Kept (fun _ => False) w w1) := h_ (by rw [← hw1]; exact (Kept.refl _ _).alloc _)
 have hbx : NodeBox w1 w.heap.size n (.slice A n.ents.length cap) := ⟨by rw [← hw1]; exact heap_alloc_new _ _⟩
 have c17 := hbx.c17
 have hw1' := h_ hw1; clear hw1 hbx
 have h' := h_ h; clear h
 have hall : Hid (n.ents.take n.ents.length = n.ents) := h_ List.take_length
 have hmin : Hid (∀ k, k ≤ n.ents.length → (n.ents.take k).length = k) := h_ (fun k hk => by rw [List.length_take]; omega)
 go_enter Try.func37, Try.ntmps37
 go_wp2_with (refine wpList_box_named 71 rfl rfl _ rfl hw1'.out ?_)
 go_loopw [3, 9] (fun v i wr => ∃ k : Nat, k ≤ n.ents.length ∧ i = .int .i64 k ∧ wr.ownsRow w.heap.size 3 1 v k (pageCellsOf (n.ents.take k)) ∧ Kept (fun _ => False) w wr) (fun _ i _ => n.ents.length - (intOf i).toNat)
 case atStart => exact ⟨0, Nat.zero_le _, rfl, World.ownsRow_nil _ _ _ _, hk1.out⟩
 case round =>
  obtain ⟨k, hk, rfl, hown, hkk⟩ := hrel
  by_cases hlt : k < n.ents.length
  ·obtain ⟨x, hx⟩ : ∃ x, n.ents[k]? = some x := ⟨_, List.getElem?_eq_getElem hlt⟩
   obtain ⟨b, off, rfl, hbl, hx1, hx2⟩ := EntsAt.get (SliceAt.fresh h'.out hkk) hx
   have hst := h_ (pageCellsOf_take n.ents k x hx)
   have hkk' := h_ hkk
   have hsz := hkk.size
   clear hx hkk
   have hown' := h_ ((hown.alloc (.cells #[.int .i64 x.1, .int .i64 x.2] 58)).alloc (.cells #[.int .i64 x.2] 3))
   have hold := h_ hown.lt
   clear hown
   have hsrc := h_ (SliceAt.block_new (size := 1) (ys := [.int .i64 x.2]) (m := 1) (heap_alloc_new (wr.alloc (.cells #[.int .i64 x.1, .int .i64 x.2] 58)) (.cells #[.int .i64 x.2] 3)) (by rfl) (by decide))
   rw [World.size_alloc] at hsrc
   go_wp2_with (at_builtin; refine wpList_append_src rfl elemInt (.tmp 13) (.tmp 16) rfl (by rfl) (by rfl) hown'.out hsrc.out (by intro c hc; simp at hc; subst hc; rfl) (by omega) (by omega) (by simp; omega) ?_; intro v2 w2 hown2 hg2 hat2)
   have hk2 := h_ (((hkk'.out.alloc (.cells #[.int .i64 x.1, .int .i64 x.2] 58)).alloc (.cells #[.int .i64 x.2] 3)).grown hg2 (fun k e => .inr (hold.out k e).1))
   have hown2' := h_ hown2
   clear hown2 hg2 hat2
   go_roundw
   case rel => exact ⟨k + 1, by omega, by go_num, by rw [hst.out]; exact hown2'.out, hk2.out⟩
   case measure => simp [intOf]; omega
  ·obtain rfl : k = n.ents.length := by omega
   rw [hall.out] at hown
   have hown' := h_ hown; clear hown
   have hkk' := h_ hkk; clear hkk
   go_wp2_with fail
   go_ret
   exact ⟨_, rfl, hown'.out, hkk'.out⟩

theorem tail_any (s : Int) (w : World) (h1 : 0 ≤ s) (h2 : s ≤ 4294967295) :
  Calls Try.prog 75 #[.int .u32 s] w fun e w' => e = .returned (.slice (some ⟨w.heap.size, 0, none⟩) 4 4) ∧ w' = w.alloc (.cells #[.int .u8 (s / 16777216), .int .u8 (s / 65536 % 256), .int .u8 (s / 256 % 256), .int .u8 (s % 256)] 5) := by
 go_enter Try.func75, Try.ntmps75
 go_wp2_with fail
 go_ret
 exact ⟨rfl, rfl⟩

def tailOf (s : Int) : List Nat := [(s / 16777216).toNat, (s / 65536 % 256).toNat, (s / 256 % 256).toNat, (s % 256).toNat]
def sealOf (l : List Nat) : List Nat := l ++ tailOf (crcOf l)
theorem tailOf_cells (s : Int) (h1 : 0 ≤ s) (h2 : s ≤ 4294967295) : byteCells (tailOf s) = [.int .u8 (s / 16777216), .int .u8 (s / 65536 % 256), .int .u8 (s / 256 % 256), .int .u8 (s % 256)] := by
 have e1 : ((s / 16777216).toNat : Int) = s / 16777216 := by omega
 have e2 : ((s / 65536 % 256).toNat : Int) = s / 65536 % 256 := by omega
 have e3 : ((s / 256 % 256).toNat : Int) = s / 256 % 256 := by omega
 have e4 : ((s % 256).toNat : Int) = s % 256 := by omega
 simp only [byteCells, tailOf, List.map_cons, List.map_nil, e1, e2, e3, e4]
theorem tailOf_lt (s : Int) (h1 : 0 ≤ s) (h2 : s ≤ 4294967295) : ∀ b ∈ tailOf s, b < 256 := by
 intro b hb
 simp only [tailOf, List.mem_cons, List.not_mem_nil, or_false] at hb
 rcases hb with rfl | rfl | rfl | rfl <;> omega
theorem byteCells_append (a b : List Nat) : byteCells (a ++ b) = byteCells a ++ byteCells b := by simp [byteCells]
theorem flatten_byteCells (ls : List (List Nat)) : (ls.map byteCells).flatten = byteCells ls.flatten := by
 induction ls with
 | nil => rfl
 | cons l ls ih => rw [List.map_cons, List.flatten_cons, ih, List.flatten_cons, byteCells_append]
theorem PartsAt.rows {w : World} {v : Value} {ls : List (List Nat)} {vs : List Value} (h : PartsAt w v ls vs) : RowsAt w v 1 (ls.map byteCells) vs ∧ sumV vs = ls.flatten.length := by
 refine ⟨⟨by rw [List.length_map]; exact h.len, by rw [List.length_map]; exact h.val, fun i u l hu hl => ?_⟩, ?_⟩
 ·rw [List.getElem?_map] at hl
  cases hq : ls[i]? with
  | none => rw [hq] at hl; cases hl
  | some l' =>
   rw [hq] at hl
   obtain rfl : byteCells l' = l := by simpa using hl
   exact ⟨_, (h.part i u l' hu hq).val⟩
 ·have : vs.map lenOfV = ls.map List.length := by
   apply List.ext_getElem?
   intro i
   rw [List.getElem?_map, List.getElem?_map]
   by_cases hi : i < ls.length
   ·have hi2 : i < vs.length := by rw [h.len]; exact hi
    rw [List.getElem?_eq_getElem hi, List.getElem?_eq_getElem hi2]
    have := (h.part i _ _ (List.getElem?_eq_getElem hi2) (List.getElem?_eq_getElem hi)).val.lenV
    simp [this]
   ·rw [List.getElem?_eq_none (l := vs) (by rw [h.len]; omega), List.getElem?_eq_none (l := ls) (by omega)]
    rfl
  unfold sumV
  rw [this, List.length_flatten]

theorem seal_any {w : World} {v : Value} {ls : List (List Nat)} {vs : List Value} (h : PartsAt w v ls vs) (hlen : ls.flatten.length ≤ 100000) :
  Calls Try.prog 54 #[v] w fun e w' => ∃ u, e = .returned u ∧ w'.ownsRow w.heap.size 5 1 u (ls.flatten.length + 4) (byteCells (sealOf ls.flatten)) ∧ Kept (fun _ => False) w w' := by
 obtain ⟨hrows, hsum⟩ := h.rows
 have hc := concatU8 hrows (by rw [hsum]; omega) (fun l hl => by
  obtain ⟨l', _, rfl⟩ := List.mem_map.1 hl
  exact byteCells_one l')
 rw [hsum, flatten_byteCells ls] at hc
 have hc' := h_ hc; clear hc hrows hsum
 have hP := h_ (fun w' (k : Kept (fun _ => False) w w') => (⟨h.len, h.val.fresh k, fun i u l hu hl => (h.part i u l hu hl).kept k (fun _ _ => id)⟩ : PartsAt w' v ls vs))
 obtain ⟨hs1, hs2⟩ := crcOf_in ls.flatten
 have hcr := h_ (fun (w' : World) (k : Kept (fun _ => False) w w') => crcOf_any (hP.out w' k))
 have hS : Hid (byteCells (sealOf ls.flatten) = byteCells ls.flatten ++ byteCells (tailOf (crcOf ls.flatten))) := h_ (by unfold sealOf; rw [byteCells_append])
 rw [tailOf_cells _ hs1 hs2] at hS
 obtain ⟨A, cap, hv, _⟩ := h.val.cells1
 subst hv
 clear h hP
 obtain ⟨s, hs⟩ : ∃ s, crcOf ls.flatten = s := ⟨_, rfl⟩
 rw [hs] at hs1 hs2 hcr hS
 clear hs
 obtain ⟨xs, hxs⟩ : ∃ xs, byteCells ls.flatten = xs := ⟨_, rfl⟩
 rw [hxs] at hc' hS
 clear hxs
 obtain ⟨N, hN⟩ : ∃ N, ls.flatten.length = N := ⟨_, rfl⟩
 rw [hN] at hc' hlen ⊢
 clear hN
 go_enter Try.func54, Try.ntmps54
 go_wp2_with fail
 refine hc'.out.mono ?_
 rintro e w1 ⟨u1, rfl, hown, hk1⟩
 have hk1' := h_ hk1
 have hsz := hk1.size
 clear hk1
 have hown' := h_ hown; clear hown
 go_wp2_with fail
 refine (hcr.out _ hk1'.out).mono ?_
 rintro e w' ⟨rfl, rfl⟩
 go_wp2_with fail
 refine (tail_any s _ hs1 hs2).mono ?_
 rintro e w' ⟨rfl, rfl⟩
 have hown2 := h_ (hown'.out.alloc (.cells #[.int .u8 (s / 16777216), .int .u8 (s / 65536 % 256), .int .u8 (s / 256 % 256), .int .u8 (s % 256)] 5))
 have hsrc := h_ (SliceAt.block_new (size := 1) (ys := [.int .u8 (s / 16777216), .int .u8 (s / 65536 % 256), .int .u8 (s / 256 % 256), .int .u8 (s % 256)]) (m := 4) (heap_alloc_new w1 (.cells #[.int .u8 (s / 16777216), .int .u8 (s / 65536 % 256), .int .u8 (s / 256 % 256), .int .u8 (s % 256)] 5)) (by rfl) (by decide))
 go_wp2_with (at_builtin; refine wpList_append_src rfl elemU8 (.tmp 4) (.tmp 7) rfl (by rfl) (by rfl) hown2.out hsrc.out (by intro c hc; simp at hc; rcases hc with rfl | rfl | rfl | rfl <;> rfl) (by omega) (by omega) (by simp; omega) ?_; intro v2 w2 hown3 hg2 hat2)
 have hk2 := h_ ((hk1'.out.alloc (.cells #[.int .u8 (s / 16777216), .int .u8 (s / 65536 % 256), .int .u8 (s / 256 % 256), .int .u8 (s % 256)] 5)).grown hg2 (fun k e => .inr (hown'.out.lt k e).1))
 have hown3' := h_ hown3
 clear hown3 hg2 hat2
 go_ret
 exact ⟨_, rfl, by rw [hS.out]; exact hown3'.out, hk2.out⟩

theorem owns_block {w : World} {base g n size : Nat} {e : TypeId} {cs : List Value} (h : w.heap[g]? = some (.cells cs.toArray e (0, 0))) (hb : base ≤ g) (hl : cs.length = n * size) (hn : n ≤ maxLen) :
  w.ownsRow base e size (.slice (some ⟨g, 0, none⟩) n n) n cs :=
 ⟨hl, .inr ⟨g, n, cs.toArray, rfl, hb, h, Nat.le_refl _, hn, by simp [hl], by simp [← hl]⟩⟩

def bytesOf (n : NM) : List Nat := if n.kind = 1 then 1 :: n.block else n.kind.toNat :: n.ents.length :: n.ents.flatMap fun x => [x.1.toNat, x.2.toNat]

set_option maxHeartbeats 1000000 in
theorem bytes_data {w : World} {n : NM} {sv : Value} (hk : n.kind = 1) (hb : n.block.length = 16) :
  Calls Try.prog 55 #[.agg (nodeCells n sv).toArray] w fun e w' => ∃ u, e = .returned u ∧ w'.ownsRow w.heap.size 5 1 u (bytesOf n).length (byteCells (bytesOf n)) ∧ Kept (fun _ => False) w w' := by
 have hB : Hid (byteCells (bytesOf n) = [.int .u8 1] ++ blockCells n.block) := h_ (by unfold bytesOf; rw [if_pos hk, blockCells_eq _ hb]; rfl)
 have hL : Hid ((bytesOf n).length = 1 + 16) := h_ (by unfold bytesOf; rw [if_pos hk]; simp [hb])
 obtain ⟨w1, hw1⟩ : ∃ w1, w.alloc (.cells (nodeCells n sv).toArray 71) = w1 := ⟨_, rfl⟩
 have hk1 : Hid (Kept (fun _ => False) w w1) := h_ (by rw [← hw1]; exact (Kept.refl _ _).alloc _)
 have hsz : w1.heap.size = w.heap.size + 1 := by rw [← hw1]; simp
 have hsz' := h_ hsz; clear hsz
 have hbx : NodeBox w1 w.heap.size n sv := ⟨by rw [← hw1]; exact heap_alloc_new _ _⟩
 have c0 := hbx.c0
 rw [hk] at c0
 have hsrc : Hid (SliceAt w1 (.slice (some ⟨w.heap.size, 1, none⟩) 16 16) 1 16 (blockCells n.block)) := h_ ⟨by rw [blockCells_len], _, 16, rfl, by omega, by decide, fun j u hj => ⟨_, 1, rfl, hbx.cb j u hj⟩⟩
 have hw1' := h_ hw1; clear hw1 hbx hk hb
 go_enter Try.func55, Try.ntmps55
 go_wp2_with (refine wpList_box_named 71 rfl rfl _ rfl hw1'.out ?_)
 go_region_held3 (fun w' => w'.cell? ⟨w.heap.size, 0, none⟩ = some (.int .i64 1)) (first | go_keep | (rw [hg.cell_far ⟨w.heap.size, 0, none⟩ (by simp [hsz'.out]; omega) (by simp [Value.ownBlock, hsz'.out])]; go_keep))
  ((refine step_append_src rfl elemU8 (.tmp 12) (.tmp 14) (by rfl) (by rfl) (by rfl) (owns_block (base := w.heap.size) (n := 1) (size := 1) (cs := [.int .u8 1]) (heap_alloc_new _ _) (by simp [hsz'.out]) (by rfl) (by decide)) (SliceAt.fresh hsrc.out ((Kept.refl _ _).drew.alloc _)) (blockCells_one _) (by omega) (by omega) (by simp [hsz'.out]; omega) ?_; intro v1 w2 hown hg hat))
 have hk2 := h_ ((((hk1.out.drew).alloc (.cells #[.int .u8 1] 5))).grown hg (fun k e => .inr (by simp [Value.ownBlock] at e; have := hk1.out.size; omega)))
 have hown' := h_ hown
 clear hown hg hat
 go_wp2_with fail
 go_ret
 exact ⟨_, rfl, by rw [hL.out, hB.out]; exact hown'.out, hk2.out⟩

def entBytes (l : List (Int × Int)) : List Nat := l.flatMap fun x => [x.1.toNat, x.2.toNat]
theorem entBytes_take (l : List (Int × Int)) (k : Nat) (x : Int × Int) (h : l[k]? = some x) : entBytes (l.take (k + 1)) = entBytes (l.take k) ++ [x.1.toNat, x.2.toNat] := by
 unfold entBytes
 rw [List.take_add_one, h]; simp
theorem entBytes_len (l : List (Int × Int)) : (entBytes l).length = l.length * 2 := by
 induction l with
 | nil => rfl
 | cons x l ih => simp [entBytes] at ih ⊢; omega

set_option maxHeartbeats 2000000 in
theorem bytes_ents {w : World} {n : NM} {sv : Value} {kd : Int} (h : EntsAt w sv n.ents) (hk : n.kind = kd) (hkd : kd = 2 ∨ kd = 3) (hlen : n.ents.length ≤ 6) (hent : ∀ x ∈ n.ents, 0 ≤ x.1 ∧ x.1 < 64 ∧ 0 ≤ x.2 ∧ x.2 < 240) :
  Calls Try.prog 55 #[.agg (nodeCells n sv).toArray] w fun e w' => ∃ u, e = .returned u ∧ w'.ownsRow w.heap.size 5 1 u (bytesOf n).length (byteCells (bytesOf n)) ∧ Kept (fun _ => False) w w' := by
 obtain ⟨A, cap, rfl, hc1, hc2⟩ := h.form
 unfold maxLen at hc2
 have hB : Hid (bytesOf n = kd.toNat :: n.ents.length :: entBytes n.ents) := h_ (by unfold bytesOf; rw [if_neg (by omega), hk]; rfl)
 have hL : Hid ((bytesOf n).length = 2 + n.ents.length * 2) := h_ (by rw [hB.out]; simp [entBytes_len]; omega)
 have hK : Hid (∀ k, byteCells (kd.toNat :: n.ents.length :: entBytes (n.ents.take k)) = [.int .u8 kd, .int .u8 n.ents.length] ++ byteCells (entBytes (n.ents.take k))) := h_ (fun k => by
  rw [show kd.toNat :: n.ents.length :: entBytes (n.ents.take k) = [kd.toNat, n.ents.length] ++ entBytes (n.ents.take k) from rfl, byteCells_append]
  congr 1
  have : ((kd.toNat : Nat) : Int) = kd := by omega
  simp [byteCells, this])
 obtain ⟨w1, hw1⟩ : ∃ w1, w.alloc (.cells (nodeCells n (.slice A n.ents.length cap)).toArray 71) = w1 := ⟨_, rfl⟩
 have hk1 : Hid (Kept (fun _ => False) w w1) := h_ (by rw [← hw1]; exact (Kept.refl _ _).alloc _)
 have hbx : NodeBox w1 w.heap.size n (.slice A n.ents.length cap) := ⟨by rw [← hw1]; exact heap_alloc_new _ _⟩
 have hsz := h_ (show w1.heap.size = w.heap.size + 1 by rw [← hw1]; simp)
 have c0 := hbx.c0
 have c17 := hbx.c17
 have c17' : (w1.alloc (.cells #[.int .u8 kd, .int .u8 n.ents.length] 5)).cell? ⟨w.heap.size, 17, none⟩ = some (.slice A n.ents.length cap) := by rw [World.cell?_alloc_lt _ _ _ (by have := hsz.out; simp; omega)]; exact c17
 rw [hk] at c0
 have hw1' := h_ hw1; clear hw1 hbx hk
 have h' := h_ h; clear h
 have hall : Hid (n.ents.take n.ents.length = n.ents) := h_ List.take_length
 have hent' := h_ hent; clear hent
 have hown0 := h_ (owns_block (base := w.heap.size) (n := 2) (size := 1) (cs := [.int .u8 kd, .int .u8 n.ents.length]) (heap_alloc_new w1 (.cells #[.int .u8 kd, .int .u8 n.ents.length] 5)) (by have := hsz.out; omega) (by rfl) (by decide))
 have hk2 := h_ (hk1.out.alloc (.cells #[.int .u8 kd, .int .u8 n.ents.length] 5))
 rcases hkd with hkd | hkd
 all_goals
  subst hkd
  go_enter Try.func55, Try.ntmps55
  go_wp2_with (refine wpList_box_named 71 rfl rfl _ rfl hw1'.out ?_)
  go_loopw [3, 27] (fun v i wr => ∃ k : Nat, k ≤ n.ents.length ∧ i = .int .i64 k ∧ wr.ownsRow w.heap.size 5 1 v (2 + k * 2) (byteCells (_ :: n.ents.length :: entBytes (n.ents.take k))) ∧ Kept (fun _ => False) w wr) (fun _ i _ => n.ents.length - (intOf i).toNat)
  case atStart => exact ⟨0, Nat.zero_le _, rfl, by rw [hK.out]; exact hown0.out, hk2.out⟩
  case round =>
   obtain ⟨k, hk, rfl, hown, hkk⟩ := hrel
   by_cases hlt : k < n.ents.length
   ·obtain ⟨x, hx⟩ : ∃ x, n.ents[k]? = some x := ⟨_, List.getElem?_eq_getElem hlt⟩
    obtain ⟨b, off, rfl, hbl, hx1, hx2⟩ := EntsAt.get (SliceAt.fresh h'.out hkk) hx
    obtain ⟨g1, g2, g3, g4⟩ := hent'.out x (List.mem_of_getElem? hx)
    have hst : Hid (byteCells (_ :: n.ents.length :: entBytes (n.ents.take (k + 1))) = byteCells (_ :: n.ents.length :: entBytes (n.ents.take k)) ++ [.int .u8 x.1, .int .u8 x.2]) := h_ (by
     rw [hK.out, hK.out, entBytes_take n.ents k x hx, byteCells_append, List.append_assoc]
     have e1 : ((x.1.toNat : Nat) : Int) = x.1 := by omega
     have e2 : ((x.2.toNat : Nat) : Int) = x.2 := by omega
     simp [byteCells, e1, e2])
    have hkk' := h_ hkk
    have hsz2 := hkk.size
    clear hx hkk
    have hown' := h_ ((hown.alloc (.cells #[.int .i64 x.1, .int .i64 x.2] 58)).alloc (.cells #[.int .u8 x.1, .int .u8 x.2] 5))
    have hold := h_ hown.lt
    clear hown
    have hsrc := h_ (SliceAt.block_new (size := 1) (ys := [.int .u8 x.1, .int .u8 x.2]) (m := 2) (heap_alloc_new (wr.alloc (.cells #[.int .i64 x.1, .int .i64 x.2] 58)) (.cells #[.int .u8 x.1, .int .u8 x.2] 5)) (by rfl) (by decide))
    rw [World.size_alloc] at hsrc
    go_wp2_with (at_builtin; refine wpList_append_src rfl elemU8 (.tmp 31) (.tmp 38) rfl (by rfl) (by rfl) hown'.out hsrc.out (by intro c hc; simp at hc; rcases hc with rfl | rfl <;> rfl) (by omega) (by omega) (by simp; omega) ?_; intro v2 w2 hown2 hg2 hat2)
    have hk3 := h_ (((hkk'.out.alloc (.cells #[.int .i64 x.1, .int .i64 x.2] 58)).alloc (.cells #[.int .u8 x.1, .int .u8 x.2] 5)).grown hg2 (fun k e => .inr (hold.out k e).1))
    have hown2' := h_ hown2
    clear hown2 hg2 hat2
    go_roundw
    case rel => exact ⟨k + 1, by omega, by go_num, by rw [hst.out, show 2 + (k + 1) * 2 = 2 + k * 2 + 2 by omega]; exact hown2'.out, hk3.out⟩
    case measure => simp [intOf]; omega
   ·obtain rfl : k = n.ents.length := by omega
    rw [hall.out] at hown
    have hown' := h_ hown; clear hown
    have hkk' := h_ hkk; clear hkk
    go_wp2_with fail
    go_ret
    exact ⟨_, rfl, by rw [hL.out, hB.out]; exact hown'.out, hkk'.out⟩

theorem isNaN_any (a : Int) (w : World) : Calls Try.prog 80 #[.int .i64 a] w fun e w' => e = .returned (.bool false) ∧ w = w' := by
 go_enter Try.func80, Try.ntmps80
 go_wp2_with fail
 go_ret
 exact ⟨ret_bool (by simp), rfl⟩
def cmpI (a b : Int) : Int := if a < b then -1 else if b < a then 1 else 0
theorem compare_any (a b : Int) (w : World) : Calls Try.prog 66 #[.int .i64 a, .int .i64 b] w fun e w' => e = .returned (.int .i64 (cmpI a b)) ∧ w = w' := by
 unfold cmpI
 have h1 := h_ (isNaN_any a w)
 have h2 := h_ (isNaN_any b w)
 by_cases c1 : a < b
 ·rw [if_pos c1]
  go_enter Try.func66, Try.ntmps66
  go_wp2_with fail
  refine h1.out.mono ?_
  rintro e w' ⟨rfl, rfl⟩
  go_wp2_with fail
  refine h2.out.mono ?_
  rintro e w' ⟨rfl, rfl⟩
  go_wp2_with fail
  go_ret
  exact ⟨rfl, rfl⟩
 ·rw [if_neg c1]
  have d1 : decide (a < b) = false := by simpa using c1
  by_cases c2 : b < a
  ·rw [if_pos c2]
   clear c1
   go_enter Try.func66, Try.ntmps66
   go_wp2_with fail
   refine h1.out.mono ?_
   rintro e w' ⟨rfl, rfl⟩
   go_wp2_with fail
   refine h2.out.mono ?_
   rintro e w' ⟨rfl, rfl⟩
   go_wp2_with fail
   go_ret
   exact ⟨rfl, rfl⟩
  ·rw [if_neg c2]
   have d2 : decide (b < a) = false := by simpa using c2
   clear c1 c2
   go_enter Try.func66, Try.ntmps66
   go_wp2_with fail
   refine h1.out.mono ?_
   rintro e w' ⟨rfl, rfl⟩
   go_wp2_with fail
   refine h2.out.mono ?_
   rintro e w' ⟨rfl, rfl⟩
   go_wp2_with fail
   go_ret
   exact ⟨rfl, rfl⟩
theorem atCmp_any (x : Int × Int) (k : Int) (w : World) : Calls Try.prog 65 #[.agg #[.int .i64 x.1, .int .i64 x.2], .int .i64 k] w fun e w' => e = .returned (.int .i64 (cmpI x.1 k)) ∧ Kept (fun _ => False) w w' := by
 have k1 := h_ ((Kept.refl (fun _ => False) w).alloc (.cells #[.int .i64 x.1, .int .i64 x.2] 58))
 obtain ⟨a, b⟩ := x
 dsimp only at k1 ⊢
 go_enter Try.func65, Try.ntmps65
 go_wp2_with fail
 refine (compare_any _ _ _).mono ?_
 rintro e w' ⟨rfl, rfl⟩
 go_wp2_with fail
 go_ret
 exact ⟨rfl, k1.out⟩

def RisesK (l : List (Int × Int)) : Prop := l.Pairwise fun a b => a.1 < b.1
def ltN (l : List (Int × Int)) (key : Int) : Nat := (l.filter fun x => decide (x.1 < key)).length
theorem ltN_iff : ∀ {l : List (Int × Int)} (_ : RisesK l) (key : Int) {i : Nat} {x : Int × Int}, l[i]? = some x → (x.1 < key ↔ i < ltN l key)
 | [], _, _, _, _, h => by simp at h
 | y :: l, hr, key, i, x, h => by
  have hr' := List.pairwise_cons.1 hr
  unfold ltN
  by_cases hy : y.1 < key
  ·rw [List.filter_cons_of_pos (by simpa using hy), List.length_cons]
   cases i with
   | zero => simp at h; subst h; simp [hy]
   | succ i =>
    have := ltN_iff hr'.2 key (i := i) (x := x) (by simpa using h)
    unfold ltN at this
    rw [this]; omega
  ·have hall : l.filter (fun x => decide (x.1 < key)) = [] := List.filter_eq_nil_iff.2 fun z hz => by have := hr'.1 z hz; simp; omega
   rw [List.filter_cons_of_neg (by simpa using hy), hall]
   cases i with
   | zero => simp at h; subst h; simp; omega
   | succ i =>
    have hx : x ∈ l := List.mem_of_getElem? (by simpa using h)
    have := hr'.1 x hx
    simp; omega
theorem ltN_le (l : List (Int × Int)) (key : Int) : ltN l key ≤ l.length := List.length_filter_le _ _
def thereK (l : List (Int × Int)) (key : Int) : Bool := match l[ltN l key]? with | some x => x.1 == key | none => false
theorem atI_eq {l : List (Int × Int)} (hr : RisesK l) (key : Int) : atI l key = if thereK l key then (ltN l key : Int) else (ltN l key : Int) - 1 := by
 have : ∀ {l : List (Int × Int)}, RisesK l → (l.filter fun x => decide (x.1 ≤ key)).length = ltN l key + (if thereK l key then 1 else 0) := by
  intro l
  induction l with
  | nil => intro _; rfl
  | cons y l ih =>
   intro hr
   have hr' := List.pairwise_cons.1 hr
   by_cases hy : y.1 < key
   ·have e1 : ltN (y :: l) key = ltN l key + 1 := by unfold ltN; rw [List.filter_cons_of_pos (by simpa using hy)]; rfl
    have e2 : thereK (y :: l) key = thereK l key := by unfold thereK; rw [e1, List.getElem?_cons_succ]
    rw [List.filter_cons_of_pos (by simp; omega), List.length_cons, ih hr'.2, e1, e2]; omega
   ·have hall : l.filter (fun x => decide (x.1 < key)) = [] := List.filter_eq_nil_iff.2 fun z hz => by have := hr'.1 z hz; simp; omega
    have e1 : ltN (y :: l) key = 0 := by unfold ltN; rw [List.filter_cons_of_neg (by simpa using hy), hall]; rfl
    by_cases he : y.1 = key
    ·have e2 : thereK (y :: l) key = true := by unfold thereK; rw [e1]; simp [he]
     have h3 : l.filter (fun x => decide (x.1 ≤ key)) = [] := List.filter_eq_nil_iff.2 fun z hz => by have := hr'.1 z hz; simp; omega
     rw [List.filter_cons_of_pos (by simp; omega), h3, e1, e2]; rfl
    ·have e2 : thereK (y :: l) key = false := by unfold thereK; rw [e1]; simp [he]
     have h3 : l.filter (fun x => decide (x.1 ≤ key)) = [] := List.filter_eq_nil_iff.2 fun z hz => by have := hr'.1 z hz; simp; omega
     rw [List.filter_cons_of_neg (by simp; omega), h3, e1, e2]; rfl
 unfold atI
 rw [this hr]
 split <;> omega

set_option maxHeartbeats 2000000 in
theorem bsearch_any {w : World} {v : Value} {l : List (Int × Int)} (h : EntsAt w v l) (hr : RisesK l) (key : Int) (hlen : l.length ≤ 1000) :
  Calls Try.prog 64 #[v, .int .i64 key, .func (.func 65) #[] #[]] w fun e w' => e = .returned (.tuple #[.int .i64 (ltN l key), .bool (thereK l key)]) ∧ Kept (fun _ => False) w w' := by
 obtain ⟨A, cap, rfl, hc1, hc2⟩ := h.form
 unfold maxLen at hc2
 have h' := h_ h
 have hN := ltN_le l key
 have hiff := h_ (fun (i : Nat) (x : Int × Int) (hx : l[i]? = some x) => ltN_iff hr key hx)
 have hth : Hid (∀ x, l[ltN l key]? = some x → thereK l key = (x.1 == key)) := h_ (fun x hx => by unfold thereK; rw [hx])
 have hth2 : Hid (l[ltN l key]? = none → thereK l key = false) := h_ (fun hx => by unfold thereK; rw [hx])
 obtain ⟨c, hc⟩ : ∃ c, ltN l key = c := ⟨_, rfl⟩
 obtain ⟨t, ht⟩ : ∃ t, thereK l key = t := ⟨_, rfl⟩
 rw [hc] at hN hiff hth hth2 ⊢
 rw [ht] at hth hth2 ⊢
 clear hc ht h hr
 go_enter Try.func64, Try.ntmps64
 go_wp2_with fail
 go_loopw [9, 10] (fun x y wr => ∃ i j : Nat, i ≤ c ∧ c ≤ j ∧ j ≤ l.length ∧ x = .int .i64 i ∧ y = .int .i64 j ∧ Kept (fun _ => False) w wr) (fun x y _ => (intOf y - intOf x).toNat)
 case atStart => exact ⟨0, l.length, Nat.zero_le _, hN, Nat.le_refl _, rfl, rfl, Kept.refl _ _⟩
 case round =>
  obtain ⟨i, j, hi, hj, hjl, rfl, rfl, hkk⟩ := hrel
  by_cases hlt : i < j
  ·obtain ⟨m, hm⟩ : ∃ m, (i + j) / 2 = m := ⟨_, rfl⟩
   have hm1 : i ≤ m := by omega
   have hm2 : m < j := by omega
   have hm3 : ((i : Int) + (j : Int)) / 2 = (m : Int) := by omega
   obtain ⟨x, hx⟩ : ∃ x, l[m]? = some x := ⟨_, List.getElem?_eq_getElem (by omega)⟩
   obtain ⟨b, off, rfl, hbl, hx1, hx2⟩ := EntsAt.get (SliceAt.fresh h'.out hkk) hx
   have hif := h_ (hiff.out m x hx)
   have hkk' := h_ hkk
   have hm0 : (0 : Int) ≤ (m : Int) := by omega
   have hml : (m : Int) < (l.length : Int) := by omega
   clear hx hkk hm
   by_cases hlk : x.1 < key
   ·have hcm : Hid (cmpI x.1 key = -1) := h_ (by unfold cmpI; rw [if_pos hlk])
    have hmc : m < c := hif.out.1 hlk
    have hcall := h_ (fun w => atCmp_any x key w)
    rw [hcm.out] at hcall
    clear hlk
    go_wp2_with fail
    refine (hcall.out _).mono ?_
    rintro e w2 ⟨rfl, hk2⟩
    have hk2' := h_ (hkk'.out.trans hk2)
    clear hk2
    go_wp2_with fail
    go_roundw
    case rel => exact ⟨m + 1, j, by omega, by omega, by omega, by go_num, rfl, hk2'.out⟩
    case measure => simp [intOf]; omega
   ·obtain ⟨r, hr⟩ : ∃ r, cmpI x.1 key = r := ⟨_, rfl⟩
    have hr0 : 0 ≤ r := by rw [← hr]; unfold cmpI; rw [if_neg hlk]; split <;> omega
    have hmc : c ≤ m := by
     rcases Nat.lt_or_ge m c with h1 | h1
     ·exact absurd (hif.out.2 h1) hlk
     ·exact h1
    have hcall := h_ (fun w => atCmp_any x key w)
    rw [hr] at hcall
    clear hlk hr
    go_wp2_with fail
    refine (hcall.out _).mono ?_
    rintro e w2 ⟨rfl, hk2⟩
    have hk2' := h_ (hkk'.out.trans hk2)
    clear hk2
    go_wp2_with fail
    go_roundw
    case rel => exact ⟨i, m, by omega, by omega, by omega, rfl, rfl, hk2'.out⟩
    case measure => simp [intOf]; omega
  ·obtain rfl : i = j := by omega
   obtain rfl : i = c := by omega
   have hkk' := h_ hkk
   clear hlt
   by_cases hcl : i < l.length
   ·obtain ⟨x, hx⟩ : ∃ x, l[i]? = some x := ⟨_, List.getElem?_eq_getElem hcl⟩
    obtain ⟨b, off, rfl, hbl, hx1, hx2⟩ := EntsAt.get (SliceAt.fresh h'.out hkk) hx
    have hnl : ¬ x.1 < key := fun h1 => Nat.lt_irrefl _ ((hiff.out i x hx).1 h1)
    have htt := hth.out x hx
    have hcall := h_ (fun w => atCmp_any x key w)
    by_cases he : x.1 = key
    ·have hcm : cmpI x.1 key = 0 := by unfold cmpI; rw [if_neg (by omega), if_neg (by omega)]
     have e2 : t = true := by rw [htt]; simp [he]
     rw [hcm] at hcall
     subst e2
     clear hkk hx hnl htt he hcm
     go_wp2_with fail
     refine (hcall.out _).mono ?_
     rintro e w2 ⟨rfl, hk2⟩
     have hk2' := h_ (hkk'.out.trans hk2)
     clear hk2
     go_wp2_with fail
     go_ret2
     exact ⟨rfl, hk2'.out⟩
    ·have hcm : cmpI x.1 key = 1 := by unfold cmpI; rw [if_neg (by omega), if_pos (by omega)]
     have e2 : t = false := by rw [htt]; simp [he]
     rw [hcm] at hcall
     subst e2
     clear hkk hx hnl htt he hcm
     go_wp2_with fail
     refine (hcall.out _).mono ?_
     rintro e w2 ⟨rfl, hk2⟩
     have hk2' := h_ (hkk'.out.trans hk2)
     clear hk2
     go_wp2_with fail
     go_ret2
     exact ⟨rfl, hk2'.out⟩
   ·have e2 : t = false := hth2.out (List.getElem?_eq_none (by omega))
    have hd : decide (i < l.length) = false := by simpa using hcl
    subst e2
    clear hkk hcl
    go_wp2_with fail
    go_ret2
    exact ⟨rfl, hkk'.out⟩
theorem at_any {w : World} {v : Value} {l : List (Int × Int)} (h : EntsAt w v l) (hr : RisesK l) (key : Int) (hlen : l.length ≤ 1000) :
  Calls Try.prog 47 #[v, .int .i64 key] w fun e w' => e = .returned (.int .i64 (atI l key)) ∧ Kept (fun _ => False) w w' := by
 have hb := h_ (bsearch_any h hr key hlen)
 rw [atI_eq hr]
 have hN := ltN_le l key
 obtain ⟨c, hc⟩ : ∃ c, ltN l key = c := ⟨_, rfl⟩
 obtain ⟨t, ht⟩ : ∃ t, thereK l key = t := ⟨_, rfl⟩
 rw [hc] at hN hb ⊢
 rw [ht] at hb ⊢
 obtain ⟨A, cap, rfl, _⟩ := h.form
 clear h hr hc ht
 cases t
 all_goals
  go_enter Try.func47, Try.ntmps47
  go_wp2_with fail
  refine hb.out.mono ?_
  rintro e w2 ⟨rfl, hk2⟩
  have hk2' := h_ hk2
  clear hk2
  go_wp2_with fail
  go_ret
  exact ⟨rfl, hk2'.out⟩

theorem run_equalIn_entry (d : Nat) (p q : Int × Int) (w : World) : (Op.equalIn (d + 2) 58 (.agg #[.int .i64 p.1, .int .i64 p.2]) (.agg #[.int .i64 q.1, .int .i64 q.2])).run Try.prog w = .ok (decide (p = q)) w := by
 obtain ⟨p1, p2⟩ := p
 obtain ⟨q1, q2⟩ := q
 have hi : ∀ w, (isAgg 3).run Try.prog w = .ok false w := fun w => by
  unfold isAgg
  rw [Sem.run_bind, run_underlying Try.underlying3 w]
  rfl
 have hS : Try.prog.underlying 58 = some (.struct (Try.prog.fieldsOf 58)) := by kernel_rfl
 have hp : Try.prog.stoodInHeld 58 = false := by kernel_rfl
 have hq : ∀ (a b : Int) w, (Op.equalIn (d + 1) 3 (.int .i64 a) (.int .i64 b)).run Try.prog w = .ok (a == b) w := fun a b w => run_equalIn_int w d 3 .i64 .i64 a b Try.underlying3
 rw [run_equalIn_struct w (d + 1) 58 _ _ hS hp]
 simp only [Program.fieldsOf, Try.underlying58]
 by_cases h1 : p1 = q1
 ·by_cases h2 : p2 = q2
  ·simp [Op.eqFields, part, hi, hq, h1, h2]
  ·simp [Op.eqFields, part, hi, hq, h1, h2]
 ·simp [Op.eqFields, part, hi, hq, h1]
theorem exec_neq_entry {o : Oper} {a : Act} {x y : Operand} {u : TypeId} (ho : o.op = .binOp .neq 58 x y u) (p q : Int × Int) (hx : a.eval x = .agg #[.int .i64 p.1, .int .i64 p.2]) (hy : a.eval y = .agg #[.int .i64 q.1, .int .i64 q.2]) (w : World) :
  (execOp a.eval o).run Try.prog w = .ok (.value (.bool (!decide (p = q)))) w := by
 unfold execOp
 have hm : Try.prog.eqGuardType Try.prog.depth 58 = false := by kernel_rfl
 have he := run_equalIn_entry 9998 p q w
 simp only [ho, hx, hy, Sem.run_bind, run_eqGuard_agg (hm := hm), Result.andThen_ok, run_neq_struct, he]
 rfl

set_option maxHeartbeats 4000000 in
theorem same10 {w : World} {va vb : Value} {a b : List (Int × Int)} (ha : EntsAt w va a) (hb : EntsAt w vb b) (hla : a.length ≤ 1000000) :
  Calls Try.prog 11 #[va, vb] w fun e w' => e = .returned (.bool (decide (a = b))) ∧ Kept (fun _ => False) w w' := by
 obtain ⟨Aa, ca, rfl, ha1, ha2⟩ := ha.form
 obtain ⟨Ab, cb, rfl, hb1, hb2⟩ := hb.form
 unfold maxLen at ha2 hb2
 by_cases hlen : a.length = b.length
 ·have hb' : EntsAt w (.slice Ab a.length cb) b := by rw [hlen]; exact hb
  have hr : Hid ((∀ k, k < a.length → a[k]? = b[k]?) → a = b) := h_ (fun h => List.ext_getElem? fun k => by
   by_cases hk : k < a.length
   ·exact h k hk
   ·rw [List.getElem?_eq_none (by omega), List.getElem?_eq_none (by omega)])
  have hn : Hid (∀ (k : Nat) (x y : Int × Int), a[k]? = some x → b[k]? = some y → x ≠ y → a ≠ b) := h_ (fun k x y hx hy hne e => by subst e; rw [hx] at hy; cases hy; exact hne rfl)
  have hlb : Hid (∀ k, k < a.length → ∃ y, b[k]? = some y) := h_ (fun k hk => ⟨_, List.getElem?_eq_getElem (by omega)⟩)
  rw [← hlen] at hb1 ⊢
  have ha' := h_ ha
  have hb'' := h_ hb'
  clear ha hb hb' hlen
  go_enter Try.func11, Try.ntmps11
  go_wp2_with fail
  go_loopw [13] (fun i wr => ∃ k : Nat, k ≤ a.length ∧ i = .int .i64 k ∧ Hid (∀ j, j < k → a[j]? = b[j]?) ∧ Kept (fun _ => False) w wr) (fun i _ => a.length - (intOf i).toNat)
  case atStart => exact ⟨0, Nat.zero_le _, rfl, h_ (fun j hj => by omega), Kept.refl _ _⟩
  case round =>
   obtain ⟨k, hk, rfl, hpre, hkk⟩ := hrel
   by_cases hlt : k < a.length
   ·obtain ⟨x, hx⟩ : ∃ x, a[k]? = some x := ⟨_, List.getElem?_eq_getElem hlt⟩
    obtain ⟨y, hy⟩ := hlb.out k hlt
    obtain ⟨ba, oa, rfl, hba, hx1, hx2⟩ := EntsAt.get (SliceAt.fresh ha'.out hkk) hx
    obtain ⟨bb, ob, rfl, hbb, hy1, hy2⟩ := EntsAt.get (SliceAt.fresh hb''.out hkk) hy
    have hki : (k : Int) < (a.length : Int) := by omega
    have lx : Hid (∀ W, Kept (fun _ => False) wr W → ∀ j v, [Value.int .i64 x.1, .int .i64 x.2][j]? = some v → W.cell? ⟨ba, oa + k * 2 + j, none⟩ = some v) := h_ (fun W hW j v hj => by
     match j, hj with
     | 0, hj => cases hj; exact hW.cell hx1 id
     | 1, hj => cases hj; exact hW.cell hx2 id)
    have ly : Hid (∀ W, Kept (fun _ => False) wr W → ∀ j v, [Value.int .i64 y.1, .int .i64 y.2][j]? = some v → W.cell? ⟨bb, ob + k * 2 + j, none⟩ = some v) := h_ (fun W hW j v hj => by
     match j, hj with
     | 0, hj => cases hj; exact hW.cell hy1 id
     | 1, hj => cases hj; exact hW.cell hy2 id)
    have hx' := h_ hx
    have hy' := h_ hy
    have hkk' := h_ hkk
    clear hx hy hx1 hx2 hy1 hy2 hkk
    go_wp2_with fail
    refine wp_region_quiet (C := fun w' => Kept (fun _ => False) wr w') (by kernel_rfl) (by kernel_rfl) (Kept.refl _ _).drew ?_
    refine wpQuiet_step (fun K hK => ?_); go_simp; refine ⟨_, fun _ _ => rfl, hK _ ?_⟩; clear hK K
    refine wpQuiet_step (fun K hK => ?_); go_simp; refine ⟨_, fun _ _ => rfl, hK _ ?_⟩; clear hK K
    refine wpQuiet_step (fun K hK => ?_); go_simp; refine ⟨_, fun _ _ => rfl, hK _ ?_⟩; clear hK K
    refine wpQuiet_step (fun K hK => ?_); refine q_on rfl (q_val (.agg [Value.int .i64 x.1, .int .i64 x.2].toArray) (fun W hW => exec_load_agg (g := ba) (off := oa + k * 2) rfl rfl [.int .i64 x.1, .int .i64 x.2] Try.underlying58 rfl (by kernel_rfl) (lx.out W hW)) (hK _ ?_)); clear hK K
    refine wpQuiet_step (fun K hK => ?_); go_simp; refine ⟨_, fun _ _ => rfl, hK _ ?_⟩; clear hK K
    refine wpQuiet_step (fun K hK => ?_); go_simp; refine ⟨_, fun _ _ => rfl, hK _ ?_⟩; clear hK K
    refine wpQuiet_step (fun K hK => ?_); go_simp; refine ⟨_, fun _ _ => rfl, hK _ ?_⟩; clear hK K
    refine wpQuiet_step (fun K hK => ?_); refine q_on rfl (q_val (.agg [Value.int .i64 y.1, .int .i64 y.2].toArray) (fun W hW => exec_load_agg (g := bb) (off := ob + k * 2) rfl rfl [.int .i64 y.1, .int .i64 y.2] Try.underlying58 rfl (by kernel_rfl) (ly.out W hW)) (hK _ ?_)); clear hK K
    obtain ⟨z, hz⟩ : ∃ z, decide (x = y) = z := ⟨_, rfl⟩
    refine wpQuiet_step (fun K hK => ?_); refine q_on rfl (q_val (.bool (!z)) (fun W hW => by rw [← hz]; exact exec_neq_entry rfl x y rfl rfl W) (hK _ ?_)); clear hK K
    refine wpQuiet_nil ?_
    intro w9 hw9
    have hw9' := h_ hw9
    clear hw9 lx ly
    cases z with
    | true =>
     have hxy := of_decide_eq_true hz
     clear hz
     go_wp2_with fail
     go_roundw
     case rel => exact ⟨k + 1, by omega, by go_num, h_ (fun j hj => by
      by_cases e : j = k
      ·rw [e, hx'.out, hy'.out, hxy]
      ·exact hpre.out j (by omega)), hkk'.out.trans hw9'.out⟩
     case measure => simp [intOf]; omega
    | false =>
     have he : Hid (decide (a = b) = false) := h_ (by rw [decide_eq_false_iff_not]; exact hn.out k x y hx'.out hy'.out (of_decide_eq_false hz))
     clear hz
     go_wp2_with fail
     go_ret
     exact ⟨by rw [he.out]; rfl, hkk'.out.trans hw9'.out⟩
   ·obtain rfl : k = a.length := by omega
    have he : Hid (decide (a = b) = true) := h_ (by simpa using hr.out hpre.out)
    go_wp2_with fail
    go_ret
    exact ⟨by rw [he.out]; rfl, hkk⟩
 ·have he : Hid (decide (a = b) = false) := h_ (by rw [decide_eq_false_iff_not]; exact fun e => hlen (by rw [e]))
  clear ha hb
  go_enter Try.func11, Try.ntmps11
  go_wp2_with fail
  go_ret
  exact ⟨by rw [he.out]; rfl, Kept.refl _ _⟩
end Go.Proofs.Ytdcnogjbmdhgaaa
