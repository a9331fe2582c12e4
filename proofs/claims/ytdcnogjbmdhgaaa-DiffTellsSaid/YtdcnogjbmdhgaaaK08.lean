/-
 The pool's functions that only read: what each answers, in terms of a model of the pool.
-/
import Derived.Test.YtdcnogjbmdhgaaaK01
import Derived.Test.YtdcnogjbmdhgaaaProg
set_option linter.unusedVariables false
set_option linter.unusedSimpArgs false
namespace Go.Proofs.Ytdcnogjbmdhgaaa
open Go.RowKit

structure PM where
 size : Nat
 cnt : Nat → Nat
 st : Nat → Nat

def PM.cells (p : PM) : Array Value :=
 (Value.int .i64 p.size :: (((List.range 240).map fun i => Value.int .u8 (p.cnt i)) ++ ((List.range 240).map fun i => Value.int .u8 (p.st i)))).toArray
structure PoolAt (w : World) (b : Nat) (p : PM) : Prop where
 heap : w.heap[b]? = some (.cells p.cells 96 (0, 0))
 hsize : p.size ≤ 240
 hcnt : ∀ i, p.cnt i ≤ 255
 hst : ∀ i, p.st i ≤ 4

theorem PM.cell_size (p : PM) : p.cells[0]? = some (.int .i64 p.size) := rfl
theorem PM.cell_cnt (p : PM) (i : Nat) (h : i < 240) : p.cells[1 + i]? = some (.int .u8 (p.cnt i)) := by
 unfold PM.cells
 rw [Nat.add_comm]
 simp [List.getElem?_append, h]
theorem PM.cell_st (p : PM) (i : Nat) (h : i < 240) : p.cells[241 + i]? = some (.int .u8 (p.st i)) := by
 unfold PM.cells
 rw [show 241 + i = (240 + i) + 1 by omega]
 simp [List.getElem?_append, h]

theorem PoolAt.c_size {w : World} {b : Nat} {p : PM} (h : PoolAt w b p) : w.cell? ⟨b, 0, none⟩ = some (.int .i64 p.size) := by
 rw [cell_of_heap h.heap, p.cell_size]
theorem PoolAt.c_cnt {w : World} {b : Nat} {p : PM} (h : PoolAt w b p) (i : Nat) (hi : i < 240) : w.cell? ⟨b, 1 + i, none⟩ = some (.int .u8 (p.cnt i)) := by
 rw [cell_of_heap h.heap, p.cell_cnt i hi]
theorem PoolAt.c_st {w : World} {b : Nat} {p : PM} (h : PoolAt w b p) (i : Nat) (hi : i < 240) : w.cell? ⟨b, 241 + i, none⟩ = some (.int .u8 (p.st i)) := by
 rw [cell_of_heap h.heap, p.cell_st i hi]
theorem PoolAt.free {w : World} {b : Nat} {p : PM} (h : PoolAt w b p) (o : Nat) : w.frozen? ⟨b, o, none⟩ = false := free_of_heap h.heap o
theorem PoolAt.kept {w w' : World} {b : Nat} {p : PM} {S : Nat → Prop} (h : PoolAt w b p) (k : Kept S w w') (hs : ¬ S b) : PoolAt w' b p :=
 ⟨k.get h.heap hs, h.hsize, h.hcnt, h.hst⟩

def PM.thereB (p : PM) (i : Int) : Bool := decide (0 ≤ i ∧ i < p.size)
def PM.freeB (p : PM) (i : Nat) : Bool := p.cnt i == 0 && p.st i == 0
def PM.freshB (p : PM) (i : Int) : Bool := p.thereB i && (p.st i.toNat == 1 || p.st i.toNat == 2)
def PM.heldB (p : PM) (i : Int) : Bool := p.thereB i && (decide (0 < p.cnt i.toNat) || p.freshB i)

set_option maxRecDepth 100000
theorem ret_bool {a b : Bool} (h : a = b) : Ending.returned (.bool a) = .returned (.bool b) := by rw [h]

theorem there_any {b : Nat} {p : PM} {w : World} (hp : PoolAt w b p) (i : Int) :
  Calls Try.prog 62 #[.pointer (some ⟨b, 0, none⟩), .int .i64 i] w fun e w' => e = .returned (.bool (p.thereB i)) ∧ w = w' := by
 have h0 := hp.c_size
 unfold PM.thereB
 by_cases h : 0 ≤ i
 ·by_cases h1 : i < p.size
  ·go_enter Try.func62, Try.ntmps62
   go_wp2
   go_ret
   exact ⟨by simp [*], rfl⟩
  ·go_enter Try.func62, Try.ntmps62
   go_wp2
   go_ret
   exact ⟨by simp; omega, rfl⟩
 ·go_enter Try.func62, Try.ntmps62
  go_wp2
  go_ret
  exact ⟨by simp; omega, rfl⟩

theorem free_any {b : Nat} {p : PM} {w : World} (hp : PoolAt w b p) (i : Nat) (hi : i < 240) :
  Calls Try.prog 59 #[.pointer (some ⟨b, 0, none⟩), .int .i64 i] w fun e w' => e = .returned (.bool (p.freeB i)) ∧ w = w' := by
 have h0 := hp.c_cnt i hi
 have h1 := hp.c_st i hi
 have e2 : ((i : Int)).toNat = i := by omega
 unfold PM.freeB
 by_cases h : p.cnt i = 0
 ·go_enter Try.func59, Try.ntmps59
  go_wp2
  go_ret
  exact ⟨ret_bool (by simp [h]; rw [Bool.eq_iff_iff]; simp), rfl⟩
 ·go_enter Try.func59, Try.ntmps59
  go_wp2
  go_ret
  exact ⟨ret_bool (by simp [h]), rfl⟩


theorem thereB_pos {p : PM} {i : Int} (h : p.thereB i = true) : 0 ≤ i ∧ i < p.size := by simpa [PM.thereB] using h

theorem fresh_any {b : Nat} {p : PM} {w : World} (hp : PoolAt w b p) (i : Int) :
  Calls Try.prog 58 #[.pointer (some ⟨b, 0, none⟩), .int .i64 i] w fun e w' => e = .returned (.bool (p.freshB i)) ∧ w = w' := by
 unfold PM.freshB
 by_cases h : p.thereB i = true
 ·have hb := thereB_pos h
  have hsz := hp.hsize
  obtain ⟨n, rfl⟩ := Int.eq_ofNat_of_zero_le hb.1
  have h1 := hp.c_st n (by omega)
  have hn : (n : Int) < 240 := by omega
  by_cases h2 : p.st n = 1
  ·go_enter Try.func58, Try.ntmps58
   go_wp2_with fail
   refine (there_any hp _).mono ?_
   rintro e w' ⟨rfl, rfl⟩
   go_wp2_with fail
   go_ret
   exact ⟨ret_bool (by simp [h, h2]), rfl⟩
  ·go_enter Try.func58, Try.ntmps58
   go_wp2_with fail
   refine (there_any hp _).mono ?_
   rintro e w' ⟨rfl, rfl⟩
   go_wp2_with fail
   go_ret
   exact ⟨ret_bool (by rw [Bool.eq_iff_iff]; simp [h]; omega), rfl⟩
 ·have h' : p.thereB i = false := by simpa using h
  go_enter Try.func58, Try.ntmps58
  go_wp2_with fail
  refine (there_any hp _).mono ?_
  rintro e w' ⟨rfl, rfl⟩
  go_wp2_with fail
  go_ret
  exact ⟨ret_bool (by simp [h']), rfl⟩

theorem held_any {b : Nat} {p : PM} {w : World} (hp : PoolAt w b p) (i : Int) :
  Calls Try.prog 43 #[.pointer (some ⟨b, 0, none⟩), .int .i64 i] w fun e w' => e = .returned (.bool (p.heldB i)) ∧ w = w' := by
 unfold PM.heldB
 by_cases h : p.thereB i = true
 ·have hb := thereB_pos h
  have hsz := hp.hsize
  obtain ⟨n, rfl⟩ := Int.eq_ofNat_of_zero_le hb.1
  have h1 := hp.c_cnt n (by omega)
  have hn : (n : Int) < 240 := by omega
  by_cases h2 : 0 < p.cnt n
  ·go_enter Try.func43, Try.ntmps43
   go_wp2_with fail
   refine (there_any hp _).mono ?_
   rintro e w' ⟨rfl, rfl⟩
   go_wp2_with fail
   go_ret
   exact ⟨ret_bool (by simp [h, h2]), rfl⟩
  ·go_enter Try.func43, Try.ntmps43
   go_wp2_with fail
   refine (there_any hp _).mono ?_
   rintro e w' ⟨rfl, rfl⟩
   go_wp2_with fail
   refine (fresh_any hp _).mono ?_
   rintro e w' ⟨rfl, rfl⟩
   go_wp2_with fail
   go_ret
   exact ⟨ret_bool (by simp [h, h2]), rfl⟩
 ·have h' : p.thereB i = false := by simpa using h
  go_enter Try.func43, Try.ntmps43
  go_wp2_with fail
  refine (there_any hp _).mono ?_
  rintro e w' ⟨rfl, rfl⟩
  go_wp2_with fail
  go_ret
  exact ⟨ret_bool (by simp [h']), rfl⟩

def PM.countI (p : PM) (i : Int) : Int := if p.thereB i then (p.cnt i.toNat : Int) else 0
theorem count_any {b : Nat} {p : PM} {w : World} (hp : PoolAt w b p) (i : Int) :
  Calls Try.prog 57 #[.pointer (some ⟨b, 0, none⟩), .int .i64 i] w fun e w' => e = .returned (.int .i64 (p.countI i)) ∧ w = w' := by
 unfold PM.countI
 by_cases h : p.thereB i = true
 ·have hb := thereB_pos h
  have hsz := hp.hsize
  obtain ⟨n, rfl⟩ := Int.eq_ofNat_of_zero_le hb.1
  have h1 := hp.c_cnt n (by omega)
  have hc := hp.hcnt n
  have hn : (n : Int) < 240 := by omega
  go_enter Try.func57, Try.ntmps57
  go_wp2_with fail
  refine (there_any hp _).mono ?_
  rintro e w' ⟨rfl, rfl⟩
  go_wp2_with fail
  go_ret
  exact ⟨by simp, rfl⟩
 ·have h' : p.thereB i = false := by simpa using h
  go_enter Try.func57, Try.ntmps57
  go_wp2_with fail
  refine (there_any hp _).mono ?_
  rintro e w' ⟨rfl, rfl⟩
  go_wp2_with fail
  go_ret
  exact ⟨by simp, rfl⟩

def PM.freeN (p : PM) : Nat → Nat
 | 0 => 0
 | n + 1 => p.freeN n + (if p.freeB n then 1 else 0)
def PM.freeCount (p : PM) : Nat := p.freeN p.size

end Go.Proofs.Ytdcnogjbmdhgaaa
