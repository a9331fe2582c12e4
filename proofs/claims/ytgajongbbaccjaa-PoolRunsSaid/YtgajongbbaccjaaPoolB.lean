/-
  The pool's functions that write: what each answers and leaves.
-/
import Derived.Test.YtgajongbbaccjaaPoolA
import Derived.RegionTactic
import Derived.ChangeAlike
namespace Go.Proofs.Ytgajongbbaccjaa
open Go.RowKit

def PM.setSt (p : PM) (i v : Nat) : PM := { p with st := fun j => if j = i then v else p.st j }
def PM.setCnt (p : PM) (i v : Nat) : PM := { p with cnt := fun j => if j = i then v else p.cnt j }

theorem PM.cells_size (p : PM) : p.cells.size = 481 := by simp [PM.cells]
theorem PM.cells_get (p : PM) (j : Nat) : p.cells[j]? = if j = 0 then some (.int .i64 p.size) else if j < 241 then some (.int .u8 (p.cnt (j - 1))) else if j < 481 then some (.int .u8 (p.st (j - 241))) else none := by
  by_cases h0 : j = 0
  · subst h0; rfl
  · rw [if_neg h0]
    by_cases h1 : j < 241
    · have := p.cell_cnt (j - 1) (by omega)
      rw [show 1 + (j - 1) = j by omega] at this
      rw [if_pos h1, this]
    · rw [if_neg h1]
      by_cases h2 : j < 481
      · have := p.cell_st (j - 241) (by omega)
        rw [show 241 + (j - 241) = j by omega] at this
        rw [if_pos h2, this]
      · rw [if_neg h2, Array.getElem?_eq_none (by rw [p.cells_size]; omega)]
theorem PM.cells_setSt (p : PM) (i v : Nat) (hi : i < 240) : p.cells.setIfInBounds (241 + i) (.int .u8 v) = (p.setSt i v).cells := by
  apply Array.ext_getElem?
  intro j
  rw [Array.getElem?_setIfInBounds, PM.cells_get, PM.cells_get, p.cells_size]
  by_cases h : 241 + i = j
  · subst h
    simp [PM.setSt, show 241 + i < 481 by omega]
    omega
  · have h0 : j < 481 → ¬ j < 241 → ¬ (j - 241 = i) := by omega
    simp only [h, if_false, PM.setSt]
    split
    · rfl
    · split
      · rfl
      · split
        · rw [if_neg (h0 (by assumption) (by assumption))]
        · rfl
theorem PM.cells_setCnt (p : PM) (i v : Nat) (hi : i < 240) : p.cells.setIfInBounds (1 + i) (.int .u8 v) = (p.setCnt i v).cells := by
  apply Array.ext_getElem?
  intro j
  rw [Array.getElem?_setIfInBounds, PM.cells_get, PM.cells_get, p.cells_size]
  by_cases h : 1 + i = j
  · subst h
    simp [PM.setCnt, show 1 + i < 481 by omega]
    omega
  · have h0 : j < 241 → ¬ j = 0 → ¬ (j - 1 = i) := by omega
    simp only [h, if_false, PM.setCnt]
    split
    · rfl
    · split
      · rw [if_neg (h0 (by assumption) (by assumption))]
      · rfl
theorem PoolAt.setSt {w : World} {b : Nat} {p : PM} (h : PoolAt w b p) (i v : Nat) (hi : i < 240) (hv : v ≤ 4) :
    PoolAt (w.setCell ⟨b, 241 + i, none⟩ (.int .u8 v)) b (p.setSt i v) :=
  ⟨by rw [heap_setCell_same h.heap, p.cells_setSt i v hi], h.hsize, h.hcnt, fun j => by unfold PM.setSt; dsimp only; split; exact hv; exact h.hst j⟩
theorem PoolAt.setCnt {w : World} {b : Nat} {p : PM} (h : PoolAt w b p) (i v : Nat) (hi : i < 240) (hv : v ≤ 255) :
    PoolAt (w.setCell ⟨b, 1 + i, none⟩ (.int .u8 v)) b (p.setCnt i v) :=
  ⟨by rw [heap_setCell_same h.heap, p.cells_setCnt i v hi], h.hsize, fun j => by unfold PM.setCnt; dsimp only; split; exact hv; exact h.hcnt j, h.hst⟩
theorem PoolAt.drew {w : World} {b : Nat} {p : PM} (h : PoolAt w b p) : PoolAt w.drew b p := ⟨h.heap, h.hsize, h.hcnt, h.hst⟩
theorem PoolAt.drewN {w : World} {b : Nat} {p : PM} (n : Nat) (h : PoolAt w b p) : PoolAt (w.drewN n) b p := ⟨h.heap, h.hsize, h.hcnt, h.hst⟩

theorem kept_set {w : World} {b o : Nat} {v : Value} : Kept (fun k => k = b) w (w.setCell ⟨b, o, none⟩ v) :=
  Kept.setCell (S := fun k => k = b) (Kept.refl _ _) (p := ⟨b, o, none⟩) rfl _

/-- What a call that changes the pool at b alone leaves. -/
structure PoolTo (b : Nat) (p' : PM) (w w' : World) : Prop where
  pool : PoolAt w' b p'
  kept : Kept (fun k => k = b) w w'

set_option maxRecDepth 100000

theorem take_none {b : Nat} {p : PM} {w : World} (hp : PoolAt w b p) (hall : ∀ j, j < p.size → p.freeB j = false) :
    Calls Try.prog 23 #[.pointer (some ⟨b, 0, none⟩)] w fun e w' => e = .returned (.tuple #[.int .i64 0, .int .i64 71]) ∧ w = w' := by
  have h0 := hp.c_size
  have hsz := hp.hsize
  have hall' := Lib.hid hall; clear hall
  go_enter Try.func23, Try.ntmps23
  go_wp2_with fail
  go_loop [9] (fun i => ∃ k : Nat, k ≤ p.size ∧ i = .int .i64 k) (fun i => p.size - (intOf i).toNat)
  case atStart => exact ⟨0, Nat.zero_le _, rfl⟩
  case round =>
    obtain ⟨k, hk, rfl⟩ := hrel
    by_cases hlt : k < p.size
    · have hf' : p.freeB k = false := hall'.out k hlt
      go_wp2_with fail
      refine (free_any hp k (by omega)).mono ?_
      rintro e w' ⟨rfl, rfl⟩
      go_wp2_with fail
      go_round
      case rel => exact ⟨k + 1, by omega, by go_num⟩
      case measure => simp [intOf]; omega
    · go_wp2_with fail
      go_ret2
      exact ⟨rfl, rfl⟩

theorem take_some {b : Nat} {p : PM} {w : World} (hp : PoolAt w b p) (i : Nat) (hi : i < p.size) (hf : p.freeB i = true) (hall : ∀ j, j < i → p.freeB j = false) :
    Calls Try.prog 23 #[.pointer (some ⟨b, 0, none⟩)] w fun e w' => e = .returned (.tuple #[.int .i64 i, .int .i64 0]) ∧ PoolTo b (p.setSt i 1) w w' := by
  have h0 := hp.c_size
  have hsz := hp.hsize
  have hall' := Lib.hid hall; clear hall
  go_enter Try.func23, Try.ntmps23
  go_wp2_with fail
  go_loop [9] (fun x => ∃ k : Nat, k ≤ i ∧ x = .int .i64 k) (fun x => p.size - (intOf x).toNat)
  case atStart => exact ⟨0, Nat.zero_le _, rfl⟩
  case round =>
    obtain ⟨k, hk, rfl⟩ := hrel
    by_cases hlt : k < i
    · have hf' : p.freeB k = false := hall'.out k hlt
      have hlt2 : k < p.size := by omega
      go_wp2_with fail
      refine (free_any hp k (by omega)).mono ?_
      rintro e w' ⟨rfl, rfl⟩
      go_wp2_with fail
      go_round
      case rel => exact ⟨k + 1, by omega, by go_num⟩
      case measure => simp [intOf]; omega
    · obtain rfl : k = i := by omega
      have hc := hp.c_st k (by omega)
      have hz := hp.free (241 + k)
      have hn : (k : Int) < 240 := by omega
      go_wp2_with fail
      refine (free_any hp k (by omega)).mono ?_
      rintro e w' ⟨rfl, rfl⟩
      go_wp2_with fail
      go_ret2
      exact ⟨rfl, hp.setSt k 1 (by omega) (by omega), kept_set⟩

theorem hold_free {b : Nat} {p : PM} {w : World} (hp : PoolAt w b p) (i : Int) (hh : p.heldB i = false) :
    Calls Try.prog 24 #[.pointer (some ⟨b, 0, none⟩), .int .i64 i] w fun e w' => e = .returned (.int .i64 73) ∧ w = w' := by
  go_enter Try.func24, Try.ntmps24
  go_wp2_with fail
  refine (held_any hp _).mono ?_
  rintro e w' ⟨rfl, rfl⟩
  go_wp2_with fail
  go_ret
  exact ⟨rfl, rfl⟩
theorem heldB_pos {p : PM} {i : Int} (h : p.heldB i = true) : 0 ≤ i ∧ i < p.size := by
  unfold PM.heldB at h
  exact thereB_pos (by simp_all)
theorem hold_full {b : Nat} {p : PM} {w : World} (hp : PoolAt w b p) (i : Nat) (hh : p.heldB i = true) (hc : p.cnt i = 255) :
    Calls Try.prog 24 #[.pointer (some ⟨b, 0, none⟩), .int .i64 i] w fun e w' => e = .returned (.int .i64 72) ∧ w = w' := by
  have hb := heldB_pos hh
  have hsz := hp.hsize
  have h1 := hp.c_cnt i (by omega)
  rw [hc] at h1
  have hn : (i : Int) < 240 := by omega
  go_enter Try.func24, Try.ntmps24
  go_wp2_with fail
  refine (held_any hp _).mono ?_
  rintro e w' ⟨rfl, rfl⟩
  go_wp2_with fail
  go_ret
  exact ⟨rfl, rfl⟩
theorem hold_ok {b : Nat} {p : PM} {w : World} (hp : PoolAt w b p) (i : Nat) (hh : p.heldB i = true) (hc : p.cnt i < 255) :
    Calls Try.prog 24 #[.pointer (some ⟨b, 0, none⟩), .int .i64 i] w fun e w' => e = .returned (.int .i64 0) ∧ PoolTo b (p.setCnt i (p.cnt i + 1)) w w' := by
  have hb := heldB_pos hh
  have hsz := hp.hsize
  have h1 := hp.c_cnt i (by omega)
  have hz := hp.free (1 + i)
  have hn : (i : Int) < 240 := by omega
  go_enter Try.func24, Try.ntmps24
  go_wp2_with fail
  refine (held_any hp _).mono ?_
  rintro e w' ⟨rfl, rfl⟩
  go_wp2_with fail
  go_region
  all_goals go_wp2_with fail
  all_goals go_ret
  exact ⟨rfl, (hp.setCnt i (p.cnt i + 1) (by omega) (by omega)).drew, kept_set.drew⟩

theorem drop_free {b : Nat} {p : PM} {w : World} (hp : PoolAt w b p) (i : Int) (hh : p.heldB i = false) :
    Calls Try.prog 30 #[.pointer (some ⟨b, 0, none⟩), .int .i64 i] w fun e w' => e = .returned (.tuple #[.bool false, .int .i64 73]) ∧ w = w' := by
  go_enter Try.func30, Try.ntmps30
  go_wp2_with fail
  refine (held_any hp _).mono ?_
  rintro e w' ⟨rfl, rfl⟩
  go_wp2_with fail
  go_ret2
  exact ⟨rfl, rfl⟩
theorem drop_less {b : Nat} {p : PM} {w : World} (hp : PoolAt w b p) (i : Nat) (hh : p.heldB i = true) (hc : 1 < p.cnt i) :
    Calls Try.prog 30 #[.pointer (some ⟨b, 0, none⟩), .int .i64 i] w fun e w' => e = .returned (.tuple #[.bool false, .int .i64 0]) ∧ PoolTo b (p.setCnt i (p.cnt i - 1)) w w' := by
  have hb := heldB_pos hh
  have hsz := hp.hsize
  have h1 := hp.c_cnt i (by omega)
  have hm := hp.hcnt i
  have hz := hp.free (1 + i)
  have hn : (i : Int) < 240 := by omega
  go_enter Try.func30, Try.ntmps30
  go_wp2_with fail
  refine (held_any hp _).mono ?_
  rintro e w' ⟨rfl, rfl⟩
  go_wp2_with fail
  go_region
  all_goals go_wp2_with fail
  all_goals go_ret2
  have e1 : ((p.cnt i - 1 : Nat) : Int) = (p.cnt i : Int) - 1 := by omega
  refine ⟨rfl, ?_, kept_set.drew⟩
  have := (hp.setCnt i (p.cnt i - 1) (by omega) (by omega)).drew
  rw [e1] at this
  exact this

def PM.lastSt (s : Nat) : Nat := if s = 1 then 0 else if s = 2 then 3 else 4
theorem drop_last1 {b : Nat} {p : PM} {w : World} (hp : PoolAt w b p) (i : Nat) (hh : p.heldB i = true) (hc : p.cnt i = 1) :
    Calls Try.prog 30 #[.pointer (some ⟨b, 0, none⟩), .int .i64 i] w fun e w' => e = .returned (.tuple #[.bool true, .int .i64 0]) ∧ PoolTo b ((p.setCnt i 0).setSt i (PM.lastSt (p.st i))) w w' := by
  have hb := heldB_pos hh
  have hsz := hp.hsize
  have h1 := hp.c_cnt i (by omega)
  have h2 := hp.c_st i (by omega)
  rw [hc] at h1
  have hz := hp.free (1 + i)
  have hz2 := hp.free (241 + i)
  have hn : (i : Int) < 240 := by omega
  have hs := hp.hst i
  unfold PM.lastSt
  rcases (by omega : p.st i = 1 ∨ p.st i = 2 ∨ (p.st i ≠ 1 ∧ p.st i ≠ 2)) with h | h | ⟨h, h'⟩
  · go_enter Try.func30, Try.ntmps30
    go_wp2_with fail
    refine (held_any hp _).mono ?_
    rintro e w' ⟨rfl, rfl⟩
    go_wp2_with fail
    go_region
    all_goals go_wp2_with fail
    all_goals go_ret2
    exact ⟨rfl, ((hp.setCnt i 0 (by omega) (by omega)).setSt i 0 (by omega) (by omega)).drew, (kept_set.trans kept_set).drew⟩
  · go_enter Try.func30, Try.ntmps30
    go_wp2_with fail
    refine (held_any hp _).mono ?_
    rintro e w' ⟨rfl, rfl⟩
    go_wp2_with fail
    go_region
    all_goals go_wp2_with fail
    all_goals go_ret2
    exact ⟨rfl, ((hp.setCnt i 0 (by omega) (by omega)).setSt i 3 (by omega) (by omega)).drew, (kept_set.trans kept_set).drew⟩
  · go_enter Try.func30, Try.ntmps30
    go_wp2_with fail
    refine (held_any hp _).mono ?_
    rintro e w' ⟨rfl, rfl⟩
    go_wp2_with fail
    go_region
    all_goals go_wp2_with fail
    all_goals go_ret2
    exact ⟨rfl, ((hp.setCnt i 0 (by omega) (by omega)).setSt i 4 (by omega) (by omega)).drew, (kept_set.trans kept_set).drew⟩
theorem PM.setCnt_same {p : PM} {i v : Nat} (h : p.cnt i = v) : p.setCnt i v = p := by
  cases p
  simp only [PM.setCnt, PM.mk.injEq, true_and, and_true] at *
  funext j
  split
  · subst_vars; rfl
  · rfl
theorem drop_last0 {b : Nat} {p : PM} {w : World} (hp : PoolAt w b p) (i : Nat) (hh : p.heldB i = true) (hc : p.cnt i = 0) :
    Calls Try.prog 30 #[.pointer (some ⟨b, 0, none⟩), .int .i64 i] w fun e w' => e = .returned (.tuple #[.bool true, .int .i64 0]) ∧ PoolTo b ((p.setCnt i 0).setSt i (PM.lastSt (p.st i))) w w' := by
  have hb := heldB_pos hh
  have hsz := hp.hsize
  have h1 := hp.c_cnt i (by omega)
  have h2 := hp.c_st i (by omega)
  rw [hc] at h1
  rw [PM.setCnt_same hc]
  have hz := hp.free (1 + i)
  have hz2 := hp.free (241 + i)
  have hn : (i : Int) < 240 := by omega
  have hs := hp.hst i
  have hor : p.st i = 1 ∨ p.st i = 2 := by
    simp only [PM.heldB, PM.freshB, Bool.and_eq_true, Bool.or_eq_true, decide_eq_true_eq, Int.toNat_natCast, beq_iff_eq] at hh
    omega
  unfold PM.lastSt
  rcases hor with h | h
  · go_enter Try.func30, Try.ntmps30
    go_wp2_with fail
    refine (held_any hp _).mono ?_
    rintro e w' ⟨rfl, rfl⟩
    go_wp2_with fail
    go_ret2
    exact ⟨rfl, (hp.setSt i 0 (by omega) (by omega)), kept_set⟩
  · go_enter Try.func30, Try.ntmps30
    go_wp2_with fail
    refine (held_any hp _).mono ?_
    rintro e w' ⟨rfl, rfl⟩
    go_wp2_with fail
    go_ret2
    exact ⟨rfl, (hp.setSt i 3 (by omega) (by omega)), kept_set⟩
/-- A pool behind a drop of a page that is held. -/
def PM.dropTo (p : PM) (i : Nat) : PM := if 1 < p.cnt i then p.setCnt i (p.cnt i - 1) else (p.setCnt i 0).setSt i (PM.lastSt (p.st i))
theorem drop_held {b : Nat} {p : PM} {w : World} (hp : PoolAt w b p) (i : Nat) (hh : p.heldB i = true) :
    Calls Try.prog 30 #[.pointer (some ⟨b, 0, none⟩), .int .i64 i] w fun e w' => e = .returned (.tuple #[.bool (decide (p.cnt i ≤ 1)), .int .i64 0]) ∧ PoolTo b (p.dropTo i) w w' := by
  unfold PM.dropTo
  by_cases h : 1 < p.cnt i
  · rw [if_pos h, show decide (p.cnt i ≤ 1) = false by simpa using h]
    exact drop_less hp i hh h
  · rw [if_neg h, show decide (p.cnt i ≤ 1) = true by simpa using h]
    by_cases h0 : p.cnt i = 0
    · exact drop_last0 hp i hh h0
    · exact drop_last1 hp i hh (by omega)
end Go.Proofs.Ytgajongbbaccjaa
