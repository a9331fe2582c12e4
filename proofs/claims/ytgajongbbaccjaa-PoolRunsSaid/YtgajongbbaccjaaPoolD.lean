/-
  Take, Hold, Drop of a pool whatever is asked: one contract each, by functions of the model.
-/
import Derived.Test.YtgajongbbaccjaaPoolC
namespace Go.Proofs.Ytgajongbbaccjaa
open Go.RowKit
set_option maxRecDepth 100000

theorem PoolTo.refl {b : Nat} {p : PM} {w : World} (h : PoolAt w b p) : PoolTo b p w w := ⟨h, Kept.refl _ _⟩

/-- The first free page of the first n. -/
def PM.takeN (p : PM) : Nat → Option Nat
  | 0 => none
  | n + 1 => match p.takeN n with
    | some i => some i
    | none => if p.freeB n then some n else none
theorem PM.takeN_some {p : PM} {i : Nat} : ∀ {n}, p.takeN n = some i → i < n ∧ p.freeB i = true ∧ ∀ j, j < i → p.freeB j = false
  | 0, h => by simp [PM.takeN] at h
  | n + 1, h => by
    unfold PM.takeN at h
    cases hn : p.takeN n with
    | some k =>
      rw [hn] at h
      obtain rfl : k = i := by simpa using h
      obtain ⟨h1, h2, h3⟩ := PM.takeN_some hn
      exact ⟨by omega, h2, h3⟩
    | none =>
      rw [hn] at h
      dsimp only at h
      by_cases hf : p.freeB n = true
      · rw [if_pos hf] at h
        obtain rfl : n = i := by simpa using h
        refine ⟨by omega, hf, fun j hj => ?_⟩
        clear hf h
        induction n with
        | zero => omega
        | succ m ih =>
          unfold PM.takeN at hn
          cases hm : p.takeN m with
          | some k => rw [hm] at hn; simp at hn
          | none =>
            rw [hm] at hn
            dsimp only at hn
            by_cases hjm : j = m
            · subst hjm; by_cases hf : p.freeB j = true
              · rw [if_pos hf] at hn; cases hn
              · simpa using hf
            · exact ih hm (by omega)
      · rw [if_neg hf] at h; cases h
theorem PM.takeN_none {p : PM} : ∀ {n}, p.takeN n = none → ∀ j, j < n → p.freeB j = false
  | 0, _, j, hj => by omega
  | n + 1, h, j, hj => by
    unfold PM.takeN at h
    cases hn : p.takeN n with
    | some k => rw [hn] at h; simp at h
    | none =>
      rw [hn] at h
      dsimp only at h
      by_cases hjn : j = n
      · subst hjn; by_cases hf : p.freeB j = true
        · rw [if_pos hf] at h; cases h
        · simpa using hf
      · exact PM.takeN_none hn j (by omega)
def PM.takeIx (p : PM) : Option Nat := p.takeN p.size
def PM.takeTo (p : PM) : PM := match p.takeIx with | some i => p.setSt i 1 | none => p
def PM.takeAns (p : PM) : Nat := p.takeIx.getD 0
def PM.takeErr (p : PM) : Nat := match p.takeIx with | some _ => 0 | none => 71
theorem take_all {b : Nat} {p : PM} {w : World} (hp : PoolAt w b p) :
    Calls Try.prog 23 #[.pointer (some ⟨b, 0, none⟩)] w fun e w' => e = .returned (.tuple #[.int .i64 p.takeAns, .int .i64 p.takeErr]) ∧ PoolTo b p.takeTo w w' := by
  unfold PM.takeAns PM.takeErr PM.takeTo
  cases h : p.takeIx with
  | none =>
    refine (take_none hp (PM.takeN_none h)).mono ?_
    rintro e w' ⟨rfl, rfl⟩
    exact ⟨rfl, .refl hp⟩
  | some i =>
    obtain ⟨h1, h2, h3⟩ := PM.takeN_some h
    exact take_some hp i h1 h2 h3

def PM.holdTo (p : PM) (i : Int) : PM := if p.heldB i && decide (p.cnt i.toNat < 255) then p.setCnt i.toNat (p.cnt i.toNat + 1) else p
def PM.holdErr (p : PM) (i : Int) : Nat := if p.heldB i then (if p.cnt i.toNat < 255 then 0 else 72) else 73
theorem hold_all {b : Nat} {p : PM} {w : World} (hp : PoolAt w b p) (i : Int) :
    Calls Try.prog 24 #[.pointer (some ⟨b, 0, none⟩), .int .i64 i] w fun e w' => e = .returned (.int .i64 (p.holdErr i)) ∧ PoolTo b (p.holdTo i) w w' := by
  unfold PM.holdErr PM.holdTo
  by_cases h : p.heldB i = true
  · obtain ⟨n, rfl⟩ := Int.eq_ofNat_of_zero_le (heldB_pos h).1
    by_cases hc : p.cnt n < 255
    · simp only [h, hc, Int.toNat_natCast, if_true, decide_true, Bool.and_self]
      exact hold_ok hp n h hc
    · have hm := hp.hcnt n
      simp only [h, hc, Int.toNat_natCast, if_true, if_false, decide_false, Bool.and_false, Bool.false_eq_true]
      refine (hold_full hp n h (by omega)).mono ?_
      rintro e w' ⟨rfl, rfl⟩
      exact ⟨rfl, .refl hp⟩
  · have h' : p.heldB i = false := by simpa using h
    simp only [h', Bool.false_eq_true, if_false, Bool.false_and]
    refine (hold_free hp i h').mono ?_
    rintro e w' ⟨rfl, rfl⟩
    exact ⟨rfl, .refl hp⟩

def PM.dropAll (p : PM) (i : Int) : PM := if p.heldB i then p.dropTo i.toNat else p
def PM.dropGone (p : PM) (i : Int) : Bool := p.heldB i && decide (p.cnt i.toNat ≤ 1)
def PM.dropErr (p : PM) (i : Int) : Nat := if p.heldB i then 0 else 73
theorem drop_all {b : Nat} {p : PM} {w : World} (hp : PoolAt w b p) (i : Int) :
    Calls Try.prog 30 #[.pointer (some ⟨b, 0, none⟩), .int .i64 i] w fun e w' => e = .returned (.tuple #[.bool (p.dropGone i), .int .i64 (p.dropErr i)]) ∧ PoolTo b (p.dropAll i) w w' := by
  unfold PM.dropErr PM.dropAll PM.dropGone
  by_cases h : p.heldB i = true
  · obtain ⟨n, rfl⟩ := Int.eq_ofNat_of_zero_le (heldB_pos h).1
    simp only [h, Int.toNat_natCast, if_true, Bool.true_and]
    exact drop_held hp n h
  · have h' : p.heldB i = false := by simpa using h
    simp only [h', Bool.false_eq_true, if_false, Bool.false_and]
    refine (drop_free hp i h').mono ?_
    rintro e w' ⟨rfl, rfl⟩
    exact ⟨rfl, .refl hp⟩
end Go.Proofs.Ytgajongbbaccjaa
