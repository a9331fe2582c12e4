/-
  Plain laws of the pool's model: what is held at a commit stays; how many are free.
-/
import Derived.Test.YtgajongbbaccjaaPoolD
namespace Go.Proofs.Ytgajongbbaccjaa

theorem PM.heldB_nat {p : PM} {i : Int} (h : p.heldB i = true) : ∃ n : Nat, i = n ∧ n < p.size ∧ (0 < p.cnt n ∨ p.st n = 1 ∨ p.st n = 2) := by
  have hb := heldB_pos h
  obtain ⟨n, rfl⟩ := Int.eq_ofNat_of_zero_le hb.1
  refine ⟨n, rfl, by omega, ?_⟩
  simp only [PM.heldB, PM.freshB, Bool.and_eq_true, Bool.or_eq_true, decide_eq_true_eq, Int.toNat_natCast, beq_iff_eq] at h
  rcases h.2 with h | ⟨_, h⟩
  · exact .inl h
  · exact .inr h

/-- What was held when B was taken stays, or goes at the next commit. -/
structure SafeInv (p : PM) (B : Nat → Nat) : Prop where
  keep : ∀ i, 0 < B i → (0 < p.cnt i ∧ p.st i = 0) ∨ (p.cnt i = 0 ∧ p.st i = 4)
  out : ∀ i, p.size ≤ i → p.cnt i = 0

theorem SafeInv.take {p : PM} {B : Nat → Nat} (h : SafeInv p B) : SafeInv p.takeTo B ∧ ∀ i, p.takeIx = some i → B i = 0 := by
  unfold PM.takeTo
  cases ht : p.takeIx with
  | none => exact ⟨h, by simp⟩
  | some i =>
    obtain ⟨h1, h2, _⟩ := PM.takeN_some ht
    simp only [PM.freeB, Bool.and_eq_true, beq_iff_eq] at h2
    have hB : B i = 0 := by
      rcases Nat.eq_zero_or_pos (B i) with h0 | h0
      · exact h0
      · rcases h.keep i h0 with h3 | h3 <;> omega
    refine ⟨⟨fun j hj => ?_, h.out⟩, fun j hj => by injection hj with e; rw [← e]; exact hB⟩
    have hij : j ≠ i := fun e => by subst e; omega
    simp only [PM.setSt, if_neg hij]
    exact h.keep j hj
theorem SafeInv.hold {p : PM} {B : Nat → Nat} (h : SafeInv p B) (i : Int) : SafeInv (p.holdTo i) B := by
  unfold PM.holdTo
  split
  · rename_i hc
    simp only [Bool.and_eq_true, decide_eq_true_eq] at hc
    obtain ⟨n, rfl, hn, hh⟩ := PM.heldB_nat hc.1
    simp only [Int.toNat_natCast]
    refine ⟨fun j hj => ?_, fun j hj => ?_⟩
    · by_cases e : j = n
      · subst e
        simp only [PM.setCnt, if_true]
        rcases h.keep j hj with h3 | h3
        · exact .inl ⟨by omega, h3.2⟩
        · omega
      · simp only [PM.setCnt, if_neg e]; exact h.keep j hj
    · have hj' : p.size ≤ j := hj
      have e : j ≠ n := by omega
      simp only [PM.setCnt, if_neg e]; exact h.out j hj
  · exact h
theorem SafeInv.drop {p : PM} {B : Nat → Nat} (h : SafeInv p B) (i : Int) : SafeInv (p.dropAll i) B := by
  unfold PM.dropAll
  split
  · rename_i hc
    obtain ⟨n, rfl, hn, hh⟩ := PM.heldB_nat hc
    simp only [Int.toNat_natCast, PM.dropTo]
    split
    · refine ⟨fun j hj => ?_, fun j hj => ?_⟩
      · by_cases e : j = n
        · subst e
          simp only [PM.setCnt, if_true]
          rcases h.keep j hj with h3 | h3
          · exact .inl ⟨by omega, h3.2⟩
          · omega
        · simp only [PM.setCnt, if_neg e]; exact h.keep j hj
      · have hj' : p.size ≤ j := hj
        have e : j ≠ n := by omega
        simp only [PM.setCnt, if_neg e]; exact h.out j hj
    · refine ⟨fun j hj => ?_, fun j hj => ?_⟩
      · by_cases e : j = n
        · subst e
          simp only [PM.setCnt, PM.setSt, if_true]
          rcases h.keep j hj with h3 | h3
          · exact .inr ⟨trivial, by rw [h3.2]; rfl⟩
          · omega
        · simp only [PM.setCnt, PM.setSt, if_neg e]; exact h.keep j hj
      · have hj' : p.size ≤ j := hj
        have e : j ≠ n := by omega
        simp only [PM.setCnt, PM.setSt, if_neg e]; exact h.out j hj
  · exact h
theorem SafeInv.turn {p : PM} {B : Nat → Nat} (h : SafeInv p B) {fr to : Nat} (h0 : fr ≠ 0) (h4 : fr ≠ 4) : SafeInv (p.turned fr to) B := by
  refine ⟨fun j hj => ?_, h.out⟩
  have hk := h.keep j hj
  simp only [PM.turned]
  rcases hk with hk | hk
  · rw [if_neg (by omega)]; exact .inl hk
  · rw [if_neg (by omega)]; exact .inr hk
theorem SafeInv.commit {p : PM} {B : Nat → Nat} (h : SafeInv p B) : SafeInv p.committed p.cnt :=
  ⟨fun _ hj => .inl ⟨hj, rfl⟩, h.out⟩

/-- How many of the first n are held. -/
def heldN (c : Nat → Nat) : Nat → Nat
  | 0 => 0
  | n + 1 => heldN c n + (if 0 < c n then 1 else 0)
theorem heldN_le (c : Nat → Nat) : ∀ n, heldN c n ≤ n
  | 0 => Nat.le_refl _
  | n + 1 => by have := heldN_le c n; unfold heldN; split <;> omega
theorem free_held (p : PM) : ∀ n, p.committed.freeN n + heldN p.cnt n = n
  | 0 => rfl
  | n + 1 => by
    have := free_held p n
    unfold PM.freeN heldN
    have e : p.committed.freeB n = (p.cnt n == 0) := by simp [PM.freeB, PM.committed]
    rw [e]
    by_cases h : p.cnt n = 0
    · simp [h]; omega
    · simp [h]; split <;> omega
theorem heldN_out {c : Nat → Nat} {s : Nat} (h : ∀ i, s ≤ i → c i = 0) : ∀ n, s ≤ n → heldN c n = heldN c s := by
  intro n hn
  induction n with
  | zero =>
    have e : s = 0 := by omega
    rw [e]
  | succ n ih =>
    by_cases e : s = n + 1
    · rw [e]
    · show heldN c n + _ = _
      rw [h n (by omega), if_neg (by omega), ih (by omega)]
      rfl
theorem free_commit {p : PM} (hs : p.size ≤ 240) (h : ∀ i, p.size ≤ i → p.cnt i = 0) : (p.committed.freeCount : Int) = (p.size : Int) - heldN p.cnt 240 := by
  have := free_held p p.size
  rw [heldN_out h 240 hs]
  show ((p.committed.freeN p.size : Nat) : Int) = _
  omega

/-- A pool whose held pages are neither spent nor going. -/
def FrontInv (p : PM) : Prop := ∀ i, 0 < p.cnt i → p.st i = 0 ∨ p.st i = 1 ∨ p.st i = 2
theorem FrontInv.take {p : PM} (h : FrontInv p) : FrontInv p.takeTo := by
  unfold PM.takeTo
  cases ht : p.takeIx with
  | none => exact h
  | some i =>
    intro j hj
    by_cases e : j = i
    · simp [PM.setSt, e]
    · simp only [PM.setSt, if_neg e] at hj ⊢; exact h j hj
theorem FrontInv.hold {p : PM} (h : FrontInv p) (i : Int) : FrontInv (p.holdTo i) := by
  unfold PM.holdTo
  split
  · rename_i hc
    simp only [Bool.and_eq_true, decide_eq_true_eq] at hc
    obtain ⟨n, rfl, hn, hh⟩ := PM.heldB_nat hc.1
    intro j hj
    simp only [Int.toNat_natCast, PM.setCnt] at hj ⊢
    by_cases e : j = n
    · subst e
      rcases hh with hh | hh
      · exact h j hh
      · exact .inr hh
    · rw [if_neg e] at hj; exact h j hj
  · exact h
theorem FrontInv.drop {p : PM} (h : FrontInv p) (i : Int) : FrontInv (p.dropAll i) := by
  unfold PM.dropAll
  split
  · rename_i hc
    obtain ⟨n, rfl, hn, hh⟩ := PM.heldB_nat hc
    simp only [Int.toNat_natCast, PM.dropTo]
    split
    · intro j hj
      simp only [PM.setCnt] at hj ⊢
      by_cases e : j = n
      · subst e; exact h j (by omega)
      · rw [if_neg e] at hj; exact h j hj
    · intro j hj
      simp only [PM.setCnt, PM.setSt] at hj ⊢
      by_cases e : j = n
      · simp [e] at hj
      · rw [if_neg e] at hj ⊢; exact h j hj
  · exact h
theorem FrontInv.commit (p : PM) : FrontInv p.committed := fun _ _ => .inl rfl
theorem FrontInv.new (n : Nat) : FrontInv (PM.fresh0 n) := fun i hi => by simp [PM.fresh0] at hi

/-- What was held at a mark is held, or not free before a tidying or a commit. -/
def MarkInv (p : PM) (B : Nat → Nat) : Prop := ∀ i, 0 < B i → (0 < p.cnt i ∧ (p.st i = 0 ∨ p.st i = 2)) ∨ (p.cnt i = 0 ∧ (p.st i = 3 ∨ p.st i = 4))
theorem MarkInv.start {p : PM} (h : FrontInv p) : MarkInv (p.turned 1 2) p.cnt := by
  intro i hi
  refine .inl ⟨hi, ?_⟩
  simp only [PM.turned]
  rcases h i hi with h | h | h <;> simp [h]
theorem MarkInv.take {p : PM} {B : Nat → Nat} (h : MarkInv p B) : MarkInv p.takeTo B ∧ ∀ i, p.takeIx = some i → B i = 0 := by
  unfold PM.takeTo
  cases ht : p.takeIx with
  | none => exact ⟨h, by simp⟩
  | some i =>
    obtain ⟨h1, h2, _⟩ := PM.takeN_some ht
    simp only [PM.freeB, Bool.and_eq_true, beq_iff_eq] at h2
    have hB : B i = 0 := by
      rcases Nat.eq_zero_or_pos (B i) with h0 | h0
      · exact h0
      · rcases h i h0 with h3 | h3 <;> omega
    refine ⟨fun j hj => ?_, fun j hj => by injection hj with e; rw [← e]; exact hB⟩
    have hij : j ≠ i := fun e => by subst e; omega
    simp only [PM.setSt, if_neg hij]
    exact h j hj
theorem MarkInv.hold {p : PM} {B : Nat → Nat} (h : MarkInv p B) (i : Int) : MarkInv (p.holdTo i) B := by
  unfold PM.holdTo
  split
  · rename_i hc
    simp only [Bool.and_eq_true, decide_eq_true_eq] at hc
    obtain ⟨n, rfl, hn, hh⟩ := PM.heldB_nat hc.1
    simp only [Int.toNat_natCast]
    intro j hj
    by_cases e : j = n
    · subst e
      simp only [PM.setCnt, if_true]
      rcases h j hj with h3 | h3
      · exact .inl ⟨by omega, h3.2⟩
      · omega
    · simp only [PM.setCnt, if_neg e]; exact h j hj
  · exact h
theorem MarkInv.drop {p : PM} {B : Nat → Nat} (h : MarkInv p B) (i : Int) : MarkInv (p.dropAll i) B := by
  unfold PM.dropAll
  split
  · rename_i hc
    obtain ⟨n, rfl, hn, hh⟩ := PM.heldB_nat hc
    simp only [Int.toNat_natCast, PM.dropTo]
    split
    · intro j hj
      by_cases e : j = n
      · subst e
        simp only [PM.setCnt, if_true]
        rcases h j hj with h3 | h3
        · exact .inl ⟨by omega, h3.2⟩
        · omega
      · simp only [PM.setCnt, if_neg e]; exact h j hj
    · intro j hj
      by_cases e : j = n
      · subst e
        simp only [PM.setCnt, PM.setSt, if_true]
        refine .inr ⟨trivial, ?_⟩
        rcases h j hj with h3 | h3
        · rcases h3.2 with h4 | h4 <;> simp [h4, PM.lastSt]
        · omega
      · simp only [PM.setCnt, PM.setSt, if_neg e]; exact h j hj
  · exact h
theorem sz_take (p : PM) : p.takeTo.size = p.size := by unfold PM.takeTo; split <;> rfl
theorem sz_hold (p : PM) (i : Int) : (p.holdTo i).size = p.size := by unfold PM.holdTo; split <;> rfl
theorem sz_drop (p : PM) (i : Int) : (p.dropAll i).size = p.size := by unfold PM.dropAll PM.dropTo; split <;> (try split) <;> rfl
end Go.Proofs.Ytgajongbbaccjaa
