/-
  The document's pool: Take, Hold, Drop.
-/
import Derived.Test.YtgajongbbaccjaaRefA
namespace Go.Proofs.Ytgajongbbaccjaa
open Go.RowKit
set_option maxRecDepth 100000

theorem refFree_leaf (p : PM) (i : Nat) (hst : p.st i ≤ 4) (w : World) :
    Calls Try.prog 86 #[.agg #[.int .i64 (p.cnt i), .bool (p.st i == 1), .bool (p.st i == 2), .bool (p.st i == 3), .bool (p.st i == 4)]] w fun e w' => e = .returned (.bool (p.freeB i)) ∧ Kept (fun _ => False) w w' := by
  rw [← leaf_free hst]
  exact refFree_any _ _ _ _ _ w

/-- What a call that hands back pages leaves: they are there, and nothing else has changed; the block is a new one, or the one that came in. -/
structure LeavesTo (v v' : Value) (p' : PM) (w w' : World) : Prop where
  at_ : LeavesAt w' v' p'
  own : ∀ b, v'.ownBlock = some b → v.ownBlock = some b ∨ (w.heap.size ≤ b ∧ b < w'.heap.size)
  kept : Kept (fun _ => False) w w'
theorem LeavesNew.to {v v' : Value} {p' : PM} {w w1 w' : World} (k : Kept (fun _ => False) w w1) (h : LeavesNew v' p' w1 w') : LeavesTo v v' p' w w' :=
  ⟨h.at_, fun b hb => .inr ⟨Nat.le_trans k.size (h.new b hb).1, (h.new b hb).2⟩, k.trans h.kept⟩

theorem leafCells_other {p : PM} {i j v : Nat} (h : j ≠ i) : leafCells (p.setSt i v) j = leafCells p j ∧ leafCells (p.setCnt i v) j = leafCells p j := by
  simp [leafCells, PM.setSt, PM.setCnt, h]

theorem refTake_none {A : Option Addr} {n cap : Nat} {p : PM} {w : World} (h : LeavesAt w (.slice A n cap) p) (hs : p.size ≤ 240) (hst : ∀ i, p.st i ≤ 4) (hall : ∀ j, j < p.size → p.freeB j = false) :
    Calls Try.prog 38 #[.slice A n cap] w fun e w' => e = .returned (.tuple #[.slice A n cap, .int .i64 0, .int .i64 71]) ∧ Kept (fun _ => False) w w' := by
  obtain rfl := h.size
  have h' := Lib.hid h; clear h
  have hall' := Lib.hid hall; clear hall
  have hst' := Lib.hid hst; clear hst
  go_enter Try.func38, Try.ntmps38
  go_wp2_with fail
  go_loopw [9] (fun i wr => ∃ k : Nat, k ≤ p.size ∧ i = .int .i64 k ∧ Kept (fun _ => False) w wr) (fun i _ => p.size - (intOf i).toNat)
  case atStart => exact ⟨0, Nat.zero_le _, rfl, Kept.refl _ _⟩
  case round =>
    obtain ⟨k, hk, rfl, hkk⟩ := hrel
    by_cases hlt : k < p.size
    · have hf := fun wx => refFree_leaf p k (hst'.out k) wx
      rw [hall'.out k hlt] at hf
      have hf' := Lib.hid hf; clear hf
      obtain ⟨b, off, rfl, hbl, c0, c1, c2, c3, c4⟩ := LeavesAt.cells (h'.out.fresh hkk) hlt
      have hka := fun o => hkk.alloc o
      have hka' := Lib.hid hka; clear hka
      go_wp2_with fail
      refine (hf'.out _).mono ?_
      rintro e w5 ⟨rfl, k5⟩
      have k6 := (hka'.out _).trans k5
      go_wp2_with fail
      go_roundw
      case rel => exact ⟨k + 1, by omega, by go_num, k6⟩
      case measure => simp [intOf]; omega
    · go_wp2_with fail
      go_ret3
      exact ⟨rfl, hkk⟩
theorem refTake_some {A : Option Addr} {n cap : Nat} {p : PM} {w : World} (h : LeavesAt w (.slice A n cap) p) (hs : p.size ≤ 240) (hst : ∀ i, p.st i ≤ 4) (i : Nat) (hi : i < p.size) (hfi : p.freeB i = true) (hall : ∀ j, j < i → p.freeB j = false) :
    Calls Try.prog 38 #[.slice A n cap] w fun e w' => ∃ v, e = .returned (.tuple #[v, .int .i64 i, .int .i64 0]) ∧ LeavesTo (.slice A n cap) v (p.setSt i 1) w w' := by
  obtain rfl := h.size
  have h' := Lib.hid h; clear h
  have hall' := Lib.hid hall; clear hall
  have hst' := Lib.hid hst; clear hst
  have hfi' := Lib.hid hfi; clear hfi
  have hleaf : Hid (leafCells (p.setSt i 1) i = [.int .i64 0, .bool true, .bool false, .bool false, .bool false]) := by
    have := hfi'.out
    simp only [PM.freeB, Bool.and_eq_true, beq_iff_eq] at this
    simp [Hid, leafCells, PM.setSt, this.1]
  go_enter Try.func38, Try.ntmps38
  go_wp2_with fail
  go_loopw [9] (fun x wr => ∃ k : Nat, k ≤ i ∧ x = .int .i64 k ∧ Kept (fun _ => False) w wr) (fun x _ => p.size - (intOf x).toNat)
  case atStart => exact ⟨0, Nat.zero_le _, rfl, Kept.refl _ _⟩
  case round =>
    obtain ⟨k, hk, rfl, hkk⟩ := hrel
    have hlt : k < p.size := by omega
    have hf := fun wx => refFree_leaf p k (hst'.out k) wx
    have hka := fun o => hkk.alloc o
    have hka' := Lib.hid hka; clear hka
    by_cases hki : k < i
    · rw [hall'.out k hki] at hf
      have hf' := Lib.hid hf; clear hf
      obtain ⟨b, off, rfl, hbl, c0, c1, c2, c3, c4⟩ := LeavesAt.cells (h'.out.fresh hkk) hlt
      go_wp2_with fail
      refine (hf'.out _).mono ?_
      rintro e w5 ⟨rfl, k5⟩
      have k6 := (hka'.out _).trans k5
      go_wp2_with fail
      go_roundw
      case rel => exact ⟨k + 1, by omega, by go_num, k6⟩
      case measure => simp [intOf]; omega
    · obtain rfl : k = i := by omega
      rw [hfi'.out] at hf
      have hf' := Lib.hid hf; clear hf
      obtain ⟨b, off, rfl, hbl, c0, c1, c2, c3, c4⟩ := LeavesAt.cells (h'.out.fresh hkk) hlt
      go_wp2_with fail
      refine (hf'.out _).mono ?_
      rintro e w5 ⟨rfl, k5⟩
      have k6 := (hka'.out _).trans k5
      have hc := change_any (p' := p.setSt k 1) (h'.out.fresh k6) hs k hlt rfl (fun j _ hj => (leafCells_other hj).1)
      rw [hleaf.out] at hc
      have hc' := Lib.hid hc; clear hc
      go_wp2_with fail
      refine (hc'.out).mono ?_
      rintro e w7 ⟨v, rfl, h7⟩
      go_wp2_with fail
      go_ret3
      exact ⟨v, rfl, h7.to k6⟩

theorem refHold_free {A : Option Addr} {n cap : Nat} {p : PM} {w : World} (h : LeavesAt w (.slice A n cap) p) (hs : p.size ≤ 240) (i : Int) (hh : p.heldB i = false) :
    Calls Try.prog 39 #[.slice A n cap, .int .i64 i] w fun e w' => e = .returned (.tuple #[.slice A n cap, .int .i64 73]) ∧ w = w' := by
  have hd := refHeld_any h hs i
  rw [hh] at hd
  have hd' := Lib.hid hd; clear hd
  have h' := Lib.hid h; clear h
  go_enter Try.func39, Try.ntmps39
  go_wp2_with fail
  refine (hd'.out).mono ?_
  rintro e w1 ⟨rfl, rfl⟩
  go_wp2_with fail
  go_ret2
  exact ⟨rfl, rfl⟩
theorem refHold_full {A : Option Addr} {n cap : Nat} {p : PM} {w : World} (h : LeavesAt w (.slice A n cap) p) (hs : p.size ≤ 240) (i : Nat) (hh : p.heldB i = true) (hc : p.cnt i = 255) :
    Calls Try.prog 39 #[.slice A n cap, .int .i64 i] w fun e w' => e = .returned (.tuple #[.slice A n cap, .int .i64 72]) ∧ Kept (fun _ => False) w w' := by
  obtain rfl := h.size
  have hb := heldB_pos hh
  have hi : i < p.size := by omega
  have hd := refHeld_any h hs i
  rw [hh] at hd
  have hd' := Lib.hid hd; clear hd
  obtain ⟨b, off, rfl, hbl, c0, c1, c2, c3, c4⟩ := h.cells hi
  rw [hc] at c0
  have h' := Lib.hid h; clear h
  have hc' := Lib.hid hc; clear hc
  go_enter Try.func39, Try.ntmps39
  go_wp2_with fail
  refine (hd'.out).mono ?_
  rintro e w1 ⟨rfl, rfl⟩
  go_wp2_with fail
  go_ret2
  exact ⟨rfl, (Kept.refl _ _).alloc _⟩
theorem refHold_ok {A : Option Addr} {n cap : Nat} {p : PM} {w : World} (h : LeavesAt w (.slice A n cap) p) (hs : p.size ≤ 240) (i : Nat) (hh : p.heldB i = true) (hc : p.cnt i < 255) :
    Calls Try.prog 39 #[.slice A n cap, .int .i64 i] w fun e w' => ∃ v, e = .returned (.tuple #[v, .int .i64 0]) ∧ LeavesTo (.slice A n cap) v (p.setCnt i (p.cnt i + 1)) w w' := by
  obtain rfl := h.size
  have hb := heldB_pos hh
  have hi : i < p.size := by omega
  have hd := refHeld_any h hs i
  rw [hh] at hd
  have hd' := Lib.hid hd; clear hd
  obtain ⟨b, off, rfl, hbl, c0, c1, c2, c3, c4⟩ := h.cells hi
  have hleaf : Hid (leafCells (p.setCnt i (p.cnt i + 1)) i = [.int .i64 ((p.cnt i : Int) + 1), .bool (p.st i == 1), .bool (p.st i == 2), .bool (p.st i == 3), .bool (p.st i == 4)]) := by
    simp [Hid, leafCells, PM.setCnt]
  have hch := fun o => change_any (p' := p.setCnt i (p.cnt i + 1)) (h.fresh ((Kept.refl (fun _ => False) w).alloc o)) hs i hi rfl (fun j _ hj => (leafCells_other hj).2)
  rw [hleaf.out] at hch
  have hch' := Lib.hid hch; clear hch
  have h' := Lib.hid h; clear h
  go_enter Try.func39, Try.ntmps39
  go_wp2_with fail
  refine (hd'.out).mono ?_
  rintro e w1 ⟨rfl, rfl⟩
  go_wp2_with fail
  refine (hch'.out _).mono ?_
  rintro e w2 ⟨v, rfl, h2⟩
  go_wp2_with fail
  go_ret2
  exact ⟨v, rfl, h2.to ((Kept.refl _ _).alloc _)⟩

theorem refDrop_free {A : Option Addr} {n cap : Nat} {p : PM} {w : World} (h : LeavesAt w (.slice A n cap) p) (hs : p.size ≤ 240) (i : Int) (hh : p.heldB i = false) :
    Calls Try.prog 40 #[.slice A n cap, .int .i64 i] w fun e w' => e = .returned (.tuple #[.slice A n cap, .bool false, .int .i64 73]) ∧ w = w' := by
  have hd := refHeld_any h hs i
  rw [hh] at hd
  have hd' := Lib.hid hd; clear hd
  have h' := Lib.hid h; clear h
  go_enter Try.func40, Try.ntmps40
  go_wp2_with fail
  refine (hd'.out).mono ?_
  rintro e w1 ⟨rfl, rfl⟩
  go_wp2_with fail
  go_ret3
  exact ⟨rfl, rfl⟩
theorem refDrop_less {A : Option Addr} {n cap : Nat} {p : PM} {w : World} (h : LeavesAt w (.slice A n cap) p) (hs : p.size ≤ 240) (i : Nat) (hh : p.heldB i = true) (hc : 1 < p.cnt i) (hm : p.cnt i ≤ 255) :
    Calls Try.prog 40 #[.slice A n cap, .int .i64 i] w fun e w' => ∃ v, e = .returned (.tuple #[v, .bool false, .int .i64 0]) ∧ LeavesTo (.slice A n cap) v (p.setCnt i (p.cnt i - 1)) w w' := by
  obtain rfl := h.size
  have hb := heldB_pos hh
  have hi : i < p.size := by omega
  have hd := refHeld_any h hs i
  rw [hh] at hd
  have hd' := Lib.hid hd; clear hd
  obtain ⟨b, off, rfl, hbl, c0, c1, c2, c3, c4⟩ := h.cells hi
  have hleaf : Hid (leafCells (p.setCnt i (p.cnt i - 1)) i = [.int .i64 ((p.cnt i : Int) - 1), .bool (p.st i == 1), .bool (p.st i == 2), .bool (p.st i == 3), .bool (p.st i == 4)]) := by
    simp [Hid, leafCells, PM.setCnt]; omega
  have hch := fun o => change_any (p' := p.setCnt i (p.cnt i - 1)) (h.fresh ((Kept.refl (fun _ => False) w).alloc o)) hs i hi rfl (fun j _ hj => (leafCells_other hj).2)
  rw [hleaf.out] at hch
  have hch' := Lib.hid hch; clear hch
  have h' := Lib.hid h; clear h
  go_enter Try.func40, Try.ntmps40
  go_wp2_with fail
  refine (hd'.out).mono ?_
  rintro e w1 ⟨rfl, rfl⟩
  go_wp2_with fail
  refine (hch'.out _).mono ?_
  rintro e w2 ⟨v, rfl, h2⟩
  go_wp2_with fail
  go_ret3
  exact ⟨v, rfl, h2.to ((Kept.refl _ _).alloc _)⟩
theorem leafCells_last {p : PM} {i : Nat} : leafCells ((p.setCnt i 0).setSt i (PM.lastSt (p.st i))) i = [.int .i64 0, .bool false, .bool false, .bool (p.st i == 2), .bool (!(p.st i == 1) && !(p.st i == 2))] := by
  simp only [leafCells, PM.setSt, PM.setCnt, if_true, PM.lastSt]
  by_cases h1 : p.st i = 1
  · simp [h1]
  · by_cases h2 : p.st i = 2
    · simp [h2]
    · simp [h1, h2]
theorem refDrop_last {A : Option Addr} {n cap : Nat} {p : PM} {w : World} (h : LeavesAt w (.slice A n cap) p) (hs : p.size ≤ 240) (i : Nat) (hh : p.heldB i = true) (hc : p.cnt i ≤ 1) :
    Calls Try.prog 40 #[.slice A n cap, .int .i64 i] w fun e w' => ∃ v, e = .returned (.tuple #[v, .bool true, .int .i64 0]) ∧ LeavesTo (.slice A n cap) v ((p.setCnt i 0).setSt i (PM.lastSt (p.st i))) w w' := by
  obtain rfl := h.size
  have hb := heldB_pos hh
  have hi : i < p.size := by omega
  have hd := refHeld_any h hs i
  rw [hh] at hd
  have hd' := Lib.hid hd; clear hd
  obtain ⟨b, off, rfl, hbl, c0, c1, c2, c3, c4⟩ := h.cells hi
  have hch := fun o => change_any (p' := (p.setCnt i 0).setSt i (PM.lastSt (p.st i))) (h.fresh ((Kept.refl (fun _ => False) w).alloc o)) hs i hi rfl (fun j _ hj => ((leafCells_other hj).1.trans (leafCells_other hj).2))
  rw [leafCells_last] at hch
  have h' := Lib.hid h; clear h
  by_cases g1 : p.st i = 1
  · rw [show (p.st i == 1) = true by simpa using g1, show (p.st i == 2) = false by simp [g1]] at hch
    rw [show (p.st i == 1) = true by simpa using g1] at c1
    rw [show (p.st i == 2) = false by simp [g1]] at c2
    have hch' := Lib.hid hch; clear hch g1
    go_enter Try.func40, Try.ntmps40
    go_wp2_with fail
    refine (hd'.out).mono ?_
    rintro e w1 ⟨rfl, rfl⟩
    go_wp2_with fail
    refine (hch'.out _).mono ?_
    rintro e w2 ⟨v, rfl, h2⟩
    go_wp2_with fail
    go_ret3
    exact ⟨v, rfl, h2.to ((Kept.refl _ _).alloc _)⟩
  · rw [show (p.st i == 1) = false by simpa using g1] at c1 hch
    by_cases g2 : p.st i = 2
    · rw [show (p.st i == 2) = true by simpa using g2] at c2 hch
      have hch' := Lib.hid hch; clear hch g1 g2
      go_enter Try.func40, Try.ntmps40
      go_wp2_with fail
      refine (hd'.out).mono ?_
      rintro e w1 ⟨rfl, rfl⟩
      go_wp2_with fail
      refine (hch'.out _).mono ?_
      rintro e w2 ⟨v, rfl, h2⟩
      go_wp2_with fail
      go_ret3
      exact ⟨v, rfl, h2.to ((Kept.refl _ _).alloc _)⟩
    · rw [show (p.st i == 2) = false by simpa using g2] at c2 hch
      have hch' := Lib.hid hch; clear hch g1 g2
      go_enter Try.func40, Try.ntmps40
      go_wp2_with fail
      refine (hd'.out).mono ?_
      rintro e w1 ⟨rfl, rfl⟩
      go_wp2_with fail
      refine (hch'.out _).mono ?_
      rintro e w2 ⟨v, rfl, h2⟩
      go_wp2_with fail
      go_ret3
      exact ⟨v, rfl, h2.to ((Kept.refl _ _).alloc _)⟩

/-! ### All cases together -/
theorem LeavesTo.same {v : Value} {p : PM} {w w' : World} (h : LeavesAt w v p) (k : Kept (fun _ => False) w w') : LeavesTo v v p w w' := ⟨h.fresh k, fun _ hb => .inl hb, k⟩
theorem refTake_all {A : Option Addr} {n cap : Nat} {p : PM} {w : World} (h : LeavesAt w (.slice A n cap) p) (hs : p.size ≤ 240) (hst : ∀ i, p.st i ≤ 4) :
    Calls Try.prog 38 #[.slice A n cap] w fun e w' => ∃ v, e = .returned (.tuple #[v, .int .i64 p.takeAns, .int .i64 p.takeErr]) ∧ LeavesTo (.slice A n cap) v p.takeTo w w' := by
  unfold PM.takeAns PM.takeErr PM.takeTo
  cases ht : p.takeIx with
  | none =>
    refine (refTake_none h hs hst (PM.takeN_none ht)).mono ?_
    rintro e w' ⟨rfl, k⟩
    exact ⟨_, rfl, .same h k⟩
  | some i =>
    obtain ⟨h1, h2, h3⟩ := PM.takeN_some ht
    exact refTake_some h hs hst i h1 h2 h3
theorem refHold_all {A : Option Addr} {n cap : Nat} {p : PM} {w : World} (h : LeavesAt w (.slice A n cap) p) (hs : p.size ≤ 240) (hcn : ∀ i, p.cnt i ≤ 255) (i : Int) :
    Calls Try.prog 39 #[.slice A n cap, .int .i64 i] w fun e w' => ∃ v, e = .returned (.tuple #[v, .int .i64 (p.holdErr i)]) ∧ LeavesTo (.slice A n cap) v (p.holdTo i) w w' := by
  unfold PM.holdErr PM.holdTo
  by_cases hh : p.heldB i = true
  · obtain ⟨k, rfl⟩ := Int.eq_ofNat_of_zero_le (heldB_pos hh).1
    by_cases hc : p.cnt k < 255
    · simp only [hh, hc, Int.toNat_natCast, if_true, decide_true, Bool.and_self]
      exact refHold_ok h hs k hh hc
    · have hm := hcn k
      simp only [hh, hc, Int.toNat_natCast, if_true, if_false, decide_false, Bool.and_false, Bool.false_eq_true]
      refine (refHold_full h hs k hh (by omega)).mono ?_
      rintro e w' ⟨rfl, k⟩
      exact ⟨_, rfl, .same h k⟩
  · have hh' : p.heldB i = false := by simpa using hh
    simp only [hh', Bool.false_eq_true, if_false, Bool.false_and]
    refine (refHold_free h hs i hh').mono ?_
    rintro e w' ⟨rfl, rfl⟩
    exact ⟨_, rfl, .same h (Kept.refl _ _)⟩
theorem refDrop_all {A : Option Addr} {n cap : Nat} {p : PM} {w : World} (h : LeavesAt w (.slice A n cap) p) (hs : p.size ≤ 240) (hcn : ∀ i, p.cnt i ≤ 255) (i : Int) :
    Calls Try.prog 40 #[.slice A n cap, .int .i64 i] w fun e w' => ∃ v, e = .returned (.tuple #[v, .bool (p.dropGone i), .int .i64 (p.dropErr i)]) ∧ LeavesTo (.slice A n cap) v (p.dropAll i) w w' := by
  unfold PM.dropErr PM.dropAll PM.dropGone
  by_cases hh : p.heldB i = true
  · obtain ⟨k, rfl⟩ := Int.eq_ofNat_of_zero_le (heldB_pos hh).1
    simp only [hh, Int.toNat_natCast, if_true, Bool.true_and, PM.dropTo]
    by_cases hc : 1 < p.cnt k
    · rw [if_pos hc, show decide (p.cnt k ≤ 1) = false by simpa using hc]
      exact refDrop_less h hs k hh hc (hcn k)
    · rw [if_neg hc, show decide (p.cnt k ≤ 1) = true by simpa using hc]
      exact refDrop_last h hs k hh (by omega)
  · have hh' : p.heldB i = false := by simpa using hh
    simp only [hh', Bool.false_eq_true, if_false, Bool.false_and]
    refine (refDrop_free h hs i hh').mono ?_
    rintro e w' ⟨rfl, rfl⟩
    exact ⟨_, rfl, .same h (Kept.refl _ _)⟩
end Go.Proofs.Ytgajongbbaccjaa
