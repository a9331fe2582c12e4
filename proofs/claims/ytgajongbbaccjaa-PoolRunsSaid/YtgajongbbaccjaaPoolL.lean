/-
  The chapter's example of the pool, and the law PoolNames' walk.
-/
import Derived.Test.YtgajongbbaccjaaPoolC
namespace Go.Proofs.Ytgajongbbaccjaa
open Go.RowKit
set_option maxRecDepth 100000

/-- A world with at most new blocks. -/
abbrev Fresh (w w' : World) : Prop := Kept (fun _ => False) w w'
theorem Kept.fresh {a b : World} {S : Nat → Prop} (h : Kept S a b) (hS : ∀ k, S k → a.heap.size ≤ k) : Fresh a b :=
  ⟨h.os, h.tape, h.output, h.size, fun i hi _ => h.block i hi (fun e => absurd hi (Nat.not_lt.2 (hS i e)))⟩
/-- Fresh, then a change of a block that is new. -/
theorem Kept.then_new {a b c : World} {S : Nat → Prop} (h : Fresh a b) (k : Kept S b c) (hS : ∀ i, S i → a.heap.size ≤ i) : Fresh a c :=
  h.trans_new k (fun i hi e => absurd hi (Nat.not_lt.2 (hS i e)))
theorem PoolTo.after {a b c : World} {x : Nat} {p : PM} (h : Fresh a b) (hx : a.heap.size ≤ x) (k : PoolTo x p b c) : Fresh a c :=
  h.then_new k.kept (fun _ e => e ▸ hx)

theorem poolAlive_any (w : World) :
    Calls Try.prog 26 #[] w fun e w' => e = .returned (.bool true) ∧ Fresh w w' := by
  go_enter Try.func26, Try.ntmps26
  go_wp2_with fail
  refine (new_any _ _).mono ?_
  rintro e w1 ⟨b, rfl, h1⟩
  have hb := h1.new
  have k1 := h1.kept
  have p1 := h1.pool
  go_wp2_with fail
  refine (take_some p1 0 (by decide) (by decide) (by omega)).mono ?_
  rintro e w2 ⟨rfl, h2⟩
  have k2 := h2.after k1 hb
  go_wp2_with fail
  refine (hold_ok h2.pool 0 (by decide) (by decide)).mono ?_
  rintro e w3 ⟨rfl, h3⟩
  have k3 := h3.after k2 hb
  go_wp2_with fail
  refine (commit_any h3.pool).mono ?_
  rintro e w4 ⟨rfl, h4⟩
  have k4 := h4.after k3 hb
  go_wp2_with fail
  refine (drop_held h4.pool 0 (by decide)).mono ?_
  rintro e w5 ⟨rfl, h5⟩
  have k5 := h5.after k4 hb
  go_wp2_with fail
  refine (take_some h5.pool 1 (by decide) (by decide) (by decide)).mono ?_
  rintro e w6 ⟨rfl, h6⟩
  have k6 := h6.after k5 hb
  go_wp2_with fail
  refine (commit_any h6.pool).mono ?_
  rintro e w7 ⟨rfl, h7⟩
  have k7 := h7.after k6 hb
  go_wp2_with fail
  refine (take_some h7.pool 0 (by decide) (by decide) (by omega)).mono ?_
  rintro e w8 ⟨rfl, h8⟩
  have k8 := h8.after k7 hb
  go_wp2_with fail
  go_ret
  exact ⟨rfl, k8⟩

theorem poolNames_walk (w : World) :
    Calls Try.prog 3 #[] w fun e w' => e = .returned (.bool true) ∧ Fresh w w' := by
  go_enter Try.func3, Try.ntmps3
  go_wp2_with fail
  refine (new_any _ _).mono ?_
  rintro e w1 ⟨b, rfl, h1⟩
  have k1 := h1.kept
  go_wp2_with fail
  refine (take_none h1.pool (by decide)).mono ?_
  rintro e w2 ⟨rfl, rfl⟩
  go_wp2_with fail
  refine (hold_free h1.pool 0 (by decide)).mono ?_
  rintro e w2 ⟨rfl, rfl⟩
  go_wp2_with fail
  rw [show (Try.zeroCells30.setIfInBounds 2 (.int .u8 1)) = (cntList fun i => if i = 2 then 1 else 0).toArray by kernel_rfl]
  refine (load_bad 2 _ _ 2 (by decide) (by decide) (by decide)).mono ?_
  rintro e w2 ⟨rfl, k2⟩
  have k2' := k1.trans k2
  go_wp2_with fail
  refine (poolAlive_any _).mono ?_
  rintro e w3 ⟨rfl, k3⟩
  have k3' := k2'.trans k3
  go_wp2_with fail
  refine (new_any _ _).mono ?_
  rintro e w4 ⟨c, rfl, h4⟩
  have k4' := k3'.trans h4.kept
  go_wp2_with fail
  refine (size_any h4.pool).mono ?_
  rintro e w5 ⟨rfl, rfl⟩
  go_wp2_with fail
  go_ret
  exact ⟨by rfl, k4'⟩
end Go.Proofs.Ytgajongbbaccjaa
