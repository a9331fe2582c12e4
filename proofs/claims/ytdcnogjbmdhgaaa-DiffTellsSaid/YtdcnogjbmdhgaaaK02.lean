/-
 Slices whose elements have several cells: what a slice value reads as, and how that is kept.
-/
import Derived.Test.YtdcnogjbmdhgaaaK01
import Derived.OwnWalk
set_option linter.unusedVariables false
set_option linter.unusedSimpArgs false
namespace Go.Proofs.Ytdcnogjbmdhgaaa
open Go.RowKit

structure SliceAt (w : World) (v : Value) (sz n : Nat) (xs : List Value) : Prop where
 len : xs.length = n * sz
 val : ∃ A cap, v = .slice A n cap ∧ n ≤ cap ∧ cap ≤ maxLen ∧ ∀ j u, xs[j]? = some u → ∃ b off, A = some ⟨b, off, none⟩ ∧ w.cell? ⟨b, off + j, none⟩ = some u

theorem SliceAt.kept {S : Nat → Prop} {w w' : World} {v : Value} {sz n : Nat} {xs : List Value} (h : SliceAt w v sz n xs) (k : Kept S w w') (hs : ∀ b, v.ownBlock = some b → ¬ S b) : SliceAt w' v sz n xs := by
 obtain ⟨hl, A, cap, rfl, h1, h2, h3⟩ := h
 refine ⟨hl, A, cap, rfl, h1, h2, fun j u hj => ?_⟩
 obtain ⟨b, off, rfl, hc⟩ := h3 j u hj
 exact ⟨b, off, rfl, k.cell hc (hs b rfl)⟩
theorem SliceAt.fresh {w w' : World} {v : Value} {sz n : Nat} {xs : List Value} (h : SliceAt w v sz n xs) (k : Kept (fun _ => False) w w') : SliceAt w' v sz n xs := h.kept k (fun _ _ => id)
theorem SliceAt.block {w : World} {v : Value} {sz n : Nat} {xs : List Value} (h : SliceAt w v sz n xs) (hn : 0 < n * sz) : ∃ b, v.ownBlock = some b ∧ b < w.heap.size := by
 obtain ⟨hl, A, cap, rfl, h1, h2, h3⟩ := h
 obtain ⟨b, off, rfl, hc⟩ := h3 0 _ (List.getElem?_eq_getElem (by omega))
 exact ⟨b, rfl, World.block_lt_of_cell? w _ hc⟩
theorem SliceAt.elem {w : World} {A : Option Addr} {n' cap sz n : Nat} {xs : List Value} (h : SliceAt w (.slice A n' cap) sz n xs) {i : Nat} (hi : i < n) (hsz : 0 < sz) :
  ∃ b off, A = some ⟨b, off, none⟩ ∧ b < w.heap.size ∧ ∀ j u, j < sz → xs[i * sz + j]? = some u → w.cell? ⟨b, off + i * sz + j, none⟩ = some u := by
 obtain ⟨hl, A', cap', hv, h1, h2, h3⟩ := h
 injection hv with e1 e2 e3
 subst e1 e2 e3
 have hlt : i * sz < xs.length := by rw [hl]; exact Nat.mul_lt_mul_of_pos_right hi hsz
 obtain ⟨b, off, hA, hc⟩ := h3 (i * sz) _ (List.getElem?_eq_getElem hlt)
 refine ⟨b, off, hA, World.block_lt_of_cell? w _ hc, fun j u hj hu => ?_⟩
 obtain ⟨b', off', hA', hc'⟩ := h3 _ u hu
 rw [hA] at hA'
 injection hA' with e
 injection e with e1 e2
 subst e1 e2
 rw [Nat.add_assoc]
 exact hc'
theorem SliceAt.of_owns {w : World} {base : Nat} {e : TypeId} {sz : Nat} {v : Value} {n : Nat} {xs : List Value} (h : w.ownsRow base e sz v n xs) : SliceAt w v sz n xs := by
 refine ⟨h.1, ?_⟩
 rcases h.2 with ⟨rfl, rfl⟩ | ⟨g, cap, cur, rfl, hb, hg, hn, hm, hs, ht⟩
 ·refine ⟨none, 0, rfl, Nat.le_refl _, Nat.zero_le _, fun j u hj => ?_⟩
  have : xs = [] := List.eq_nil_of_length_eq_zero (by simpa using h.1)
  subst this
  simp at hj
 ·refine ⟨_, cap, rfl, hn, hm, fun j u hj => ⟨g, 0, rfl, ?_⟩⟩
  rw [Nat.zero_add, cell_of_heap hg]
  rw [← ht, List.getElem?_take] at hj
  split at hj
  ·simpa using hj
  ·cases hj
theorem ownsRow.keptOf {S : Nat → Prop} {w w' : World} {base : Nat} {e : TypeId} {sz : Nat} {v : Value} {n : Nat} {xs : List Value} (h : w.ownsRow base e sz v n xs) (k : Kept S w w') (hs : ∀ b, v.ownBlock = some b → ¬ S b) : w'.ownsRow base e sz v n xs := by
 refine ⟨h.1, ?_⟩
 rcases h.2 with hn | ⟨g, cap, cur, rfl, hb, hg, r⟩
 ·exact .inl hn
 ·exact .inr ⟨g, cap, cur, rfl, hb, k.get hg (hs g rfl), r⟩
theorem Kept.grown {a w w' : World} {S : Nat → Prop} {row : Option Nat} (h : Kept S a w) (hg : w.grownBy w' row) (hr : ∀ k, row = some k → S k ∨ a.heap.size ≤ k) : Kept S a w' :=
 h.trans_new (Kept.of_grown hg) (fun i hi e => by rcases hr i e with h | h; exact h; exact absurd hi (Nat.not_lt.2 h))

theorem owns_empty (W : World) (base k : Nat) (e : TypeId) (sz : Nat) (hb : base ≤ W.heap.size) (hk : k = W.heap.size) :
  (W.alloc (.cells #[] e)).ownsRow base e sz (.slice (some ⟨k, 0, none⟩) 0 0) 0 [] := by
 subst hk
 exact World.ownsRow_made W #[] 0 hb (Nat.zero_le _) (by simp)
theorem owns_some {w : World} {base : Nat} {e : TypeId} {sz : Nat} {v : Value} {n : Nat} {xs : List Value} (h : w.ownsRow base e sz v n xs) (hn : 0 < n) :
  ∃ g cap cur, v = .slice (some ⟨g, 0, none⟩) n cap ∧ base ≤ g ∧ w.heap[g]? = some (.cells cur e (0, 0)) ∧ n ≤ cap ∧ cap ≤ maxLen ∧ cur.size = cap * sz ∧ cur.toList.take (n * sz) = xs := by
 rcases h.2 with ⟨_, rfl⟩ | h
 ·omega
 ·exact h
end Go.Proofs.Ytdcnogjbmdhgaaa
