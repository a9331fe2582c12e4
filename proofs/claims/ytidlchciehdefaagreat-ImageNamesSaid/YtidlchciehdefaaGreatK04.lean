/-
  Slices whose elements have several cells: what a slice value reads as, and how that is kept.
-/
import Derived.Test.YtidlchciehdefaaGreatK03
import Derived.OwnWalk
set_option linter.unusedVariables false
set_option linter.unusedSimpArgs false
namespace Go.Proofs.YtidlchciehdefaaGreat
open Go.RowKit

/-- A slice of n elements of sz cells each, its cells one behind the other. -/
structure SliceAt (w : World) (v : Value) (sz n : Nat) (xs : List Value) : Prop where
  len : xs.length = n * sz
  val : ∃ A cap, v = .slice A n cap ∧ n ≤ cap ∧ cap ≤ maxLen ∧ ∀ j u, xs[j]? = some u → ∃ b off, A = some ⟨b, off, none⟩ ∧ w.cell? ⟨b, off + j, none⟩ = some u

theorem SliceAt.kept {S : Nat → Prop} {w w' : World} {v : Value} {sz n : Nat} {xs : List Value} (h : SliceAt w v sz n xs) (k : Kept S w w') (hs : ∀ b, v.ownBlock = some b → ¬ S b) : SliceAt w' v sz n xs := by
  obtain ⟨hl, A, cap, rfl, h1, h2, h3⟩ := h
  refine ⟨hl, A, cap, rfl, h1, h2, fun j u hj => ?_⟩
  obtain ⟨b, off, rfl, hc⟩ := h3 j u hj
  exact ⟨b, off, rfl, k.cell hc (hs b rfl)⟩
theorem SliceAt.fresh {w w' : World} {v : Value} {sz n : Nat} {xs : List Value} (h : SliceAt w v sz n xs) (k : Kept (fun _ => False) w w') : SliceAt w' v sz n xs := h.kept k (fun _ _ => id)
/-- Its block is there, if it has an element. -/
theorem SliceAt.block {w : World} {v : Value} {sz n : Nat} {xs : List Value} (h : SliceAt w v sz n xs) (hn : 0 < n * sz) : ∃ b, v.ownBlock = some b ∧ b < w.heap.size := by
  obtain ⟨hl, A, cap, rfl, h1, h2, h3⟩ := h
  obtain ⟨b, off, rfl, hc⟩ := h3 0 _ (List.getElem?_eq_getElem (by omega))
  exact ⟨b, rfl, World.block_lt_of_cell? w _ hc⟩
/-- An element's cells. -/
theorem SliceAt.elem {w : World} {A : Option Addr} {n' cap sz n : Nat} {xs : List Value} (h : SliceAt w (.slice A n' cap) sz n xs) {i : Nat} (hi : i < n) (hsz : 0 < sz) :
    ∃ b off, A = some ⟨b, off, none⟩ ∧ b < w.heap.size ∧ ∀ j u, j < sz → xs[i * sz + j]? = some u → w.cell? ⟨b, off + i * sz + j, none⟩ = some u := by
  obtain ⟨hl, A', cap', hv, h1, h2, h3⟩ := h
  injection hv with e1 e2 e3
  subst e1 e2 e3
  have hlt : i * sz < xs.length := by rw [hl]; exact Nat.mul_lt_mul_of_pos_right hi hsz
  obtain ⟨b, off, hA, hc⟩ := h3 (i * sz) _ (List.getElem?_eq_getElem hlt)
  refine ⟨b, off, hA, World.block_lt_of_cell? w _ hc, fun j u hj hu => ?_⟩
  obtain ⟨b', off', hA', hc'⟩ := h3 _ u hu
  rw [hA] at hA'
  injection hA' with e
  injection e with e1 e2
  subst e1 e2
  rw [Nat.add_assoc]
  exact hc'
theorem SliceAt.of_owns {w : World} {base : Nat} {e : TypeId} {sz : Nat} {v : Value} {n : Nat} {xs : List Value} (h : w.ownsRow base e sz v n xs) : SliceAt w v sz n xs := by
  refine ⟨h.1, ?_⟩
  rcases h.2 with ⟨rfl, rfl⟩ | ⟨g, cap, cur, rfl, hb, hg, hn, hm, hs, ht⟩
  · refine ⟨none, 0, rfl, Nat.le_refl _, Nat.zero_le _, fun j u hj => ?_⟩
    have : xs = [] := List.eq_nil_of_length_eq_zero (by simpa using h.1)
    subst this
    simp at hj
  · refine ⟨_, cap, rfl, hn, hm, fun j u hj => ⟨g, 0, rfl, ?_⟩⟩
    rw [Nat.zero_add, cell_of_heap hg]
    rw [← ht, List.getElem?_take] at hj
    split at hj
    · simpa using hj
    · cases hj
theorem ownsRow.block_ge {w : World} {base : Nat} {e : TypeId} {sz : Nat} {v : Value} {n : Nat} {xs : List Value} (h : w.ownsRow base e sz v n xs) : ∀ b, v.ownBlock = some b → base ≤ b := fun b hb => (h.lt b hb).1
theorem ownsRow.keptOf {S : Nat → Prop} {w w' : World} {base : Nat} {e : TypeId} {sz : Nat} {v : Value} {n : Nat} {xs : List Value} (h : w.ownsRow base e sz v n xs) (k : Kept S w w') (hs : ∀ b, v.ownBlock = some b → ¬ S b) : w'.ownsRow base e sz v n xs := by
  refine ⟨h.1, ?_⟩
  rcases h.2 with hn | ⟨g, cap, cur, rfl, hb, hg, r⟩
  · exact .inl hn
  · exact .inr ⟨g, cap, cur, rfl, hb, k.get hg (hs g rfl), r⟩
/-- What append and make leave. -/
theorem Kept.grown {a w w' : World} {S : Nat → Prop} {row : Option Nat} (h : Kept S a w) (hg : w.grownBy w' row) (hr : ∀ k, row = some k → S k ∨ a.heap.size ≤ k) : Kept S a w' :=
  h.trans_new (Kept.of_grown hg) (fun i hi e => by rcases hr i e with h | h; exact h; exact absurd hi (Nat.not_lt.2 h))

/-- The cells of elements that go by their number. -/
theorem flat_len {f : Nat → List Value} {sz : Nat} (hf : ∀ i, (f i).length = sz) : ∀ n, ((List.range n).flatMap f).length = n * sz
  | 0 => by simp
  | n + 1 => by rw [List.range_succ, List.flatMap_append, List.length_append, flat_len hf n]; simp [hf, Nat.add_mul]
theorem flat_get {f : Nat → List Value} {sz : Nat} (hf : ∀ i, (f i).length = sz) {i j : Nat} (hj : j < sz) : ∀ n, i < n → ((List.range n).flatMap f)[i * sz + j]? = (f i)[j]?
  | 0, h => by omega
  | n + 1, h => by
    rw [List.range_succ, List.flatMap_append]
    have hl := flat_len hf n
    by_cases hin : i < n
    · have : i * sz + j < n * sz := by
        have := Nat.mul_le_mul_right sz (show i + 1 ≤ n from hin)
        rw [Nat.add_mul] at this
        omega
      rw [List.getElem?_append_left (by omega), flat_get hf hj n hin]
    · obtain rfl : i = n := by omega
      rw [List.getElem?_append_right (by omega), hl]
      simp
theorem flat_succ (f : Nat → List Value) (n : Nat) : (List.range (n + 1)).flatMap f = (List.range n).flatMap f ++ f n := by
  rw [List.range_succ, List.flatMap_append]; simp
theorem flat_congr {f g : Nat → List Value} {n : Nat} (h : ∀ i, i < n → f i = g i) : (List.range n).flatMap f = (List.range n).flatMap g := by
  rw [List.flatMap_def, List.flatMap_def, List.map_congr_left fun i hi => h i (List.mem_range.1 hi)]
/-- One element is another one. -/
theorem flat_set {f g : Nat → List Value} {sz : Nat} (hf : ∀ i, (f i).length = sz) {i n : Nat} (hi : i < n) (hother : ∀ j, j < n → j ≠ i → g j = f j) :
    ((List.range n).flatMap f).take (i * sz) ++ g i ++ ((List.range n).flatMap f).drop (i * sz + sz) = (List.range n).flatMap g := by
  induction n with
  | zero => omega
  | succ n ih =>
    rw [flat_succ, flat_succ]
    have hl := flat_len hf n
    by_cases hin : i < n
    · have hle : i * sz + sz ≤ n * sz := by
        have := Nat.mul_le_mul_right sz (show i + 1 ≤ n from hin)
        rwa [Nat.add_mul, Nat.one_mul] at this
      rw [List.take_append_of_le_length (by omega), List.drop_append_of_le_length (by omega), ← List.append_assoc, ih hin (fun j hj hji => hother j (by omega) hji), hother n (by omega) (by omega)]
    · obtain rfl : i = n := by omega
      have h1 : (List.range i).flatMap f = (List.range i).flatMap g := flat_congr fun j hj => (hother j (by omega) (by omega)).symm
      rw [List.take_append_of_le_length (by omega), List.take_of_length_le (by omega), List.drop_eq_nil_of_le (by simp [hl, hf]), List.append_nil, h1]
/-- An empty slice that the call has just made. -/
theorem owns_empty (W : World) (base k : Nat) (e : TypeId) (sz : Nat) (hb : base ≤ W.heap.size) (hk : k = W.heap.size) :
    (W.alloc (.cells #[] e)).ownsRow base e sz (.slice (some ⟨k, 0, none⟩) 0 0) 0 [] := by
  subst hk
  exact World.ownsRow_made W #[] 0 hb (Nat.zero_le _) (by simp)
/-- An owned slice that is not empty. -/
theorem owns_some {w : World} {base : Nat} {e : TypeId} {sz : Nat} {v : Value} {n : Nat} {xs : List Value} (h : w.ownsRow base e sz v n xs) (hn : 0 < n) :
    ∃ g cap cur, v = .slice (some ⟨g, 0, none⟩) n cap ∧ base ≤ g ∧ w.heap[g]? = some (.cells cur e (0, 0)) ∧ n ≤ cap ∧ cap ≤ maxLen ∧ cur.size = cap * sz ∧ cur.toList.take (n * sz) = xs := by
  rcases h.2 with ⟨_, rfl⟩ | h
  · omega
  · exact h
theorem take_splice {α : Type} (cur x : List α) {a m N : Nat} (hx : x.length = m) (h1 : a + m ≤ N) (h2 : N ≤ cur.length) :
    (cur.take a ++ (x ++ cur.drop (a + m))).take N = (cur.take N).take a ++ x ++ (cur.take N).drop (a + m) := by
  subst hx
  apply List.ext_getElem?
  intro j
  simp only [List.getElem?_take, List.getElem?_append, List.getElem?_drop, List.length_take, List.length_append]
  by_cases hjN : j < N
  · rw [if_pos hjN]
    by_cases hja : j < a
    · have e1 : j < min a cur.length := by omega
      have e2 : j < min a (min N cur.length) := by omega
      have e3 : j < min a (min N cur.length) + x.length := by omega
      simp [e1, e2, e3, hja, hjN]
    · have e1 : ¬ j < min a cur.length := by omega
      have m1 : min a cur.length = a := by omega
      have m2 : min a (min N cur.length) = a := by omega
      rw [m1, m2]
      by_cases hjx : j - a < x.length
      · have : j < a + x.length := by omega
        simp [hja, hjx, this]
      · have h3 : ¬ j < a + x.length := by omega
        have h4 : a + x.length + (j - (a + x.length)) = j := by omega
        have h5 : a + x.length + (j - a - x.length) = j := by omega
        simp [hja, hjx, h3, h4, h5, hjN]
  · rw [if_neg hjN]
    have m2 : min a (min N cur.length) = a := by omega
    rw [m2]
    by_cases h3 : j < a + x.length
    · omega
    · rw [if_neg h3]
      have : ¬ a + x.length + (j - (a + x.length)) < N := by omega
      rw [if_neg this]
/-- An owned slice of which one element has been written. -/
theorem owns_set {w : World} {base g cap n sz : Nat} {e : TypeId} {cur : Array Value} {f g' : Nat → List Value} (hg : base ≤ g) (hh : w.heap[g]? = some (.cells cur e (0, 0))) (hn : n ≤ cap) (hm : cap ≤ maxLen) (hcs : cur.size = cap * sz)
    (ht : cur.toList.take (n * sz) = (List.range n).flatMap f) (hf : ∀ i, (f i).length = sz) (hf' : ∀ i, (g' i).length = sz) {i : Nat} (hi : i < n) (hother : ∀ j, j < n → j ≠ i → g' j = f j) :
    (w.setRow g (cur.toList.take (i * sz) ++ (g' i ++ cur.toList.drop (i * sz + (g' i).length))).toArray).ownsRow base e sz (.slice (some ⟨g, 0, none⟩) n cap) n ((List.range n).flatMap g') := by
  have hle : i * sz + sz ≤ n * sz := by
    have := Nat.mul_le_mul_right sz (show i + 1 ≤ n from hi)
    rwa [Nat.add_mul, Nat.one_mul] at this
  have hle2 : n * sz ≤ cap * sz := Nat.mul_le_mul_right sz hn
  refine ⟨flat_len hf' n, .inr ⟨g, cap, _, rfl, hg, setRow_heap _ _ _ _ _ _ hh, hn, hm, ?_, ?_⟩⟩
  · simp [hf' i]; omega
  · rw [List.toList_toArray, hf' i, take_splice _ _ (hf' i) hle (by simp; omega), ht]
    exact flat_set hf hi hother
/-- One cell of one element is another one. -/
theorem flat_setCell {f g : Nat → List Value} {sz : Nat} (hf : ∀ i, (f i).length = sz) (hg : ∀ i, (g i).length = sz) {i j n : Nat} (u : Value) (_hi : i < n) (hj : j < sz) (hgi : g i = (f i).set j u) (hother : ∀ k, k < n → k ≠ i → g k = f k) :
    ((List.range n).flatMap f).set (i * sz + j) u = (List.range n).flatMap g := by
  apply List.ext_getElem?
  intro x
  rw [List.getElem?_set]
  have hlf := flat_len hf n
  have hlg := flat_len hg n
  by_cases hx : x < n * sz
  · have hsz : 0 < sz := by omega
    obtain ⟨q, r, hq, hr, rfl⟩ : ∃ q r, q < n ∧ r < sz ∧ x = q * sz + r := by
      refine ⟨x / sz, x % sz, ?_, Nat.mod_lt _ hsz, ?_⟩
      · exact Nat.div_lt_of_lt_mul (by rw [Nat.mul_comm]; exact hx)
      · have := Nat.div_add_mod x sz; rw [Nat.mul_comm] at this; omega
    rw [flat_get hf hr n hq, flat_get hg hr n hq]
    by_cases e : q = i
    · subst e
      rw [hgi, List.getElem?_set]
      by_cases e2 : j = r
      · subst e2
        rw [if_pos rfl, if_pos rfl, if_pos (by omega), if_pos (by rw [hf]; omega)]
      · rw [if_neg (by omega), if_neg e2]
    · rw [hother q hq e]
      have : i * sz + j ≠ q * sz + r := by
        intro h
        rcases Nat.lt_or_ge i q with h1 | h1
        · have := Nat.mul_le_mul_right sz (show i + 1 ≤ q from h1)
          rw [Nat.add_mul] at this; omega
        · have := Nat.mul_le_mul_right sz (show q + 1 ≤ i by omega)
          rw [Nat.add_mul] at this; omega
      rw [if_neg this]
  · have e1 : ((List.range n).flatMap f)[x]? = none := List.getElem?_eq_none (by omega)
    have e2 : ((List.range n).flatMap g)[x]? = none := List.getElem?_eq_none (by omega)
    rw [e1, e2]
    split
    · rw [if_neg (by omega)]
    · rfl
theorem owns_setCell {w : World} {base g cap n sz : Nat} {e : TypeId} {xs : List Value} (h : w.ownsRow base e sz (.slice (some ⟨g, 0, none⟩) n cap) n xs) {j : Nat} (hj : j < n * sz) (u : Value) :
    (w.setCell ⟨g, j, none⟩ u).ownsRow base e sz (.slice (some ⟨g, 0, none⟩) n cap) n (xs.set j u) := by
  refine ⟨by rw [List.length_set]; exact h.1, ?_⟩
  rcases h.2 with ⟨h0, _⟩ | ⟨g', cap', cur, hv, hb, hg, hn, hm, hs, ht⟩
  · cases h0
  · injection hv with e1 e2 e3
    injection e1 with e1
    injection e1 with e1
    subst e1 e3
    refine .inr ⟨g, cap, _, rfl, hb, heap_setCell_same hg _ _, hn, hm, by simpa using hs, ?_⟩
    rw [← ht]
    apply List.ext_getElem?
    intro x
    have hle : n * sz ≤ cap * sz := Nat.mul_le_mul_right sz hn
    simp only [List.getElem?_take, List.getElem?_set, Array.getElem?_toList, Array.getElem?_setIfInBounds, List.length_take, Array.length_toList]
    by_cases hx : x < n * sz
    · by_cases e : j = x
      · subst e
        have h1 : j < cur.size := by omega
        have h2 : j < min (n * sz) cur.size := by omega
        simp [hx, h1, h2]
      · simp [hx, e]
    · have : ¬ j = x := by omega
      simp [hx, this]
end Go.Proofs.YtidlchciehdefaaGreat
