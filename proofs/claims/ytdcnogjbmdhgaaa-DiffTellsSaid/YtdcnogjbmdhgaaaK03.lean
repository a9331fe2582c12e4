/-
 append, as the program uses it: onto a slice of the call's own, whatever slice is appended.
-/
import Derived.Test.YtdcnogjbmdhgaaaK02
import Derived.Maps.AppendAt
import Derived.Lib.AppendZeros
import Derived.Deep.AppendLies
import Derived.Deep.DrawnRows
import Derived.Carry
import Derived.Test.YtdcnogjbmdhgaaaProg
set_option linter.unusedVariables false
set_option linter.unusedSimpArgs false
namespace Go.Proofs.Ytdcnogjbmdhgaaa
open Go.RowKit

structure Elem (t e : TypeId) (size bytes : Nat) : Prop where
 ht : Try.prog.underlying t = some (.slice e)
 info : ∃ i z, Try.prog.info? e = some i ∧ i.zero = some z ∧ i.size = size ∧ i.bytes = bytes ∧ z.cells.size = size
 pos : 0 < size
theorem Elem.of {t e : TypeId} {size bytes : Nat} {z : Value} (ht : Try.prog.underlying t = some (.slice e)) (hi : (Try.prog.info? e).map (fun i => (i.zero, i.size, i.bytes)) = some (some z, size, bytes)) (hz : z.cells.size = size) (hp : 0 < size) : Elem t e size bytes := by
 obtain ⟨i, h1, h2, h3, h4⟩ := info_parts hi
 exact ⟨ht, ⟨i, z, h1, h2, h3, h4, hz⟩, hp⟩
theorem elemU8 : Elem 119 5 1 1 := Elem.of (z := .int .u8 0) Try.underlying119 (by kernel_rfl) (by kernel_rfl) (by omega)
theorem elemInt : Elem 32 3 1 8 := Elem.of (z := .int .i64 0) Try.underlying32 (by kernel_rfl) (by kernel_rfl) (by omega)
theorem elemEntry : Elem 36 58 2 16 := Elem.of (z := .agg #[.int .i64 0, .int .i64 0]) Try.underlying36 (by kernel_rfl) (by kernel_rfl) (by omega)

section
variable {w : World} {t e ty : TypeId} {size bytes : Nat} {base : Nat} {v u : Value} {n m : Nat} {xs ys : List Value}

theorem SliceAt.nil_len {c : Nat} (h : SliceAt w (.slice none m c) size m ys) (hp : 0 < size) : m = 0 ∧ ys = [] := by
 obtain ⟨hl, A, cap, hv, h1, h2, h3⟩ := h
 injection hv with e1 e2 e3
 subst e1 e3
 have : ys = [] := by
  cases ys with
  | nil => rfl
  | cons y ys =>
   obtain ⟨b, off, hA, _⟩ := h3 0 y rfl
   cases hA
 subst this
 refine ⟨?_, rfl⟩
 rcases Nat.mul_eq_zero.1 (Eq.symm (by simpa using hl) : m * size = 0) with h | h
 ·exact h
 ·omega
theorem run_append_src (E : Elem t e size bytes) (hown : w.ownsRow base e size v n xs) (hu : SliceAt w u size m ys) (h1 : ∀ c ∈ ys, c.oneCell' = true)
  (hnm : n + m ≤ 100000001) (hby : bytes ≤ 1000) (hbase : base ≤ w.heap.size) :
  ∃ v' w', (Builtin.append_ #[t, t] ty #[v, u]).run Try.prog w = .ok v' w' ∧ w'.ownsRow base e size v' (n + m) (xs ++ ys) ∧ w.grownBy w' v.ownBlock ∧ (v'.ownBlock = v.ownBlock ∨ v'.ownBlock = some w.heap.size) := by
 obtain ⟨i, z, hi, hz, hsz, hb2, hzs⟩ := E.info
 obtain ⟨hl, A, cap, hv, hc1, hc2, hcell⟩ := id hu
 subst hv
 cases A with
 | none =>
  obtain ⟨rfl, rfl⟩ := hu.nil_len E.pos
  refine ⟨v, w, ?_, by simpa using hown, World.grownBy.refl w _, .inl rfl⟩
  rcases hown.2 with ⟨rfl, rfl⟩ | ⟨g, cp, cur, rfl, _, _, hnc, _⟩
  ·simp [Builtin.append_, run_underlying E.ht, sizeOf, typeInfo, hi, Builtin.lenOf, Builtin.firstCells]
  ·simp [Builtin.append_, run_underlying E.ht, sizeOf, typeInfo, hi, Builtin.lenOf, Builtin.firstCells, hnc, storeCells]
 | some ad =>
  have hcells : ∀ j c, ys[j]? = some c → w.cell? (ad.add j) = some c := by
   intro j c hj
   obtain ⟨b, off, hA, hh⟩ := hcell j c hj
   cases hA
   rw [addr_add]; exact hh
  obtain ⟨v', w', hrun, h2, h3, _, h5⟩ := run_append_own_at (P := Try.prog) w base t ty e i z size bytes E.ht hi hz hsz hb2 hzs E.pos v n xs hown ad m cap ys hl hcells h1 (by simp [maxLen]; omega)
   (Nat.le_trans (Nat.mul_le_mul hnm hby) (by omega)) hbase
  exact ⟨v', w', hrun, h2, h3, h5⟩
theorem wp_append_src {o : Oper} {a : Act} {K : Act → World → Prop} {Q : Exit → Act → World → Prop} (E : Elem t e size bytes) (s x : Operand)
  (ho : o.op = .call { callee := .builtin .append, args := #[s, x], argTypes := #[t, t] }) (hs : a.eval s = v) (hx : a.eval x = u)
  (hown : w.ownsRow base e size v n xs) (hu : SliceAt w u size m ys) (h1 : ∀ c ∈ ys, c.oneCell' = true) (hnm : n + m ≤ 100000001) (hby : bytes ≤ 1000) (hbase : base ≤ w.heap.size)
  (h : ∀ v' w', w'.ownsRow base e size v' (n + m) (xs ++ ys) → w.grownBy w' v.ownBlock → (v'.ownBlock = v.ownBlock ∨ v'.ownBlock = some w.heap.size) → K (a.put o.dst v') w') : o.wp Try.prog a w K Q := by
 obtain ⟨v', w', hr, h2, h3, h4⟩ := run_append_src (ty := o.type) E hown hu h1 hnm hby hbase
 unfold Oper.wp execOp
 simp only [ho, resolve, invoke, builtin, Sem.run_bind, Sem.run_pure, Result.andThen_ok, List.map_toArray, List.map_cons, List.map_nil, hs, hx, hr]
 exact h v' w' h2 h3 h4
theorem wpList_append_src {ops : Array Oper} {rest : List Oper} {o : Oper} {a : Act} {Q : Exit → Act → World → Prop} (hgd : o.guard = none) (E : Elem t e size bytes) (s x : Operand)
  (ho : o.op = .call { callee := .builtin .append, args := #[s, x], argTypes := #[t, t] }) (hs : a.eval s = v) (hx : a.eval x = u)
  (hown : w.ownsRow base e size v n xs) (hu : SliceAt w u size m ys) (h1 : ∀ c ∈ ys, c.oneCell' = true) (hnm : n + m ≤ 100000001) (hby : bytes ≤ 1000) (hbase : base ≤ w.heap.size)
  (h : ∀ v' w', w'.ownsRow base e size v' (n + m) (xs ++ ys) → w.grownBy w' v.ownBlock → (v'.ownBlock = v.ownBlock ∨ v'.ownBlock = some w.heap.size) → wpList Try.prog ops Q rest (a.put o.dst v') w') :
  wpList Try.prog ops Q (o :: rest) a w :=
 wpList_plain hgd fun _ hK => wp_append_src E s x ho hs hx hown hu h1 hnm hby hbase fun v' w' h2 h3 h4 => hK _ _ (h v' w' h2 h3 h4)
theorem step_append_src {ops : Array Oper} {o : Oper} {a : Act} {K : Act → World → Prop} {Q : Exit → Act → World → Prop} {X : Prop} (hgd : o.guard = none) (E : Elem t e size bytes) (s x : Operand)
  (ho : o.op = .call { callee := .builtin .append, args := #[s, x], argTypes := #[t, t] }) (hs : a.eval s = v) (hx : a.eval x = u)
  (hown : w.ownsRow base e size v n xs) (hu : SliceAt w u size m ys) (h1 : ∀ c ∈ ys, c.oneCell' = true) (hnm : n + m ≤ 100000001) (hby : bytes ≤ 1000) (hbase : base ≤ w.heap.size)
  (h : ∀ v' w', w'.ownsRow base e size v' (n + m) (xs ++ ys) → w.grownBy w' v.ownBlock → (v'.ownBlock = v.ownBlock ∨ v'.ownBlock = some w.heap.size) → K (a.put o.dst v') w') :
  if Region.wanted o (yielded ops a.tmps) = true then Oper.wp Try.prog o a w K Q else X := by
 rw [if_pos (by simp [Region.wanted, hgd])]
 exact wp_append_src E s x ho hs hx hown hu h1 hnm hby hbase h
theorem SliceAt.block_new {b m : Nat} {tt : TypeId} {fr : Nat × Nat} (hb : w.heap[b]? = some (.cells ys.toArray tt fr)) (hl : ys.length = m * size) (hm : m ≤ maxLen) : SliceAt w (.slice (some ⟨b, 0, none⟩) m m) size m ys :=
 ⟨hl, _, m, rfl, Nat.le_refl _, hm, fun j c hj => ⟨b, 0, rfl, by rw [Nat.zero_add, cell_of_heap hb]; simpa using hj⟩⟩
end
theorem wpList_append_zeros {ops : Array Oper} {rest : List Oper} {o : Oper} {a : Act} {Q : Exit → Act → World → Prop} {w : World} {t e : TypeId} {size bytes : Nat} (hgd : o.guard = none) (E : Elem t e size bytes) (s x : Operand)
  (ho : o.op = .call { callee := .builtin .append, args := #[s, x], argTypes := #[t, 3] }) (hs : a.eval s = .slice none 0 0) {n : Nat} (hx : a.eval x = .int .i64 n) (h0 : 0 < n) (hn : n ≤ 100000001) (hby : bytes ≤ 1000) 
  (h : ∀ g cap w', w.heap.size = g → n ≤ cap → cap ≤ maxLen → (∀ base, base ≤ w.heap.size → w'.ownsRow base e size (.slice (some ⟨g, 0, none⟩) 0 cap) 0 []) → Kept (fun _ => False) w w' → wpList Try.prog ops Q rest (a.put o.dst (.slice (some ⟨g, 0, none⟩) n cap)) w') :
  wpList Try.prog ops Q (o :: rest) a w := by
 obtain ⟨i, z, hi, hz, hsz, hb2, hzs⟩ := E.info
 have hr := Lib.run_append_nil_zeros (P := Try.prog) w t 3 o.type e i z .i64 .i64 E.ht Try.underlying3 hi hz n h0 (by rw [hsz]; exact E.pos) (by omega)
  (Nat.le_trans (Nat.mul_le_mul hn (by omega : i.bytes ≤ 1000)) (by omega))
 refine Lib.wpList_append_run w hgd s x t 3 ho _ _ hs hx _ _ hr (h _ _ _ rfl (grownCap_ge _ _ _ _) (grownCap_le_maxLen _ _ _ _ (by simp [maxLen]; omega)) (fun base hbase => ?_) (((Kept.refl _ _).drew).alloc _))
 have hge := grownCap_ge w n 0 e
 have hcs : (Builtin.zeroCells z.cells n ++ Builtin.zeroCells z.cells (grownCap w n 0 e - n)).size = grownCap w n 0 e * size := by
  generalize grownCap w n 0 e = c at hge
  have e1 : n * size + (c - n) * size = c * size := by rw [← Nat.add_mul, show n + (c - n) = c by omega]
  simp only [Builtin.zeroCells, Array.size_append, List.size_toArray, List.length_map, List.length_range, Array.size_map, Array.size_range, Array.size_ofFn, hzs]
  exact e1
 exact World.ownsRow_made w.drew _ _ hbase (grownCap_le_maxLen _ _ _ _ (by simp [maxLen]; omega)) hcs
end Go.Proofs.Ytdcnogjbmdhgaaa
