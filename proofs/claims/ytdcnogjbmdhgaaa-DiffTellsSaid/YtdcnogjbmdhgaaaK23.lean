/-
 Cutting, plain: neighbours that are dense; entries without a key.
-/
import Derived.Test.YtdcnogjbmdhgaaaK17
import Derived.Test.YtdcnogjbmdhgaaaK22
set_option linter.unusedVariables false
set_option linter.unusedSimpArgs false
namespace Go.Proofs.Ytdcnogjbmdhgaaa
open Go.RowKit

def okp (a b : Nat) : Prop := (3 ≤ a ∧ 3 ≤ b) ∨ 7 ≤ a + b
theorem okp_mono {a b a' b' : Nat} (h : okp a b) (ha : a ≤ a') (hb : b ≤ b') : okp a' b' := by unfold okp at *; omega
def AdjN : List Nat → Prop
 | [] => True
 | [_] => True
 | x :: y :: r => okp x y ∧ AdjN (y :: r)
theorem adj_append : ∀ {A B : List Nat}, AdjN (A ++ B) ↔ AdjN A ∧ AdjN B ∧ ∀ x y, A.getLast? = some x → B.head? = some y → okp x y
 | [], B => by simp [AdjN]
 | [x], [] => by simp [AdjN]
 | [x], y :: B => by simp [AdjN, and_comm]
 | x :: z :: A, B => by
  have ih := adj_append (A := z :: A) (B := B)
  simp only [List.cons_append] at ih ⊢
  simp only [AdjN, ih, List.getLast?_cons_cons]
  constructor
  ·rintro ⟨h1, h2, h3, h4⟩; exact ⟨⟨h1, h2⟩, h3, h4⟩
  ·rintro ⟨⟨h1, h2⟩, h3, h4⟩; exact ⟨h1, h2, h3, h4⟩
theorem adj_one (v : Nat) : AdjN [v] := trivial
theorem adj_parts {A C : List Nat} {v : Nat} (h : AdjN (A ++ v :: C)) : AdjN A ∧ AdjN C ∧ (∀ x, A.getLast? = some x → okp x v) ∧ (∀ y, C.head? = some y → okp v y) := by
 rw [show A ++ v :: C = A ++ ([v] ++ C) from rfl, adj_append, adj_append] at h
 obtain ⟨h1, ⟨_, h2, h3⟩, h4⟩ := h
 exact ⟨h1, h2, fun x hx => h4 x v hx rfl, fun y hy => h3 v y rfl hy⟩
theorem adj_of {A C : List Nat} {v : Nat} (h1 : AdjN A) (h2 : AdjN C) (h3 : ∀ x, A.getLast? = some x → okp x v) (h4 : ∀ y, C.head? = some y → okp v y) : AdjN (A ++ v :: C) := by
 rw [show A ++ v :: C = A ++ ([v] ++ C) from rfl, adj_append, adj_append]
 refine ⟨h1, ⟨adj_one v, h2, fun x y hx hy => ?_⟩, fun x y hx hy => ?_⟩
 ·simp at hx; subst hx; exact h4 y hy
 ·simp at hy; subst hy; exact h3 x hx
theorem adj_gone {A C : List Nat} {v : Nat} (h : AdjN (A ++ v :: C)) (hv : v ≤ 1) (hA : ∀ x ∈ A, x ≤ 6) : AdjN (A ++ C) := by
 obtain ⟨h1, h2, h3, h4⟩ := adj_parts h
 rw [adj_append]
 refine ⟨h1, h2, fun x y hx hy => ?_⟩
 have a := h3 x hx
 have b := h4 y hy
 unfold okp at *
 omega
theorem adj_left {A C : List Nat} {a v v' : Nat} (h : AdjN (A ++ a :: v :: C)) (h1 : 1 ≤ a) (hv : v ≤ v' + 1) : AdjN (A ++ (a + v') :: C) := by
 obtain ⟨p1, p2, p3, p4⟩ := adj_parts h
 obtain ⟨_, q2, _, q4⟩ := adj_parts (A := []) (v := v) (C := C) p2
 exact adj_of p1 q2 (fun x hx => okp_mono (p3 x hx) (Nat.le_refl _) (by omega)) (fun y hy => okp_mono (q4 y hy) (by omega) (Nat.le_refl _))
theorem adj_right {A C : List Nat} {c v v' : Nat} (h : AdjN (A ++ v :: c :: C)) (h1 : 1 ≤ c) (hv : v ≤ v' + 1) : AdjN (A ++ (v' + c) :: C) := by
 obtain ⟨p1, p2, p3, p4⟩ := adj_parts h
 obtain ⟨_, q2, _, q4⟩ := adj_parts (A := []) (v := c) (C := C) p2
 exact adj_of p1 q2 (fun x hx => okp_mono (p3 x hx) (Nat.le_refl _) (by omega)) (fun y hy => okp_mono (q4 y hy) (by omega) (Nat.le_refl _))
theorem adj_stay {A C : List Nat} {v v' : Nat} (h : AdjN (A ++ v :: C)) (h1 : ∀ x, A.getLast? = some x → 6 < v' + x) (h2 : ∀ y, C.head? = some y → 6 < v' + y) : AdjN (A ++ v' :: C) := by
 obtain ⟨p1, p2, p3, p4⟩ := adj_parts h
 exact adj_of p1 p2 (fun x hx => by have := h1 x hx; unfold okp; omega) (fun y hy => by have := h2 y hy; unfold okp; omega)
def sizesE (M : SM) (es : List (Int × Int)) : List Nat := es.map fun e => M.entN e.2
def Dn (M : SM) : Nat → Int → Prop
 | 0, _ => True
 | h + 1, p => h = 0 ∨ (AdjN (sizesE M (M.ents p.toNat)) ∧ ∀ e ∈ M.ents p.toNat, Dn M h e.2)
def DnN (M : SM) (h : Nat) (es : List (Int × Int)) : Prop := h = 0 ∨ (AdjN (sizesE M es) ∧ ∀ e ∈ es, Dn M h e.2)
theorem entN_grown {M M' : SM} (g : Grown M M') {q : Int} (hq : M.pool.heldB q = true) : M'.entN q = M.entN q := by
 unfold SM.entN SM.ents
 rw [g.node _ (heldB_int hq).2]
theorem Kids.held {T : Int → List (Int × Int) → Prop} {P : Int → Prop} (hT : ∀ q a, T q a → P q) : ∀ {es l : List (Int × Int)}, Kids T es l → ∀ e ∈ es, P e.2
 | [], _, _, e, he => by cases he
 | _ :: _, _, ⟨_, _, _, _, h2, _, _, h5⟩, e, he => by
  rcases List.mem_cons.1 he with rfl | he
  ·exact hT _ _ h2
  ·exact Kids.held hT h5 e he
theorem sizes_grown {M M' : SM} (g : Grown M M') {es : List (Int × Int)} (h : ∀ e ∈ es, M.pool.heldB e.2 = true) : sizesE M' es = sizesE M es := by
 unfold sizesE
 exact List.map_congr_left fun e he => entN_grown g (h e he)
theorem Dn.grown {M M' : SM} (g : Grown M M') : ∀ {h : Nat} {p : Int} {l : List (Int × Int)}, Tr 1 M h p l → Dn M h p → Dn M' h p
 | 0, _, _, _, _ => trivial
 | h + 1, p, l, ⟨hp, n, hn, hok, k⟩, hd => by
  have he : M'.ents p.toNat = M.ents p.toNat := by unfold SM.ents; rw [g.node _ (heldB_int hp).2]
  rcases hd with h0 | ⟨ha, hk⟩
  ·exact .inl h0
  ·by_cases h0 : h = 0
   ·exact .inl h0
   ·rcases k with ⟨h1, _⟩ | ⟨_, _, hK⟩
    ·exact absurd h1 h0
    ·have hen : M.ents p.toNat = n.ents := by unfold SM.ents; rw [hn]
     refine .inr ⟨?_, fun e hee => ?_⟩
     ·rw [he, sizes_grown g (fun e hee => by rw [hen] at hee; exact Kids.held (P := fun q => M.pool.heldB q = true) (fun q a ha => ha.1.held) hK e hee)]
      exact ha
     ·rw [he] at hee
      rw [hen] at hee hk
      obtain ⟨a, ha, _⟩ := hK.each e hee
      exact Dn.grown g ha.1 (hk e hee)
def cutL (l : List (Int × Int)) (key : Int) : List (Int × Int) := l.filter fun y => decide (y.1 ≠ key)
theorem cutL_mid {a b c : List (Int × Int)} {key : Int} (ha : ∀ y ∈ a, y.1 < key) (hc : ∀ y ∈ c, key < y.1) : cutL (a ++ b ++ c) key = a ++ cutL b key ++ c := by
 unfold cutL
 simp only [List.filter_append]
 rw [filter_all (l := a) (fun y hy => by have := ha y hy; simp; omega), filter_all (l := c) (fun y hy => by have := hc y hy; simp; omega)]
theorem cutL_none {l : List (Int × Int)} {key : Int} (h : ∀ y ∈ l, y.1 ≠ key) : cutL l key = l := filter_all fun y hy => by simpa using h y hy
theorem cutL_rises {l : List (Int × Int)} (h : RisesK l) (key : Int) : RisesK (cutL l key) := List.Pairwise.filter _ h
theorem Good.cut {M : SM} {l : List (Int × Int)} (g : Good M l) (key : Int) : Good M (cutL l key) := ⟨cutL_rises g.1 key, fun y hy => g.2 y (List.mem_filter.1 hy).1⟩
set_option maxRecDepth 100000

theorem entCells_take {cur : List Value} {l : List (Int × Int)} {n i : Nat} (hn : n = l.length) (hi : i ≤ n) (hc : cur.take (n * 2) = entCells l) : cur.take (i * 2) = entCells (l.take i) := by
 have : (cur.take (n * 2)).take (i * 2) = (entCells l).take (i * 2) := by rw [hc]
 rw [List.take_take, Nat.min_eq_left (by omega)] at this
 rw [this, show entCells l = entCells (l.take i) ++ entCells (l.drop i) by rw [← entCells_append, List.take_append_drop], List.take_left' (by rw [entCells_len, List.length_take]; omega)]
theorem run_clear_one (w : World) (ty : TypeId) (g k c : Nat) (cur : List Value) (hg : w.heap[g]? = some (.cells cur.toArray 58 (0, 0))) (hfit : k * 2 + 2 ≤ cur.length) :
  (Builtin.clear_ #[36] ty #[.slice (some ⟨g, k * 2, none⟩) 1 c]).run Try.prog w = .ok (.tuple #[]) (w.setRow g (cur.take (k * 2) ++ entCells [(0, 0)] ++ cur.drop (k * 2 + 2)).toArray) := by
 have hst := run_storeCells_at Try.prog g (k * 2) 58 (entCells [(0, 0)]) 0 cur.toArray w hg (by simp [entCells]; omega) (entCells_one _)
 obtain ⟨i, z, hq, hz, hi, _⟩ := elemEntry.info
 have hz2 : i.zero = some (.agg #[.int .i64 0, .int .i64 0]) := by
  have : (Try.prog.info? 58).map (fun i => (i.zero, i.size, i.bytes)) = some (some (.agg #[.int .i64 0, .int .i64 0]), 2, 16) := by kernel_rfl
  rw [hq] at this
  simp at this
  exact this.1
 have e1 : (Builtin.zeroCells (Value.agg #[.int .i64 0, .int .i64 0]).cells 1).toList = entCells [(0, 0)] := by kernel_rfl
 have e2 : (entCells [((0 : Int), (0 : Int))]).length = 2 := rfl
 rw [e2] at hst
 simp only [Nat.add_zero, List.toList_toArray] at hst
 have hz3 : (Builtin.zeroCells (Value.agg #[.int .i64 0, .int .i64 0]).cells 1) = (entCells [(0, 0)]).toArray := by rw [← e1]
 simp [Builtin.clear_, run_underlying elemEntry.ht, zeroValue, typeInfo, hq, hz2, e1, hst]
theorem step_append_known (w : World) {ops : Array Oper} {o : Oper} {a : Act} {K : Act → World → Prop} {Q : Exit → Act → World → Prop} {E : Prop}
  (hg : o.guard = none) (d x : Operand) (t t' : TypeId) (ho : o.op = .call { callee := .builtin .append, args := #[d, x], argTypes := #[t, t'] })
  (v u : Value) (hd : a.eval d = v) (hx : a.eval x = u) {v' : Value} {w' : World} (hr : (Builtin.append_ #[t, t'] o.type #[v, u]).run Try.prog w = .ok v' w') (hK : K (a.put o.dst v') w') :
  if Region.wanted o (yielded ops a.tmps) = true then Oper.wp Try.prog o a w K Q else E := by
 rw [if_pos (by simp [Region.wanted, hg])]
 unfold Oper.wp
 simp [execOp, ho, resolve, invoke, builtin, hd, hx, hr, Result.andThen]
 exact hK

set_option maxHeartbeats 4000000 in
theorem deleteEnt {w : World} {base n cap gb i : Nat} {cur : List Value} {l : List (Int × Int)} (hcur : w.heap[gb]? = some (.cells cur.toArray 58 (0, 0))) (hcl : cur.length = cap * 2) (hc : cur.take (n * 2) = entCells l) (hn : n = l.length) (hb : base ≤ gb) (hcap : cap ≤ maxLen)
  (hi : i < n) (hroom : n ≤ cap) (hlen : n ≤ 1000) :
  Calls Try.prog 78 #[.slice (some ⟨gb, 0, none⟩) n cap, .int .i64 i, .int .i64 ((i : Int) + 1)] w fun e w' => e = .returned (.slice (some ⟨gb, 0, none⟩) (n - 1) cap) ∧ w'.ownsRow base 58 2 (.slice (some ⟨gb, 0, none⟩) (n - 1) cap) (n - 1) (entCells (l.take i ++ l.drop (i + 1))) ∧ Kept (fun b => b = gb) w w' := by
 obtain ⟨D, hD⟩ : ∃ D, entCells (l.drop (i + 1)) = D := ⟨_, rfl⟩
 have hDl : D.length = (n - (i + 1)) * 2 := by rw [← hD, entCells_len, List.length_drop, hn]
 have hD1 : ∀ c ∈ D, c.oneCell' = true := by rw [← hD]; exact entCells_one _
 have hT := entCells_take hn (show i ≤ n by omega) hc
 have hTl : (entCells (l.take i)).length = i * 2 := by rw [entCells_len, List.length_take]; omega
 have hcell : ∀ j v, D[j]? = some v → w.cell? ⟨gb, (i + 1) * 2 + j, none⟩ = some v := fun j v hj => by
  have e : entCells l = entCells (l.take (i + 1)) ++ D := by rw [← hD, ← entCells_append, List.take_append_drop]
  have hj2 := (List.getElem?_eq_some_iff.1 hj).1
  rw [cell_of_heap hcur, List.getElem?_toArray]
  have h2 : (cur.take (n * 2))[(i + 1) * 2 + j]? = some v := by
   rw [hc, e, List.getElem?_append_right (by rw [entCells_len, List.length_take]; omega), entCells_len, List.length_take, show (i + 1) * 2 + j - min (i + 1) l.length * 2 = j by omega]
   exact hj
  rw [List.getElem?_take] at h2
  split at h2
  ·exact h2
  ·cases h2
 obtain ⟨it, z, hq, hz, hit, _⟩ := elemEntry.info
 obtain ⟨c1, hc1⟩ : ∃ c1, cur.take (i * 2) ++ D ++ cur.drop (i * 2 + D.length) = c1 := ⟨_, rfl⟩
 have hc1l : c1.length = cap * 2 := by rw [← hc1]; simp only [List.length_append, List.length_take, List.length_drop]; omega
 obtain ⟨W1, hW1⟩ : ∃ W1, w.drew.setRow gb c1.toArray = W1 := ⟨_, rfl⟩
 have hap : ∀ ty a c, (∀ j v, D[j]? = some v → w.cell? (a.add j) = some v) → (Builtin.append_ #[36, 36] ty #[.slice (some ⟨gb, 0, none⟩) i cap, .slice (some a) (n - (i + 1)) c]).run Try.prog w.drew = .ok (.slice (some ⟨gb, 0, none⟩) (n - 1) cap) W1 := fun ty a c ha => by
  have := run_append_room (P := Try.prog) w.drew 36 ty 58 it elemEntry.ht hq gb i cap cur.toArray hcur a (n - (i + 1)) c D (by rw [hit]; exact hDl) ha hD1 (by omega) (by rw [hit]; simp only [List.size_toArray]; omega)
  rw [hit, List.toList_toArray, hc1, hW1, show i + (n - (i + 1)) = n - 1 by omega] at this
  exact this
 have hh1 : W1.heap[gb]? = some (.cells c1.toArray 58 (0, 0)) := by
  rw [← hW1]
  exact setRow_heap w.drew gb cur.toArray c1.toArray 58 (0, 0) hcur
 obtain ⟨c2, hc2⟩ : ∃ c2, c1.take ((n - 1) * 2) ++ entCells [(0, 0)] ++ c1.drop ((n - 1) * 2 + 2) = c2 := ⟨_, rfl⟩
 obtain ⟨W2, hW2⟩ : ∃ W2, W1.setRow gb c2.toArray = W2 := ⟨_, rfl⟩
 have hcr : ∀ ty c, (Builtin.clear_ #[36] ty #[.slice (some ⟨gb, (n - 1) * 2, none⟩) 1 c]).run Try.prog W1 = .ok (.tuple #[]) W2 := fun ty c => by
  have := run_clear_one W1 ty gb (n - 1) c c1 hh1 (by omega)
  rw [hc2, hW2] at this
  exact this
 have hh2 : W2.heap[gb]? = some (.cells c2.toArray 58 (0, 0)) := by
  rw [← hW2]
  exact setRow_heap W1 gb c1.toArray c2.toArray 58 (0, 0) hh1
 have hc2l : c2.length = cap * 2 := by
  rw [← hc2]; simp only [List.length_append, List.length_take, List.length_drop, entCells_len, List.length_singleton]; omega
 have hk : Hid (Kept (fun b => b = gb) w W2) := h_ (by
  rw [← hW2, ← hW1]
  exact ((Kept.refl (fun b => b = gb) w).drew.setRow rfl _).setRow rfl _)
 have hown : Hid (W2.ownsRow base 58 2 (.slice (some ⟨gb, 0, none⟩) (n - 1) cap) (n - 1) (entCells (l.take i ++ l.drop (i + 1)))) := h_ (by
  refine ⟨by rw [entCells_len]; simp only [List.length_append, List.length_take, List.length_drop]; omega, .inr ⟨gb, cap, c2.toArray, rfl, hb, hh2, by omega, hcap, by rw [List.size_toArray, hc2l], ?_⟩⟩
  rw [List.toList_toArray, ← hc2, ← hc1, hT, entCells_append, hD]
  have e1 : ∀ R : List Value, (entCells (l.take i) ++ D ++ R).take ((n - 1) * 2) = entCells (l.take i) ++ D := fun R => List.take_left' (by rw [List.length_append]; omega)
  rw [e1, List.append_assoc]
  exact List.take_left' (by rw [List.length_append]; omega))
 have hap0 := h_ (fun ty (h : n - (i + 1) = 0) => hap ty ⟨gb, 0, none⟩ 0 (fun j v hj => by
  have hD0 : D = [] := List.eq_nil_of_length_eq_zero (by rw [hDl, h])
  rw [hD0] at hj
  simp at hj))
 have hap1 := h_ (fun ty c => hap ty ⟨gb, (i + 1) * 2, none⟩ c (fun j v hj => by rw [addr_add]; exact hcell j v hj))
 have hcr := h_ hcr
 clear hcur hcl hc hD hDl hD1 hT hTl hcell hap hc1 hc1l hW1 hh1 hc2 hW2 hh2 hc2l hq hz hit hb
 unfold maxLen at hcap
 have hw1 : IntKind.i64.wrap ((i : Int) + 1) = (i : Int) + 1 := by rw [IntKind.wrap_i64]; omega
 have htn : ((i : Int) + 1).toNat = i + 1 := by omega
 have hz2 : ¬ ((i : Int) = (i : Int) + 1) := by omega
 have hz3 : (((i : Int)) == (i : Int) + 1) = false := by simp; omega
 have hb1 : (0 : Int) ≤ (i : Int) + 1 := by omega
 have hb2 : (i : Int) ≤ (i : Int) + 1 := by omega
 clear hn
 obtain ⟨m, rfl⟩ : ∃ m, n = m + 1 := ⟨n - 1, by omega⟩
 simp only [Nat.add_sub_cancel] at hown hcr hap0 hap1 ⊢
 have hb3 : (i : Int) + 1 ≤ (m : Int) + 1 := by omega
 have hb4 : (i : Int) ≤ (m : Int) + 1 := by omega
 have hb5 : (m : Int) + 1 ≤ (cap : Int) := by omega
 have hb6 : (i : Int) ≤ (cap : Int) := by omega
 have hb7 : (m : Int) ≤ (m : Int) + 1 := by omega
 have hb8 : (m : Int) ≤ (cap : Int) := by omega
 have hb9 : ((m : Int) + 1).toNat = m + 1 := by omega
 have hb10 : ¬ (cap = m) := by omega
 have hb11 : m + 1 - m = 1 := by omega
 go_enter Try.func78, Try.ntmps78
 go_wp2_with fail
 by_cases hci : cap = i + 1
 ·obtain rfl : m = i := by omega
  subst hci
  go_region_law (refine step_append_known w.drew rfl _ _ 36 36 rfl _ _ (by simp [Act.eval, Act.put]) (by simp [Act.eval, Act.put]) (hap0.out _ (by omega)) ?_)
  go_wp2_with (simp only [hcr.out])
  go_ret
  exact ⟨rfl, hown.out, hk.out⟩
 ·go_region_law (refine step_append_known w.drew rfl _ _ 36 36 rfl _ _ (by simp [Act.eval, Act.put]) (by simp [Act.eval, Act.put]) (hap1.out _ (cap - (i + 1))) ?_)
  go_wp2_with (simp only [hcr.out])
  go_ret
  exact ⟨rfl, hown.out, hk.out⟩

def SM.joinStep (M : SM) (n c : NM) (i d : Nat) (q : Int) (next : NM × Nat × Nat × Nat) : NM × Nat × Nat × Nat :=
 if q < 0 ∨ (n.ents.length : Int) ≤ q then next
 else
  let o := M.tnode (n.ents.getD q.toNat (0, 0)).2 (d + 1)
  if o.2 = 0 then
   if c.ents.length + o.1.ents.length ≤ 6 then (⟨c.kind, List.replicate 16 0, if q < i then o.1.ents ++ c.ents else c.ents ++ o.1.ents⟩, min i q.toNat, max i q.toNat + 1, 0)
   else next
  else (c, i, i + 1, o.2)
def SM.joinJ (M : SM) (n c : NM) (i d : Nat) : Nat → NM × Nat × Nat × Nat
 | 0 => (c, i, i + 1, 0)
 | 1 => M.joinStep n c i d ((i : Int) + 1) (c, i, i + 1, 0)
 | _ => M.joinStep n c i d ((i : Int) - 1) (M.joinStep n c i d ((i : Int) + 1) (c, i, i + 1, 0))
def SM.join (M : SM) (n c : NM) (i d : Nat) : NM × Nat × Nat × Nat :=
 if c.ents.length = 0 then (c, i, i + 1, 0) else M.joinJ n c i d 2
def SM.cutF : Nat → SM → Int → Int → SM × NM × Bool × Nat
 | 0, M, _, _ => (M, .zero, false, 81)
 | f + 1, M, root, key =>
  let n := M.tnode root (8 - f)
  let a := atI n.1.ents key
  if n.2 ≠ 0 ∨ a < 0 then (M, n.1, false, n.2)
  else if n.1.kind = 2 then
   if (n.1.ents.getD a.toNat (0, 0)).1 = key then (M, { n.1 with ents := n.1.ents.take a.toNat ++ n.1.ents.drop (a.toNat + 1) }, true, 0)
   else (M, n.1, false, 0)
  else
   let c := SM.cutF f M (n.1.ents.getD a.toNat (0, 0)).2 key
   if c.2.2.2 ≠ 0 ∨ c.2.2.1 = false then (c.1, n.1, false, c.2.2.2)
   else
    let j := c.1.join n.1 c.2.1 a.toNat (8 - f)
    if j.2.2.2 = 0 then
     let s := c.1.split j.1
     if s.2.2 = 0 then (s.1, { n.1 with ents := n.1.ents.take j.2.1 ++ s.2.1 ++ n.1.ents.drop j.2.2.1 }, true, 0)
     else (s.1, n.1, false, s.2.2)
    else (c.1, n.1, false, j.2.2.2)
def SM.cut (M : SM) (root key : Int) : SM × Int × Bool × Nat :=
 if key < 0 ∨ 64 ≤ key then (M, -1, false, 101)
 else if root = -1 then (M, -1, false, 0)
 else
  let c := SM.cutF 9 M root key
  if c.2.2.2 ≠ 0 then (c.1, -1, false, c.2.2.2)
  else if c.2.2.1 = false then (c.1, root, false, 0)
  else if c.2.1.kind = 3 ∧ c.2.1.ents.length = 1 then (c.1, (c.2.1.ents.getD 0 (0, 0)).2, true, 0)
  else
   let s := c.1.split c.2.1
   if s.2.2 ≠ 0 ∨ s.2.1.length = 0 then (s.1, -1, s.2.2 == 0, s.2.2)
   else (s.1, (s.2.1.getD 0 (0, 0)).2, true, 0)
theorem concat2 {W : World} {s1 s2 : Value} {l1 l2 : List (Int × Int)} (h1 : EntsAt W s1 l1) (h2 : EntsAt W s2 l2) (hl : l1.length + l2.length ≤ 1000) :
  Calls Try.prog 48 #[.slice (some ⟨W.heap.size, 0, none⟩) 2 2] (W.alloc (.cells #[s1, s2] 36)) fun e w' => ∃ u, e = .returned u ∧ w'.ownsRow (W.heap.size + 1) 58 2 u (l1 ++ l2).length (entCells (l1 ++ l2)) ∧ Kept (fun _ => False) W w' := by
 have k := (Kept.refl (fun _ => False) W).alloc (.cells #[s1, s2] 36)
 have hr : RowsAt (W.alloc (.cells #[s1, s2] 36)) (.slice (some ⟨W.heap.size, 0, none⟩) 2 2) 2 [entCells l1, entCells l2] [s1, s2] := by
  refine ⟨rfl, SliceAt.block_new (tt := 36) (fr := (0, 0)) (heap_alloc_new _ _) rfl (by decide), fun i u l hu hl => ?_⟩
  match i, hu, hl with
  | 0, hu, hl => cases hu; cases hl; exact ⟨_, SliceAt.fresh h1 k⟩
  | 1, hu, hl => cases hu; cases hl; exact ⟨_, SliceAt.fresh h2 k⟩
 have hs : sumV [s1, s2] = l1.length + l2.length := by
  unfold sumV
  simp only [List.map_cons, List.map_nil, SliceAt.lenV h1, SliceAt.lenV h2, List.sum_cons, List.sum_nil]
  omega
 refine (concatEnt hr (by rw [hs]; omega) (fun l hl => by
  simp only [List.mem_cons, List.not_mem_nil, or_false] at hl
  rcases hl with rfl | rfl <;> exact entCells_one _)).mono ?_
 rintro e w' ⟨u, he, ho, hk⟩
 refine ⟨u, he, ?_, k.trans hk⟩
 rw [hs] at ho
 have e1 : [entCells l1, entCells l2].flatten = entCells (l1 ++ l2) := by simp [entCells_append]
 rw [e1] at ho
 have e2 : (W.alloc (.cells #[s1, s2] 36)).heap.size = W.heap.size + 1 := by simp
 rw [e2] at ho
 rw [show (l1 ++ l2).length = l1.length + l2.length by simp only [List.length_append]]
 exact ho

set_option maxHeartbeats 4000000 in
theorem pruneFits {w : World} {n m : NM} {An Am : Option Addr} {ln lm cn cm : Nat} (h1 : ln ≤ 1000) (h2 : lm ≤ 1000) :
  Calls Try.prog 87 #[.agg (nodeCells n (.slice An ln cn)).toArray, .agg (nodeCells m (.slice Am lm cm)).toArray] w fun e w' => e = .returned (.bool (decide (ln + lm ≤ 6))) ∧ Kept (fun _ => False) w w' := by
 obtain ⟨F, hF⟩ : ∃ F, nodeCells n (.slice An ln cn) = F := ⟨_, rfl⟩
 obtain ⟨G, hG⟩ : ∃ G, nodeCells m (.slice Am lm cm) = G := ⟨_, rfl⟩
 obtain ⟨w1, hw1⟩ : ∃ w1, w.alloc (.cells F.toArray 71) = w1 := ⟨_, rfl⟩
 obtain ⟨w2, hw2⟩ : ∃ w2, w1.alloc (.cells G.toArray 71) = w2 := ⟨_, rfl⟩
 have k1 : Kept (fun _ => False) w w1 := by rw [← hw1]; exact (Kept.refl _ _).alloc _
 have k2 : Kept (fun _ => False) w1 w2 := by rw [← hw2]; exact (Kept.refl _ _).alloc _
 have s1 : w1.heap.size = w.heap.size + 1 := by rw [← hw1]; simp
 have b1 : NodeBox w2 w.heap.size n (.slice An ln cn) := ⟨by rw [hF]; exact k2.get (by rw [← hw1]; exact heap_alloc_new _ _) id⟩
 have b2 : NodeBox w2 (w.heap.size + 1) m (.slice Am lm cm) := ⟨by rw [hG, ← hw2, ← s1]; exact heap_alloc_new _ _⟩
 have c1 := b1.c17
 have c2 := b2.c17
 have hw1' := h_ hw1
 have hw2' := h_ hw2
 have s1' := h_ s1
 have k12 := h_ (k1.trans k2)
 have hwr : IntKind.i64.wrap ((ln : Int) + (lm : Int)) = (ln : Int) + (lm : Int) := by rw [IntKind.wrap_i64]; omega
 have hdec : decide ((ln : Int) + (lm : Int) ≤ 6) = decide (ln + lm ≤ 6) := by
  by_cases h : ln + lm ≤ 6
  ·rw [decide_eq_true h, decide_eq_true (by omega)]
  ·rw [decide_eq_false h, decide_eq_false (by omega)]
 rw [hF, hG]
 clear hw1 hw2 s1 k1 k2 b1 b2 hF hG
 go_enter Try.func87, Try.ntmps87
 go_wp2_with (first | (refine wpList_box_named 71 rfl rfl _ rfl hw1'.out ?_) | (refine wpList_box_named 71 rfl rfl _ rfl hw2'.out ?_; rw [s1'.out]))
 go_ret
 exact ⟨rfl, k12.out⟩

theorem results_row_tmp3 {P : Program} {fn : Func} {p u u2 u3 : Tmp} {ty : TypeId} (h : fn.results = #[.cell p ty, .tmp u, .tmp u2, .tmp u3]) (tmps : Array Value) (w : World) (g : Nat) (t : TypeId) (cs : Array Value) (fr : Nat × Nat) (d : TypeDesc)
  (hp : tmps.getD p undef = .pointer (some ⟨g, 0, none⟩)) (hg : w.heap[g]? = some (.cells cs t fr))
  (hu : P.underlying ty = some d) (hd : (match d with | .struct _ | .array _ _ => true | _ => false) = true) (hi : (P.info? ty).map (·.size) = some cs.size) :
  (results fn tmps).run P w = .ok (.tuple #[.agg cs, tmps.getD u undef, tmps.getD u2 undef, tmps.getD u3 undef]) w := by
 have hp' : tmps[p]?.getD undef = .pointer (some ⟨g, 0, none⟩) := by simpa using hp
 simp [results, h, hp', asAddr, run_loadVar_row w g t ty cs fr d hg hu hd hi]
theorem run_minN (w : World) (ts : Array TypeId) (ty : TypeId) (a b : Nat) : (Builtin.min_ ts ty #[.int .i64 a, .int .i64 b]).run Try.prog w = .ok (.int .i64 (min a b : Nat)) w := by
 by_cases h : a ≤ b
 ·rw [Nat.min_eq_left h]
  by_cases h2 : b < a
  ·omega
  ·have : ¬ ((b : Int) < a) := by omega
   simp [Builtin.min_, Builtin.min2, this]
 ·rw [Nat.min_eq_right (by omega)]
  have : (b : Int) < a := by omega
  simp [Builtin.min_, Builtin.min2, this]
theorem run_maxN (w : World) (ts : Array TypeId) (ty : TypeId) (a b : Nat) : (Builtin.max_ ts ty #[.int .i64 a, .int .i64 b]).run Try.prog w = .ok (.int .i64 (max a b : Nat)) w := by
 by_cases h : b ≤ a
 ·rw [Nat.max_eq_left h]
  have : ¬ ((a : Int) < b) := by omega
  simp [Builtin.max_, Builtin.max2, this]
 ·rw [Nat.max_eq_right (by omega)]
  have : (a : Int) < b := by omega
  simp [Builtin.max_, Builtin.max2, this]
theorem wpList_minN {ops : Array Oper} {rest : List Oper} {o : Oper} {a : Act} {w : World} {Q : Exit → Act → World → Prop} (hgd : o.guard = none) (x y : Operand) (ts : Array TypeId)
  (ho : o.op = .call { callee := .builtin .min, args := #[x, y], argTypes := ts }) {k m t : Nat} (hk : min k m = t) (hx : a.eval x = .int .i64 k) (hy : a.eval y = .int .i64 m) (h : wpList Try.prog ops Q rest (a.put o.dst (.int .i64 t)) w) : wpList Try.prog ops Q (o :: rest) a w :=
 wpList_plain hgd fun _ hK => by
  unfold Oper.wp
  simp only [execOp, ho, resolve, invoke, builtin, Sem.run_bind, Sem.run_pure, Result.andThen_ok, List.map_toArray, List.map_cons, List.map_nil, hx, hy, run_minN w ts o.type, hk]
  exact hK _ _ h
theorem wpList_maxN {ops : Array Oper} {rest : List Oper} {o : Oper} {a : Act} {w : World} {Q : Exit → Act → World → Prop} (hgd : o.guard = none) (x y : Operand) (ts : Array TypeId)
  (ho : o.op = .call { callee := .builtin .max, args := #[x, y], argTypes := ts }) {k m t : Nat} (hk : max k m = t) (hx : a.eval x = .int .i64 k) (hy : a.eval y = .int .i64 m) (h : wpList Try.prog ops Q rest (a.put o.dst (.int .i64 t)) w) : wpList Try.prog ops Q (o :: rest) a w :=
 wpList_plain hgd fun _ hK => by
  unfold Oper.wp
  simp only [execOp, ho, resolve, invoke, builtin, Sem.run_bind, Sem.run_pure, Result.andThen_ok, List.map_toArray, List.map_cons, List.map_nil, hx, hy, run_maxN w ts o.type, hk]
  exact hK _ _ h
theorem joinJ_step (M : SM) (n c : NM) (i d : Nat) {j : Nat} (hj : j < 2) : M.joinJ n c i d (2 - j) = M.joinStep n c i d (if j = 0 then (i : Int) - 1 else (i : Int) + 1) (M.joinJ n c i d (2 - (j + 1))) := by
 match j, hj with
 | 0, _ => rfl
 | 1, _ => rfl
theorem EntsOff.of_owns {w w' : World} {A : SA} {M : SM} (h : StoreAt w A M) {base : Nat} {v : Value} {l : List (Int × Int)} (ho : w'.ownsRow base 58 2 v l.length (entCells l)) (hb : w.heap.size ≤ base) : EntsOff w' A v l :=
 ⟨SliceAt.of_owns ho, fun _ b hb' => ⟨(ho.lt b hb').2, fun e => by have h1 := (ho.lt b hb').1; have h2 := h.lt (.inl e); omega⟩⟩

set_option maxHeartbeats 8000000 in
theorem pruneJoin {w : World} {A : SA} {M : SM} (h : StoreAt w A M) {n c : NM} {sn sc : Value} (hn : EntsAt w sn n.ents) (hc : EntsOff w A sc c.ents) (i d : Nat) (hd : d ≤ 8) (hi : i < n.ents.length) (hnl : n.ents.length ≤ 6) (hcl : c.ents.length ≤ 12) :
  Calls Try.prog 79 #[.agg #[.pointer (some ⟨A.sb, 0, none⟩)], .agg (nodeCells n sn).toArray, .agg (nodeCells c sc).toArray, .int .i64 i, .int .i64 d] w fun e w' =>
   ∃ v, e = .returned (.tuple #[.agg (nodeCells (M.join n c i d).1 v).toArray, .int .i64 (M.join n c i d).2.1, .int .i64 (M.join n c i d).2.2.1, .int .i64 (M.join n c i d).2.2.2]) ∧ EntsOff w' A v (M.join n c i d).1.ents ∧ Kept (fun _ => False) w w' ∧ (∀ g, v.ownBlock = some g → sc.ownBlock = some g ∨ w.heap.size ≤ g) := by
 obtain ⟨An, capn, rfl, hn1, hn2⟩ := EntsAt.form hn
 obtain ⟨Ac, capc, rfl, hc1, hc2⟩ := EntsAt.form hc.at_
 obtain ⟨y0, hy0⟩ : ∃ y0, n.ents[0]? = some y0 := ⟨_, List.getElem?_eq_getElem (by omega)⟩
 obtain ⟨b, off, rfl, -⟩ := EntsAt.get hn hy0
 clear hy0 y0
 obtain ⟨Z, hZ⟩ : ∃ Z, nodeCells NM.zero (.slice none 0 0) = Z := ⟨_, rfl⟩
 have hZz : Hid ((Try.prog.info? 71).map (·.zero) = some (some (.agg Z.toArray))) := h_ (by rw [← hZ]; exact node_zero)
 have hZl : Hid (Z.length = 18) := h_ (by rw [← hZ]; exact nodeCells_len _ _)
 obtain ⟨F, hF⟩ : ∃ F, nodeCells n (.slice (some ⟨b, off, none⟩) n.ents.length capn) = F := ⟨_, rfl⟩
 have hFl : Hid (F.length = 18) := h_ (by rw [← hF]; exact nodeCells_len _ _)
 have hF1 : Hid (∀ v ∈ F, v.oneCell' = true) := h_ (by rw [← hF]; exact nodeCells_one _ _ _ _)
 obtain ⟨C, hC⟩ : ∃ C, nodeCells c (.slice Ac c.ents.length capc) = C := ⟨_, rfl⟩
 have hCl : Hid (C.length = 18) := h_ (by rw [← hC]; exact nodeCells_len _ _)
 have hC1 : Hid (∀ v ∈ C, v.oneCell' = true) := h_ (by rw [← hC]; exact nodeCells_one _ _ _ _)
 obtain ⟨w1, hw1⟩ : ∃ w1, w.alloc (.cells #[.pointer (some ⟨A.sb, 0, none⟩)] 29) = w1 := ⟨_, rfl⟩
 obtain ⟨w2, hw2⟩ : ∃ w2, w1.alloc (.cells F.toArray 71) = w2 := ⟨_, rfl⟩
 obtain ⟨w3, hw3⟩ : ∃ w3, w2.alloc (.cells C.toArray 71) = w3 := ⟨_, rfl⟩
 obtain ⟨w4, hw4⟩ : ∃ w4, w3.alloc (.cells Z.toArray 71) = w4 := ⟨_, rfl⟩
 have k1 : Kept (fun _ => False) w w1 := by rw [← hw1]; exact (Kept.refl _ _).alloc _
 have k2 : Kept (fun _ => False) w1 w2 := by rw [← hw2]; exact (Kept.refl _ _).alloc _
 have k3 : Kept (fun _ => False) w2 w3 := by rw [← hw3]; exact (Kept.refl _ _).alloc _
 have k4 : Kept (fun _ => False) w3 w4 := by rw [← hw4]; exact (Kept.refl _ _).alloc _
 have s1 : w1.heap.size = w.heap.size + 1 := by rw [← hw1]; simp
 have s2 : w2.heap.size = w.heap.size + 2 := by rw [← hw2]; simp [s1]
 have s3 : w3.heap.size = w.heap.size + 3 := by rw [← hw3]; simp [s2]
 have s4 : w4.heap.size = w.heap.size + 4 := by rw [← hw4]; simp [s3]
 have t4 := h_ (show w4.heap[w.heap.size]? = some (.cells #[.pointer (some ⟨A.sb, 0, none⟩)] 29 (0, 0)) from ((k2.trans k3).trans k4).get (by rw [← hw1]; exact heap_alloc_new _ _) id)
 have f4 := h_ (show w4.heap[w.heap.size + 1]? = some (.cells F.toArray 71 (0, 0)) from (k3.trans k4).get (by rw [← hw2, ← s1]; exact heap_alloc_new _ _) id)
 have c4 := h_ (show w4.heap[w.heap.size + 2]? = some (.cells C.toArray 71 (0, 0)) from k4.get (by rw [← hw3, ← s2]; exact heap_alloc_new _ _) id)
 have r4 := h_ (show w4.heap[w.heap.size + 3]? = some (.cells Z.toArray 71 (0, 0)) by rw [← hw4, ← s3]; exact heap_alloc_new _ _)
 have k04 := h_ (((k1.trans k2).trans k3).trans k4)
 have hbx := h_ (show NodeBox w4 (w.heap.size + 2) c (.slice Ac c.ents.length capc) from ⟨by rw [hC]; exact c4.out⟩)
 have hbn := h_ (show NodeBox w4 (w.heap.size + 1) n (.slice (some ⟨b, off, none⟩) n.ents.length capn) from ⟨by rw [hF]; exact f4.out⟩)
 have c17 := hbx.out.c17
 have hw1' := h_ hw1
 have hw2' := h_ hw2
 have hw3' := h_ hw3
 have hw4' := h_ hw4
 have s1' := h_ s1
 have s2' := h_ s2
 have s3' := h_ s3
 have s4' := h_ s4
 have h' := h_ h
 have hn' := h_ hn
 have hc' := h_ hc
 rw [hF, hC]
 have hF' := h_ hF
 have hC' := h_ hC
 unfold maxLen at hn2 hc2
 have hwi : IntKind.i64.wrap ((i : Int) + 1) = (i : Int) + 1 := by rw [IntKind.wrap_i64]; omega
 have hwi2 : IntKind.i64.wrap ((i : Int) - 1) = (i : Int) - 1 := by rw [IntKind.wrap_i64]; omega
 clear hw1 hw2 hw3 hw4 k1 k2 k3 k4 s1 s2 s3 s4 h hn hc hF hC hZ
 have stop : Hid (∀ (wr : World) (a2 a3 er : Nat), Kept (fun _ => False) w4 wr → M.join n c i d = (c, a2, a3, er) → EntsOff (wr.setRow (w.heap.size + 3) C.toArray) A (.slice Ac c.ents.length capc) (M.join n c i d).1.ents ∧ Kept (fun _ => False) w (wr.setRow (w.heap.size + 3) C.toArray)) := h_ (fun wr a2 a3 er hk he => by
  have k := (k04.out.trans hk).setRowNew (show w.heap.size ≤ w.heap.size + 3 by omega) C.toArray
  rw [he]
  exact ⟨hc'.out.fresh k, k⟩)
 go_enter Try.func79, Try.ntmps79
 by_cases h00 : c.ents.length = 0
 ·have hj : M.join n c i d = (c, i, i + 1, 0) := by unfold SM.join; rw [if_pos h00]
  have hj' := h_ hj
  have hS := h_ (stop.out w4 i (i + 1) 0 (Kept.refl _ _) hj)
  rw [h00] at c17
  clear hj h00
  go_wp2_with (first | (refine wpList_box_named 29 rfl rfl _ rfl hw1'.out ?_) | (refine wpList_box_named 71 rfl rfl _ rfl hw2'.out ?_; rw [s1'.out]) | (refine wpList_box_named 71 rfl rfl _ rfl hw3'.out ?_; rw [s2'.out]) | (refine wpList_alloc_as 71 rfl rfl Z.toArray hZz.out ?_; rw [hw4'.out, s3'.out]) | (refine wpList_load_agg 71 rfl rfl rfl _ Try.underlying71 rfl C (by rw [hCl.out]; exact node_size) (fun j v hv => by rw [cell_of_heap c4.out, Nat.zero_add]; simpa using hv) ?_) | (refine wpList_store_whole 71 rfl rfl rfl C rfl (by rw [hCl.out]; exact node_size) 71 _ r4.out (by simp [hCl.out, hZl.out]) hC1.out ?_))
  refine bodyPost_ret (results_row_tmp3 rfl _ _ (w.heap.size + 3) 71 C.toArray (0, 0) _ rfl (setRow_heap _ _ _ _ 71 (0, 0) r4.out) Try.underlying71 rfl (by simp only [List.size_toArray]; rw [hCl.out]; exact node_size)) rfl ?_
  exact ⟨.slice Ac c.ents.length capc, by rw [hj'.out, ← hC'.out]; rfl, hS.out.1, hS.out.2, fun g hg => .inl hg⟩
 ·have hj : Hid (M.joinJ n c i d (2 - 0) = M.join n c i d) := h_ (by unfold SM.join; rw [if_neg h00])
  have h0b : ((c.ents.length : Int) == 0) = false := by rw [beq_eq_false_iff_ne]; omega
  go_wp2_with (first | (refine wpList_box_named 29 rfl rfl _ rfl hw1'.out ?_) | (refine wpList_box_named 71 rfl rfl _ rfl hw2'.out ?_; rw [s1'.out]) | (refine wpList_box_named 71 rfl rfl _ rfl hw3'.out ?_; rw [s2'.out]) | (refine wpList_alloc_as 71 rfl rfl Z.toArray hZz.out ?_; rw [hw4'.out, s3'.out]))
  obtain ⟨kb, hkb⟩ : ∃ kb, w4.heap.size = kb := ⟨_, rfl⟩
  obtain ⟨w5, hw5⟩ : ∃ w5, w4.alloc (.cells #[.int .i64 ((i : Int) - 1), .int .i64 ((i : Int) + 1)] 3) = w5 := ⟨_, rfl⟩
  have k45 := h_ (show Kept (fun _ => False) w4 w5 by rw [← hw5]; exact (Kept.refl _ _).alloc _)
  have x5 := h_ (show w5.heap[kb]? = some (.cells #[.int .i64 ((i : Int) - 1), .int .i64 ((i : Int) + 1)] 3 (0, 0)) by rw [← hw5, ← hkb]; exact heap_alloc_new _ _)
  rw [hkb, hw5]
  clear hw5 hkb
  go_loopw [33] (fun x wr => ∃ j : Nat, j ≤ 2 ∧ x = .int .i64 j ∧ Hid (M.joinJ n c i d (2 - j) = M.join n c i d) ∧ Hid (Kept (fun _ => False) w5 wr)) (fun x _ => 2 - (intOf x).toNat)
  case atStart => exact ⟨0, by omega, rfl, hj, h_ (Kept.refl _ _)⟩
  case round =>
   obtain ⟨j, hj2, rfl, hq, hkr⟩ := hrel
   have k4r := h_ (k45.out.trans hkr.out)
   have tr := h_ (k4r.out.get t4.out id)
   have fr := h_ (k4r.out.get f4.out id)
   have cr := h_ (k4r.out.get c4.out id)
   have rr := h_ (k4r.out.get r4.out id)
   have n17 := (hbn.out.kept k4r.out id).c17
   by_cases hlt2 : j < 2
   ·obtain ⟨q, hqk⟩ : ∃ q : Int, (if j = 0 then (i : Int) - 1 else (i : Int) + 1) = q := ⟨_, rfl⟩
    have hqb : q = (i : Int) - 1 ∨ q = (i : Int) + 1 := by rw [← hqk]; split <;> omega
    have hcq : wr.cell? ⟨kb, j, none⟩ = some (.int .i64 q) := by
     rw [cell_of_heap (hkr.out.get x5.out id), ← hqk]
     match j, hlt2 with
     | 0, _ => rfl
     | 1, _ => rfl
    have hstep := h_ ((joinJ_step M n c i d hlt2).symm.trans hq.out)
    rw [hqk] at hstep
    have hj3 : (j : Int) < 2 := by omega
    have hqb' := h_ hqb
    clear hqk hqb
    by_cases hq0 : q < 0
    ·have hnext := h_ (show M.joinJ n c i d (2 - (j + 1)) = M.join n c i d by rw [← hstep.out]; unfold SM.joinStep; rw [if_pos (Or.inl hq0)])
     go_wp2_with fail
     go_roundw
     case rel => exact ⟨j + 1, by omega, by go_num, hnext, hkr⟩
     case measure => simp [intOf]; omega
    ·obtain ⟨p, rfl⟩ := Int.eq_ofNat_of_zero_le (show 0 ≤ q by omega)
     clear hq0
     by_cases hql : (n.ents.length : Int) ≤ (p : Int)
     ·have hnext := h_ (show M.joinJ n c i d (2 - (j + 1)) = M.join n c i d by rw [← hstep.out]; unfold SM.joinStep; rw [if_pos (Or.inr hql)])
      go_wp2_with fail
      go_roundw
      case rel => exact ⟨j + 1, by omega, by go_num, hnext, hkr⟩
      case measure => simp [intOf]; omega
     ·have hpl : p < n.ents.length := by omega
      obtain ⟨y, hy⟩ : ∃ y, n.ents[p]? = some y := ⟨_, List.getElem?_eq_getElem hpl⟩
      have cyr : wr.cell? ⟨b, off + p * 2 + 1, none⟩ = some (.int .i64 y.2) := by
       obtain ⟨b', off', hA, _, _, c⟩ := EntsAt.get (SliceAt.fresh hn'.out (k04.out.trans k4r.out)) hy
       cases hA
       exact c
      have hnode := fun (W : World) (k : Kept (fun _ => False) w W) => pruneNode (h'.out.fresh k) y.2 (d + 1) (by omega)
      have hok := fun h0 => tnode_ok h'.out (i := y.2) (d := d + 1) h0
      have hS := hstep.out
      unfold SM.joinStep at hS
      rw [if_neg (by omega)] at hS
      rw [show n.ents.getD ((p : Nat) : Int).toNat (0, 0) = y by simp [hy]] at hS
      obtain ⟨R, hR⟩ : ∃ R, M.tnode y.2 (d + 1) = R := ⟨_, rfl⟩
      simp only [hR] at hnode hok hS
      obtain ⟨m, er⟩ := R
      dsimp only at hnode hok hS
      rw [Int.natCast_add, Int.natCast_one] at hnode
      have hnode' := h_ hnode
      have hok' := h_ hok
      have hS' := h_ hS
      have hwd : IntKind.i64.wrap ((d : Int) + 1) = (d : Int) + 1 := by rw [IntKind.wrap_i64]; omega
      have hpl' : (p : Int) < (n.ents.length : Int) := by omega
      have hcyr' := h_ cyr
      have hn17' := h_ n17
      clear hnode hok hS hstep hy hR hql
      go_wp2_with fail
      have held := h_ (fun W (k : Kept (fun _ => False) wr W) => (⟨k.get tr.out id, k.cell hn17'.out id, k.cell hcyr'.out id⟩ : W.heap[w.heap.size]? = some (.cells #[.pointer (some ⟨A.sb, 0, none⟩)] 29 (0, 0)) ∧ W.cell? ⟨w.heap.size + 1, 17, none⟩ = some (.slice (some ⟨b, off, none⟩) n.ents.length capn) ∧ W.cell? ⟨b, off + p * 2 + 1, none⟩ = some (.int .i64 y.2)))
      refine wp_region_held_drew (S := fun W => W.heap[w.heap.size]? = some (.cells #[.pointer (some ⟨A.sb, 0, none⟩)] 29 (0, 0)) ∧ W.cell? ⟨w.heap.size + 1, 17, none⟩ = some (.slice (some ⟨b, off, none⟩) n.ents.length capn) ∧ W.cell? ⟨b, off + p * 2 + 1, none⟩ = some (.int .i64 y.2)) (by kernel_rfl) ⟨tr.out, hn17'.out, hcyr'.out⟩ (fun hH => ?_)
      refine wpAnyH_take (i := 0) (v := .agg #[.pointer (some ⟨A.sb, 0, none⟩)]) rfl (by kernel_rfl) (by kernel_rfl) (by kernel_rfl) (fun _ _ _ h => h) (Or.inl ⟨by rfl, fun W hW => exec_load_agg rfl (by rfl) [.pointer (some ⟨A.sb, 0, none⟩)] Try.underlying29 rfl (by kernel_rfl) (fun j v hj => by rw [cell_of_heap hW.1, Nat.zero_add]; simpa using hj)⟩) (by assumption) ?_
      simp only [Act.put, q1_, q2_, q3_, List.setIfInBounds_toArray, q5_, q6_]
      refine wpAnyH_take (i := 1) (v := .pointer (some ⟨w.heap.size + 1, 17, none⟩)) rfl (by kernel_rfl) (by kernel_rfl) (by kernel_rfl) (fun _ _ _ h => h) (Or.inl ⟨by rfl, fun W hW => by go_simp⟩) (by assumption) ?_
      simp only [Act.put, q1_, q2_, q3_, List.setIfInBounds_toArray, q5_, q6_]
      refine wpAnyH_take (i := 2) (v := .slice (some ⟨b, off, none⟩) n.ents.length capn) rfl (by kernel_rfl) (by kernel_rfl) (by kernel_rfl) (fun _ _ _ h => h) (Or.inl ⟨by rfl, fun W hW => by have hc := hW.2.1; clear hW; go_simp⟩) (by assumption) ?_
      simp only [Act.put, q1_, q2_, q3_, List.setIfInBounds_toArray, q5_, q6_]
      refine wpAnyH_take (i := 3) (v := .int .i64 p) rfl (by kernel_rfl) (by kernel_rfl) (by kernel_rfl) (fun _ _ _ h => h) (Or.inl ⟨by rfl, fun W hW => by go_simp⟩) (by assumption) ?_
      simp only [Act.put, q1_, q2_, q3_, List.setIfInBounds_toArray, q5_, q6_]
      refine wpAnyH_take (i := 4) (v := .pointer (some ⟨b, off + p * 2, none⟩)) rfl (by kernel_rfl) (by kernel_rfl) (by kernel_rfl) (fun _ _ _ h => h) (Or.inl ⟨by rfl, fun W hW => by go_simp⟩) (by assumption) ?_
      simp only [Act.put, q1_, q2_, q3_, List.setIfInBounds_toArray, q5_, q6_]
      refine wpAnyH_take (i := 5) (v := .pointer (some ⟨b, off + p * 2 + 1, none⟩)) rfl (by kernel_rfl) (by kernel_rfl) (by kernel_rfl) (fun _ _ _ h => h) (Or.inl ⟨by rfl, fun W hW => by go_simp⟩) (by assumption) ?_
      simp only [Act.put, q1_, q2_, q3_, List.setIfInBounds_toArray, q5_, q6_]
      refine wpAnyH_take (i := 6) (v := .int .i64 y.2) rfl (by kernel_rfl) (by kernel_rfl) (by kernel_rfl) (fun _ _ _ h => h) (Or.inl ⟨by rfl, fun W hW => by have hc := hW.2.2; clear hW; go_simp⟩) (by assumption) ?_
      simp only [Act.put, q1_, q2_, q3_, List.setIfInBounds_toArray, q5_, q6_]
      refine wpAnyH_take (i := 7) (v := .int .i64 d) rfl (by kernel_rfl) (by kernel_rfl) (by kernel_rfl) (fun _ _ _ h => h) (Or.inl ⟨by rfl, fun W hW => by go_simp⟩) (by assumption) ?_
      simp only [Act.put, q1_, q2_, q3_, List.setIfInBounds_toArray, q5_, q6_]
      refine wpAnyH_take (i := 8) (v := .int .i64 ((d : Int) + 1)) rfl (by kernel_rfl) (by kernel_rfl) (by kernel_rfl) (fun _ _ _ h => h) (Or.inl ⟨by rfl, fun W hW => by go_simp⟩) (by assumption) ?_
      simp only [Act.put, q1_, q2_, q3_, List.setIfInBounds_toArray, q5_, q6_]
      refine wpAnyH_ready (rs := [9, 13]) (by kernel_rfl) (by simp) ?_
      refine AllReadyH.cons rfl (fun K hK => ?_) ?_
      ·rw [if_pos (by rfl)]
       simp only [Go.wp_at_zero, Go.wp_at_succ]
       go_simp
       refine (hnode'.out _ ((k04.out.trans k4r.out).trans (Kept.refl _ _).drew)).mono ?_
       rintro e w8 ⟨v8, rfl, hown8, hk8⟩
       obtain ⟨Am, capm, rfl, -⟩ := EntsAt.form (show EntsAt w8 v8 m.ents from SliceAt.of_owns hown8)
       obtain ⟨O, hO⟩ : ∃ O, nodeCells m (.slice Am m.ents.length capm) = O := ⟨_, rfl⟩
       have hOl : Hid (O.length = 18) := h_ (by rw [← hO]; exact nodeCells_len _ _)
       have hO1 : Hid (∀ v ∈ O, v.oneCell' = true) := h_ (by rw [← hO]; exact nodeCells_one _ _ _ _)
       rw [hO]
       have k8 : Kept (fun _ => False) wr w8 := (Kept.refl _ _).drew.trans hk8
       refine hK.out _ _ (held.out _ k8) (fun hH8 => ?_)
       clear hK K
       try simp only [Act.put, q1_, q2_, q3_, List.setIfInBounds_toArray, q5_, q6_]
       refine wpAnyH_take (i := 10) (v := .tuple #[.agg O.toArray, .int .i64 er]) rfl (by kernel_rfl) (by kernel_rfl) (by kernel_rfl) (fun _ _ _ h => h) (Or.inl ⟨by rfl, fun W hW => by go_simp⟩) (by assumption) ?_
       simp only [Act.put, q1_, q2_, q3_, List.setIfInBounds_toArray, q5_, q6_]
       refine wpAnyH_take (i := 11) (v := .agg O.toArray) rfl (by kernel_rfl) (by kernel_rfl) (by kernel_rfl) (fun _ _ _ h => h) (Or.inl ⟨by rfl, fun W hW => by go_simp⟩) (by assumption) ?_
       simp only [Act.put, q1_, q2_, q3_, List.setIfInBounds_toArray, q5_, q6_]
       refine wpAnyH_take (i := 12) (v := .int .i64 er) rfl (by kernel_rfl) (by kernel_rfl) (by kernel_rfl) (fun _ _ _ h => h) (Or.inl ⟨by rfl, fun W hW => by go_simp⟩) (by assumption) ?_
       simp only [Act.put, q1_, q2_, q3_, List.setIfInBounds_toArray, q5_, q6_]
       refine wpAnyH_ready (rs := [13]) (by kernel_rfl) (by simp) ?_
       refine AllReadyH.cons rfl (fun K hK => ?_) ?_
       ·refine step_alloc_as 71 rfl rfl Z.toArray hZz.out ?_
        obtain ⟨cb, hcbe⟩ : ∃ cb, w8.heap.size = cb := ⟨_, rfl⟩
        have kc : Kept (fun _ => False) wr (w8.alloc (.cells Z.toArray 71)) := k8.alloc _
        have hcb : (w8.alloc (.cells Z.toArray 71)).heap[cb]? = some (.cells Z.toArray 71 (0, 0)) := by rw [← hcbe]; exact heap_alloc_new _ _
        have hcbn : wr.heap.size ≤ cb := by rw [← hcbe]; exact k8.size
        have hent : EntsAt (w8.alloc (.cells Z.toArray 71)) (.slice Am m.ents.length capm) m.ents := SliceAt.fresh (SliceAt.of_owns hown8) ((Kept.refl _ _).alloc _)
        have hne : (Value.slice Am m.ents.length capm).ownBlock ≠ some cb := fun e => by have := (hown8.lt cb e).2; omega
        rw [hcbe]
        refine hK.out _ _ (held.out _ kc) (fun hH9 => ?_)
        clear hK K
        try simp only [Act.put, q1_, q2_, q3_, List.setIfInBounds_toArray, q5_, q6_]
        refine wpAnyH_ready (rs := [14]) (by kernel_rfl) (by simp) ?_
        refine AllReadyH.cons rfl (fun K hK => ?_) ?_
        ·refine step_store_whole 71 rfl rfl (by rfl) O (by rfl) (by rw [hOl.out]; exact node_size) 71 Z.toArray hcb (by simp [hOl.out, hZl.out]) hO1.out ?_
         have kS : Kept (fun _ => False) wr ((w8.alloc (.cells Z.toArray 71)).setRow cb O.toArray) := kc.setRowNew hcbn O.toArray
         refine hK.out _ _ (held.out _ kS) (fun hH10 => ?_)
         clear hK K
         try simp only [Act.put, q1_, q2_, q3_, List.setIfInBounds_toArray, q5_, q6_]
         refine wpAnyH_take (i := 15) (v := .int .i64 er) rfl (by kernel_rfl) (by kernel_rfl) (by kernel_rfl) (fun _ _ _ h => h) (Or.inl ⟨by rfl, fun W hW => by go_simp⟩) (by assumption) ?_
         simp only [Act.put, q1_, q2_, q3_, List.setIfInBounds_toArray, q5_, q6_]
         refine wpAnyH_done (by kernel_rfl) ?_ _
         have bo : NodeBox ((w8.alloc (.cells Z.toArray 71)).setRow cb O.toArray) cb m (.slice Am m.ents.length capm) := ⟨by rw [hO]; exact setRow_heap _ _ _ _ _ _ hcb⟩
         have eo : EntsAt ((w8.alloc (.cells Z.toArray 71)).setRow cb O.toArray) (.slice Am m.ents.length capm) m.ents := SliceAt.kept hent ((Kept.refl (fun j => j = cb) _).setRow rfl O.toArray) (fun g hg e => hne (by rw [hg, e]))
         obtain ⟨w10, hw10⟩ : ∃ w10, (w8.alloc (.cells Z.toArray 71)).setRow cb O.toArray = w10 := ⟨_, rfl⟩
         rw [hw10] at bo eo kS ⊢
         have bo10 := h_ bo
         have eo10 := h_ eo
         have kr10 := h_ kS
         have hO' := h_ hO
         have c10 := h_ (kS.get cr.out id)
         have r10 := h_ (kS.get rr.out id)
         have o10 := h_ (show w10.heap[cb]? = some (.cells O.toArray 71 (0, 0)) by rw [← hO]; exact bo.heap)
         clear bo eo kS hO hw10 hH hH8 hH9 hH10 hown8 hk8 k8 kc hcb hcbn hcbe hent hne
         by_cases h0 : er = 0
         ·subst h0
          simp only [if_true] at hS'
          have hml := (hok'.out rfl).1.le
          have hfits := pruneFits (w := w10) (n := c) (m := m) (An := Ac) (Am := Am) (ln := c.ents.length) (lm := m.ents.length) (cn := capc) (cm := capm) (by omega) (by omega)
          rw [hC'.out, hO'.out] at hfits
          have hfits' := h_ hfits
          clear hfits
          go_wp2_with (first | (refine wpList_load_agg 71 rfl rfl rfl _ Try.underlying71 rfl C (by rw [hCl.out]; exact node_size) (fun j v hv => by rw [cell_of_heap c10.out, Nat.zero_add]; simpa using hv) ?_) | (refine wpList_load_agg 71 rfl rfl rfl _ Try.underlying71 rfl O (by rw [hOl.out]; exact node_size) (fun j v hv => by rw [cell_of_heap o10.out, Nat.zero_add]; simpa using hv) ?_))
          refine hfits'.out.mono ?_
          rintro e w11 ⟨rfl, hk11⟩
          have k11 := h_ (kr10.out.trans hk11)
          have eo11 := h_ (SliceAt.fresh eo10.out hk11)
          have ec11 := h_ (SliceAt.fresh hc'.out.at_ ((k04.out.trans k4r.out).trans k11.out))
          have bo11 := h_ (bo10.out.kept hk11 id)
          clear hk11
          by_cases hfit : c.ents.length + m.ents.length ≤ 6
          ·have hfd : decide (c.ents.length + m.ents.length ≤ 6) = true := decide_eq_true hfit
           rw [if_pos hfit] at hS'
           have hcc := h_ (concat2 (W := w11) ec11.out eo11.out (by omega))
           have c17o := bo11.out.c17
           have c17c := (hbx.out.kept (k4r.out.trans k11.out) id).c17
           go_wp2_with fail
           refine hcc.out.mono ?_
           rintro e w12 ⟨u, rfl, hown12, hk12⟩
           obtain ⟨A12, cap12, rfl, -⟩ := EntsAt.form (show EntsAt w12 u (c.ents ++ m.ents) from SliceAt.of_owns hown12)
           have k12 := h_ (k11.out.trans hk12)
           have bo12 := h_ (bo11.out.kept hk12 id)
           have bc12 := h_ (hbx.out.kept (k4r.out.trans k12.out) id)
           have c17o := bo12.out.c17
           have c17c := bc12.out.c17
           have c0c := bc12.out.c0
           have r12 := h_ (k12.out.get rr.out id)
           have hown12' := h_ hown12
           have s11 := k11.out.size
           have ec12 := h_ (SliceAt.fresh ec11.out hk12)
           have eo12 := h_ (SliceAt.fresh eo11.out hk12)
           have hs12 := hk12.size
           clear hown12 hk12 hcc
           obtain ⟨mn, hmn⟩ : ∃ mn, min i p = mn := ⟨_, rfl⟩
           obtain ⟨mx, hmx⟩ : ∃ mx, max i p = mx := ⟨_, rfl⟩
           have hmn' := h_ hmn
           have hmx' := h_ hmx
           rw [show min i ((p : Int)).toNat = mn from hmn, show max i ((p : Int)).toNat = mx from hmx] at hS'
           have hmx7 : mx ≤ 7 := by have := hqb'.out; omega
           have hwx : IntKind.i64.wrap ((mx : Int) + 1) = (mx : Int) + 1 := by rw [IntKind.wrap_i64]; omega
           have hbs := k4r.out.size
           clear hmn hmx
           by_cases hpi : p < i
           ·rw [if_pos (show (p : Int) < (i : Int) by omega)] at hS'
            have hpi' : decide ((p : Int) < (i : Int)) = true := decide_eq_true (by omega)
            have hpi2 : (p : Int) < (i : Int) := by omega
            have hcc2 := h_ (concat2 (W := w12) eo12.out ec12.out (by omega))
            go_wp2_with fail
            refine hcc2.out.mono ?_
            rintro e w13 ⟨u, rfl, hown13, hk13⟩
            obtain ⟨A13, cap13, rfl, -⟩ := EntsAt.form (show EntsAt w13 u (m.ents ++ c.ents) from SliceAt.of_owns hown13)
            have c0c := (bc12.out.kept hk13 id).c0
            have r13 := h_ (hk13.get r12.out id)
            have k13 := h_ (k12.out.trans hk13)
            have hown13' := h_ hown13
            have hs13 := s4'.out
            clear hown13 hk13 hcc2
            obtain ⟨G, hG⟩ : ∃ G, nodeCells ⟨c.kind, zeros16, m.ents ++ c.ents⟩ (.slice A13 (m.ents ++ c.ents).length cap13) = G := ⟨_, rfl⟩
            have hGl : Hid (G.length = 18) := h_ (by rw [← hG]; exact nodeCells_len _ _)
            have hG1 : Hid (∀ v ∈ G, v.oneCell' = true) := h_ (by rw [← hG]; exact nodeCells_one _ _ _ _)
            have hbld : Hid (∀ w, (Instr.build 71 #[(0, .int .i64 c.kind), (2, .slice A13 (m.ents ++ c.ents).length cap13)]).run Try.prog w = .ok (.agg G.toArray) w) := h_ (fun w => by rw [← hG]; exact run_build_part _ _ (m.ents ++ c.ents) _ _ _)
            have hG' := h_ hG
            clear hG
            go_wp2_with (first | (refine wpList_exec rfl (exec_build 71 #[(0, .tmp 86), (2, .tmp 87)] _ rfl (by simp [Act.eval]) (hbld.out _)) ?_) | (refine wpList_minN rfl (.tmp 89) (.tmp 90) #[3, 3] rfl hmn'.out (by rfl) (by rfl) ?_) | (refine wpList_maxN rfl (.tmp 92) (.tmp 93) #[3, 3] rfl hmx'.out (by rfl) (by rfl) ?_) | (refine wpList_store_whole 71 rfl rfl rfl G rfl (by rw [hGl.out]; exact node_size) 71 _ r13.out (by simp [hGl.out, hZl.out]) hG1.out ?_))
            refine bodyPost_ret (results_row_tmp3 rfl _ _ (w.heap.size + 3) 71 G.toArray (0, 0) _ rfl (setRow_heap _ _ _ _ 71 (0, 0) r13.out) Try.underlying71 rfl (by simp only [List.size_toArray]; rw [hGl.out]; exact node_size)) rfl ?_
            have kS := (Kept.refl (fun j => j = w.heap.size + 3) w13).setRow rfl G.toArray
            have hoS := ownsRow.keptOf hown13'.out kS (fun g hg e => by have := (hown13'.out.lt g hg).1; omega)
            refine ⟨.slice A13 (m.ents ++ c.ents).length cap13, by rw [← hS'.out, ← hG'.out]; rfl, ?_, ((k04.out.trans k4r.out).trans k13.out).setRowNew (by omega) _, fun g hg => .inr (by have h1 := (hoS.lt g hg).1; omega)⟩
            rw [← hS'.out]
            exact EntsOff.of_owns h'.out hoS (by omega)
           ·rw [if_neg (show ¬ (p : Int) < (i : Int) by omega)] at hS'
            have hpi' : decide ((p : Int) < (i : Int)) = false := decide_eq_false (by omega)
            have hpi2 : ¬ (p : Int) < (i : Int) := by omega
            have hs13 := s4'.out
            obtain ⟨G, hG⟩ : ∃ G, nodeCells ⟨c.kind, zeros16, c.ents ++ m.ents⟩ (.slice A12 (c.ents ++ m.ents).length cap12) = G := ⟨_, rfl⟩
            have hGl : Hid (G.length = 18) := h_ (by rw [← hG]; exact nodeCells_len _ _)
            have hG1 : Hid (∀ v ∈ G, v.oneCell' = true) := h_ (by rw [← hG]; exact nodeCells_one _ _ _ _)
            have hbld : Hid (∀ w, (Instr.build 71 #[(0, .int .i64 c.kind), (2, .slice A12 (c.ents ++ m.ents).length cap12)]).run Try.prog w = .ok (.agg G.toArray) w) := h_ (fun w => by rw [← hG]; exact run_build_part _ _ (c.ents ++ m.ents) _ _ _)
            have hG' := h_ hG
            clear hG
            go_wp2_with (first | (refine wpList_exec rfl (exec_build 71 #[(0, .tmp 86), (2, .tmp 87)] _ rfl (by simp [Act.eval]) (hbld.out _)) ?_) | (refine wpList_minN rfl (.tmp 89) (.tmp 90) #[3, 3] rfl hmn'.out (by rfl) (by rfl) ?_) | (refine wpList_maxN rfl (.tmp 92) (.tmp 93) #[3, 3] rfl hmx'.out (by rfl) (by rfl) ?_) | (refine wpList_store_whole 71 rfl rfl rfl G rfl (by rw [hGl.out]; exact node_size) 71 _ r12.out (by simp [hGl.out, hZl.out]) hG1.out ?_))
            refine bodyPost_ret (results_row_tmp3 rfl _ _ (w.heap.size + 3) 71 G.toArray (0, 0) _ rfl (setRow_heap _ _ _ _ 71 (0, 0) r12.out) Try.underlying71 rfl (by simp only [List.size_toArray]; rw [hGl.out]; exact node_size)) rfl ?_
            have kS := (Kept.refl (fun j => j = w.heap.size + 3) w12).setRow rfl G.toArray
            have hoS := ownsRow.keptOf hown12'.out kS (fun g hg e => by have := (hown12'.out.lt g hg).1; omega)
            refine ⟨.slice A12 (c.ents ++ m.ents).length cap12, by rw [← hS'.out, ← hG'.out]; rfl, ?_, ((k04.out.trans k4r.out).trans k12.out).setRowNew (by omega) _, fun g hg => .inr (by have h1 := (hoS.lt g hg).1; omega)⟩
            rw [← hS'.out]
            exact EntsOff.of_owns h'.out hoS (by omega)
          ·have hfd : decide (c.ents.length + m.ents.length ≤ 6) = false := decide_eq_false hfit
           rw [if_neg hfit] at hS'
           have hkn := h_ (hkr.out.trans k11.out)
           go_wp2_with fail
           go_roundw
           case rel => exact ⟨j + 1, by omega, by go_num, hS', hkn⟩
           case measure => simp [intOf]; omega
         ·have hend : M.join n c i d = (c, i, i + 1, er) := by rw [← hS'.out, if_neg h0]
          have hend' := h_ hend
          have h0' : ((er : Int) == 0) = false := by rw [beq_eq_false_iff_ne]; omega
          have hS := h_ (stop.out w10 i (i + 1) er (k4r.out.trans kr10.out) hend)
          clear hend h0
          go_wp2_with (first | (refine wpList_load_agg 71 rfl rfl rfl _ Try.underlying71 rfl C (by rw [hCl.out]; exact node_size) (fun j v hv => by rw [cell_of_heap c10.out, Nat.zero_add]; simpa using hv) ?_) | (refine wpList_store_whole 71 rfl rfl rfl C rfl (by rw [hCl.out]; exact node_size) 71 _ r10.out (by simp [hCl.out, hZl.out]) hC1.out ?_))
          refine bodyPost_ret (results_row_tmp3 rfl _ _ (w.heap.size + 3) 71 C.toArray (0, 0) _ rfl (setRow_heap _ _ _ _ 71 (0, 0) r10.out) Try.underlying71 rfl (by simp only [List.size_toArray]; rw [hCl.out]; exact node_size)) rfl ?_
          exact ⟨.slice Ac c.ents.length capc, by rw [hend'.out, ← hC'.out]; rfl, hS.out.1, hS.out.2, fun g hg => .inl hg⟩
        exact AllReadyH.nil
       exact AllReadyH.nil
      refine AllReadyH.cons rfl (fun K hK => ?_) ?_
      ·refine step_alloc_as 71 rfl rfl Z.toArray hZz.out ?_
       obtain ⟨cb, hcbe⟩ : ∃ cb, wr.drew.heap.size = cb := ⟨_, rfl⟩
       have hcb0 : (wr.drew.alloc (.cells Z.toArray 71)).heap[cb]? = some (.cells Z.toArray 71 (0, 0)) := by rw [← hcbe]; exact heap_alloc_new _ _
       have hcs : (wr.drew.alloc (.cells Z.toArray 71)).heap.size = cb + 1 := by rw [← hcbe]; simp
       have hcbn : wr.heap.size ≤ cb := by rw [← hcbe]; exact Nat.le_refl _
       rw [hcbe]
       have k8 : Kept (fun _ => False) wr (wr.drew.alloc (.cells Z.toArray 71)) := (Kept.refl _ _).drew.alloc _
       obtain ⟨w8, hw8⟩ : ∃ w8, wr.drew.alloc (.cells Z.toArray 71) = w8 := ⟨_, rfl⟩
       rw [hw8] at hcb0 hcs k8 ⊢
       refine hK.out _ _ (held.out _ k8) (fun hH8 => ?_)
       clear hK K
       try simp only [Act.put, q1_, q2_, q3_, List.setIfInBounds_toArray, q5_, q6_]
       refine wpAnyH_ready (rs := [9]) (by kernel_rfl) (by simp) ?_
       refine AllReadyH.cons rfl (fun K hK => ?_) ?_
       ·rw [if_pos (by rfl)]
        simp only [Go.wp_at_zero, Go.wp_at_succ]
        go_simp
        refine (hnode'.out _ ((k04.out.trans k4r.out).trans k8)).mono ?_
        rintro e w9 ⟨v8, rfl, hown8, hk8⟩
        obtain ⟨Am, capm, rfl, -⟩ := EntsAt.form (show EntsAt w9 v8 m.ents from SliceAt.of_owns hown8)
        obtain ⟨O, hO⟩ : ∃ O, nodeCells m (.slice Am m.ents.length capm) = O := ⟨_, rfl⟩
        have hOl : Hid (O.length = 18) := h_ (by rw [← hO]; exact nodeCells_len _ _)
        have hO1 : Hid (∀ v ∈ O, v.oneCell' = true) := h_ (by rw [← hO]; exact nodeCells_one _ _ _ _)
        rw [hO]
        have kc : Kept (fun _ => False) wr w9 := k8.trans hk8
        have hcb := hk8.get hcb0 id
        have hent : EntsAt w9 (.slice Am m.ents.length capm) m.ents := SliceAt.of_owns hown8
        have hne : (Value.slice Am m.ents.length capm).ownBlock ≠ some cb := fun e => by have := (hown8.lt cb e).1; omega
        refine hK.out _ _ (held.out _ kc) (fun hH9 => ?_)
        clear hK K
        try simp only [Act.put, q1_, q2_, q3_, List.setIfInBounds_toArray, q5_, q6_]
        refine wpAnyH_take (i := 10) (v := .tuple #[.agg O.toArray, .int .i64 er]) rfl (by kernel_rfl) (by kernel_rfl) (by kernel_rfl) (fun _ _ _ h => h) (Or.inl ⟨by rfl, fun W hW => by go_simp⟩) (by assumption) ?_
        simp only [Act.put, q1_, q2_, q3_, List.setIfInBounds_toArray, q5_, q6_]
        refine wpAnyH_take (i := 11) (v := .agg O.toArray) rfl (by kernel_rfl) (by kernel_rfl) (by kernel_rfl) (fun _ _ _ h => h) (Or.inl ⟨by rfl, fun W hW => by go_simp⟩) (by assumption) ?_
        simp only [Act.put, q1_, q2_, q3_, List.setIfInBounds_toArray, q5_, q6_]
        refine wpAnyH_take (i := 12) (v := .int .i64 er) rfl (by kernel_rfl) (by kernel_rfl) (by kernel_rfl) (fun _ _ _ h => h) (Or.inl ⟨by rfl, fun W hW => by go_simp⟩) (by assumption) ?_
        simp only [Act.put, q1_, q2_, q3_, List.setIfInBounds_toArray, q5_, q6_]
        refine wpAnyH_ready (rs := [14]) (by kernel_rfl) (by simp) ?_
        refine AllReadyH.cons rfl (fun K hK => ?_) ?_
        ·refine step_store_whole 71 rfl rfl (by rfl) O (by rfl) (by rw [hOl.out]; exact node_size) 71 Z.toArray hcb (by simp [hOl.out, hZl.out]) hO1.out ?_
         have kS : Kept (fun _ => False) wr (w9.setRow cb O.toArray) := kc.setRowNew hcbn O.toArray
         refine hK.out _ _ (held.out _ kS) (fun hH10 => ?_)
         clear hK K
         try simp only [Act.put, q1_, q2_, q3_, List.setIfInBounds_toArray, q5_, q6_]
         refine wpAnyH_take (i := 15) (v := .int .i64 er) rfl (by kernel_rfl) (by kernel_rfl) (by kernel_rfl) (fun _ _ _ h => h) (Or.inl ⟨by rfl, fun W hW => by go_simp⟩) (by assumption) ?_
         simp only [Act.put, q1_, q2_, q3_, List.setIfInBounds_toArray, q5_, q6_]
         refine wpAnyH_done (by kernel_rfl) ?_ _
         have bo : NodeBox (w9.setRow cb O.toArray) cb m (.slice Am m.ents.length capm) := ⟨by rw [hO]; exact setRow_heap _ _ _ _ _ _ hcb⟩
         have eo : EntsAt (w9.setRow cb O.toArray) (.slice Am m.ents.length capm) m.ents := SliceAt.kept hent ((Kept.refl (fun j => j = cb) _).setRow rfl O.toArray) (fun g hg e => hne (by rw [hg, e]))
         obtain ⟨w10, hw10⟩ : ∃ w10, w9.setRow cb O.toArray = w10 := ⟨_, rfl⟩
         rw [hw10] at bo eo kS ⊢
         have bo10 := h_ bo
         have eo10 := h_ eo
         have kr10 := h_ kS
         have hO' := h_ hO
         have c10 := h_ (kS.get cr.out id)
         have r10 := h_ (kS.get rr.out id)
         have o10 := h_ (show w10.heap[cb]? = some (.cells O.toArray 71 (0, 0)) by rw [← hO]; exact bo.heap)
         clear bo eo kS hO hw10 hH hH8 hH9 hH10 hown8 hk8 k8 kc hcb hcb0 hcs hcbn hcbe hw8 hent hne
         by_cases h0 : er = 0
         ·subst h0
          simp only [if_true] at hS'
          have hml := (hok'.out rfl).1.le
          have hfits := pruneFits (w := w10) (n := c) (m := m) (An := Ac) (Am := Am) (ln := c.ents.length) (lm := m.ents.length) (cn := capc) (cm := capm) (by omega) (by omega)
          rw [hC'.out, hO'.out] at hfits
          have hfits' := h_ hfits
          clear hfits
          go_wp2_with (first | (refine wpList_load_agg 71 rfl rfl rfl _ Try.underlying71 rfl C (by rw [hCl.out]; exact node_size) (fun j v hv => by rw [cell_of_heap c10.out, Nat.zero_add]; simpa using hv) ?_) | (refine wpList_load_agg 71 rfl rfl rfl _ Try.underlying71 rfl O (by rw [hOl.out]; exact node_size) (fun j v hv => by rw [cell_of_heap o10.out, Nat.zero_add]; simpa using hv) ?_))
          refine hfits'.out.mono ?_
          rintro e w11 ⟨rfl, hk11⟩
          have k11 := h_ (kr10.out.trans hk11)
          have eo11 := h_ (SliceAt.fresh eo10.out hk11)
          have ec11 := h_ (SliceAt.fresh hc'.out.at_ ((k04.out.trans k4r.out).trans k11.out))
          have bo11 := h_ (bo10.out.kept hk11 id)
          clear hk11
          by_cases hfit : c.ents.length + m.ents.length ≤ 6
          ·have hfd : decide (c.ents.length + m.ents.length ≤ 6) = true := decide_eq_true hfit
           rw [if_pos hfit] at hS'
           have hcc := h_ (concat2 (W := w11) ec11.out eo11.out (by omega))
           have c17o := bo11.out.c17
           have c17c := (hbx.out.kept (k4r.out.trans k11.out) id).c17
           go_wp2_with fail
           refine hcc.out.mono ?_
           rintro e w12 ⟨u, rfl, hown12, hk12⟩
           obtain ⟨A12, cap12, rfl, -⟩ := EntsAt.form (show EntsAt w12 u (c.ents ++ m.ents) from SliceAt.of_owns hown12)
           have k12 := h_ (k11.out.trans hk12)
           have bo12 := h_ (bo11.out.kept hk12 id)
           have bc12 := h_ (hbx.out.kept (k4r.out.trans k12.out) id)
           have c17o := bo12.out.c17
           have c17c := bc12.out.c17
           have c0c := bc12.out.c0
           have r12 := h_ (k12.out.get rr.out id)
           have hown12' := h_ hown12
           have s11 := k11.out.size
           have ec12 := h_ (SliceAt.fresh ec11.out hk12)
           have eo12 := h_ (SliceAt.fresh eo11.out hk12)
           have hs12 := hk12.size
           clear hown12 hk12 hcc
           obtain ⟨mn, hmn⟩ : ∃ mn, min i p = mn := ⟨_, rfl⟩
           obtain ⟨mx, hmx⟩ : ∃ mx, max i p = mx := ⟨_, rfl⟩
           have hmn' := h_ hmn
           have hmx' := h_ hmx
           rw [show min i ((p : Int)).toNat = mn from hmn, show max i ((p : Int)).toNat = mx from hmx] at hS'
           have hmx7 : mx ≤ 7 := by have := hqb'.out; omega
           have hwx : IntKind.i64.wrap ((mx : Int) + 1) = (mx : Int) + 1 := by rw [IntKind.wrap_i64]; omega
           have hbs := k4r.out.size
           clear hmn hmx
           by_cases hpi : p < i
           ·rw [if_pos (show (p : Int) < (i : Int) by omega)] at hS'
            have hpi' : decide ((p : Int) < (i : Int)) = true := decide_eq_true (by omega)
            have hpi2 : (p : Int) < (i : Int) := by omega
            have hcc2 := h_ (concat2 (W := w12) eo12.out ec12.out (by omega))
            go_wp2_with fail
            refine hcc2.out.mono ?_
            rintro e w13 ⟨u, rfl, hown13, hk13⟩
            obtain ⟨A13, cap13, rfl, -⟩ := EntsAt.form (show EntsAt w13 u (m.ents ++ c.ents) from SliceAt.of_owns hown13)
            have c0c := (bc12.out.kept hk13 id).c0
            have r13 := h_ (hk13.get r12.out id)
            have k13 := h_ (k12.out.trans hk13)
            have hown13' := h_ hown13
            have hs13 := s4'.out
            clear hown13 hk13 hcc2
            obtain ⟨G, hG⟩ : ∃ G, nodeCells ⟨c.kind, zeros16, m.ents ++ c.ents⟩ (.slice A13 (m.ents ++ c.ents).length cap13) = G := ⟨_, rfl⟩
            have hGl : Hid (G.length = 18) := h_ (by rw [← hG]; exact nodeCells_len _ _)
            have hG1 : Hid (∀ v ∈ G, v.oneCell' = true) := h_ (by rw [← hG]; exact nodeCells_one _ _ _ _)
            have hbld : Hid (∀ w, (Instr.build 71 #[(0, .int .i64 c.kind), (2, .slice A13 (m.ents ++ c.ents).length cap13)]).run Try.prog w = .ok (.agg G.toArray) w) := h_ (fun w => by rw [← hG]; exact run_build_part _ _ (m.ents ++ c.ents) _ _ _)
            have hG' := h_ hG
            clear hG
            go_wp2_with (first | (refine wpList_exec rfl (exec_build 71 #[(0, .tmp 86), (2, .tmp 87)] _ rfl (by simp [Act.eval]) (hbld.out _)) ?_) | (refine wpList_minN rfl (.tmp 89) (.tmp 90) #[3, 3] rfl hmn'.out (by rfl) (by rfl) ?_) | (refine wpList_maxN rfl (.tmp 92) (.tmp 93) #[3, 3] rfl hmx'.out (by rfl) (by rfl) ?_) | (refine wpList_store_whole 71 rfl rfl rfl G rfl (by rw [hGl.out]; exact node_size) 71 _ r13.out (by simp [hGl.out, hZl.out]) hG1.out ?_))
            refine bodyPost_ret (results_row_tmp3 rfl _ _ (w.heap.size + 3) 71 G.toArray (0, 0) _ rfl (setRow_heap _ _ _ _ 71 (0, 0) r13.out) Try.underlying71 rfl (by simp only [List.size_toArray]; rw [hGl.out]; exact node_size)) rfl ?_
            have kS := (Kept.refl (fun j => j = w.heap.size + 3) w13).setRow rfl G.toArray
            have hoS := ownsRow.keptOf hown13'.out kS (fun g hg e => by have := (hown13'.out.lt g hg).1; omega)
            refine ⟨.slice A13 (m.ents ++ c.ents).length cap13, by rw [← hS'.out, ← hG'.out]; rfl, ?_, ((k04.out.trans k4r.out).trans k13.out).setRowNew (by omega) _, fun g hg => .inr (by have h1 := (hoS.lt g hg).1; omega)⟩
            rw [← hS'.out]
            exact EntsOff.of_owns h'.out hoS (by omega)
           ·rw [if_neg (show ¬ (p : Int) < (i : Int) by omega)] at hS'
            have hpi' : decide ((p : Int) < (i : Int)) = false := decide_eq_false (by omega)
            have hpi2 : ¬ (p : Int) < (i : Int) := by omega
            have hs13 := s4'.out
            obtain ⟨G, hG⟩ : ∃ G, nodeCells ⟨c.kind, zeros16, c.ents ++ m.ents⟩ (.slice A12 (c.ents ++ m.ents).length cap12) = G := ⟨_, rfl⟩
            have hGl : Hid (G.length = 18) := h_ (by rw [← hG]; exact nodeCells_len _ _)
            have hG1 : Hid (∀ v ∈ G, v.oneCell' = true) := h_ (by rw [← hG]; exact nodeCells_one _ _ _ _)
            have hbld : Hid (∀ w, (Instr.build 71 #[(0, .int .i64 c.kind), (2, .slice A12 (c.ents ++ m.ents).length cap12)]).run Try.prog w = .ok (.agg G.toArray) w) := h_ (fun w => by rw [← hG]; exact run_build_part _ _ (c.ents ++ m.ents) _ _ _)
            have hG' := h_ hG
            clear hG
            go_wp2_with (first | (refine wpList_exec rfl (exec_build 71 #[(0, .tmp 86), (2, .tmp 87)] _ rfl (by simp [Act.eval]) (hbld.out _)) ?_) | (refine wpList_minN rfl (.tmp 89) (.tmp 90) #[3, 3] rfl hmn'.out (by rfl) (by rfl) ?_) | (refine wpList_maxN rfl (.tmp 92) (.tmp 93) #[3, 3] rfl hmx'.out (by rfl) (by rfl) ?_) | (refine wpList_store_whole 71 rfl rfl rfl G rfl (by rw [hGl.out]; exact node_size) 71 _ r12.out (by simp [hGl.out, hZl.out]) hG1.out ?_))
            refine bodyPost_ret (results_row_tmp3 rfl _ _ (w.heap.size + 3) 71 G.toArray (0, 0) _ rfl (setRow_heap _ _ _ _ 71 (0, 0) r12.out) Try.underlying71 rfl (by simp only [List.size_toArray]; rw [hGl.out]; exact node_size)) rfl ?_
            have kS := (Kept.refl (fun j => j = w.heap.size + 3) w12).setRow rfl G.toArray
            have hoS := ownsRow.keptOf hown12'.out kS (fun g hg e => by have := (hown12'.out.lt g hg).1; omega)
            refine ⟨.slice A12 (c.ents ++ m.ents).length cap12, by rw [← hS'.out, ← hG'.out]; rfl, ?_, ((k04.out.trans k4r.out).trans k12.out).setRowNew (by omega) _, fun g hg => .inr (by have h1 := (hoS.lt g hg).1; omega)⟩
            rw [← hS'.out]
            exact EntsOff.of_owns h'.out hoS (by omega)
          ·have hfd : decide (c.ents.length + m.ents.length ≤ 6) = false := decide_eq_false hfit
           rw [if_neg hfit] at hS'
           have hkn := h_ (hkr.out.trans k11.out)
           go_wp2_with fail
           go_roundw
           case rel => exact ⟨j + 1, by omega, by go_num, hS', hkn⟩
           case measure => simp [intOf]; omega
         ·have hend : M.join n c i d = (c, i, i + 1, er) := by rw [← hS'.out, if_neg h0]
          have hend' := h_ hend
          have h0' : ((er : Int) == 0) = false := by rw [beq_eq_false_iff_ne]; omega
          have hS := h_ (stop.out w10 i (i + 1) er (k4r.out.trans kr10.out) hend)
          clear hend h0
          go_wp2_with (first | (refine wpList_load_agg 71 rfl rfl rfl _ Try.underlying71 rfl C (by rw [hCl.out]; exact node_size) (fun j v hv => by rw [cell_of_heap c10.out, Nat.zero_add]; simpa using hv) ?_) | (refine wpList_store_whole 71 rfl rfl rfl C rfl (by rw [hCl.out]; exact node_size) 71 _ r10.out (by simp [hCl.out, hZl.out]) hC1.out ?_))
          refine bodyPost_ret (results_row_tmp3 rfl _ _ (w.heap.size + 3) 71 C.toArray (0, 0) _ rfl (setRow_heap _ _ _ _ 71 (0, 0) r10.out) Try.underlying71 rfl (by simp only [List.size_toArray]; rw [hCl.out]; exact node_size)) rfl ?_
          exact ⟨.slice Ac c.ents.length capc, by rw [hend'.out, ← hC'.out]; rfl, hS.out.1, hS.out.2, fun g hg => .inl hg⟩
        exact AllReadyH.nil
       exact AllReadyH.nil
      exact AllReadyH.nil
   ·obtain rfl : j = 2 := by omega
    have hend : M.join n c i d = (c, i, i + 1, 0) := hq.out.symm
    have hend' := h_ hend
    have hS := h_ (stop.out wr i (i + 1) 0 k4r.out hend)
    clear hend
    go_wp2_with (first | (refine wpList_load_agg 71 rfl rfl rfl _ Try.underlying71 rfl C (by rw [hCl.out]; exact node_size) (fun j v hv => by rw [cell_of_heap cr.out, Nat.zero_add]; simpa using hv) ?_) | (refine wpList_store_whole 71 rfl rfl rfl C rfl (by rw [hCl.out]; exact node_size) 71 _ rr.out (by simp [hCl.out, hZl.out]) hC1.out ?_))
    refine bodyPost_ret (results_row_tmp3 rfl _ _ (w.heap.size + 3) 71 C.toArray (0, 0) _ rfl (setRow_heap _ _ _ _ 71 (0, 0) rr.out) Try.underlying71 rfl (by simp only [List.size_toArray]; rw [hCl.out]; exact node_size)) rfl ?_
    exact ⟨.slice Ac c.ents.length capc, by rw [hend'.out, ← hC'.out]; rfl, hS.out.1, hS.out.2, fun g hg => .inl hg⟩

theorem results_row_tmp2 {P : Program} {fn : Func} {p u u2 : Tmp} {ty : TypeId} (h : fn.results = #[.cell p ty, .tmp u, .tmp u2]) (tmps : Array Value) (w : World) (g : Nat) (t : TypeId) (cs : Array Value) (fr : Nat × Nat) (d : TypeDesc)
  (hp : tmps.getD p undef = .pointer (some ⟨g, 0, none⟩)) (hg : w.heap[g]? = some (.cells cs t fr))
  (hu : P.underlying ty = some d) (hd : (match d with | .struct _ | .array _ _ => true | _ => false) = true) (hi : (P.info? ty).map (·.size) = some cs.size) :
  (results fn tmps).run P w = .ok (.tuple #[.agg cs, tmps.getD u undef, tmps.getD u2 undef]) w := by
 have hp' : tmps[p]?.getD undef = .pointer (some ⟨g, 0, none⟩) := by simpa using hp
 simp [results, h, hp', asAddr, run_loadVar_row w g t ty cs fr d hg hu hd hi]
theorem deleteOwn {w : World} {base n cap i : Nat} {A : Option Addr} {l : List (Int × Int)} (hown : w.ownsRow base 58 2 (.slice A n cap) n (entCells l)) (hi : i < n) (hlen : n ≤ 1000) :
  Calls Try.prog 78 #[.slice A n cap, .int .i64 i, .int .i64 ((i : Int) + 1)] w fun e w' => e = .returned (.slice A (n - 1) cap) ∧ w'.ownsRow base 58 2 (.slice A (n - 1) cap) (n - 1) (entCells (l.take i ++ l.drop (i + 1))) ∧ Kept (fun b => (Value.slice A n cap).ownBlock = some b) w w' := by
 have hl : n = l.length := by have := hown.1; rw [entCells_len] at this; omega
 rcases hown.2 with ⟨h1, h2⟩ | ⟨gb, c, cur, h1, h2, h3, h4, h5, h6, h7⟩
 ·omega
 ·cases h1
  obtain ⟨cl, rfl⟩ : ∃ cl : List Value, cur = cl.toArray := ⟨cur.toList, by simp⟩
  rw [List.size_toArray] at h6
  rw [List.toList_toArray] at h7
  exact (deleteEnt h3 h6 (by rw [h7]) hl h2 h5 hi h4 hlen).mono fun e w' ⟨he, ho, hk⟩ => ⟨he, ho, hk.mono fun b hb => by rw [hb]; rfl⟩

set_option maxHeartbeats 4000000 in
theorem cutStop {w : World} {A : SA} {M : SM} (h : StoreAt w A M) (root : Int) (d : Nat) (hd : d ≤ 8) (key : Int) {n : NM} {er : Nat} (hR : M.tnode root d = (n, er)) (hkeys : RisesK n.ents) (hl6 : n.ents.length ≤ 6) (hst : er ≠ 0 ∨ atI n.ents key < 0) :
  Calls Try.prog 63 #[.agg #[.pointer (some ⟨A.sb, 0, none⟩)], .int .i64 root, .int .i64 d, .int .i64 key] w fun e w' => ∃ v, e = .returned (.tuple #[.agg (nodeCells n v).toArray, .bool false, .int .i64 er]) ∧ w'.ownsRow w.heap.size 58 2 v n.ents.length (entCells n.ents) ∧ Kept (fun _ => False) w w' := by
 obtain ⟨Z, hZ⟩ : ∃ Z, nodeCells NM.zero (.slice none 0 0) = Z := ⟨_, rfl⟩
 have hZz : Hid ((Try.prog.info? 71).map (·.zero) = some (some (.agg Z.toArray))) := h_ (by rw [← hZ]; exact node_zero)
 have hZl : Hid (Z.length = 18) := h_ (by rw [← hZ]; exact nodeCells_len _ _)
 obtain ⟨w1, hw1⟩ : ∃ w1, w.alloc (.cells #[.pointer (some ⟨A.sb, 0, none⟩)] 29) = w1 := ⟨_, rfl⟩
 obtain ⟨w2, hw2⟩ : ∃ w2, w1.alloc (.cells Z.toArray 71) = w2 := ⟨_, rfl⟩
 have k1 : Kept (fun _ => False) w w1 := by rw [← hw1]; exact (Kept.refl _ _).alloc _
 have k2 : Kept (fun _ => False) w1 w2 := by rw [← hw2]; exact (Kept.refl _ _).alloc _
 have s1 : w1.heap.size = w.heap.size + 1 := by rw [← hw1]; simp
 have s2 : w2.heap.size = w.heap.size + 2 := by rw [← hw2]; simp [s1]
 have t2 : w2.heap[w.heap.size]? = some (.cells #[.pointer (some ⟨A.sb, 0, none⟩)] 29 (0, 0)) := k2.get (by rw [← hw1]; exact heap_alloc_new _ _) id
 have r2 : w2.heap[w.heap.size + 1]? = some (.cells Z.toArray 71 (0, 0)) := by rw [← hw2, ← s1]; exact heap_alloc_new _ _
 have k02 := h_ (k1.trans k2)
 have hnd := pruneNode (h.fresh k02.out) root d (by omega)
 rw [hR] at hnd
 dsimp only at hnd
 have hnd' := h_ hnd
 have h' := h_ h
 have hw1' := h_ hw1
 have hw2' := h_ hw2
 have s1' := h_ s1
 have s2' := h_ s2
 have hload2 : Hid (∀ j v, [Value.pointer (some ⟨A.sb, 0, none⟩)][j]? = some v → w2.cell? ⟨w.heap.size, 0 + j, none⟩ = some v) := h_ (fun j v hj => by rw [Nat.zero_add, cell_of_heap t2]; simpa using hj)
 have t2' := h_ t2
 have r2' := h_ r2
 clear hw1 hw2 k1 k2 s1 s2 t2 r2 hnd h hZ hR
 go_enter Try.func63, Try.ntmps63
 go_wp2_with (first | (refine wpList_box_named 29 rfl rfl _ rfl hw1'.out ?_) | (refine wpList_alloc_as 71 rfl rfl Z.toArray hZz.out ?_; rw [hw2'.out, s1'.out]) | (refine wpList_load_agg 29 rfl rfl rfl _ Try.underlying29 rfl [.pointer (some ⟨A.sb, 0, none⟩)] (by kernel_rfl) hload2.out ?_))
 refine hnd'.out.mono ?_
 rintro e w3 ⟨v, rfl, hown, hk3⟩
 obtain ⟨Av, cap, rfl, hf1, hf2⟩ := EntsAt.form (show EntsAt w3 v n.ents from SliceAt.of_owns hown)
 obtain ⟨F, hF⟩ : ∃ F, nodeCells n (.slice Av n.ents.length cap) = F := ⟨_, rfl⟩
 have hFl : Hid (F.length = 18) := h_ (by rw [← hF]; exact nodeCells_len _ _)
 have hF1 : Hid (∀ v ∈ F, v.oneCell' = true) := h_ (by rw [← hF]; exact nodeCells_one _ _ _ _)
 obtain ⟨nb, hnb⟩ : ∃ nb, w3.heap.size = nb := ⟨_, rfl⟩
 obtain ⟨w4, hw4⟩ : ∃ w4, (w3.alloc (.cells Z.toArray 71)).setRow nb F.toArray = w4 := ⟨_, rfl⟩
 have k4 : Kept (fun _ => False) w3 w4 := by rw [← hw4]; exact ((Kept.refl _ _).alloc _).setRowNew (by omega) _
 have bx4 : NodeBox w4 nb n (.slice Av n.ents.length cap) := ⟨by rw [hF, ← hw4, ← hnb]; exact setRow_heap _ _ _ _ _ _ (heap_alloc_new _ _)⟩
 have hown4 := h_ (ownsRow.keptOf hown k4 (fun _ _ => id))
 have k24 := h_ (hk3.trans k4)
 have t4 := h_ (k24.out.get t2'.out id)
 have r4 := h_ (k24.out.get r2'.out id)
 have hs3 := hk3.size
 have hs4 : Hid (w4.heap.size = nb + 1) := h_ (by rw [← hw4, ← hnb]; simp [World.setRow])
 have hb4 : Hid (∀ b, (Value.slice Av n.ents.length cap).ownBlock = some b → b < nb) := h_ (fun b hb => by have := (hown.lt b hb).2; omega)
 rw [hF]
 have bx4' := h_ bx4
 have hw4' := h_ hw4
 have hnb' := h_ hnb
 have hF' := h_ hF
 have hat := at_any (show EntsAt w4 (.slice Av n.ents.length cap) n.ents from SliceAt.of_owns hown4.out) hkeys key (by omega)
 have hab := atI_bound (l := n.ents) key
 obtain ⟨a, ha⟩ : ∃ a, atI n.ents key = a := ⟨_, rfl⟩
 rw [ha] at hat hab
 have hat' := h_ hat
 have c17 := bx4.c17
 unfold maxLen at hf2
 obtain ⟨hab1, hab2⟩ := hab
 clear hown hk3 k4 hw4 bx4 hnb hF hat hkeys
 go_wp2_with (first | (refine wpList_alloc_as 71 rfl rfl Z.toArray hZz.out ?_; rw [hnb'.out]) | (refine wpList_store_whole 71 rfl rfl rfl F rfl (by rw [hFl.out]; exact node_size) 71 _ (by rw [← hnb'.out]; exact heap_alloc_new _ _) (by simp [hFl.out, hZl.out]) hF1.out ?_; rw [hw4'.out]))
 refine hat'.out.mono ?_
 rintro e w5 ⟨rfl, hk5⟩
 have hk5' := h_ hk5
 have k25 := h_ (k24.out.trans hk5)
 have t5 := h_ (hk5.get t4.out id)
 have r5 := h_ (hk5.get r4.out id)
 have hown5 := h_ (ownsRow.keptOf hown4.out hk5 (fun _ _ => id))
 have bx5 := h_ (bx4'.out.kept hk5 id)
 have q5 := h_ (show w5.heap[nb]? = some (.cells F.toArray 71 (0, 0)) by rw [← hF'.out]; exact bx5.out.heap)
 have hs5 := hk5.size
 have c17_5 := bx5.out.c17
 have c0_5 := bx5.out.c0
 clear hk5
 rw [ha] at hst
 by_cases h0 : er = 0
 ·subst h0
  obtain rfl : a = -1 := by omega
  clear hst ha
  go_wp2_with (first | (refine wpList_load_agg 71 rfl rfl rfl _ Try.underlying71 rfl F (by rw [hFl.out]; exact node_size) (fun j v hv => by rw [cell_of_heap q5.out, Nat.zero_add]; simpa using hv) ?_) | (refine wpList_store_whole 71 rfl rfl rfl F rfl (by rw [hFl.out]; exact node_size) 71 _ r5.out (by simp [hFl.out, hZl.out]) hF1.out ?_))
  refine bodyPost_ret (results_row_tmp2 rfl _ _ (w.heap.size + 1) 71 F.toArray (0, 0) _ rfl (setRow_heap _ _ _ _ 71 (0, 0) r5.out) Try.underlying71 rfl (by simp only [List.size_toArray]; rw [hFl.out]; exact node_size)) rfl ?_
  have kS := (Kept.refl (fun i => i = w.heap.size + 1) w5).setRow rfl F.toArray
  exact ⟨.slice Av n.ents.length cap, by rw [hF'.out]; rfl, owns_weaken (ownsRow.keptOf hown5.out kS (fun g hg e => by have := (hown5.out.lt g hg).1; have := s2'.out; omega)) (by have := s2'.out; omega), (k02.out.trans k25.out).setRowNew (by omega) _⟩
 ·have h0' : ((er : Int) == 0) = false := by rw [beq_eq_false_iff_ne]; omega
  have h0b : ((er : Int) != 0) = true := by rw [bne, h0']; rfl
  clear hst ha h0
  go_wp2_with (first | (refine wpList_load_agg 71 rfl rfl rfl _ Try.underlying71 rfl F (by rw [hFl.out]; exact node_size) (fun j v hv => by rw [cell_of_heap q5.out, Nat.zero_add]; simpa using hv) ?_) | (refine wpList_store_whole 71 rfl rfl rfl F rfl (by rw [hFl.out]; exact node_size) 71 _ r5.out (by simp [hFl.out, hZl.out]) hF1.out ?_))
  refine bodyPost_ret (results_row_tmp2 rfl _ _ (w.heap.size + 1) 71 F.toArray (0, 0) _ rfl (setRow_heap _ _ _ _ 71 (0, 0) r5.out) Try.underlying71 rfl (by simp only [List.size_toArray]; rw [hFl.out]; exact node_size)) rfl ?_
  have kS := (Kept.refl (fun i => i = w.heap.size + 1) w5).setRow rfl F.toArray
  exact ⟨.slice Av n.ents.length cap, by rw [hF'.out]; rfl, owns_weaken (ownsRow.keptOf hown5.out kS (fun g hg e => by have := (hown5.out.lt g hg).1; have := s2'.out; omega)) (by have := s2'.out; omega), (k02.out.trans k25.out).setRowNew (by omega) _⟩

set_option maxHeartbeats 4000000 in
theorem cutOther {w : World} {A : SA} {M : SM} (h : StoreAt w A M) (root : Int) (d : Nat) (hd : d ≤ 8) (key : Int) {n : NM} (hR : M.tnode root d = (n, 0)) (hin0 : InnerOk n) (hk2 : n.kind = 2) {i : Nat} (hi : atI n.ents key = i) (hother : ¬ (n.ents.getD i (0, 0)).1 = key) :
  Calls Try.prog 63 #[.agg #[.pointer (some ⟨A.sb, 0, none⟩)], .int .i64 root, .int .i64 d, .int .i64 key] w fun e w' => ∃ v, e = .returned (.tuple #[.agg (nodeCells n v).toArray, .bool false, .int .i64 0]) ∧ w'.ownsRow w.heap.size 58 2 v n.ents.length (entCells n.ents) ∧ Kept (fun _ => False) w w' := by
 have hkeys := hin0.keys
 have hl6 := hin0.le
 have hk2' := h_ hk2
 clear hk2 hin0
 obtain ⟨Z, hZ⟩ : ∃ Z, nodeCells NM.zero (.slice none 0 0) = Z := ⟨_, rfl⟩
 have hZz : Hid ((Try.prog.info? 71).map (·.zero) = some (some (.agg Z.toArray))) := h_ (by rw [← hZ]; exact node_zero)
 have hZl : Hid (Z.length = 18) := h_ (by rw [← hZ]; exact nodeCells_len _ _)
 obtain ⟨w1, hw1⟩ : ∃ w1, w.alloc (.cells #[.pointer (some ⟨A.sb, 0, none⟩)] 29) = w1 := ⟨_, rfl⟩
 obtain ⟨w2, hw2⟩ : ∃ w2, w1.alloc (.cells Z.toArray 71) = w2 := ⟨_, rfl⟩
 have k1 : Kept (fun _ => False) w w1 := by rw [← hw1]; exact (Kept.refl _ _).alloc _
 have k2 : Kept (fun _ => False) w1 w2 := by rw [← hw2]; exact (Kept.refl _ _).alloc _
 have s1 : w1.heap.size = w.heap.size + 1 := by rw [← hw1]; simp
 have s2 : w2.heap.size = w.heap.size + 2 := by rw [← hw2]; simp [s1]
 have t2 : w2.heap[w.heap.size]? = some (.cells #[.pointer (some ⟨A.sb, 0, none⟩)] 29 (0, 0)) := k2.get (by rw [← hw1]; exact heap_alloc_new _ _) id
 have r2 : w2.heap[w.heap.size + 1]? = some (.cells Z.toArray 71 (0, 0)) := by rw [← hw2, ← s1]; exact heap_alloc_new _ _
 have k02 := h_ (k1.trans k2)
 have hnd := pruneNode (h.fresh k02.out) root d (by omega)
 rw [hR] at hnd
 dsimp only at hnd
 have hnd' := h_ hnd
 have h' := h_ h
 have hw1' := h_ hw1
 have hw2' := h_ hw2
 have s1' := h_ s1
 have s2' := h_ s2
 have hload2 : Hid (∀ j v, [Value.pointer (some ⟨A.sb, 0, none⟩)][j]? = some v → w2.cell? ⟨w.heap.size, 0 + j, none⟩ = some v) := h_ (fun j v hj => by rw [Nat.zero_add, cell_of_heap t2]; simpa using hj)
 have t2' := h_ t2
 have r2' := h_ r2
 clear hw1 hw2 k1 k2 s1 s2 t2 r2 hnd h hZ hR
 go_enter Try.func63, Try.ntmps63
 go_wp2_with (first | (refine wpList_box_named 29 rfl rfl _ rfl hw1'.out ?_) | (refine wpList_alloc_as 71 rfl rfl Z.toArray hZz.out ?_; rw [hw2'.out, s1'.out]) | (refine wpList_load_agg 29 rfl rfl rfl _ Try.underlying29 rfl [.pointer (some ⟨A.sb, 0, none⟩)] (by kernel_rfl) hload2.out ?_))
 refine hnd'.out.mono ?_
 rintro e w3 ⟨v, rfl, hown, hk3⟩
 obtain ⟨Av, cap, rfl, hf1, hf2⟩ := EntsAt.form (show EntsAt w3 v n.ents from SliceAt.of_owns hown)
 obtain ⟨F, hF⟩ : ∃ F, nodeCells n (.slice Av n.ents.length cap) = F := ⟨_, rfl⟩
 have hFl : Hid (F.length = 18) := h_ (by rw [← hF]; exact nodeCells_len _ _)
 have hF1 : Hid (∀ v ∈ F, v.oneCell' = true) := h_ (by rw [← hF]; exact nodeCells_one _ _ _ _)
 obtain ⟨nb, hnb⟩ : ∃ nb, w3.heap.size = nb := ⟨_, rfl⟩
 obtain ⟨w4, hw4⟩ : ∃ w4, (w3.alloc (.cells Z.toArray 71)).setRow nb F.toArray = w4 := ⟨_, rfl⟩
 have k4 : Kept (fun _ => False) w3 w4 := by rw [← hw4]; exact ((Kept.refl _ _).alloc _).setRowNew (by omega) _
 have bx4 : NodeBox w4 nb n (.slice Av n.ents.length cap) := ⟨by rw [hF, ← hw4, ← hnb]; exact setRow_heap _ _ _ _ _ _ (heap_alloc_new _ _)⟩
 have hown4 := h_ (ownsRow.keptOf hown k4 (fun _ _ => id))
 have k24 := h_ (hk3.trans k4)
 have t4 := h_ (k24.out.get t2'.out id)
 have r4 := h_ (k24.out.get r2'.out id)
 have hs3 := hk3.size
 have hs4 : Hid (w4.heap.size = nb + 1) := h_ (by rw [← hw4, ← hnb]; simp [World.setRow])
 have hb4 : Hid (∀ b, (Value.slice Av n.ents.length cap).ownBlock = some b → b < nb) := h_ (fun b hb => by have := (hown.lt b hb).2; omega)
 rw [hF]
 have bx4' := h_ bx4
 have hw4' := h_ hw4
 have hnb' := h_ hnb
 have hF' := h_ hF
 have hat := at_any (show EntsAt w4 (.slice Av n.ents.length cap) n.ents from SliceAt.of_owns hown4.out) hkeys key (by omega)
 have hab := atI_bound (l := n.ents) key
 obtain ⟨a, ha⟩ : ∃ a, atI n.ents key = a := ⟨_, rfl⟩
 rw [ha] at hat hab
 have hat' := h_ hat
 have c17 := bx4.c17
 unfold maxLen at hf2
 obtain ⟨hab1, hab2⟩ := hab
 clear hown hk3 k4 hw4 bx4 hnb hF hat hkeys
 go_wp2_with (first | (refine wpList_alloc_as 71 rfl rfl Z.toArray hZz.out ?_; rw [hnb'.out]) | (refine wpList_store_whole 71 rfl rfl rfl F rfl (by rw [hFl.out]; exact node_size) 71 _ (by rw [← hnb'.out]; exact heap_alloc_new _ _) (by simp [hFl.out, hZl.out]) hF1.out ?_; rw [hw4'.out]))
 refine hat'.out.mono ?_
 rintro e w5 ⟨rfl, hk5⟩
 have hk5' := h_ hk5
 have k25 := h_ (k24.out.trans hk5)
 have t5 := h_ (hk5.get t4.out id)
 have r5 := h_ (hk5.get r4.out id)
 have hown5 := h_ (ownsRow.keptOf hown4.out hk5 (fun _ _ => id))
 have bx5 := h_ (bx4'.out.kept hk5 id)
 have q5 := h_ (show w5.heap[nb]? = some (.cells F.toArray 71 (0, 0)) by rw [← hF'.out]; exact bx5.out.heap)
 have hs5 := hk5.size
 have c17_5 := bx5.out.c17
 have c0_5 := bx5.out.c0
 clear hk5
 have hai : a = i := by omega
 subst hai
 rw [hk2'.out] at c0_5
 have hil : i < n.ents.length := by omega
 obtain ⟨y, hy⟩ : ∃ y, n.ents[i]? = some y := ⟨_, List.getElem?_eq_getElem hil⟩
 obtain ⟨b, off, rfl, hbl, cy5, _⟩ := EntsAt.get (show EntsAt w5 (.slice Av n.ents.length cap) n.ents from SliceAt.of_owns hown5.out) hy
 have hneg : ¬ ((i : Int) < 0) := by omega
 have hi1 : (i : Int) < (n.ents.length : Int) := by omega
 have hwi : IntKind.i64.wrap ((i : Int) + 1) = (i : Int) + 1 := by rw [IntKind.wrap_i64]; omega
 have hy0 : (y.1 == key) = false := by simpa [hy] using hother
 clear hy hother hi ha
 go_wp2_with (first | (refine wpList_load_agg 71 rfl rfl rfl _ Try.underlying71 rfl F (by rw [hFl.out]; exact node_size) (fun j v hv => by rw [cell_of_heap q5.out, Nat.zero_add]; simpa using hv) ?_) | (refine wpList_store_whole 71 rfl rfl rfl F rfl (by rw [hFl.out]; exact node_size) 71 _ r5.out (by simp [hFl.out, hZl.out]) hF1.out ?_))
 refine bodyPost_ret (results_row_tmp2 rfl _ _ (w.heap.size + 1) 71 F.toArray (0, 0) _ rfl (setRow_heap _ _ _ _ 71 (0, 0) r5.out) Try.underlying71 rfl (by simp only [List.size_toArray]; rw [hFl.out]; exact node_size)) rfl ?_
 have kS := (Kept.refl (fun i => i = w.heap.size + 1) w5).setRow rfl F.toArray
 exact ⟨.slice (some ⟨b, off, none⟩) n.ents.length cap, by rw [hF'.out]; rfl, owns_weaken (ownsRow.keptOf hown5.out kS (fun g hg e => by have := (hown5.out.lt g hg).1; have := s2'.out; omega)) (by have := s2'.out; omega), (k02.out.trans k25.out).setRowNew (by omega) _⟩

set_option maxHeartbeats 4000000 in
theorem cutSame {w : World} {A : SA} {M : SM} (h : StoreAt w A M) (root : Int) (d : Nat) (hd : d ≤ 8) (key : Int) {n : NM} (hR : M.tnode root d = (n, 0)) (hin0 : InnerOk n) (hk2 : n.kind = 2) {i : Nat} (hi : atI n.ents key = i) (hsame : (n.ents.getD i (0, 0)).1 = key) {C : List (Int × Int)} (hC : n.ents.take i ++ n.ents.drop (i + 1) = C) :
  Calls Try.prog 63 #[.agg #[.pointer (some ⟨A.sb, 0, none⟩)], .int .i64 root, .int .i64 d, .int .i64 key] w fun e w' => ∃ v, e = .returned (.tuple #[.agg (nodeCells { n with ents := C } v).toArray, .bool true, .int .i64 0]) ∧ w'.ownsRow w.heap.size 58 2 v C.length (entCells C) ∧ Kept (fun _ => False) w w' := by
 have hkeys := hin0.keys
 have hl6 := hin0.le
 have hk2' := h_ hk2
 clear hk2 hin0
 obtain ⟨Z, hZ⟩ : ∃ Z, nodeCells NM.zero (.slice none 0 0) = Z := ⟨_, rfl⟩
 have hZz : Hid ((Try.prog.info? 71).map (·.zero) = some (some (.agg Z.toArray))) := h_ (by rw [← hZ]; exact node_zero)
 have hZl : Hid (Z.length = 18) := h_ (by rw [← hZ]; exact nodeCells_len _ _)
 obtain ⟨w1, hw1⟩ : ∃ w1, w.alloc (.cells #[.pointer (some ⟨A.sb, 0, none⟩)] 29) = w1 := ⟨_, rfl⟩
 obtain ⟨w2, hw2⟩ : ∃ w2, w1.alloc (.cells Z.toArray 71) = w2 := ⟨_, rfl⟩
 have k1 : Kept (fun _ => False) w w1 := by rw [← hw1]; exact (Kept.refl _ _).alloc _
 have k2 : Kept (fun _ => False) w1 w2 := by rw [← hw2]; exact (Kept.refl _ _).alloc _
 have s1 : w1.heap.size = w.heap.size + 1 := by rw [← hw1]; simp
 have s2 : w2.heap.size = w.heap.size + 2 := by rw [← hw2]; simp [s1]
 have t2 : w2.heap[w.heap.size]? = some (.cells #[.pointer (some ⟨A.sb, 0, none⟩)] 29 (0, 0)) := k2.get (by rw [← hw1]; exact heap_alloc_new _ _) id
 have r2 : w2.heap[w.heap.size + 1]? = some (.cells Z.toArray 71 (0, 0)) := by rw [← hw2, ← s1]; exact heap_alloc_new _ _
 have k02 := h_ (k1.trans k2)
 have hnd := pruneNode (h.fresh k02.out) root d (by omega)
 rw [hR] at hnd
 dsimp only at hnd
 have hnd' := h_ hnd
 have h' := h_ h
 have hw1' := h_ hw1
 have hw2' := h_ hw2
 have s1' := h_ s1
 have s2' := h_ s2
 have hload2 : Hid (∀ j v, [Value.pointer (some ⟨A.sb, 0, none⟩)][j]? = some v → w2.cell? ⟨w.heap.size, 0 + j, none⟩ = some v) := h_ (fun j v hj => by rw [Nat.zero_add, cell_of_heap t2]; simpa using hj)
 have t2' := h_ t2
 have r2' := h_ r2
 clear hw1 hw2 k1 k2 s1 s2 t2 r2 hnd h hZ hR
 go_enter Try.func63, Try.ntmps63
 go_wp2_with (first | (refine wpList_box_named 29 rfl rfl _ rfl hw1'.out ?_) | (refine wpList_alloc_as 71 rfl rfl Z.toArray hZz.out ?_; rw [hw2'.out, s1'.out]) | (refine wpList_load_agg 29 rfl rfl rfl _ Try.underlying29 rfl [.pointer (some ⟨A.sb, 0, none⟩)] (by kernel_rfl) hload2.out ?_))
 refine hnd'.out.mono ?_
 rintro e w3 ⟨v, rfl, hown, hk3⟩
 obtain ⟨Av, cap, rfl, hf1, hf2⟩ := EntsAt.form (show EntsAt w3 v n.ents from SliceAt.of_owns hown)
 obtain ⟨F, hF⟩ : ∃ F, nodeCells n (.slice Av n.ents.length cap) = F := ⟨_, rfl⟩
 have hFl : Hid (F.length = 18) := h_ (by rw [← hF]; exact nodeCells_len _ _)
 have hF1 : Hid (∀ v ∈ F, v.oneCell' = true) := h_ (by rw [← hF]; exact nodeCells_one _ _ _ _)
 obtain ⟨nb, hnb⟩ : ∃ nb, w3.heap.size = nb := ⟨_, rfl⟩
 obtain ⟨w4, hw4⟩ : ∃ w4, (w3.alloc (.cells Z.toArray 71)).setRow nb F.toArray = w4 := ⟨_, rfl⟩
 have k4 : Kept (fun _ => False) w3 w4 := by rw [← hw4]; exact ((Kept.refl _ _).alloc _).setRowNew (by omega) _
 have bx4 : NodeBox w4 nb n (.slice Av n.ents.length cap) := ⟨by rw [hF, ← hw4, ← hnb]; exact setRow_heap _ _ _ _ _ _ (heap_alloc_new _ _)⟩
 have hown4 := h_ (ownsRow.keptOf hown k4 (fun _ _ => id))
 have k24 := h_ (hk3.trans k4)
 have t4 := h_ (k24.out.get t2'.out id)
 have r4 := h_ (k24.out.get r2'.out id)
 have hs3 := hk3.size
 have hs4 : Hid (w4.heap.size = nb + 1) := h_ (by rw [← hw4, ← hnb]; simp [World.setRow])
 have hb4 : Hid (∀ b, (Value.slice Av n.ents.length cap).ownBlock = some b → b < nb) := h_ (fun b hb => by have := (hown.lt b hb).2; omega)
 rw [hF]
 have bx4' := h_ bx4
 have hw4' := h_ hw4
 have hnb' := h_ hnb
 have hF' := h_ hF
 have hat := at_any (show EntsAt w4 (.slice Av n.ents.length cap) n.ents from SliceAt.of_owns hown4.out) hkeys key (by omega)
 have hab := atI_bound (l := n.ents) key
 obtain ⟨a, ha⟩ : ∃ a, atI n.ents key = a := ⟨_, rfl⟩
 rw [ha] at hat hab
 have hat' := h_ hat
 have c17 := bx4.c17
 unfold maxLen at hf2
 obtain ⟨hab1, hab2⟩ := hab
 clear hown hk3 k4 hw4 bx4 hnb hF hat hkeys
 go_wp2_with (first | (refine wpList_alloc_as 71 rfl rfl Z.toArray hZz.out ?_; rw [hnb'.out]) | (refine wpList_store_whole 71 rfl rfl rfl F rfl (by rw [hFl.out]; exact node_size) 71 _ (by rw [← hnb'.out]; exact heap_alloc_new _ _) (by simp [hFl.out, hZl.out]) hF1.out ?_; rw [hw4'.out]))
 refine hat'.out.mono ?_
 rintro e w5 ⟨rfl, hk5⟩
 have hk5' := h_ hk5
 have k25 := h_ (k24.out.trans hk5)
 have t5 := h_ (hk5.get t4.out id)
 have r5 := h_ (hk5.get r4.out id)
 have hown5 := h_ (ownsRow.keptOf hown4.out hk5 (fun _ _ => id))
 have bx5 := h_ (bx4'.out.kept hk5 id)
 have q5 := h_ (show w5.heap[nb]? = some (.cells F.toArray 71 (0, 0)) by rw [← hF'.out]; exact bx5.out.heap)
 have hs5 := hk5.size
 have c17_5 := bx5.out.c17
 have c0_5 := bx5.out.c0
 clear hk5
 have hai : a = i := by omega
 subst hai
 rw [hk2'.out] at c0_5
 have hil : i < n.ents.length := by omega
 obtain ⟨y, hy⟩ : ∃ y, n.ents[i]? = some y := ⟨_, List.getElem?_eq_getElem hil⟩
 obtain ⟨b, off, rfl, hbl, cy5, _⟩ := EntsAt.get (show EntsAt w5 (.slice Av n.ents.length cap) n.ents from SliceAt.of_owns hown5.out) hy
 have hneg : ¬ ((i : Int) < 0) := by omega
 have hi1 : (i : Int) < (n.ents.length : Int) := by omega
 have hwi : IntKind.i64.wrap ((i : Int) + 1) = (i : Int) + 1 := by rw [IntKind.wrap_i64]; omega
 have hy0 : y.1 = key := by simpa [hy] using hsame
 rw [hy0] at cy5
 have hD := deleteOwn hown5.out hil (by omega)
 rw [hC, show n.ents.length - 1 = C.length by rw [← hC]; simp only [List.length_append, List.length_take, List.length_drop]; omega] at hD
 have hD' := h_ hD
 clear hD hy hy0 hsame hi ha
 go_wp2_with fail
 refine hD'.out.mono ?_
 rintro e w6 ⟨rfl, hown6, hk6⟩
 have q6 : NodeBox w6 nb n (.slice (some ⟨b, off, none⟩) n.ents.length cap) := bx5.out.kept hk6 (fun e => by have := hb4.out _ e; omega)
 have hE := putEnds q6 (hk6.get r5.out (fun e => by have := (hown5.out.lt _ e).1; have := s2'.out; omega)) (by have := s2'.out; have := hnb'.out; omega) hown6
 obtain ⟨G, hG⟩ : ∃ G, nodeCells { n with ents := C } (.slice (some ⟨b, off, none⟩) C.length cap) = G := ⟨_, rfl⟩
 have hGl : Hid (G.length = 18) := h_ (by rw [← hG]; exact nodeCells_len _ _)
 have hG1 : Hid (∀ v ∈ G, v.oneCell' = true) := h_ (by rw [← hG]; exact nodeCells_one _ _ _ _)
 have q9 := h_ (show (w6.setCell ⟨nb, 17, none⟩ (.slice (some ⟨b, off, none⟩) C.length cap)).heap[nb]? = some (.cells G.toArray 71 (0, 0)) by rw [← hG]; exact hE.1.heap)
 have r9 := h_ hE.2.1
 have o9 := h_ hE.2.2
 have c6 := q6.c17
 have f6 := free_of_heap q6.heap 17
 have hG' := h_ hG
 have k06 := h_ ((k02.out.trans k25.out).trans_new hk6 (fun j hj e => by have := (hown5.out.lt _ e).1; have := s2'.out; omega))
 clear hE q6 hown6 hk6 hG
 go_wp2_with (first | (refine wpList_load_agg 71 rfl rfl rfl _ Try.underlying71 rfl G (by rw [hGl.out]; exact node_size) (fun j v hv => by rw [cell_of_heap q9.out, Nat.zero_add]; simpa using hv) ?_) | (refine wpList_store_whole 71 rfl rfl rfl G rfl (by rw [hGl.out]; exact node_size) 71 _ r9.out (by simp [hGl.out, hZl.out]) hG1.out ?_))
 refine bodyPost_ret (results_row_tmp2 rfl _ _ (w.heap.size + 1) 71 G.toArray (0, 0) _ rfl (setRow_heap _ _ _ _ 71 (0, 0) r9.out) Try.underlying71 rfl (by simp only [List.size_toArray]; rw [hGl.out]; exact node_size)) rfl ?_
 exact ⟨.slice (some ⟨b, off, none⟩) C.length cap, by rw [← hG'.out]; rfl, owns_weaken (o9.out _) (by have := s2'.out; omega), ((k06.out).setNew (by show w.heap.size ≤ nb; have := s2'.out; have := hnb'.out; omega) _).setRowNew (by omega) _⟩

structure CutSt (w : World) (A : SA) (n : NM) (sv : Value) (nb : Nat) (Z : Array Value) (A' : SA) (M' : SM) (wr : World) : Prop where
  to_ : StoreTo A A' M' w wr
  tb : wr.heap[w.heap.size]? = some (.cells #[.pointer (some ⟨A.sb, 0, none⟩)] 29 (0, 0))
  st : Safe wr A' w.heap.size
  rb : wr.heap[w.heap.size + 1]? = some (.cells Z 71 (0, 0))
  sr : Safe wr A' (w.heap.size + 1)
  nbx : NodeBox wr nb n sv
  sn : Safe wr A' nb
  own : OutAt wr A' (w.heap.size + 2) sv n.ents
  lt : w.heap.size + 1 < nb
section
variable {w : World} {A : SA} {M : SM} {n : NM} {sv : Value} {nb : Nat} {Z : Array Value} {A' : SA} {M' : SM} {wr : World}
theorem CutSt.fresh {w' : World} (h : CutSt w A n sv nb Z A' M' wr) (k : Kept (fun _ => False) wr w') : CutSt w A n sv nb Z A' M' w' :=
  ⟨h.to_.fresh k, k.get h.tb id, h.st.fresh k, k.get h.rb id, h.sr.fresh k, h.nbx.kept k id, h.sn.fresh k, h.own.fresh k, h.lt⟩
theorem CutSt.step {w' : World} {A2 : SA} {M2 : SM} (h : CutSt w A n sv nb Z A' M' wr) (k : StoreTo A' A2 M2 wr w') : CutSt w A n sv nb Z A2 M2 w' :=
  ⟨h.to_.trans k, k.get h.tb h.st, h.st.to k, k.get h.rb h.sr, h.sr.to k, ⟨k.get h.nbx.heap h.sn⟩, h.sn.to k, h.own.to k, h.lt⟩
theorem CutSt.boxed (h : CutSt w A n sv nb Z A' M' wr) {cb : Nat} (h1 : nb < cb) (hs : Safe wr A' cb) {Z2 : Array Value} (hb : wr.heap[cb]? = some (.cells Z2 71 (0, 0))) (hd : ∀ k, A'.own k → k ≠ cb) (F : Array Value) :
    CutSt w A n sv nb Z A' M' (wr.setRow cb F) := by
  have k := (Kept.refl (fun i => i = cb) wr).setRow rfl F
  have hlt := h.lt
  have hne := h.own.types hb (fun cur e => by cases e)
  have hst := h.to_
  refine ⟨⟨hst.store.kept k hd, hst.kept.trans_new k (fun i hi e => by subst e; omega), hst.foot, hst.sb, hst.fix⟩, k.get h.tb (by omega), ⟨Nat.lt_of_lt_of_le h.st.lt k.size, h.st.off⟩, k.get h.rb (by omega), ⟨Nat.lt_of_lt_of_le h.sr.lt k.size, h.sr.off⟩, h.nbx.kept k (by omega), ⟨Nat.lt_of_lt_of_le h.sn.lt k.size, h.sn.off⟩, ⟨ownsRow.keptOf h.own.own k (fun b hb e => hne (by rw [hb, e])), h.own.off⟩, h.lt⟩
theorem CutSt.held {b off m cap : Nat} (h : CutSt w A n (.slice (some ⟨b, off, none⟩) m cap) nb Z A' M' wr) {i : Nat} {y : Int × Int} (hy : n.ents[i]? = some y) :
    wr.heap[w.heap.size]? = some (.cells #[.pointer (some ⟨A.sb, 0, none⟩)] 29 (0, 0)) ∧ wr.cell? ⟨nb, 17, none⟩ = some (.slice (some ⟨b, off, none⟩) m cap) ∧ wr.cell? ⟨b, off + i * 2 + 1, none⟩ = some (.int .i64 y.2) := by
  refine ⟨h.tb, h.nbx.c17, ?_⟩
  obtain ⟨b', off', hA, _, _, c⟩ := EntsAt.get h.own.ents.at_ hy
  cases hA
  exact c
theorem CutSt.stop (P : CutSt w A n sv nb Z A' M' wr) (h : StoreAt w A M) (F : Array Value) : StoreTo A A' M' w (wr.setRow (w.heap.size + 1) F) ∧ OutAt (wr.setRow (w.heap.size + 1) F) A' w.heap.size sv n.ents := by
  have k := (Kept.refl (fun j => j = w.heap.size + 1) wr).setRow rfl F
  exact ⟨P.to_.touch h (by omega) P.sr.off k, P.own.touch (by omega) (P.own.types P.rb (fun cur e => by cases e)) k⟩
theorem CutSt.ends (P : CutSt w A n sv nb Z A' M' wr) (h : StoreAt w A M) {u : Value} {C : List (Int × Int)} {base : Nat} (ho : OutAt wr A' base u C) (hbase : w.heap.size ≤ base) :
    NodeBox (wr.setCell ⟨nb, 17, none⟩ u) nb { n with ents := C } u ∧ (wr.setCell ⟨nb, 17, none⟩ u).heap[w.heap.size + 1]? = some (.cells Z 71 (0, 0)) ∧
      ∀ F, StoreTo A A' M' w ((wr.setCell ⟨nb, 17, none⟩ u).setRow (w.heap.size + 1) F) ∧ OutAt ((wr.setCell ⟨nb, 17, none⟩ u).setRow (w.heap.size + 1) F) A' w.heap.size u C := by
  have hlt := P.lt
  have k1 := (Kept.refl (fun j => j = nb) wr).setCell (p := ⟨nb, 17, none⟩) rfl u
  have r1 := k1.get P.rb (by omega)
  have T1 := P.to_.touch h (by omega) P.sn.off k1
  have O1 := ho.touch hbase (ho.types P.nbx.heap (fun cur e => by cases e)) k1
  refine ⟨⟨by rw [heap_setCell_same P.nbx.heap, nodeCells_set n C]⟩, r1, fun F => ?_⟩
  have k := (Kept.refl (fun j => j = w.heap.size + 1) (wr.setCell ⟨nb, 17, none⟩ u)).setRow rfl F
  exact ⟨T1.touch h (by omega) P.sr.off k, O1.touch (Nat.le_refl _) (O1.types r1 (fun cur e => by cases e)) k⟩
end
theorem BoxAt.again {W : World} {A : SA} {cb : Nat} {n J : NM} {v u : Value} (hb : BoxAt W A cb n v) (hu : EntsOff W A u J.ents) (hne : u.ownBlock ≠ some cb) : BoxAt (W.setRow cb (nodeCells J u).toArray) A cb J u := by
  have k := (Kept.refl (fun i => i = cb) W).setRow rfl (nodeCells J u).toArray
  exact ⟨⟨setRow_heap _ _ _ _ _ _ hb.box.heap⟩, ⟨Nat.lt_of_lt_of_le hb.safe.lt k.size, hb.safe.off⟩, ⟨SliceAt.kept hu.at_ k (fun b hb' e => hne (by rw [hb', e])), fun hl b hb' => ⟨Nat.lt_of_lt_of_le (hu.off hl b hb').1 k.size, (hu.off hl b hb').2⟩⟩⟩
theorem BoxAt.fresh {W W' : World} {A : SA} {cb : Nat} {n : NM} {v : Value} (hb : BoxAt W A cb n v) (k : Kept (fun _ => False) W W') : BoxAt W' A cb n v :=
  ⟨hb.box.kept k id, hb.safe.fresh k, hb.ents.fresh k⟩
def cutRes (n : NM) (i d : Nat) (M1 : SM) (n1 : NM) (was : Bool) (er : Nat) : SM × NM × Bool × Nat :=
  if er ≠ 0 ∨ was = false then (M1, n, false, er)
  else if (M1.join n n1 i d).2.2.2 = 0 then
    (if (M1.split (M1.join n n1 i d).1).2.2 = 0 then ((M1.split (M1.join n n1 i d).1).1, { n with ents := n.ents.take (M1.join n n1 i d).2.1 ++ (M1.split (M1.join n n1 i d).1).2.1 ++ n.ents.drop (M1.join n n1 i d).2.2.1 }, true, 0)
     else ((M1.split (M1.join n n1 i d).1).1, n, false, (M1.split (M1.join n n1 i d).1).2.2))
  else (M1, n, false, (M1.join n n1 i d).2.2.2)
theorem joinStep_bound {M : SM} {n c : NM} {i d : Nat} {q : Int} {next : NM × Nat × Nat × Nat} (hi : i < n.ents.length) (hq : q = (i : Int) - 1 ∨ q = (i : Int) + 1) (hc : c.ents.length ≤ 12)
    (h : next.2.1 ≤ next.2.2.1 ∧ next.2.2.1 ≤ n.ents.length ∧ next.1.ents.length ≤ 12) :
    (M.joinStep n c i d q next).2.1 ≤ (M.joinStep n c i d q next).2.2.1 ∧ (M.joinStep n c i d q next).2.2.1 ≤ n.ents.length ∧ (M.joinStep n c i d q next).1.ents.length ≤ 12 := by
  unfold SM.joinStep
  split
  · exact h
  · dsimp only
    split
    · split
      · refine ⟨show min i q.toNat ≤ max i q.toNat + 1 by omega, show max i q.toNat + 1 ≤ n.ents.length by omega, ?_⟩
        dsimp only
        split <;> (rw [List.length_append]; omega)
      · exact h
    · exact ⟨show i ≤ i + 1 by omega, show i + 1 ≤ n.ents.length by omega, hc⟩
theorem join_bound (M : SM) {n c : NM} {i d : Nat} (hi : i < n.ents.length) (hc : c.ents.length ≤ 12) :
    (M.join n c i d).2.1 ≤ (M.join n c i d).2.2.1 ∧ (M.join n c i d).2.2.1 ≤ n.ents.length ∧ (M.join n c i d).1.ents.length ≤ 12 := by
  have h0 : i ≤ i + 1 ∧ i + 1 ≤ n.ents.length ∧ c.ents.length ≤ 12 := ⟨by omega, by omega, hc⟩
  unfold SM.join
  split
  · exact h0
  · exact joinStep_bound hi (.inl rfl) hc (joinStep_bound hi (.inr rfl) hc h0)
end Go.Proofs.Ytdcnogjbmdhgaaa
