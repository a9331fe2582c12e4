/-
  slices.Insert at entries: a copy of entries from one block to another (or within one).
-/
import Derived.Test.YthmjcbmeiabbgaaK12
set_option linter.unusedVariables false
set_option linter.unusedSimpArgs false
namespace Go.Proofs.Ythmjcbmeiabbgaa
open Go.RowKit
set_option maxRecDepth 100000

theorem run_copy_ents (w : World) (ty : TypeId) (g o dLen dCap : Nat) (a : Addr) (sLen sCap : Nat) (cur : Array Value) (t : TypeId) (cs : List Value) (m : Nat)
    (hg : w.heap[g]? = some (.cells cur t (0, 0))) (hm : m = Nat.min sLen dLen) (hn : cs.length = m * 2)
    (hsrc : ∀ j v, cs[j]? = some v → w.cell? (a.add j) = some v) (hfit : o + cs.length ≤ cur.size) (h1 : ∀ v ∈ cs, v.oneCell' = true) :
    (Builtin.copy_ #[31, 31] ty #[.slice (some ⟨g, o, none⟩) dLen dCap, .slice (some a) sLen sCap]).run Try.prog w =
      .ok (goInt m) (w.setRow g (cur.toList.take o ++ cs ++ cur.toList.drop (o + cs.length)).toArray) := by
  have hl := run_loadCells_list (P := Try.prog) w a cs hsrc
  have hst := run_storeCells_at Try.prog g o t cs 0 cur w hg (by simpa using hfit) h1
  obtain ⟨i, z, hq, _, hi, _⟩ := elemEntry.info
  simp [Builtin.copy_, run_underlying elemEntry.ht, Builtin.lenOf, Builtin.firstCells, sizeOf, typeInfo, hq, hi, ← hm, ← hn, hl, hst]
theorem wp_copy_ents {o : Oper} {a : Act} {w : World} {K : Act → World → Prop} {Q : Exit → Act → World → Prop} (d s : Operand)
    (ho : o.op = .call { callee := .builtin .copy, args := #[d, s], argTypes := #[31, 31] })
    {g off dLen dCap sg so sLen sCap m : Nat} (hd : a.eval d = .slice (some ⟨g, off, none⟩) dLen dCap) (hs : a.eval s = .slice (some ⟨sg, so, none⟩) sLen sCap)
    {cur cs : List Value} {t : TypeId} (hg : w.heap[g]? = some (.cells cur.toArray t (0, 0))) (hm : m = Nat.min sLen dLen) (hn : cs.length = m * 2)
    (hsrc : ∀ j v, cs[j]? = some v → w.cell? ⟨sg, so + j, none⟩ = some v) (hfit : off + cs.length ≤ cur.length) (h1 : ∀ v ∈ cs, v.oneCell' = true)
    (h : ∀ w', w'.heap[g]? = some (.cells (splice cur off cs).toArray t (0, 0)) → Kept (fun k => k = g) w w' → K (a.put o.dst (goInt m)) w') :
    o.wp Try.prog a w K Q := by
  have hrun := run_copy_ents w o.type g off dLen dCap ⟨sg, so, none⟩ sLen sCap cur.toArray t cs m hg hm hn (fun j v hj => by rw [addr_add]; exact hsrc j v hj) (by simpa using hfit) h1
  unfold Oper.wp
  simp [execOp, ho, resolve, invoke, builtin, hd, hs, hrun, Result.andThen]
  exact h _ (by simpa [splice] using setRow_heap w g _ _ t _ hg) (Kept.setRow (S := fun k => k = g) (Kept.refl _ _) rfl _)
theorem step_copy_ents {ops : Array Oper} {o : Oper} {a : Act} {w : World} {K : Act → World → Prop} {Q : Exit → Act → World → Prop} {E : Prop} (hgd : o.guard = none) (d s : Operand)
    (ho : o.op = .call { callee := .builtin .copy, args := #[d, s], argTypes := #[31, 31] })
    {g off dLen dCap sg so sLen sCap m : Nat} (hd : a.eval d = .slice (some ⟨g, off, none⟩) dLen dCap) (hs : a.eval s = .slice (some ⟨sg, so, none⟩) sLen sCap)
    {cur cs : List Value} {t : TypeId} (hg : w.heap[g]? = some (.cells cur.toArray t (0, 0))) (hm : m = Nat.min sLen dLen) (hn : cs.length = m * 2)
    (hsrc : ∀ j v, cs[j]? = some v → w.cell? ⟨sg, so + j, none⟩ = some v) (hfit : off + cs.length ≤ cur.length) (h1 : ∀ v ∈ cs, v.oneCell' = true)
    (h : ∀ w', w'.heap[g]? = some (.cells (splice cur off cs).toArray t (0, 0)) → Kept (fun k => k = g) w w' → K (a.put o.dst (goInt m)) w') :
    if Region.wanted o (yielded ops a.tmps) = true then Oper.wp Try.prog o a w K Q else E := by
  rw [if_pos (by simp [Region.wanted, hgd])]
  exact wp_copy_ents d s ho hd hs hg hm hn hsrc hfit h1 h
theorem wpList_copy_ents {ops : Array Oper} {rest : List Oper} {o : Oper} {a : Act} {w : World} {Q : Exit → Act → World → Prop} (hgd : o.guard = none) (d s : Operand)
    (ho : o.op = .call { callee := .builtin .copy, args := #[d, s], argTypes := #[31, 31] })
    {g off dLen dCap sg so sLen sCap m : Nat} (hd : a.eval d = .slice (some ⟨g, off, none⟩) dLen dCap) (hs : a.eval s = .slice (some ⟨sg, so, none⟩) sLen sCap)
    {cur cs : List Value} {t : TypeId} (hg : w.heap[g]? = some (.cells cur.toArray t (0, 0))) (hm : m = Nat.min sLen dLen) (hn : cs.length = m * 2)
    (hsrc : ∀ j v, cs[j]? = some v → w.cell? ⟨sg, so + j, none⟩ = some v) (hfit : off + cs.length ≤ cur.length) (h1 : ∀ v ∈ cs, v.oneCell' = true)
    (h : ∀ w', w'.heap[g]? = some (.cells (splice cur off cs).toArray t (0, 0)) → Kept (fun k => k = g) w w' → wpList Try.prog ops Q rest (a.put o.dst (goInt m)) w') :
    wpList Try.prog ops Q (o :: rest) a w :=
  wpList_plain hgd fun _ hK => wp_copy_ents d s ho hd hs hg hm hn hsrc hfit h1 fun w' h2 h3 => hK _ _ (h w' h2 h3)
end Go.Proofs.Ythmjcbmeiabbgaa
/-
  slices.Insert at entries: at the end.
-/
namespace Go.Proofs.Ythmjcbmeiabbgaa
open Go.RowKit
set_option maxRecDepth 100000

theorem insertEnd {w : World} {base n cap g : Nat} {A : Option Addr} {l : List (Int × Int)} {x : Int × Int} (hown : w.ownsRow base 35 2 (.slice A n cap) n (entCells l)) (hg : w.heap[g]? = some (.cells #[.int .i64 x.1, .int .i64 x.2] 35 (0, 0))) (hbase : base ≤ w.heap.size) (hlen : n ≤ 1000) :
    Calls Try.prog 74 #[.slice A n cap, .int .i64 n, .slice (some ⟨g, 0, none⟩) 1 1] w fun e w' => ∃ v, e = .returned v ∧ w'.ownsRow base 35 2 v (n + 1) (entCells (l ++ [x])) ∧ Kept (fun b => (Value.slice A n cap).ownBlock = some b) w w' := by
  obtain ⟨_, _, _, hv, hc1, hc2, _⟩ := SliceAt.of_owns hown
  cases hv
  unfold maxLen at hc2
  have hown' := Lib.hid hown
  have hsrc := Lib.hid (SliceAt.block_new (size := 2) (ys := [.int .i64 x.1, .int .i64 x.2]) (m := 1) hg (by rfl) (by decide))
  have hst : Hid (entCells (l ++ [x]) = entCells l ++ [.int .i64 x.1, .int .i64 x.2]) := Lib.hid (by rw [entCells_append]; rfl)
  have hA : A = none → n = 0 ∧ cap = 0 := fun e => by
    subst e
    rcases hown.2 with ⟨h1, h2⟩ | ⟨g', c', cur, h1, _⟩
    · cases h1; exact ⟨rfl, rfl⟩
    · cases h1
  clear hown hg
  have hb : Hid (base ≤ w.heap.size) := Lib.hid hbase
  go_enter Try.func74, Try.ntmps74
  cases A with
  | none =>
    obtain ⟨rfl, rfl⟩ := hA rfl
    go_wp2_with (at_builtin; refine wpList_append_src rfl elemEntry (.tmp 23) (.tmp 24) rfl (by rfl) (by rfl) hown'.out hsrc.out (by intro c hc; simp at hc; rcases hc with rfl | rfl <;> rfl) (by omega) (by omega) hb.out ?_; intro v2 w2 hown2 hg2 hat2)
    obtain ⟨_, A2, cap2, rfl, _, _, _⟩ := SliceAt.of_owns hown2
    have hown3 := Lib.hid hown2
    have hk := Lib.hid (Kept.of_grown hg2)
    clear hown2 hg2 hat2
    go_ret
    exact ⟨_, rfl, by rw [hst.out]; exact hown3.out, hk.out⟩
  | some a =>
    obtain ⟨ab, ao, asp⟩ := a
    go_wp2_with (at_builtin; refine wpList_append_src rfl elemEntry (.tmp 23) (.tmp 24) rfl (by rfl) (by rfl) hown'.out hsrc.out (by intro c hc; simp at hc; rcases hc with rfl | rfl <;> rfl) (by omega) (by omega) hb.out ?_; intro v2 w2 hown2 hg2 hat2)
    all_goals (
      obtain ⟨_, A2, cap2, rfl, _, _, _⟩ := SliceAt.of_owns hown2
      have hown3 := Lib.hid hown2
      have hk := Lib.hid (Kept.of_grown hg2)
      clear hown2 hg2 hat2
      go_ret
      exact ⟨_, rfl, by rw [hst.out]; exact hown3.out, hk.out⟩)
end Go.Proofs.Ythmjcbmeiabbgaa
/-
  slices.Insert at entries: in place: the plain part.
-/
namespace Go.Proofs.Ythmjcbmeiabbgaa
open Go.RowKit
set_option maxRecDepth 100000

theorem inplace_cells {cur : List Value} {l : List (Int × Int)} {x : Int × Int} {i n cap : Nat} (hn : n = l.length) (hi : i < n) (hcap : n + 1 ≤ cap) (hcl : cur.length = cap * 2) (hcur : cur.take (n * 2) = entCells l) :
    (splice (splice cur ((i + 1) * 2) (entCells (l.drop i))) (i * 2) (entCells [x])).take ((n + 1) * 2) = entCells (l.take i ++ [x] ++ l.drop i) ∧ (splice (splice cur ((i + 1) * 2) (entCells (l.drop i))) (i * 2) (entCells [x])).length = cap * 2 := by
  have h1 : cur.take (i * 2) = entCells (l.take i) := by
    have : (cur.take (n * 2)).take (i * 2) = (entCells l).take (i * 2) := by rw [hcur]
    rw [List.take_take, Nat.min_eq_left (by omega)] at this
    rw [this, show entCells l = entCells (l.take i) ++ entCells (l.drop i) by rw [← entCells_append, List.take_append_drop], List.take_left' (by rw [entCells_len, List.length_take]; omega)]
  have hd : (entCells (l.drop i)).length = (n - i) * 2 := by rw [entCells_len, List.length_drop, hn]
  have hx : (entCells [x]).length = 2 := by rw [entCells_len]; rfl
  have ht : (entCells (l.take i)).length = i * 2 := by rw [entCells_len, List.length_take]; omega
  obtain ⟨D, hD⟩ : ∃ D, entCells (l.drop i) = D := ⟨_, rfl⟩
  obtain ⟨X, hX⟩ : ∃ X, entCells [x] = X := ⟨_, rfl⟩
  obtain ⟨T, hT⟩ : ∃ T, entCells (l.take i) = T := ⟨_, rfl⟩
  rw [entCells_append, entCells_append, hD, hX, hT]
  rw [hD] at hd; rw [hX] at hx; rw [hT] at ht h1
  obtain ⟨Y, hY⟩ : ∃ Y, (cur.drop (i * 2)).take 2 = Y := ⟨_, rfl⟩
  obtain ⟨R, hR⟩ : ∃ R, cur.drop ((i + 1) * 2 + D.length) = R := ⟨_, rfl⟩
  have hYl : Y.length = 2 := by rw [← hY, List.length_take, List.length_drop]; omega
  have hRl : R.length = cap * 2 - (n + 1) * 2 := by rw [← hR, List.length_drop]; omega
  have e1 : splice cur ((i + 1) * 2) D = T ++ (Y ++ (D ++ R)) := by
    unfold splice
    rw [hR, show (i + 1) * 2 = i * 2 + 2 by omega, List.take_add, h1, hY, List.append_assoc]
  have e2 : splice (T ++ (Y ++ (D ++ R))) (i * 2) X = T ++ (X ++ (D ++ R)) := by
    unfold splice
    rw [← ht, List.take_left, hx, ← hYl, ← List.length_append, ← List.append_assoc T Y, List.drop_left]
  rw [e1, e2]
  refine ⟨?_, by simp only [List.length_append]; omega⟩
  rw [← List.append_assoc, ← List.append_assoc]
  exact List.take_left' (by simp only [List.length_append]; omega)
end Go.Proofs.Ythmjcbmeiabbgaa
