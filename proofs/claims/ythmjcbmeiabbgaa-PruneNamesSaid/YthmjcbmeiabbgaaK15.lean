/-
  slices.Insert at entries: a new row; then all three ways at once.
-/
import Derived.Test.YthmjcbmeiabbgaaK12
import Derived.Test.YthmjcbmeiabbgaaK14
import Derived.Lib.AppendZerosOnto
set_option linter.unusedVariables false
set_option linter.unusedSimpArgs false
namespace Go.Proofs.Ythmjcbmeiabbgaa
open Go.RowKit
set_option maxRecDepth 100000

theorem grown_cells {c0 : List Value} {l : List (Int × Int)} {x : Int × Int} {i n G : Nat} (hn : n = l.length) (hi : i < n) (hG : n + 1 ≤ G) (hcl : c0.length = G * 2) (h1 : c0.take (i * 2) = entCells (l.take i)) :
    (splice (splice c0 (i * 2) (entCells [x])) ((i + 1) * 2) (entCells (l.drop i))).take ((n + 1) * 2) = entCells (l.take i ++ [x] ++ l.drop i) ∧ (splice c0 (i * 2) (entCells [x])).length = G * 2 ∧ (splice (splice c0 (i * 2) (entCells [x])) ((i + 1) * 2) (entCells (l.drop i))).length = G * 2 := by
  have hd : (entCells (l.drop i)).length = (n - i) * 2 := by rw [entCells_len, List.length_drop, hn]
  have hx : (entCells [x]).length = 2 := by rw [entCells_len]; rfl
  have ht : (entCells (l.take i)).length = i * 2 := by rw [entCells_len, List.length_take]; omega
  obtain ⟨D, hD⟩ : ∃ D, entCells (l.drop i) = D := ⟨_, rfl⟩
  obtain ⟨X, hX⟩ : ∃ X, entCells [x] = X := ⟨_, rfl⟩
  obtain ⟨T, hT⟩ : ∃ T, entCells (l.take i) = T := ⟨_, rfl⟩
  rw [entCells_append, entCells_append, hD, hX, hT]
  rw [hD] at hd; rw [hX] at hx; rw [hT] at ht h1
  obtain ⟨R, hR⟩ : ∃ R, c0.drop (i * 2 + X.length) = R := ⟨_, rfl⟩
  have hRl : R.length = G * 2 - (i + 1) * 2 := by rw [← hR, List.length_drop]; omega
  have e1 : splice c0 (i * 2) X = (T ++ X) ++ R := by
    unfold splice
    rw [hR, h1, List.append_assoc]
  have e2 : splice ((T ++ X) ++ R) ((i + 1) * 2) D = ((T ++ X) ++ D) ++ R.drop D.length := by
    unfold splice
    have hl : (T ++ X).length = (i + 1) * 2 := by rw [List.length_append]; omega
    rw [← hl, List.take_left, ← List.drop_drop, List.drop_left, List.append_assoc (T ++ X)]
  rw [e1, e2]
  refine ⟨?_, by simp only [List.length_append]; omega, by simp only [List.length_append, List.length_drop]; omega⟩
  rw [List.take_left' (by simp only [List.length_append]; omega)]

set_option maxHeartbeats 4000000 in
theorem insertGrow {w : World} {base n cap g gb i : Nat} {cur : List Value} {l : List (Int × Int)} {x : Int × Int} (hcur : w.heap[gb]? = some (.cells cur.toArray 35 (0, 0))) (hcl : cur.length = cap * 2) (hc : cur.take (n * 2) = entCells l) (hn : n = l.length) (hb : base ≤ w.heap.size)
    (hg : w.heap[g]? = some (.cells #[.int .i64 x.1, .int .i64 x.2] 35 (0, 0))) (hi : i < n) (hcap : n ≤ cap) (hroom : cap < n + 1) (hlen : n ≤ 1000) :
    Calls Try.prog 74 #[.slice (some ⟨gb, 0, none⟩) n cap, .int .i64 i, .slice (some ⟨g, 0, none⟩) 1 1] w fun e w' => ∃ v, e = .returned v ∧ w'.ownsRow base 35 2 v (n + 1) (entCells (l.take i ++ [x] ++ l.drop i)) ∧ Kept (fun _ => False) w w' := by
  obtain ⟨I, z, hi0, hz0, hzs, hzb, hzc⟩ := elemEntry.info
  have hgw := lt_of_heap hg
  have hbw := lt_of_heap hcur
  have hDl : (entCells (l.drop i)).length = (n - i) * 2 := by rw [entCells_len, List.length_drop, hn]
  have hXl : (entCells [x]).length = 1 * 2 := entCells_len _
  have hsplit : cur.take (n * 2) = entCells (l.take i) ++ entCells (l.drop i) := by rw [hc, ← entCells_append, List.take_append_drop]
  have hTl : (entCells (l.take i)).length = i * 2 := by rw [entCells_len, List.length_take]; omega
  have hcell : ∀ (j : Nat) (v : Value), (entCells (l.drop i))[j]? = some v → cur[i * 2 + j]? = some v := fun j v hj => by
    have h2 : (cur.take (n * 2))[i * 2 + j]? = some v := by
      rw [hsplit, List.getElem?_append_right (by omega), hTl, show i * 2 + j - i * 2 = j by omega]
      exact hj
    rw [List.getElem?_take] at h2
    split at h2
    · exact h2
    · cases h2
  have hcellT : ∀ (j : Nat) (v : Value), (entCells (l.take i))[j]? = some v → cur[j]? = some v := fun j v hj => by
    have h2 : (cur.take (n * 2))[j]? = some v := by
      rw [hsplit, List.getElem?_append_left (List.getElem?_eq_some_iff.1 hj).1]
      exact hj
    rw [List.getElem?_take] at h2
    split at h2
    · exact h2
    · cases h2
  have hkk : (n : Int) + 1 - (i : Int) = ((n + 1 - i : Nat) : Int) := by omega
  have hik : i + (n + 1 - i) = n + 1 := by omega
  obtain ⟨G, hG⟩ : ∃ G, G = grownCap w (n + 1) cap 35 := ⟨_, rfl⟩
  obtain ⟨ROW, hROW⟩ : ∃ ROW : Array Value, ROW = (entCells (l.take i)).toArray ++ Builtin.zeroCells z.cells (n + 1 - i) ++ Builtin.zeroCells z.cells (G - (n + 1)) := ⟨_, rfl⟩
  have hold : (Builtin.firstCells I.size i (.slice (some ⟨gb, 0, none⟩) i cap)).run Try.prog w.drew = .ok (entCells (l.take i)).toArray w.drew := by
    rw [hzs]
    exact run_firstCells_some w.drew 2 i ⟨gb, 0, none⟩ i cap (entCells (l.take i)) hTl (fun j v hj => by
      rw [addr_add, Nat.zero_add, show w.drew.cell? ⟨gb, j, none⟩ = w.cell? ⟨gb, j, none⟩ from rfl, cell_of_heap hcur]
      simpa using hcellT j v hj)
  have hrz : ∀ ty, (Builtin.append_ #[31, 3] ty #[.slice (some ⟨gb, 0, none⟩) i cap, .int .i64 ((n : Int) + 1 - (i : Int))]).run Try.prog w =
      .ok (.slice (some ⟨w.heap.size, 0, none⟩) (n + 1) G) (w.drew.alloc (.cells ROW 35)) := fun ty => by
    have h := Lib.run_append_grow_zeros (P := Try.prog) w 31 3 ty 35 I z .i64 .i64 elemEntry.ht Try.underlying3 hi0 hz0 (some ⟨gb, 0, none⟩) i cap (entCells (l.take i)) hold (n + 1 - i) (by omega) (by omega) (by omega) (by omega) (by rw [hzb]; omega) (by rw [hzb, hik]; exact growslice_fits hroom (by omega))
    rw [hik, ← hG, ← hROW] at h
    rw [hkk]
    exact h
  have hGn : n + 1 ≤ G := by rw [hG]; exact grownCap_ge w _ _ _
  have hGm : G ≤ maxLen := by rw [hG]; exact grownCap_le_maxLen w (n + 1) cap _ (by unfold maxLen; omega)
  have hRl : ROW.size = G * 2 := by
    rw [hROW]
    have e1 : i * 2 + (n + 1 - i) * 2 + (G - (n + 1)) * 2 = G * 2 := by omega
    simp only [Builtin.zeroCells, Array.size_append, List.size_toArray, List.length_map, List.length_range, Array.size_map, Array.size_range, Array.size_ofFn, hzc, hTl]
    exact e1
  have hRt : ROW.toList.take (i * 2) = entCells (l.take i) := by
    rw [hROW]
    simp only [Array.toList_append, List.append_assoc]
    exact List.take_left' hTl
  clear hROW hold
  obtain ⟨c0, rfl⟩ : ∃ c0 : List Value, ROW = c0.toArray := ⟨ROW.toList, by simp⟩
  rw [List.size_toArray] at hRl
  rw [List.toList_toArray] at hRt
  obtain ⟨hp1, hp2, hp3⟩ := grown_cells hn hi hGn hRl hRt (x := x)
  obtain ⟨g2, hg2⟩ : ∃ g2, w.heap.size = g2 := ⟨_, rfl⟩
  obtain ⟨W1, hW1⟩ : ∃ W1, W1 = w.drew.alloc (.cells c0.toArray 35) := ⟨_, rfl⟩
  rw [← hW1] at hrz
  have hk1 : Kept (fun _ => False) w W1 := by rw [hW1]; exact (Kept.refl _ w).drew.alloc _
  have hR1 : W1.heap[g2]? = some (.cells c0.toArray 35 (0, 0)) := by rw [hW1, ← hg2]; exact heap_alloc_new w.drew _
  have hgA : W1.heap[g]? = some (.cells #[.int .i64 x.1, .int .i64 x.2] 35 (0, 0)) := hk1.get hg id
  obtain ⟨c1, hcs1⟩ : ∃ c1, splice c0 (i * 2) (entCells [x]) = c1 := ⟨_, rfl⟩
  rw [hcs1] at hp1 hp2 hp3
  obtain ⟨W2, hW2⟩ : ∃ W2, W2 = W1.setRow g2 (c0.take (i * 2) ++ entCells [x] ++ c0.drop (i * 2 + (entCells [x]).length)).toArray := ⟨_, rfl⟩
  have hcpA : ∀ ty dc, (Builtin.copy_ #[31, 31] ty #[.slice (some ⟨g2, i * 2, none⟩) (n + 1 - i) dc, .slice (some ⟨g, 0, none⟩) 1 1]).run Try.prog W1 = .ok (goInt (1 : Nat)) W2 := fun ty dc => by
    rw [hW2]
    exact run_copy_ents W1 ty g2 (i * 2) (n + 1 - i) dc ⟨g, 0, none⟩ 1 1 c0.toArray 35 (entCells [x]) 1 hR1 (by simp only [Nat.min_def]; split <;> omega) hXl (fun j v hj => by
      rw [addr_add, Nat.zero_add, cell_of_heap hgA]
      simpa [entCells] using hj) (by rw [List.size_toArray]; omega) (entCells_one _)
  have hR2 : W2.heap[g2]? = some (.cells c1.toArray 35 (0, 0)) := by
    rw [hW2, ← hcs1]
    simpa [splice] using setRow_heap W1 g2 c0.toArray (c0.take (i * 2) ++ entCells [x] ++ c0.drop (i * 2 + (entCells [x]).length)).toArray 35 (0, 0) hR1
  have hk2 : Kept (fun _ => False) w W2 := by
    rw [hW2]
    exact hk1.setRowNew (by omega) _
  have hcur2 := hk2.get hcur id
  obtain ⟨W3, hW3⟩ : ∃ W3, W3 = W2.drew.setRow g2 (c1.take ((i + 1) * 2) ++ entCells (l.drop i) ++ c1.drop ((i + 1) * 2 + (entCells (l.drop i)).length)).toArray := ⟨_, rfl⟩
  have hcpB : ∀ ty dc sc, (Builtin.copy_ #[31, 31] ty #[.slice (some ⟨g2, (i + 1) * 2, none⟩) (n - i) dc, .slice (some ⟨gb, i * 2, none⟩) (n - i) sc]).run Try.prog W2.drew = .ok (goInt (n - i : Nat)) W3 := fun ty dc sc => by
    rw [hW3]
    have := run_copy_ents W2.drew ty g2 ((i + 1) * 2) (n - i) dc ⟨gb, i * 2, none⟩ (n - i) sc c1.toArray 35 (entCells (l.drop i)) (n - i) hR2 (by simp only [Nat.min_def]; split <;> omega) hDl (fun j v hj => by
      rw [addr_add, show W2.drew.cell? ⟨gb, i * 2 + j, none⟩ = W2.cell? ⟨gb, i * 2 + j, none⟩ from rfl, cell_of_heap hcur2]
      simpa using hcell j v hj) (by rw [List.size_toArray]; omega) (entCells_one _)
    exact this
  have hR3 : W3.heap[g2]? = some (.cells (splice c1 ((i + 1) * 2) (entCells (l.drop i))).toArray 35 (0, 0)) := by
    rw [hW3]
    simpa [splice] using setRow_heap W2.drew g2 c1.toArray (c1.take ((i + 1) * 2) ++ entCells (l.drop i) ++ c1.drop ((i + 1) * 2 + (entCells (l.drop i)).length)).toArray 35 (0, 0) hR2
  have hk3 : Hid (Kept (fun _ => False) w W3) := Lib.hid (by
    rw [hW3]
    exact (hk2.drew).setRowNew (by omega) _)
  have hown : Hid (W3.ownsRow base 35 2 (.slice (some ⟨g2, 0, none⟩) (n + 1) G) (n + 1) (entCells (l.take i ++ [x] ++ l.drop i))) := Lib.hid (by
    refine ⟨by rw [entCells_len]; simp only [List.length_append, List.length_take, List.length_drop, List.length_singleton]; omega, .inr ⟨g2, G, (splice c1 ((i + 1) * 2) (entCells (l.drop i))).toArray, rfl, by omega, hR3, hGn, hGm, by rw [List.size_toArray, hp3], ?_⟩⟩
    rw [← hp1])
  rw [hg2] at hrz
  unfold maxLen at hGm
  clear hp1 hp2 hp3 hcur hcl hc hg hDl hXl hcell hcellT hsplit hTl hW1 hk1 hR1 hgA hcs1 hW2 hR2 hk2 hcur2 hW3 hR3 hRl hRt hG hg2 hgw hbw hb hi0 hz0 hzs hzb hzc hkk hik
  have hz2 : ¬ ((i : Int) = (n : Int)) := by omega
  have hz3 : (cap : Int) < (n : Int) + 1 := by omega
  have hGi : ¬ (G = i) := by omega
  have hGim : ¬ (G = i + 1) := by omega
  have hci : ¬ (cap = i) := by omega
  have hin : i ≤ n := by omega
  have hw1 : IntKind.i64.wrap ((i : Int) + 1) = (i : Int) + 1 := by rw [IntKind.wrap_i64]; omega
  have htn : ((i : Int) + 1).toNat = i + 1 := by omega
  have hb1 : (0 : Int) ≤ (i : Int) + 1 := by omega
  have hb3 : (i : Int) ≤ (n : Int) := by omega
  clear hn
  go_enter Try.func74, Try.ntmps74
  go_wp2_with (first
    | (at_builtin; refine Lib.wpList_append_run _ rfl _ _ _ _ rfl _ _ rfl rfl _ _ (hrz _) ?_)
    | (at_builtin; refine wpList_copy_known W1 rfl _ _ 31 31 rfl _ _ rfl rfl (hcpA _ _) ?_))
  go_region_law (refine step_copy_known W2.drew rfl _ _ 31 31 rfl _ _ (by simp [Act.eval, Act.put]) (by simp [Act.eval, Act.put]) (hcpB _ _ _) ?_)
  go_wp2
  go_ret
  exact ⟨_, rfl, hown.out, hk3.out⟩
end Go.Proofs.Ythmjcbmeiabbgaa
/-
  slices.Insert at entries: all ways.
-/
namespace Go.Proofs.Ythmjcbmeiabbgaa
open Go.RowKit
set_option maxRecDepth 100000

theorem insertEnt {w : World} {base n cap g i : Nat} {A : Option Addr} {l : List (Int × Int)} {x : Int × Int} (hown : w.ownsRow base 35 2 (.slice A n cap) n (entCells l)) (hg : w.heap[g]? = some (.cells #[.int .i64 x.1, .int .i64 x.2] 35 (0, 0))) (hbase : base ≤ w.heap.size)
    (hne : (Value.slice A n cap).ownBlock ≠ some g) (hi : i ≤ n) (hlen : n ≤ 1000) :
    Calls Try.prog 74 #[.slice A n cap, .int .i64 i, .slice (some ⟨g, 0, none⟩) 1 1] w fun e w' => ∃ v, e = .returned v ∧ w'.ownsRow base 35 2 v (n + 1) (entCells (l.take i ++ [x] ++ l.drop i)) ∧ Kept (fun b => (Value.slice A n cap).ownBlock = some b) w w' := by
  have hl : n = l.length := by have := hown.1; rw [entCells_len] at this; omega
  by_cases hin : i = n
  · subst hin
    rw [hl, List.take_length, List.drop_length, List.append_nil, ← hl]
    exact insertEnd hown hg hbase hlen
  · rcases hown.2 with ⟨h1, h2⟩ | ⟨gb, c, cur, h1, h2, h3, h4, h5, h6, h7⟩
    · omega
    · cases h1
      obtain ⟨cl, rfl⟩ : ∃ cl : List Value, cur = cl.toArray := ⟨cur.toList, by simp⟩
      rw [List.size_toArray] at h6
      rw [List.toList_toArray] at h7
      have hgb : g ≠ gb := fun e => hne (by rw [e]; rfl)
      by_cases hc : n + 1 ≤ cap
      · exact (insertShift h3 h6 h7 hl h2 h5 hg hgb (by omega) hc hlen).mono fun e w' ⟨v, he, ho, hk⟩ => ⟨v, he, ho, hk.mono fun b hb => by rw [hb]; rfl⟩
      · exact (insertGrow h3 h6 h7 hl hbase hg (by omega) h4 (by omega) hlen).mono fun e w' ⟨v, he, ho, hk⟩ => ⟨v, he, ho, hk.mono fun _ => False.elim⟩
end Go.Proofs.Ythmjcbmeiabbgaa
/-
  Trees (package tree): put: what is no node.
-/
namespace Go.Proofs.Ythmjcbmeiabbgaa
open Go.RowKit
set_option maxRecDepth 100000

set_option maxHeartbeats 4000000 in
theorem putErr {w : World} {A : SA} {M : SM} (h : StoreAt w A M) (root : Int) (d : Nat) (hd : d ≤ 8) (x : Int × Int) {n : NM} {er : Nat} (hR : M.tnode root d = (n, er)) (h0 : er ≠ 0) :
    Calls Try.prog 53 #[.agg #[.pointer (some ⟨A.sb, 0, none⟩)], .int .i64 root, .int .i64 d, .agg #[.int .i64 x.1, .int .i64 x.2]] w fun e w' => ∃ v, e = .returned (.tuple #[.agg (nodeCells n v).toArray, .int .i64 er]) ∧
      w'.ownsRow w.heap.size 35 2 v n.ents.length (entCells n.ents) ∧ Kept (fun _ => False) w w' := by
  have h0' : ((er : Int) == 0) = false := by simp; omega
  obtain ⟨Z, hZ⟩ : ∃ Z, nodeCells NM.zero (.slice none 0 0) = Z := ⟨_, rfl⟩
  have hZz : Hid ((Try.prog.info? 33).map (·.zero) = some (some (.agg Z.toArray))) := Lib.hid (by rw [← hZ]; exact node_zero)
  have hZl : Hid (Z.length = 18) := Lib.hid (by rw [← hZ]; exact nodeCells_len _ _)
  obtain ⟨w1, hw1⟩ : ∃ w1, w.alloc (.cells #[.pointer (some ⟨A.sb, 0, none⟩)] 26) = w1 := ⟨_, rfl⟩
  obtain ⟨w2, hw2⟩ : ∃ w2, w1.alloc (.cells #[.int .i64 x.1, .int .i64 x.2] 35) = w2 := ⟨_, rfl⟩
  obtain ⟨w3, hw3⟩ : ∃ w3, w2.alloc (.cells Z.toArray 33) = w3 := ⟨_, rfl⟩
  have k1 : Kept (fun _ => False) w w1 := by rw [← hw1]; exact (Kept.refl _ _).alloc _
  have k2 : Kept (fun _ => False) w1 w2 := by rw [← hw2]; exact (Kept.refl _ _).alloc _
  have k3 : Kept (fun _ => False) w2 w3 := by rw [← hw3]; exact (Kept.refl _ _).alloc _
  have s1 : w1.heap.size = w.heap.size + 1 := by rw [← hw1]; simp
  have s2 : w2.heap.size = w.heap.size + 2 := by rw [← hw2]; simp [s1]
  have s3 : w3.heap.size = w.heap.size + 3 := by rw [← hw3]; simp [s2]
  have t3 : w3.heap[w.heap.size]? = some (.cells #[.pointer (some ⟨A.sb, 0, none⟩)] 26 (0, 0)) := (k2.trans k3).get (by rw [← hw1]; exact heap_alloc_new _ _) id
  have x3 : w3.heap[w.heap.size + 1]? = some (.cells #[.int .i64 x.1, .int .i64 x.2] 35 (0, 0)) := k3.get (by rw [← hw2, ← s1]; exact heap_alloc_new _ _) id
  have r3 : w3.heap[w.heap.size + 2]? = some (.cells Z.toArray 33 (0, 0)) := by rw [← hw3, ← s2]; exact heap_alloc_new _ _
  have k03 := Lib.hid ((k1.trans k2).trans k3)
  have hnd := treeNode (h.fresh k03.out) root d (by omega)
  rw [hR] at hnd
  dsimp only at hnd
  have hnd' := Lib.hid hnd
  have h' := Lib.hid h
  have hw1' := Lib.hid hw1
  have hw2' := Lib.hid hw2
  have hw3' := Lib.hid hw3
  have s1' := Lib.hid s1
  have s2' := Lib.hid s2
  have hload3 : Hid (∀ j v, [Value.pointer (some ⟨A.sb, 0, none⟩)][j]? = some v → w3.cell? ⟨w.heap.size, 0 + j, none⟩ = some v) := Lib.hid (fun j v hj => by rw [Nat.zero_add, cell_of_heap t3]; simpa using hj)
  have t3' := Lib.hid t3
  have x3' := Lib.hid x3
  have r3' := Lib.hid r3
  have s3' := Lib.hid s3
  obtain ⟨x0, x1⟩ := x
  dsimp only at *
  clear hw1 hw2 hw3 k1 k2 k3 s1 s2 s3 t3 x3 r3 hnd h hZ hR
  go_enter Try.func53, Try.ntmps53
  go_wp2_with (first | (refine wpList_box_named 26 rfl rfl _ rfl hw1'.out ?_) | (refine wpList_box_named 35 rfl rfl _ rfl hw2'.out ?_; rw [s1'.out]) | (refine wpList_alloc_as 33 rfl rfl Z.toArray hZz.out ?_; rw [hw3'.out, s2'.out]) | (refine wpList_load_agg 26 rfl rfl rfl _ Try.underlying26 rfl [.pointer (some ⟨A.sb, 0, none⟩)] (by kernel_rfl) hload3.out ?_))
  refine hnd'.out.mono ?_
  rintro e w4 ⟨v, rfl, hown, hk4⟩
  obtain ⟨Av, cap, rfl, hf1, hf2⟩ := EntsAt.form (show EntsAt w4 v n.ents from SliceAt.of_owns hown)
  obtain ⟨F, hF⟩ : ∃ F, nodeCells n (.slice Av n.ents.length cap) = F := ⟨_, rfl⟩
  have hFl : Hid (F.length = 18) := Lib.hid (by rw [← hF]; exact nodeCells_len _ _)
  have hF1 : Hid (∀ v ∈ F, v.oneCell' = true) := Lib.hid (by rw [← hF]; exact nodeCells_one _ _ _ _)
  obtain ⟨nb, hnb⟩ : ∃ nb, w4.heap.size = nb := ⟨_, rfl⟩
  obtain ⟨w5, hw5⟩ : ∃ w5, (w4.alloc (.cells Z.toArray 33)).setRow nb F.toArray = w5 := ⟨_, rfl⟩
  have k5 : Kept (fun _ => False) w4 w5 := by rw [← hw5]; exact ((Kept.refl _ _).alloc _).setRowNew (by omega) _
  have bx5 : NodeBox w5 nb n (.slice Av n.ents.length cap) := ⟨by rw [hF, ← hw5, ← hnb]; exact setRow_heap _ _ _ _ _ _ (heap_alloc_new _ _)⟩
  have hown5 := Lib.hid (ownsRow.keptOf hown k5 (fun _ _ => id))
  have k35 := Lib.hid (hk4.trans k5)
  have t5 := Lib.hid (k35.out.get t3'.out id)
  have x5 := Lib.hid (k35.out.get x3'.out id)
  have r5 := Lib.hid (k35.out.get r3'.out id)
  have q5 := Lib.hid (show w5.heap[nb]? = some (.cells F.toArray 33 (0, 0)) by rw [← hF]; exact bx5.heap)
  have hs4 := hk4.size
  have hs5 : Hid (w5.heap.size = nb + 1) := Lib.hid (by rw [← hw5, ← hnb]; simp [World.setRow])
  rw [hF]
  have bx5' := Lib.hid bx5
  have hw5' := Lib.hid hw5
  have hnb' := Lib.hid hnb
  have hF' := Lib.hid hF
  clear hown hk4 k5 hw5 bx5 hnb hF
  go_wp2_with (first | (refine wpList_alloc_as 33 rfl rfl Z.toArray hZz.out ?_; rw [hnb'.out]) | (refine wpList_store_whole 33 rfl rfl rfl F rfl (by rw [hFl.out]; exact node_size) 33 _ (by rw [← hnb'.out]; exact heap_alloc_new _ _) (by simp [hFl.out, hZl.out]) hF1.out ?_; rw [hw5'.out]) | (refine wpList_load_agg 33 rfl rfl rfl _ Try.underlying33 rfl F (by rw [hFl.out]; exact node_size) (fun j v hv => by rw [cell_of_heap q5.out, Nat.zero_add]; simpa using hv) ?_) | (refine wpList_store_whole 33 rfl rfl rfl F rfl (by rw [hFl.out]; exact node_size) 33 _ r5.out (by simp [hFl.out, hZl.out]) hF1.out ?_))
  refine bodyPost_ret (results_row_tmp rfl _ _ (w.heap.size + 2) 33 F.toArray (0, 0) _ rfl (setRow_heap _ _ _ _ 33 (0, 0) r5.out) Try.underlying33 rfl (by simp only [List.size_toArray]; rw [hFl.out]; exact node_size)) rfl ?_
  have kS := (Kept.refl (fun i => i = w.heap.size + 2) w5).setRow rfl F.toArray
  exact ⟨.slice Av n.ents.length cap, by rw [hF'.out]; rfl, owns_weaken (ownsRow.keptOf hown5.out kS (fun g hg e => by have := (hown5.out.lt g hg).1; have := s3'.out; omega)) (by have := s3'.out; omega), (k03.out.trans k35.out).setRowNew (by omega) _⟩
end Go.Proofs.Ythmjcbmeiabbgaa
/-
  Trees (package tree): put: a leaf that has the key.
-/
namespace Go.Proofs.Ythmjcbmeiabbgaa
open Go.RowKit
set_option maxRecDepth 100000

theorem sliceNil {w : World} {A : Option Addr} {cap : Nat} (hc : cap ≤ maxLen) : EntsAt w (.slice A 0 cap) [] := ⟨rfl, A, cap, rfl, Nat.zero_le _, hc, fun j v hj => by simp [entCells] at hj⟩
theorem nodeCells_set (n : NM) (c : List (Int × Int)) (v u : Value) : (nodeCells n v).toArray.setIfInBounds 17 u = (nodeCells { n with ents := c } u).toArray := by
  unfold nodeCells
  simp only [List.setIfInBounds_toArray, List.set_cons_succ]
  rw [List.set_append_right _ _ (by rw [blockCells_len]; omega), blockCells_len]
  rfl
/-- slices.Concat of three. -/
theorem concat3 {W : World} {s1 s2 s3 : Value} {l1 l2 l3 : List (Int × Int)} (h1 : EntsAt W s1 l1) (h2 : EntsAt W s2 l2) (h3 : EntsAt W s3 l3) (hl : l1.length + l2.length + l3.length ≤ 1000) :
    Calls Try.prog 73 #[.slice (some ⟨W.heap.size, 0, none⟩) 3 3] (W.alloc (.cells #[s1, s2, s3] 31)) fun e w' => ∃ u, e = .returned u ∧ w'.ownsRow (W.heap.size + 1) 35 2 u (l1 ++ l2 ++ l3).length (entCells (l1 ++ l2 ++ l3)) ∧ Kept (fun _ => False) W w' := by
  have k := (Kept.refl (fun _ => False) W).alloc (.cells #[s1, s2, s3] 31)
  have hr : RowsAt (W.alloc (.cells #[s1, s2, s3] 31)) (.slice (some ⟨W.heap.size, 0, none⟩) 3 3) 2 [entCells l1, entCells l2, entCells l3] [s1, s2, s3] := by
    refine ⟨rfl, SliceAt.block_new (tt := 31) (fr := (0, 0)) (heap_alloc_new _ _) rfl (by decide), fun i u l hu hl => ?_⟩
    match i, hu, hl with
    | 0, hu, hl => cases hu; cases hl; exact ⟨_, SliceAt.fresh h1 k⟩
    | 1, hu, hl => cases hu; cases hl; exact ⟨_, SliceAt.fresh h2 k⟩
    | 2, hu, hl => cases hu; cases hl; exact ⟨_, SliceAt.fresh h3 k⟩
  have hs : sumV [s1, s2, s3] = l1.length + l2.length + l3.length := by
    unfold sumV
    simp only [List.map_cons, List.map_nil, SliceAt.lenV h1, SliceAt.lenV h2, SliceAt.lenV h3, List.sum_cons, List.sum_nil]
    omega
  refine (concatEnt hr (by rw [hs]; omega) (fun l hl => by
    simp only [List.mem_cons, List.not_mem_nil, or_false] at hl
    rcases hl with rfl | rfl | rfl <;> exact entCells_one _)).mono ?_
  rintro e w' ⟨u, he, ho, hk⟩
  refine ⟨u, he, ?_, k.trans hk⟩
  rw [hs] at ho
  have e1 : [entCells l1, entCells l2, entCells l3].flatten = entCells (l1 ++ l2 ++ l3) := by simp [entCells_append]
  rw [e1] at ho
  have e2 : (W.alloc (.cells #[s1, s2, s3] 31)).heap.size = W.heap.size + 1 := by simp
  rw [e2] at ho
  rw [show (l1 ++ l2 ++ l3).length = l1.length + l2.length + l3.length by simp only [List.length_append]]
  exact ho
/-- The end: the entries go into the node, the node into the result. -/
theorem putEnds {W : World} {n : NM} {sv v : Value} {nb r base m : Nat} {c : List (Int × Int)} {Z : Array Value} (q : NodeBox W nb n sv) (hr : W.heap[r]? = some (.cells Z 33 (0, 0))) (hne : r ≠ nb) (ho : W.ownsRow base 35 2 v m (entCells c)) :
    NodeBox (W.setCell ⟨nb, 17, none⟩ v) nb { n with ents := c } v ∧ (W.setCell ⟨nb, 17, none⟩ v).heap[r]? = some (.cells Z 33 (0, 0)) ∧
      (∀ F, ((W.setCell ⟨nb, 17, none⟩ v).setRow r F).ownsRow base 35 2 v m (entCells c)) := by
  have k1 := (Kept.refl (fun k => k = nb) W).setCell (p := ⟨nb, 17, none⟩) rfl v
  have hT : ∀ b, v.ownBlock = some b → b ≠ nb ∧ b ≠ r := fun b hb => by
    rcases ho.2 with ⟨rfl, _⟩ | ⟨g, cap, cur, rfl, _, hg, _⟩
    · simp [Value.ownBlock] at hb
    · simp [Value.ownBlock] at hb
      subst hb
      constructor
      · rintro rfl
        rw [q.heap] at hg
        cases hg
      · rintro rfl
        rw [hr] at hg
        cases hg
  refine ⟨⟨?_⟩, k1.get hr hne, fun F => ?_⟩
  · rw [heap_setCell_same q.heap, nodeCells_set n c]
  · exact ownsRow.keptOf ho ((k1.mono fun k hk => Or.inl hk).trans ((Kept.refl (fun k => k = nb ∨ k = r) _).setRow (Or.inr rfl) F)) fun b hb e => e.elim (hT b hb).1 (hT b hb).2

set_option maxHeartbeats 4000000 in
theorem putSame {w : World} {A : SA} {M : SM} (h : StoreAt w A M) (root : Int) (d : Nat) (hd : d ≤ 8) (x : Int × Int) {n : NM} (hR : M.tnode root d = (n, 0)) (hin0 : InnerOk n) (hk2 : n.kind = 2) {C : List (Int × Int)} {i : Nat} (hi : atI n.ents x.1 = i) (hsame : (n.ents.getD i (0, 0)).1 = x.1) (hC : n.ents.take i ++ [x] ++ n.ents.drop (i + 1) = C) :
    Calls Try.prog 53 #[.agg #[.pointer (some ⟨A.sb, 0, none⟩)], .int .i64 root, .int .i64 d, .agg #[.int .i64 x.1, .int .i64 x.2]] w fun e w' => ∃ v, e = .returned (.tuple #[.agg (nodeCells { n with ents := C } v).toArray, .int .i64 0]) ∧
      w'.ownsRow w.heap.size 35 2 v C.length (entCells C) ∧ Kept (fun _ => False) w w' := by
  obtain ⟨Z, hZ⟩ : ∃ Z, nodeCells NM.zero (.slice none 0 0) = Z := ⟨_, rfl⟩
  have hZz : Hid ((Try.prog.info? 33).map (·.zero) = some (some (.agg Z.toArray))) := Lib.hid (by rw [← hZ]; exact node_zero)
  have hZl : Hid (Z.length = 18) := Lib.hid (by rw [← hZ]; exact nodeCells_len _ _)
  obtain ⟨w1, hw1⟩ : ∃ w1, w.alloc (.cells #[.pointer (some ⟨A.sb, 0, none⟩)] 26) = w1 := ⟨_, rfl⟩
  obtain ⟨w2, hw2⟩ : ∃ w2, w1.alloc (.cells #[.int .i64 x.1, .int .i64 x.2] 35) = w2 := ⟨_, rfl⟩
  obtain ⟨w3, hw3⟩ : ∃ w3, w2.alloc (.cells Z.toArray 33) = w3 := ⟨_, rfl⟩
  have k1 : Kept (fun _ => False) w w1 := by rw [← hw1]; exact (Kept.refl _ _).alloc _
  have k2 : Kept (fun _ => False) w1 w2 := by rw [← hw2]; exact (Kept.refl _ _).alloc _
  have k3 : Kept (fun _ => False) w2 w3 := by rw [← hw3]; exact (Kept.refl _ _).alloc _
  have s1 : w1.heap.size = w.heap.size + 1 := by rw [← hw1]; simp
  have s2 : w2.heap.size = w.heap.size + 2 := by rw [← hw2]; simp [s1]
  have s3 : w3.heap.size = w.heap.size + 3 := by rw [← hw3]; simp [s2]
  have t3 : w3.heap[w.heap.size]? = some (.cells #[.pointer (some ⟨A.sb, 0, none⟩)] 26 (0, 0)) := (k2.trans k3).get (by rw [← hw1]; exact heap_alloc_new _ _) id
  have x3 : w3.heap[w.heap.size + 1]? = some (.cells #[.int .i64 x.1, .int .i64 x.2] 35 (0, 0)) := k3.get (by rw [← hw2, ← s1]; exact heap_alloc_new _ _) id
  have r3 : w3.heap[w.heap.size + 2]? = some (.cells Z.toArray 33 (0, 0)) := by rw [← hw3, ← s2]; exact heap_alloc_new _ _
  have k03 := Lib.hid ((k1.trans k2).trans k3)
  have hnd := treeNode (h.fresh k03.out) root d (by omega)
  rw [hR] at hnd
  dsimp only at hnd
  have hnd' := Lib.hid hnd
  have h' := Lib.hid h
  have hw1' := Lib.hid hw1
  have hw2' := Lib.hid hw2
  have hw3' := Lib.hid hw3
  have s1' := Lib.hid s1
  have s2' := Lib.hid s2
  have hload3 : Hid (∀ j v, [Value.pointer (some ⟨A.sb, 0, none⟩)][j]? = some v → w3.cell? ⟨w.heap.size, 0 + j, none⟩ = some v) := Lib.hid (fun j v hj => by rw [Nat.zero_add, cell_of_heap t3]; simpa using hj)
  have t3' := Lib.hid t3
  have x3' := Lib.hid x3
  have r3' := Lib.hid r3
  have s3' := Lib.hid s3
  obtain ⟨x0, x1⟩ := x
  dsimp only at *
  clear hw1 hw2 hw3 k1 k2 k3 s1 s2 s3 t3 x3 r3 hnd h hZ hR
  go_enter Try.func53, Try.ntmps53
  go_wp2_with (first | (refine wpList_box_named 26 rfl rfl _ rfl hw1'.out ?_) | (refine wpList_box_named 35 rfl rfl _ rfl hw2'.out ?_; rw [s1'.out]) | (refine wpList_alloc_as 33 rfl rfl Z.toArray hZz.out ?_; rw [hw3'.out, s2'.out]) | (refine wpList_load_agg 26 rfl rfl rfl _ Try.underlying26 rfl [.pointer (some ⟨A.sb, 0, none⟩)] (by kernel_rfl) hload3.out ?_))
  refine hnd'.out.mono ?_
  rintro e w4 ⟨v, rfl, hown, hk4⟩
  obtain ⟨Av, cap, rfl, hf1, hf2⟩ := EntsAt.form (show EntsAt w4 v n.ents from SliceAt.of_owns hown)
  obtain ⟨F, hF⟩ : ∃ F, nodeCells n (.slice Av n.ents.length cap) = F := ⟨_, rfl⟩
  have hFl : Hid (F.length = 18) := Lib.hid (by rw [← hF]; exact nodeCells_len _ _)
  have hF1 : Hid (∀ v ∈ F, v.oneCell' = true) := Lib.hid (by rw [← hF]; exact nodeCells_one _ _ _ _)
  obtain ⟨nb, hnb⟩ : ∃ nb, w4.heap.size = nb := ⟨_, rfl⟩
  obtain ⟨w5, hw5⟩ : ∃ w5, (w4.alloc (.cells Z.toArray 33)).setRow nb F.toArray = w5 := ⟨_, rfl⟩
  have k5 : Kept (fun _ => False) w4 w5 := by rw [← hw5]; exact ((Kept.refl _ _).alloc _).setRowNew (by omega) _
  have bx5 : NodeBox w5 nb n (.slice Av n.ents.length cap) := ⟨by rw [hF, ← hw5, ← hnb]; exact setRow_heap _ _ _ _ _ _ (heap_alloc_new _ _)⟩
  have hown5 := Lib.hid (ownsRow.keptOf hown k5 (fun _ _ => id))
  have k35 := Lib.hid (hk4.trans k5)
  have t5 := Lib.hid (k35.out.get t3'.out id)
  have x5 := Lib.hid (k35.out.get x3'.out id)
  have r5 := Lib.hid (k35.out.get r3'.out id)
  have q5 := Lib.hid (show w5.heap[nb]? = some (.cells F.toArray 33 (0, 0)) by rw [← hF]; exact bx5.heap)
  have hs4 := hk4.size
  have hs5 : Hid (w5.heap.size = nb + 1) := Lib.hid (by rw [← hw5, ← hnb]; simp [World.setRow])
  rw [hF]
  have bx5' := Lib.hid bx5
  have hw5' := Lib.hid hw5
  have hnb' := Lib.hid hnb
  have hF' := Lib.hid hF
  clear hown hk4 k5 hw5 bx5 hnb hF
  have hk2' := Lib.hid hk2
  have hil : i < n.ents.length := by have := (atI_bound (l := n.ents) x0).2; omega
  obtain ⟨y, hy⟩ : ∃ y, n.ents[i]? = some y := ⟨_, List.getElem?_eq_getElem hil⟩
  have hy0 : y.1 = x0 := by simpa [hy] using hsame
  have hin := innerOk_of (show n.ok from hin0.ok) (by have := hin0.kind; omega)
  have hlen6 := hin.le
  have hab := atI_bound (l := n.ents) x0
  have hat := at_any (show EntsAt w5 (.slice Av n.ents.length cap) n.ents from SliceAt.of_owns hown5.out) hin.keys x0 (by omega)
  obtain ⟨a, ha⟩ : ∃ a, atI n.ents x0 = a := ⟨_, rfl⟩
  rw [ha] at hat hab
  have hat' := Lib.hid hat
  have c17 := bx5'.out.c17
  have cx0 := cell_of_heap x5.out 0
  simp at cx0
  unfold maxLen at hf2
  obtain ⟨hab1, hab2⟩ := hab
  have hwa : IntKind.i64.wrap (a + 1) = a + 1 := by rw [IntKind.wrap_i64]; omega
  clear hat hin hin0 hk2
  go_wp2_with (first | (refine wpList_alloc_as 33 rfl rfl Z.toArray hZz.out ?_; rw [hnb'.out]) | (refine wpList_store_whole 33 rfl rfl rfl F rfl (by rw [hFl.out]; exact node_size) 33 _ (by rw [← hnb'.out]; exact heap_alloc_new _ _) (by simp [hFl.out, hZl.out]) hF1.out ?_; rw [hw5'.out]))
  refine hat'.out.mono ?_
  rintro e w6 ⟨rfl, hk6⟩
  have hk6' := Lib.hid hk6
  have k36 := Lib.hid (k35.out.trans hk6)
  have t6 := Lib.hid (hk6.get t5.out id)
  have x6 := hk6.get x5.out id
  have x6' := Lib.hid x6
  have hown6 := Lib.hid (ownsRow.keptOf hown5.out hk6 (fun _ _ => id))
  have bx6 := bx5'.out.kept hk6 id
  have bx6' := Lib.hid bx6
  have r6 := Lib.hid (hk6.get r5.out id)
  have hs6 := hk6.size
  have hne7 : nb ≠ w6.heap.size := by have := hs5.out; omega
  have hloadx : Hid (∀ j v, [Value.int .i64 x0, .int .i64 x1][j]? = some v → w6.cell? ⟨w.heap.size + 1, 0 + j, none⟩ = some v) := Lib.hid (fun j v hj => by rw [Nat.zero_add, cell_of_heap x6'.out]; simpa using hj)
  obtain ⟨w7, hw7⟩ : ∃ w7, w6.alloc (.cells #[.int .i64 x0, .int .i64 x1] 35) = w7 := ⟨_, rfl⟩
  have hw7' := Lib.hid hw7
  have k7 : Kept (fun _ => False) w6 w7 := by rw [← hw7]; exact (Kept.refl _ _).alloc _
  have g7 := Lib.hid (show w7.heap[w6.heap.size]? = some (.cells #[.int .i64 x0, .int .i64 x1] 35 (0, 0)) by rw [← hw7]; exact heap_alloc_new _ _)
  have k37 := Lib.hid (k36.out.trans k7)
  have bx7 := bx6.kept k7 id
  have bx7' := Lib.hid bx7
  have c17_7 := bx7.c17
  have c0_7 := bx7.c0
  rw [← hw7, hk2'.out] at c0_7
  have x7 := k7.get x6 id
  have x7' := Lib.hid x7
  have cx7 := cell_of_heap x7 0
  simp at cx7
  have t7 := Lib.hid (k7.get t6.out id)
  have r7 := Lib.hid (k7.get r6.out id)
  have hown7 := Lib.hid (ownsRow.keptOf hown6.out k7 (fun _ _ => id))
  have hs7 : Hid (w7.heap.size = w6.heap.size + 1) := Lib.hid (by rw [← hw7]; simp)
  have k7' := Lib.hid k7
  clear hk6 bx6 x6 hw7 k7 bx7 x7
  have hai : a = i := by omega
  subst hai
  obtain ⟨b, off, rfl, hbl, cy7, _⟩ := EntsAt.get (show EntsAt w7 (.slice Av n.ents.length cap) n.ents from SliceAt.of_owns hown7.out) hy
  rw [hy0] at cy7
  have hi1 : (i : Int) < (n.ents.length : Int) := by omega
  have hwi : IntKind.i64.wrap ((i : Int) + 1) = (i : Int) + 1 := by rw [IntKind.wrap_i64]; omega
  have htn : ((i : Int) + 1).toNat = i + 1 := by omega
  have hi2 : (i : Int) ≤ (cap : Int) := by omega
  have hi3 : (i : Int) + 1 ≤ (n.ents.length : Int) := by omega
  have hi4 : (0 : Int) ≤ (i : Int) + 1 := by omega
  clear hy hy0 hsame hi ha
  go_wp2_with (first | (refine wpList_load_agg 35 rfl rfl rfl _ Try.underlying35 rfl [.int .i64 x0, .int .i64 x1] (by kernel_rfl) hloadx.out ?_))
  rw [hw7'.out]
  by_cases hci : cap = i + 1
  · go_quiet (fail)
    go_wp2_with fail
    have hcc : Hid (∀ W, Kept (fun _ => False) w7 W → Calls Try.prog 73 #[.slice (some ⟨W.heap.size, 0, none⟩) 3 3] (W.alloc (.cells #[.slice (some ⟨b, off, none⟩) i cap, .slice (some ⟨w6.heap.size, 0, none⟩) 1 1, .slice (some ⟨b, off, none⟩) 0 0] 31)) fun e w' => ∃ u, e = .returned u ∧ w'.ownsRow w7.heap.size 35 2 u C.length (entCells C) ∧ Kept (fun _ => False) W w') := Lib.hid (fun W kW => by
      have hE := EntsAt.form (show EntsAt w7 (.slice (some ⟨b, off, none⟩) n.ents.length cap) n.ents from SliceAt.of_owns hown7.out)
      have hE7 := SliceAt.fresh (SliceAt.of_owns hown7.out) kW
      rw [← hC]
      refine Calls.mono (?_ : Calls _ _ _ _ fun e w' => ∃ u, e = .returned u ∧ w'.ownsRow (W.heap.size + 1) 35 2 u (n.ents.take i ++ [(x0, x1)] ++ n.ents.drop (i + 1)).length (entCells (n.ents.take i ++ [(x0, x1)] ++ n.ents.drop (i + 1))) ∧ Kept (fun _ => False) W w') fun e w' ⟨u, he, ho, hk⟩ => ⟨u, he, owns_weaken ho (by have := kW.size; omega), hk⟩
      refine concat3 (entsAt_take (m := i) hE7 (by omega) rfl) (SliceAt.block_new (ys := [.int .i64 x0, .int .i64 x1]) (m := 1) (kW.get g7.out id) rfl (by decide)) ?_ (by simp only [List.length_take, List.length_drop, List.length_singleton]; omega)
      rw [List.drop_eq_nil_of_le (by omega)]; exact sliceNil (by have := hE.choose_spec; unfold maxLen; omega))
    have hd0 : n.ents.length - (i + 1) = 0 := by omega
    subst hci
    have hj1 : (n.ents.length : Int) ≤ (i : Int) + 1 := by omega
    have hj2 : (i : Int) ≤ (i : Int) + 1 := by omega
    have hj3 : n.ents.length ≤ i + 1 := by omega
    go_region_law? (rw [if_pos (by rfl)]; go_simp; refine (hcc.out _ (by exact ((Kept.refl _ _).drewN _).drew)).mono ?_; rintro e w8 ⟨u, rfl, hown8, hk8⟩; obtain ⟨Au, cu, rfl, _⟩ := EntsAt.form (show EntsAt w8 u (C) from SliceAt.of_owns hown8); have q8 : NodeBox w8 nb n (.slice (some ⟨b, off, none⟩) n.ents.length (i + 1)) := bx7'.out.kept (((Kept.refl (fun _ => False) w7).drewN _).drew.trans hk8) id; have hE := putEnds q8 ((((Kept.refl (fun _ => False) w7).drewN _).drew.trans hk8).get r7.out id) (by have := s3'.out; have := hnb'.out; omega) hown8; obtain ⟨G, hG⟩ : ∃ G, nodeCells { n with ents := C } (.slice Au (C).length cu) = G := ⟨_, rfl⟩; have hGl : Hid (G.length = 18) := Lib.hid (by rw [← hG]; exact nodeCells_len _ _); have hG1 : Hid (∀ v ∈ G, v.oneCell' = true) := Lib.hid (by rw [← hG]; exact nodeCells_one _ _ _ _); have q9 := Lib.hid (show (w8.setCell ⟨nb, 17, none⟩ (.slice Au (C).length cu)).heap[nb]? = some (.cells G.toArray 33 (0, 0)) by rw [← hG]; exact hE.1.heap); have r9 := Lib.hid hE.2.1; have o9 := Lib.hid hE.2.2; have c8 := q8.c17; have f8 := free_of_heap q8.heap 17; have hG := Lib.hid hG; have k08 := Lib.hid ((k03.out.trans k37.out).trans (((Kept.refl (fun _ => False) w7).drewN _).drew.trans hk8)); have hs8 := (((Kept.refl (fun _ => False) w7).drewN nq).drew.trans hk8).size; clear hE q8 hown8 hk8)
    all_goals (
      go_wp2_with (first | (refine wpList_load_agg 33 rfl rfl rfl _ Try.underlying33 rfl G (by rw [hGl.out]; exact node_size) (fun j v hv => by rw [cell_of_heap q9.out, Nat.zero_add]; simpa using hv) ?_) | (refine wpList_store_whole 33 rfl rfl rfl G rfl (by rw [hGl.out]; exact node_size) 33 _ r9.out (by simp [hGl.out, hZl.out]) hG1.out ?_))
      refine bodyPost_ret (results_row_tmp rfl _ _ (w.heap.size + 2) 33 G.toArray (0, 0) _ rfl (setRow_heap _ _ _ _ 33 (0, 0) r9.out) Try.underlying33 rfl (by simp only [List.size_toArray]; rw [hGl.out]; exact node_size)) rfl ?_
      exact ⟨.slice Au C.length cu, by rw [← hG.out]; rfl, owns_weaken (o9.out _) (by have := s3'.out; have := hnb'.out; have := hs5.out; have := hs7.out; omega), ((k08.out).setNew (by show w.heap.size ≤ nb; have := s3'.out; have := hnb'.out; omega) _).setRowNew (by omega) _⟩)
  · go_quiet (fail)
    go_wp2_with fail
    have hcc : Hid (∀ W, Kept (fun _ => False) w7 W → Calls Try.prog 73 #[.slice (some ⟨W.heap.size, 0, none⟩) 3 3] (W.alloc (.cells #[.slice (some ⟨b, off, none⟩) i cap, .slice (some ⟨w6.heap.size, 0, none⟩) 1 1, .slice (some ⟨b, off + (i + 1) * 2, none⟩) (n.ents.length - (i + 1)) (cap - (i + 1))] 31)) fun e w' => ∃ u, e = .returned u ∧ w'.ownsRow w7.heap.size 35 2 u C.length (entCells C) ∧ Kept (fun _ => False) W w') := Lib.hid (fun W kW => by
      have hE := EntsAt.form (show EntsAt w7 (.slice (some ⟨b, off, none⟩) n.ents.length cap) n.ents from SliceAt.of_owns hown7.out)
      have hE7 := SliceAt.fresh (SliceAt.of_owns hown7.out) kW
      rw [← hC]
      refine Calls.mono (?_ : Calls _ _ _ _ fun e w' => ∃ u, e = .returned u ∧ w'.ownsRow (W.heap.size + 1) 35 2 u (n.ents.take i ++ [(x0, x1)] ++ n.ents.drop (i + 1)).length (entCells (n.ents.take i ++ [(x0, x1)] ++ n.ents.drop (i + 1))) ∧ Kept (fun _ => False) W w') fun e w' ⟨u, he, ho, hk⟩ => ⟨u, he, owns_weaken ho (by have := kW.size; omega), hk⟩
      refine concat3 (entsAt_take (m := i) hE7 (by omega) rfl) (SliceAt.block_new (ys := [.int .i64 x0, .int .i64 x1]) (m := 1) (kW.get g7.out id) rfl (by decide)) ?_ (by simp only [List.length_take, List.length_drop, List.length_singleton]; omega)
      exact entsAt_drop (m := i + 1) hE7 (by omega) rfl)
    go_region_law? (rw [if_pos (by rfl)]; go_simp; refine (hcc.out _ (by exact ((Kept.refl _ _).drewN _).drew)).mono ?_; rintro e w8 ⟨u, rfl, hown8, hk8⟩; obtain ⟨Au, cu, rfl, _⟩ := EntsAt.form (show EntsAt w8 u (C) from SliceAt.of_owns hown8); have q8 : NodeBox w8 nb n (.slice (some ⟨b, off, none⟩) n.ents.length cap) := bx7'.out.kept (((Kept.refl (fun _ => False) w7).drewN _).drew.trans hk8) id; have hE := putEnds q8 ((((Kept.refl (fun _ => False) w7).drewN _).drew.trans hk8).get r7.out id) (by have := s3'.out; have := hnb'.out; omega) hown8; obtain ⟨G, hG⟩ : ∃ G, nodeCells { n with ents := C } (.slice Au (C).length cu) = G := ⟨_, rfl⟩; have hGl : Hid (G.length = 18) := Lib.hid (by rw [← hG]; exact nodeCells_len _ _); have hG1 : Hid (∀ v ∈ G, v.oneCell' = true) := Lib.hid (by rw [← hG]; exact nodeCells_one _ _ _ _); have q9 := Lib.hid (show (w8.setCell ⟨nb, 17, none⟩ (.slice Au (C).length cu)).heap[nb]? = some (.cells G.toArray 33 (0, 0)) by rw [← hG]; exact hE.1.heap); have r9 := Lib.hid hE.2.1; have o9 := Lib.hid hE.2.2; have c8 := q8.c17; have f8 := free_of_heap q8.heap 17; have hG := Lib.hid hG; have k08 := Lib.hid ((k03.out.trans k37.out).trans (((Kept.refl (fun _ => False) w7).drewN _).drew.trans hk8)); have hs8 := (((Kept.refl (fun _ => False) w7).drewN nq).drew.trans hk8).size; clear hE q8 hown8 hk8)
    all_goals (
      go_wp2_with (first | (refine wpList_load_agg 33 rfl rfl rfl _ Try.underlying33 rfl G (by rw [hGl.out]; exact node_size) (fun j v hv => by rw [cell_of_heap q9.out, Nat.zero_add]; simpa using hv) ?_) | (refine wpList_store_whole 33 rfl rfl rfl G rfl (by rw [hGl.out]; exact node_size) 33 _ r9.out (by simp [hGl.out, hZl.out]) hG1.out ?_))
      refine bodyPost_ret (results_row_tmp rfl _ _ (w.heap.size + 2) 33 G.toArray (0, 0) _ rfl (setRow_heap _ _ _ _ 33 (0, 0) r9.out) Try.underlying33 rfl (by simp only [List.size_toArray]; rw [hGl.out]; exact node_size)) rfl ?_
      exact ⟨.slice Au C.length cu, by rw [← hG.out]; rfl, owns_weaken (o9.out _) (by have := s3'.out; have := hnb'.out; have := hs5.out; have := hs7.out; omega), ((k08.out).setNew (by show w.heap.size ≤ nb; have := s3'.out; have := hnb'.out; omega) _).setRowNew (by omega) _⟩)
end Go.Proofs.Ythmjcbmeiabbgaa
/-
  Trees (package tree): put: a leaf that has not the key.
-/
namespace Go.Proofs.Ythmjcbmeiabbgaa
open Go.RowKit
set_option maxRecDepth 100000

set_option maxHeartbeats 4000000 in
theorem putLess {w : World} {A : SA} {M : SM} (h : StoreAt w A M) (root : Int) (d : Nat) (hd : d ≤ 8) (x : Int × Int) {n : NM} (hR : M.tnode root d = (n, 0)) (hin0 : InnerOk n) (hk2 : n.kind = 2) {C : List (Int × Int)} (hi : atI n.ents x.1 = -1) (hC : n.ents.take 0 ++ [x] ++ n.ents.drop 0 = C) :
    Calls Try.prog 53 #[.agg #[.pointer (some ⟨A.sb, 0, none⟩)], .int .i64 root, .int .i64 d, .agg #[.int .i64 x.1, .int .i64 x.2]] w fun e w' => ∃ v, e = .returned (.tuple #[.agg (nodeCells { n with ents := C } v).toArray, .int .i64 0]) ∧
      w'.ownsRow w.heap.size 35 2 v C.length (entCells C) ∧ Kept (fun _ => False) w w' := by
  obtain ⟨Z, hZ⟩ : ∃ Z, nodeCells NM.zero (.slice none 0 0) = Z := ⟨_, rfl⟩
  have hZz : Hid ((Try.prog.info? 33).map (·.zero) = some (some (.agg Z.toArray))) := Lib.hid (by rw [← hZ]; exact node_zero)
  have hZl : Hid (Z.length = 18) := Lib.hid (by rw [← hZ]; exact nodeCells_len _ _)
  obtain ⟨w1, hw1⟩ : ∃ w1, w.alloc (.cells #[.pointer (some ⟨A.sb, 0, none⟩)] 26) = w1 := ⟨_, rfl⟩
  obtain ⟨w2, hw2⟩ : ∃ w2, w1.alloc (.cells #[.int .i64 x.1, .int .i64 x.2] 35) = w2 := ⟨_, rfl⟩
  obtain ⟨w3, hw3⟩ : ∃ w3, w2.alloc (.cells Z.toArray 33) = w3 := ⟨_, rfl⟩
  have k1 : Kept (fun _ => False) w w1 := by rw [← hw1]; exact (Kept.refl _ _).alloc _
  have k2 : Kept (fun _ => False) w1 w2 := by rw [← hw2]; exact (Kept.refl _ _).alloc _
  have k3 : Kept (fun _ => False) w2 w3 := by rw [← hw3]; exact (Kept.refl _ _).alloc _
  have s1 : w1.heap.size = w.heap.size + 1 := by rw [← hw1]; simp
  have s2 : w2.heap.size = w.heap.size + 2 := by rw [← hw2]; simp [s1]
  have s3 : w3.heap.size = w.heap.size + 3 := by rw [← hw3]; simp [s2]
  have t3 : w3.heap[w.heap.size]? = some (.cells #[.pointer (some ⟨A.sb, 0, none⟩)] 26 (0, 0)) := (k2.trans k3).get (by rw [← hw1]; exact heap_alloc_new _ _) id
  have x3 : w3.heap[w.heap.size + 1]? = some (.cells #[.int .i64 x.1, .int .i64 x.2] 35 (0, 0)) := k3.get (by rw [← hw2, ← s1]; exact heap_alloc_new _ _) id
  have r3 : w3.heap[w.heap.size + 2]? = some (.cells Z.toArray 33 (0, 0)) := by rw [← hw3, ← s2]; exact heap_alloc_new _ _
  have k03 := Lib.hid ((k1.trans k2).trans k3)
  have hnd := treeNode (h.fresh k03.out) root d (by omega)
  rw [hR] at hnd
  dsimp only at hnd
  have hnd' := Lib.hid hnd
  have h' := Lib.hid h
  have hw1' := Lib.hid hw1
  have hw2' := Lib.hid hw2
  have hw3' := Lib.hid hw3
  have s1' := Lib.hid s1
  have s2' := Lib.hid s2
  have hload3 : Hid (∀ j v, [Value.pointer (some ⟨A.sb, 0, none⟩)][j]? = some v → w3.cell? ⟨w.heap.size, 0 + j, none⟩ = some v) := Lib.hid (fun j v hj => by rw [Nat.zero_add, cell_of_heap t3]; simpa using hj)
  have t3' := Lib.hid t3
  have x3' := Lib.hid x3
  have r3' := Lib.hid r3
  have s3' := Lib.hid s3
  obtain ⟨x0, x1⟩ := x
  dsimp only at *
  clear hw1 hw2 hw3 k1 k2 k3 s1 s2 s3 t3 x3 r3 hnd h hZ hR
  go_enter Try.func53, Try.ntmps53
  go_wp2_with (first | (refine wpList_box_named 26 rfl rfl _ rfl hw1'.out ?_) | (refine wpList_box_named 35 rfl rfl _ rfl hw2'.out ?_; rw [s1'.out]) | (refine wpList_alloc_as 33 rfl rfl Z.toArray hZz.out ?_; rw [hw3'.out, s2'.out]) | (refine wpList_load_agg 26 rfl rfl rfl _ Try.underlying26 rfl [.pointer (some ⟨A.sb, 0, none⟩)] (by kernel_rfl) hload3.out ?_))
  refine hnd'.out.mono ?_
  rintro e w4 ⟨v, rfl, hown, hk4⟩
  obtain ⟨Av, cap, rfl, hf1, hf2⟩ := EntsAt.form (show EntsAt w4 v n.ents from SliceAt.of_owns hown)
  obtain ⟨F, hF⟩ : ∃ F, nodeCells n (.slice Av n.ents.length cap) = F := ⟨_, rfl⟩
  have hFl : Hid (F.length = 18) := Lib.hid (by rw [← hF]; exact nodeCells_len _ _)
  have hF1 : Hid (∀ v ∈ F, v.oneCell' = true) := Lib.hid (by rw [← hF]; exact nodeCells_one _ _ _ _)
  obtain ⟨nb, hnb⟩ : ∃ nb, w4.heap.size = nb := ⟨_, rfl⟩
  obtain ⟨w5, hw5⟩ : ∃ w5, (w4.alloc (.cells Z.toArray 33)).setRow nb F.toArray = w5 := ⟨_, rfl⟩
  have k5 : Kept (fun _ => False) w4 w5 := by rw [← hw5]; exact ((Kept.refl _ _).alloc _).setRowNew (by omega) _
  have bx5 : NodeBox w5 nb n (.slice Av n.ents.length cap) := ⟨by rw [hF, ← hw5, ← hnb]; exact setRow_heap _ _ _ _ _ _ (heap_alloc_new _ _)⟩
  have hown5 := Lib.hid (ownsRow.keptOf hown k5 (fun _ _ => id))
  have k35 := Lib.hid (hk4.trans k5)
  have t5 := Lib.hid (k35.out.get t3'.out id)
  have x5 := Lib.hid (k35.out.get x3'.out id)
  have r5 := Lib.hid (k35.out.get r3'.out id)
  have q5 := Lib.hid (show w5.heap[nb]? = some (.cells F.toArray 33 (0, 0)) by rw [← hF]; exact bx5.heap)
  have hs4 := hk4.size
  have hs5 : Hid (w5.heap.size = nb + 1) := Lib.hid (by rw [← hw5, ← hnb]; simp [World.setRow])
  rw [hF]
  have bx5' := Lib.hid bx5
  have hw5' := Lib.hid hw5
  have hnb' := Lib.hid hnb
  have hF' := Lib.hid hF
  have hb5 : Hid (∀ b, (Value.slice Av n.ents.length cap).ownBlock = some b → b < nb) := Lib.hid (fun b hb => by have := (hown.lt b hb).2; omega)
  clear hown hk4 k5 hw5 bx5 hnb hF
  have hk2' := Lib.hid hk2
  have hin := innerOk_of (show n.ok from hin0.ok) (by have := hin0.kind; omega)
  have hlen6 := hin.le
  have hab := atI_bound (l := n.ents) x0
  have hat := at_any (show EntsAt w5 (.slice Av n.ents.length cap) n.ents from SliceAt.of_owns hown5.out) hin.keys x0 (by omega)
  obtain ⟨a, ha⟩ : ∃ a, atI n.ents x0 = a := ⟨_, rfl⟩
  rw [ha] at hat hab
  have hat' := Lib.hid hat
  have c17 := bx5'.out.c17
  have cx0 := cell_of_heap x5.out 0
  simp at cx0
  unfold maxLen at hf2
  obtain ⟨hab1, hab2⟩ := hab
  have hwa : IntKind.i64.wrap (a + 1) = a + 1 := by rw [IntKind.wrap_i64]; omega
  clear hat hin hin0 hk2
  go_wp2_with (first | (refine wpList_alloc_as 33 rfl rfl Z.toArray hZz.out ?_; rw [hnb'.out]) | (refine wpList_store_whole 33 rfl rfl rfl F rfl (by rw [hFl.out]; exact node_size) 33 _ (by rw [← hnb'.out]; exact heap_alloc_new _ _) (by simp [hFl.out, hZl.out]) hF1.out ?_; rw [hw5'.out]))
  refine hat'.out.mono ?_
  rintro e w6 ⟨rfl, hk6⟩
  have hk6' := Lib.hid hk6
  have k36 := Lib.hid (k35.out.trans hk6)
  have t6 := Lib.hid (hk6.get t5.out id)
  have x6 := hk6.get x5.out id
  have x6' := Lib.hid x6
  have hown6 := Lib.hid (ownsRow.keptOf hown5.out hk6 (fun _ _ => id))
  have bx6 := bx5'.out.kept hk6 id
  have bx6' := Lib.hid bx6
  have r6 := Lib.hid (hk6.get r5.out id)
  have hs6 := hk6.size
  have hne7 : nb ≠ w6.heap.size := by have := hs5.out; omega
  have hloadx : Hid (∀ j v, [Value.int .i64 x0, .int .i64 x1][j]? = some v → w6.cell? ⟨w.heap.size + 1, 0 + j, none⟩ = some v) := Lib.hid (fun j v hj => by rw [Nat.zero_add, cell_of_heap x6'.out]; simpa using hj)
  obtain ⟨w7, hw7⟩ : ∃ w7, w6.alloc (.cells #[.int .i64 x0, .int .i64 x1] 35) = w7 := ⟨_, rfl⟩
  have hw7' := Lib.hid hw7
  have k7 : Kept (fun _ => False) w6 w7 := by rw [← hw7]; exact (Kept.refl _ _).alloc _
  have g7 := Lib.hid (show w7.heap[w6.heap.size]? = some (.cells #[.int .i64 x0, .int .i64 x1] 35 (0, 0)) by rw [← hw7]; exact heap_alloc_new _ _)
  have k37 := Lib.hid (k36.out.trans k7)
  have bx7 := bx6.kept k7 id
  have bx7' := Lib.hid bx7
  have c17_7 := bx7.c17
  have c0_7 := bx7.c0
  rw [← hw7, hk2'.out] at c0_7
  have x7 := k7.get x6 id
  have x7' := Lib.hid x7
  have cx7 := cell_of_heap x7 0
  simp at cx7
  have t7 := Lib.hid (k7.get t6.out id)
  have r7 := Lib.hid (k7.get r6.out id)
  have hown7 := Lib.hid (ownsRow.keptOf hown6.out k7 (fun _ _ => id))
  have hs7 : Hid (w7.heap.size = w6.heap.size + 1) := Lib.hid (by rw [← hw7]; simp)
  have k7' := Lib.hid k7
  clear hk6 bx6 x6 hw7 k7 bx7 x7
  obtain rfl : a = -1 := by omega
  clear hi ha
  go_wp2_with (first | (refine wpList_load_agg 35 rfl rfl rfl _ Try.underlying35 rfl [.int .i64 x0, .int .i64 x1] (by kernel_rfl) hloadx.out ?_))
  rw [hw7'.out]
  go_quiet (fail)
  have hI := insertEnt (base := w3.heap.size) (w := w7.drewN nq) (ownsRow.keptOf hown7.out ((Kept.refl (fun _ => False) w7).drewN nq) (fun _ _ => id)) (i := 0) (g := w6.heap.size) (x := (x0, x1)) (by exact g7.out) (by show w3.heap.size ≤ w7.heap.size; have := k37.out.size; omega) (fun e => by have h1 := (hown6.out.lt _ e).2; omega) (by omega) (by omega)
  rw [hC] at hI
  rw [show n.ents.length + 1 = C.length by rw [← hC]; simp only [List.length_append, List.length_take, List.length_drop, List.length_singleton]; omega] at hI
  have hI := Lib.hid hI
  go_wp2_with fail
  refine hI.out.mono ?_
  rintro e w8 ⟨u, rfl, hown8, hk8⟩
  obtain ⟨Au, cu, rfl, _⟩ := EntsAt.form (show EntsAt w8 u (C) from SliceAt.of_owns hown8)
  have q8 : NodeBox w8 nb n (.slice Av n.ents.length cap) := bx7'.out.kept (((Kept.refl (fun bb => (Value.slice Av n.ents.length cap).ownBlock = some bb) w7).drewN nq).trans hk8) (fun e => by have h1 := (hown7.out.lt _ e); have h2 := hown5.out.lt _ e; have := hb5.out _ e; omega)
  have hE := putEnds q8 ((((Kept.refl (fun bb => (Value.slice Av n.ents.length cap).ownBlock = some bb) w7).drewN nq).trans hk8).get r7.out (fun e => by have := (hown7.out.lt _ e).1; have := s3'.out; omega)) (by have := s3'.out; have := hnb'.out; omega) hown8
  obtain ⟨G, hG⟩ : ∃ G, nodeCells { n with ents := C } (.slice Au (C).length cu) = G := ⟨_, rfl⟩
  have hGl : Hid (G.length = 18) := Lib.hid (by rw [← hG]; exact nodeCells_len _ _)
  have hG1 : Hid (∀ v ∈ G, v.oneCell' = true) := Lib.hid (by rw [← hG]; exact nodeCells_one _ _ _ _)
  have q9 := Lib.hid (show (w8.setCell ⟨nb, 17, none⟩ (.slice Au (C).length cu)).heap[nb]? = some (.cells G.toArray 33 (0, 0)) by rw [← hG]; exact hE.1.heap)
  have r9 := Lib.hid hE.2.1
  have o9 := Lib.hid hE.2.2
  have c8 := q8.c17
  have f8 := free_of_heap q8.heap 17
  have hG := Lib.hid hG
  have k08 := Lib.hid ((k03.out.trans k37.out).trans_new (((Kept.refl (fun bb => (Value.slice Av n.ents.length cap).ownBlock = some bb) w7).drewN nq).trans hk8) (fun j hj e => by have := (hown7.out.lt _ e).1; have := s3'.out; omega))
  have hs8 := hk8.size
  have hs9 : Hid ((w7.drewN nq).heap.size = w7.heap.size) := Lib.hid rfl
  clear hI hE q8 hown8 hk8
  go_wp2_with (first | (refine wpList_load_agg 33 rfl rfl rfl _ Try.underlying33 rfl G (by rw [hGl.out]; exact node_size) (fun j v hv => by rw [cell_of_heap q9.out, Nat.zero_add]; simpa using hv) ?_) | (refine wpList_store_whole 33 rfl rfl rfl G rfl (by rw [hGl.out]; exact node_size) 33 _ r9.out (by simp [hGl.out, hZl.out]) hG1.out ?_))
  refine bodyPost_ret (results_row_tmp rfl _ _ (w.heap.size + 2) 33 G.toArray (0, 0) _ rfl (setRow_heap _ _ _ _ 33 (0, 0) r9.out) Try.underlying33 rfl (by simp only [List.size_toArray]; rw [hGl.out]; exact node_size)) rfl ?_
  exact ⟨.slice Au C.length cu, by rw [← hG.out]; rfl, owns_weaken (o9.out _) (by have := s3'.out; omega), ((k08.out).setNew (by show w.heap.size ≤ nb; have := s3'.out; have := hnb'.out; omega) _).setRowNew (by omega) _⟩

set_option maxHeartbeats 4000000 in
theorem putMore {w : World} {A : SA} {M : SM} (h : StoreAt w A M) (root : Int) (d : Nat) (hd : d ≤ 8) (x : Int × Int) {n : NM} (hR : M.tnode root d = (n, 0)) (hin0 : InnerOk n) (hk2 : n.kind = 2) {C : List (Int × Int)} {i : Nat} (hi : atI n.ents x.1 = i) (hother : ¬ (n.ents.getD i (0, 0)).1 = x.1) (hC : n.ents.take (i + 1) ++ [x] ++ n.ents.drop (i + 1) = C) :
    Calls Try.prog 53 #[.agg #[.pointer (some ⟨A.sb, 0, none⟩)], .int .i64 root, .int .i64 d, .agg #[.int .i64 x.1, .int .i64 x.2]] w fun e w' => ∃ v, e = .returned (.tuple #[.agg (nodeCells { n with ents := C } v).toArray, .int .i64 0]) ∧
      w'.ownsRow w.heap.size 35 2 v C.length (entCells C) ∧ Kept (fun _ => False) w w' := by
  obtain ⟨Z, hZ⟩ : ∃ Z, nodeCells NM.zero (.slice none 0 0) = Z := ⟨_, rfl⟩
  have hZz : Hid ((Try.prog.info? 33).map (·.zero) = some (some (.agg Z.toArray))) := Lib.hid (by rw [← hZ]; exact node_zero)
  have hZl : Hid (Z.length = 18) := Lib.hid (by rw [← hZ]; exact nodeCells_len _ _)
  obtain ⟨w1, hw1⟩ : ∃ w1, w.alloc (.cells #[.pointer (some ⟨A.sb, 0, none⟩)] 26) = w1 := ⟨_, rfl⟩
  obtain ⟨w2, hw2⟩ : ∃ w2, w1.alloc (.cells #[.int .i64 x.1, .int .i64 x.2] 35) = w2 := ⟨_, rfl⟩
  obtain ⟨w3, hw3⟩ : ∃ w3, w2.alloc (.cells Z.toArray 33) = w3 := ⟨_, rfl⟩
  have k1 : Kept (fun _ => False) w w1 := by rw [← hw1]; exact (Kept.refl _ _).alloc _
  have k2 : Kept (fun _ => False) w1 w2 := by rw [← hw2]; exact (Kept.refl _ _).alloc _
  have k3 : Kept (fun _ => False) w2 w3 := by rw [← hw3]; exact (Kept.refl _ _).alloc _
  have s1 : w1.heap.size = w.heap.size + 1 := by rw [← hw1]; simp
  have s2 : w2.heap.size = w.heap.size + 2 := by rw [← hw2]; simp [s1]
  have s3 : w3.heap.size = w.heap.size + 3 := by rw [← hw3]; simp [s2]
  have t3 : w3.heap[w.heap.size]? = some (.cells #[.pointer (some ⟨A.sb, 0, none⟩)] 26 (0, 0)) := (k2.trans k3).get (by rw [← hw1]; exact heap_alloc_new _ _) id
  have x3 : w3.heap[w.heap.size + 1]? = some (.cells #[.int .i64 x.1, .int .i64 x.2] 35 (0, 0)) := k3.get (by rw [← hw2, ← s1]; exact heap_alloc_new _ _) id
  have r3 : w3.heap[w.heap.size + 2]? = some (.cells Z.toArray 33 (0, 0)) := by rw [← hw3, ← s2]; exact heap_alloc_new _ _
  have k03 := Lib.hid ((k1.trans k2).trans k3)
  have hnd := treeNode (h.fresh k03.out) root d (by omega)
  rw [hR] at hnd
  dsimp only at hnd
  have hnd' := Lib.hid hnd
  have h' := Lib.hid h
  have hw1' := Lib.hid hw1
  have hw2' := Lib.hid hw2
  have hw3' := Lib.hid hw3
  have s1' := Lib.hid s1
  have s2' := Lib.hid s2
  have hload3 : Hid (∀ j v, [Value.pointer (some ⟨A.sb, 0, none⟩)][j]? = some v → w3.cell? ⟨w.heap.size, 0 + j, none⟩ = some v) := Lib.hid (fun j v hj => by rw [Nat.zero_add, cell_of_heap t3]; simpa using hj)
  have t3' := Lib.hid t3
  have x3' := Lib.hid x3
  have r3' := Lib.hid r3
  have s3' := Lib.hid s3
  obtain ⟨x0, x1⟩ := x
  dsimp only at *
  clear hw1 hw2 hw3 k1 k2 k3 s1 s2 s3 t3 x3 r3 hnd h hZ hR
  go_enter Try.func53, Try.ntmps53
  go_wp2_with (first | (refine wpList_box_named 26 rfl rfl _ rfl hw1'.out ?_) | (refine wpList_box_named 35 rfl rfl _ rfl hw2'.out ?_; rw [s1'.out]) | (refine wpList_alloc_as 33 rfl rfl Z.toArray hZz.out ?_; rw [hw3'.out, s2'.out]) | (refine wpList_load_agg 26 rfl rfl rfl _ Try.underlying26 rfl [.pointer (some ⟨A.sb, 0, none⟩)] (by kernel_rfl) hload3.out ?_))
  refine hnd'.out.mono ?_
  rintro e w4 ⟨v, rfl, hown, hk4⟩
  obtain ⟨Av, cap, rfl, hf1, hf2⟩ := EntsAt.form (show EntsAt w4 v n.ents from SliceAt.of_owns hown)
  obtain ⟨F, hF⟩ : ∃ F, nodeCells n (.slice Av n.ents.length cap) = F := ⟨_, rfl⟩
  have hFl : Hid (F.length = 18) := Lib.hid (by rw [← hF]; exact nodeCells_len _ _)
  have hF1 : Hid (∀ v ∈ F, v.oneCell' = true) := Lib.hid (by rw [← hF]; exact nodeCells_one _ _ _ _)
  obtain ⟨nb, hnb⟩ : ∃ nb, w4.heap.size = nb := ⟨_, rfl⟩
  obtain ⟨w5, hw5⟩ : ∃ w5, (w4.alloc (.cells Z.toArray 33)).setRow nb F.toArray = w5 := ⟨_, rfl⟩
  have k5 : Kept (fun _ => False) w4 w5 := by rw [← hw5]; exact ((Kept.refl _ _).alloc _).setRowNew (by omega) _
  have bx5 : NodeBox w5 nb n (.slice Av n.ents.length cap) := ⟨by rw [hF, ← hw5, ← hnb]; exact setRow_heap _ _ _ _ _ _ (heap_alloc_new _ _)⟩
  have hown5 := Lib.hid (ownsRow.keptOf hown k5 (fun _ _ => id))
  have k35 := Lib.hid (hk4.trans k5)
  have t5 := Lib.hid (k35.out.get t3'.out id)
  have x5 := Lib.hid (k35.out.get x3'.out id)
  have r5 := Lib.hid (k35.out.get r3'.out id)
  have q5 := Lib.hid (show w5.heap[nb]? = some (.cells F.toArray 33 (0, 0)) by rw [← hF]; exact bx5.heap)
  have hs4 := hk4.size
  have hs5 : Hid (w5.heap.size = nb + 1) := Lib.hid (by rw [← hw5, ← hnb]; simp [World.setRow])
  rw [hF]
  have bx5' := Lib.hid bx5
  have hw5' := Lib.hid hw5
  have hnb' := Lib.hid hnb
  have hF' := Lib.hid hF
  have hb5 : Hid (∀ b, (Value.slice Av n.ents.length cap).ownBlock = some b → b < nb) := Lib.hid (fun b hb => by have := (hown.lt b hb).2; omega)
  clear hown hk4 k5 hw5 bx5 hnb hF
  have hk2' := Lib.hid hk2
  have hil : i < n.ents.length := by have := (atI_bound (l := n.ents) x0).2; omega
  obtain ⟨y, hy⟩ : ∃ y, n.ents[i]? = some y := ⟨_, List.getElem?_eq_getElem hil⟩
  have hy0 : (y.1 == x0) = false := by simpa [hy] using hother
  have hin := innerOk_of (show n.ok from hin0.ok) (by have := hin0.kind; omega)
  have hlen6 := hin.le
  have hab := atI_bound (l := n.ents) x0
  have hat := at_any (show EntsAt w5 (.slice Av n.ents.length cap) n.ents from SliceAt.of_owns hown5.out) hin.keys x0 (by omega)
  obtain ⟨a, ha⟩ : ∃ a, atI n.ents x0 = a := ⟨_, rfl⟩
  rw [ha] at hat hab
  have hat' := Lib.hid hat
  have c17 := bx5'.out.c17
  have cx0 := cell_of_heap x5.out 0
  simp at cx0
  unfold maxLen at hf2
  obtain ⟨hab1, hab2⟩ := hab
  have hwa : IntKind.i64.wrap (a + 1) = a + 1 := by rw [IntKind.wrap_i64]; omega
  clear hat hin hin0 hk2
  go_wp2_with (first | (refine wpList_alloc_as 33 rfl rfl Z.toArray hZz.out ?_; rw [hnb'.out]) | (refine wpList_store_whole 33 rfl rfl rfl F rfl (by rw [hFl.out]; exact node_size) 33 _ (by rw [← hnb'.out]; exact heap_alloc_new _ _) (by simp [hFl.out, hZl.out]) hF1.out ?_; rw [hw5'.out]))
  refine hat'.out.mono ?_
  rintro e w6 ⟨rfl, hk6⟩
  have hk6' := Lib.hid hk6
  have k36 := Lib.hid (k35.out.trans hk6)
  have t6 := Lib.hid (hk6.get t5.out id)
  have x6 := hk6.get x5.out id
  have x6' := Lib.hid x6
  have hown6 := Lib.hid (ownsRow.keptOf hown5.out hk6 (fun _ _ => id))
  have bx6 := bx5'.out.kept hk6 id
  have bx6' := Lib.hid bx6
  have r6 := Lib.hid (hk6.get r5.out id)
  have hs6 := hk6.size
  have hne7 : nb ≠ w6.heap.size := by have := hs5.out; omega
  have hloadx : Hid (∀ j v, [Value.int .i64 x0, .int .i64 x1][j]? = some v → w6.cell? ⟨w.heap.size + 1, 0 + j, none⟩ = some v) := Lib.hid (fun j v hj => by rw [Nat.zero_add, cell_of_heap x6'.out]; simpa using hj)
  obtain ⟨w7, hw7⟩ : ∃ w7, w6.alloc (.cells #[.int .i64 x0, .int .i64 x1] 35) = w7 := ⟨_, rfl⟩
  have hw7' := Lib.hid hw7
  have k7 : Kept (fun _ => False) w6 w7 := by rw [← hw7]; exact (Kept.refl _ _).alloc _
  have g7 := Lib.hid (show w7.heap[w6.heap.size]? = some (.cells #[.int .i64 x0, .int .i64 x1] 35 (0, 0)) by rw [← hw7]; exact heap_alloc_new _ _)
  have k37 := Lib.hid (k36.out.trans k7)
  have bx7 := bx6.kept k7 id
  have bx7' := Lib.hid bx7
  have c17_7 := bx7.c17
  have c0_7 := bx7.c0
  rw [← hw7, hk2'.out] at c0_7
  have x7 := k7.get x6 id
  have x7' := Lib.hid x7
  have cx7 := cell_of_heap x7 0
  simp at cx7
  have t7 := Lib.hid (k7.get t6.out id)
  have r7 := Lib.hid (k7.get r6.out id)
  have hown7 := Lib.hid (ownsRow.keptOf hown6.out k7 (fun _ _ => id))
  have hs7 : Hid (w7.heap.size = w6.heap.size + 1) := Lib.hid (by rw [← hw7]; simp)
  have k7' := Lib.hid k7
  clear hk6 bx6 x6 hw7 k7 bx7 x7
  have hai : a = i := by omega
  subst hai
  obtain ⟨b, off, rfl, hbl, cy7, _⟩ := EntsAt.get (show EntsAt w7 (.slice Av n.ents.length cap) n.ents from SliceAt.of_owns hown7.out) hy
  have hi1 : (i : Int) < (n.ents.length : Int) := by omega
  clear hy hother hi ha
  go_wp2_with (first | (refine wpList_load_agg 35 rfl rfl rfl _ Try.underlying35 rfl [.int .i64 x0, .int .i64 x1] (by kernel_rfl) hloadx.out ?_))
  rw [hw7'.out]
  go_quiet (fail)
  have hI := insertEnt (base := w3.heap.size) (w := w7.drewN nq) (ownsRow.keptOf hown7.out ((Kept.refl (fun _ => False) w7).drewN nq) (fun _ _ => id)) (i := (i + 1)) (g := w6.heap.size) (x := (x0, x1)) (by exact g7.out) (by show w3.heap.size ≤ w7.heap.size; have := k37.out.size; omega) (fun e => by have h1 := (hown6.out.lt _ e).2; omega) (by omega) (by omega)
  rw [hC] at hI
  rw [Int.natCast_add, Int.natCast_one] at hI
  rw [show n.ents.length + 1 = C.length by rw [← hC]; simp only [List.length_append, List.length_take, List.length_drop, List.length_singleton]; omega] at hI
  have hI := Lib.hid hI
  go_wp2_with fail
  refine hI.out.mono ?_
  rintro e w8 ⟨u, rfl, hown8, hk8⟩
  obtain ⟨Au, cu, rfl, _⟩ := EntsAt.form (show EntsAt w8 u (C) from SliceAt.of_owns hown8)
  have q8 : NodeBox w8 nb n (.slice (some ⟨b, off, none⟩) n.ents.length cap) := bx7'.out.kept (((Kept.refl (fun bb => (Value.slice (some ⟨b, off, none⟩) n.ents.length cap).ownBlock = some bb) w7).drewN nq).trans hk8) (fun e => by have h1 := (hown7.out.lt _ e); have h2 := hown5.out.lt _ e; have := hb5.out _ e; omega)
  have hE := putEnds q8 ((((Kept.refl (fun bb => (Value.slice (some ⟨b, off, none⟩) n.ents.length cap).ownBlock = some bb) w7).drewN nq).trans hk8).get r7.out (fun e => by have := (hown7.out.lt _ e).1; have := s3'.out; omega)) (by have := s3'.out; have := hnb'.out; omega) hown8
  obtain ⟨G, hG⟩ : ∃ G, nodeCells { n with ents := C } (.slice Au (C).length cu) = G := ⟨_, rfl⟩
  have hGl : Hid (G.length = 18) := Lib.hid (by rw [← hG]; exact nodeCells_len _ _)
  have hG1 : Hid (∀ v ∈ G, v.oneCell' = true) := Lib.hid (by rw [← hG]; exact nodeCells_one _ _ _ _)
  have q9 := Lib.hid (show (w8.setCell ⟨nb, 17, none⟩ (.slice Au (C).length cu)).heap[nb]? = some (.cells G.toArray 33 (0, 0)) by rw [← hG]; exact hE.1.heap)
  have r9 := Lib.hid hE.2.1
  have o9 := Lib.hid hE.2.2
  have c8 := q8.c17
  have f8 := free_of_heap q8.heap 17
  have hG := Lib.hid hG
  have k08 := Lib.hid ((k03.out.trans k37.out).trans_new (((Kept.refl (fun bb => (Value.slice (some ⟨b, off, none⟩) n.ents.length cap).ownBlock = some bb) w7).drewN nq).trans hk8) (fun j hj e => by have := (hown7.out.lt _ e).1; have := s3'.out; omega))
  have hs8 := hk8.size
  have hs9 : Hid ((w7.drewN nq).heap.size = w7.heap.size) := Lib.hid rfl
  clear hI hE q8 hown8 hk8
  go_wp2_with (first | (refine wpList_load_agg 33 rfl rfl rfl _ Try.underlying33 rfl G (by rw [hGl.out]; exact node_size) (fun j v hv => by rw [cell_of_heap q9.out, Nat.zero_add]; simpa using hv) ?_) | (refine wpList_store_whole 33 rfl rfl rfl G rfl (by rw [hGl.out]; exact node_size) 33 _ r9.out (by simp [hGl.out, hZl.out]) hG1.out ?_))
  refine bodyPost_ret (results_row_tmp rfl _ _ (w.heap.size + 2) 33 G.toArray (0, 0) _ rfl (setRow_heap _ _ _ _ 33 (0, 0) r9.out) Try.underlying33 rfl (by simp only [List.size_toArray]; rw [hGl.out]; exact node_size)) rfl ?_
  exact ⟨.slice Au C.length cu, by rw [← hG.out]; rfl, owns_weaken (o9.out _) (by have := s3'.out; omega), ((k08.out).setNew (by show w.heap.size ≤ nb; have := s3'.out; have := hnb'.out; omega) _).setRowNew (by omega) _⟩
end Go.Proofs.Ythmjcbmeiabbgaa
/-
  slices.Delete at entries: one of them.
-/
namespace Go.Proofs.Ythmjcbmeiabbgaa
open Go.RowKit
set_option maxRecDepth 100000

theorem entCells_take {cur : List Value} {l : List (Int × Int)} {n i : Nat} (hn : n = l.length) (hi : i ≤ n) (hc : cur.take (n * 2) = entCells l) : cur.take (i * 2) = entCells (l.take i) := by
  have : (cur.take (n * 2)).take (i * 2) = (entCells l).take (i * 2) := by rw [hc]
  rw [List.take_take, Nat.min_eq_left (by omega)] at this
  rw [this, show entCells l = entCells (l.take i) ++ entCells (l.drop i) by rw [← entCells_append, List.take_append_drop], List.take_left' (by rw [entCells_len, List.length_take]; omega)]
theorem run_clear_one (w : World) (ty : TypeId) (g k c : Nat) (cur : List Value) (hg : w.heap[g]? = some (.cells cur.toArray 35 (0, 0))) (hfit : k * 2 + 2 ≤ cur.length) :
    (Builtin.clear_ #[31] ty #[.slice (some ⟨g, k * 2, none⟩) 1 c]).run Try.prog w = .ok (.tuple #[]) (w.setRow g (cur.take (k * 2) ++ entCells [(0, 0)] ++ cur.drop (k * 2 + 2)).toArray) := by
  have hst := run_storeCells_at Try.prog g (k * 2) 35 (entCells [(0, 0)]) 0 cur.toArray w hg (by simp [entCells]; omega) (entCells_one _)
  obtain ⟨i, z, hq, hz, hi, _⟩ := elemEntry.info
  have hz2 : i.zero = some (.agg #[.int .i64 0, .int .i64 0]) := by
    have : (Try.prog.info? 35).map (fun i => (i.zero, i.size, i.bytes)) = some (some (.agg #[.int .i64 0, .int .i64 0]), 2, 16) := by kernel_rfl
    rw [hq] at this
    simp at this
    exact this.1
  have e1 : (Builtin.zeroCells (Value.agg #[.int .i64 0, .int .i64 0]).cells 1).toList = entCells [(0, 0)] := by kernel_rfl
  have e2 : (entCells [((0 : Int), (0 : Int))]).length = 2 := rfl
  rw [e2] at hst
  simp only [Nat.add_zero, List.toList_toArray] at hst
  have hz3 : (Builtin.zeroCells (Value.agg #[.int .i64 0, .int .i64 0]).cells 1) = (entCells [(0, 0)]).toArray := by rw [← e1]
  simp [Builtin.clear_, run_underlying elemEntry.ht, zeroValue, typeInfo, hq, hz2, e1, hst]
theorem wpList_clear_known (w : World) {ops : Array Oper} {rest : List Oper} {o : Oper} {a : Act} {Q : Exit → Act → World → Prop} (hgd : o.guard = none) (s : Operand) (t : TypeId)
    (ho : o.op = .call { callee := .builtin .clear, args := #[s], argTypes := #[t] }) (v : Value) (hs : a.eval s = v) {v' : Value} {w' : World}
    (hr : (Builtin.clear_ #[t] o.type #[v]).run Try.prog w = .ok v' w') (h : wpList Try.prog ops Q rest (a.put o.dst v') w') : wpList Try.prog ops Q (o :: rest) a w :=
  wpList_plain hgd fun _ hK => by
    unfold Oper.wp
    simp [execOp, ho, resolve, invoke, builtin, hs, hr, Result.andThen]
    exact hK _ _ h
theorem step_append_known (w : World) {ops : Array Oper} {o : Oper} {a : Act} {K : Act → World → Prop} {Q : Exit → Act → World → Prop} {E : Prop}
    (hg : o.guard = none) (d x : Operand) (t t' : TypeId) (ho : o.op = .call { callee := .builtin .append, args := #[d, x], argTypes := #[t, t'] })
    (v u : Value) (hd : a.eval d = v) (hx : a.eval x = u) {v' : Value} {w' : World} (hr : (Builtin.append_ #[t, t'] o.type #[v, u]).run Try.prog w = .ok v' w') (hK : K (a.put o.dst v') w') :
    if Region.wanted o (yielded ops a.tmps) = true then Oper.wp Try.prog o a w K Q else E := by
  rw [if_pos (by simp [Region.wanted, hg])]
  unfold Oper.wp
  simp [execOp, ho, resolve, invoke, builtin, hd, hx, hr, Result.andThen]
  exact hK

set_option maxHeartbeats 4000000 in
theorem deleteEnt {w : World} {base n cap gb i : Nat} {cur : List Value} {l : List (Int × Int)} (hcur : w.heap[gb]? = some (.cells cur.toArray 35 (0, 0))) (hcl : cur.length = cap * 2) (hc : cur.take (n * 2) = entCells l) (hn : n = l.length) (hb : base ≤ gb) (hcap : cap ≤ maxLen)
    (hi : i < n) (hroom : n ≤ cap) (hlen : n ≤ 1000) :
    Calls Try.prog 80 #[.slice (some ⟨gb, 0, none⟩) n cap, .int .i64 i, .int .i64 ((i : Int) + 1)] w fun e w' => e = .returned (.slice (some ⟨gb, 0, none⟩) (n - 1) cap) ∧ w'.ownsRow base 35 2 (.slice (some ⟨gb, 0, none⟩) (n - 1) cap) (n - 1) (entCells (l.take i ++ l.drop (i + 1))) ∧ Kept (fun b => b = gb) w w' := by
  obtain ⟨D, hD⟩ : ∃ D, entCells (l.drop (i + 1)) = D := ⟨_, rfl⟩
  have hDl : D.length = (n - (i + 1)) * 2 := by rw [← hD, entCells_len, List.length_drop, hn]
  have hD1 : ∀ c ∈ D, c.oneCell' = true := by rw [← hD]; exact entCells_one _
  have hT := entCells_take hn (show i ≤ n by omega) hc
  have hTl : (entCells (l.take i)).length = i * 2 := by rw [entCells_len, List.length_take]; omega
  have hcell : ∀ j v, D[j]? = some v → w.cell? ⟨gb, (i + 1) * 2 + j, none⟩ = some v := fun j v hj => by
    have e : entCells l = entCells (l.take (i + 1)) ++ D := by rw [← hD, ← entCells_append, List.take_append_drop]
    have hj2 := (List.getElem?_eq_some_iff.1 hj).1
    rw [cell_of_heap hcur, List.getElem?_toArray]
    have h2 : (cur.take (n * 2))[(i + 1) * 2 + j]? = some v := by
      rw [hc, e, List.getElem?_append_right (by rw [entCells_len, List.length_take]; omega), entCells_len, List.length_take, show (i + 1) * 2 + j - min (i + 1) l.length * 2 = j by omega]
      exact hj
    rw [List.getElem?_take] at h2
    split at h2
    · exact h2
    · cases h2
  obtain ⟨it, z, hq, hz, hit, _⟩ := elemEntry.info
  obtain ⟨c1, hc1⟩ : ∃ c1, cur.take (i * 2) ++ D ++ cur.drop (i * 2 + D.length) = c1 := ⟨_, rfl⟩
  have hc1l : c1.length = cap * 2 := by rw [← hc1]; simp only [List.length_append, List.length_take, List.length_drop]; omega
  obtain ⟨W1, hW1⟩ : ∃ W1, w.drew.setRow gb c1.toArray = W1 := ⟨_, rfl⟩
  have hap : ∀ ty a c, (∀ j v, D[j]? = some v → w.cell? (a.add j) = some v) → (Builtin.append_ #[31, 31] ty #[.slice (some ⟨gb, 0, none⟩) i cap, .slice (some a) (n - (i + 1)) c]).run Try.prog w.drew = .ok (.slice (some ⟨gb, 0, none⟩) (n - 1) cap) W1 := fun ty a c ha => by
    have := run_append_room (P := Try.prog) w.drew 31 ty 35 it elemEntry.ht hq gb i cap cur.toArray hcur a (n - (i + 1)) c D (by rw [hit]; exact hDl) ha hD1 (by omega) (by rw [hit]; simp only [List.size_toArray]; omega)
    rw [hit, List.toList_toArray, hc1, hW1, show i + (n - (i + 1)) = n - 1 by omega] at this
    exact this
  have hh1 : W1.heap[gb]? = some (.cells c1.toArray 35 (0, 0)) := by
    rw [← hW1]
    exact setRow_heap w.drew gb cur.toArray c1.toArray 35 (0, 0) hcur
  obtain ⟨c2, hc2⟩ : ∃ c2, c1.take ((n - 1) * 2) ++ entCells [(0, 0)] ++ c1.drop ((n - 1) * 2 + 2) = c2 := ⟨_, rfl⟩
  obtain ⟨W2, hW2⟩ : ∃ W2, W1.setRow gb c2.toArray = W2 := ⟨_, rfl⟩
  have hcr : ∀ ty c, (Builtin.clear_ #[31] ty #[.slice (some ⟨gb, (n - 1) * 2, none⟩) 1 c]).run Try.prog W1 = .ok (.tuple #[]) W2 := fun ty c => by
    have := run_clear_one W1 ty gb (n - 1) c c1 hh1 (by omega)
    rw [hc2, hW2] at this
    exact this
  have hh2 : W2.heap[gb]? = some (.cells c2.toArray 35 (0, 0)) := by
    rw [← hW2]
    exact setRow_heap W1 gb c1.toArray c2.toArray 35 (0, 0) hh1
  have hc2l : c2.length = cap * 2 := by
    rw [← hc2]; simp only [List.length_append, List.length_take, List.length_drop, entCells_len, List.length_singleton]; omega
  have hk : Hid (Kept (fun b => b = gb) w W2) := Lib.hid (by
    rw [← hW2, ← hW1]
    exact ((Kept.refl (fun b => b = gb) w).drew.setRow rfl _).setRow rfl _)
  have hown : Hid (W2.ownsRow base 35 2 (.slice (some ⟨gb, 0, none⟩) (n - 1) cap) (n - 1) (entCells (l.take i ++ l.drop (i + 1)))) := Lib.hid (by
    refine ⟨by rw [entCells_len]; simp only [List.length_append, List.length_take, List.length_drop]; omega, .inr ⟨gb, cap, c2.toArray, rfl, hb, hh2, by omega, hcap, by rw [List.size_toArray, hc2l], ?_⟩⟩
    rw [List.toList_toArray, ← hc2, ← hc1, hT, entCells_append, hD]
    have e1 : ∀ R : List Value, (entCells (l.take i) ++ D ++ R).take ((n - 1) * 2) = entCells (l.take i) ++ D := fun R => List.take_left' (by rw [List.length_append]; omega)
    rw [e1, List.append_assoc]
    exact List.take_left' (by rw [List.length_append]; omega))
  have hap0 := Lib.hid (fun ty (h : n - (i + 1) = 0) => hap ty ⟨gb, 0, none⟩ 0 (fun j v hj => by
    have hD0 : D = [] := List.eq_nil_of_length_eq_zero (by rw [hDl, h])
    rw [hD0] at hj
    simp at hj))
  have hap1 := Lib.hid (fun ty c => hap ty ⟨gb, (i + 1) * 2, none⟩ c (fun j v hj => by rw [addr_add]; exact hcell j v hj))
  have hcr := Lib.hid hcr
  clear hcur hcl hc hD hDl hD1 hT hTl hcell hap hc1 hc1l hW1 hh1 hc2 hW2 hh2 hc2l hq hz hit hb
  unfold maxLen at hcap
  have hw1 : IntKind.i64.wrap ((i : Int) + 1) = (i : Int) + 1 := by rw [IntKind.wrap_i64]; omega
  have htn : ((i : Int) + 1).toNat = i + 1 := by omega
  have hz2 : ¬ ((i : Int) = (i : Int) + 1) := by omega
  have hz3 : (((i : Int)) == (i : Int) + 1) = false := by simp; omega
  have hb1 : (0 : Int) ≤ (i : Int) + 1 := by omega
  have hb2 : (i : Int) ≤ (i : Int) + 1 := by omega
  clear hn
  obtain ⟨m, rfl⟩ : ∃ m, n = m + 1 := ⟨n - 1, by omega⟩
  simp only [Nat.add_sub_cancel] at hown hcr hap0 hap1 ⊢
  have hb3 : (i : Int) + 1 ≤ (m : Int) + 1 := by omega
  have hb4 : (i : Int) ≤ (m : Int) + 1 := by omega
  have hb5 : (m : Int) + 1 ≤ (cap : Int) := by omega
  have hb6 : (i : Int) ≤ (cap : Int) := by omega
  have hb7 : (m : Int) ≤ (m : Int) + 1 := by omega
  have hb8 : (m : Int) ≤ (cap : Int) := by omega
  have hb9 : ((m : Int) + 1).toNat = m + 1 := by omega
  have hb10 : ¬ (cap = m) := by omega
  have hb11 : m + 1 - m = 1 := by omega
  go_enter Try.func80, Try.ntmps80
  go_wp2_with fail
  by_cases hci : cap = i + 1
  · obtain rfl : m = i := by omega
    subst hci
    go_region_law (refine step_append_known w.drew rfl _ _ 31 31 rfl _ _ (by simp [Act.eval, Act.put]) (by simp [Act.eval, Act.put]) (hap0.out _ (by omega)) ?_)
    go_wp2_with (simp only [hcr.out])
    go_ret
    exact ⟨rfl, hown.out, hk.out⟩
  · go_region_law (refine step_append_known w.drew rfl _ _ 31 31 rfl _ _ (by simp [Act.eval, Act.put]) (by simp [Act.eval, Act.put]) (hap1.out _ (cap - (i + 1))) ?_)
    go_wp2_with (simp only [hcr.out])
    go_ret
    exact ⟨rfl, hown.out, hk.out⟩
end Go.Proofs.Ythmjcbmeiabbgaa
/-
  Trees (package tree): put: an inner node: what holds in the midst of it.
-/
namespace Go.Proofs.Ythmjcbmeiabbgaa
open Go.RowKit
set_option maxRecDepth 100000

theorem step_load_agg {ops : Array Oper} {o : Oper} {a : Act} {w : World} {K : Act → World → Prop} {Q : Exit → Act → World → Prop} {E : Prop} (ty : TypeId) {x : Operand} (ho : o.op = .load ty x) (hgd : o.guard = none)
    {g off : Nat} (hx : a.eval x = .pointer (some ⟨g, off, none⟩)) (d : TypeDesc) (hu : Try.prog.underlying ty = some d) (hd : aggDesc d = true) (vs : List Value) (hi : (Try.prog.info? ty).map (·.size) = some vs.length)
    (hc : ∀ j v, vs[j]? = some v → w.cell? ⟨g, off + j, none⟩ = some v)
    (h : K (a.put o.dst (.agg vs.toArray)) w) : if Region.wanted o (yielded ops a.tmps) = true then Oper.wp Try.prog o a w K Q else E := by
  rw [if_pos (by simp [Region.wanted, hgd])]
  unfold Oper.wp execOp
  simp only [ho, hx, Instr.loadAt, Instr.sureAddr, Sem.run_bind, Sem.run_pure, Result.andThen_ok, run_loadVar_agg g off vs hu hd hi hc]
  exact h
theorem step_store_whole {ops : Array Oper} {o : Oper} {a : Act} {w : World} {K : Act → World → Prop} {Q : Exit → Act → World → Prop} {E : Prop} (ty : TypeId) {x y : Operand} (ho : o.op = .store ty x y) (hgd : o.guard = none)
    {g : Nat} (hx : a.eval x = .pointer (some ⟨g, 0, none⟩)) (vs : List Value) (hy : a.eval y = .agg vs.toArray) (hi : (Try.prog.info? ty).map (·.size) = some vs.length)
    (t : TypeId) (cur : Array Value) (hg : w.heap[g]? = some (.cells cur t (0, 0))) (hfit : vs.length = cur.size) (h1 : ∀ v ∈ vs, v.oneCell' = true)
    (h : K (a.put o.dst undef) (w.setRow g vs.toArray)) : if Region.wanted o (yielded ops a.tmps) = true then Oper.wp Try.prog o a w K Q else E := by
  rw [if_pos (by simp [Region.wanted, hgd])]
  have hr := run_storeVar_agg (P := Try.prog) (w := w) g 0 t cur vs hg hi (by omega) h1
  have h0 : List.drop (0 + vs.length) cur.toList = [] := List.drop_eq_nil_of_le (by simp; omega)
  rw [h0] at hr
  simp only [List.take_zero, List.nil_append, List.append_nil] at hr
  unfold Oper.wp execOp
  simp only [ho, hx, hy, Instr.storeAt, Instr.sureAddr, Sem.run_bind, Sem.run_pure, Result.andThen_ok, hr]
  exact h
theorem step_alloc_as {ops : Array Oper} {o : Oper} {a : Act} {w : World} {K : Act → World → Prop} {Q : Exit → Act → World → Prop} {E : Prop} (ty : TypeId) (ho : o.op = .alloc ty) (hgd : o.guard = none)
    (cs : Array Value) (hz : (Try.prog.info? ty).map (·.zero) = some (some (.agg cs)))
    (h : K (a.put o.dst (.pointer (some ⟨w.heap.size, 0, none⟩))) (w.alloc (.cells cs ty))) : if Region.wanted o (yielded ops a.tmps) = true then Oper.wp Try.prog o a w K Q else E := by
  rw [if_pos (by simp [Region.wanted, hgd])]
  unfold Oper.wp execOp
  simp only [ho, Instr.alloc, Sem.run_bind, Sem.run_pure, Result.andThen_ok, run_zeroValue hz, newVar, newRow, run_newObj]
  exact h
/-- What holds in the midst of put. -/
structure PutSt (w : World) (A : SA) (x : Int × Int) (n : NM) (sv : Value) (nb : Nat) (Z : Array Value) (A' : SA) (M' : SM) (wr : World) : Prop where
  to_ : StoreTo A A' M' w wr
  tb : wr.heap[w.heap.size]? = some (.cells #[.pointer (some ⟨A.sb, 0, none⟩)] 26 (0, 0))
  st : Safe wr A' w.heap.size
  xb : wr.heap[w.heap.size + 1]? = some (.cells #[.int .i64 x.1, .int .i64 x.2] 35 (0, 0))
  sx : Safe wr A' (w.heap.size + 1)
  rb : wr.heap[w.heap.size + 2]? = some (.cells Z 33 (0, 0))
  sr : Safe wr A' (w.heap.size + 2)
  nbx : NodeBox wr nb n sv
  sn : Safe wr A' nb
  own : OutAt wr A' (w.heap.size + 3) sv n.ents
  lt : w.heap.size + 2 < nb
section
variable {w : World} {A : SA} {x : Int × Int} {n : NM} {sv : Value} {nb : Nat} {Z : Array Value} {A' : SA} {M' : SM} {wr : World}
theorem PutSt.fresh {w' : World} (h : PutSt w A x n sv nb Z A' M' wr) (k : Kept (fun _ => False) wr w') : PutSt w A x n sv nb Z A' M' w' :=
  ⟨h.to_.fresh k, k.get h.tb id, h.st.fresh k, k.get h.xb id, h.sx.fresh k, k.get h.rb id, h.sr.fresh k, h.nbx.kept k id, h.sn.fresh k, h.own.fresh k, h.lt⟩
theorem PutSt.step {w' : World} {A2 : SA} {M2 : SM} (h : PutSt w A x n sv nb Z A' M' wr) (k : StoreTo A' A2 M2 wr w') : PutSt w A x n sv nb Z A2 M2 w' :=
  ⟨h.to_.trans k, k.get h.tb h.st, h.st.to k, k.get h.xb h.sx, h.sx.to k, k.get h.rb h.sr, h.sr.to k, ⟨k.get h.nbx.heap h.sn⟩, h.sn.to k, h.own.to k, h.lt⟩
end
/-- A child's node in a box of its own. -/
structure BoxAt (w : World) (A : SA) (cb : Nat) (n : NM) (v : Value) : Prop where
  box : NodeBox w cb n v
  safe : Safe w A cb
  ents : EntsOff w A v n.ents
/-- The box is made, and filled. -/
theorem BoxAt.made {W : World} {A : SA} {M : SM} {base cb : Nat} {n : NM} {v : Value} {Z : Array Value} (hs : StoreAt W A M) (ho : OutAt W A base v n.ents) (hb : W.heap[cb]? = some (.cells Z 33 (0, 0))) (hsafe : Safe W A cb) :
    BoxAt (W.setRow cb (nodeCells n v).toArray) A cb n v := by
  have k := (Kept.refl (fun i => i = cb) W).setRow rfl (nodeCells n v).toArray
  have hne := ho.types hb (fun cur e => by cases e)
  exact ⟨⟨setRow_heap _ _ _ _ _ _ hb⟩, ⟨Nat.lt_of_lt_of_le hsafe.lt k.size, hsafe.off⟩, ⟨SliceAt.kept ho.ents.at_ k (fun b hb e => hne (by rw [hb, e])), fun b hb => ⟨Nat.lt_of_lt_of_le (ho.ents.off b hb).1 k.size, (ho.ents.off b hb).2⟩⟩⟩
/-- A new box's filling touches nothing of what holds. -/
theorem PutSt.boxed {w : World} {A : SA} {x : Int × Int} {n : NM} {sv : Value} {nb : Nat} {Z : Array Value} {A' : SA} {M' : SM} {wr : World} (h : PutSt w A x n sv nb Z A' M' wr) {cb : Nat} (h1 : nb < cb) (hs : Safe wr A' cb) {Z2 : Array Value} (hb : wr.heap[cb]? = some (.cells Z2 33 (0, 0))) (hd : ∀ k, A'.own k → k ≠ cb) (F : Array Value) :
    PutSt w A x n sv nb Z A' M' (wr.setRow cb F) := by
  have k := (Kept.refl (fun i => i = cb) wr).setRow rfl F
  have hlt := h.lt
  have hne := h.own.types hb (fun cur e => by cases e)
  have hst := h.to_
  refine ⟨⟨hst.store.kept k hd, hst.kept.trans_new k (fun i hi e => by subst e; omega), hst.foot, hst.sb, hst.fix⟩, k.get h.tb (by omega), ⟨Nat.lt_of_lt_of_le h.st.lt k.size, h.st.off⟩, k.get h.xb (by omega), ⟨Nat.lt_of_lt_of_le h.sx.lt k.size, h.sx.off⟩, k.get h.rb (by omega), ⟨Nat.lt_of_lt_of_le h.sr.lt k.size, h.sr.off⟩, h.nbx.kept k (by omega), ⟨Nat.lt_of_lt_of_le h.sn.lt k.size, h.sn.off⟩, ⟨ownsRow.keptOf h.own.own k (fun b hb e => hne (by rw [hb, e])), h.own.off⟩, h.lt⟩
/-- What the drawn region reads. -/
theorem PutSt.held {w : World} {A : SA} {x : Int × Int} {n : NM} {b off m cap : Nat} {nb : Nat} {Z : Array Value} {A' : SA} {M' : SM} {wr : World} (h : PutSt w A x n (.slice (some ⟨b, off, none⟩) m cap) nb Z A' M' wr) {F : List Value} (hF : nodeCells n (.slice (some ⟨b, off, none⟩) m cap) = F) {i : Nat} {y : Int × Int} (hy : n.ents[i]? = some y) :
    wr.heap[w.heap.size]? = some (.cells #[.pointer (some ⟨A.sb, 0, none⟩)] 26 (0, 0)) ∧ wr.heap[nb]? = some (.cells F.toArray 33 (0, 0)) ∧ wr.heap[w.heap.size + 1]? = some (.cells #[.int .i64 x.1, .int .i64 x.2] 35 (0, 0)) ∧ wr.cell? ⟨nb, 17, none⟩ = some (.slice (some ⟨b, off, none⟩) m cap) ∧ wr.cell? ⟨b, off + i * 2 + 1, none⟩ = some (.int .i64 y.2) := by
  refine ⟨h.tb, by rw [← hF]; exact h.nbx.heap, h.xb, h.nbx.c17, ?_⟩
  obtain ⟨b', off', hA, _, _, c⟩ := EntsAt.get h.own.ents.at_ hy
  cases hA
  exact c
theorem StoreTo.own_ne {A A' : SA} {M' : SM} {W w' : World} (k : StoreTo A A' M' W w') {cb : Nat} (hA : ∀ j, A.own j → j < cb) (hcb : cb < W.heap.size) : ∀ j, A'.own j → j ≠ cb := by
  rintro j (hj | hj | hj) rfl
  · rcases k.foot j hj with e | e
    · exact Nat.lt_irrefl _ (hA j (.inl e))
    · omega
  · rw [k.fix.2] at hj
    exact Nat.lt_irrefl _ (hA j (.inr (.inl hj)))
  · rw [k.fix.1] at hj
    exact Nat.lt_irrefl _ (hA j (.inr (.inr hj)))
/-- A block that is new and none of the store's may be written. -/
theorem StoreTo.touch {A A' : SA} {M M' : SM} {w wr wr' : World} (h : StoreAt w A M) (k : StoreTo A A' M' w wr) {b : Nat} (hb : w.heap.size ≤ b) (hs : ¬ A'.foot b) (kk : Kept (fun j => j = b) wr wr') : StoreTo A A' M' w wr' := by
  have hown : ∀ j, A'.own j → ¬ j = b := by
    rintro j (hj | hj | hj) rfl
    · exact hs hj
    · rw [k.fix.2] at hj
      have := h.lt (.inr (.inl hj)); omega
    · rw [k.fix.1] at hj
      have := h.lt (.inr (.inr hj)); omega
  exact ⟨k.store.kept kk hown, k.kept.trans_new kk (fun i hi e => by omega), k.foot, k.sb, k.fix⟩
theorem OutAt.touch {w w' : World} {A : SA} {base base' b : Nat} {v : Value} {l : List (Int × Int)} (h : OutAt w A base v l) (hb : base' ≤ base) (hne : v.ownBlock ≠ some b) (k : Kept (fun j => j = b) w w') : OutAt w' A base' v l :=
  ⟨owns_weaken (ownsRow.keptOf h.own k (fun g hg e => hne (by rw [hg, e]))) hb, h.off⟩
section
variable {w : World} {A : SA} {M : SM} {x : Int × Int} {n : NM} {sv : Value} {nb : Nat} {Z : Array Value} {A' : SA} {M' : SM} {wr : World}
/-- The node goes back as it was. -/
theorem PutSt.stop (P : PutSt w A x n sv nb Z A' M' wr) (h : StoreAt w A M) (F : Array Value) : StoreTo A A' M' w (wr.setRow (w.heap.size + 2) F) ∧ OutAt (wr.setRow (w.heap.size + 2) F) A' w.heap.size sv n.ents := by
  have k := (Kept.refl (fun j => j = w.heap.size + 2) wr).setRow rfl F
  exact ⟨P.to_.touch h (by omega) P.sr.off k, P.own.touch (by omega) (P.own.types P.rb (fun cur e => by cases e)) k⟩
/-- It goes back with other entries. -/
theorem PutSt.ends (P : PutSt w A x n sv nb Z A' M' wr) (h : StoreAt w A M) {u : Value} {C : List (Int × Int)} {base : Nat} (ho : OutAt wr A' base u C) (hbase : w.heap.size ≤ base) :
    NodeBox (wr.setCell ⟨nb, 17, none⟩ u) nb { n with ents := C } u ∧ (wr.setCell ⟨nb, 17, none⟩ u).heap[w.heap.size + 2]? = some (.cells Z 33 (0, 0)) ∧
      ∀ F, StoreTo A A' M' w ((wr.setCell ⟨nb, 17, none⟩ u).setRow (w.heap.size + 2) F) ∧ OutAt ((wr.setCell ⟨nb, 17, none⟩ u).setRow (w.heap.size + 2) F) A' w.heap.size u C := by
  have hlt := P.lt
  have k1 := (Kept.refl (fun j => j = nb) wr).setCell (p := ⟨nb, 17, none⟩) rfl u
  have r1 := k1.get P.rb (by omega)
  have T1 := P.to_.touch h (by omega) P.sn.off k1
  have O1 := ho.touch hbase (ho.types P.nbx.heap (fun cur e => by cases e)) k1
  refine ⟨⟨by rw [heap_setCell_same P.nbx.heap, nodeCells_set n C]⟩, r1, fun F => ?_⟩
  have k := (Kept.refl (fun j => j = w.heap.size + 2) (wr.setCell ⟨nb, 17, none⟩ u)).setRow rfl F
  exact ⟨T1.touch h (by omega) P.sr.off k, O1.touch (Nat.le_refl _) (O1.types r1 (fun cur e => by cases e)) k⟩
end
end Go.Proofs.Ythmjcbmeiabbgaa
/-
  Pruners: the model of what package prune computes; slices.Concat of two; fits.
-/
namespace Go.Proofs.Ythmjcbmeiabbgaa
open Go.RowKit
set_option maxRecDepth 100000

/-- One neighbour, at q: is the child one with it? -/
def SM.joinStep (M : SM) (n c : NM) (i d : Nat) (q : Int) (next : NM × Nat × Nat × Nat) : NM × Nat × Nat × Nat :=
  if q < 0 ∨ (n.ents.length : Int) ≤ q then next
  else
    let o := M.tnode (n.ents.getD q.toNat (0, 0)).2 (d + 1)
    if o.2 = 0 then
      if c.ents.length + o.1.ents.length ≤ 6 then (⟨c.kind, List.replicate 16 0, if q < i then o.1.ents ++ c.ents else c.ents ++ o.1.ents⟩, min i q.toNat, max i q.toNat + 1, 0)
      else next
    else (c, i, i + 1, o.2)
/-- So many neighbours are left to try. -/
def SM.joinJ (M : SM) (n c : NM) (i d : Nat) : Nat → NM × Nat × Nat × Nat
  | 0 => (c, i, i + 1, 0)
  | 1 => M.joinStep n c i d ((i : Int) + 1) (c, i, i + 1, 0)
  | _ => M.joinStep n c i d ((i : Int) - 1) (M.joinStep n c i d ((i : Int) + 1) (c, i, i + 1, 0))
def SM.join (M : SM) (n c : NM) (i d : Nat) : NM × Nat × Nat × Nat :=
  if c.ents.length = 0 then (c, i, i + 1, 0) else M.joinJ n c i d 2
/-- The entries of a node without a key. -/
def SM.cutF : Nat → SM → Int → Int → SM × NM × Bool × Nat
  | 0, M, _, _ => (M, .zero, false, 81)
  | f + 1, M, root, key =>
    let n := M.tnode root (8 - f)
    let a := atI n.1.ents key
    if n.2 ≠ 0 ∨ a < 0 then (M, n.1, false, n.2)
    else if n.1.kind = 2 then
      if (n.1.ents.getD a.toNat (0, 0)).1 = key then (M, { n.1 with ents := n.1.ents.take a.toNat ++ n.1.ents.drop (a.toNat + 1) }, true, 0)
      else (M, n.1, false, 0)
    else
      let c := SM.cutF f M (n.1.ents.getD a.toNat (0, 0)).2 key
      if c.2.2.2 ≠ 0 ∨ c.2.2.1 = false then (c.1, n.1, false, c.2.2.2)
      else
        let j := c.1.join n.1 c.2.1 a.toNat (8 - f)
        if j.2.2.2 = 0 then
          let s := c.1.split j.1
          if s.2.2 = 0 then (s.1, { n.1 with ents := n.1.ents.take j.2.1 ++ s.2.1 ++ n.1.ents.drop j.2.2.1 }, true, 0)
          else (s.1, n.1, false, s.2.2)
        else (c.1, n.1, false, j.2.2.2)
/-- A tree without a key. -/
def SM.cut (M : SM) (root key : Int) : SM × Int × Bool × Nat :=
  if key < 0 ∨ 64 ≤ key then (M, -1, false, 101)
  else if root = -1 then (M, -1, false, 0)
  else
    let c := SM.cutF 9 M root key
    if c.2.2.2 ≠ 0 then (c.1, -1, false, c.2.2.2)
    else if c.2.2.1 = false then (c.1, root, false, 0)
    else if c.2.1.kind = 3 ∧ c.2.1.ents.length = 1 then (c.1, (c.2.1.ents.getD 0 (0, 0)).2, true, 0)
    else
      let s := c.1.split c.2.1
      if s.2.2 ≠ 0 ∨ s.2.1.length = 0 then (s.1, -1, s.2.2 == 0, s.2.2)
      else (s.1, (s.2.1.getD 0 (0, 0)).2, true, 0)
/-- A tree without some keys, held in its place. -/
def SM.trim : List Int → SM → Int → SM × Int × Nat
  | [], M, root => (M, root, 0)
  | key :: ks, M, root =>
    let c := M.cut root key
    if c.2.2.2 = 0 then
      let s := if c.2.2.1 = true then c.1.swap root c.2.1 else (c.1, 0)
      if s.2 = 0 then SM.trim ks s.1 c.2.1 else (s.1, -1, s.2)
    else (c.1, -1, c.2.2.2)

/-- slices.Concat of two. -/
theorem concat2 {W : World} {s1 s2 : Value} {l1 l2 : List (Int × Int)} (h1 : EntsAt W s1 l1) (h2 : EntsAt W s2 l2) (hl : l1.length + l2.length ≤ 1000) :
    Calls Try.prog 73 #[.slice (some ⟨W.heap.size, 0, none⟩) 2 2] (W.alloc (.cells #[s1, s2] 31)) fun e w' => ∃ u, e = .returned u ∧ w'.ownsRow (W.heap.size + 1) 35 2 u (l1 ++ l2).length (entCells (l1 ++ l2)) ∧ Kept (fun _ => False) W w' := by
  have k := (Kept.refl (fun _ => False) W).alloc (.cells #[s1, s2] 31)
  have hr : RowsAt (W.alloc (.cells #[s1, s2] 31)) (.slice (some ⟨W.heap.size, 0, none⟩) 2 2) 2 [entCells l1, entCells l2] [s1, s2] := by
    refine ⟨rfl, SliceAt.block_new (tt := 31) (fr := (0, 0)) (heap_alloc_new _ _) rfl (by decide), fun i u l hu hl => ?_⟩
    match i, hu, hl with
    | 0, hu, hl => cases hu; cases hl; exact ⟨_, SliceAt.fresh h1 k⟩
    | 1, hu, hl => cases hu; cases hl; exact ⟨_, SliceAt.fresh h2 k⟩
  have hs : sumV [s1, s2] = l1.length + l2.length := by
    unfold sumV
    simp only [List.map_cons, List.map_nil, SliceAt.lenV h1, SliceAt.lenV h2, List.sum_cons, List.sum_nil]
    omega
  refine (concatEnt hr (by rw [hs]; omega) (fun l hl => by
    simp only [List.mem_cons, List.not_mem_nil, or_false] at hl
    rcases hl with rfl | rfl <;> exact entCells_one _)).mono ?_
  rintro e w' ⟨u, he, ho, hk⟩
  refine ⟨u, he, ?_, k.trans hk⟩
  rw [hs] at ho
  have e1 : [entCells l1, entCells l2].flatten = entCells (l1 ++ l2) := by simp [entCells_append]
  rw [e1] at ho
  have e2 : (W.alloc (.cells #[s1, s2] 31)).heap.size = W.heap.size + 1 := by simp
  rw [e2] at ho
  rw [show (l1 ++ l2).length = l1.length + l2.length by simp only [List.length_append]]
  exact ho

set_option maxHeartbeats 4000000 in
theorem pruneFits {w : World} {n m : NM} {An Am : Option Addr} {ln lm cn cm : Nat} (h1 : ln ≤ 1000) (h2 : lm ≤ 1000) :
    Calls Try.prog 100 #[.agg (nodeCells n (.slice An ln cn)).toArray, .agg (nodeCells m (.slice Am lm cm)).toArray] w fun e w' => e = .returned (.bool (decide (ln + lm ≤ 6))) ∧ Kept (fun _ => False) w w' := by
  obtain ⟨F, hF⟩ : ∃ F, nodeCells n (.slice An ln cn) = F := ⟨_, rfl⟩
  obtain ⟨G, hG⟩ : ∃ G, nodeCells m (.slice Am lm cm) = G := ⟨_, rfl⟩
  obtain ⟨w1, hw1⟩ : ∃ w1, w.alloc (.cells F.toArray 33) = w1 := ⟨_, rfl⟩
  obtain ⟨w2, hw2⟩ : ∃ w2, w1.alloc (.cells G.toArray 33) = w2 := ⟨_, rfl⟩
  have k1 : Kept (fun _ => False) w w1 := by rw [← hw1]; exact (Kept.refl _ _).alloc _
  have k2 : Kept (fun _ => False) w1 w2 := by rw [← hw2]; exact (Kept.refl _ _).alloc _
  have s1 : w1.heap.size = w.heap.size + 1 := by rw [← hw1]; simp
  have b1 : NodeBox w2 w.heap.size n (.slice An ln cn) := ⟨by rw [hF]; exact k2.get (by rw [← hw1]; exact heap_alloc_new _ _) id⟩
  have b2 : NodeBox w2 (w.heap.size + 1) m (.slice Am lm cm) := ⟨by rw [hG, ← hw2, ← s1]; exact heap_alloc_new _ _⟩
  have c1 := b1.c17
  have c2 := b2.c17
  have hw1' := Lib.hid hw1
  have hw2' := Lib.hid hw2
  have s1' := Lib.hid s1
  have k12 := Lib.hid (k1.trans k2)
  have hwr : IntKind.i64.wrap ((ln : Int) + (lm : Int)) = (ln : Int) + (lm : Int) := by rw [IntKind.wrap_i64]; omega
  have hdec : decide ((ln : Int) + (lm : Int) ≤ 6) = decide (ln + lm ≤ 6) := by
    by_cases h : ln + lm ≤ 6
    · rw [decide_eq_true h, decide_eq_true (by omega)]
    · rw [decide_eq_false h, decide_eq_false (by omega)]
  rw [hF, hG]
  clear hw1 hw2 s1 k1 k2 b1 b2 hF hG
  go_enter Try.func100, Try.ntmps100
  go_wp2_with (first | (refine wpList_box_named 33 rfl rfl _ rfl hw1'.out ?_) | (refine wpList_box_named 33 rfl rfl _ rfl hw2'.out ?_; rw [s1'.out]))
  go_ret
  exact ⟨rfl, k12.out⟩
end Go.Proofs.Ythmjcbmeiabbgaa
/-
  Pruners (package prune): a child, and the neighbour that it is one with.
-/
namespace Go.Proofs.Ythmjcbmeiabbgaa
open Go.RowKit
set_option maxRecDepth 100000

theorem results_row_tmp3 {P : Program} {fn : Func} {p u u2 u3 : Tmp} {ty : TypeId} (h : fn.results = #[.cell p ty, .tmp u, .tmp u2, .tmp u3]) (tmps : Array Value) (w : World) (g : Nat) (t : TypeId) (cs : Array Value) (fr : Nat × Nat) (d : TypeDesc)
    (hp : tmps.getD p undef = .pointer (some ⟨g, 0, none⟩)) (hg : w.heap[g]? = some (.cells cs t fr))
    (hu : P.underlying ty = some d) (hd : (match d with | .struct _ | .array _ _ => true | _ => false) = true) (hi : (P.info? ty).map (·.size) = some cs.size) :
    (results fn tmps).run P w = .ok (.tuple #[.agg cs, tmps.getD u undef, tmps.getD u2 undef, tmps.getD u3 undef]) w := by
  have hp' : tmps[p]?.getD undef = .pointer (some ⟨g, 0, none⟩) := by simpa using hp
  simp [results, h, hp', asAddr, run_loadVar_row w g t ty cs fr d hg hu hd hi]
theorem run_minN (w : World) (ts : Array TypeId) (ty : TypeId) (a b : Nat) : (Builtin.min_ ts ty #[.int .i64 a, .int .i64 b]).run Try.prog w = .ok (.int .i64 (min a b : Nat)) w := by
  by_cases h : a ≤ b
  · rw [Nat.min_eq_left h]
    by_cases h2 : b < a
    · omega
    · have : ¬ ((b : Int) < a) := by omega
      simp [Builtin.min_, Builtin.min2, this]
  · rw [Nat.min_eq_right (by omega)]
    have : (b : Int) < a := by omega
    simp [Builtin.min_, Builtin.min2, this]
theorem run_maxN (w : World) (ts : Array TypeId) (ty : TypeId) (a b : Nat) : (Builtin.max_ ts ty #[.int .i64 a, .int .i64 b]).run Try.prog w = .ok (.int .i64 (max a b : Nat)) w := by
  by_cases h : b ≤ a
  · rw [Nat.max_eq_left h]
    have : ¬ ((a : Int) < b) := by omega
    simp [Builtin.max_, Builtin.max2, this]
  · rw [Nat.max_eq_right (by omega)]
    have : (a : Int) < b := by omega
    simp [Builtin.max_, Builtin.max2, this]
theorem wpList_minN {ops : Array Oper} {rest : List Oper} {o : Oper} {a : Act} {w : World} {Q : Exit → Act → World → Prop} (hgd : o.guard = none) (x y : Operand) (ts : Array TypeId)
    (ho : o.op = .call { callee := .builtin .min, args := #[x, y], argTypes := ts }) {k m t : Nat} (hk : min k m = t) (hx : a.eval x = .int .i64 k) (hy : a.eval y = .int .i64 m) (h : wpList Try.prog ops Q rest (a.put o.dst (.int .i64 t)) w) : wpList Try.prog ops Q (o :: rest) a w :=
  wpList_plain hgd fun _ hK => by
    unfold Oper.wp
    simp only [execOp, ho, resolve, invoke, builtin, Sem.run_bind, Sem.run_pure, Result.andThen_ok, List.map_toArray, List.map_cons, List.map_nil, hx, hy, run_minN w ts o.type, hk]
    exact hK _ _ h
theorem wpList_maxN {ops : Array Oper} {rest : List Oper} {o : Oper} {a : Act} {w : World} {Q : Exit → Act → World → Prop} (hgd : o.guard = none) (x y : Operand) (ts : Array TypeId)
    (ho : o.op = .call { callee := .builtin .max, args := #[x, y], argTypes := ts }) {k m t : Nat} (hk : max k m = t) (hx : a.eval x = .int .i64 k) (hy : a.eval y = .int .i64 m) (h : wpList Try.prog ops Q rest (a.put o.dst (.int .i64 t)) w) : wpList Try.prog ops Q (o :: rest) a w :=
  wpList_plain hgd fun _ hK => by
    unfold Oper.wp
    simp only [execOp, ho, resolve, invoke, builtin, Sem.run_bind, Sem.run_pure, Result.andThen_ok, List.map_toArray, List.map_cons, List.map_nil, hx, hy, run_maxN w ts o.type, hk]
    exact hK _ _ h
theorem joinJ_step (M : SM) (n c : NM) (i d : Nat) {j : Nat} (hj : j < 2) : M.joinJ n c i d (2 - j) = M.joinStep n c i d (if j = 0 then (i : Int) - 1 else (i : Int) + 1) (M.joinJ n c i d (2 - (j + 1))) := by
  match j, hj with
  | 0, _ => rfl
  | 1, _ => rfl
/-- A result that a call has made by itself lies off the store. -/
theorem EntsOff.of_owns {w w' : World} {A : SA} {M : SM} (h : StoreAt w A M) {base : Nat} {v : Value} {l : List (Int × Int)} (ho : w'.ownsRow base 35 2 v l.length (entCells l)) (hb : w.heap.size ≤ base) : EntsOff w' A v l :=
  ⟨SliceAt.of_owns ho, fun b hb' => ⟨(ho.lt b hb').2, fun e => by have h1 := (ho.lt b hb').1; have h2 := h.lt (.inl e); omega⟩⟩

set_option maxHeartbeats 8000000 in
theorem pruneJoin {w : World} {A : SA} {M : SM} (h : StoreAt w A M) {n c : NM} {sn sc : Value} (hn : EntsAt w sn n.ents) (hc : EntsOff w A sc c.ents) (i d : Nat) (hd : d ≤ 8) (hi : i < n.ents.length) (hnl : n.ents.length ≤ 6) (hcl : c.ents.length ≤ 12) :
    Calls Try.prog 81 #[.agg #[.pointer (some ⟨A.sb, 0, none⟩)], .agg (nodeCells n sn).toArray, .agg (nodeCells c sc).toArray, .int .i64 i, .int .i64 d] w fun e w' =>
      ∃ v, e = .returned (.tuple #[.agg (nodeCells (M.join n c i d).1 v).toArray, .int .i64 (M.join n c i d).2.1, .int .i64 (M.join n c i d).2.2.1, .int .i64 (M.join n c i d).2.2.2]) ∧ EntsOff w' A v (M.join n c i d).1.ents ∧ Kept (fun _ => False) w w' ∧ (∀ g, v.ownBlock = some g → sc.ownBlock = some g ∨ w.heap.size ≤ g) := by
  obtain ⟨An, capn, rfl, hn1, hn2⟩ := EntsAt.form hn
  obtain ⟨Ac, capc, rfl, hc1, hc2⟩ := EntsAt.form hc.at_
  obtain ⟨y0, hy0⟩ : ∃ y0, n.ents[0]? = some y0 := ⟨_, List.getElem?_eq_getElem (by omega)⟩
  obtain ⟨b, off, rfl, -⟩ := EntsAt.get hn hy0
  clear hy0 y0
  obtain ⟨Z, hZ⟩ : ∃ Z, nodeCells NM.zero (.slice none 0 0) = Z := ⟨_, rfl⟩
  have hZz : Hid ((Try.prog.info? 33).map (·.zero) = some (some (.agg Z.toArray))) := Lib.hid (by rw [← hZ]; exact node_zero)
  have hZl : Hid (Z.length = 18) := Lib.hid (by rw [← hZ]; exact nodeCells_len _ _)
  obtain ⟨F, hF⟩ : ∃ F, nodeCells n (.slice (some ⟨b, off, none⟩) n.ents.length capn) = F := ⟨_, rfl⟩
  have hFl : Hid (F.length = 18) := Lib.hid (by rw [← hF]; exact nodeCells_len _ _)
  have hF1 : Hid (∀ v ∈ F, v.oneCell' = true) := Lib.hid (by rw [← hF]; exact nodeCells_one _ _ _ _)
  obtain ⟨C, hC⟩ : ∃ C, nodeCells c (.slice Ac c.ents.length capc) = C := ⟨_, rfl⟩
  have hCl : Hid (C.length = 18) := Lib.hid (by rw [← hC]; exact nodeCells_len _ _)
  have hC1 : Hid (∀ v ∈ C, v.oneCell' = true) := Lib.hid (by rw [← hC]; exact nodeCells_one _ _ _ _)
  obtain ⟨w1, hw1⟩ : ∃ w1, w.alloc (.cells #[.pointer (some ⟨A.sb, 0, none⟩)] 57) = w1 := ⟨_, rfl⟩
  obtain ⟨w2, hw2⟩ : ∃ w2, w1.alloc (.cells F.toArray 33) = w2 := ⟨_, rfl⟩
  obtain ⟨w3, hw3⟩ : ∃ w3, w2.alloc (.cells C.toArray 33) = w3 := ⟨_, rfl⟩
  obtain ⟨w4, hw4⟩ : ∃ w4, w3.alloc (.cells Z.toArray 33) = w4 := ⟨_, rfl⟩
  have k1 : Kept (fun _ => False) w w1 := by rw [← hw1]; exact (Kept.refl _ _).alloc _
  have k2 : Kept (fun _ => False) w1 w2 := by rw [← hw2]; exact (Kept.refl _ _).alloc _
  have k3 : Kept (fun _ => False) w2 w3 := by rw [← hw3]; exact (Kept.refl _ _).alloc _
  have k4 : Kept (fun _ => False) w3 w4 := by rw [← hw4]; exact (Kept.refl _ _).alloc _
  have s1 : w1.heap.size = w.heap.size + 1 := by rw [← hw1]; simp
  have s2 : w2.heap.size = w.heap.size + 2 := by rw [← hw2]; simp [s1]
  have s3 : w3.heap.size = w.heap.size + 3 := by rw [← hw3]; simp [s2]
  have s4 : w4.heap.size = w.heap.size + 4 := by rw [← hw4]; simp [s3]
  have t4 := Lib.hid (show w4.heap[w.heap.size]? = some (.cells #[.pointer (some ⟨A.sb, 0, none⟩)] 57 (0, 0)) from ((k2.trans k3).trans k4).get (by rw [← hw1]; exact heap_alloc_new _ _) id)
  have f4 := Lib.hid (show w4.heap[w.heap.size + 1]? = some (.cells F.toArray 33 (0, 0)) from (k3.trans k4).get (by rw [← hw2, ← s1]; exact heap_alloc_new _ _) id)
  have c4 := Lib.hid (show w4.heap[w.heap.size + 2]? = some (.cells C.toArray 33 (0, 0)) from k4.get (by rw [← hw3, ← s2]; exact heap_alloc_new _ _) id)
  have r4 := Lib.hid (show w4.heap[w.heap.size + 3]? = some (.cells Z.toArray 33 (0, 0)) by rw [← hw4, ← s3]; exact heap_alloc_new _ _)
  have k04 := Lib.hid (((k1.trans k2).trans k3).trans k4)
  have hbx := Lib.hid (show NodeBox w4 (w.heap.size + 2) c (.slice Ac c.ents.length capc) from ⟨by rw [hC]; exact c4.out⟩)
  have hbn := Lib.hid (show NodeBox w4 (w.heap.size + 1) n (.slice (some ⟨b, off, none⟩) n.ents.length capn) from ⟨by rw [hF]; exact f4.out⟩)
  have c17 := hbx.out.c17
  have hw1' := Lib.hid hw1
  have hw2' := Lib.hid hw2
  have hw3' := Lib.hid hw3
  have hw4' := Lib.hid hw4
  have s1' := Lib.hid s1
  have s2' := Lib.hid s2
  have s3' := Lib.hid s3
  have s4' := Lib.hid s4
  have h' := Lib.hid h
  have hn' := Lib.hid hn
  have hc' := Lib.hid hc
  rw [hF, hC]
  have hF' := Lib.hid hF
  have hC' := Lib.hid hC
  unfold maxLen at hn2 hc2
  have hwi : IntKind.i64.wrap ((i : Int) + 1) = (i : Int) + 1 := by rw [IntKind.wrap_i64]; omega
  have hwi2 : IntKind.i64.wrap ((i : Int) - 1) = (i : Int) - 1 := by rw [IntKind.wrap_i64]; omega
  clear hw1 hw2 hw3 hw4 k1 k2 k3 k4 s1 s2 s3 s4 h hn hc hF hC hZ
  have stop : Hid (∀ (wr : World) (a2 a3 er : Nat), Kept (fun _ => False) w4 wr → M.join n c i d = (c, a2, a3, er) → EntsOff (wr.setRow (w.heap.size + 3) C.toArray) A (.slice Ac c.ents.length capc) (M.join n c i d).1.ents ∧ Kept (fun _ => False) w (wr.setRow (w.heap.size + 3) C.toArray)) := Lib.hid (fun wr a2 a3 er hk he => by
    have k := (k04.out.trans hk).setRowNew (show w.heap.size ≤ w.heap.size + 3 by omega) C.toArray
    rw [he]
    exact ⟨hc'.out.fresh k, k⟩)
  go_enter Try.func81, Try.ntmps81
  by_cases h00 : c.ents.length = 0
  · have hj : M.join n c i d = (c, i, i + 1, 0) := by unfold SM.join; rw [if_pos h00]
    have hj' := Lib.hid hj
    have hS := Lib.hid (stop.out w4 i (i + 1) 0 (Kept.refl _ _) hj)
    rw [h00] at c17
    clear hj h00
    go_wp2_with (first | (refine wpList_box_named 57 rfl rfl _ rfl hw1'.out ?_) | (refine wpList_box_named 33 rfl rfl _ rfl hw2'.out ?_; rw [s1'.out]) | (refine wpList_box_named 33 rfl rfl _ rfl hw3'.out ?_; rw [s2'.out]) | (refine wpList_alloc_as 33 rfl rfl Z.toArray hZz.out ?_; rw [hw4'.out, s3'.out]) | (refine wpList_load_agg 33 rfl rfl rfl _ Try.underlying33 rfl C (by rw [hCl.out]; exact node_size) (fun j v hv => by rw [cell_of_heap c4.out, Nat.zero_add]; simpa using hv) ?_) | (refine wpList_store_whole 33 rfl rfl rfl C rfl (by rw [hCl.out]; exact node_size) 33 _ r4.out (by simp [hCl.out, hZl.out]) hC1.out ?_))
    refine bodyPost_ret (results_row_tmp3 rfl _ _ (w.heap.size + 3) 33 C.toArray (0, 0) _ rfl (setRow_heap _ _ _ _ 33 (0, 0) r4.out) Try.underlying33 rfl (by simp only [List.size_toArray]; rw [hCl.out]; exact node_size)) rfl ?_
    exact ⟨.slice Ac c.ents.length capc, by rw [hj'.out, ← hC'.out]; rfl, hS.out.1, hS.out.2, fun g hg => .inl hg⟩
  · have hj : Hid (M.joinJ n c i d (2 - 0) = M.join n c i d) := Lib.hid (by unfold SM.join; rw [if_neg h00])
    have h0b : ((c.ents.length : Int) == 0) = false := by rw [beq_eq_false_iff_ne]; omega
    go_wp2_with (first | (refine wpList_box_named 57 rfl rfl _ rfl hw1'.out ?_) | (refine wpList_box_named 33 rfl rfl _ rfl hw2'.out ?_; rw [s1'.out]) | (refine wpList_box_named 33 rfl rfl _ rfl hw3'.out ?_; rw [s2'.out]) | (refine wpList_alloc_as 33 rfl rfl Z.toArray hZz.out ?_; rw [hw4'.out, s3'.out]))
    obtain ⟨kb, hkb⟩ : ∃ kb, w4.heap.size = kb := ⟨_, rfl⟩
    obtain ⟨w5, hw5⟩ : ∃ w5, w4.alloc (.cells #[.int .i64 ((i : Int) - 1), .int .i64 ((i : Int) + 1)] 3) = w5 := ⟨_, rfl⟩
    have k45 := Lib.hid (show Kept (fun _ => False) w4 w5 by rw [← hw5]; exact (Kept.refl _ _).alloc _)
    have x5 := Lib.hid (show w5.heap[kb]? = some (.cells #[.int .i64 ((i : Int) - 1), .int .i64 ((i : Int) + 1)] 3 (0, 0)) by rw [← hw5, ← hkb]; exact heap_alloc_new _ _)
    rw [hkb, hw5]
    clear hw5 hkb
    go_loopw [33] (fun x wr => ∃ j : Nat, j ≤ 2 ∧ x = .int .i64 j ∧ Hid (M.joinJ n c i d (2 - j) = M.join n c i d) ∧ Hid (Kept (fun _ => False) w5 wr)) (fun x _ => 2 - (intOf x).toNat)
    case atStart => exact ⟨0, by omega, rfl, hj, Lib.hid (Kept.refl _ _)⟩
    case round =>
      obtain ⟨j, hj2, rfl, hq, hkr⟩ := hrel
      have k4r := Lib.hid (k45.out.trans hkr.out)
      have tr := Lib.hid (k4r.out.get t4.out id)
      have fr := Lib.hid (k4r.out.get f4.out id)
      have cr := Lib.hid (k4r.out.get c4.out id)
      have rr := Lib.hid (k4r.out.get r4.out id)
      have n17 := (hbn.out.kept k4r.out id).c17
      by_cases hlt2 : j < 2
      · obtain ⟨q, hqk⟩ : ∃ q : Int, (if j = 0 then (i : Int) - 1 else (i : Int) + 1) = q := ⟨_, rfl⟩
        have hqb : q = (i : Int) - 1 ∨ q = (i : Int) + 1 := by rw [← hqk]; split <;> omega
        have hcq : wr.cell? ⟨kb, j, none⟩ = some (.int .i64 q) := by
          rw [cell_of_heap (hkr.out.get x5.out id), ← hqk]
          match j, hlt2 with
          | 0, _ => rfl
          | 1, _ => rfl
        have hstep := Lib.hid ((joinJ_step M n c i d hlt2).symm.trans hq.out)
        rw [hqk] at hstep
        have hj3 : (j : Int) < 2 := by omega
        have hqb' := Lib.hid hqb
        clear hqk hqb
        by_cases hq0 : q < 0
        · have hnext := Lib.hid (show M.joinJ n c i d (2 - (j + 1)) = M.join n c i d by rw [← hstep.out]; unfold SM.joinStep; rw [if_pos (Or.inl hq0)])
          go_wp2_with fail
          go_roundw
          case rel => exact ⟨j + 1, by omega, by go_num, hnext, hkr⟩
          case measure => simp [intOf]; omega
        · obtain ⟨p, rfl⟩ := Int.eq_ofNat_of_zero_le (show 0 ≤ q by omega)
          clear hq0
          by_cases hql : (n.ents.length : Int) ≤ (p : Int)
          · have hnext := Lib.hid (show M.joinJ n c i d (2 - (j + 1)) = M.join n c i d by rw [← hstep.out]; unfold SM.joinStep; rw [if_pos (Or.inr hql)])
            go_wp2_with fail
            go_roundw
            case rel => exact ⟨j + 1, by omega, by go_num, hnext, hkr⟩
            case measure => simp [intOf]; omega
          · have hpl : p < n.ents.length := by omega
            obtain ⟨y, hy⟩ : ∃ y, n.ents[p]? = some y := ⟨_, List.getElem?_eq_getElem hpl⟩
            have cyr : wr.cell? ⟨b, off + p * 2 + 1, none⟩ = some (.int .i64 y.2) := by
              obtain ⟨b', off', hA, _, _, c⟩ := EntsAt.get (SliceAt.fresh hn'.out (k04.out.trans k4r.out)) hy
              cases hA
              exact c
            have hnode := fun (W : World) (k : Kept (fun _ => False) w W) => pruneNode (h'.out.fresh k) y.2 (d + 1) (by omega)
            have hok := fun h0 => tnode_ok h'.out (i := y.2) (d := d + 1) h0
            have hS := hstep.out
            unfold SM.joinStep at hS
            rw [if_neg (by omega)] at hS
            rw [show n.ents.getD ((p : Nat) : Int).toNat (0, 0) = y by simp [hy]] at hS
            obtain ⟨R, hR⟩ : ∃ R, M.tnode y.2 (d + 1) = R := ⟨_, rfl⟩
            simp only [hR] at hnode hok hS
            obtain ⟨m, er⟩ := R
            dsimp only at hnode hok hS
            rw [Int.natCast_add, Int.natCast_one] at hnode
            have hnode' := Lib.hid hnode
            have hok' := Lib.hid hok
            have hS' := Lib.hid hS
            have hwd : IntKind.i64.wrap ((d : Int) + 1) = (d : Int) + 1 := by rw [IntKind.wrap_i64]; omega
            have hpl' : (p : Int) < (n.ents.length : Int) := by omega
            have hcyr' := Lib.hid cyr
            have hn17' := Lib.hid n17
            clear hnode hok hS hstep hy hR hql
            go_wp2_with fail
            have held := Lib.hid (fun W (k : Kept (fun _ => False) wr W) => (⟨k.get tr.out id, k.cell hn17'.out id, k.cell hcyr'.out id⟩ : W.heap[w.heap.size]? = some (.cells #[.pointer (some ⟨A.sb, 0, none⟩)] 57 (0, 0)) ∧ W.cell? ⟨w.heap.size + 1, 17, none⟩ = some (.slice (some ⟨b, off, none⟩) n.ents.length capn) ∧ W.cell? ⟨b, off + p * 2 + 1, none⟩ = some (.int .i64 y.2)))
            refine wp_region_held_drew (S := fun W => W.heap[w.heap.size]? = some (.cells #[.pointer (some ⟨A.sb, 0, none⟩)] 57 (0, 0)) ∧ W.cell? ⟨w.heap.size + 1, 17, none⟩ = some (.slice (some ⟨b, off, none⟩) n.ents.length capn) ∧ W.cell? ⟨b, off + p * 2 + 1, none⟩ = some (.int .i64 y.2)) (by kernel_rfl) ⟨tr.out, hn17'.out, hcyr'.out⟩ (fun hH => ?_)
            refine wpAnyH_take (i := 0) (v := .agg #[.pointer (some ⟨A.sb, 0, none⟩)]) rfl (by kernel_rfl) (by kernel_rfl) (by kernel_rfl) (fun _ _ _ h => h) (Or.inl ⟨by rfl, fun W hW => exec_load_agg rfl (by rfl) [.pointer (some ⟨A.sb, 0, none⟩)] Try.underlying57 rfl (by kernel_rfl) (fun j v hj => by rw [cell_of_heap hW.1, Nat.zero_add]; simpa using hj)⟩) (by assumption) ?_
            simp only [Act.put, List.getElem_toArray, List.getElem_cons_zero, List.getElem_cons_succ, List.setIfInBounds_toArray, List.set_cons_zero, List.set_cons_succ]
            refine wpAnyH_take (i := 1) (v := .pointer (some ⟨w.heap.size + 1, 17, none⟩)) rfl (by kernel_rfl) (by kernel_rfl) (by kernel_rfl) (fun _ _ _ h => h) (Or.inl ⟨by rfl, fun W hW => by go_simp⟩) (by assumption) ?_
            simp only [Act.put, List.getElem_toArray, List.getElem_cons_zero, List.getElem_cons_succ, List.setIfInBounds_toArray, List.set_cons_zero, List.set_cons_succ]
            refine wpAnyH_take (i := 2) (v := .slice (some ⟨b, off, none⟩) n.ents.length capn) rfl (by kernel_rfl) (by kernel_rfl) (by kernel_rfl) (fun _ _ _ h => h) (Or.inl ⟨by rfl, fun W hW => by have hc := hW.2.1; clear hW; go_simp⟩) (by assumption) ?_
            simp only [Act.put, List.getElem_toArray, List.getElem_cons_zero, List.getElem_cons_succ, List.setIfInBounds_toArray, List.set_cons_zero, List.set_cons_succ]
            refine wpAnyH_take (i := 3) (v := .int .i64 p) rfl (by kernel_rfl) (by kernel_rfl) (by kernel_rfl) (fun _ _ _ h => h) (Or.inl ⟨by rfl, fun W hW => by go_simp⟩) (by assumption) ?_
            simp only [Act.put, List.getElem_toArray, List.getElem_cons_zero, List.getElem_cons_succ, List.setIfInBounds_toArray, List.set_cons_zero, List.set_cons_succ]
            refine wpAnyH_take (i := 4) (v := .pointer (some ⟨b, off + p * 2, none⟩)) rfl (by kernel_rfl) (by kernel_rfl) (by kernel_rfl) (fun _ _ _ h => h) (Or.inl ⟨by rfl, fun W hW => by go_simp⟩) (by assumption) ?_
            simp only [Act.put, List.getElem_toArray, List.getElem_cons_zero, List.getElem_cons_succ, List.setIfInBounds_toArray, List.set_cons_zero, List.set_cons_succ]
            refine wpAnyH_take (i := 5) (v := .pointer (some ⟨b, off + p * 2 + 1, none⟩)) rfl (by kernel_rfl) (by kernel_rfl) (by kernel_rfl) (fun _ _ _ h => h) (Or.inl ⟨by rfl, fun W hW => by go_simp⟩) (by assumption) ?_
            simp only [Act.put, List.getElem_toArray, List.getElem_cons_zero, List.getElem_cons_succ, List.setIfInBounds_toArray, List.set_cons_zero, List.set_cons_succ]
            refine wpAnyH_take (i := 6) (v := .int .i64 y.2) rfl (by kernel_rfl) (by kernel_rfl) (by kernel_rfl) (fun _ _ _ h => h) (Or.inl ⟨by rfl, fun W hW => by have hc := hW.2.2; clear hW; go_simp⟩) (by assumption) ?_
            simp only [Act.put, List.getElem_toArray, List.getElem_cons_zero, List.getElem_cons_succ, List.setIfInBounds_toArray, List.set_cons_zero, List.set_cons_succ]
            refine wpAnyH_take (i := 7) (v := .int .i64 d) rfl (by kernel_rfl) (by kernel_rfl) (by kernel_rfl) (fun _ _ _ h => h) (Or.inl ⟨by rfl, fun W hW => by go_simp⟩) (by assumption) ?_
            simp only [Act.put, List.getElem_toArray, List.getElem_cons_zero, List.getElem_cons_succ, List.setIfInBounds_toArray, List.set_cons_zero, List.set_cons_succ]
            refine wpAnyH_take (i := 8) (v := .int .i64 ((d : Int) + 1)) rfl (by kernel_rfl) (by kernel_rfl) (by kernel_rfl) (fun _ _ _ h => h) (Or.inl ⟨by rfl, fun W hW => by go_simp⟩) (by assumption) ?_
            simp only [Act.put, List.getElem_toArray, List.getElem_cons_zero, List.getElem_cons_succ, List.setIfInBounds_toArray, List.set_cons_zero, List.set_cons_succ]
            refine wpAnyH_ready (rs := [9, 13]) (by kernel_rfl) (by simp) ?_
            refine AllReadyH.cons rfl (fun K hK => ?_) ?_
            · rw [if_pos (by rfl)]
              simp only [Go.wp_at_zero, Go.wp_at_succ]
              go_simp
              refine (hnode'.out _ ((k04.out.trans k4r.out).trans (Kept.refl _ _).drew)).mono ?_
              rintro e w8 ⟨v8, rfl, hown8, hk8⟩
              obtain ⟨Am, capm, rfl, -⟩ := EntsAt.form (show EntsAt w8 v8 m.ents from SliceAt.of_owns hown8)
              obtain ⟨O, hO⟩ : ∃ O, nodeCells m (.slice Am m.ents.length capm) = O := ⟨_, rfl⟩
              have hOl : Hid (O.length = 18) := Lib.hid (by rw [← hO]; exact nodeCells_len _ _)
              have hO1 : Hid (∀ v ∈ O, v.oneCell' = true) := Lib.hid (by rw [← hO]; exact nodeCells_one _ _ _ _)
              rw [hO]
              have k8 : Kept (fun _ => False) wr w8 := (Kept.refl _ _).drew.trans hk8
              refine hK.out _ _ (held.out _ k8) (fun hH8 => ?_)
              clear hK K
              try simp only [Act.put, List.getElem_toArray, List.getElem_cons_zero, List.getElem_cons_succ, List.setIfInBounds_toArray, List.set_cons_zero, List.set_cons_succ]
              refine wpAnyH_take (i := 10) (v := .tuple #[.agg O.toArray, .int .i64 er]) rfl (by kernel_rfl) (by kernel_rfl) (by kernel_rfl) (fun _ _ _ h => h) (Or.inl ⟨by rfl, fun W hW => by go_simp⟩) (by assumption) ?_
              simp only [Act.put, List.getElem_toArray, List.getElem_cons_zero, List.getElem_cons_succ, List.setIfInBounds_toArray, List.set_cons_zero, List.set_cons_succ]
              refine wpAnyH_take (i := 11) (v := .agg O.toArray) rfl (by kernel_rfl) (by kernel_rfl) (by kernel_rfl) (fun _ _ _ h => h) (Or.inl ⟨by rfl, fun W hW => by go_simp⟩) (by assumption) ?_
              simp only [Act.put, List.getElem_toArray, List.getElem_cons_zero, List.getElem_cons_succ, List.setIfInBounds_toArray, List.set_cons_zero, List.set_cons_succ]
              refine wpAnyH_take (i := 12) (v := .int .i64 er) rfl (by kernel_rfl) (by kernel_rfl) (by kernel_rfl) (fun _ _ _ h => h) (Or.inl ⟨by rfl, fun W hW => by go_simp⟩) (by assumption) ?_
              simp only [Act.put, List.getElem_toArray, List.getElem_cons_zero, List.getElem_cons_succ, List.setIfInBounds_toArray, List.set_cons_zero, List.set_cons_succ]
              refine wpAnyH_ready (rs := [13]) (by kernel_rfl) (by simp) ?_
              refine AllReadyH.cons rfl (fun K hK => ?_) ?_
              · refine step_alloc_as 33 rfl rfl Z.toArray hZz.out ?_
                obtain ⟨cb, hcbe⟩ : ∃ cb, w8.heap.size = cb := ⟨_, rfl⟩
                have kc : Kept (fun _ => False) wr (w8.alloc (.cells Z.toArray 33)) := k8.alloc _
                have hcb : (w8.alloc (.cells Z.toArray 33)).heap[cb]? = some (.cells Z.toArray 33 (0, 0)) := by rw [← hcbe]; exact heap_alloc_new _ _
                have hcbn : wr.heap.size ≤ cb := by rw [← hcbe]; exact k8.size
                have hent : EntsAt (w8.alloc (.cells Z.toArray 33)) (.slice Am m.ents.length capm) m.ents := SliceAt.fresh (SliceAt.of_owns hown8) ((Kept.refl _ _).alloc _)
                have hne : (Value.slice Am m.ents.length capm).ownBlock ≠ some cb := fun e => by have := (hown8.lt cb e).2; omega
                rw [hcbe]
                refine hK.out _ _ (held.out _ kc) (fun hH9 => ?_)
                clear hK K
                try simp only [Act.put, List.getElem_toArray, List.getElem_cons_zero, List.getElem_cons_succ, List.setIfInBounds_toArray, List.set_cons_zero, List.set_cons_succ]
                refine wpAnyH_ready (rs := [14]) (by kernel_rfl) (by simp) ?_
                refine AllReadyH.cons rfl (fun K hK => ?_) ?_
                · refine step_store_whole 33 rfl rfl (by rfl) O (by rfl) (by rw [hOl.out]; exact node_size) 33 Z.toArray hcb (by simp [hOl.out, hZl.out]) hO1.out ?_
                  have kS : Kept (fun _ => False) wr ((w8.alloc (.cells Z.toArray 33)).setRow cb O.toArray) := kc.setRowNew hcbn O.toArray
                  refine hK.out _ _ (held.out _ kS) (fun hH10 => ?_)
                  clear hK K
                  try simp only [Act.put, List.getElem_toArray, List.getElem_cons_zero, List.getElem_cons_succ, List.setIfInBounds_toArray, List.set_cons_zero, List.set_cons_succ]
                  refine wpAnyH_take (i := 15) (v := .int .i64 er) rfl (by kernel_rfl) (by kernel_rfl) (by kernel_rfl) (fun _ _ _ h => h) (Or.inl ⟨by rfl, fun W hW => by go_simp⟩) (by assumption) ?_
                  simp only [Act.put, List.getElem_toArray, List.getElem_cons_zero, List.getElem_cons_succ, List.setIfInBounds_toArray, List.set_cons_zero, List.set_cons_succ]
                  refine wpAnyH_done (by kernel_rfl) ?_ _
                  have bo : NodeBox ((w8.alloc (.cells Z.toArray 33)).setRow cb O.toArray) cb m (.slice Am m.ents.length capm) := ⟨by rw [hO]; exact setRow_heap _ _ _ _ _ _ hcb⟩
                  have eo : EntsAt ((w8.alloc (.cells Z.toArray 33)).setRow cb O.toArray) (.slice Am m.ents.length capm) m.ents := SliceAt.kept hent ((Kept.refl (fun j => j = cb) _).setRow rfl O.toArray) (fun g hg e => hne (by rw [hg, e]))
                  obtain ⟨w10, hw10⟩ : ∃ w10, (w8.alloc (.cells Z.toArray 33)).setRow cb O.toArray = w10 := ⟨_, rfl⟩
                  rw [hw10] at bo eo kS ⊢
                  have bo10 := Lib.hid bo
                  have eo10 := Lib.hid eo
                  have kr10 := Lib.hid kS
                  have hO' := Lib.hid hO
                  have c10 := Lib.hid (kS.get cr.out id)
                  have r10 := Lib.hid (kS.get rr.out id)
                  have o10 := Lib.hid (show w10.heap[cb]? = some (.cells O.toArray 33 (0, 0)) by rw [← hO]; exact bo.heap)
                  clear bo eo kS hO hw10 hH hH8 hH9 hH10 hown8 hk8 k8 kc hcb hcbn hcbe hent hne
                  by_cases h0 : er = 0
                  · subst h0
                    simp only [if_true] at hS'
                    have hml := (hok'.out rfl).1.le
                    have hfits := pruneFits (w := w10) (n := c) (m := m) (An := Ac) (Am := Am) (ln := c.ents.length) (lm := m.ents.length) (cn := capc) (cm := capm) (by omega) (by omega)
                    rw [hC'.out, hO'.out] at hfits
                    have hfits' := Lib.hid hfits
                    clear hfits
                    go_wp2_with (first | (refine wpList_load_agg 33 rfl rfl rfl _ Try.underlying33 rfl C (by rw [hCl.out]; exact node_size) (fun j v hv => by rw [cell_of_heap c10.out, Nat.zero_add]; simpa using hv) ?_) | (refine wpList_load_agg 33 rfl rfl rfl _ Try.underlying33 rfl O (by rw [hOl.out]; exact node_size) (fun j v hv => by rw [cell_of_heap o10.out, Nat.zero_add]; simpa using hv) ?_))
                    refine hfits'.out.mono ?_
                    rintro e w11 ⟨rfl, hk11⟩
                    have k11 := Lib.hid (kr10.out.trans hk11)
                    have eo11 := Lib.hid (SliceAt.fresh eo10.out hk11)
                    have ec11 := Lib.hid (SliceAt.fresh hc'.out.at_ ((k04.out.trans k4r.out).trans k11.out))
                    have bo11 := Lib.hid (bo10.out.kept hk11 id)
                    clear hk11
                    by_cases hfit : c.ents.length + m.ents.length ≤ 6
                    · have hfd : decide (c.ents.length + m.ents.length ≤ 6) = true := decide_eq_true hfit
                      rw [if_pos hfit] at hS'
                      have hcc := Lib.hid (concat2 (W := w11) ec11.out eo11.out (by omega))
                      have c17o := bo11.out.c17
                      have c17c := (hbx.out.kept (k4r.out.trans k11.out) id).c17
                      go_wp2_with fail
                      refine hcc.out.mono ?_
                      rintro e w12 ⟨u, rfl, hown12, hk12⟩
                      obtain ⟨A12, cap12, rfl, -⟩ := EntsAt.form (show EntsAt w12 u (c.ents ++ m.ents) from SliceAt.of_owns hown12)
                      have k12 := Lib.hid (k11.out.trans hk12)
                      have bo12 := Lib.hid (bo11.out.kept hk12 id)
                      have bc12 := Lib.hid (hbx.out.kept (k4r.out.trans k12.out) id)
                      have c17o := bo12.out.c17
                      have c17c := bc12.out.c17
                      have c0c := bc12.out.c0
                      have r12 := Lib.hid (k12.out.get rr.out id)
                      have hown12' := Lib.hid hown12
                      have s11 := k11.out.size
                      have ec12 := Lib.hid (SliceAt.fresh ec11.out hk12)
                      have eo12 := Lib.hid (SliceAt.fresh eo11.out hk12)
                      have hs12 := hk12.size
                      clear hown12 hk12 hcc
                      obtain ⟨mn, hmn⟩ : ∃ mn, min i p = mn := ⟨_, rfl⟩
                      obtain ⟨mx, hmx⟩ : ∃ mx, max i p = mx := ⟨_, rfl⟩
                      have hmn' := Lib.hid hmn
                      have hmx' := Lib.hid hmx
                      rw [show min i ((p : Int)).toNat = mn from hmn, show max i ((p : Int)).toNat = mx from hmx] at hS'
                      have hmx7 : mx ≤ 7 := by have := hqb'.out; omega
                      have hwx : IntKind.i64.wrap ((mx : Int) + 1) = (mx : Int) + 1 := by rw [IntKind.wrap_i64]; omega
                      have hbs := k4r.out.size
                      clear hmn hmx
                      by_cases hpi : p < i
                      · rw [if_pos (show (p : Int) < (i : Int) by omega)] at hS'
                        have hpi' : decide ((p : Int) < (i : Int)) = true := decide_eq_true (by omega)
                        have hpi2 : (p : Int) < (i : Int) := by omega
                        have hcc2 := Lib.hid (concat2 (W := w12) eo12.out ec12.out (by omega))
                        go_wp2_with fail
                        refine hcc2.out.mono ?_
                        rintro e w13 ⟨u, rfl, hown13, hk13⟩
                        obtain ⟨A13, cap13, rfl, -⟩ := EntsAt.form (show EntsAt w13 u (m.ents ++ c.ents) from SliceAt.of_owns hown13)
                        have c0c := (bc12.out.kept hk13 id).c0
                        have r13 := Lib.hid (hk13.get r12.out id)
                        have k13 := Lib.hid (k12.out.trans hk13)
                        have hown13' := Lib.hid hown13
                        have hs13 := s4'.out
                        clear hown13 hk13 hcc2
                        obtain ⟨G, hG⟩ : ∃ G, nodeCells ⟨c.kind, zeros16, m.ents ++ c.ents⟩ (.slice A13 (m.ents ++ c.ents).length cap13) = G := ⟨_, rfl⟩
                        have hGl : Hid (G.length = 18) := Lib.hid (by rw [← hG]; exact nodeCells_len _ _)
                        have hG1 : Hid (∀ v ∈ G, v.oneCell' = true) := Lib.hid (by rw [← hG]; exact nodeCells_one _ _ _ _)
                        have hbld : Hid (∀ w, (Instr.build 33 #[(0, .int .i64 c.kind), (2, .slice A13 (m.ents ++ c.ents).length cap13)]).run Try.prog w = .ok (.agg G.toArray) w) := Lib.hid (fun w => by rw [← hG]; exact run_build_part _ _ (m.ents ++ c.ents) _ _ _)
                        have hG' := Lib.hid hG
                        clear hG
                        go_wp2_with (first | (refine wpList_exec rfl (exec_build 33 #[(0, .tmp 86), (2, .tmp 87)] _ rfl (by simp [Act.eval]) (hbld.out _)) ?_) | (refine wpList_minN rfl (.tmp 89) (.tmp 90) #[3, 3] rfl hmn'.out (by rfl) (by rfl) ?_) | (refine wpList_maxN rfl (.tmp 92) (.tmp 93) #[3, 3] rfl hmx'.out (by rfl) (by rfl) ?_) | (refine wpList_store_whole 33 rfl rfl rfl G rfl (by rw [hGl.out]; exact node_size) 33 _ r13.out (by simp [hGl.out, hZl.out]) hG1.out ?_))
                        refine bodyPost_ret (results_row_tmp3 rfl _ _ (w.heap.size + 3) 33 G.toArray (0, 0) _ rfl (setRow_heap _ _ _ _ 33 (0, 0) r13.out) Try.underlying33 rfl (by simp only [List.size_toArray]; rw [hGl.out]; exact node_size)) rfl ?_
                        have kS := (Kept.refl (fun j => j = w.heap.size + 3) w13).setRow rfl G.toArray
                        have hoS := ownsRow.keptOf hown13'.out kS (fun g hg e => by have := (hown13'.out.lt g hg).1; omega)
                        refine ⟨.slice A13 (m.ents ++ c.ents).length cap13, by rw [← hS'.out, ← hG'.out]; rfl, ?_, ((k04.out.trans k4r.out).trans k13.out).setRowNew (by omega) _, fun g hg => .inr (by have h1 := (hoS.lt g hg).1; omega)⟩
                        rw [← hS'.out]
                        exact EntsOff.of_owns h'.out hoS (by omega)
                      · rw [if_neg (show ¬ (p : Int) < (i : Int) by omega)] at hS'
                        have hpi' : decide ((p : Int) < (i : Int)) = false := decide_eq_false (by omega)
                        have hpi2 : ¬ (p : Int) < (i : Int) := by omega
                        have hs13 := s4'.out
                        obtain ⟨G, hG⟩ : ∃ G, nodeCells ⟨c.kind, zeros16, c.ents ++ m.ents⟩ (.slice A12 (c.ents ++ m.ents).length cap12) = G := ⟨_, rfl⟩
                        have hGl : Hid (G.length = 18) := Lib.hid (by rw [← hG]; exact nodeCells_len _ _)
                        have hG1 : Hid (∀ v ∈ G, v.oneCell' = true) := Lib.hid (by rw [← hG]; exact nodeCells_one _ _ _ _)
                        have hbld : Hid (∀ w, (Instr.build 33 #[(0, .int .i64 c.kind), (2, .slice A12 (c.ents ++ m.ents).length cap12)]).run Try.prog w = .ok (.agg G.toArray) w) := Lib.hid (fun w => by rw [← hG]; exact run_build_part _ _ (c.ents ++ m.ents) _ _ _)
                        have hG' := Lib.hid hG
                        clear hG
                        go_wp2_with (first | (refine wpList_exec rfl (exec_build 33 #[(0, .tmp 86), (2, .tmp 87)] _ rfl (by simp [Act.eval]) (hbld.out _)) ?_) | (refine wpList_minN rfl (.tmp 89) (.tmp 90) #[3, 3] rfl hmn'.out (by rfl) (by rfl) ?_) | (refine wpList_maxN rfl (.tmp 92) (.tmp 93) #[3, 3] rfl hmx'.out (by rfl) (by rfl) ?_) | (refine wpList_store_whole 33 rfl rfl rfl G rfl (by rw [hGl.out]; exact node_size) 33 _ r12.out (by simp [hGl.out, hZl.out]) hG1.out ?_))
                        refine bodyPost_ret (results_row_tmp3 rfl _ _ (w.heap.size + 3) 33 G.toArray (0, 0) _ rfl (setRow_heap _ _ _ _ 33 (0, 0) r12.out) Try.underlying33 rfl (by simp only [List.size_toArray]; rw [hGl.out]; exact node_size)) rfl ?_
                        have kS := (Kept.refl (fun j => j = w.heap.size + 3) w12).setRow rfl G.toArray
                        have hoS := ownsRow.keptOf hown12'.out kS (fun g hg e => by have := (hown12'.out.lt g hg).1; omega)
                        refine ⟨.slice A12 (c.ents ++ m.ents).length cap12, by rw [← hS'.out, ← hG'.out]; rfl, ?_, ((k04.out.trans k4r.out).trans k12.out).setRowNew (by omega) _, fun g hg => .inr (by have h1 := (hoS.lt g hg).1; omega)⟩
                        rw [← hS'.out]
                        exact EntsOff.of_owns h'.out hoS (by omega)
                    · have hfd : decide (c.ents.length + m.ents.length ≤ 6) = false := decide_eq_false hfit
                      rw [if_neg hfit] at hS'
                      have hkn := Lib.hid (hkr.out.trans k11.out)
                      go_wp2_with fail
                      go_roundw
                      case rel => exact ⟨j + 1, by omega, by go_num, hS', hkn⟩
                      case measure => simp [intOf]; omega
                  · have hend : M.join n c i d = (c, i, i + 1, er) := by rw [← hS'.out, if_neg h0]
                    have hend' := Lib.hid hend
                    have h0' : ((er : Int) == 0) = false := by rw [beq_eq_false_iff_ne]; omega
                    have hS := Lib.hid (stop.out w10 i (i + 1) er (k4r.out.trans kr10.out) hend)
                    clear hend h0
                    go_wp2_with (first | (refine wpList_load_agg 33 rfl rfl rfl _ Try.underlying33 rfl C (by rw [hCl.out]; exact node_size) (fun j v hv => by rw [cell_of_heap c10.out, Nat.zero_add]; simpa using hv) ?_) | (refine wpList_store_whole 33 rfl rfl rfl C rfl (by rw [hCl.out]; exact node_size) 33 _ r10.out (by simp [hCl.out, hZl.out]) hC1.out ?_))
                    refine bodyPost_ret (results_row_tmp3 rfl _ _ (w.heap.size + 3) 33 C.toArray (0, 0) _ rfl (setRow_heap _ _ _ _ 33 (0, 0) r10.out) Try.underlying33 rfl (by simp only [List.size_toArray]; rw [hCl.out]; exact node_size)) rfl ?_
                    exact ⟨.slice Ac c.ents.length capc, by rw [hend'.out, ← hC'.out]; rfl, hS.out.1, hS.out.2, fun g hg => .inl hg⟩
                exact AllReadyH.nil
              exact AllReadyH.nil
            refine AllReadyH.cons rfl (fun K hK => ?_) ?_
            · refine step_alloc_as 33 rfl rfl Z.toArray hZz.out ?_
              obtain ⟨cb, hcbe⟩ : ∃ cb, wr.drew.heap.size = cb := ⟨_, rfl⟩
              have hcb0 : (wr.drew.alloc (.cells Z.toArray 33)).heap[cb]? = some (.cells Z.toArray 33 (0, 0)) := by rw [← hcbe]; exact heap_alloc_new _ _
              have hcs : (wr.drew.alloc (.cells Z.toArray 33)).heap.size = cb + 1 := by rw [← hcbe]; simp
              have hcbn : wr.heap.size ≤ cb := by rw [← hcbe]; exact Nat.le_refl _
              rw [hcbe]
              have k8 : Kept (fun _ => False) wr (wr.drew.alloc (.cells Z.toArray 33)) := (Kept.refl _ _).drew.alloc _
              obtain ⟨w8, hw8⟩ : ∃ w8, wr.drew.alloc (.cells Z.toArray 33) = w8 := ⟨_, rfl⟩
              rw [hw8] at hcb0 hcs k8 ⊢
              refine hK.out _ _ (held.out _ k8) (fun hH8 => ?_)
              clear hK K
              try simp only [Act.put, List.getElem_toArray, List.getElem_cons_zero, List.getElem_cons_succ, List.setIfInBounds_toArray, List.set_cons_zero, List.set_cons_succ]
              refine wpAnyH_ready (rs := [9]) (by kernel_rfl) (by simp) ?_
              refine AllReadyH.cons rfl (fun K hK => ?_) ?_
              · rw [if_pos (by rfl)]
                simp only [Go.wp_at_zero, Go.wp_at_succ]
                go_simp
                refine (hnode'.out _ ((k04.out.trans k4r.out).trans k8)).mono ?_
                rintro e w9 ⟨v8, rfl, hown8, hk8⟩
                obtain ⟨Am, capm, rfl, -⟩ := EntsAt.form (show EntsAt w9 v8 m.ents from SliceAt.of_owns hown8)
                obtain ⟨O, hO⟩ : ∃ O, nodeCells m (.slice Am m.ents.length capm) = O := ⟨_, rfl⟩
                have hOl : Hid (O.length = 18) := Lib.hid (by rw [← hO]; exact nodeCells_len _ _)
                have hO1 : Hid (∀ v ∈ O, v.oneCell' = true) := Lib.hid (by rw [← hO]; exact nodeCells_one _ _ _ _)
                rw [hO]
                have kc : Kept (fun _ => False) wr w9 := k8.trans hk8
                have hcb := hk8.get hcb0 id
                have hent : EntsAt w9 (.slice Am m.ents.length capm) m.ents := SliceAt.of_owns hown8
                have hne : (Value.slice Am m.ents.length capm).ownBlock ≠ some cb := fun e => by have := (hown8.lt cb e).1; omega
                refine hK.out _ _ (held.out _ kc) (fun hH9 => ?_)
                clear hK K
                try simp only [Act.put, List.getElem_toArray, List.getElem_cons_zero, List.getElem_cons_succ, List.setIfInBounds_toArray, List.set_cons_zero, List.set_cons_succ]
                refine wpAnyH_take (i := 10) (v := .tuple #[.agg O.toArray, .int .i64 er]) rfl (by kernel_rfl) (by kernel_rfl) (by kernel_rfl) (fun _ _ _ h => h) (Or.inl ⟨by rfl, fun W hW => by go_simp⟩) (by assumption) ?_
                simp only [Act.put, List.getElem_toArray, List.getElem_cons_zero, List.getElem_cons_succ, List.setIfInBounds_toArray, List.set_cons_zero, List.set_cons_succ]
                refine wpAnyH_take (i := 11) (v := .agg O.toArray) rfl (by kernel_rfl) (by kernel_rfl) (by kernel_rfl) (fun _ _ _ h => h) (Or.inl ⟨by rfl, fun W hW => by go_simp⟩) (by assumption) ?_
                simp only [Act.put, List.getElem_toArray, List.getElem_cons_zero, List.getElem_cons_succ, List.setIfInBounds_toArray, List.set_cons_zero, List.set_cons_succ]
                refine wpAnyH_take (i := 12) (v := .int .i64 er) rfl (by kernel_rfl) (by kernel_rfl) (by kernel_rfl) (fun _ _ _ h => h) (Or.inl ⟨by rfl, fun W hW => by go_simp⟩) (by assumption) ?_
                simp only [Act.put, List.getElem_toArray, List.getElem_cons_zero, List.getElem_cons_succ, List.setIfInBounds_toArray, List.set_cons_zero, List.set_cons_succ]
                refine wpAnyH_ready (rs := [14]) (by kernel_rfl) (by simp) ?_
                refine AllReadyH.cons rfl (fun K hK => ?_) ?_
                · refine step_store_whole 33 rfl rfl (by rfl) O (by rfl) (by rw [hOl.out]; exact node_size) 33 Z.toArray hcb (by simp [hOl.out, hZl.out]) hO1.out ?_
                  have kS : Kept (fun _ => False) wr (w9.setRow cb O.toArray) := kc.setRowNew hcbn O.toArray
                  refine hK.out _ _ (held.out _ kS) (fun hH10 => ?_)
                  clear hK K
                  try simp only [Act.put, List.getElem_toArray, List.getElem_cons_zero, List.getElem_cons_succ, List.setIfInBounds_toArray, List.set_cons_zero, List.set_cons_succ]
                  refine wpAnyH_take (i := 15) (v := .int .i64 er) rfl (by kernel_rfl) (by kernel_rfl) (by kernel_rfl) (fun _ _ _ h => h) (Or.inl ⟨by rfl, fun W hW => by go_simp⟩) (by assumption) ?_
                  simp only [Act.put, List.getElem_toArray, List.getElem_cons_zero, List.getElem_cons_succ, List.setIfInBounds_toArray, List.set_cons_zero, List.set_cons_succ]
                  refine wpAnyH_done (by kernel_rfl) ?_ _
                  have bo : NodeBox (w9.setRow cb O.toArray) cb m (.slice Am m.ents.length capm) := ⟨by rw [hO]; exact setRow_heap _ _ _ _ _ _ hcb⟩
                  have eo : EntsAt (w9.setRow cb O.toArray) (.slice Am m.ents.length capm) m.ents := SliceAt.kept hent ((Kept.refl (fun j => j = cb) _).setRow rfl O.toArray) (fun g hg e => hne (by rw [hg, e]))
                  obtain ⟨w10, hw10⟩ : ∃ w10, w9.setRow cb O.toArray = w10 := ⟨_, rfl⟩
                  rw [hw10] at bo eo kS ⊢
                  have bo10 := Lib.hid bo
                  have eo10 := Lib.hid eo
                  have kr10 := Lib.hid kS
                  have hO' := Lib.hid hO
                  have c10 := Lib.hid (kS.get cr.out id)
                  have r10 := Lib.hid (kS.get rr.out id)
                  have o10 := Lib.hid (show w10.heap[cb]? = some (.cells O.toArray 33 (0, 0)) by rw [← hO]; exact bo.heap)
                  clear bo eo kS hO hw10 hH hH8 hH9 hH10 hown8 hk8 k8 kc hcb hcb0 hcs hcbn hcbe hw8 hent hne
                  by_cases h0 : er = 0
                  · subst h0
                    simp only [if_true] at hS'
                    have hml := (hok'.out rfl).1.le
                    have hfits := pruneFits (w := w10) (n := c) (m := m) (An := Ac) (Am := Am) (ln := c.ents.length) (lm := m.ents.length) (cn := capc) (cm := capm) (by omega) (by omega)
                    rw [hC'.out, hO'.out] at hfits
                    have hfits' := Lib.hid hfits
                    clear hfits
                    go_wp2_with (first | (refine wpList_load_agg 33 rfl rfl rfl _ Try.underlying33 rfl C (by rw [hCl.out]; exact node_size) (fun j v hv => by rw [cell_of_heap c10.out, Nat.zero_add]; simpa using hv) ?_) | (refine wpList_load_agg 33 rfl rfl rfl _ Try.underlying33 rfl O (by rw [hOl.out]; exact node_size) (fun j v hv => by rw [cell_of_heap o10.out, Nat.zero_add]; simpa using hv) ?_))
                    refine hfits'.out.mono ?_
                    rintro e w11 ⟨rfl, hk11⟩
                    have k11 := Lib.hid (kr10.out.trans hk11)
                    have eo11 := Lib.hid (SliceAt.fresh eo10.out hk11)
                    have ec11 := Lib.hid (SliceAt.fresh hc'.out.at_ ((k04.out.trans k4r.out).trans k11.out))
                    have bo11 := Lib.hid (bo10.out.kept hk11 id)
                    clear hk11
                    by_cases hfit : c.ents.length + m.ents.length ≤ 6
                    · have hfd : decide (c.ents.length + m.ents.length ≤ 6) = true := decide_eq_true hfit
                      rw [if_pos hfit] at hS'
                      have hcc := Lib.hid (concat2 (W := w11) ec11.out eo11.out (by omega))
                      have c17o := bo11.out.c17
                      have c17c := (hbx.out.kept (k4r.out.trans k11.out) id).c17
                      go_wp2_with fail
                      refine hcc.out.mono ?_
                      rintro e w12 ⟨u, rfl, hown12, hk12⟩
                      obtain ⟨A12, cap12, rfl, -⟩ := EntsAt.form (show EntsAt w12 u (c.ents ++ m.ents) from SliceAt.of_owns hown12)
                      have k12 := Lib.hid (k11.out.trans hk12)
                      have bo12 := Lib.hid (bo11.out.kept hk12 id)
                      have bc12 := Lib.hid (hbx.out.kept (k4r.out.trans k12.out) id)
                      have c17o := bo12.out.c17
                      have c17c := bc12.out.c17
                      have c0c := bc12.out.c0
                      have r12 := Lib.hid (k12.out.get rr.out id)
                      have hown12' := Lib.hid hown12
                      have s11 := k11.out.size
                      have ec12 := Lib.hid (SliceAt.fresh ec11.out hk12)
                      have eo12 := Lib.hid (SliceAt.fresh eo11.out hk12)
                      have hs12 := hk12.size
                      clear hown12 hk12 hcc
                      obtain ⟨mn, hmn⟩ : ∃ mn, min i p = mn := ⟨_, rfl⟩
                      obtain ⟨mx, hmx⟩ : ∃ mx, max i p = mx := ⟨_, rfl⟩
                      have hmn' := Lib.hid hmn
                      have hmx' := Lib.hid hmx
                      rw [show min i ((p : Int)).toNat = mn from hmn, show max i ((p : Int)).toNat = mx from hmx] at hS'
                      have hmx7 : mx ≤ 7 := by have := hqb'.out; omega
                      have hwx : IntKind.i64.wrap ((mx : Int) + 1) = (mx : Int) + 1 := by rw [IntKind.wrap_i64]; omega
                      have hbs := k4r.out.size
                      clear hmn hmx
                      by_cases hpi : p < i
                      · rw [if_pos (show (p : Int) < (i : Int) by omega)] at hS'
                        have hpi' : decide ((p : Int) < (i : Int)) = true := decide_eq_true (by omega)
                        have hpi2 : (p : Int) < (i : Int) := by omega
                        have hcc2 := Lib.hid (concat2 (W := w12) eo12.out ec12.out (by omega))
                        go_wp2_with fail
                        refine hcc2.out.mono ?_
                        rintro e w13 ⟨u, rfl, hown13, hk13⟩
                        obtain ⟨A13, cap13, rfl, -⟩ := EntsAt.form (show EntsAt w13 u (m.ents ++ c.ents) from SliceAt.of_owns hown13)
                        have c0c := (bc12.out.kept hk13 id).c0
                        have r13 := Lib.hid (hk13.get r12.out id)
                        have k13 := Lib.hid (k12.out.trans hk13)
                        have hown13' := Lib.hid hown13
                        have hs13 := s4'.out
                        clear hown13 hk13 hcc2
                        obtain ⟨G, hG⟩ : ∃ G, nodeCells ⟨c.kind, zeros16, m.ents ++ c.ents⟩ (.slice A13 (m.ents ++ c.ents).length cap13) = G := ⟨_, rfl⟩
                        have hGl : Hid (G.length = 18) := Lib.hid (by rw [← hG]; exact nodeCells_len _ _)
                        have hG1 : Hid (∀ v ∈ G, v.oneCell' = true) := Lib.hid (by rw [← hG]; exact nodeCells_one _ _ _ _)
                        have hbld : Hid (∀ w, (Instr.build 33 #[(0, .int .i64 c.kind), (2, .slice A13 (m.ents ++ c.ents).length cap13)]).run Try.prog w = .ok (.agg G.toArray) w) := Lib.hid (fun w => by rw [← hG]; exact run_build_part _ _ (m.ents ++ c.ents) _ _ _)
                        have hG' := Lib.hid hG
                        clear hG
                        go_wp2_with (first | (refine wpList_exec rfl (exec_build 33 #[(0, .tmp 86), (2, .tmp 87)] _ rfl (by simp [Act.eval]) (hbld.out _)) ?_) | (refine wpList_minN rfl (.tmp 89) (.tmp 90) #[3, 3] rfl hmn'.out (by rfl) (by rfl) ?_) | (refine wpList_maxN rfl (.tmp 92) (.tmp 93) #[3, 3] rfl hmx'.out (by rfl) (by rfl) ?_) | (refine wpList_store_whole 33 rfl rfl rfl G rfl (by rw [hGl.out]; exact node_size) 33 _ r13.out (by simp [hGl.out, hZl.out]) hG1.out ?_))
                        refine bodyPost_ret (results_row_tmp3 rfl _ _ (w.heap.size + 3) 33 G.toArray (0, 0) _ rfl (setRow_heap _ _ _ _ 33 (0, 0) r13.out) Try.underlying33 rfl (by simp only [List.size_toArray]; rw [hGl.out]; exact node_size)) rfl ?_
                        have kS := (Kept.refl (fun j => j = w.heap.size + 3) w13).setRow rfl G.toArray
                        have hoS := ownsRow.keptOf hown13'.out kS (fun g hg e => by have := (hown13'.out.lt g hg).1; omega)
                        refine ⟨.slice A13 (m.ents ++ c.ents).length cap13, by rw [← hS'.out, ← hG'.out]; rfl, ?_, ((k04.out.trans k4r.out).trans k13.out).setRowNew (by omega) _, fun g hg => .inr (by have h1 := (hoS.lt g hg).1; omega)⟩
                        rw [← hS'.out]
                        exact EntsOff.of_owns h'.out hoS (by omega)
                      · rw [if_neg (show ¬ (p : Int) < (i : Int) by omega)] at hS'
                        have hpi' : decide ((p : Int) < (i : Int)) = false := decide_eq_false (by omega)
                        have hpi2 : ¬ (p : Int) < (i : Int) := by omega
                        have hs13 := s4'.out
                        obtain ⟨G, hG⟩ : ∃ G, nodeCells ⟨c.kind, zeros16, c.ents ++ m.ents⟩ (.slice A12 (c.ents ++ m.ents).length cap12) = G := ⟨_, rfl⟩
                        have hGl : Hid (G.length = 18) := Lib.hid (by rw [← hG]; exact nodeCells_len _ _)
                        have hG1 : Hid (∀ v ∈ G, v.oneCell' = true) := Lib.hid (by rw [← hG]; exact nodeCells_one _ _ _ _)
                        have hbld : Hid (∀ w, (Instr.build 33 #[(0, .int .i64 c.kind), (2, .slice A12 (c.ents ++ m.ents).length cap12)]).run Try.prog w = .ok (.agg G.toArray) w) := Lib.hid (fun w => by rw [← hG]; exact run_build_part _ _ (c.ents ++ m.ents) _ _ _)
                        have hG' := Lib.hid hG
                        clear hG
                        go_wp2_with (first | (refine wpList_exec rfl (exec_build 33 #[(0, .tmp 86), (2, .tmp 87)] _ rfl (by simp [Act.eval]) (hbld.out _)) ?_) | (refine wpList_minN rfl (.tmp 89) (.tmp 90) #[3, 3] rfl hmn'.out (by rfl) (by rfl) ?_) | (refine wpList_maxN rfl (.tmp 92) (.tmp 93) #[3, 3] rfl hmx'.out (by rfl) (by rfl) ?_) | (refine wpList_store_whole 33 rfl rfl rfl G rfl (by rw [hGl.out]; exact node_size) 33 _ r12.out (by simp [hGl.out, hZl.out]) hG1.out ?_))
                        refine bodyPost_ret (results_row_tmp3 rfl _ _ (w.heap.size + 3) 33 G.toArray (0, 0) _ rfl (setRow_heap _ _ _ _ 33 (0, 0) r12.out) Try.underlying33 rfl (by simp only [List.size_toArray]; rw [hGl.out]; exact node_size)) rfl ?_
                        have kS := (Kept.refl (fun j => j = w.heap.size + 3) w12).setRow rfl G.toArray
                        have hoS := ownsRow.keptOf hown12'.out kS (fun g hg e => by have := (hown12'.out.lt g hg).1; omega)
                        refine ⟨.slice A12 (c.ents ++ m.ents).length cap12, by rw [← hS'.out, ← hG'.out]; rfl, ?_, ((k04.out.trans k4r.out).trans k12.out).setRowNew (by omega) _, fun g hg => .inr (by have h1 := (hoS.lt g hg).1; omega)⟩
                        rw [← hS'.out]
                        exact EntsOff.of_owns h'.out hoS (by omega)
                    · have hfd : decide (c.ents.length + m.ents.length ≤ 6) = false := decide_eq_false hfit
                      rw [if_neg hfit] at hS'
                      have hkn := Lib.hid (hkr.out.trans k11.out)
                      go_wp2_with fail
                      go_roundw
                      case rel => exact ⟨j + 1, by omega, by go_num, hS', hkn⟩
                      case measure => simp [intOf]; omega
                  · have hend : M.join n c i d = (c, i, i + 1, er) := by rw [← hS'.out, if_neg h0]
                    have hend' := Lib.hid hend
                    have h0' : ((er : Int) == 0) = false := by rw [beq_eq_false_iff_ne]; omega
                    have hS := Lib.hid (stop.out w10 i (i + 1) er (k4r.out.trans kr10.out) hend)
                    clear hend h0
                    go_wp2_with (first | (refine wpList_load_agg 33 rfl rfl rfl _ Try.underlying33 rfl C (by rw [hCl.out]; exact node_size) (fun j v hv => by rw [cell_of_heap c10.out, Nat.zero_add]; simpa using hv) ?_) | (refine wpList_store_whole 33 rfl rfl rfl C rfl (by rw [hCl.out]; exact node_size) 33 _ r10.out (by simp [hCl.out, hZl.out]) hC1.out ?_))
                    refine bodyPost_ret (results_row_tmp3 rfl _ _ (w.heap.size + 3) 33 C.toArray (0, 0) _ rfl (setRow_heap _ _ _ _ 33 (0, 0) r10.out) Try.underlying33 rfl (by simp only [List.size_toArray]; rw [hCl.out]; exact node_size)) rfl ?_
                    exact ⟨.slice Ac c.ents.length capc, by rw [hend'.out, ← hC'.out]; rfl, hS.out.1, hS.out.2, fun g hg => .inl hg⟩
                exact AllReadyH.nil
              exact AllReadyH.nil
            exact AllReadyH.nil
      · obtain rfl : j = 2 := by omega
        have hend : M.join n c i d = (c, i, i + 1, 0) := hq.out.symm
        have hend' := Lib.hid hend
        have hS := Lib.hid (stop.out wr i (i + 1) 0 k4r.out hend)
        clear hend
        go_wp2_with (first | (refine wpList_load_agg 33 rfl rfl rfl _ Try.underlying33 rfl C (by rw [hCl.out]; exact node_size) (fun j v hv => by rw [cell_of_heap cr.out, Nat.zero_add]; simpa using hv) ?_) | (refine wpList_store_whole 33 rfl rfl rfl C rfl (by rw [hCl.out]; exact node_size) 33 _ rr.out (by simp [hCl.out, hZl.out]) hC1.out ?_))
        refine bodyPost_ret (results_row_tmp3 rfl _ _ (w.heap.size + 3) 33 C.toArray (0, 0) _ rfl (setRow_heap _ _ _ _ 33 (0, 0) rr.out) Try.underlying33 rfl (by simp only [List.size_toArray]; rw [hCl.out]; exact node_size)) rfl ?_
        exact ⟨.slice Ac c.ents.length capc, by rw [hend'.out, ← hC'.out]; rfl, hS.out.1, hS.out.2, fun g hg => .inl hg⟩
end Go.Proofs.Ythmjcbmeiabbgaa
