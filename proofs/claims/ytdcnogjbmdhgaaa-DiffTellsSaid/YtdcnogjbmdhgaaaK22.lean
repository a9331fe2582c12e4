/-
 slices.Insert at entries: a new row; then all three ways at once.
-/
import Derived.Test.YtdcnogjbmdhgaaaK17
import Derived.Test.YtdcnogjbmdhgaaaK21
import Derived.Lib.AppendZerosOnto
set_option linter.unusedVariables false
set_option linter.unusedSimpArgs false
namespace Go.Proofs.Ytdcnogjbmdhgaaa
open Go.RowKit
set_option maxRecDepth 100000

theorem grown_cells {c0 : List Value} {l : List (Int × Int)} {x : Int × Int} {i n G : Nat} (hn : n = l.length) (hi : i < n) (hG : n + 1 ≤ G) (hcl : c0.length = G * 2) (h1 : c0.take (i * 2) = entCells (l.take i)) :
  (splice (splice c0 (i * 2) (entCells [x])) ((i + 1) * 2) (entCells (l.drop i))).take ((n + 1) * 2) = entCells (l.take i ++ [x] ++ l.drop i) ∧ (splice c0 (i * 2) (entCells [x])).length = G * 2 ∧ (splice (splice c0 (i * 2) (entCells [x])) ((i + 1) * 2) (entCells (l.drop i))).length = G * 2 := by
 have hd : (entCells (l.drop i)).length = (n - i) * 2 := by rw [entCells_len, List.length_drop, hn]
 have hx : (entCells [x]).length = 2 := by rw [entCells_len]; rfl
 have ht : (entCells (l.take i)).length = i * 2 := by rw [entCells_len, List.length_take]; omega
 obtain ⟨D, hD⟩ : ∃ D, entCells (l.drop i) = D := ⟨_, rfl⟩
 obtain ⟨X, hX⟩ : ∃ X, entCells [x] = X := ⟨_, rfl⟩
 obtain ⟨T, hT⟩ : ∃ T, entCells (l.take i) = T := ⟨_, rfl⟩
 rw [entCells_append, entCells_append, hD, hX, hT]
 rw [hD] at hd; rw [hX] at hx; rw [hT] at ht h1
 obtain ⟨R, hR⟩ : ∃ R, c0.drop (i * 2 + X.length) = R := ⟨_, rfl⟩
 have hRl : R.length = G * 2 - (i + 1) * 2 := by rw [← hR, List.length_drop]; omega
 have e1 : splice c0 (i * 2) X = (T ++ X) ++ R := by
  unfold splice
  rw [hR, h1, List.append_assoc]
 have e2 : splice ((T ++ X) ++ R) ((i + 1) * 2) D = ((T ++ X) ++ D) ++ R.drop D.length := by
  unfold splice
  have hl : (T ++ X).length = (i + 1) * 2 := by rw [List.length_append]; omega
  rw [← hl, List.take_left, ← List.drop_drop, List.drop_left, List.append_assoc (T ++ X)]
 rw [e1, e2]
 refine ⟨?_, by simp only [List.length_append]; omega, by simp only [List.length_append, List.length_drop]; omega⟩
 rw [List.take_left' (by simp only [List.length_append]; omega)]

set_option maxHeartbeats 4000000 in
theorem insertGrow {w : World} {base n cap g gb i : Nat} {cur : List Value} {l : List (Int × Int)} {x : Int × Int} (hcur : w.heap[gb]? = some (.cells cur.toArray 58 (0, 0))) (hcl : cur.length = cap * 2) (hc : cur.take (n * 2) = entCells l) (hn : n = l.length) (hb : base ≤ w.heap.size)
  (hg : w.heap[g]? = some (.cells #[.int .i64 x.1, .int .i64 x.2] 58 (0, 0))) (hi : i < n) (hcap : n ≤ cap) (hroom : cap < n + 1) (hlen : n ≤ 1000) :
  Calls Try.prog 49 #[.slice (some ⟨gb, 0, none⟩) n cap, .int .i64 i, .slice (some ⟨g, 0, none⟩) 1 1] w fun e w' => ∃ v, e = .returned v ∧ w'.ownsRow base 58 2 v (n + 1) (entCells (l.take i ++ [x] ++ l.drop i)) ∧ Kept (fun _ => False) w w' := by
 obtain ⟨I, z, hi0, hz0, hzs, hzb, hzc⟩ := elemEntry.info
 have hgw := lt_of_heap hg
 have hbw := lt_of_heap hcur
 have hDl : (entCells (l.drop i)).length = (n - i) * 2 := by rw [entCells_len, List.length_drop, hn]
 have hXl : (entCells [x]).length = 1 * 2 := entCells_len _
 have hsplit : cur.take (n * 2) = entCells (l.take i) ++ entCells (l.drop i) := by rw [hc, ← entCells_append, List.take_append_drop]
 have hTl : (entCells (l.take i)).length = i * 2 := by rw [entCells_len, List.length_take]; omega
 have hcell : ∀ (j : Nat) (v : Value), (entCells (l.drop i))[j]? = some v → cur[i * 2 + j]? = some v := fun j v hj => by
  have h2 : (cur.take (n * 2))[i * 2 + j]? = some v := by
   rw [hsplit, List.getElem?_append_right (by omega), hTl, show i * 2 + j - i * 2 = j by omega]
   exact hj
  rw [List.getElem?_take] at h2
  split at h2
  ·exact h2
  ·cases h2
 have hcellT : ∀ (j : Nat) (v : Value), (entCells (l.take i))[j]? = some v → cur[j]? = some v := fun j v hj => by
  have h2 : (cur.take (n * 2))[j]? = some v := by
   rw [hsplit, List.getElem?_append_left (List.getElem?_eq_some_iff.1 hj).1]
   exact hj
  rw [List.getElem?_take] at h2
  split at h2
  ·exact h2
  ·cases h2
 have hkk : (n : Int) + 1 - (i : Int) = ((n + 1 - i : Nat) : Int) := by omega
 have hik : i + (n + 1 - i) = n + 1 := by omega
 obtain ⟨G, hG⟩ : ∃ G, G = grownCap w (n + 1) cap 58 := ⟨_, rfl⟩
 obtain ⟨ROW, hROW⟩ : ∃ ROW : Array Value, ROW = (entCells (l.take i)).toArray ++ Builtin.zeroCells z.cells (n + 1 - i) ++ Builtin.zeroCells z.cells (G - (n + 1)) := ⟨_, rfl⟩
 have hold : (Builtin.firstCells I.size i (.slice (some ⟨gb, 0, none⟩) i cap)).run Try.prog w.drew = .ok (entCells (l.take i)).toArray w.drew := by
  rw [hzs]
  exact run_firstCells_some w.drew 2 i ⟨gb, 0, none⟩ i cap (entCells (l.take i)) hTl (fun j v hj => by
   rw [addr_add, Nat.zero_add, show w.drew.cell? ⟨gb, j, none⟩ = w.cell? ⟨gb, j, none⟩ from rfl, cell_of_heap hcur]
   simpa using hcellT j v hj)
 have hrz : ∀ ty, (Builtin.append_ #[36, 3] ty #[.slice (some ⟨gb, 0, none⟩) i cap, .int .i64 ((n : Int) + 1 - (i : Int))]).run Try.prog w =
   .ok (.slice (some ⟨w.heap.size, 0, none⟩) (n + 1) G) (w.drew.alloc (.cells ROW 58)) := fun ty => by
  have h := Lib.run_append_grow_zeros (P := Try.prog) w 36 3 ty 58 I z .i64 .i64 elemEntry.ht Try.underlying3 hi0 hz0 (some ⟨gb, 0, none⟩) i cap (entCells (l.take i)) hold (n + 1 - i) (by omega) (by omega) (by omega) (by omega) (by rw [hzb]; omega) (by rw [hzb, hik]; exact growslice_fits hroom (by omega))
  rw [hik, ← hG, ← hROW] at h
  rw [hkk]
  exact h
 have hGn : n + 1 ≤ G := by rw [hG]; exact grownCap_ge w _ _ _
 have hGm : G ≤ maxLen := by rw [hG]; exact grownCap_le_maxLen w (n + 1) cap _ (by unfold maxLen; omega)
 have hRl : ROW.size = G * 2 := by
  rw [hROW]
  have e1 : i * 2 + (n + 1 - i) * 2 + (G - (n + 1)) * 2 = G * 2 := by omega
  simp only [Builtin.zeroCells, Array.size_append, List.size_toArray, List.length_map, List.length_range, Array.size_map, Array.size_range, Array.size_ofFn, hzc, hTl]
  exact e1
 have hRt : ROW.toList.take (i * 2) = entCells (l.take i) := by
  rw [hROW]
  simp only [Array.toList_append, List.append_assoc]
  exact List.take_left' hTl
 clear hROW hold
 obtain ⟨c0, rfl⟩ : ∃ c0 : List Value, ROW = c0.toArray := ⟨ROW.toList, by simp⟩
 rw [List.size_toArray] at hRl
 rw [List.toList_toArray] at hRt
 obtain ⟨hp1, hp2, hp3⟩ := grown_cells hn hi hGn hRl hRt (x := x)
 obtain ⟨g2, hg2⟩ : ∃ g2, w.heap.size = g2 := ⟨_, rfl⟩
 obtain ⟨W1, hW1⟩ : ∃ W1, W1 = w.drew.alloc (.cells c0.toArray 58) := ⟨_, rfl⟩
 rw [← hW1] at hrz
 have hk1 : Kept (fun _ => False) w W1 := by rw [hW1]; exact (Kept.refl _ w).drew.alloc _
 have hR1 : W1.heap[g2]? = some (.cells c0.toArray 58 (0, 0)) := by rw [hW1, ← hg2]; exact heap_alloc_new w.drew _
 have hgA : W1.heap[g]? = some (.cells #[.int .i64 x.1, .int .i64 x.2] 58 (0, 0)) := hk1.get hg id
 obtain ⟨c1, hcs1⟩ : ∃ c1, splice c0 (i * 2) (entCells [x]) = c1 := ⟨_, rfl⟩
 rw [hcs1] at hp1 hp2 hp3
 obtain ⟨W2, hW2⟩ : ∃ W2, W2 = W1.setRow g2 (c0.take (i * 2) ++ entCells [x] ++ c0.drop (i * 2 + (entCells [x]).length)).toArray := ⟨_, rfl⟩
 have hcpA : ∀ ty dc, (Builtin.copy_ #[36, 36] ty #[.slice (some ⟨g2, i * 2, none⟩) (n + 1 - i) dc, .slice (some ⟨g, 0, none⟩) 1 1]).run Try.prog W1 = .ok (goInt (1 : Nat)) W2 := fun ty dc => by
  rw [hW2]
  exact run_copy_ents W1 ty g2 (i * 2) (n + 1 - i) dc ⟨g, 0, none⟩ 1 1 c0.toArray 58 (entCells [x]) 1 hR1 (by simp only [Nat.min_def]; split <;> omega) hXl (fun j v hj => by
   rw [addr_add, Nat.zero_add, cell_of_heap hgA]
   simpa [entCells] using hj) (by rw [List.size_toArray]; omega) (entCells_one _)
 have hR2 : W2.heap[g2]? = some (.cells c1.toArray 58 (0, 0)) := by
  rw [hW2, ← hcs1]
  simpa [splice] using setRow_heap W1 g2 c0.toArray (c0.take (i * 2) ++ entCells [x] ++ c0.drop (i * 2 + (entCells [x]).length)).toArray 58 (0, 0) hR1
 have hk2 : Kept (fun _ => False) w W2 := by
  rw [hW2]
  exact hk1.setRowNew (by omega) _
 have hcur2 := hk2.get hcur id
 obtain ⟨W3, hW3⟩ : ∃ W3, W3 = W2.drew.setRow g2 (c1.take ((i + 1) * 2) ++ entCells (l.drop i) ++ c1.drop ((i + 1) * 2 + (entCells (l.drop i)).length)).toArray := ⟨_, rfl⟩
 have hcpB : ∀ ty dc sc, (Builtin.copy_ #[36, 36] ty #[.slice (some ⟨g2, (i + 1) * 2, none⟩) (n - i) dc, .slice (some ⟨gb, i * 2, none⟩) (n - i) sc]).run Try.prog W2.drew = .ok (goInt (n - i : Nat)) W3 := fun ty dc sc => by
  rw [hW3]
  have := run_copy_ents W2.drew ty g2 ((i + 1) * 2) (n - i) dc ⟨gb, i * 2, none⟩ (n - i) sc c1.toArray 58 (entCells (l.drop i)) (n - i) hR2 (by simp only [Nat.min_def]; split <;> omega) hDl (fun j v hj => by
   rw [addr_add, show W2.drew.cell? ⟨gb, i * 2 + j, none⟩ = W2.cell? ⟨gb, i * 2 + j, none⟩ from rfl, cell_of_heap hcur2]
   simpa using hcell j v hj) (by rw [List.size_toArray]; omega) (entCells_one _)
  exact this
 have hR3 : W3.heap[g2]? = some (.cells (splice c1 ((i + 1) * 2) (entCells (l.drop i))).toArray 58 (0, 0)) := by
  rw [hW3]
  simpa [splice] using setRow_heap W2.drew g2 c1.toArray (c1.take ((i + 1) * 2) ++ entCells (l.drop i) ++ c1.drop ((i + 1) * 2 + (entCells (l.drop i)).length)).toArray 58 (0, 0) hR2
 have hk3 : Hid (Kept (fun _ => False) w W3) := h_ (by
  rw [hW3]
  exact (hk2.drew).setRowNew (by omega) _)
 have hown : Hid (W3.ownsRow base 58 2 (.slice (some ⟨g2, 0, none⟩) (n + 1) G) (n + 1) (entCells (l.take i ++ [x] ++ l.drop i))) := h_ (by
  refine ⟨by rw [entCells_len]; simp only [List.length_append, List.length_take, List.length_drop, List.length_singleton]; omega, .inr ⟨g2, G, (splice c1 ((i + 1) * 2) (entCells (l.drop i))).toArray, rfl, by omega, hR3, hGn, hGm, by rw [List.size_toArray, hp3], ?_⟩⟩
  rw [← hp1])
 rw [hg2] at hrz
 unfold maxLen at hGm
 clear hp1 hp2 hp3 hcur hcl hc hg hDl hXl hcell hcellT hsplit hTl hW1 hk1 hR1 hgA hcs1 hW2 hR2 hk2 hcur2 hW3 hR3 hRl hRt hG hg2 hgw hbw hb hi0 hz0 hzs hzb hzc hkk hik
 have hz2 : ¬ ((i : Int) = (n : Int)) := by omega
 have hz3 : (cap : Int) < (n : Int) + 1 := by omega
 have hGi : ¬ (G = i) := by omega
 have hGim : ¬ (G = i + 1) := by omega
 have hci : ¬ (cap = i) := by omega
 have hin : i ≤ n := by omega
 have hw1 : IntKind.i64.wrap ((i : Int) + 1) = (i : Int) + 1 := by rw [IntKind.wrap_i64]; omega
 have htn : ((i : Int) + 1).toNat = i + 1 := by omega
 have hb1 : (0 : Int) ≤ (i : Int) + 1 := by omega
 have hb3 : (i : Int) ≤ (n : Int) := by omega
 clear hn
 go_enter Try.func49, Try.ntmps49
 go_wp2_with (first
  | (at_builtin; refine Lib.wpList_append_run _ rfl _ _ _ _ rfl _ _ rfl rfl _ _ (hrz _) ?_)
  | (at_builtin; refine wpList_copy_known W1 rfl _ _ 36 36 rfl _ _ rfl rfl (hcpA _ _) ?_))
 go_region_law (refine step_copy_known W2.drew rfl _ _ 36 36 rfl _ _ (by simp [Act.eval, Act.put]) (by simp [Act.eval, Act.put]) (hcpB _ _ _) ?_)
 go_wp2
 go_ret
 exact ⟨_, rfl, hown.out, hk3.out⟩

theorem insertEnt {w : World} {base n cap g i : Nat} {A : Option Addr} {l : List (Int × Int)} {x : Int × Int} (hown : w.ownsRow base 58 2 (.slice A n cap) n (entCells l)) (hg : w.heap[g]? = some (.cells #[.int .i64 x.1, .int .i64 x.2] 58 (0, 0))) (hbase : base ≤ w.heap.size)
  (hne : (Value.slice A n cap).ownBlock ≠ some g) (hi : i ≤ n) (hlen : n ≤ 1000) :
  Calls Try.prog 49 #[.slice A n cap, .int .i64 i, .slice (some ⟨g, 0, none⟩) 1 1] w fun e w' => ∃ v, e = .returned v ∧ w'.ownsRow base 58 2 v (n + 1) (entCells (l.take i ++ [x] ++ l.drop i)) ∧ Kept (fun b => (Value.slice A n cap).ownBlock = some b) w w' := by
 have hl : n = l.length := by have := hown.1; rw [entCells_len] at this; omega
 by_cases hin : i = n
 ·subst hin
  rw [hl, List.take_length, List.drop_length, List.append_nil, ← hl]
  exact insertEnd hown hg hbase hlen
 ·rcases hown.2 with ⟨h1, h2⟩ | ⟨gb, c, cur, h1, h2, h3, h4, h5, h6, h7⟩
  ·omega
  ·cases h1
   obtain ⟨cl, rfl⟩ : ∃ cl : List Value, cur = cl.toArray := ⟨cur.toList, by simp⟩
   rw [List.size_toArray] at h6
   rw [List.toList_toArray] at h7
   have hgb : g ≠ gb := fun e => hne (by rw [e]; rfl)
   by_cases hc : n + 1 ≤ cap
   ·exact (insertShift h3 h6 h7 hl h2 h5 hg hgb (by omega) hc hlen).mono fun e w' ⟨v, he, ho, hk⟩ => ⟨v, he, ho, hk.mono fun b hb => by rw [hb]; rfl⟩
   ·exact (insertGrow h3 h6 h7 hl hbase hg (by omega) h4 (by omega) hlen).mono fun e w' ⟨v, he, ho, hk⟩ => ⟨v, he, ho, hk.mono fun _ => False.elim⟩

set_option maxHeartbeats 4000000 in
theorem putErr {w : World} {A : SA} {M : SM} (h : StoreAt w A M) (root : Int) (d : Nat) (hd : d ≤ 8) (x : Int × Int) {n : NM} {er : Nat} (hR : M.tnode root d = (n, er)) (h0 : er ≠ 0) :
  Calls Try.prog 33 #[.agg #[.pointer (some ⟨A.sb, 0, none⟩)], .int .i64 root, .int .i64 d, .agg #[.int .i64 x.1, .int .i64 x.2]] w fun e w' => ∃ v, e = .returned (.tuple #[.agg (nodeCells n v).toArray, .int .i64 er]) ∧
   w'.ownsRow w.heap.size 58 2 v n.ents.length (entCells n.ents) ∧ Kept (fun _ => False) w w' := by
 have h0' : ((er : Int) == 0) = false := by simp; omega
 obtain ⟨Z, hZ⟩ : ∃ Z, nodeCells NM.zero (.slice none 0 0) = Z := ⟨_, rfl⟩
 have hZz : Hid ((Try.prog.info? 71).map (·.zero) = some (some (.agg Z.toArray))) := h_ (by rw [← hZ]; exact node_zero)
 have hZl : Hid (Z.length = 18) := h_ (by rw [← hZ]; exact nodeCells_len _ _)
 obtain ⟨w1, hw1⟩ : ∃ w1, w.alloc (.cells #[.pointer (some ⟨A.sb, 0, none⟩)] 27) = w1 := ⟨_, rfl⟩
 obtain ⟨w2, hw2⟩ : ∃ w2, w1.alloc (.cells #[.int .i64 x.1, .int .i64 x.2] 58) = w2 := ⟨_, rfl⟩
 obtain ⟨w3, hw3⟩ : ∃ w3, w2.alloc (.cells Z.toArray 71) = w3 := ⟨_, rfl⟩
 have k1 : Kept (fun _ => False) w w1 := by rw [← hw1]; exact (Kept.refl _ _).alloc _
 have k2 : Kept (fun _ => False) w1 w2 := by rw [← hw2]; exact (Kept.refl _ _).alloc _
 have k3 : Kept (fun _ => False) w2 w3 := by rw [← hw3]; exact (Kept.refl _ _).alloc _
 have s1 : w1.heap.size = w.heap.size + 1 := by rw [← hw1]; simp
 have s2 : w2.heap.size = w.heap.size + 2 := by rw [← hw2]; simp [s1]
 have s3 : w3.heap.size = w.heap.size + 3 := by rw [← hw3]; simp [s2]
 have t3 : w3.heap[w.heap.size]? = some (.cells #[.pointer (some ⟨A.sb, 0, none⟩)] 27 (0, 0)) := (k2.trans k3).get (by rw [← hw1]; exact heap_alloc_new _ _) id
 have x3 : w3.heap[w.heap.size + 1]? = some (.cells #[.int .i64 x.1, .int .i64 x.2] 58 (0, 0)) := k3.get (by rw [← hw2, ← s1]; exact heap_alloc_new _ _) id
 have r3 : w3.heap[w.heap.size + 2]? = some (.cells Z.toArray 71 (0, 0)) := by rw [← hw3, ← s2]; exact heap_alloc_new _ _
 have k03 := h_ ((k1.trans k2).trans k3)
 have hnd := treeNode (h.fresh k03.out) root d (by omega)
 rw [hR] at hnd
 dsimp only at hnd
 have hnd' := h_ hnd
 have h' := h_ h
 have hw1' := h_ hw1
 have hw2' := h_ hw2
 have hw3' := h_ hw3
 have s1' := h_ s1
 have s2' := h_ s2
 have hload3 : Hid (∀ j v, [Value.pointer (some ⟨A.sb, 0, none⟩)][j]? = some v → w3.cell? ⟨w.heap.size, 0 + j, none⟩ = some v) := h_ (fun j v hj => by rw [Nat.zero_add, cell_of_heap t3]; simpa using hj)
 have t3' := h_ t3
 have x3' := h_ x3
 have r3' := h_ r3
 have s3' := h_ s3
 obtain ⟨x0, x1⟩ := x
 dsimp only at *
 clear hw1 hw2 hw3 k1 k2 k3 s1 s2 s3 t3 x3 r3 hnd h hZ hR
 go_enter Try.func33, Try.ntmps33
 go_wp2_with (first | (refine wpList_box_named 27 rfl rfl _ rfl hw1'.out ?_) | (refine wpList_box_named 58 rfl rfl _ rfl hw2'.out ?_; rw [s1'.out]) | (refine wpList_alloc_as 71 rfl rfl Z.toArray hZz.out ?_; rw [hw3'.out, s2'.out]) | (refine wpList_load_agg 27 rfl rfl rfl _ Try.underlying27 rfl [.pointer (some ⟨A.sb, 0, none⟩)] (by kernel_rfl) hload3.out ?_))
 refine hnd'.out.mono ?_
 rintro e w4 ⟨v, rfl, hown, hk4⟩
 obtain ⟨Av, cap, rfl, hf1, hf2⟩ := EntsAt.form (show EntsAt w4 v n.ents from SliceAt.of_owns hown)
 obtain ⟨F, hF⟩ : ∃ F, nodeCells n (.slice Av n.ents.length cap) = F := ⟨_, rfl⟩
 have hFl : Hid (F.length = 18) := h_ (by rw [← hF]; exact nodeCells_len _ _)
 have hF1 : Hid (∀ v ∈ F, v.oneCell' = true) := h_ (by rw [← hF]; exact nodeCells_one _ _ _ _)
 obtain ⟨nb, hnb⟩ : ∃ nb, w4.heap.size = nb := ⟨_, rfl⟩
 obtain ⟨w5, hw5⟩ : ∃ w5, (w4.alloc (.cells Z.toArray 71)).setRow nb F.toArray = w5 := ⟨_, rfl⟩
 have k5 : Kept (fun _ => False) w4 w5 := by rw [← hw5]; exact ((Kept.refl _ _).alloc _).setRowNew (by omega) _
 have bx5 : NodeBox w5 nb n (.slice Av n.ents.length cap) := ⟨by rw [hF, ← hw5, ← hnb]; exact setRow_heap _ _ _ _ _ _ (heap_alloc_new _ _)⟩
 have hown5 := h_ (ownsRow.keptOf hown k5 (fun _ _ => id))
 have k35 := h_ (hk4.trans k5)
 have t5 := h_ (k35.out.get t3'.out id)
 have x5 := h_ (k35.out.get x3'.out id)
 have r5 := h_ (k35.out.get r3'.out id)
 have q5 := h_ (show w5.heap[nb]? = some (.cells F.toArray 71 (0, 0)) by rw [← hF]; exact bx5.heap)
 have hs4 := hk4.size
 have hs5 : Hid (w5.heap.size = nb + 1) := h_ (by rw [← hw5, ← hnb]; simp [World.setRow])
 rw [hF]
 have bx5' := h_ bx5
 have hw5' := h_ hw5
 have hnb' := h_ hnb
 have hF' := h_ hF
 clear hown hk4 k5 hw5 bx5 hnb hF
 go_wp2_with (first | (refine wpList_alloc_as 71 rfl rfl Z.toArray hZz.out ?_; rw [hnb'.out]) | (refine wpList_store_whole 71 rfl rfl rfl F rfl (by rw [hFl.out]; exact node_size) 71 _ (by rw [← hnb'.out]; exact heap_alloc_new _ _) (by simp [hFl.out, hZl.out]) hF1.out ?_; rw [hw5'.out]) | (refine wpList_load_agg 71 rfl rfl rfl _ Try.underlying71 rfl F (by rw [hFl.out]; exact node_size) (fun j v hv => by rw [cell_of_heap q5.out, Nat.zero_add]; simpa using hv) ?_) | (refine wpList_store_whole 71 rfl rfl rfl F rfl (by rw [hFl.out]; exact node_size) 71 _ r5.out (by simp [hFl.out, hZl.out]) hF1.out ?_))
 refine bodyPost_ret (results_row_tmp rfl _ _ (w.heap.size + 2) 71 F.toArray (0, 0) _ rfl (setRow_heap _ _ _ _ 71 (0, 0) r5.out) Try.underlying71 rfl (by simp only [List.size_toArray]; rw [hFl.out]; exact node_size)) rfl ?_
 have kS := (Kept.refl (fun i => i = w.heap.size + 2) w5).setRow rfl F.toArray
 exact ⟨.slice Av n.ents.length cap, by rw [hF'.out]; rfl, owns_weaken (ownsRow.keptOf hown5.out kS (fun g hg e => by have := (hown5.out.lt g hg).1; have := s3'.out; omega)) (by have := s3'.out; omega), (k03.out.trans k35.out).setRowNew (by omega) _⟩

theorem sliceNil {w : World} {A : Option Addr} {cap : Nat} (hc : cap ≤ maxLen) : EntsAt w (.slice A 0 cap) [] := ⟨rfl, A, cap, rfl, Nat.zero_le _, hc, fun j v hj => by simp [entCells] at hj⟩
theorem nodeCells_set (n : NM) (c : List (Int × Int)) (v u : Value) : (nodeCells n v).toArray.setIfInBounds 17 u = (nodeCells { n with ents := c } u).toArray := by
 unfold nodeCells
 simp only [List.setIfInBounds_toArray, List.set_cons_succ]
 rw [List.set_append_right _ _ (by rw [blockCells_len]; omega), blockCells_len]
 rfl
theorem concat3 {W : World} {s1 s2 s3 : Value} {l1 l2 l3 : List (Int × Int)} (h1 : EntsAt W s1 l1) (h2 : EntsAt W s2 l2) (h3 : EntsAt W s3 l3) (hl : l1.length + l2.length + l3.length ≤ 1000) :
  Calls Try.prog 48 #[.slice (some ⟨W.heap.size, 0, none⟩) 3 3] (W.alloc (.cells #[s1, s2, s3] 36)) fun e w' => ∃ u, e = .returned u ∧ w'.ownsRow (W.heap.size + 1) 58 2 u (l1 ++ l2 ++ l3).length (entCells (l1 ++ l2 ++ l3)) ∧ Kept (fun _ => False) W w' := by
 have k := (Kept.refl (fun _ => False) W).alloc (.cells #[s1, s2, s3] 36)
 have hr : RowsAt (W.alloc (.cells #[s1, s2, s3] 36)) (.slice (some ⟨W.heap.size, 0, none⟩) 3 3) 2 [entCells l1, entCells l2, entCells l3] [s1, s2, s3] := by
  refine ⟨rfl, SliceAt.block_new (tt := 36) (fr := (0, 0)) (heap_alloc_new _ _) rfl (by decide), fun i u l hu hl => ?_⟩
  match i, hu, hl with
  | 0, hu, hl => cases hu; cases hl; exact ⟨_, SliceAt.fresh h1 k⟩
  | 1, hu, hl => cases hu; cases hl; exact ⟨_, SliceAt.fresh h2 k⟩
  | 2, hu, hl => cases hu; cases hl; exact ⟨_, SliceAt.fresh h3 k⟩
 have hs : sumV [s1, s2, s3] = l1.length + l2.length + l3.length := by
  unfold sumV
  simp only [List.map_cons, List.map_nil, SliceAt.lenV h1, SliceAt.lenV h2, SliceAt.lenV h3, List.sum_cons, List.sum_nil]
  omega
 refine (concatEnt hr (by rw [hs]; omega) (fun l hl => by
  simp only [List.mem_cons, List.not_mem_nil, or_false] at hl
  rcases hl with rfl | rfl | rfl <;> exact entCells_one _)).mono ?_
 rintro e w' ⟨u, he, ho, hk⟩
 refine ⟨u, he, ?_, k.trans hk⟩
 rw [hs] at ho
 have e1 : [entCells l1, entCells l2, entCells l3].flatten = entCells (l1 ++ l2 ++ l3) := by simp [entCells_append]
 rw [e1] at ho
 have e2 : (W.alloc (.cells #[s1, s2, s3] 36)).heap.size = W.heap.size + 1 := by simp
 rw [e2] at ho
 rw [show (l1 ++ l2 ++ l3).length = l1.length + l2.length + l3.length by simp only [List.length_append]]
 exact ho
theorem putEnds {W : World} {n : NM} {sv v : Value} {nb r base m : Nat} {c : List (Int × Int)} {Z : Array Value} (q : NodeBox W nb n sv) (hr : W.heap[r]? = some (.cells Z 71 (0, 0))) (hne : r ≠ nb) (ho : W.ownsRow base 58 2 v m (entCells c)) :
  NodeBox (W.setCell ⟨nb, 17, none⟩ v) nb { n with ents := c } v ∧ (W.setCell ⟨nb, 17, none⟩ v).heap[r]? = some (.cells Z 71 (0, 0)) ∧
   (∀ F, ((W.setCell ⟨nb, 17, none⟩ v).setRow r F).ownsRow base 58 2 v m (entCells c)) := by
 have k1 := (Kept.refl (fun k => k = nb) W).setCell (p := ⟨nb, 17, none⟩) rfl v
 have hT : ∀ b, v.ownBlock = some b → b ≠ nb ∧ b ≠ r := fun b hb => by
  rcases ho.2 with ⟨rfl, _⟩ | ⟨g, cap, cur, rfl, _, hg, _⟩
  ·simp [Value.ownBlock] at hb
  ·simp [Value.ownBlock] at hb
   subst hb
   constructor
   ·rintro rfl
    rw [q.heap] at hg
    cases hg
   ·rintro rfl
    rw [hr] at hg
    cases hg
 refine ⟨⟨?_⟩, k1.get hr hne, fun F => ?_⟩
 ·rw [heap_setCell_same q.heap, nodeCells_set n c]
 ·exact ownsRow.keptOf ho ((k1.mono fun k hk => Or.inl hk).trans ((Kept.refl (fun k => k = nb ∨ k = r) _).setRow (Or.inr rfl) F)) fun b hb e => e.elim (hT b hb).1 (hT b hb).2

set_option maxHeartbeats 4000000 in
theorem putSame {w : World} {A : SA} {M : SM} (h : StoreAt w A M) (root : Int) (d : Nat) (hd : d ≤ 8) (x : Int × Int) {n : NM} (hR : M.tnode root d = (n, 0)) (hin0 : InnerOk n) (hk2 : n.kind = 2) {C : List (Int × Int)} {i : Nat} (hi : atI n.ents x.1 = i) (hsame : (n.ents.getD i (0, 0)).1 = x.1) (hC : n.ents.take i ++ [x] ++ n.ents.drop (i + 1) = C) :
  Calls Try.prog 33 #[.agg #[.pointer (some ⟨A.sb, 0, none⟩)], .int .i64 root, .int .i64 d, .agg #[.int .i64 x.1, .int .i64 x.2]] w fun e w' => ∃ v, e = .returned (.tuple #[.agg (nodeCells { n with ents := C } v).toArray, .int .i64 0]) ∧
   w'.ownsRow w.heap.size 58 2 v C.length (entCells C) ∧ Kept (fun _ => False) w w' := by
 obtain ⟨Z, hZ⟩ : ∃ Z, nodeCells NM.zero (.slice none 0 0) = Z := ⟨_, rfl⟩
 have hZz : Hid ((Try.prog.info? 71).map (·.zero) = some (some (.agg Z.toArray))) := h_ (by rw [← hZ]; exact node_zero)
 have hZl : Hid (Z.length = 18) := h_ (by rw [← hZ]; exact nodeCells_len _ _)
 obtain ⟨w1, hw1⟩ : ∃ w1, w.alloc (.cells #[.pointer (some ⟨A.sb, 0, none⟩)] 27) = w1 := ⟨_, rfl⟩
 obtain ⟨w2, hw2⟩ : ∃ w2, w1.alloc (.cells #[.int .i64 x.1, .int .i64 x.2] 58) = w2 := ⟨_, rfl⟩
 obtain ⟨w3, hw3⟩ : ∃ w3, w2.alloc (.cells Z.toArray 71) = w3 := ⟨_, rfl⟩
 have k1 : Kept (fun _ => False) w w1 := by rw [← hw1]; exact (Kept.refl _ _).alloc _
 have k2 : Kept (fun _ => False) w1 w2 := by rw [← hw2]; exact (Kept.refl _ _).alloc _
 have k3 : Kept (fun _ => False) w2 w3 := by rw [← hw3]; exact (Kept.refl _ _).alloc _
 have s1 : w1.heap.size = w.heap.size + 1 := by rw [← hw1]; simp
 have s2 : w2.heap.size = w.heap.size + 2 := by rw [← hw2]; simp [s1]
 have s3 : w3.heap.size = w.heap.size + 3 := by rw [← hw3]; simp [s2]
 have t3 : w3.heap[w.heap.size]? = some (.cells #[.pointer (some ⟨A.sb, 0, none⟩)] 27 (0, 0)) := (k2.trans k3).get (by rw [← hw1]; exact heap_alloc_new _ _) id
 have x3 : w3.heap[w.heap.size + 1]? = some (.cells #[.int .i64 x.1, .int .i64 x.2] 58 (0, 0)) := k3.get (by rw [← hw2, ← s1]; exact heap_alloc_new _ _) id
 have r3 : w3.heap[w.heap.size + 2]? = some (.cells Z.toArray 71 (0, 0)) := by rw [← hw3, ← s2]; exact heap_alloc_new _ _
 have k03 := h_ ((k1.trans k2).trans k3)
 have hnd := treeNode (h.fresh k03.out) root d (by omega)
 rw [hR] at hnd
 dsimp only at hnd
 have hnd' := h_ hnd
 have h' := h_ h
 have hw1' := h_ hw1
 have hw2' := h_ hw2
 have hw3' := h_ hw3
 have s1' := h_ s1
 have s2' := h_ s2
 have hload3 : Hid (∀ j v, [Value.pointer (some ⟨A.sb, 0, none⟩)][j]? = some v → w3.cell? ⟨w.heap.size, 0 + j, none⟩ = some v) := h_ (fun j v hj => by rw [Nat.zero_add, cell_of_heap t3]; simpa using hj)
 have t3' := h_ t3
 have x3' := h_ x3
 have r3' := h_ r3
 have s3' := h_ s3
 obtain ⟨x0, x1⟩ := x
 dsimp only at *
 clear hw1 hw2 hw3 k1 k2 k3 s1 s2 s3 t3 x3 r3 hnd h hZ hR
 go_enter Try.func33, Try.ntmps33
 go_wp2_with (first | (refine wpList_box_named 27 rfl rfl _ rfl hw1'.out ?_) | (refine wpList_box_named 58 rfl rfl _ rfl hw2'.out ?_; rw [s1'.out]) | (refine wpList_alloc_as 71 rfl rfl Z.toArray hZz.out ?_; rw [hw3'.out, s2'.out]) | (refine wpList_load_agg 27 rfl rfl rfl _ Try.underlying27 rfl [.pointer (some ⟨A.sb, 0, none⟩)] (by kernel_rfl) hload3.out ?_))
 refine hnd'.out.mono ?_
 rintro e w4 ⟨v, rfl, hown, hk4⟩
 obtain ⟨Av, cap, rfl, hf1, hf2⟩ := EntsAt.form (show EntsAt w4 v n.ents from SliceAt.of_owns hown)
 obtain ⟨F, hF⟩ : ∃ F, nodeCells n (.slice Av n.ents.length cap) = F := ⟨_, rfl⟩
 have hFl : Hid (F.length = 18) := h_ (by rw [← hF]; exact nodeCells_len _ _)
 have hF1 : Hid (∀ v ∈ F, v.oneCell' = true) := h_ (by rw [← hF]; exact nodeCells_one _ _ _ _)
 obtain ⟨nb, hnb⟩ : ∃ nb, w4.heap.size = nb := ⟨_, rfl⟩
 obtain ⟨w5, hw5⟩ : ∃ w5, (w4.alloc (.cells Z.toArray 71)).setRow nb F.toArray = w5 := ⟨_, rfl⟩
 have k5 : Kept (fun _ => False) w4 w5 := by rw [← hw5]; exact ((Kept.refl _ _).alloc _).setRowNew (by omega) _
 have bx5 : NodeBox w5 nb n (.slice Av n.ents.length cap) := ⟨by rw [hF, ← hw5, ← hnb]; exact setRow_heap _ _ _ _ _ _ (heap_alloc_new _ _)⟩
 have hown5 := h_ (ownsRow.keptOf hown k5 (fun _ _ => id))
 have k35 := h_ (hk4.trans k5)
 have t5 := h_ (k35.out.get t3'.out id)
 have x5 := h_ (k35.out.get x3'.out id)
 have r5 := h_ (k35.out.get r3'.out id)
 have q5 := h_ (show w5.heap[nb]? = some (.cells F.toArray 71 (0, 0)) by rw [← hF]; exact bx5.heap)
 have hs4 := hk4.size
 have hs5 : Hid (w5.heap.size = nb + 1) := h_ (by rw [← hw5, ← hnb]; simp [World.setRow])
 rw [hF]
 have bx5' := h_ bx5
 have hw5' := h_ hw5
 have hnb' := h_ hnb
 have hF' := h_ hF
 clear hown hk4 k5 hw5 bx5 hnb hF
 have hk2' := h_ hk2
 have hil : i < n.ents.length := by have := (atI_bound (l := n.ents) x0).2; omega
 obtain ⟨y, hy⟩ : ∃ y, n.ents[i]? = some y := ⟨_, List.getElem?_eq_getElem hil⟩
 have hy0 : y.1 = x0 := by simpa [hy] using hsame
 have hin := innerOk_of (show n.ok from hin0.ok) (by have := hin0.kind; omega)
 have hlen6 := hin.le
 have hab := atI_bound (l := n.ents) x0
 have hat := at_any (show EntsAt w5 (.slice Av n.ents.length cap) n.ents from SliceAt.of_owns hown5.out) hin.keys x0 (by omega)
 obtain ⟨a, ha⟩ : ∃ a, atI n.ents x0 = a := ⟨_, rfl⟩
 rw [ha] at hat hab
 have hat' := h_ hat
 have c17 := bx5'.out.c17
 have cx0 := cell_of_heap x5.out 0
 simp at cx0
 unfold maxLen at hf2
 obtain ⟨hab1, hab2⟩ := hab
 have hwa : IntKind.i64.wrap (a + 1) = a + 1 := by rw [IntKind.wrap_i64]; omega
 clear hat hin hin0 hk2
 go_wp2_with (first | (refine wpList_alloc_as 71 rfl rfl Z.toArray hZz.out ?_; rw [hnb'.out]) | (refine wpList_store_whole 71 rfl rfl rfl F rfl (by rw [hFl.out]; exact node_size) 71 _ (by rw [← hnb'.out]; exact heap_alloc_new _ _) (by simp [hFl.out, hZl.out]) hF1.out ?_; rw [hw5'.out]))
 refine hat'.out.mono ?_
 rintro e w6 ⟨rfl, hk6⟩
 have hk6' := h_ hk6
 have k36 := h_ (k35.out.trans hk6)
 have t6 := h_ (hk6.get t5.out id)
 have x6 := hk6.get x5.out id
 have x6' := h_ x6
 have hown6 := h_ (ownsRow.keptOf hown5.out hk6 (fun _ _ => id))
 have bx6 := bx5'.out.kept hk6 id
 have bx6' := h_ bx6
 have r6 := h_ (hk6.get r5.out id)
 have hs6 := hk6.size
 have hne7 : nb ≠ w6.heap.size := by have := hs5.out; omega
 have hloadx : Hid (∀ j v, [Value.int .i64 x0, .int .i64 x1][j]? = some v → w6.cell? ⟨w.heap.size + 1, 0 + j, none⟩ = some v) := h_ (fun j v hj => by rw [Nat.zero_add, cell_of_heap x6'.out]; simpa using hj)
 obtain ⟨w7, hw7⟩ : ∃ w7, w6.alloc (.cells #[.int .i64 x0, .int .i64 x1] 58) = w7 := ⟨_, rfl⟩
 have hw7' := h_ hw7
 have k7 : Kept (fun _ => False) w6 w7 := by rw [← hw7]; exact (Kept.refl _ _).alloc _
 have g7 := h_ (show w7.heap[w6.heap.size]? = some (.cells #[.int .i64 x0, .int .i64 x1] 58 (0, 0)) by rw [← hw7]; exact heap_alloc_new _ _)
 have k37 := h_ (k36.out.trans k7)
 have bx7 := bx6.kept k7 id
 have bx7' := h_ bx7
 have c17_7 := bx7.c17
 have c0_7 := bx7.c0
 rw [← hw7, hk2'.out] at c0_7
 have x7 := k7.get x6 id
 have x7' := h_ x7
 have cx7 := cell_of_heap x7 0
 simp at cx7
 have t7 := h_ (k7.get t6.out id)
 have r7 := h_ (k7.get r6.out id)
 have hown7 := h_ (ownsRow.keptOf hown6.out k7 (fun _ _ => id))
 have hs7 : Hid (w7.heap.size = w6.heap.size + 1) := h_ (by rw [← hw7]; simp)
 have k7' := h_ k7
 clear hk6 bx6 x6 hw7 k7 bx7 x7
 have hai : a = i := by omega
 subst hai
 obtain ⟨b, off, rfl, hbl, cy7, _⟩ := EntsAt.get (show EntsAt w7 (.slice Av n.ents.length cap) n.ents from SliceAt.of_owns hown7.out) hy
 rw [hy0] at cy7
 have hi1 : (i : Int) < (n.ents.length : Int) := by omega
 have hwi : IntKind.i64.wrap ((i : Int) + 1) = (i : Int) + 1 := by rw [IntKind.wrap_i64]; omega
 have htn : ((i : Int) + 1).toNat = i + 1 := by omega
 have hi2 : (i : Int) ≤ (cap : Int) := by omega
 have hi3 : (i : Int) + 1 ≤ (n.ents.length : Int) := by omega
 have hi4 : (0 : Int) ≤ (i : Int) + 1 := by omega
 clear hy hy0 hsame hi ha
 go_wp2_with (first | (refine wpList_load_agg 58 rfl rfl rfl _ Try.underlying58 rfl [.int .i64 x0, .int .i64 x1] (by kernel_rfl) hloadx.out ?_))
 rw [hw7'.out]
 by_cases hci : cap = i + 1
 ·go_quiet (fail)
  go_wp2_with fail
  have hcc : Hid (∀ W, Kept (fun _ => False) w7 W → Calls Try.prog 48 #[.slice (some ⟨W.heap.size, 0, none⟩) 3 3] (W.alloc (.cells #[.slice (some ⟨b, off, none⟩) i cap, .slice (some ⟨w6.heap.size, 0, none⟩) 1 1, .slice (some ⟨b, off, none⟩) 0 0] 36)) fun e w' => ∃ u, e = .returned u ∧ w'.ownsRow w7.heap.size 58 2 u C.length (entCells C) ∧ Kept (fun _ => False) W w') := h_ (fun W kW => by
   have hE := EntsAt.form (show EntsAt w7 (.slice (some ⟨b, off, none⟩) n.ents.length cap) n.ents from SliceAt.of_owns hown7.out)
   have hE7 := SliceAt.fresh (SliceAt.of_owns hown7.out) kW
   rw [← hC]
   refine Calls.mono (?_ : Calls _ _ _ _ fun e w' => ∃ u, e = .returned u ∧ w'.ownsRow (W.heap.size + 1) 58 2 u (n.ents.take i ++ [(x0, x1)] ++ n.ents.drop (i + 1)).length (entCells (n.ents.take i ++ [(x0, x1)] ++ n.ents.drop (i + 1))) ∧ Kept (fun _ => False) W w') fun e w' ⟨u, he, ho, hk⟩ => ⟨u, he, owns_weaken ho (by have := kW.size; omega), hk⟩
   refine concat3 (entsAt_take (m := i) hE7 (by omega) rfl) (SliceAt.block_new (ys := [.int .i64 x0, .int .i64 x1]) (m := 1) (kW.get g7.out id) rfl (by decide)) ?_ (by simp only [List.length_take, List.length_drop, List.length_singleton]; omega)
   rw [List.drop_eq_nil_of_le (by omega)]; exact sliceNil (by have := hE.choose_spec; unfold maxLen; omega))
  have hd0 : n.ents.length - (i + 1) = 0 := by omega
  subst hci
  have hj1 : (n.ents.length : Int) ≤ (i : Int) + 1 := by omega
  have hj2 : (i : Int) ≤ (i : Int) + 1 := by omega
  have hj3 : n.ents.length ≤ i + 1 := by omega
  go_region_law? (rw [if_pos (by rfl)]; go_simp; refine (hcc.out _ (by exact ((Kept.refl _ _).drewN _).drew)).mono ?_; rintro e w8 ⟨u, rfl, hown8, hk8⟩; obtain ⟨Au, cu, rfl, _⟩ := EntsAt.form (show EntsAt w8 u (C) from SliceAt.of_owns hown8); have q8 : NodeBox w8 nb n (.slice (some ⟨b, off, none⟩) n.ents.length (i + 1)) := bx7'.out.kept (((Kept.refl (fun _ => False) w7).drewN _).drew.trans hk8) id; have hE := putEnds q8 ((((Kept.refl (fun _ => False) w7).drewN _).drew.trans hk8).get r7.out id) (by have := s3'.out; have := hnb'.out; omega) hown8; obtain ⟨G, hG⟩ : ∃ G, nodeCells { n with ents := C } (.slice Au (C).length cu) = G := ⟨_, rfl⟩; have hGl : Hid (G.length = 18) := h_ (by rw [← hG]; exact nodeCells_len _ _); have hG1 : Hid (∀ v ∈ G, v.oneCell' = true) := h_ (by rw [← hG]; exact nodeCells_one _ _ _ _); have q9 := h_ (show (w8.setCell ⟨nb, 17, none⟩ (.slice Au (C).length cu)).heap[nb]? = some (.cells G.toArray 71 (0, 0)) by rw [← hG]; exact hE.1.heap); have r9 := h_ hE.2.1; have o9 := h_ hE.2.2; have c8 := q8.c17; have f8 := free_of_heap q8.heap 17; have hG := h_ hG; have k08 := h_ ((k03.out.trans k37.out).trans (((Kept.refl (fun _ => False) w7).drewN _).drew.trans hk8)); have hs8 := (((Kept.refl (fun _ => False) w7).drewN nq).drew.trans hk8).size; clear hE q8 hown8 hk8)
  all_goals (
   go_wp2_with (first | (refine wpList_load_agg 71 rfl rfl rfl _ Try.underlying71 rfl G (by rw [hGl.out]; exact node_size) (fun j v hv => by rw [cell_of_heap q9.out, Nat.zero_add]; simpa using hv) ?_) | (refine wpList_store_whole 71 rfl rfl rfl G rfl (by rw [hGl.out]; exact node_size) 71 _ r9.out (by simp [hGl.out, hZl.out]) hG1.out ?_))
   refine bodyPost_ret (results_row_tmp rfl _ _ (w.heap.size + 2) 71 G.toArray (0, 0) _ rfl (setRow_heap _ _ _ _ 71 (0, 0) r9.out) Try.underlying71 rfl (by simp only [List.size_toArray]; rw [hGl.out]; exact node_size)) rfl ?_
   exact ⟨.slice Au C.length cu, by rw [← hG.out]; rfl, owns_weaken (o9.out _) (by have := s3'.out; have := hnb'.out; have := hs5.out; have := hs7.out; omega), ((k08.out).setNew (by show w.heap.size ≤ nb; have := s3'.out; have := hnb'.out; omega) _).setRowNew (by omega) _⟩)
 ·go_quiet (fail)
  go_wp2_with fail
  have hcc : Hid (∀ W, Kept (fun _ => False) w7 W → Calls Try.prog 48 #[.slice (some ⟨W.heap.size, 0, none⟩) 3 3] (W.alloc (.cells #[.slice (some ⟨b, off, none⟩) i cap, .slice (some ⟨w6.heap.size, 0, none⟩) 1 1, .slice (some ⟨b, off + (i + 1) * 2, none⟩) (n.ents.length - (i + 1)) (cap - (i + 1))] 36)) fun e w' => ∃ u, e = .returned u ∧ w'.ownsRow w7.heap.size 58 2 u C.length (entCells C) ∧ Kept (fun _ => False) W w') := h_ (fun W kW => by
   have hE := EntsAt.form (show EntsAt w7 (.slice (some ⟨b, off, none⟩) n.ents.length cap) n.ents from SliceAt.of_owns hown7.out)
   have hE7 := SliceAt.fresh (SliceAt.of_owns hown7.out) kW
   rw [← hC]
   refine Calls.mono (?_ : Calls _ _ _ _ fun e w' => ∃ u, e = .returned u ∧ w'.ownsRow (W.heap.size + 1) 58 2 u (n.ents.take i ++ [(x0, x1)] ++ n.ents.drop (i + 1)).length (entCells (n.ents.take i ++ [(x0, x1)] ++ n.ents.drop (i + 1))) ∧ Kept (fun _ => False) W w') fun e w' ⟨u, he, ho, hk⟩ => ⟨u, he, owns_weaken ho (by have := kW.size; omega), hk⟩
   refine concat3 (entsAt_take (m := i) hE7 (by omega) rfl) (SliceAt.block_new (ys := [.int .i64 x0, .int .i64 x1]) (m := 1) (kW.get g7.out id) rfl (by decide)) ?_ (by simp only [List.length_take, List.length_drop, List.length_singleton]; omega)
   exact entsAt_drop (m := i + 1) hE7 (by omega) rfl)
  go_region_law? (rw [if_pos (by rfl)]; go_simp; refine (hcc.out _ (by exact ((Kept.refl _ _).drewN _).drew)).mono ?_; rintro e w8 ⟨u, rfl, hown8, hk8⟩; obtain ⟨Au, cu, rfl, _⟩ := EntsAt.form (show EntsAt w8 u (C) from SliceAt.of_owns hown8); have q8 : NodeBox w8 nb n (.slice (some ⟨b, off, none⟩) n.ents.length cap) := bx7'.out.kept (((Kept.refl (fun _ => False) w7).drewN _).drew.trans hk8) id; have hE := putEnds q8 ((((Kept.refl (fun _ => False) w7).drewN _).drew.trans hk8).get r7.out id) (by have := s3'.out; have := hnb'.out; omega) hown8; obtain ⟨G, hG⟩ : ∃ G, nodeCells { n with ents := C } (.slice Au (C).length cu) = G := ⟨_, rfl⟩; have hGl : Hid (G.length = 18) := h_ (by rw [← hG]; exact nodeCells_len _ _); have hG1 : Hid (∀ v ∈ G, v.oneCell' = true) := h_ (by rw [← hG]; exact nodeCells_one _ _ _ _); have q9 := h_ (show (w8.setCell ⟨nb, 17, none⟩ (.slice Au (C).length cu)).heap[nb]? = some (.cells G.toArray 71 (0, 0)) by rw [← hG]; exact hE.1.heap); have r9 := h_ hE.2.1; have o9 := h_ hE.2.2; have c8 := q8.c17; have f8 := free_of_heap q8.heap 17; have hG := h_ hG; have k08 := h_ ((k03.out.trans k37.out).trans (((Kept.refl (fun _ => False) w7).drewN _).drew.trans hk8)); have hs8 := (((Kept.refl (fun _ => False) w7).drewN nq).drew.trans hk8).size; clear hE q8 hown8 hk8)
  all_goals (
   go_wp2_with (first | (refine wpList_load_agg 71 rfl rfl rfl _ Try.underlying71 rfl G (by rw [hGl.out]; exact node_size) (fun j v hv => by rw [cell_of_heap q9.out, Nat.zero_add]; simpa using hv) ?_) | (refine wpList_store_whole 71 rfl rfl rfl G rfl (by rw [hGl.out]; exact node_size) 71 _ r9.out (by simp [hGl.out, hZl.out]) hG1.out ?_))
   refine bodyPost_ret (results_row_tmp rfl _ _ (w.heap.size + 2) 71 G.toArray (0, 0) _ rfl (setRow_heap _ _ _ _ 71 (0, 0) r9.out) Try.underlying71 rfl (by simp only [List.size_toArray]; rw [hGl.out]; exact node_size)) rfl ?_
   exact ⟨.slice Au C.length cu, by rw [← hG.out]; rfl, owns_weaken (o9.out _) (by have := s3'.out; have := hnb'.out; have := hs5.out; have := hs7.out; omega), ((k08.out).setNew (by show w.heap.size ≤ nb; have := s3'.out; have := hnb'.out; omega) _).setRowNew (by omega) _⟩)

set_option maxHeartbeats 4000000 in
theorem putLess {w : World} {A : SA} {M : SM} (h : StoreAt w A M) (root : Int) (d : Nat) (hd : d ≤ 8) (x : Int × Int) {n : NM} (hR : M.tnode root d = (n, 0)) (hin0 : InnerOk n) (hk2 : n.kind = 2) {C : List (Int × Int)} (hi : atI n.ents x.1 = -1) (hC : n.ents.take 0 ++ [x] ++ n.ents.drop 0 = C) :
  Calls Try.prog 33 #[.agg #[.pointer (some ⟨A.sb, 0, none⟩)], .int .i64 root, .int .i64 d, .agg #[.int .i64 x.1, .int .i64 x.2]] w fun e w' => ∃ v, e = .returned (.tuple #[.agg (nodeCells { n with ents := C } v).toArray, .int .i64 0]) ∧
   w'.ownsRow w.heap.size 58 2 v C.length (entCells C) ∧ Kept (fun _ => False) w w' := by
 obtain ⟨Z, hZ⟩ : ∃ Z, nodeCells NM.zero (.slice none 0 0) = Z := ⟨_, rfl⟩
 have hZz : Hid ((Try.prog.info? 71).map (·.zero) = some (some (.agg Z.toArray))) := h_ (by rw [← hZ]; exact node_zero)
 have hZl : Hid (Z.length = 18) := h_ (by rw [← hZ]; exact nodeCells_len _ _)
 obtain ⟨w1, hw1⟩ : ∃ w1, w.alloc (.cells #[.pointer (some ⟨A.sb, 0, none⟩)] 27) = w1 := ⟨_, rfl⟩
 obtain ⟨w2, hw2⟩ : ∃ w2, w1.alloc (.cells #[.int .i64 x.1, .int .i64 x.2] 58) = w2 := ⟨_, rfl⟩
 obtain ⟨w3, hw3⟩ : ∃ w3, w2.alloc (.cells Z.toArray 71) = w3 := ⟨_, rfl⟩
 have k1 : Kept (fun _ => False) w w1 := by rw [← hw1]; exact (Kept.refl _ _).alloc _
 have k2 : Kept (fun _ => False) w1 w2 := by rw [← hw2]; exact (Kept.refl _ _).alloc _
 have k3 : Kept (fun _ => False) w2 w3 := by rw [← hw3]; exact (Kept.refl _ _).alloc _
 have s1 : w1.heap.size = w.heap.size + 1 := by rw [← hw1]; simp
 have s2 : w2.heap.size = w.heap.size + 2 := by rw [← hw2]; simp [s1]
 have s3 : w3.heap.size = w.heap.size + 3 := by rw [← hw3]; simp [s2]
 have t3 : w3.heap[w.heap.size]? = some (.cells #[.pointer (some ⟨A.sb, 0, none⟩)] 27 (0, 0)) := (k2.trans k3).get (by rw [← hw1]; exact heap_alloc_new _ _) id
 have x3 : w3.heap[w.heap.size + 1]? = some (.cells #[.int .i64 x.1, .int .i64 x.2] 58 (0, 0)) := k3.get (by rw [← hw2, ← s1]; exact heap_alloc_new _ _) id
 have r3 : w3.heap[w.heap.size + 2]? = some (.cells Z.toArray 71 (0, 0)) := by rw [← hw3, ← s2]; exact heap_alloc_new _ _
 have k03 := h_ ((k1.trans k2).trans k3)
 have hnd := treeNode (h.fresh k03.out) root d (by omega)
 rw [hR] at hnd
 dsimp only at hnd
 have hnd' := h_ hnd
 have h' := h_ h
 have hw1' := h_ hw1
 have hw2' := h_ hw2
 have hw3' := h_ hw3
 have s1' := h_ s1
 have s2' := h_ s2
 have hload3 : Hid (∀ j v, [Value.pointer (some ⟨A.sb, 0, none⟩)][j]? = some v → w3.cell? ⟨w.heap.size, 0 + j, none⟩ = some v) := h_ (fun j v hj => by rw [Nat.zero_add, cell_of_heap t3]; simpa using hj)
 have t3' := h_ t3
 have x3' := h_ x3
 have r3' := h_ r3
 have s3' := h_ s3
 obtain ⟨x0, x1⟩ := x
 dsimp only at *
 clear hw1 hw2 hw3 k1 k2 k3 s1 s2 s3 t3 x3 r3 hnd h hZ hR
 go_enter Try.func33, Try.ntmps33
 go_wp2_with (first | (refine wpList_box_named 27 rfl rfl _ rfl hw1'.out ?_) | (refine wpList_box_named 58 rfl rfl _ rfl hw2'.out ?_; rw [s1'.out]) | (refine wpList_alloc_as 71 rfl rfl Z.toArray hZz.out ?_; rw [hw3'.out, s2'.out]) | (refine wpList_load_agg 27 rfl rfl rfl _ Try.underlying27 rfl [.pointer (some ⟨A.sb, 0, none⟩)] (by kernel_rfl) hload3.out ?_))
 refine hnd'.out.mono ?_
 rintro e w4 ⟨v, rfl, hown, hk4⟩
 obtain ⟨Av, cap, rfl, hf1, hf2⟩ := EntsAt.form (show EntsAt w4 v n.ents from SliceAt.of_owns hown)
 obtain ⟨F, hF⟩ : ∃ F, nodeCells n (.slice Av n.ents.length cap) = F := ⟨_, rfl⟩
 have hFl : Hid (F.length = 18) := h_ (by rw [← hF]; exact nodeCells_len _ _)
 have hF1 : Hid (∀ v ∈ F, v.oneCell' = true) := h_ (by rw [← hF]; exact nodeCells_one _ _ _ _)
 obtain ⟨nb, hnb⟩ : ∃ nb, w4.heap.size = nb := ⟨_, rfl⟩
 obtain ⟨w5, hw5⟩ : ∃ w5, (w4.alloc (.cells Z.toArray 71)).setRow nb F.toArray = w5 := ⟨_, rfl⟩
 have k5 : Kept (fun _ => False) w4 w5 := by rw [← hw5]; exact ((Kept.refl _ _).alloc _).setRowNew (by omega) _
 have bx5 : NodeBox w5 nb n (.slice Av n.ents.length cap) := ⟨by rw [hF, ← hw5, ← hnb]; exact setRow_heap _ _ _ _ _ _ (heap_alloc_new _ _)⟩
 have hown5 := h_ (ownsRow.keptOf hown k5 (fun _ _ => id))
 have k35 := h_ (hk4.trans k5)
 have t5 := h_ (k35.out.get t3'.out id)
 have x5 := h_ (k35.out.get x3'.out id)
 have r5 := h_ (k35.out.get r3'.out id)
 have q5 := h_ (show w5.heap[nb]? = some (.cells F.toArray 71 (0, 0)) by rw [← hF]; exact bx5.heap)
 have hs4 := hk4.size
 have hs5 : Hid (w5.heap.size = nb + 1) := h_ (by rw [← hw5, ← hnb]; simp [World.setRow])
 rw [hF]
 have bx5' := h_ bx5
 have hw5' := h_ hw5
 have hnb' := h_ hnb
 have hF' := h_ hF
 have hb5 : Hid (∀ b, (Value.slice Av n.ents.length cap).ownBlock = some b → b < nb) := h_ (fun b hb => by have := (hown.lt b hb).2; omega)
 clear hown hk4 k5 hw5 bx5 hnb hF
 have hk2' := h_ hk2
 have hin := innerOk_of (show n.ok from hin0.ok) (by have := hin0.kind; omega)
 have hlen6 := hin.le
 have hab := atI_bound (l := n.ents) x0
 have hat := at_any (show EntsAt w5 (.slice Av n.ents.length cap) n.ents from SliceAt.of_owns hown5.out) hin.keys x0 (by omega)
 obtain ⟨a, ha⟩ : ∃ a, atI n.ents x0 = a := ⟨_, rfl⟩
 rw [ha] at hat hab
 have hat' := h_ hat
 have c17 := bx5'.out.c17
 have cx0 := cell_of_heap x5.out 0
 simp at cx0
 unfold maxLen at hf2
 obtain ⟨hab1, hab2⟩ := hab
 have hwa : IntKind.i64.wrap (a + 1) = a + 1 := by rw [IntKind.wrap_i64]; omega
 clear hat hin hin0 hk2
 go_wp2_with (first | (refine wpList_alloc_as 71 rfl rfl Z.toArray hZz.out ?_; rw [hnb'.out]) | (refine wpList_store_whole 71 rfl rfl rfl F rfl (by rw [hFl.out]; exact node_size) 71 _ (by rw [← hnb'.out]; exact heap_alloc_new _ _) (by simp [hFl.out, hZl.out]) hF1.out ?_; rw [hw5'.out]))
 refine hat'.out.mono ?_
 rintro e w6 ⟨rfl, hk6⟩
 have hk6' := h_ hk6
 have k36 := h_ (k35.out.trans hk6)
 have t6 := h_ (hk6.get t5.out id)
 have x6 := hk6.get x5.out id
 have x6' := h_ x6
 have hown6 := h_ (ownsRow.keptOf hown5.out hk6 (fun _ _ => id))
 have bx6 := bx5'.out.kept hk6 id
 have bx6' := h_ bx6
 have r6 := h_ (hk6.get r5.out id)
 have hs6 := hk6.size
 have hne7 : nb ≠ w6.heap.size := by have := hs5.out; omega
 have hloadx : Hid (∀ j v, [Value.int .i64 x0, .int .i64 x1][j]? = some v → w6.cell? ⟨w.heap.size + 1, 0 + j, none⟩ = some v) := h_ (fun j v hj => by rw [Nat.zero_add, cell_of_heap x6'.out]; simpa using hj)
 obtain ⟨w7, hw7⟩ : ∃ w7, w6.alloc (.cells #[.int .i64 x0, .int .i64 x1] 58) = w7 := ⟨_, rfl⟩
 have hw7' := h_ hw7
 have k7 : Kept (fun _ => False) w6 w7 := by rw [← hw7]; exact (Kept.refl _ _).alloc _
 have g7 := h_ (show w7.heap[w6.heap.size]? = some (.cells #[.int .i64 x0, .int .i64 x1] 58 (0, 0)) by rw [← hw7]; exact heap_alloc_new _ _)
 have k37 := h_ (k36.out.trans k7)
 have bx7 := bx6.kept k7 id
 have bx7' := h_ bx7
 have c17_7 := bx7.c17
 have c0_7 := bx7.c0
 rw [← hw7, hk2'.out] at c0_7
 have x7 := k7.get x6 id
 have x7' := h_ x7
 have cx7 := cell_of_heap x7 0
 simp at cx7
 have t7 := h_ (k7.get t6.out id)
 have r7 := h_ (k7.get r6.out id)
 have hown7 := h_ (ownsRow.keptOf hown6.out k7 (fun _ _ => id))
 have hs7 : Hid (w7.heap.size = w6.heap.size + 1) := h_ (by rw [← hw7]; simp)
 have k7' := h_ k7
 clear hk6 bx6 x6 hw7 k7 bx7 x7
 obtain rfl : a = -1 := by omega
 clear hi ha
 go_wp2_with (first | (refine wpList_load_agg 58 rfl rfl rfl _ Try.underlying58 rfl [.int .i64 x0, .int .i64 x1] (by kernel_rfl) hloadx.out ?_))
 rw [hw7'.out]
 go_quiet (fail)
 have hI := insertEnt (base := w3.heap.size) (w := w7.drewN nq) (ownsRow.keptOf hown7.out ((Kept.refl (fun _ => False) w7).drewN nq) (fun _ _ => id)) (i := 0) (g := w6.heap.size) (x := (x0, x1)) (by exact g7.out) (by show w3.heap.size ≤ w7.heap.size; have := k37.out.size; omega) (fun e => by have h1 := (hown6.out.lt _ e).2; omega) (by omega) (by omega)
 rw [hC] at hI
 rw [show n.ents.length + 1 = C.length by rw [← hC]; simp only [List.length_append, List.length_take, List.length_drop, List.length_singleton]; omega] at hI
 have hI := h_ hI
 go_wp2_with fail
 refine hI.out.mono ?_
 rintro e w8 ⟨u, rfl, hown8, hk8⟩
 obtain ⟨Au, cu, rfl, _⟩ := EntsAt.form (show EntsAt w8 u (C) from SliceAt.of_owns hown8)
 have q8 : NodeBox w8 nb n (.slice Av n.ents.length cap) := bx7'.out.kept (((Kept.refl (fun bb => (Value.slice Av n.ents.length cap).ownBlock = some bb) w7).drewN nq).trans hk8) (fun e => by have h1 := (hown7.out.lt _ e); have h2 := hown5.out.lt _ e; have := hb5.out _ e; omega)
 have hE := putEnds q8 ((((Kept.refl (fun bb => (Value.slice Av n.ents.length cap).ownBlock = some bb) w7).drewN nq).trans hk8).get r7.out (fun e => by have := (hown7.out.lt _ e).1; have := s3'.out; omega)) (by have := s3'.out; have := hnb'.out; omega) hown8
 obtain ⟨G, hG⟩ : ∃ G, nodeCells { n with ents := C } (.slice Au (C).length cu) = G := ⟨_, rfl⟩
 have hGl : Hid (G.length = 18) := h_ (by rw [← hG]; exact nodeCells_len _ _)
 have hG1 : Hid (∀ v ∈ G, v.oneCell' = true) := h_ (by rw [← hG]; exact nodeCells_one _ _ _ _)
 have q9 := h_ (show (w8.setCell ⟨nb, 17, none⟩ (.slice Au (C).length cu)).heap[nb]? = some (.cells G.toArray 71 (0, 0)) by rw [← hG]; exact hE.1.heap)
 have r9 := h_ hE.2.1
 have o9 := h_ hE.2.2
 have c8 := q8.c17
 have f8 := free_of_heap q8.heap 17
 have hG := h_ hG
 have k08 := h_ ((k03.out.trans k37.out).trans_new (((Kept.refl (fun bb => (Value.slice Av n.ents.length cap).ownBlock = some bb) w7).drewN nq).trans hk8) (fun j hj e => by have := (hown7.out.lt _ e).1; have := s3'.out; omega))
 have hs8 := hk8.size
 have hs9 : Hid ((w7.drewN nq).heap.size = w7.heap.size) := h_ rfl
 clear hI hE q8 hown8 hk8
 go_wp2_with (first | (refine wpList_load_agg 71 rfl rfl rfl _ Try.underlying71 rfl G (by rw [hGl.out]; exact node_size) (fun j v hv => by rw [cell_of_heap q9.out, Nat.zero_add]; simpa using hv) ?_) | (refine wpList_store_whole 71 rfl rfl rfl G rfl (by rw [hGl.out]; exact node_size) 71 _ r9.out (by simp [hGl.out, hZl.out]) hG1.out ?_))
 refine bodyPost_ret (results_row_tmp rfl _ _ (w.heap.size + 2) 71 G.toArray (0, 0) _ rfl (setRow_heap _ _ _ _ 71 (0, 0) r9.out) Try.underlying71 rfl (by simp only [List.size_toArray]; rw [hGl.out]; exact node_size)) rfl ?_
 exact ⟨.slice Au C.length cu, by rw [← hG.out]; rfl, owns_weaken (o9.out _) (by have := s3'.out; omega), ((k08.out).setNew (by show w.heap.size ≤ nb; have := s3'.out; have := hnb'.out; omega) _).setRowNew (by omega) _⟩

set_option maxHeartbeats 4000000 in
theorem putMore {w : World} {A : SA} {M : SM} (h : StoreAt w A M) (root : Int) (d : Nat) (hd : d ≤ 8) (x : Int × Int) {n : NM} (hR : M.tnode root d = (n, 0)) (hin0 : InnerOk n) (hk2 : n.kind = 2) {C : List (Int × Int)} {i : Nat} (hi : atI n.ents x.1 = i) (hother : ¬ (n.ents.getD i (0, 0)).1 = x.1) (hC : n.ents.take (i + 1) ++ [x] ++ n.ents.drop (i + 1) = C) :
  Calls Try.prog 33 #[.agg #[.pointer (some ⟨A.sb, 0, none⟩)], .int .i64 root, .int .i64 d, .agg #[.int .i64 x.1, .int .i64 x.2]] w fun e w' => ∃ v, e = .returned (.tuple #[.agg (nodeCells { n with ents := C } v).toArray, .int .i64 0]) ∧
   w'.ownsRow w.heap.size 58 2 v C.length (entCells C) ∧ Kept (fun _ => False) w w' := by
 obtain ⟨Z, hZ⟩ : ∃ Z, nodeCells NM.zero (.slice none 0 0) = Z := ⟨_, rfl⟩
 have hZz : Hid ((Try.prog.info? 71).map (·.zero) = some (some (.agg Z.toArray))) := h_ (by rw [← hZ]; exact node_zero)
 have hZl : Hid (Z.length = 18) := h_ (by rw [← hZ]; exact nodeCells_len _ _)
 obtain ⟨w1, hw1⟩ : ∃ w1, w.alloc (.cells #[.pointer (some ⟨A.sb, 0, none⟩)] 27) = w1 := ⟨_, rfl⟩
 obtain ⟨w2, hw2⟩ : ∃ w2, w1.alloc (.cells #[.int .i64 x.1, .int .i64 x.2] 58) = w2 := ⟨_, rfl⟩
 obtain ⟨w3, hw3⟩ : ∃ w3, w2.alloc (.cells Z.toArray 71) = w3 := ⟨_, rfl⟩
 have k1 : Kept (fun _ => False) w w1 := by rw [← hw1]; exact (Kept.refl _ _).alloc _
 have k2 : Kept (fun _ => False) w1 w2 := by rw [← hw2]; exact (Kept.refl _ _).alloc _
 have k3 : Kept (fun _ => False) w2 w3 := by rw [← hw3]; exact (Kept.refl _ _).alloc _
 have s1 : w1.heap.size = w.heap.size + 1 := by rw [← hw1]; simp
 have s2 : w2.heap.size = w.heap.size + 2 := by rw [← hw2]; simp [s1]
 have s3 : w3.heap.size = w.heap.size + 3 := by rw [← hw3]; simp [s2]
 have t3 : w3.heap[w.heap.size]? = some (.cells #[.pointer (some ⟨A.sb, 0, none⟩)] 27 (0, 0)) := (k2.trans k3).get (by rw [← hw1]; exact heap_alloc_new _ _) id
 have x3 : w3.heap[w.heap.size + 1]? = some (.cells #[.int .i64 x.1, .int .i64 x.2] 58 (0, 0)) := k3.get (by rw [← hw2, ← s1]; exact heap_alloc_new _ _) id
 have r3 : w3.heap[w.heap.size + 2]? = some (.cells Z.toArray 71 (0, 0)) := by rw [← hw3, ← s2]; exact heap_alloc_new _ _
 have k03 := h_ ((k1.trans k2).trans k3)
 have hnd := treeNode (h.fresh k03.out) root d (by omega)
 rw [hR] at hnd
 dsimp only at hnd
 have hnd' := h_ hnd
 have h' := h_ h
 have hw1' := h_ hw1
 have hw2' := h_ hw2
 have hw3' := h_ hw3
 have s1' := h_ s1
 have s2' := h_ s2
 have hload3 : Hid (∀ j v, [Value.pointer (some ⟨A.sb, 0, none⟩)][j]? = some v → w3.cell? ⟨w.heap.size, 0 + j, none⟩ = some v) := h_ (fun j v hj => by rw [Nat.zero_add, cell_of_heap t3]; simpa using hj)
 have t3' := h_ t3
 have x3' := h_ x3
 have r3' := h_ r3
 have s3' := h_ s3
 obtain ⟨x0, x1⟩ := x
 dsimp only at *
 clear hw1 hw2 hw3 k1 k2 k3 s1 s2 s3 t3 x3 r3 hnd h hZ hR
 go_enter Try.func33, Try.ntmps33
 go_wp2_with (first | (refine wpList_box_named 27 rfl rfl _ rfl hw1'.out ?_) | (refine wpList_box_named 58 rfl rfl _ rfl hw2'.out ?_; rw [s1'.out]) | (refine wpList_alloc_as 71 rfl rfl Z.toArray hZz.out ?_; rw [hw3'.out, s2'.out]) | (refine wpList_load_agg 27 rfl rfl rfl _ Try.underlying27 rfl [.pointer (some ⟨A.sb, 0, none⟩)] (by kernel_rfl) hload3.out ?_))
 refine hnd'.out.mono ?_
 rintro e w4 ⟨v, rfl, hown, hk4⟩
 obtain ⟨Av, cap, rfl, hf1, hf2⟩ := EntsAt.form (show EntsAt w4 v n.ents from SliceAt.of_owns hown)
 obtain ⟨F, hF⟩ : ∃ F, nodeCells n (.slice Av n.ents.length cap) = F := ⟨_, rfl⟩
 have hFl : Hid (F.length = 18) := h_ (by rw [← hF]; exact nodeCells_len _ _)
 have hF1 : Hid (∀ v ∈ F, v.oneCell' = true) := h_ (by rw [← hF]; exact nodeCells_one _ _ _ _)
 obtain ⟨nb, hnb⟩ : ∃ nb, w4.heap.size = nb := ⟨_, rfl⟩
 obtain ⟨w5, hw5⟩ : ∃ w5, (w4.alloc (.cells Z.toArray 71)).setRow nb F.toArray = w5 := ⟨_, rfl⟩
 have k5 : Kept (fun _ => False) w4 w5 := by rw [← hw5]; exact ((Kept.refl _ _).alloc _).setRowNew (by omega) _
 have bx5 : NodeBox w5 nb n (.slice Av n.ents.length cap) := ⟨by rw [hF, ← hw5, ← hnb]; exact setRow_heap _ _ _ _ _ _ (heap_alloc_new _ _)⟩
 have hown5 := h_ (ownsRow.keptOf hown k5 (fun _ _ => id))
 have k35 := h_ (hk4.trans k5)
 have t5 := h_ (k35.out.get t3'.out id)
 have x5 := h_ (k35.out.get x3'.out id)
 have r5 := h_ (k35.out.get r3'.out id)
 have q5 := h_ (show w5.heap[nb]? = some (.cells F.toArray 71 (0, 0)) by rw [← hF]; exact bx5.heap)
 have hs4 := hk4.size
 have hs5 : Hid (w5.heap.size = nb + 1) := h_ (by rw [← hw5, ← hnb]; simp [World.setRow])
 rw [hF]
 have bx5' := h_ bx5
 have hw5' := h_ hw5
 have hnb' := h_ hnb
 have hF' := h_ hF
 have hb5 : Hid (∀ b, (Value.slice Av n.ents.length cap).ownBlock = some b → b < nb) := h_ (fun b hb => by have := (hown.lt b hb).2; omega)
 clear hown hk4 k5 hw5 bx5 hnb hF
 have hk2' := h_ hk2
 have hil : i < n.ents.length := by have := (atI_bound (l := n.ents) x0).2; omega
 obtain ⟨y, hy⟩ : ∃ y, n.ents[i]? = some y := ⟨_, List.getElem?_eq_getElem hil⟩
 have hy0 : (y.1 == x0) = false := by simpa [hy] using hother
 have hin := innerOk_of (show n.ok from hin0.ok) (by have := hin0.kind; omega)
 have hlen6 := hin.le
 have hab := atI_bound (l := n.ents) x0
 have hat := at_any (show EntsAt w5 (.slice Av n.ents.length cap) n.ents from SliceAt.of_owns hown5.out) hin.keys x0 (by omega)
 obtain ⟨a, ha⟩ : ∃ a, atI n.ents x0 = a := ⟨_, rfl⟩
 rw [ha] at hat hab
 have hat' := h_ hat
 have c17 := bx5'.out.c17
 have cx0 := cell_of_heap x5.out 0
 simp at cx0
 unfold maxLen at hf2
 obtain ⟨hab1, hab2⟩ := hab
 have hwa : IntKind.i64.wrap (a + 1) = a + 1 := by rw [IntKind.wrap_i64]; omega
 clear hat hin hin0 hk2
 go_wp2_with (first | (refine wpList_alloc_as 71 rfl rfl Z.toArray hZz.out ?_; rw [hnb'.out]) | (refine wpList_store_whole 71 rfl rfl rfl F rfl (by rw [hFl.out]; exact node_size) 71 _ (by rw [← hnb'.out]; exact heap_alloc_new _ _) (by simp [hFl.out, hZl.out]) hF1.out ?_; rw [hw5'.out]))
 refine hat'.out.mono ?_
 rintro e w6 ⟨rfl, hk6⟩
 have hk6' := h_ hk6
 have k36 := h_ (k35.out.trans hk6)
 have t6 := h_ (hk6.get t5.out id)
 have x6 := hk6.get x5.out id
 have x6' := h_ x6
 have hown6 := h_ (ownsRow.keptOf hown5.out hk6 (fun _ _ => id))
 have bx6 := bx5'.out.kept hk6 id
 have bx6' := h_ bx6
 have r6 := h_ (hk6.get r5.out id)
 have hs6 := hk6.size
 have hne7 : nb ≠ w6.heap.size := by have := hs5.out; omega
 have hloadx : Hid (∀ j v, [Value.int .i64 x0, .int .i64 x1][j]? = some v → w6.cell? ⟨w.heap.size + 1, 0 + j, none⟩ = some v) := h_ (fun j v hj => by rw [Nat.zero_add, cell_of_heap x6'.out]; simpa using hj)
 obtain ⟨w7, hw7⟩ : ∃ w7, w6.alloc (.cells #[.int .i64 x0, .int .i64 x1] 58) = w7 := ⟨_, rfl⟩
 have hw7' := h_ hw7
 have k7 : Kept (fun _ => False) w6 w7 := by rw [← hw7]; exact (Kept.refl _ _).alloc _
 have g7 := h_ (show w7.heap[w6.heap.size]? = some (.cells #[.int .i64 x0, .int .i64 x1] 58 (0, 0)) by rw [← hw7]; exact heap_alloc_new _ _)
 have k37 := h_ (k36.out.trans k7)
 have bx7 := bx6.kept k7 id
 have bx7' := h_ bx7
 have c17_7 := bx7.c17
 have c0_7 := bx7.c0
 rw [← hw7, hk2'.out] at c0_7
 have x7 := k7.get x6 id
 have x7' := h_ x7
 have cx7 := cell_of_heap x7 0
 simp at cx7
 have t7 := h_ (k7.get t6.out id)
 have r7 := h_ (k7.get r6.out id)
 have hown7 := h_ (ownsRow.keptOf hown6.out k7 (fun _ _ => id))
 have hs7 : Hid (w7.heap.size = w6.heap.size + 1) := h_ (by rw [← hw7]; simp)
 have k7' := h_ k7
 clear hk6 bx6 x6 hw7 k7 bx7 x7
 have hai : a = i := by omega
 subst hai
 obtain ⟨b, off, rfl, hbl, cy7, _⟩ := EntsAt.get (show EntsAt w7 (.slice Av n.ents.length cap) n.ents from SliceAt.of_owns hown7.out) hy
 have hi1 : (i : Int) < (n.ents.length : Int) := by omega
 clear hy hother hi ha
 go_wp2_with (first | (refine wpList_load_agg 58 rfl rfl rfl _ Try.underlying58 rfl [.int .i64 x0, .int .i64 x1] (by kernel_rfl) hloadx.out ?_))
 rw [hw7'.out]
 go_quiet (fail)
 have hI := insertEnt (base := w3.heap.size) (w := w7.drewN nq) (ownsRow.keptOf hown7.out ((Kept.refl (fun _ => False) w7).drewN nq) (fun _ _ => id)) (i := (i + 1)) (g := w6.heap.size) (x := (x0, x1)) (by exact g7.out) (by show w3.heap.size ≤ w7.heap.size; have := k37.out.size; omega) (fun e => by have h1 := (hown6.out.lt _ e).2; omega) (by omega) (by omega)
 rw [hC] at hI
 rw [Int.natCast_add, Int.natCast_one] at hI
 rw [show n.ents.length + 1 = C.length by rw [← hC]; simp only [List.length_append, List.length_take, List.length_drop, List.length_singleton]; omega] at hI
 have hI := h_ hI
 go_wp2_with fail
 refine hI.out.mono ?_
 rintro e w8 ⟨u, rfl, hown8, hk8⟩
 obtain ⟨Au, cu, rfl, _⟩ := EntsAt.form (show EntsAt w8 u (C) from SliceAt.of_owns hown8)
 have q8 : NodeBox w8 nb n (.slice (some ⟨b, off, none⟩) n.ents.length cap) := bx7'.out.kept (((Kept.refl (fun bb => (Value.slice (some ⟨b, off, none⟩) n.ents.length cap).ownBlock = some bb) w7).drewN nq).trans hk8) (fun e => by have h1 := (hown7.out.lt _ e); have h2 := hown5.out.lt _ e; have := hb5.out _ e; omega)
 have hE := putEnds q8 ((((Kept.refl (fun bb => (Value.slice (some ⟨b, off, none⟩) n.ents.length cap).ownBlock = some bb) w7).drewN nq).trans hk8).get r7.out (fun e => by have := (hown7.out.lt _ e).1; have := s3'.out; omega)) (by have := s3'.out; have := hnb'.out; omega) hown8
 obtain ⟨G, hG⟩ : ∃ G, nodeCells { n with ents := C } (.slice Au (C).length cu) = G := ⟨_, rfl⟩
 have hGl : Hid (G.length = 18) := h_ (by rw [← hG]; exact nodeCells_len _ _)
 have hG1 : Hid (∀ v ∈ G, v.oneCell' = true) := h_ (by rw [← hG]; exact nodeCells_one _ _ _ _)
 have q9 := h_ (show (w8.setCell ⟨nb, 17, none⟩ (.slice Au (C).length cu)).heap[nb]? = some (.cells G.toArray 71 (0, 0)) by rw [← hG]; exact hE.1.heap)
 have r9 := h_ hE.2.1
 have o9 := h_ hE.2.2
 have c8 := q8.c17
 have f8 := free_of_heap q8.heap 17
 have hG := h_ hG
 have k08 := h_ ((k03.out.trans k37.out).trans_new (((Kept.refl (fun bb => (Value.slice (some ⟨b, off, none⟩) n.ents.length cap).ownBlock = some bb) w7).drewN nq).trans hk8) (fun j hj e => by have := (hown7.out.lt _ e).1; have := s3'.out; omega))
 have hs8 := hk8.size
 have hs9 : Hid ((w7.drewN nq).heap.size = w7.heap.size) := h_ rfl
 clear hI hE q8 hown8 hk8
 go_wp2_with (first | (refine wpList_load_agg 71 rfl rfl rfl _ Try.underlying71 rfl G (by rw [hGl.out]; exact node_size) (fun j v hv => by rw [cell_of_heap q9.out, Nat.zero_add]; simpa using hv) ?_) | (refine wpList_store_whole 71 rfl rfl rfl G rfl (by rw [hGl.out]; exact node_size) 71 _ r9.out (by simp [hGl.out, hZl.out]) hG1.out ?_))
 refine bodyPost_ret (results_row_tmp rfl _ _ (w.heap.size + 2) 71 G.toArray (0, 0) _ rfl (setRow_heap _ _ _ _ 71 (0, 0) r9.out) Try.underlying71 rfl (by simp only [List.size_toArray]; rw [hGl.out]; exact node_size)) rfl ?_
 exact ⟨.slice Au C.length cu, by rw [← hG.out]; rfl, owns_weaken (o9.out _) (by have := s3'.out; omega), ((k08.out).setNew (by show w.heap.size ≤ nb; have := s3'.out; have := hnb'.out; omega) _).setRowNew (by omega) _⟩

theorem step_store_whole {ops : Array Oper} {o : Oper} {a : Act} {w : World} {K : Act → World → Prop} {Q : Exit → Act → World → Prop} {E : Prop} (ty : TypeId) {x y : Operand} (ho : o.op = .store ty x y) (hgd : o.guard = none)
  {g : Nat} (hx : a.eval x = .pointer (some ⟨g, 0, none⟩)) (vs : List Value) (hy : a.eval y = .agg vs.toArray) (hi : (Try.prog.info? ty).map (·.size) = some vs.length)
  (t : TypeId) (cur : Array Value) (hg : w.heap[g]? = some (.cells cur t (0, 0))) (hfit : vs.length = cur.size) (h1 : ∀ v ∈ vs, v.oneCell' = true)
  (h : K (a.put o.dst undef) (w.setRow g vs.toArray)) : if Region.wanted o (yielded ops a.tmps) = true then Oper.wp Try.prog o a w K Q else E := by
 rw [if_pos (by simp [Region.wanted, hgd])]
 have hr := run_storeVar_agg (P := Try.prog) (w := w) g 0 t cur vs hg hi (by omega) h1
 have h0 : List.drop (0 + vs.length) cur.toList = [] := List.drop_eq_nil_of_le (by simp; omega)
 rw [h0] at hr
 simp only [List.take_zero, List.nil_append, List.append_nil] at hr
 unfold Oper.wp execOp
 simp only [ho, hx, hy, Instr.storeAt, Instr.sureAddr, Sem.run_bind, Sem.run_pure, Result.andThen_ok, hr]
 exact h
theorem step_alloc_as {ops : Array Oper} {o : Oper} {a : Act} {w : World} {K : Act → World → Prop} {Q : Exit → Act → World → Prop} {E : Prop} (ty : TypeId) (ho : o.op = .alloc ty) (hgd : o.guard = none)
  (cs : Array Value) (hz : (Try.prog.info? ty).map (·.zero) = some (some (.agg cs)))
  (h : K (a.put o.dst (.pointer (some ⟨w.heap.size, 0, none⟩))) (w.alloc (.cells cs ty))) : if Region.wanted o (yielded ops a.tmps) = true then Oper.wp Try.prog o a w K Q else E := by
 rw [if_pos (by simp [Region.wanted, hgd])]
 unfold Oper.wp execOp
 simp only [ho, Instr.alloc, Sem.run_bind, Sem.run_pure, Result.andThen_ok, run_zeroValue hz, newVar, newRow, run_newObj]
 exact h
structure PutSt (w : World) (A : SA) (x : Int × Int) (n : NM) (sv : Value) (nb : Nat) (Z : Array Value) (A' : SA) (M' : SM) (wr : World) : Prop where
 to_ : StoreTo A A' M' w wr
 tb : wr.heap[w.heap.size]? = some (.cells #[.pointer (some ⟨A.sb, 0, none⟩)] 27 (0, 0))
 st : Safe wr A' w.heap.size
 xb : wr.heap[w.heap.size + 1]? = some (.cells #[.int .i64 x.1, .int .i64 x.2] 58 (0, 0))
 sx : Safe wr A' (w.heap.size + 1)
 rb : wr.heap[w.heap.size + 2]? = some (.cells Z 71 (0, 0))
 sr : Safe wr A' (w.heap.size + 2)
 nbx : NodeBox wr nb n sv
 sn : Safe wr A' nb
 own : OutAt wr A' (w.heap.size + 3) sv n.ents
 lt : w.heap.size + 2 < nb
section
variable {w : World} {A : SA} {x : Int × Int} {n : NM} {sv : Value} {nb : Nat} {Z : Array Value} {A' : SA} {M' : SM} {wr : World}
theorem PutSt.fresh {w' : World} (h : PutSt w A x n sv nb Z A' M' wr) (k : Kept (fun _ => False) wr w') : PutSt w A x n sv nb Z A' M' w' :=
 ⟨h.to_.fresh k, k.get h.tb id, h.st.fresh k, k.get h.xb id, h.sx.fresh k, k.get h.rb id, h.sr.fresh k, h.nbx.kept k id, h.sn.fresh k, h.own.fresh k, h.lt⟩
theorem PutSt.step {w' : World} {A2 : SA} {M2 : SM} (h : PutSt w A x n sv nb Z A' M' wr) (k : StoreTo A' A2 M2 wr w') : PutSt w A x n sv nb Z A2 M2 w' :=
 ⟨h.to_.trans k, k.get h.tb h.st, h.st.to k, k.get h.xb h.sx, h.sx.to k, k.get h.rb h.sr, h.sr.to k, ⟨k.get h.nbx.heap h.sn⟩, h.sn.to k, h.own.to k, h.lt⟩
end
structure BoxAt (w : World) (A : SA) (cb : Nat) (n : NM) (v : Value) : Prop where
 box : NodeBox w cb n v
 safe : Safe w A cb
 ents : EntsOff w A v n.ents
theorem BoxAt.made {W : World} {A : SA} {M : SM} {base cb : Nat} {n : NM} {v : Value} {Z : Array Value} (hs : StoreAt W A M) (ho : OutAt W A base v n.ents) (hb : W.heap[cb]? = some (.cells Z 71 (0, 0))) (hsafe : Safe W A cb) :
  BoxAt (W.setRow cb (nodeCells n v).toArray) A cb n v := by
 have k := (Kept.refl (fun i => i = cb) W).setRow rfl (nodeCells n v).toArray
 have hne := ho.types hb (fun cur e => by cases e)
 exact ⟨⟨setRow_heap _ _ _ _ _ _ hb⟩, ⟨Nat.lt_of_lt_of_le hsafe.lt k.size, hsafe.off⟩, ⟨SliceAt.kept ho.ents.at_ k (fun b hb e => hne (by rw [hb, e])), fun hl b hb => ⟨Nat.lt_of_lt_of_le (ho.ents.off hl b hb).1 k.size, (ho.ents.off hl b hb).2⟩⟩⟩
theorem PutSt.boxed {w : World} {A : SA} {x : Int × Int} {n : NM} {sv : Value} {nb : Nat} {Z : Array Value} {A' : SA} {M' : SM} {wr : World} (h : PutSt w A x n sv nb Z A' M' wr) {cb : Nat} (h1 : nb < cb) (hs : Safe wr A' cb) {Z2 : Array Value} (hb : wr.heap[cb]? = some (.cells Z2 71 (0, 0))) (hd : ∀ k, A'.own k → k ≠ cb) (F : Array Value) :
  PutSt w A x n sv nb Z A' M' (wr.setRow cb F) := by
 have k := (Kept.refl (fun i => i = cb) wr).setRow rfl F
 have hlt := h.lt
 have hne := h.own.types hb (fun cur e => by cases e)
 have hst := h.to_
 refine ⟨⟨hst.store.kept k hd, hst.kept.trans_new k (fun i hi e => by subst e; omega), hst.foot, hst.sb, hst.fix⟩, k.get h.tb (by omega), ⟨Nat.lt_of_lt_of_le h.st.lt k.size, h.st.off⟩, k.get h.xb (by omega), ⟨Nat.lt_of_lt_of_le h.sx.lt k.size, h.sx.off⟩, k.get h.rb (by omega), ⟨Nat.lt_of_lt_of_le h.sr.lt k.size, h.sr.off⟩, h.nbx.kept k (by omega), ⟨Nat.lt_of_lt_of_le h.sn.lt k.size, h.sn.off⟩, ⟨ownsRow.keptOf h.own.own k (fun b hb e => hne (by rw [hb, e])), h.own.off⟩, h.lt⟩
theorem PutSt.held {w : World} {A : SA} {x : Int × Int} {n : NM} {b off m cap : Nat} {nb : Nat} {Z : Array Value} {A' : SA} {M' : SM} {wr : World} (h : PutSt w A x n (.slice (some ⟨b, off, none⟩) m cap) nb Z A' M' wr) {F : List Value} (hF : nodeCells n (.slice (some ⟨b, off, none⟩) m cap) = F) {i : Nat} {y : Int × Int} (hy : n.ents[i]? = some y) :
  wr.heap[w.heap.size]? = some (.cells #[.pointer (some ⟨A.sb, 0, none⟩)] 27 (0, 0)) ∧ wr.heap[nb]? = some (.cells F.toArray 71 (0, 0)) ∧ wr.heap[w.heap.size + 1]? = some (.cells #[.int .i64 x.1, .int .i64 x.2] 58 (0, 0)) ∧ wr.cell? ⟨nb, 17, none⟩ = some (.slice (some ⟨b, off, none⟩) m cap) ∧ wr.cell? ⟨b, off + i * 2 + 1, none⟩ = some (.int .i64 y.2) := by
 refine ⟨h.tb, by rw [← hF]; exact h.nbx.heap, h.xb, h.nbx.c17, ?_⟩
 obtain ⟨b', off', hA, _, _, c⟩ := EntsAt.get h.own.ents.at_ hy
 cases hA
 exact c
theorem StoreTo.own_ne {A A' : SA} {M' : SM} {W w' : World} (k : StoreTo A A' M' W w') {cb : Nat} (hA : ∀ j, A.own j → j < cb) (hcb : cb < W.heap.size) : ∀ j, A'.own j → j ≠ cb := by
 rintro j (hj | hj | hj) rfl
 ·rcases k.foot j hj with e | e
  ·exact Nat.lt_irrefl _ (hA j (.inl e))
  ·omega
 ·rw [k.fix.2] at hj
  exact Nat.lt_irrefl _ (hA j (.inr (.inl hj)))
 ·rw [k.fix.1] at hj
  exact Nat.lt_irrefl _ (hA j (.inr (.inr hj)))
theorem StoreTo.touch {A A' : SA} {M M' : SM} {w wr wr' : World} (h : StoreAt w A M) (k : StoreTo A A' M' w wr) {b : Nat} (hb : w.heap.size ≤ b) (hs : ¬ A'.foot b) (kk : Kept (fun j => j = b) wr wr') : StoreTo A A' M' w wr' := by
 have hown : ∀ j, A'.own j → ¬ j = b := by
  rintro j (hj | hj | hj) rfl
  ·exact hs hj
  ·rw [k.fix.2] at hj
   have := h.lt (.inr (.inl hj)); omega
  ·rw [k.fix.1] at hj
   have := h.lt (.inr (.inr hj)); omega
 exact ⟨k.store.kept kk hown, k.kept.trans_new kk (fun i hi e => by omega), k.foot, k.sb, k.fix⟩
theorem OutAt.touch {w w' : World} {A : SA} {base base' b : Nat} {v : Value} {l : List (Int × Int)} (h : OutAt w A base v l) (hb : base' ≤ base) (hne : v.ownBlock ≠ some b) (k : Kept (fun j => j = b) w w') : OutAt w' A base' v l :=
 ⟨owns_weaken (ownsRow.keptOf h.own k (fun g hg e => hne (by rw [hg, e]))) hb, h.off⟩
section
variable {w : World} {A : SA} {M : SM} {x : Int × Int} {n : NM} {sv : Value} {nb : Nat} {Z : Array Value} {A' : SA} {M' : SM} {wr : World}
theorem PutSt.stop (P : PutSt w A x n sv nb Z A' M' wr) (h : StoreAt w A M) (F : Array Value) : StoreTo A A' M' w (wr.setRow (w.heap.size + 2) F) ∧ OutAt (wr.setRow (w.heap.size + 2) F) A' w.heap.size sv n.ents := by
 have k := (Kept.refl (fun j => j = w.heap.size + 2) wr).setRow rfl F
 exact ⟨P.to_.touch h (by omega) P.sr.off k, P.own.touch (by omega) (P.own.types P.rb (fun cur e => by cases e)) k⟩
theorem PutSt.ends (P : PutSt w A x n sv nb Z A' M' wr) (h : StoreAt w A M) {u : Value} {C : List (Int × Int)} {base : Nat} (ho : OutAt wr A' base u C) (hbase : w.heap.size ≤ base) :
  NodeBox (wr.setCell ⟨nb, 17, none⟩ u) nb { n with ents := C } u ∧ (wr.setCell ⟨nb, 17, none⟩ u).heap[w.heap.size + 2]? = some (.cells Z 71 (0, 0)) ∧
   ∀ F, StoreTo A A' M' w ((wr.setCell ⟨nb, 17, none⟩ u).setRow (w.heap.size + 2) F) ∧ OutAt ((wr.setCell ⟨nb, 17, none⟩ u).setRow (w.heap.size + 2) F) A' w.heap.size u C := by
 have hlt := P.lt
 have k1 := (Kept.refl (fun j => j = nb) wr).setCell (p := ⟨nb, 17, none⟩) rfl u
 have r1 := k1.get P.rb (by omega)
 have T1 := P.to_.touch h (by omega) P.sn.off k1
 have O1 := ho.touch hbase (ho.types P.nbx.heap (fun cur e => by cases e)) k1
 refine ⟨⟨by rw [heap_setCell_same P.nbx.heap, nodeCells_set n C]⟩, r1, fun F => ?_⟩
 have k := (Kept.refl (fun j => j = w.heap.size + 2) (wr.setCell ⟨nb, 17, none⟩ u)).setRow rfl F
 exact ⟨T1.touch h (by omega) P.sr.off k, O1.touch (Nat.le_refl _) (O1.types r1 (fun cur e => by cases e)) k⟩
end

def putRes (n : NM) (i : Nat) (M1 : SM) (n1 : NM) (er : Nat) : SM × NM × Nat :=
 if er = 0 then (if (M1.split n1).2.2 = 0 then ((M1.split n1).1, { n with ents := n.ents.take i ++ (M1.split n1).2.1 ++ n.ents.drop (i + 1) }, 0) else ((M1.split n1).1, n, (M1.split n1).2.2)) else (M1, n, er)
theorem run_max0 (w : World) (ts : Array TypeId) (ty : TypeId) {a : Int} {i : Nat} (h : max a 0 = (i : Int)) : (Builtin.max_ ts ty #[.int .i64 a, .int .i64 0]).run Try.prog w = .ok (.int .i64 i) w := by
 by_cases h0 : a < 0
 ·have : (i : Int) = 0 := by omega
  simp [Builtin.max_, Builtin.max2, h0, this]
 ·have : (i : Int) = a := by omega
  simp [Builtin.max_, Builtin.max2, h0, this]
theorem wpList_max0 {ops : Array Oper} {rest : List Oper} {o : Oper} {a : Act} {w : World} {Q : Exit → Act → World → Prop} (hgd : o.guard = none) (x y : Operand) (ts : Array TypeId)
  (ho : o.op = .call { callee := .builtin .max, args := #[x, y], argTypes := ts }) {k : Int} {i : Nat} (hk : max k 0 = (i : Int)) (hx : a.eval x = .int .i64 k) (hy : a.eval y = .int .i64 0) (h : wpList Try.prog ops Q rest (a.put o.dst (.int .i64 i)) w) : wpList Try.prog ops Q (o :: rest) a w :=
 wpList_plain hgd fun _ hK => by
  unfold Oper.wp
  simp [execOp, ho, resolve, invoke, builtin, hx, hy, run_max0 w ts o.type hk, Result.andThen]
  exact hK _ _ h
set_option maxHeartbeats 4000000 in
theorem putInner {w : World} {A : SA} {M : SM} (h : StoreAt w A M) (root : Int) (d : Nat) (hd : d ≤ 8) (x : Int × Int) {n : NM} (hR : M.tnode root d = (n, 0)) (hin0 : InnerOk n) (hk2 : n.kind = 3) {i : Nat} (hi : (atI n.ents x.1).toNat = i) {M1 : SM} {n1 : NM} {er : Nat} (hfew : M1.log.length + 2 < 100000000)
  (ih : ∀ (W : World), StoreAt W A M → Calls Try.prog 33 #[.agg #[.pointer (some ⟨A.sb, 0, none⟩)], .int .i64 (n.ents.getD i (0, 0)).2, .int .i64 ((d : Int) + 1), .agg #[.int .i64 x.1, .int .i64 x.2]] W fun e w' =>
   ∃ A' v, e = .returned (.tuple #[.agg (nodeCells n1 v).toArray, .int .i64 er]) ∧ StoreTo A A' M1 W w' ∧ OutAt w' A' W.heap.size v n1.ents) :
  Calls Try.prog 33 #[.agg #[.pointer (some ⟨A.sb, 0, none⟩)], .int .i64 root, .int .i64 d, .agg #[.int .i64 x.1, .int .i64 x.2]] w fun e w' => ∃ A' v, e = .returned (.tuple #[.agg (nodeCells (putRes n i M1 n1 er).2.1 v).toArray, .int .i64 (putRes n i M1 n1 er).2.2]) ∧
   StoreTo A A' (putRes n i M1 n1 er).1 w w' ∧ OutAt w' A' w.heap.size v (putRes n i M1 n1 er).2.1.ents := by
 obtain ⟨Z, hZ⟩ : ∃ Z, nodeCells NM.zero (.slice none 0 0) = Z := ⟨_, rfl⟩
 have hZz : Hid ((Try.prog.info? 71).map (·.zero) = some (some (.agg Z.toArray))) := h_ (by rw [← hZ]; exact node_zero)
 have hZl : Hid (Z.length = 18) := h_ (by rw [← hZ]; exact nodeCells_len _ _)
 obtain ⟨w1, hw1⟩ : ∃ w1, w.alloc (.cells #[.pointer (some ⟨A.sb, 0, none⟩)] 27) = w1 := ⟨_, rfl⟩
 obtain ⟨w2, hw2⟩ : ∃ w2, w1.alloc (.cells #[.int .i64 x.1, .int .i64 x.2] 58) = w2 := ⟨_, rfl⟩
 obtain ⟨w3, hw3⟩ : ∃ w3, w2.alloc (.cells Z.toArray 71) = w3 := ⟨_, rfl⟩
 have k1 : Kept (fun _ => False) w w1 := by rw [← hw1]; exact (Kept.refl _ _).alloc _
 have k2 : Kept (fun _ => False) w1 w2 := by rw [← hw2]; exact (Kept.refl _ _).alloc _
 have k3 : Kept (fun _ => False) w2 w3 := by rw [← hw3]; exact (Kept.refl _ _).alloc _
 have s1 : w1.heap.size = w.heap.size + 1 := by rw [← hw1]; simp
 have s2 : w2.heap.size = w.heap.size + 2 := by rw [← hw2]; simp [s1]
 have s3 : w3.heap.size = w.heap.size + 3 := by rw [← hw3]; simp [s2]
 have t3 : w3.heap[w.heap.size]? = some (.cells #[.pointer (some ⟨A.sb, 0, none⟩)] 27 (0, 0)) := (k2.trans k3).get (by rw [← hw1]; exact heap_alloc_new _ _) id
 have x3 : w3.heap[w.heap.size + 1]? = some (.cells #[.int .i64 x.1, .int .i64 x.2] 58 (0, 0)) := k3.get (by rw [← hw2, ← s1]; exact heap_alloc_new _ _) id
 have r3 : w3.heap[w.heap.size + 2]? = some (.cells Z.toArray 71 (0, 0)) := by rw [← hw3, ← s2]; exact heap_alloc_new _ _
 have k03 := h_ ((k1.trans k2).trans k3)
 have hnd := treeNode (h.fresh k03.out) root d (by omega)
 rw [hR] at hnd
 dsimp only at hnd
 have hnd' := h_ hnd
 have h' := h_ h
 have hw1' := h_ hw1
 have hw2' := h_ hw2
 have hw3' := h_ hw3
 have s1' := h_ s1
 have s2' := h_ s2
 have hload3 : Hid (∀ j v, [Value.pointer (some ⟨A.sb, 0, none⟩)][j]? = some v → w3.cell? ⟨w.heap.size, 0 + j, none⟩ = some v) := h_ (fun j v hj => by rw [Nat.zero_add, cell_of_heap t3]; simpa using hj)
 have t3' := h_ t3
 have x3' := h_ x3
 have r3' := h_ r3
 have s3' := h_ s3
 obtain ⟨x0, x1⟩ := x
 dsimp only at *
 clear hw1 hw2 hw3 k1 k2 k3 s1 s2 s3 t3 x3 r3 hnd h hZ hR
 go_enter Try.func33, Try.ntmps33
 go_wp2_with (first | (refine wpList_box_named 27 rfl rfl _ rfl hw1'.out ?_) | (refine wpList_box_named 58 rfl rfl _ rfl hw2'.out ?_; rw [s1'.out]) | (refine wpList_alloc_as 71 rfl rfl Z.toArray hZz.out ?_; rw [hw3'.out, s2'.out]) | (refine wpList_load_agg 27 rfl rfl rfl _ Try.underlying27 rfl [.pointer (some ⟨A.sb, 0, none⟩)] (by kernel_rfl) hload3.out ?_))
 refine hnd'.out.mono ?_
 rintro e w4 ⟨v, rfl, hown, hk4⟩
 obtain ⟨Av, cap, rfl, hf1, hf2⟩ := EntsAt.form (show EntsAt w4 v n.ents from SliceAt.of_owns hown)
 obtain ⟨F, hF⟩ : ∃ F, nodeCells n (.slice Av n.ents.length cap) = F := ⟨_, rfl⟩
 have hFl : Hid (F.length = 18) := h_ (by rw [← hF]; exact nodeCells_len _ _)
 have hF1 : Hid (∀ v ∈ F, v.oneCell' = true) := h_ (by rw [← hF]; exact nodeCells_one _ _ _ _)
 obtain ⟨nb, hnb⟩ : ∃ nb, w4.heap.size = nb := ⟨_, rfl⟩
 obtain ⟨w5, hw5⟩ : ∃ w5, (w4.alloc (.cells Z.toArray 71)).setRow nb F.toArray = w5 := ⟨_, rfl⟩
 have k5 : Kept (fun _ => False) w4 w5 := by rw [← hw5]; exact ((Kept.refl _ _).alloc _).setRowNew (by omega) _
 have bx5 : NodeBox w5 nb n (.slice Av n.ents.length cap) := ⟨by rw [hF, ← hw5, ← hnb]; exact setRow_heap _ _ _ _ _ _ (heap_alloc_new _ _)⟩
 have hown5 := h_ (ownsRow.keptOf hown k5 (fun _ _ => id))
 have k35 := h_ (hk4.trans k5)
 have t5 := h_ (k35.out.get t3'.out id)
 have x5 := h_ (k35.out.get x3'.out id)
 have r5 := h_ (k35.out.get r3'.out id)
 have q5 := h_ (show w5.heap[nb]? = some (.cells F.toArray 71 (0, 0)) by rw [← hF]; exact bx5.heap)
 have hs4 := hk4.size
 have hs5 : Hid (w5.heap.size = nb + 1) := h_ (by rw [← hw5, ← hnb]; simp [World.setRow])
 rw [hF]
 have bx5' := h_ bx5
 have hw5' := h_ hw5
 have hnb' := h_ hnb
 have hF' := h_ hF
 clear hown hk4 k5 hw5 bx5 hnb hF
 have hk2' := h_ hk2
 have ih' := h_ ih
 clear ih
 have hin := innerOk_of (show n.ok from hin0.ok) (by have := hin0.kind; omega)
 have hlen6 := hin.le
 have hab := atI_bound (l := n.ents) x0
 have hat := at_any (show EntsAt w5 (.slice Av n.ents.length cap) n.ents from SliceAt.of_owns hown5.out) hin.keys x0 (by omega)
 obtain ⟨a, ha⟩ : ∃ a, atI n.ents x0 = a := ⟨_, rfl⟩
 rw [ha] at hat hab
 have hat' := h_ hat
 have c17 := bx5'.out.c17
 have cx0 := cell_of_heap x5.out 0
 simp at cx0
 unfold maxLen at hf2
 obtain ⟨hab1, hab2⟩ := hab
 have hwa : IntKind.i64.wrap (a + 1) = a + 1 := by rw [IntKind.wrap_i64]; omega
 have hpos := hin.pos
 clear hat hin hin0 hk2
 go_wp2_with (first | (refine wpList_alloc_as 71 rfl rfl Z.toArray hZz.out ?_; rw [hnb'.out]) | (refine wpList_store_whole 71 rfl rfl rfl F rfl (by rw [hFl.out]; exact node_size) 71 _ (by rw [← hnb'.out]; exact heap_alloc_new _ _) (by simp [hFl.out, hZl.out]) hF1.out ?_; rw [hw5'.out]))
 refine hat'.out.mono ?_
 rintro e w6 ⟨rfl, hk6⟩
 have hk6' := h_ hk6
 have k36 := h_ (k35.out.trans hk6)
 have t6 := h_ (hk6.get t5.out id)
 have x6 := hk6.get x5.out id
 have x6' := h_ x6
 have hown6 := h_ (ownsRow.keptOf hown5.out hk6 (fun _ _ => id))
 have bx6 := bx5'.out.kept hk6 id
 have bx6' := h_ bx6
 have r6 := h_ (hk6.get r5.out id)
 have hs6 := hk6.size
 have hne7 : nb ≠ w6.heap.size := by have := hs5.out; omega
 have hloadx : Hid (∀ j v, [Value.int .i64 x0, .int .i64 x1][j]? = some v → w6.cell? ⟨w.heap.size + 1, 0 + j, none⟩ = some v) := h_ (fun j v hj => by rw [Nat.zero_add, cell_of_heap x6'.out]; simpa using hj)
 obtain ⟨w7, hw7⟩ : ∃ w7, w6.alloc (.cells #[.int .i64 x0, .int .i64 x1] 58) = w7 := ⟨_, rfl⟩
 have hw7' := h_ hw7
 have k7 : Kept (fun _ => False) w6 w7 := by rw [← hw7]; exact (Kept.refl _ _).alloc _
 have g7 := h_ (show w7.heap[w6.heap.size]? = some (.cells #[.int .i64 x0, .int .i64 x1] 58 (0, 0)) by rw [← hw7]; exact heap_alloc_new _ _)
 have k37 := h_ (k36.out.trans k7)
 have bx7 := bx6.kept k7 id
 have bx7' := h_ bx7
 have c17_7 := bx7.c17
 have c0_7 := bx7.c0
 rw [← hw7, hk2'.out] at c0_7
 have x7 := k7.get x6 id
 have x7' := h_ x7
 have cx7 := cell_of_heap x7 0
 simp at cx7
 have t7 := h_ (k7.get t6.out id)
 have r7 := h_ (k7.get r6.out id)
 have hown7 := h_ (ownsRow.keptOf hown6.out k7 (fun _ _ => id))
 have hs7 : Hid (w7.heap.size = w6.heap.size + 1) := h_ (by rw [← hw7]; simp)
 have k7' := h_ k7
 clear hk6 bx6 x6 hw7 k7 bx7 x7
 obtain ⟨y, hy⟩ : ∃ y, n.ents[i]? = some y := ⟨_, List.getElem?_eq_getElem (by omega)⟩
 obtain ⟨b, off, rfl, hbl, _, cy7⟩ := EntsAt.get (show EntsAt w7 (.slice Av n.ents.length cap) n.ents from SliceAt.of_owns hown7.out) hy
 have hyd : (n.ents.getD i (0, 0)).2 = y.2 := by simp [hy]
 rw [hyd] at ih'
 have hmax : max a 0 = (i : Int) := by omega
 have P7 : PutSt w A (x0, x1) n (.slice (some ⟨b, off, none⟩) n.ents.length cap) nb Z.toArray A M w7 := by
  have s3 := s3'.out
  have hb1 := hnb'.out
  have hsz := hs7.out
  have h5 := hs5.out
  exact ⟨(StoreTo.refl h'.out).fresh (k03.out.trans k37.out), t7.out, Safe.new h'.out (by omega) (by omega), x7'.out, Safe.new h'.out (by omega) (by omega), r7.out, Safe.new h'.out (by omega) (by omega), bx7'.out, Safe.new h'.out (by omega) (by omega),
   ⟨by rw [← s3]; exact hown7.out, fun g hg e => by have := (hown7.out.lt g hg).1; have := h'.out.lt (.inl e); omega⟩, by omega⟩
 have P7' := h_ P7
 have hwd : IntKind.i64.wrap ((d : Int) + 1) = (d : Int) + 1 := by rw [IntKind.wrap_i64]; omega
 have hil : (i : Int) < (n.ents.length : Int) := by omega
 have x6k := h_ x6'.out
 have hy' := h_ hy
 have k03' := h_ k03.out
 clear P7 hnd' k03 k35 t5 x5 r5 hown5 t6 x6' r6 hown6 bx6' hloadx hload3 t3' x3' r3' hy hyd bx5' hs4 cx0 cx7 c17 c17_7 hk6'
 go_wp2_with (first | (refine wpList_max0 rfl (.tmp 40) (.const (.int .i64 0)) #[3, 3] rfl hmax (by rfl) (by rfl) ?_) | (refine wpList_load_agg 58 rfl rfl rfl _ Try.underlying58 rfl [.int .i64 x0, .int .i64 x1] (by kernel_rfl) (fun j v hj => by rw [Nat.zero_add, cell_of_heap x6k.out]; simpa using hj) ?_))
 rw [hw7'.out]
 refine wp_region_held_drew (S := fun W => W.heap[w.heap.size]? = some (.cells #[.pointer (some ⟨A.sb, 0, none⟩)] 27 (0, 0)) ∧ W.heap[nb]? = some (.cells F.toArray 71 (0, 0)) ∧ W.heap[w.heap.size + 1]? = some (.cells #[.int .i64 x0, .int .i64 x1] 58 (0, 0)) ∧ W.cell? ⟨nb, 17, none⟩ = some (.slice (some ⟨b, off, none⟩) n.ents.length cap) ∧ W.cell? ⟨b, off + i * 2 + 1, none⟩ = some (.int .i64 y.2)) (by kernel_rfl) ⟨P7'.out.tb, by rw [← hF'.out]; exact P7'.out.nbx.heap, P7'.out.xb, P7'.out.nbx.c17, cy7⟩ (fun hH => ?_)
 refine wpAnyH_take (i := 0) (v := .agg #[.pointer (some ⟨A.sb, 0, none⟩)]) rfl (by kernel_rfl) (by kernel_rfl) (by kernel_rfl) (fun _ _ _ h => h) (Or.inl ⟨by rfl, fun W hW => exec_load_agg rfl (by rfl) [.pointer (some ⟨A.sb, 0, none⟩)] Try.underlying27 rfl (by kernel_rfl) (fun j v hj => by rw [cell_of_heap hW.1, Nat.zero_add]; simpa using hj)⟩) (by assumption) ?_
 simp only [Act.put, q1_, q2_, q3_, List.setIfInBounds_toArray, q5_, q6_]
 refine wpAnyH_take (i := 1) (v := .pointer (some ⟨nb, 17, none⟩)) rfl (by kernel_rfl) (by kernel_rfl) (by kernel_rfl) (fun _ _ _ h => h) (Or.inl ⟨by rfl, fun W hW => by go_simp⟩) (by assumption) ?_
 simp only [Act.put, q1_, q2_, q3_, List.setIfInBounds_toArray, q5_, q6_]
 refine wpAnyH_take (i := 2) (v := .slice (some ⟨b, off, none⟩) n.ents.length cap) rfl (by kernel_rfl) (by kernel_rfl) (by kernel_rfl) (fun _ _ _ h => h) (Or.inl ⟨by rfl, fun W hW => by have hc := hW.2.2.2.1; clear hW; go_simp⟩) (by assumption) ?_
 simp only [Act.put, q1_, q2_, q3_, List.setIfInBounds_toArray, q5_, q6_]
 refine wpAnyH_take (i := 3) (v := .int .i64 i) rfl (by kernel_rfl) (by kernel_rfl) (by kernel_rfl) (fun _ _ _ h => h) (Or.inl ⟨by rfl, fun W hW => by go_simp⟩) (by assumption) ?_
 simp only [Act.put, q1_, q2_, q3_, List.setIfInBounds_toArray, q5_, q6_]
 refine wpAnyH_take (i := 4) (v := .pointer (some ⟨b, off + i * 2, none⟩)) rfl (by kernel_rfl) (by kernel_rfl) (by kernel_rfl) (fun _ _ _ h => h) (Or.inl ⟨by rfl, fun W hW => by go_simp⟩) (by assumption) ?_
 simp only [Act.put, q1_, q2_, q3_, List.setIfInBounds_toArray, q5_, q6_]
 refine wpAnyH_take (i := 5) (v := .pointer (some ⟨b, off + i * 2 + 1, none⟩)) rfl (by kernel_rfl) (by kernel_rfl) (by kernel_rfl) (fun _ _ _ h => h) (Or.inl ⟨by rfl, fun W hW => by go_simp⟩) (by assumption) ?_
 simp only [Act.put, q1_, q2_, q3_, List.setIfInBounds_toArray, q5_, q6_]
 refine wpAnyH_take (i := 6) (v := .int .i64 y.2) rfl (by kernel_rfl) (by kernel_rfl) (by kernel_rfl) (fun _ _ _ h => h) (Or.inl ⟨by rfl, fun W hW => by have hc := hW.2.2.2.2; clear hW; go_simp⟩) (by assumption) ?_
 simp only [Act.put, q1_, q2_, q3_, List.setIfInBounds_toArray, q5_, q6_]
 refine wpAnyH_take (i := 7) (v := .int .i64 d) rfl (by kernel_rfl) (by kernel_rfl) (by kernel_rfl) (fun _ _ _ h => h) (Or.inl ⟨by rfl, fun W hW => by go_simp⟩) (by assumption) ?_
 simp only [Act.put, q1_, q2_, q3_, List.setIfInBounds_toArray, q5_, q6_]
 refine wpAnyH_take (i := 8) (v := .int .i64 ((d : Int) + 1)) rfl (by kernel_rfl) (by kernel_rfl) (by kernel_rfl) (fun _ _ _ h => h) (Or.inl ⟨by rfl, fun W hW => by go_simp⟩) (by assumption) ?_
 simp only [Act.put, q1_, q2_, q3_, List.setIfInBounds_toArray, q5_, q6_]
 refine wpAnyH_take (i := 9) (v := .agg #[.int .i64 x0, .int .i64 x1]) rfl (by kernel_rfl) (by kernel_rfl) (by kernel_rfl) (fun _ _ _ h => h) (Or.inl ⟨by rfl, fun W hW => exec_load_agg rfl (by rfl) [.int .i64 x0, .int .i64 x1] Try.underlying58 rfl (by kernel_rfl) (fun j v hj => by rw [cell_of_heap hW.2.2.1, Nat.zero_add]; simpa using hj)⟩) (by assumption) ?_
 simp only [Act.put, q1_, q2_, q3_, List.setIfInBounds_toArray, q5_, q6_]
 refine wpAnyH_ready (rs := [10, 14]) (by kernel_rfl) (by simp) ?_
 refine AllReadyH.cons rfl (fun K hK => ?_) ?_
 ·rw [if_pos (by rfl)]
  simp only [Go.wp_at_zero, Go.wp_at_succ]
  go_simp
  refine (ih'.out _ ((h'.out.fresh (k03'.out.trans k37.out)).fresh (Kept.refl _ _).drew)).mono ?_
  rintro e w8 ⟨A8, v8, rfl, hT8, hO8⟩
  obtain ⟨Au, cu, rfl, _⟩ := EntsAt.form hO8.ents.at_
  obtain ⟨C1, hC1⟩ : ∃ C1, nodeCells n1 (.slice Au n1.ents.length cu) = C1 := ⟨_, rfl⟩
  have hC1l : Hid (C1.length = 18) := h_ (by rw [← hC1]; exact nodeCells_len _ _)
  have hC11 : Hid (∀ v ∈ C1, v.oneCell' = true) := h_ (by rw [← hC1]; exact nodeCells_one _ _ _ _)
  rw [hC1]
  have P8 := (P7'.out.fresh (Kept.refl _ _).drew).step hT8
  refine hK.out _ _ (P8.held hF'.out hy'.out) (fun hH8 => ?_)
  clear hK K
  try simp only [Act.put, q1_, q2_, q3_, List.setIfInBounds_toArray, q5_, q6_]
  refine wpAnyH_take (i := 11) (v := .tuple #[.agg C1.toArray, .int .i64 er]) rfl (by kernel_rfl) (by kernel_rfl) (by kernel_rfl) (fun _ _ _ h => h) (Or.inl ⟨by rfl, fun W hW => by go_simp⟩) (by assumption) ?_
  simp only [Act.put, q1_, q2_, q3_, List.setIfInBounds_toArray, q5_, q6_]
  refine wpAnyH_take (i := 12) (v := .agg C1.toArray) rfl (by kernel_rfl) (by kernel_rfl) (by kernel_rfl) (fun _ _ _ h => h) (Or.inl ⟨by rfl, fun W hW => by go_simp⟩) (by assumption) ?_
  simp only [Act.put, q1_, q2_, q3_, List.setIfInBounds_toArray, q5_, q6_]
  refine wpAnyH_take (i := 13) (v := .int .i64 er) rfl (by kernel_rfl) (by kernel_rfl) (by kernel_rfl) (fun _ _ _ h => h) (Or.inl ⟨by rfl, fun W hW => by go_simp⟩) (by assumption) ?_
  simp only [Act.put, q1_, q2_, q3_, List.setIfInBounds_toArray, q5_, q6_]
  refine wpAnyH_ready (rs := [14]) (by kernel_rfl) (by simp) ?_
  refine AllReadyH.cons rfl (fun K hK => ?_) ?_
  ·refine step_alloc_as 71 rfl rfl Z.toArray hZz.out ?_
   obtain ⟨cb, hcbe⟩ : ∃ cb, w8.heap.size = cb := ⟨_, rfl⟩
   have kA := (Kept.refl (fun _ => False) w8).alloc (.cells Z.toArray 71)
   have hcb : (w8.alloc (.cells Z.toArray 71)).heap[cb]? = some (.cells Z.toArray 71 (0, 0)) := by rw [← hcbe]; exact heap_alloc_new _ _
   have P9 := P8.fresh kA
   have O9 := hO8.fresh kA
   have Sc : Safe (w8.alloc (.cells Z.toArray 71)) A8 cb := Safe.new P8.to_.store (by omega) (by simp; omega)
   have hd : ∀ k, A8.own k → k ≠ cb := fun k hk e => by have := P8.to_.store.lt hk; omega
   have hcn : nb < cb := by have := P8.sn.lt; omega
   have B10 := BoxAt.made P9.to_.store O9 hcb Sc
   have P10 := P9.boxed hcn Sc hcb hd (nodeCells n1 (.slice Au n1.ents.length cu)).toArray
   rw [hC1] at B10 P10
   rw [hcbe]
   refine hK.out _ _ (P9.held hF'.out hy'.out) (fun hH9 => ?_)
   clear hK K
   try simp only [Act.put, q1_, q2_, q3_, List.setIfInBounds_toArray, q5_, q6_]
   refine wpAnyH_ready (rs := [15]) (by kernel_rfl) (by simp) ?_
   refine AllReadyH.cons rfl (fun K hK => ?_) ?_
   ·refine step_store_whole 71 rfl rfl (by rfl) C1 (by rfl) (by rw [hC1l.out]; exact node_size) 71 Z.toArray hcb (by simp [hC1l.out, hZl.out]) hC11.out ?_
    refine hK.out _ _ (P10.held hF'.out hy'.out) (fun hH10 => ?_)
    clear hK K
    try simp only [Act.put, q1_, q2_, q3_, List.setIfInBounds_toArray, q5_, q6_]
    refine wpAnyH_take (i := 16) (v := .int .i64 er) rfl (by kernel_rfl) (by kernel_rfl) (by kernel_rfl) (fun _ _ _ h => h) (Or.inl ⟨by rfl, fun W hW => by go_simp⟩) (by assumption) ?_
    simp only [Act.put, q1_, q2_, q3_, List.setIfInBounds_toArray, q5_, q6_]
    refine wpAnyH_done (by kernel_rfl) ?_ _
    obtain ⟨w10, hw10⟩ : ∃ w10, (w8.alloc (.cells Z.toArray 71)).setRow cb C1.toArray = w10 := ⟨_, rfl⟩
    rw [hw10] at P10 B10 ⊢
    have P10' := h_ P10
    have B10' := h_ B10
    have hC1' := h_ hC1
    clear P10 B10 hw10 hC1 P8 P9 O9 hd Sc hH hH8 hH9 hH10 hT8 hO8 kA hcb hcn hcbe
    have hsb := P10'.out.to_.sb
    by_cases h0 : er = 0
    ·subst h0
     have hsp := treeSplit P10'.out.to_.store B10'.out.ents hfew
     rw [hsb, hC1'.out] at hsp
     have hob := (split_bound M1 n1).2
     have hres : Hid (putRes n i M1 n1 0 = if (M1.split n1).2.2 = 0 then ((M1.split n1).1, { n with ents := n.ents.take i ++ (M1.split n1).2.1 ++ n.ents.drop (i + 1) }, 0) else ((M1.split n1).1, n, (M1.split n1).2.2)) := h_ rfl
     obtain ⟨R, hR⟩ : ∃ R, M1.split n1 = R := ⟨_, rfl⟩
     rw [hR] at hsp hres hob
     obtain ⟨M2, out, er2⟩ := R
     dsimp only at hsp hres hob
     have hsp' := h_ hsp
     have tb10 := h_ P10'.out.tb
     have cb10 := h_ (show w10.heap[cb]? = some (.cells C1.toArray 71 (0, 0)) by rw [← hC1'.out]; exact B10'.out.box.heap)
     clear hsp hR hsb
     go_wp2_with (first | (refine wpList_load_agg 27 rfl rfl rfl _ Try.underlying27 rfl [.pointer (some ⟨A.sb, 0, none⟩)] (by kernel_rfl) (fun j v hj => by rw [Nat.zero_add, cell_of_heap tb10.out]; simpa using hj) ?_) | (refine wpList_load_agg 71 rfl rfl rfl _ Try.underlying71 rfl C1 (by rw [hC1l.out]; exact node_size) (fun j v hv => by rw [cell_of_heap cb10.out, Nat.zero_add]; simpa using hv) ?_))
     refine hsp'.out.mono ?_
     rintro e w11 ⟨A9, v9, rfl, hT9, hO9⟩
     obtain ⟨Ao, co, rfl, _⟩ := EntsAt.form hO9.ents.at_
     have P11 := h_ (P10'.out.step hT9)
     have O11 := h_ hO9
     have q11 := h_ (show w11.heap[nb]? = some (.cells F.toArray 71 (0, 0)) by rw [← hF'.out]; exact P11.out.nbx.heap)
     have r11 := h_ P11.out.rb
     have c11 := P11.out.nbx.c17
     clear hT9 hO9
     by_cases h2 : er2 = 0
     ·subst h2
      rw [if_pos rfl] at hres
      go_wp2_with fail
      obtain ⟨C, hC⟩ : ∃ C, n.ents.take i ++ out ++ n.ents.drop (i + 1) = C := ⟨_, rfl⟩
      rw [hC] at hres
      by_cases hci : cap = i + 1
      ·have hcc : Hid (∀ W, Kept (fun _ => False) w11 W → Calls Try.prog 48 #[.slice (some ⟨W.heap.size, 0, none⟩) 3 3] (W.alloc (.cells #[.slice (some ⟨b, off, none⟩) i cap, .slice Ao out.length co, .slice (some ⟨b, off, none⟩) 0 0] 36)) fun e w' => ∃ u, e = .returned u ∧ w'.ownsRow w11.heap.size 58 2 u C.length (entCells C) ∧ Kept (fun _ => False) W w') := h_ (fun W kW => by
        have hE7 := SliceAt.fresh P11.out.own.ents.at_ kW
        rw [← hC]
        refine Calls.mono (?_ : Calls _ _ _ _ fun e w' => ∃ u, e = .returned u ∧ w'.ownsRow (W.heap.size + 1) 58 2 u (n.ents.take i ++ out ++ n.ents.drop (i + 1)).length (entCells (n.ents.take i ++ out ++ n.ents.drop (i + 1))) ∧ Kept (fun _ => False) W w') fun e w' ⟨u, he, ho, hk⟩ => ⟨u, he, owns_weaken ho (by have := kW.size; omega), hk⟩
        refine concat3 (entsAt_take (m := i) hE7 (by omega) rfl) (SliceAt.fresh O11.out.ents.at_ kW) ?_ (by simp only [List.length_take, List.length_drop]; omega)
        rw [List.drop_eq_nil_of_le (by omega)]; exact sliceNil (by unfold maxLen; omega))
       have hj0 : (i : Int) ≤ (n.ents.length : Int) := by omega
       have hj4 : (i : Int) + 1 ≤ (n.ents.length : Int) := by omega
       have hj5 : IntKind.i64.wrap ((i : Int) + 1) = (i : Int) + 1 := by rw [IntKind.wrap_i64]; omega
       have hj6 : ((i : Int) + 1).toNat = i + 1 := by omega
       have hj7 : (i : Int) ≤ (cap : Int) := by omega
       have hj8 : (0 : Int) ≤ (i : Int) + 1 := by omega
       have hd0 : n.ents.length - (i + 1) = 0 := by omega
       subst hci
       have hj1 : (n.ents.length : Int) ≤ (i : Int) + 1 := by omega
       have hj2 : (i : Int) ≤ (i : Int) + 1 := by omega
       have hj3 : n.ents.length ≤ i + 1 := by omega
       clear hC
       go_region_law (rw [if_pos (by rfl)]; go_simp; refine (hcc.out _ (by exact (Kept.refl _ _).drew)).mono ?_; rintro e w12 ⟨u, rfl, hown12, hk12⟩; obtain ⟨A3, c3, rfl, _⟩ := EntsAt.form (show EntsAt w12 u C from SliceAt.of_owns hown12); have P12 := P11.out.fresh ((Kept.refl (fun _ => False) w11).drew.trans hk12); have hE := P12.ends h'.out (C := C) (base := w11.heap.size) ⟨hown12, fun g hg e => by have h1 := (hown12.lt g hg).1; have h2 := P11.out.to_.store.lt (.inl e); omega⟩ (P11.out.to_.kept.size); obtain ⟨G, hG⟩ : ∃ G, nodeCells { n with ents := C } (.slice A3 C.length c3) = G := ⟨_, rfl⟩; have hGl : Hid (G.length = 18) := h_ (by rw [← hG]; exact nodeCells_len _ _); have hG1 : Hid (∀ v ∈ G, v.oneCell' = true) := h_ (by rw [← hG]; exact nodeCells_one _ _ _ _); have q13 := h_ (show (w12.setCell ⟨nb, 17, none⟩ (.slice A3 C.length c3)).heap[nb]? = some (.cells G.toArray 71 (0, 0)) by rw [← hG]; exact hE.1.heap); have r13 := h_ hE.2.1; have fin13 := h_ hE.2.2; have c12 := P12.nbx.c17; have f12 := free_of_heap P12.nbx.heap 17; have hG := h_ hG; clear hE P12 hown12 hk12)
       all_goals (
        go_wp2_with (first | (refine wpList_load_agg 71 rfl rfl rfl _ Try.underlying71 rfl G (by rw [hGl.out]; exact node_size) (fun j v hv => by rw [cell_of_heap q13.out, Nat.zero_add]; simpa using hv) ?_) | (refine wpList_store_whole 71 rfl rfl rfl G rfl (by rw [hGl.out]; exact node_size) 71 _ r13.out (by simp [hGl.out, hZl.out]) hG1.out ?_))
        refine bodyPost_ret (results_row_tmp rfl _ _ (w.heap.size + 2) 71 G.toArray (0, 0) _ rfl (setRow_heap _ _ _ _ 71 (0, 0) r13.out) Try.underlying71 rfl (by simp only [List.size_toArray]; rw [hGl.out]; exact node_size)) rfl ?_
        rw [hres.out]
        exact ⟨A9, .slice A3 C.length c3, by rw [← hG.out]; rfl, (fin13.out _).1, (fin13.out _).2⟩)
      ·have hcc : Hid (∀ W, Kept (fun _ => False) w11 W → Calls Try.prog 48 #[.slice (some ⟨W.heap.size, 0, none⟩) 3 3] (W.alloc (.cells #[.slice (some ⟨b, off, none⟩) i cap, .slice Ao out.length co, .slice (some ⟨b, off + (i + 1) * 2, none⟩) (n.ents.length - (i + 1)) (cap - (i + 1))] 36)) fun e w' => ∃ u, e = .returned u ∧ w'.ownsRow w11.heap.size 58 2 u C.length (entCells C) ∧ Kept (fun _ => False) W w') := h_ (fun W kW => by
        have hE7 := SliceAt.fresh P11.out.own.ents.at_ kW
        rw [← hC]
        refine Calls.mono (?_ : Calls _ _ _ _ fun e w' => ∃ u, e = .returned u ∧ w'.ownsRow (W.heap.size + 1) 58 2 u (n.ents.take i ++ out ++ n.ents.drop (i + 1)).length (entCells (n.ents.take i ++ out ++ n.ents.drop (i + 1))) ∧ Kept (fun _ => False) W w') fun e w' ⟨u, he, ho, hk⟩ => ⟨u, he, owns_weaken ho (by have := kW.size; omega), hk⟩
        refine concat3 (entsAt_take (m := i) hE7 (by omega) rfl) (SliceAt.fresh O11.out.ents.at_ kW) ?_ (by simp only [List.length_take, List.length_drop]; omega)
        exact entsAt_drop (m := i + 1) hE7 (by omega) rfl)
       have hj0 : (i : Int) ≤ (n.ents.length : Int) := by omega
       have hj4 : (i : Int) + 1 ≤ (n.ents.length : Int) := by omega
       have hj5 : IntKind.i64.wrap ((i : Int) + 1) = (i : Int) + 1 := by rw [IntKind.wrap_i64]; omega
       have hj6 : ((i : Int) + 1).toNat = i + 1 := by omega
       have hj7 : (i : Int) ≤ (cap : Int) := by omega
       have hj8 : (0 : Int) ≤ (i : Int) + 1 := by omega
       clear hC
       go_region_law (rw [if_pos (by rfl)]; go_simp; refine (hcc.out _ (by exact (Kept.refl _ _).drew)).mono ?_; rintro e w12 ⟨u, rfl, hown12, hk12⟩; obtain ⟨A3, c3, rfl, _⟩ := EntsAt.form (show EntsAt w12 u C from SliceAt.of_owns hown12); have P12 := P11.out.fresh ((Kept.refl (fun _ => False) w11).drew.trans hk12); have hE := P12.ends h'.out (C := C) (base := w11.heap.size) ⟨hown12, fun g hg e => by have h1 := (hown12.lt g hg).1; have h2 := P11.out.to_.store.lt (.inl e); omega⟩ (P11.out.to_.kept.size); obtain ⟨G, hG⟩ : ∃ G, nodeCells { n with ents := C } (.slice A3 C.length c3) = G := ⟨_, rfl⟩; have hGl : Hid (G.length = 18) := h_ (by rw [← hG]; exact nodeCells_len _ _); have hG1 : Hid (∀ v ∈ G, v.oneCell' = true) := h_ (by rw [← hG]; exact nodeCells_one _ _ _ _); have q13 := h_ (show (w12.setCell ⟨nb, 17, none⟩ (.slice A3 C.length c3)).heap[nb]? = some (.cells G.toArray 71 (0, 0)) by rw [← hG]; exact hE.1.heap); have r13 := h_ hE.2.1; have fin13 := h_ hE.2.2; have c12 := P12.nbx.c17; have f12 := free_of_heap P12.nbx.heap 17; have hG := h_ hG; clear hE P12 hown12 hk12)
       all_goals (
        go_wp2_with (first | (refine wpList_load_agg 71 rfl rfl rfl _ Try.underlying71 rfl G (by rw [hGl.out]; exact node_size) (fun j v hv => by rw [cell_of_heap q13.out, Nat.zero_add]; simpa using hv) ?_) | (refine wpList_store_whole 71 rfl rfl rfl G rfl (by rw [hGl.out]; exact node_size) 71 _ r13.out (by simp [hGl.out, hZl.out]) hG1.out ?_))
        refine bodyPost_ret (results_row_tmp rfl _ _ (w.heap.size + 2) 71 G.toArray (0, 0) _ rfl (setRow_heap _ _ _ _ 71 (0, 0) r13.out) Try.underlying71 rfl (by simp only [List.size_toArray]; rw [hGl.out]; exact node_size)) rfl ?_
        rw [hres.out]
        exact ⟨A9, .slice A3 C.length c3, by rw [← hG.out]; rfl, (fin13.out _).1, (fin13.out _).2⟩)
     ·rw [if_neg h2] at hres
      have h2' : ((er2 : Int) == 0) = false := by simp; omega
      clear h2
      go_wp2_with (first | (refine wpList_load_agg 71 rfl rfl rfl _ Try.underlying71 rfl F (by rw [hFl.out]; exact node_size) (fun j v hv => by rw [cell_of_heap q11.out, Nat.zero_add]; simpa using hv) ?_) | (refine wpList_store_whole 71 rfl rfl rfl F rfl (by rw [hFl.out]; exact node_size) 71 _ r11.out (by simp [hFl.out, hZl.out]) hF1.out ?_))
      refine bodyPost_ret (results_row_tmp rfl _ _ (w.heap.size + 2) 71 F.toArray (0, 0) _ rfl (setRow_heap _ _ _ _ 71 (0, 0) r11.out) Try.underlying71 rfl (by simp only [List.size_toArray]; rw [hFl.out]; exact node_size)) rfl ?_
      have hS := P11.out.stop h'.out F.toArray
      rw [hres.out]
      exact ⟨A9, .slice (some ⟨b, off, none⟩) n.ents.length cap, by rw [← hF'.out]; rfl, hS.1, hS.2⟩
    ·have hres : Hid (putRes n i M1 n1 er = (M1, n, er)) := h_ (by unfold putRes; rw [if_neg h0])
     have h0' : ((er : Int) == 0) = false := by simp; omega
     have q10 := h_ (show w10.heap[nb]? = some (.cells F.toArray 71 (0, 0)) by rw [← hF'.out]; exact P10'.out.nbx.heap)
     have r10 := h_ P10'.out.rb
     clear h0
     go_wp2_with (first | (refine wpList_load_agg 71 rfl rfl rfl _ Try.underlying71 rfl F (by rw [hFl.out]; exact node_size) (fun j v hv => by rw [cell_of_heap q10.out, Nat.zero_add]; simpa using hv) ?_) | (refine wpList_store_whole 71 rfl rfl rfl F rfl (by rw [hFl.out]; exact node_size) 71 _ r10.out (by simp [hFl.out, hZl.out]) hF1.out ?_))
     refine bodyPost_ret (results_row_tmp rfl _ _ (w.heap.size + 2) 71 F.toArray (0, 0) _ rfl (setRow_heap _ _ _ _ 71 (0, 0) r10.out) Try.underlying71 rfl (by simp only [List.size_toArray]; rw [hFl.out]; exact node_size)) rfl ?_
     have hS := P10'.out.stop h'.out F.toArray
     rw [hres.out]
     exact ⟨A8, .slice (some ⟨b, off, none⟩) n.ents.length cap, by rw [← hF'.out]; rfl, hS.1, hS.2⟩
   exact AllReadyH.nil
  exact AllReadyH.nil
 refine AllReadyH.cons rfl (fun K hK => ?_) ?_
 ·refine step_alloc_as 71 rfl rfl Z.toArray hZz.out ?_
  obtain ⟨cb, hcbe⟩ : ∃ cb, w7.drew.heap.size = cb := ⟨_, rfl⟩
  have kA := (Kept.refl (fun _ => False) w7).drew.alloc (.cells Z.toArray 71)
  have hcb0 : (w7.drew.alloc (.cells Z.toArray 71)).heap[cb]? = some (.cells Z.toArray 71 (0, 0)) := by rw [← hcbe]; exact heap_alloc_new _ _
  have P8 := P7'.out.fresh kA
  have hcs : cb < (w7.drew.alloc (.cells Z.toArray 71)).heap.size := by rw [← hcbe]; simp
  have h7s := P7'.out.to_.store
  have hA : ∀ j, A.own j → j < cb := fun j hj => by have := h7s.lt hj; rw [← hcbe]; exact this
  have Sc0 : Safe (w7.drew.alloc (.cells Z.toArray 71)) A cb := ⟨hcs, fun e => Nat.lt_irrefl _ (hA _ (.inl e))⟩
  have hcn : nb < cb := by have := P7'.out.sn.lt; rw [← hcbe]; exact this
  rw [hcbe]
  obtain ⟨w8, hw8⟩ : ∃ w8, w7.drew.alloc (.cells Z.toArray 71) = w8 := ⟨_, rfl⟩
  rw [hw8] at P8 hcb0 hcs Sc0 ⊢
  refine hK.out _ _ (P8.held hF'.out hy'.out) (fun hH8 => ?_)
  clear hK K
  try simp only [Act.put, q1_, q2_, q3_, List.setIfInBounds_toArray, q5_, q6_]
  refine wpAnyH_ready (rs := [10]) (by kernel_rfl) (by simp) ?_
  refine AllReadyH.cons rfl (fun K hK => ?_) ?_
  ·rw [if_pos (by rfl)]
   simp only [Go.wp_at_zero, Go.wp_at_succ]
   go_simp
   refine (ih'.out _ P8.to_.store).mono ?_
   rintro e w9 ⟨A8, v8, rfl, hT8, hO8⟩
   obtain ⟨Au, cu, rfl, _⟩ := EntsAt.form hO8.ents.at_
   obtain ⟨C1, hC1⟩ : ∃ C1, nodeCells n1 (.slice Au n1.ents.length cu) = C1 := ⟨_, rfl⟩
   have hC1l : Hid (C1.length = 18) := h_ (by rw [← hC1]; exact nodeCells_len _ _)
   have hC11 : Hid (∀ v ∈ C1, v.oneCell' = true) := h_ (by rw [← hC1]; exact nodeCells_one _ _ _ _)
   rw [hC1]
   have P9 := P8.step hT8
   have hcb := hT8.get hcb0 Sc0
   have Sc := Sc0.to hT8
   have hd := hT8.own_ne hA hcs
   have O9 := hO8
   have B10 := BoxAt.made P9.to_.store O9 hcb Sc
   have P10 := P9.boxed hcn Sc hcb hd (nodeCells n1 (.slice Au n1.ents.length cu)).toArray
   rw [hC1] at B10 P10
   refine hK.out _ _ (P9.held hF'.out hy'.out) (fun hH9 => ?_)
   clear hK K
   try simp only [Act.put, q1_, q2_, q3_, List.setIfInBounds_toArray, q5_, q6_]
   refine wpAnyH_take (i := 11) (v := .tuple #[.agg C1.toArray, .int .i64 er]) rfl (by kernel_rfl) (by kernel_rfl) (by kernel_rfl) (fun _ _ _ h => h) (Or.inl ⟨by rfl, fun W hW => by go_simp⟩) (by assumption) ?_
   simp only [Act.put, q1_, q2_, q3_, List.setIfInBounds_toArray, q5_, q6_]
   refine wpAnyH_take (i := 12) (v := .agg C1.toArray) rfl (by kernel_rfl) (by kernel_rfl) (by kernel_rfl) (fun _ _ _ h => h) (Or.inl ⟨by rfl, fun W hW => by go_simp⟩) (by assumption) ?_
   simp only [Act.put, q1_, q2_, q3_, List.setIfInBounds_toArray, q5_, q6_]
   refine wpAnyH_take (i := 13) (v := .int .i64 er) rfl (by kernel_rfl) (by kernel_rfl) (by kernel_rfl) (fun _ _ _ h => h) (Or.inl ⟨by rfl, fun W hW => by go_simp⟩) (by assumption) ?_
   simp only [Act.put, q1_, q2_, q3_, List.setIfInBounds_toArray, q5_, q6_]
   refine wpAnyH_ready (rs := [15]) (by kernel_rfl) (by simp) ?_
   refine AllReadyH.cons rfl (fun K hK => ?_) ?_
   ·refine step_store_whole 71 rfl rfl (by rfl) C1 (by rfl) (by rw [hC1l.out]; exact node_size) 71 Z.toArray hcb (by simp [hC1l.out, hZl.out]) hC11.out ?_
    refine hK.out _ _ (P10.held hF'.out hy'.out) (fun hH10 => ?_)
    clear hK K
    try simp only [Act.put, q1_, q2_, q3_, List.setIfInBounds_toArray, q5_, q6_]
    refine wpAnyH_take (i := 16) (v := .int .i64 er) rfl (by kernel_rfl) (by kernel_rfl) (by kernel_rfl) (fun _ _ _ h => h) (Or.inl ⟨by rfl, fun W hW => by go_simp⟩) (by assumption) ?_
    simp only [Act.put, q1_, q2_, q3_, List.setIfInBounds_toArray, q5_, q6_]
    refine wpAnyH_done (by kernel_rfl) ?_ _
    obtain ⟨w10, hw10⟩ : ∃ w10, w9.setRow cb C1.toArray = w10 := ⟨_, rfl⟩
    rw [hw10] at P10 B10 ⊢
    have P10' := h_ P10
    have B10' := h_ B10
    have hC1' := h_ hC1
    clear P10 B10 hw10 hC1 P8 P9 O9 hd Sc Sc0 hH hH8 hH9 hH10 hT8 hO8 kA hcb hcb0 hcn hcbe hcs h7s hA hw8
    have hsb := P10'.out.to_.sb
    by_cases h0 : er = 0
    ·subst h0
     have hsp := treeSplit P10'.out.to_.store B10'.out.ents hfew
     rw [hsb, hC1'.out] at hsp
     have hob := (split_bound M1 n1).2
     have hres : Hid (putRes n i M1 n1 0 = if (M1.split n1).2.2 = 0 then ((M1.split n1).1, { n with ents := n.ents.take i ++ (M1.split n1).2.1 ++ n.ents.drop (i + 1) }, 0) else ((M1.split n1).1, n, (M1.split n1).2.2)) := h_ rfl
     obtain ⟨R, hR⟩ : ∃ R, M1.split n1 = R := ⟨_, rfl⟩
     rw [hR] at hsp hres hob
     obtain ⟨M2, out, er2⟩ := R
     dsimp only at hsp hres hob
     have hsp' := h_ hsp
     have tb10 := h_ P10'.out.tb
     have cb10 := h_ (show w10.heap[cb]? = some (.cells C1.toArray 71 (0, 0)) by rw [← hC1'.out]; exact B10'.out.box.heap)
     clear hsp hR hsb
     go_wp2_with (first | (refine wpList_load_agg 27 rfl rfl rfl _ Try.underlying27 rfl [.pointer (some ⟨A.sb, 0, none⟩)] (by kernel_rfl) (fun j v hj => by rw [Nat.zero_add, cell_of_heap tb10.out]; simpa using hj) ?_) | (refine wpList_load_agg 71 rfl rfl rfl _ Try.underlying71 rfl C1 (by rw [hC1l.out]; exact node_size) (fun j v hv => by rw [cell_of_heap cb10.out, Nat.zero_add]; simpa using hv) ?_))
     refine hsp'.out.mono ?_
     rintro e w11 ⟨A9, v9, rfl, hT9, hO9⟩
     obtain ⟨Ao, co, rfl, _⟩ := EntsAt.form hO9.ents.at_
     have P11 := h_ (P10'.out.step hT9)
     have O11 := h_ hO9
     have q11 := h_ (show w11.heap[nb]? = some (.cells F.toArray 71 (0, 0)) by rw [← hF'.out]; exact P11.out.nbx.heap)
     have r11 := h_ P11.out.rb
     have c11 := P11.out.nbx.c17
     clear hT9 hO9
     by_cases h2 : er2 = 0
     ·subst h2
      rw [if_pos rfl] at hres
      go_wp2_with fail
      obtain ⟨C, hC⟩ : ∃ C, n.ents.take i ++ out ++ n.ents.drop (i + 1) = C := ⟨_, rfl⟩
      rw [hC] at hres
      by_cases hci : cap = i + 1
      ·have hcc : Hid (∀ W, Kept (fun _ => False) w11 W → Calls Try.prog 48 #[.slice (some ⟨W.heap.size, 0, none⟩) 3 3] (W.alloc (.cells #[.slice (some ⟨b, off, none⟩) i cap, .slice Ao out.length co, .slice (some ⟨b, off, none⟩) 0 0] 36)) fun e w' => ∃ u, e = .returned u ∧ w'.ownsRow w11.heap.size 58 2 u C.length (entCells C) ∧ Kept (fun _ => False) W w') := h_ (fun W kW => by
        have hE7 := SliceAt.fresh P11.out.own.ents.at_ kW
        rw [← hC]
        refine Calls.mono (?_ : Calls _ _ _ _ fun e w' => ∃ u, e = .returned u ∧ w'.ownsRow (W.heap.size + 1) 58 2 u (n.ents.take i ++ out ++ n.ents.drop (i + 1)).length (entCells (n.ents.take i ++ out ++ n.ents.drop (i + 1))) ∧ Kept (fun _ => False) W w') fun e w' ⟨u, he, ho, hk⟩ => ⟨u, he, owns_weaken ho (by have := kW.size; omega), hk⟩
        refine concat3 (entsAt_take (m := i) hE7 (by omega) rfl) (SliceAt.fresh O11.out.ents.at_ kW) ?_ (by simp only [List.length_take, List.length_drop]; omega)
        rw [List.drop_eq_nil_of_le (by omega)]; exact sliceNil (by unfold maxLen; omega))
       have hj0 : (i : Int) ≤ (n.ents.length : Int) := by omega
       have hj4 : (i : Int) + 1 ≤ (n.ents.length : Int) := by omega
       have hj5 : IntKind.i64.wrap ((i : Int) + 1) = (i : Int) + 1 := by rw [IntKind.wrap_i64]; omega
       have hj6 : ((i : Int) + 1).toNat = i + 1 := by omega
       have hj7 : (i : Int) ≤ (cap : Int) := by omega
       have hj8 : (0 : Int) ≤ (i : Int) + 1 := by omega
       have hd0 : n.ents.length - (i + 1) = 0 := by omega
       subst hci
       have hj1 : (n.ents.length : Int) ≤ (i : Int) + 1 := by omega
       have hj2 : (i : Int) ≤ (i : Int) + 1 := by omega
       have hj3 : n.ents.length ≤ i + 1 := by omega
       clear hC
       go_region_law (rw [if_pos (by rfl)]; go_simp; refine (hcc.out _ (by exact (Kept.refl _ _).drew)).mono ?_; rintro e w12 ⟨u, rfl, hown12, hk12⟩; obtain ⟨A3, c3, rfl, _⟩ := EntsAt.form (show EntsAt w12 u C from SliceAt.of_owns hown12); have P12 := P11.out.fresh ((Kept.refl (fun _ => False) w11).drew.trans hk12); have hE := P12.ends h'.out (C := C) (base := w11.heap.size) ⟨hown12, fun g hg e => by have h1 := (hown12.lt g hg).1; have h2 := P11.out.to_.store.lt (.inl e); omega⟩ (P11.out.to_.kept.size); obtain ⟨G, hG⟩ : ∃ G, nodeCells { n with ents := C } (.slice A3 C.length c3) = G := ⟨_, rfl⟩; have hGl : Hid (G.length = 18) := h_ (by rw [← hG]; exact nodeCells_len _ _); have hG1 : Hid (∀ v ∈ G, v.oneCell' = true) := h_ (by rw [← hG]; exact nodeCells_one _ _ _ _); have q13 := h_ (show (w12.setCell ⟨nb, 17, none⟩ (.slice A3 C.length c3)).heap[nb]? = some (.cells G.toArray 71 (0, 0)) by rw [← hG]; exact hE.1.heap); have r13 := h_ hE.2.1; have fin13 := h_ hE.2.2; have c12 := P12.nbx.c17; have f12 := free_of_heap P12.nbx.heap 17; have hG := h_ hG; clear hE P12 hown12 hk12)
       all_goals (
        go_wp2_with (first | (refine wpList_load_agg 71 rfl rfl rfl _ Try.underlying71 rfl G (by rw [hGl.out]; exact node_size) (fun j v hv => by rw [cell_of_heap q13.out, Nat.zero_add]; simpa using hv) ?_) | (refine wpList_store_whole 71 rfl rfl rfl G rfl (by rw [hGl.out]; exact node_size) 71 _ r13.out (by simp [hGl.out, hZl.out]) hG1.out ?_))
        refine bodyPost_ret (results_row_tmp rfl _ _ (w.heap.size + 2) 71 G.toArray (0, 0) _ rfl (setRow_heap _ _ _ _ 71 (0, 0) r13.out) Try.underlying71 rfl (by simp only [List.size_toArray]; rw [hGl.out]; exact node_size)) rfl ?_
        rw [hres.out]
        exact ⟨A9, .slice A3 C.length c3, by rw [← hG.out]; rfl, (fin13.out _).1, (fin13.out _).2⟩)
      ·have hcc : Hid (∀ W, Kept (fun _ => False) w11 W → Calls Try.prog 48 #[.slice (some ⟨W.heap.size, 0, none⟩) 3 3] (W.alloc (.cells #[.slice (some ⟨b, off, none⟩) i cap, .slice Ao out.length co, .slice (some ⟨b, off + (i + 1) * 2, none⟩) (n.ents.length - (i + 1)) (cap - (i + 1))] 36)) fun e w' => ∃ u, e = .returned u ∧ w'.ownsRow w11.heap.size 58 2 u C.length (entCells C) ∧ Kept (fun _ => False) W w') := h_ (fun W kW => by
        have hE7 := SliceAt.fresh P11.out.own.ents.at_ kW
        rw [← hC]
        refine Calls.mono (?_ : Calls _ _ _ _ fun e w' => ∃ u, e = .returned u ∧ w'.ownsRow (W.heap.size + 1) 58 2 u (n.ents.take i ++ out ++ n.ents.drop (i + 1)).length (entCells (n.ents.take i ++ out ++ n.ents.drop (i + 1))) ∧ Kept (fun _ => False) W w') fun e w' ⟨u, he, ho, hk⟩ => ⟨u, he, owns_weaken ho (by have := kW.size; omega), hk⟩
        refine concat3 (entsAt_take (m := i) hE7 (by omega) rfl) (SliceAt.fresh O11.out.ents.at_ kW) ?_ (by simp only [List.length_take, List.length_drop]; omega)
        exact entsAt_drop (m := i + 1) hE7 (by omega) rfl)
       have hj0 : (i : Int) ≤ (n.ents.length : Int) := by omega
       have hj4 : (i : Int) + 1 ≤ (n.ents.length : Int) := by omega
       have hj5 : IntKind.i64.wrap ((i : Int) + 1) = (i : Int) + 1 := by rw [IntKind.wrap_i64]; omega
       have hj6 : ((i : Int) + 1).toNat = i + 1 := by omega
       have hj7 : (i : Int) ≤ (cap : Int) := by omega
       have hj8 : (0 : Int) ≤ (i : Int) + 1 := by omega
       clear hC
       go_region_law (rw [if_pos (by rfl)]; go_simp; refine (hcc.out _ (by exact (Kept.refl _ _).drew)).mono ?_; rintro e w12 ⟨u, rfl, hown12, hk12⟩; obtain ⟨A3, c3, rfl, _⟩ := EntsAt.form (show EntsAt w12 u C from SliceAt.of_owns hown12); have P12 := P11.out.fresh ((Kept.refl (fun _ => False) w11).drew.trans hk12); have hE := P12.ends h'.out (C := C) (base := w11.heap.size) ⟨hown12, fun g hg e => by have h1 := (hown12.lt g hg).1; have h2 := P11.out.to_.store.lt (.inl e); omega⟩ (P11.out.to_.kept.size); obtain ⟨G, hG⟩ : ∃ G, nodeCells { n with ents := C } (.slice A3 C.length c3) = G := ⟨_, rfl⟩; have hGl : Hid (G.length = 18) := h_ (by rw [← hG]; exact nodeCells_len _ _); have hG1 : Hid (∀ v ∈ G, v.oneCell' = true) := h_ (by rw [← hG]; exact nodeCells_one _ _ _ _); have q13 := h_ (show (w12.setCell ⟨nb, 17, none⟩ (.slice A3 C.length c3)).heap[nb]? = some (.cells G.toArray 71 (0, 0)) by rw [← hG]; exact hE.1.heap); have r13 := h_ hE.2.1; have fin13 := h_ hE.2.2; have c12 := P12.nbx.c17; have f12 := free_of_heap P12.nbx.heap 17; have hG := h_ hG; clear hE P12 hown12 hk12)
       all_goals (
        go_wp2_with (first | (refine wpList_load_agg 71 rfl rfl rfl _ Try.underlying71 rfl G (by rw [hGl.out]; exact node_size) (fun j v hv => by rw [cell_of_heap q13.out, Nat.zero_add]; simpa using hv) ?_) | (refine wpList_store_whole 71 rfl rfl rfl G rfl (by rw [hGl.out]; exact node_size) 71 _ r13.out (by simp [hGl.out, hZl.out]) hG1.out ?_))
        refine bodyPost_ret (results_row_tmp rfl _ _ (w.heap.size + 2) 71 G.toArray (0, 0) _ rfl (setRow_heap _ _ _ _ 71 (0, 0) r13.out) Try.underlying71 rfl (by simp only [List.size_toArray]; rw [hGl.out]; exact node_size)) rfl ?_
        rw [hres.out]
        exact ⟨A9, .slice A3 C.length c3, by rw [← hG.out]; rfl, (fin13.out _).1, (fin13.out _).2⟩)
     ·rw [if_neg h2] at hres
      have h2' : ((er2 : Int) == 0) = false := by simp; omega
      clear h2
      go_wp2_with (first | (refine wpList_load_agg 71 rfl rfl rfl _ Try.underlying71 rfl F (by rw [hFl.out]; exact node_size) (fun j v hv => by rw [cell_of_heap q11.out, Nat.zero_add]; simpa using hv) ?_) | (refine wpList_store_whole 71 rfl rfl rfl F rfl (by rw [hFl.out]; exact node_size) 71 _ r11.out (by simp [hFl.out, hZl.out]) hF1.out ?_))
      refine bodyPost_ret (results_row_tmp rfl _ _ (w.heap.size + 2) 71 F.toArray (0, 0) _ rfl (setRow_heap _ _ _ _ 71 (0, 0) r11.out) Try.underlying71 rfl (by simp only [List.size_toArray]; rw [hFl.out]; exact node_size)) rfl ?_
      have hS := P11.out.stop h'.out F.toArray
      rw [hres.out]
      exact ⟨A9, .slice (some ⟨b, off, none⟩) n.ents.length cap, by rw [← hF'.out]; rfl, hS.1, hS.2⟩
    ·have hres : Hid (putRes n i M1 n1 er = (M1, n, er)) := h_ (by unfold putRes; rw [if_neg h0])
     have h0' : ((er : Int) == 0) = false := by simp; omega
     have q10 := h_ (show w10.heap[nb]? = some (.cells F.toArray 71 (0, 0)) by rw [← hF'.out]; exact P10'.out.nbx.heap)
     have r10 := h_ P10'.out.rb
     clear h0
     go_wp2_with (first | (refine wpList_load_agg 71 rfl rfl rfl _ Try.underlying71 rfl F (by rw [hFl.out]; exact node_size) (fun j v hv => by rw [cell_of_heap q10.out, Nat.zero_add]; simpa using hv) ?_) | (refine wpList_store_whole 71 rfl rfl rfl F rfl (by rw [hFl.out]; exact node_size) 71 _ r10.out (by simp [hFl.out, hZl.out]) hF1.out ?_))
     refine bodyPost_ret (results_row_tmp rfl _ _ (w.heap.size + 2) 71 F.toArray (0, 0) _ rfl (setRow_heap _ _ _ _ 71 (0, 0) r10.out) Try.underlying71 rfl (by simp only [List.size_toArray]; rw [hFl.out]; exact node_size)) rfl ?_
     have hS := P10'.out.stop h'.out F.toArray
     rw [hres.out]
     exact ⟨A8, .slice (some ⟨b, off, none⟩) n.ents.length cap, by rw [← hF'.out]; rfl, hS.1, hS.2⟩
   exact AllReadyH.nil
  exact AllReadyH.nil
 exact AllReadyH.nil

theorem putF_log : ∀ (f : Nat) (M : SM) (r : Int) (x : Int × Int), (SM.putF f M r x).1.log.length ≤ M.log.length + 2 * f
 | 0, _, _, _ => by simp [SM.putF]
 | f + 1, M, r, x => by
  rw [putF_succ]
  split
  ·split
   ·have h1 := putF_log f M ((M.tnode r (8 - f)).1.ents.getD (atI (M.tnode r (8 - f)).1.ents x.1).toNat (0, 0)).2 x
    have h2 := (split_bound (SM.putF f M ((M.tnode r (8 - f)).1.ents.getD (atI (M.tnode r (8 - f)).1.ents x.1).toNat (0, 0)).2 x).1 (SM.putF f M ((M.tnode r (8 - f)).1.ents.getD (atI (M.tnode r (8 - f)).1.ents x.1).toNat (0, 0)).2 x).2.1).1
    split
    ·split <;> (dsimp only; omega)
    ·dsimp only; omega
   ·split <;> (dsimp only; omega)
  ·dsimp only; omega
theorem putF_inner {f : Nat} {M : SM} {root : Int} {x : Int × Int} {n : NM} (hR : M.tnode root (8 - f) = (n, 0)) (hk : n.kind = 3) :
  SM.putF (f + 1) M root x = putRes n (atI n.ents x.1).toNat (SM.putF f M (n.ents.getD (atI n.ents x.1).toNat (0, 0)).2 x).1 (SM.putF f M (n.ents.getD (atI n.ents x.1).toNat (0, 0)).2 x).2.1 (SM.putF f M (n.ents.getD (atI n.ents x.1).toNat (0, 0)).2 x).2.2 := by
 rw [putF_succ, hR]
 dsimp only
 rw [if_pos rfl, if_pos hk]
 rfl

theorem treePutF : ∀ (f : Nat), 0 < f → f ≤ 9 → ∀ {w : World} {A : SA} {M : SM} (root : Int) (x : Int × Int), StoreAt w A M → M.log.length + 2 * f + 2 < 100000000 →
  Calls Try.prog 33 #[.agg #[.pointer (some ⟨A.sb, 0, none⟩)], .int .i64 root, .int .i64 ((9 - f : Nat) : Int), .agg #[.int .i64 x.1, .int .i64 x.2]] w fun e w' =>
   ∃ A' v, e = .returned (.tuple #[.agg (nodeCells (SM.putF f M root x).2.1 v).toArray, .int .i64 (SM.putF f M root x).2.2]) ∧ StoreTo A A' (SM.putF f M root x).1 w w' ∧ OutAt w' A' w.heap.size v (SM.putF f M root x).2.1.ents
 | 0, h0, _, _, _, _, _, _, _, _ => by omega
 | f + 1, _, hf, w, A, M, root, x, h, hfew => by
  have ht := fun h0 => tnode_ok h (i := root) (d := 8 - f) h0
  have still : ∀ {n : NM} {er : Nat} {w' : World} {v : Value}, w'.ownsRow w.heap.size 58 2 v n.ents.length (entCells n.ents) → Kept (fun _ => False) w w' → SM.putF (f + 1) M root x = (M, n, er) →
    StoreTo A A (SM.putF (f + 1) M root x).1 w w' ∧ OutAt w' A w.heap.size v (SM.putF (f + 1) M root x).2.1.ents := fun ho hk e => by
   rw [e]
   exact ⟨(StoreTo.refl h).fresh hk, ho, fun b hb e => by have := (ho.lt b hb).1; have := h.lt (.inl e); omega⟩
  have e9 : 9 - (f + 1) = 8 - f := by omega
  rw [e9]
  obtain ⟨R, hR⟩ : ∃ R, M.tnode root (8 - f) = R := ⟨_, rfl⟩
  rw [hR] at ht
  obtain ⟨n, er⟩ := R
  dsimp only at ht
  by_cases h0 : er = 0
  ·subst h0
   obtain ⟨hin, hd⟩ := ht rfl
   rcases hin.kind with hk | hk
   ·have hs : SM.putF (f + 1) M root x = if 0 ≤ atI n.ents x.1 ∧ (n.ents.getD (atI n.ents x.1).toNat (0, 0)).1 = x.1 then
      (M, { n with ents := n.ents.take (atI n.ents x.1).toNat ++ [x] ++ n.ents.drop ((atI n.ents x.1).toNat + 1) }, 0)
     else (M, { n with ents := n.ents.take (atI n.ents x.1 + 1).toNat ++ [x] ++ n.ents.drop (atI n.ents x.1 + 1).toNat }, 0) := by
     rw [putF_succ, hR]
     dsimp only
     rw [if_pos rfl, if_neg (by omega)]
    have hb := (atI_bound (l := n.ents) x.1).1
    by_cases hneg : atI n.ents x.1 = -1
    ·have e : SM.putF (f + 1) M root x = (M, { n with ents := n.ents.take 0 ++ [x] ++ n.ents.drop 0 }, 0) := by
      rw [hs, if_neg (by omega), hneg]
      rfl
     refine (putLess h root (8 - f) (by omega) x hR hin hk hneg rfl).mono ?_
     rintro e' w' ⟨v, he, ho, hk⟩
     have hst := still (n := { n with ents := n.ents.take 0 ++ [x] ++ n.ents.drop 0 }) ho hk e
     exact ⟨A, v, by rw [he, e]; rfl, hst.1, hst.2⟩
    ·obtain ⟨i, hi⟩ := Int.eq_ofNat_of_zero_le (show 0 ≤ atI n.ents x.1 by omega)
     rw [hi] at hs
     simp only [Int.toNat_natCast] at hs
     by_cases hy : (n.ents.getD i (0, 0)).1 = x.1
     ·have e : SM.putF (f + 1) M root x = (M, { n with ents := n.ents.take i ++ [x] ++ n.ents.drop (i + 1) }, 0) := by
       rw [hs, if_pos ⟨by omega, hy⟩]
      refine (putSame h root (8 - f) (by omega) x hR hin hk hi hy rfl).mono ?_
      rintro e' w' ⟨v, he, ho, hk⟩
      have hst := still (n := { n with ents := n.ents.take i ++ [x] ++ n.ents.drop (i + 1) }) ho hk e
      exact ⟨A, v, by rw [he, e]; rfl, hst.1, hst.2⟩
     ·have e : SM.putF (f + 1) M root x = (M, { n with ents := n.ents.take (i + 1) ++ [x] ++ n.ents.drop (i + 1) }, 0) := by
       rw [hs, if_neg (fun h => hy h.2), show ((i : Int) + 1).toNat = i + 1 by omega]
      refine (putMore h root (8 - f) (by omega) x hR hin hk hi hy rfl).mono ?_
      rintro e' w' ⟨v, he, ho, hk⟩
      have hst := still (n := { n with ents := n.ents.take (i + 1) ++ [x] ++ n.ents.drop (i + 1) }) ho hk e
      exact ⟨A, v, by rw [he, e]; rfl, hst.1, hst.2⟩
   ·rw [putF_inner hR hk]
    have hlog := putF_log f M (n.ents.getD (atI n.ents x.1).toNat (0, 0)).2 x
    refine putInner h root (8 - f) (by omega) x hR hin hk rfl (by omega) fun W hW => ?_
    have := treePutF f (by omega) (by omega) (n.ents.getD (atI n.ents x.1).toNat (0, 0)).2 x hW (by omega)
    rw [show 9 - f = 8 - f + 1 by omega, Int.natCast_add, Int.natCast_one] at this
    exact this
  ·have e : SM.putF (f + 1) M root x = (M, n, er) := by
    rw [putF_succ, hR]
    dsimp only
    rw [if_neg h0]
   refine (putErr h root (8 - f) (by omega) x hR h0).mono ?_
   rintro e' w' ⟨v, he, ho, hk⟩
   have hst := still (n := n) (er := er) ho hk e
   exact ⟨A, v, by rw [he, e], hst.1, hst.2⟩

theorem entry_zero : (Try.prog.info? 58).map (·.zero) = some (some (.agg #[.int .i64 0, .int .i64 0])) := by kernel_rfl
theorem entry_size : (Try.prog.info? 58).map (·.size) = some 2 := by kernel_rfl

set_option maxHeartbeats 4000000 in
theorem treePut {w : World} {A : SA} {M : SM} (h : StoreAt w A M) (root key page : Int) (hfew : M.log.length + 30 < 100000000) :
  Calls Try.prog 17 #[.agg #[.pointer (some ⟨A.sb, 0, none⟩)], .int .i64 root, .int .i64 key, .int .i64 page] w fun e w' => ∃ A', e = .returned (.tuple #[.int .i64 (M.put root key page).2.1, .int .i64 (M.put root key page).2.2]) ∧ StoreTo A A' (M.put root key page).1 w w' := by
 obtain ⟨w1, hw1⟩ : ∃ w1, w.alloc (.cells #[.pointer (some ⟨A.sb, 0, none⟩)] 27) = w1 := ⟨_, rfl⟩
 have k1 : Kept (fun _ => False) w w1 := by rw [← hw1]; exact (Kept.refl _ _).alloc _
 have s1 : w1.heap.size = w.heap.size + 1 := by rw [← hw1]; simp
 have t1 : w1.heap[w.heap.size]? = some (.cells #[.pointer (some ⟨A.sb, 0, none⟩)] 27 (0, 0)) := by rw [← hw1]; exact heap_alloc_new _ _
 have k1' := h_ k1
 have hw1' := h_ hw1
 have h' := h_ h
 by_cases hk0 : key < 0
 ·have e : Hid (M.put root key page = (M, -1, 101)) := h_ (by unfold SM.put; rw [if_pos (.inl hk0)])
  clear hw1 k1 s1 t1 h
  go_enter Try.func17, Try.ntmps17
  go_wp2_with (first | (refine wpList_box_named 27 rfl rfl _ rfl hw1'.out ?_))
  go_ret2
  first | exact ⟨A, by rw [e.out]; rfl, by rw [e.out]; exact (StoreTo.refl h'.out).fresh k1'.out⟩ | exact ⟨by rw [e.out]; rfl, A, by rw [e.out]; exact (StoreTo.refl h'.out).fresh k1'.out⟩
 by_cases hk1 : 64 ≤ key
 ·have e : Hid (M.put root key page = (M, -1, 101)) := h_ (by unfold SM.put; rw [if_pos (.inr hk1)])
  clear hw1 k1 s1 t1 h
  go_enter Try.func17, Try.ntmps17
  go_wp2_with (first | (refine wpList_box_named 27 rfl rfl _ rfl hw1'.out ?_))
  go_ret2
  first | exact ⟨A, by rw [e.out]; rfl, by rw [e.out]; exact (StoreTo.refl h'.out).fresh k1'.out⟩ | exact ⟨by rw [e.out]; rfl, A, by rw [e.out]; exact (StoreTo.refl h'.out).fresh k1'.out⟩
 have hput : Hid (M.put root key page = if root = -1 then M.top ⟨2, zeros16, [(key, page)]⟩ else (if (SM.putF 9 M root (key, page)).2.2 = 0 then (SM.putF 9 M root (key, page)).1.top (SM.putF 9 M root (key, page)).2.1 else ((SM.putF 9 M root (key, page)).1, -1, (SM.putF 9 M root (key, page)).2.2))) := h_ (by unfold SM.put; rw [if_neg (by omega)]; rfl)
 obtain ⟨xb, hxb⟩ : ∃ xb, w1.heap.size = xb := ⟨_, rfl⟩
 obtain ⟨w2, hw2⟩ : ∃ w2, (w1.alloc (.cells #[.int .i64 0, .int .i64 0] 58)).setRow xb #[.int .i64 key, .int .i64 page] = w2 := ⟨_, rfl⟩
 have k2 : Kept (fun _ => False) w1 w2 := by rw [← hw2]; exact ((Kept.refl _ _).alloc _).setRowNew (by omega) _
 have x2 : w2.heap[xb]? = some (.cells #[.int .i64 key, .int .i64 page] 58 (0, 0)) := by rw [← hw2, ← hxb]; exact setRow_heap _ _ _ _ _ _ (heap_alloc_new _ _)
 have s2 : w2.heap.size = w.heap.size + 2 := by rw [← hw2]; simp [World.setRow, s1]
 have t2 := k2.get t1 id
 have hloadt : Hid (∀ j v, [Value.pointer (some ⟨A.sb, 0, none⟩)][j]? = some v → w2.cell? ⟨w.heap.size, 0 + j, none⟩ = some v) := h_ (fun j v hj => by rw [Nat.zero_add, cell_of_heap t2]; simpa using hj)
 have hloadx : Hid (∀ j v, [Value.int .i64 key, .int .i64 page][j]? = some v → w2.cell? ⟨xb, 0 + j, none⟩ = some v) := h_ (fun j v hj => by rw [Nat.zero_add, cell_of_heap x2]; simpa using hj)
 have st2 := h_ (StoreTo.refl h |>.fresh (k1.trans k2))
 have hw2' := h_ hw2
 have hxb' := h_ hxb
 have s2' := h_ s2
 by_cases hr : root = -1
 ·subst hr
  have e : Hid (M.put (-1) key page = M.top ⟨2, zeros16, [(key, page)]⟩) := h_ (by rw [hput.out, if_pos rfl])
  obtain ⟨w3, hw3⟩ : ∃ w3, w2.alloc (.cells #[.int .i64 key, .int .i64 page] 58) = w3 := ⟨_, rfl⟩
  have k3 : Kept (fun _ => False) w2 w3 := by rw [← hw3]; exact (Kept.refl _ _).alloc _
  have g3 : w3.heap[w2.heap.size]? = some (.cells #[.int .i64 key, .int .i64 page] 58 (0, 0)) := by rw [← hw3]; exact heap_alloc_new _ _
  have hs3 : w3.heap.size = w2.heap.size + 1 := by rw [← hw3]; simp
  have hv : EntsOff w3 A (.slice (some ⟨w2.heap.size, 0, none⟩) 1 1) [(key, page)] := ⟨SliceAt.block_new (ys := [.int .i64 key, .int .i64 page]) (m := 1) g3 rfl (by decide), fun _ b hb => by
   simp [Value.ownBlock] at hb
   subst hb
   exact ⟨by omega, fun e => by have := h.lt (.inl e); omega⟩⟩
  have hT := treeTop (n := ⟨2, zeros16, [(key, page)]⟩) (h.fresh ((k1.trans k2).trans k3)) hv (by omega)
  rw [← hw3] at hT
  have hT' := h_ hT
  have k3' := h_ (show Kept (fun _ => False) w (w2.alloc (.cells #[.int .i64 key, .int .i64 page] 58)) by rw [hw3]; exact (k1.trans k2).trans k3)
  clear hw1 k1 s1 t1 hw2 k2 x2 s2 t2 hxb h hw3 k3 g3 hs3 hv hT hput
  go_enter Try.func17, Try.ntmps17
  go_wp2_with (first | (refine wpList_box_named 27 rfl rfl _ rfl hw1'.out ?_) | (refine wpList_alloc_as 58 rfl rfl #[.int .i64 0, .int .i64 0] entry_zero ?_; rw [hxb'.out]) | (refine wpList_store_whole 58 rfl rfl rfl [.int .i64 key, .int .i64 page] rfl entry_size 58 #[.int .i64 0, .int .i64 0] (by rw [← hxb'.out]; exact heap_alloc_new _ _) rfl (by intro c hc; simp at hc; rcases hc with rfl | rfl <;> rfl) ?_; rw [hw2'.out]) | (refine wpList_load_agg 27 rfl rfl rfl _ Try.underlying27 rfl [.pointer (some ⟨A.sb, 0, none⟩)] (by kernel_rfl) hloadt.out ?_) | (refine wpList_load_agg 58 rfl rfl rfl _ Try.underlying58 rfl [.int .i64 key, .int .i64 page] (by kernel_rfl) hloadx.out ?_) | (refine wpList_exec rfl (exec_build 71 #[(0, .const (.int .i64 2)), (2, .tmp 26)] _ rfl (by simp [Act.eval]) (run_build_part _ _ [(key, page)] _ _ _)) ?_))
  refine hT'.out.mono ?_
  rintro e' w4 ⟨A4, rfl, hT4⟩
  have hT4' := h_ hT4
  clear hT4
  go_wp2_with fail
  go_ret2
  exact ⟨A4, by rw [e.out]; rfl, by rw [e.out]; exact StoreTo.before k3'.out hT4'.out⟩
 ·have hrb : (root == -1) = false := by simpa using hr
  have hP := treePutF 9 (by omega) (Nat.le_refl _) root (key, page) (h.fresh (k1.trans k2)) (by omega)
  have hlog := putF_log 9 M root (key, page)
  rw [if_neg hr] at hput
  obtain ⟨R, hR⟩ : ∃ R, SM.putF 9 M root (key, page) = R := ⟨_, rfl⟩
  rw [hR] at hP hlog hput
  obtain ⟨M1, n1, er⟩ := R
  dsimp only at hP hlog hput
  have hP' := h_ hP
  obtain ⟨Z, hZ⟩ : ∃ Z, nodeCells NM.zero (.slice none 0 0) = Z := ⟨_, rfl⟩
  have hZz : Hid ((Try.prog.info? 71).map (·.zero) = some (some (.agg Z.toArray))) := h_ (by rw [← hZ]; exact node_zero)
  have hZl : Hid (Z.length = 18) := h_ (by rw [← hZ]; exact nodeCells_len _ _)
  have t2' := h_ t2
  have sf2 : Hid (Safe w2 A w.heap.size) := h_ (Safe.new h (Nat.le_refl _) (by omega))
  have hsz2 : Hid (w.heap.size ≤ w2.heap.size) := h_ (by omega)
  clear hw1 k1 s1 t1 hw2 k2 x2 s2 t2 hxb h hP hR hr hZ
  go_enter Try.func17, Try.ntmps17
  go_wp2_with (first | (refine wpList_box_named 27 rfl rfl _ rfl hw1'.out ?_) | (refine wpList_alloc_as 58 rfl rfl #[.int .i64 0, .int .i64 0] entry_zero ?_; rw [hxb'.out]) | (refine wpList_store_whole 58 rfl rfl rfl [.int .i64 key, .int .i64 page] rfl entry_size 58 #[.int .i64 0, .int .i64 0] (by rw [← hxb'.out]; exact heap_alloc_new _ _) rfl (by intro c hc; simp at hc; rcases hc with rfl | rfl <;> rfl) ?_; rw [hw2'.out]) | (refine wpList_load_agg 27 rfl rfl rfl _ Try.underlying27 rfl [.pointer (some ⟨A.sb, 0, none⟩)] (by kernel_rfl) hloadt.out ?_) | (refine wpList_load_agg 58 rfl rfl rfl _ Try.underlying58 rfl [.int .i64 key, .int .i64 page] (by kernel_rfl) hloadx.out ?_))
  refine hP'.out.mono ?_
  rintro e' w3 ⟨A3, v, rfl, hT3, hO3⟩
  obtain ⟨Av, cap, rfl, _⟩ := EntsAt.form hO3.ents.at_
  obtain ⟨F, hF⟩ : ∃ F, nodeCells n1 (.slice Av n1.ents.length cap) = F := ⟨_, rfl⟩
  have hFl : Hid (F.length = 18) := h_ (by rw [← hF]; exact nodeCells_len _ _)
  have hF1 : Hid (∀ v ∈ F, v.oneCell' = true) := h_ (by rw [← hF]; exact nodeCells_one _ _ _ _)
  obtain ⟨nb, hnb⟩ : ∃ nb, w3.heap.size = nb := ⟨_, rfl⟩
  obtain ⟨w5, hw5⟩ : ∃ w5, (w3.alloc (.cells Z.toArray 71)).setRow nb F.toArray = w5 := ⟨_, rfl⟩
  have k5 : Kept (fun _ => False) w3 w5 := by rw [← hw5]; exact ((Kept.refl _ _).alloc _).setRowNew (by omega) _
  have q5 := h_ (show w5.heap[nb]? = some (.cells F.toArray 71 (0, 0)) by rw [← hw5, ← hnb]; exact setRow_heap _ _ _ _ _ _ (heap_alloc_new _ _))
  have t5 := h_ (k5.get (hT3.get t2'.out sf2.out) id)
  have hT5 := h_ ((st2.out.trans hT3).fresh k5)
  have hsb := hT3.sb
  have hTop := treeTop hT5.out.store (hO3.ents.fresh k5) (by omega)
  rw [hF, hsb] at hTop
  have hTop' := h_ hTop
  have hnb' := h_ hnb
  have hw5' := h_ hw5
  rw [hF]
  clear hT3 hO3 hF hnb hw5 k5 hTop hsb
  by_cases h0 : er = 0
  ·subst h0
   rw [if_pos rfl] at hput
   go_wp2_with (first | (refine wpList_alloc_as 71 rfl rfl Z.toArray hZz.out ?_; rw [hnb'.out]) | (refine wpList_store_whole 71 rfl rfl rfl F rfl (by rw [hFl.out]; exact node_size) 71 _ (by rw [← hnb'.out]; exact heap_alloc_new _ _) (by simp [hFl.out, hZl.out]) hF1.out ?_; rw [hw5'.out]) | (refine wpList_load_agg 27 rfl rfl rfl _ Try.underlying27 rfl [.pointer (some ⟨A.sb, 0, none⟩)] (by kernel_rfl) (fun j v hv => by rw [Nat.zero_add, cell_of_heap t5.out]; simpa using hv) ?_) | (refine wpList_load_agg 71 rfl rfl rfl _ Try.underlying71 rfl F (by rw [hFl.out]; exact node_size) (fun j v hv => by rw [cell_of_heap q5.out, Nat.zero_add]; simpa using hv) ?_))
   refine hTop'.out.mono ?_
   rintro e' w6 ⟨A6, rfl, hT6⟩
   have hT6' := h_ hT6
   clear hT6
   go_wp2_with fail
   go_ret2
   exact ⟨A6, by rw [hput.out]; rfl, by rw [hput.out]; exact hT5.out.trans hT6'.out⟩
  ·rw [if_neg h0] at hput
   have h0' : ((er : Int) == 0) = false := by simp; omega
   clear h0
   go_wp2_with (first | (refine wpList_alloc_as 71 rfl rfl Z.toArray hZz.out ?_; rw [hnb'.out]) | (refine wpList_store_whole 71 rfl rfl rfl F rfl (by rw [hFl.out]; exact node_size) 71 _ (by rw [← hnb'.out]; exact heap_alloc_new _ _) (by simp [hFl.out, hZl.out]) hF1.out ?_; rw [hw5'.out]))
   go_ret2
   exact ⟨A3, by rw [hput.out]; rfl, by rw [hput.out]; exact hT5.out⟩

theorem put_log (M : SM) (root key page : Int) : (M.put root key page).1.log.length ≤ M.log.length + 22 := by
 unfold SM.put
 dsimp only
 split
 ·dsimp only; omega
 ·split
  ·have := top_bound M ⟨2, List.replicate 16 0, [(key, page)]⟩
   omega
  ·have h1 := putF_log 9 M root (key, page)
   split
   ·have := top_bound (SM.putF 9 M root (key, page)).1 (SM.putF 9 M root (key, page)).2.1
    omega
   ·dsimp only; omega
theorem swap_log (M : SM) (a b : Int) : (M.swap a b).1.log = M.log := by
 unfold SM.swap
 dsimp only
 have h1 : (if b = -1 then (M, 0) else M.hold b).1.log = M.log := by split <;> rfl
 obtain ⟨R, hR⟩ : ∃ R, (if b = -1 then (M, 0) else M.hold b) = R := ⟨_, rfl⟩
 rw [hR] at h1 ⊢
 split
 ·split
  ·exact h1
  ·unfold SM.drop
   rw [(dropF_live 241 R.1 a).2.1]; exact h1
 ·exact h1
theorem build_cons (x : Int × Int) (l : List (Int × Int)) (M : SM) (root : Int) : SM.build (x :: l) M root =
  if (M.put root x.1 x.2).2.2 = 0 then (if ((M.put root x.1 x.2).1.swap root (M.put root x.1 x.2).2.1).2 = 0 then SM.build l ((M.put root x.1 x.2).1.swap root (M.put root x.1 x.2).2.1).1 (M.put root x.1 x.2).2.1 else (((M.put root x.1 x.2).1.swap root (M.put root x.1 x.2).2.1).1, -1, ((M.put root x.1 x.2).1.swap root (M.put root x.1 x.2).2.1).2)) else ((M.put root x.1 x.2).1, -1, (M.put root x.1 x.2).2.2) := rfl

set_option maxHeartbeats 4000000 in
theorem treeBuild {w : World} {A : SA} {M : SM} (h : StoreAt w A M) {v : Value} {l : List (Int × Int)} (hv : EntsOff w A v l) (hl : l.length ≤ 1000) (hfew : M.log.length + 100000 < 100000000) :
  Calls Try.prog 9 #[.agg #[.pointer (some ⟨A.sb, 0, none⟩)], v] w fun e w' => ∃ A', e = .returned (.tuple #[.int .i64 (SM.build l M (-1)).2.1, .int .i64 (SM.build l M (-1)).2.2]) ∧ StoreTo A A' (SM.build l M (-1)).1 w w' := by
 obtain ⟨Av, cap, rfl, hf1, hf2⟩ := hv.at_.form
 unfold maxLen at hf2
 obtain ⟨w1, hw1⟩ : ∃ w1, w.alloc (.cells #[.pointer (some ⟨A.sb, 0, none⟩)] 27) = w1 := ⟨_, rfl⟩
 have k1 : Kept (fun _ => False) w w1 := by rw [← hw1]; exact (Kept.refl _ _).alloc _
 have s1 : w1.heap.size = w.heap.size + 1 := by rw [← hw1]; simp
 have t1 : w1.heap[w.heap.size]? = some (.cells #[.pointer (some ⟨A.sb, 0, none⟩)] 27 (0, 0)) := by rw [← hw1]; exact heap_alloc_new _ _
 have hw1' := h_ hw1
 have st1 : Safe w1 A w.heap.size := Safe.new h (Nat.le_refl _) (by omega)
 have I0 : Hid (StoreTo A A M w w1 ∧ w1.heap[w.heap.size]? = some (.cells #[.pointer (some ⟨A.sb, 0, none⟩)] 27 (0, 0)) ∧ Safe w1 A w.heap.size ∧ EntsOff w1 A (.slice Av l.length cap) l ∧ M.log.length ≤ M.log.length + 22 * 0) := h_ ⟨(StoreTo.refl h).fresh k1, t1, st1, hv.fresh k1, Nat.le_refl _⟩
 have h' := h_ h
 clear hw1 k1 s1 t1 st1 h hv
 go_enter Try.func9, Try.ntmps9
 go_wp2_with (first | (refine wpList_box_named 27 rfl rfl _ rfl hw1'.out ?_))
 go_loopw [6, 13] (fun r x wr => ∃ (k : Nat) (A' : SA) (M' : SM) (root : Int), k ≤ l.length ∧ x = .int .i64 k ∧ r = .int .i64 root ∧ Hid (SM.build (l.drop k) M' root = SM.build l M (-1)) ∧ Hid (StoreTo A A' M' w wr ∧ wr.heap[w.heap.size]? = some (.cells #[.pointer (some ⟨A.sb, 0, none⟩)] 27 (0, 0)) ∧ Safe wr A' w.heap.size ∧ EntsOff wr A' (.slice Av l.length cap) l ∧ M'.log.length ≤ M.log.length + 22 * k)) (fun _ x _ => l.length - (intOf x).toNat)
 case atStart => exact ⟨0, A, M, -1, Nat.zero_le _, rfl, rfl, h_ rfl, I0⟩
 case round =>
  obtain ⟨k, A', M', root, hk, rfl, rfl, hq, hI⟩ := hrel
  by_cases hlt : k < l.length
  ·obtain ⟨x, hx⟩ : ∃ x, l[k]? = some x := ⟨_, List.getElem?_eq_getElem hlt⟩
   have hd : Hid (l.drop k = x :: l.drop (k + 1)) := h_ (by
    obtain ⟨hkl, hxe⟩ := List.getElem?_eq_some_iff.1 hx
    rw [List.drop_eq_getElem_cons hkl, hxe])
   have hstep := hq.out
   rw [hd.out, build_cons] at hstep
   obtain ⟨hT, htb, hsafe, hents, hlog⟩ := hI.out
   obtain ⟨b, off, hAv, hbl, hx1, hx2⟩ := EntsAt.get hents.at_ hx
   cases hAv
   obtain ⟨xb, hxb⟩ : ∃ xb, wr.heap.size = xb := ⟨_, rfl⟩
   obtain ⟨w2, hw2⟩ : ∃ w2, (wr.alloc (.cells #[.int .i64 0, .int .i64 0] 58)).setRow xb #[.int .i64 x.1, .int .i64 x.2] = w2 := ⟨_, rfl⟩
   have k2 : Kept (fun _ => False) wr w2 := by rw [← hw2]; exact ((Kept.refl _ _).alloc _).setRowNew (by omega) _
   have x2 : w2.heap[xb]? = some (.cells #[.int .i64 x.1, .int .i64 x.2] 58 (0, 0)) := by rw [← hw2, ← hxb]; exact setRow_heap _ _ _ _ _ _ (heap_alloc_new _ _)
   have t2 := k2.get htb id
   have c1 := cell_of_heap x2 0
   have c2 := cell_of_heap x2 1
   simp at c1 c2
   have hT2 := hT.fresh k2
   have hP := treePut hT2.store root x.1 x.2 (by omega)
   rw [hT.sb] at hP
   have hlogP := put_log M' root x.1 x.2
   obtain ⟨R, hR⟩ : ∃ R, M'.put root x.1 x.2 = R := ⟨_, rfl⟩
   rw [hR] at hP hstep hlogP
   obtain ⟨M2, next, er⟩ := R
   dsimp only at hP hstep hlogP
   have hloade : Hid (∀ j v, [Value.int .i64 x.1, .int .i64 x.2][j]? = some v → (wr.alloc (.cells #[.int .i64 0, .int .i64 0] 58)).cell? ⟨b, off + k * 2 + j, none⟩ = some v ∧ wr.cell? ⟨b, off + k * 2 + j, none⟩ = some v) := h_ (fun j v hj => by
    have kA := (Kept.refl (fun _ => False) wr).alloc (.cells #[.int .i64 0, .int .i64 0] 58)
    match j, hj with
    | 0, hj => cases hj; exact ⟨kA.cell hx1 id, hx1⟩
    | 1, hj => cases hj; exact ⟨kA.cell hx2 id, hx2⟩)
   have hloadt : Hid (∀ j v, [Value.pointer (some ⟨A.sb, 0, none⟩)][j]? = some v → w2.cell? ⟨w.heap.size, 0 + j, none⟩ = some v) := h_ (fun j v hj => by rw [Nat.zero_add, cell_of_heap t2]; simpa using hj)
   have hP' := h_ hP
   have hstep' := h_ hstep
   have hxb' := h_ hxb
   have hw2' := h_ hw2
   have hT2' := h_ hT2
   have sf2 := h_ (hsafe.fresh k2)
   have t2' := h_ t2
   have he2 := h_ (hents.fresh k2)
   have hki : (k : Int) < (l.length : Int) := by omega
   clear hx hR hP hstep hT htb hsafe hents hxb hw2 k2 x2 t2 hT2 hx1 hx2 hI hq
   go_wp2_with (first | (refine wpList_alloc_as 58 rfl rfl #[.int .i64 0, .int .i64 0] entry_zero ?_; rw [hxb'.out]) | (refine wpList_store_whole 58 rfl rfl rfl [.int .i64 x.1, .int .i64 x.2] rfl entry_size 58 #[.int .i64 0, .int .i64 0] (by rw [← hxb'.out]; exact heap_alloc_new _ _) rfl (by intro c hc; simp at hc; rcases hc with rfl | rfl <;> rfl) ?_; rw [hw2'.out]) | (refine wpList_load_agg 27 rfl rfl rfl _ Try.underlying27 rfl [.pointer (some ⟨A.sb, 0, none⟩)] (by kernel_rfl) hloadt.out ?_) | (refine wpList_load_agg 58 rfl rfl rfl _ Try.underlying58 rfl [.int .i64 x.1, .int .i64 x.2] (by kernel_rfl) (fun j v hj => (hloade.out j v hj).2) ?_))
   refine hP'.out.mono ?_
   rintro e w3 ⟨A3, rfl, hT3⟩
   have hT23 := hT2'.out.trans hT3
   have t3 := hT3.get t2'.out sf2.out
   have sf3 := h_ (sf2.out.to hT3)
   have he3 := h_ (he2.out.to hT3)
   have t3' := h_ t3
   have hT23' := h_ hT23
   have hsb3 := hT23.sb
   have hloadt3 : Hid (∀ j v, [Value.pointer (some ⟨A.sb, 0, none⟩)][j]? = some v → w3.cell? ⟨w.heap.size, 0 + j, none⟩ = some v) := h_ (fun j v hj => by rw [Nat.zero_add, cell_of_heap t3]; simpa using hj)
   clear hT3 t3 hT23
   by_cases h0 : er = 0
   ·subst h0
    rw [if_pos rfl] at hstep'
    have hS := treeSwap hT23'.out.store root next
    rw [hsb3] at hS
    have hlogS := swap_log M2 root next
    obtain ⟨R, hR⟩ : ∃ R, M2.swap root next = R := ⟨_, rfl⟩
    rw [hR] at hS hstep' hlogS
    obtain ⟨M3, es⟩ := R
    dsimp only at hS hstep' hlogS
    have hS' := h_ hS
    have hlogS' := h_ hlogS
    clear hR hS hsb3 hlogS
    go_wp2_with (first | (refine wpList_load_agg 27 rfl rfl rfl _ Try.underlying27 rfl [.pointer (some ⟨A.sb, 0, none⟩)] (by kernel_rfl) hloadt3.out ?_))
    refine hS'.out.mono ?_
    rintro e w4 ⟨rfl, hT4⟩
    have hT34 := h_ (hT23'.out.trans hT4)
    have t4 := h_ (hT4.get t3'.out sf3.out)
    have sf4 := h_ (sf3.out.to hT4)
    have he4 := h_ (he3.out.to hT4)
    clear hT4
    by_cases h1 : es = 0
    ·subst h1
     rw [if_pos rfl] at hstep'
     go_wp2_with fail
     go_roundw
     case rel => exact ⟨k + 1, A3, M3, next, by omega, by go_num, rfl, hstep', h_ ⟨hT34.out, t4.out, sf4.out, he4.out, by rw [hlogS'.out]; omega⟩⟩
     case measure => simp [intOf]; omega
    ·rw [if_neg h1] at hstep'
     have h1' : ((es : Int) == 0) = false := by simp; omega
     clear h1
     go_wp2_with fail
     go_ret2
     exact ⟨A3, by rw [← hstep'.out]; rfl, by rw [← hstep'.out]; exact hT34.out⟩
   ·rw [if_neg h0] at hstep'
    have h0' : ((er : Int) == 0) = false := by simp; omega
    clear h0 hsb3
    go_wp2_with fail
    go_ret2
    exact ⟨A3, by rw [← hstep'.out]; rfl, by rw [← hstep'.out]; exact hT23'.out⟩
  ·obtain rfl : k = l.length := by omega
   have hend : Hid (SM.build l M (-1) = (M', root, 0)) := h_ (by rw [← hq.out, List.drop_length]; rfl)
   have hT := h_ hI.out.1
   clear hI hq
   go_wp2_with fail
   go_ret2
   exact ⟨A', by rw [hend.out]; rfl, by rw [hend.out]; exact hT.out⟩

def dataN (b : Nat) : NM := ⟨1, b :: List.replicate 15 0, []⟩
theorem dataN_ok (b : Nat) (hb : b < 256) : (dataN b).ok := by
 refine ⟨rfl, rfl, ?_⟩
 intro c hc
 simp only [dataN, List.mem_cons] at hc
 rcases hc with rfl | hc
 ·exact hb
 ·rw [List.eq_of_mem_replicate hc]; decide
theorem list_ok {m : Nat} {M : SM} : ∀ (h d : Nat) (p : Int) (l : List (Int × Int)), h + d ≤ 8 → Tr m M h p l → SM.listF (9 - d) M p = (l, 0)
 | 0, _, _, _, _, t => t.elim
 | h + 1, d, p, l, hd, t => by
  obtain ⟨n, hn, hna, hok, k⟩ := tnode_tr t (d := d) (by omega)
  rw [show 9 - d = (8 - d) + 1 by omega, listF_succ, show 8 - (8 - d) = d by omega, hn]
  dsimp only
  rcases k with ⟨_, hk, hl⟩ | ⟨h0, hk, hK⟩
  ·rw [if_neg (fun e => e.2 hk), hl]
  ·rw [if_pos ⟨rfl, by omega⟩]
   have key : ∀ (es a acc : List (Int × Int)), Kids (Sub m M h) es a → (es.map (·.2)).foldl (listStep (8 - d) M) (acc, 0) = (acc ++ a, 0) := by
    intro es
    induction es with
    | nil => intro a acc hk; rw [show a = [] from hk, List.append_nil]; rfl
    | cons e es ih =>
     intro a acc hk
     obtain ⟨c, b, x, h1, h2, h3, h4, h5⟩ := hk
     have hc := list_ok h (d + 1) e.2 c (by omega) h2.1
     rw [show 9 - (d + 1) = 8 - d by omega] at hc
     rw [List.map_cons, List.foldl_cons, listStep, if_pos rfl, hc, if_pos rfl, ih _ _ h5, h1, List.append_assoc]
   rw [key _ _ _ hK, List.nil_append]
theorem listR_ok {m : Nat} {M : SM} {root : Int} {l : List (Int × Int)} {h : Nat} (t : Rooted m M root l h) (h8 : h ≤ 8) : M.list root = (l, 0) := by
 unfold SM.list
 rcases t with ⟨rfl, rfl, _⟩ | t
 ·rw [if_pos rfl]
 ·have hne : root ≠ -1 := fun e => by have := (heldB_int t.held).1; omega
  rw [if_neg hne]
  exact list_ok h 0 root l (by omega) t

theorem rises_len {l : List (Int × Int)} (hr : RisesK l) (hb : ∀ y ∈ l, 0 ≤ y.1 ∧ y.1 < 64) : l.length ≤ 64 := by
 have key : ∀ (l : List (Int × Int)) (c : Int), RisesK l → (∀ y ∈ l, c ≤ y.1 ∧ y.1 < 64) → 0 ≤ c → c ≤ 64 → (l.length : Int) ≤ 64 - c := by
  intro l
  induction l with
  | nil => intro c _ _ _ h; simpa using h
  | cons y l ih =>
   intro c hr hb h0 hc
   have hr' := List.pairwise_cons.1 hr
   have hy := hb y (List.mem_cons_self ..)
   have := ih (y.1 + 1) hr'.2 (fun z hz => ⟨by have := hr'.1 z hz; omega, (hb z (List.mem_cons_of_mem _ hz)).2⟩) (by omega) (by omega)
   rw [List.length_cons]
   omega
 have := key l 0 hr hb (by omega) (by omega)
 omega
end Go.Proofs.Ytdcnogjbmdhgaaa
