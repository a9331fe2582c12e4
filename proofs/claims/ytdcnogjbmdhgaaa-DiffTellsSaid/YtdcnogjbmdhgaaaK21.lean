/-
 slices.Insert at entries: in place: the walk.
-/
import Derived.Test.YtdcnogjbmdhgaaaK17
import Derived.Lib.Overlaps
import Derived.Shelf.RegionOpen
set_option linter.unusedVariables false
set_option linter.unusedSimpArgs false
namespace Go.Proofs.Ytdcnogjbmdhgaaa
open Go.RowKit
set_option maxRecDepth 100000

theorem overlaps_run {w : World} {g gb lb cb o : Nat} {c1 c2 : Array Value} {t1 t2 : TypeId} (hg : w.heap[g]? = some (.cells c1 t1 (0, 0))) (hb : w.heap[gb]? = some (.cells c2 t2 (0, 0))) (hne : g ≠ gb) (h2 : c2.size ≠ 0) :
  (callFunc 68 #[.slice (some ⟨g, 0, none⟩) 1 1, .slice (some ⟨gb, o, none⟩) lb cb]).run Try.prog w = .ok (.value (.bool false)) w := by
 obtain ⟨i, z, hi, hz, hsz, hb2, hzs⟩ := elemEntry.info
 rw [run_callFunc_extern Try.func68 (by kernel_rfl) (by kernel_rfl) (by kernel_rfl) (e := Extern.SlicesOverlaps.overlaps #[36, 36] #[4]) (by kernel_rfl),
  Lib.run_overlaps_apart w 36 4 58 Try.underlying36 2 (fun w => by simp [sizeOf, typeInfo, hi, hsz]) ⟨g, 0, none⟩ ⟨gb, o, none⟩ 1 1 lb cb hne t1 t2 c1.size c2.size (by simp [World.shape?, hg]) (by simp [World.shape?, hb]) h2 (by simp [World.frozen?, hg]) (by simp [World.frozen?, hg])]
 rfl

set_option maxHeartbeats 4000000 in
theorem insertShift {w : World} {base n cap g gb i : Nat} {cur : List Value} {l : List (Int × Int)} {x : Int × Int} (hcur : w.heap[gb]? = some (.cells cur.toArray 58 (0, 0))) (hcl : cur.length = cap * 2) (hc : cur.take (n * 2) = entCells l) (hn : n = l.length) (hb : base ≤ gb) (hcap : cap ≤ maxLen)
  (hg : w.heap[g]? = some (.cells #[.int .i64 x.1, .int .i64 x.2] 58 (0, 0))) (hne : g ≠ gb) (hi : i < n) (hroom : n + 1 ≤ cap) (hlen : n ≤ 1000) :
  Calls Try.prog 49 #[.slice (some ⟨gb, 0, none⟩) n cap, .int .i64 i, .slice (some ⟨g, 0, none⟩) 1 1] w fun e w' => ∃ v, e = .returned v ∧ w'.ownsRow base 58 2 v (n + 1) (entCells (l.take i ++ [x] ++ l.drop i)) ∧ Kept (fun b => b = gb) w w' := by
 have hlc := inplace_cells hn hi hroom hcl hc (x := x)
 have hov := fun o lb cb => overlaps_run (lb := lb) (cb := cb) (o := o) hg hcur hne (by rw [List.size_toArray, hcl]; omega)
 have hDl : (entCells (l.drop i)).length = (n - i) * 2 := by rw [entCells_len, List.length_drop, hn]
 have hXl : (entCells [x]).length = 1 * 2 := entCells_len _
 have hcell : ∀ j v, (entCells (l.drop i))[j]? = some v → w.cell? ⟨gb, i * 2 + j, none⟩ = some v := fun j v hj => by
  have e : entCells l = entCells (l.take i) ++ entCells (l.drop i) := by rw [← entCells_append, List.take_append_drop]
  have hj2 := (List.getElem?_eq_some_iff.1 hj).1
  rw [cell_of_heap hcur, List.getElem?_toArray]
  have h2 : (cur.take (n * 2))[i * 2 + j]? = some v := by
   rw [hc, e, List.getElem?_append_right (by rw [entCells_len, List.length_take]; omega), entCells_len, List.length_take, show i * 2 + j - min i l.length * 2 = j by omega]
   exact hj
  rw [List.getElem?_take] at h2
  split at h2
  ·exact h2
  ·cases h2
 obtain ⟨W1, hW1⟩ : ∃ W1, W1 = w.drew.setRow gb (cur.take ((i + 1) * 2) ++ entCells (l.drop i) ++ cur.drop ((i + 1) * 2 + (entCells (l.drop i)).length)).toArray := ⟨_, rfl⟩
 have hcp1 : ∀ ty dc sc, (Builtin.copy_ #[36, 36] ty #[.slice (some ⟨gb, (i + 1) * 2, none⟩) (n - i) dc, .slice (some ⟨gb, i * 2, none⟩) (n + 1 - i) sc]).run Try.prog w.drew = .ok (goInt (n - i : Nat)) W1 := fun ty dc sc => by
  rw [hW1]
  have := run_copy_ents w.drew ty gb ((i + 1) * 2) (n - i) dc ⟨gb, i * 2, none⟩ (n + 1 - i) sc cur.toArray 58 (entCells (l.drop i)) (n - i) hcur (by simp only [Nat.min_def]; split <;> omega) hDl (fun j v hj => by rw [addr_add]; exact hcell j v hj) (by rw [List.size_toArray]; omega) (entCells_one _)
  exact this
 have hc1 : W1.heap[gb]? = some (.cells (splice cur ((i + 1) * 2) (entCells (l.drop i))).toArray 58 (0, 0)) := by
  rw [hW1]
  simpa [splice] using setRow_heap w.drew gb cur.toArray (cur.take ((i + 1) * 2) ++ entCells (l.drop i) ++ cur.drop ((i + 1) * 2 + (entCells (l.drop i)).length)).toArray 58 (0, 0) hcur
 have hk1 : Kept (fun b => b = gb) w W1 := by
  rw [hW1]
  exact (Kept.refl (fun b => b = gb) w).drew.setRow rfl _
 have hg1 : W1.heap[g]? = some (.cells #[.int .i64 x.1, .int .i64 x.2] 58 (0, 0)) := hk1.get hg hne
 obtain ⟨c1, hcs1⟩ : ∃ c1, splice cur ((i + 1) * 2) (entCells (l.drop i)) = c1 := ⟨_, rfl⟩
 rw [hcs1] at hc1 hlc
 have hcl1 : c1.length = cap * 2 := by
  rw [← hcs1]
  unfold splice
  simp only [List.length_append, List.length_take, List.length_drop]
  omega
 obtain ⟨W2, hW2⟩ : ∃ W2, W2 = W1.setRow gb (c1.take (i * 2) ++ entCells [x] ++ c1.drop (i * 2 + (entCells [x]).length)).toArray := ⟨_, rfl⟩
 have hcp2 : ∀ ty dc, (Builtin.copy_ #[36, 36] ty #[.slice (some ⟨gb, i * 2, none⟩) (n + 1 - i) dc, .slice (some ⟨g, 0, none⟩) 1 1]).run Try.prog W1 = .ok (goInt (1 : Nat)) W2 := fun ty dc => by
  rw [hW2]
  exact run_copy_ents W1 ty gb (i * 2) (n + 1 - i) dc ⟨g, 0, none⟩ 1 1 c1.toArray 58 (entCells [x]) 1 hc1 (by simp only [Nat.min_def]; split <;> omega) hXl (fun j v hj => by
   rw [addr_add, Nat.zero_add, cell_of_heap hg1]
   simpa [entCells] using hj) (by rw [List.size_toArray]; omega) (entCells_one _)
 have hc2 : W2.heap[gb]? = some (.cells (splice c1 (i * 2) (entCells [x])).toArray 58 (0, 0)) := by
  rw [hW2]
  simpa [splice] using setRow_heap W1 gb c1.toArray (c1.take (i * 2) ++ entCells [x] ++ c1.drop (i * 2 + (entCells [x]).length)).toArray 58 (0, 0) hc1
 have hk2 : Hid (Kept (fun b => b = gb) w W2) := h_ (by
  rw [hW2]
  exact hk1.setRow rfl _)
 have hown : Hid (W2.ownsRow base 58 2 (.slice (some ⟨gb, 0, none⟩) (n + 1) cap) (n + 1) (entCells (l.take i ++ [x] ++ l.drop i))) := h_ (by
  refine ⟨by rw [entCells_len]; simp only [List.length_append, List.length_take, List.length_drop, List.length_singleton]; omega, .inr ⟨gb, cap, (splice c1 (i * 2) (entCells [x])).toArray, rfl, hb, hc2, hroom, hcap, by rw [List.size_toArray, hlc.2], ?_⟩⟩
  rw [← hlc.1])
 clear hlc hcur hcl hc hg hDl hXl hcell hW1 hc1 hk1 hg1 hcs1 hcl1 hW2 hc2 hb
 unfold maxLen at hcap
 have hin : i ≤ n := by omega
 have hw1 : IntKind.i64.wrap ((i : Int) + 1) = (i : Int) + 1 := by rw [IntKind.wrap_i64]; omega
 have htn : ((i : Int) + 1).toNat = i + 1 := by omega
 have hz2 : ¬ ((i : Int) = (n : Int)) := by omega
 have hb2 : ¬ (cap = i + 1) := by omega
 have hb4 : ¬ (cap = i) := by omega
 have hb3 : (i : Int) ≤ (n : Int) + 1 := by omega
 have hb1 : (0 : Int) ≤ (i : Int) + 1 := by omega
 clear hn
 go_enter Try.func49, Try.ntmps49
 go_wp2_with (simp only [hov])
 go_region_law (refine step_copy_known w.drew rfl _ _ 36 36 rfl _ _ (by simp [Act.eval, Act.put]) (by simp [Act.eval, Act.put]) (hcp1 _ _ _) ?_)
 go_wp2_with (at_builtin; refine wpList_copy_known W1 rfl _ _ 36 36 rfl _ _ rfl rfl (hcp2 _ _) ?_)
 go_ret
 exact ⟨_, rfl, hown.out, hk2.out⟩
end Go.Proofs.Ytdcnogjbmdhgaaa
