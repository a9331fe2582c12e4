/-
  The pool's functions that turn all states, or hand out whole pools or counts.
-/
import Derived.Test.YtgajongbbaccjaaPoolB
import Derived.Test.YtgajongbbaccjaaAgg
namespace Go.Proofs.Ytgajongbbaccjaa
open Go.RowKit
set_option maxRecDepth 100000

def PM.stVals (p : PM) : List Value := (List.range 240).map fun i => Value.int .u8 (p.st i)
def PM.cntVals (p : PM) : List Value := (List.range 240).map fun i => Value.int .u8 (p.cnt i)
theorem PM.stVals_get (p : PM) (i : Nat) (hi : i < 240) : p.stVals[i]? = some (.int .u8 (p.st i)) := by simp [PM.stVals, hi]
theorem PM.cntVals_get (p : PM) (i : Nat) (hi : i < 240) : p.cntVals[i]? = some (.int .u8 (p.cnt i)) := by simp [PM.cntVals, hi]
theorem PoolAt.c_sts {w : World} {b : Nat} {p : PM} (h : PoolAt w b p) : ∀ j v, p.stVals[j]? = some v → w.cell? ⟨b, 241 + j, none⟩ = some v := by
  intro j v hv
  have hj : j < 240 := by have := (List.getElem?_eq_some_iff.1 hv).1; simpa [PM.stVals] using this
  rw [p.stVals_get j hj] at hv
  rw [h.c_st j hj, hv]
theorem PoolAt.c_cnts {w : World} {b : Nat} {p : PM} (h : PoolAt w b p) : ∀ j v, p.cntVals[j]? = some v → w.cell? ⟨b, 1 + j, none⟩ = some v := by
  intro j v hv
  have hj : j < 240 := by have := (List.getElem?_eq_some_iff.1 hv).1; simpa [PM.cntVals] using this
  rw [p.cntVals_get j hj] at hv
  rw [h.c_cnt j hj, hv]

def PM.turnTo (p : PM) (fr to n : Nat) : PM := { p with st := fun j => if j < n ∧ p.st j = fr then to else p.st j }
def PM.turned (p : PM) (fr to : Nat) : PM := { p with st := fun j => if p.st j = fr then to else p.st j }
theorem PM.turnTo_zero (p : PM) (fr to : Nat) : p.turnTo fr to 0 = p := by
  cases p; simp [PM.turnTo]
theorem PM.turnTo_yes {p : PM} {fr to k : Nat} (h : p.st k = fr) : (p.turnTo fr to k).setSt k to = p.turnTo fr to (k + 1) := by
  simp only [PM.turnTo, PM.setSt, PM.mk.injEq, true_and]
  funext j
  by_cases hj : j = k
  · subst hj; simp [h]
  · simp only [hj, if_false]
    by_cases h2 : j < k <;> simp [h2, Nat.lt_succ_iff, show (j ≤ k) = (j < k) by rw [eq_iff_iff]; omega]
theorem PM.turnTo_no {p : PM} {fr to k : Nat} (h : p.st k ≠ fr) : p.turnTo fr to k = p.turnTo fr to (k + 1) := by
  simp only [PM.turnTo, PM.mk.injEq, true_and]
  funext j
  by_cases hj : j = k
  · subst hj; simp [h]
  · simp [show (j < k + 1) = (j < k) by rw [eq_iff_iff]; omega]
theorem PoolAt.turnAll {w : World} {b : Nat} {p : PM} {fr to : Nat} (h : PoolAt w b (p.turnTo fr to 240)) (hto : to ≤ 4) (h0 : ∀ i, p.st i ≤ 4) : PoolAt w b (p.turned fr to) := by
  refine ⟨?_, h.hsize, h.hcnt, fun i => ?_⟩
  · rw [h.heap]
    congr 2
    unfold PM.cells
    congr 3
    apply List.map_congr_left
    intro i hi
    have : i < 240 := by simpa using hi
    simp [PM.turnTo, PM.turned, this]
  · unfold PM.turned; dsimp only; split
    · exact hto
    · exact h0 i

theorem turn_any {b : Nat} {p : PM} {w : World} (hp : PoolAt w b p) (fr to : Nat) (hto : to ≤ 4) :
    Calls Try.prog 84 #[.pointer (some ⟨b, 0, none⟩), .int .u8 fr, .int .u8 to] w fun e w' => e = .returned (.tuple #[]) ∧ PoolTo b (p.turned fr to) w w' := by
  have hc := Lib.hid hp.c_sts
  have hg := Lib.hid p.stVals_get
  have hk0 := p.turnTo_zero fr to
  go_enter Try.func84, Try.ntmps84
  go_wp2_with (refine wpList_load_agg 128 rfl rfl rfl _ Try.underlying128 rfl p.stVals (by kernel_rfl) hc.out ?_)
  go_loopw [12] (fun i wr => ∃ k : Nat, k ≤ 240 ∧ i = .int .i64 k ∧ PoolTo b (p.turnTo fr to k) w wr) (fun i _ => 240 - (intOf i).toNat)
  case atStart => exact ⟨0, by omega, rfl, by rw [hk0]; exact hp, Kept.refl _ _⟩
  case round =>
    obtain ⟨k, hk, rfl, hpk, hkk⟩ := hrel
    by_cases hlt : k < 240
    · have hgk := hg.out k hlt
      have hn : (k : Int) < 240 := by omega
      have hz := hpk.free (241 + k)
      have hc1 := hpk.c_st k hlt
      have hix := fun wx => run_index_agg (P := Try.prog) Try.underlying128 Try.underlying127 rfl (by kernel_rfl) p.stVals hlt hgk .i64 wx
      by_cases h : p.st k = fr
      · have hb : ((p.st k : Int) == (fr : Int)) = true := by simp [h]
        have h' := Lib.hid h; clear h hgk
        go_wp2_with fail
        go_roundw
        case rel =>
          refine ⟨k + 1, by omega, by go_num, ?_, ?_⟩
          · rw [← PM.turnTo_yes h'.out]; exact hpk.setSt k to hlt hto
          · exact hkk.trans kept_set
        case measure => simp [intOf]; omega
      · have hb : ((p.st k : Int) == (fr : Int)) = false := by simp; omega
        have h' := Lib.hid h; clear h hgk
        go_wp2_with fail
        go_roundw
        case rel =>
          refine ⟨k + 1, by omega, by go_num, ?_, hkk⟩
          · rw [← PM.turnTo_no h'.out]; exact hpk
        case measure => simp [intOf]; omega
    · obtain rfl : k = 240 := by omega
      go_wp2_with fail
      go_end0
      exact ⟨rfl, hpk.turnAll hto hp.hst, hkk⟩

theorem tidy_any {b : Nat} {p : PM} {w : World} (hp : PoolAt w b p) :
    Calls Try.prog 36 #[.pointer (some ⟨b, 0, none⟩)] w fun e w' => e = .returned (.tuple #[]) ∧ PoolTo b (p.turned 3 0) w w' := by
  go_enter Try.func36, Try.ntmps36
  go_wp2_with fail
  refine (turn_any hp 3 0 (by omega)).mono ?_
  rintro e w' ⟨rfl, hp'⟩
  go_wp2_with fail
  go_end0
  exact ⟨rfl, hp'⟩

/-- A copy of a pool in a new block. -/
structure PoolNew (b : Nat) (p : PM) (w w' : World) : Prop where
  new : w.heap.size ≤ b
  pool : PoolAt w' b p
  kept : Kept (fun _ => False) w w'

theorem PM.cells_list (p : PM) : p.cells.toList.length = 481 := by simp [PM.cells]
theorem PoolAt.c_all {w : World} {b : Nat} {p : PM} (h : PoolAt w b p) : ∀ j v, p.cells.toList[j]? = some v → w.cell? ⟨b, 0 + j, none⟩ = some v := by
  intro j v hv
  rw [cell_of_heap h.heap, Nat.zero_add]
  simpa using hv
def poolZero : Array Value := (Value.int .i64 0 :: List.replicate 480 (.int .u8 0)).toArray
theorem poolZero_size : poolZero.size = 481 := by simp [poolZero]
theorem pool_zero : (Try.prog.info? 130).map (·.zero) = some (some (.agg poolZero)) := by kernel_rfl
theorem pool_cells : (Try.prog.info? 130).map (·.size) = some 481 := by kernel_rfl
theorem PM.cells_one (p : PM) : ∀ v ∈ p.cells.toList, v.oneCell' = true := by
  intro v hv
  simp only [PM.cells, List.mem_cons, List.mem_append, List.mem_map] at hv
  rcases hv with rfl | ⟨i, _, rfl⟩ | ⟨i, _, rfl⟩ <;> rfl

theorem clone_any {b : Nat} {p : PM} {w : World} (hp : PoolAt w b p) :
    Calls Try.prog 34 #[.pointer (some ⟨b, 0, none⟩)] w fun e w' => ∃ c, e = .returned (.pointer (some ⟨c, 0, none⟩)) ∧ PoolNew c p w w' := by
  have hc := Lib.hid hp.c_all
  go_enter Try.func34, Try.ntmps34
  go_wp2_with (first | (refine wpList_load_agg 130 rfl rfl rfl _ Try.underlying130 rfl p.cells.toList (by rw [p.cells_list, pool_cells]) hc.out ?_) | (refine wpList_alloc_as 130 rfl rfl poolZero pool_zero ?_) | (refine wpList_store_whole 130 rfl rfl rfl p.cells.toList rfl (by rw [p.cells_list, pool_cells]) 130 poolZero (heap_alloc_new w _) (by rw [p.cells_list, poolZero_size]) p.cells_one ?_))
  go_ret
  refine ⟨_, rfl, Nat.le_refl _, ⟨?_, hp.hsize, hp.hcnt, hp.hst⟩, ?_⟩
  · rw [setRow_heap _ _ poolZero _ 130 (0, 0) (heap_alloc_new w _)]
  · exact ((Kept.refl _ _).alloc _).setRowNew (Nat.le_refl _) _

theorem mark_any {b : Nat} {p : PM} {w : World} (hp : PoolAt w b p) :
    Calls Try.prog 32 #[.pointer (some ⟨b, 0, none⟩)] w fun e w' => ∃ c, e = .returned (.pointer (some ⟨c, 0, none⟩)) ∧ w.heap.size ≤ c ∧ PoolAt w' c (p.turned 1 2) ∧ PoolTo b (p.turned 1 2) w w' := by
  go_enter Try.func32, Try.ntmps32
  go_wp2_with fail
  refine (turn_any hp 1 2 (by omega)).mono ?_
  rintro e w1 ⟨rfl, hp1⟩
  go_wp2_with fail
  refine (clone_any hp1.pool).mono ?_
  rintro e w2 ⟨c, rfl, hp2⟩
  go_wp2_with fail
  go_ret
  have hlt : b < w1.heap.size := lt_of_heap hp1.pool.heap
  refine ⟨c, rfl, Nat.le_trans hp1.kept.size hp2.new, hp2.pool, hp1.pool.kept hp2.kept id, ?_⟩
  exact hp1.kept.trans (hp2.kept.mono (fun _ h => h.elim))

def PM.committed (p : PM) : PM := { p with st := fun _ => 0 }
theorem PM.cells_eq (p : PM) : p.cells.toList = .int .i64 p.size :: (p.cntVals ++ p.stVals) := rfl
theorem PM.cntVals_len (p : PM) : p.cntVals.length = 240 := by simp [PM.cntVals]
theorem PM.stVals_len (p : PM) : p.stVals.length = 240 := by simp [PM.stVals]
theorem commit_any {b : Nat} {p : PM} {w : World} (hp : PoolAt w b p) :
    Calls Try.prog 29 #[.pointer (some ⟨b, 0, none⟩)] w fun e w' => e = .returned (.tuple #[]) ∧ PoolTo b p.committed w w' := by
  have hg := Lib.hid hp.heap
  go_enter Try.func29, Try.ntmps29
  go_wp2_with (refine wpList_clear 132 rfl rfl 127 Try.underlying132 (.int .u8 0) (by kernel_rfl) rfl rfl rfl 130 p.cells hg.out (by rw [p.cells_size]; omega) (by omega) ?_)
  go_end0
  refine ⟨rfl, ⟨?_, hp.hsize, hp.hcnt, fun _ => by show 0 ≤ 4; omega⟩, (Kept.refl _ _).setRow (S := fun k => k = b) rfl _⟩
  rw [setRow_heap _ _ _ _ _ _ hp.heap]
  congr 2

def cntZero : Array Value := (List.replicate 240 (.int .u8 0)).toArray
theorem cntZero_size : cntZero.size = 240 := by simp [cntZero]
theorem cnt_zero : (Try.prog.info? 41).map (·.zero) = some (some (.agg cntZero)) := by kernel_rfl
theorem cnt_cells : (Try.prog.info? 41).map (·.size) = some 240 := by kernel_rfl
theorem PM.cntVals_one (p : PM) : ∀ v ∈ p.cntVals, v.oneCell' = true := by
  intro v hv
  simp only [PM.cntVals, List.mem_map] at hv
  obtain ⟨i, _, rfl⟩ := hv
  rfl
theorem counts_any {b : Nat} {p : PM} {w : World} (hp : PoolAt w b p) :
    Calls Try.prog 33 #[.pointer (some ⟨b, 0, none⟩)] w fun e w' => e = .returned (.agg p.cntVals.toArray) ∧ Kept (fun _ => False) w w' := by
  have hc := Lib.hid hp.c_cnts
  have hlt : b < w.heap.size := lt_of_heap hp.heap
  have hn : b ≠ w.heap.size := by omega
  go_enter Try.func33, Try.ntmps33
  go_wp2_with (first | (refine wpList_alloc_as 41 rfl rfl cntZero cnt_zero ?_) | (refine wpList_load_agg 41 rfl rfl rfl _ Try.underlying41 rfl p.cntVals (by rw [p.cntVals_len, cnt_cells]) (fun j v hv => by rw [World.cell?_alloc_lt _ _ _ hlt]; exact hc.out j v hv) ?_) | (refine wpList_store_whole 41 rfl rfl rfl p.cntVals rfl (by rw [p.cntVals_len, cnt_cells]) 41 cntZero (heap_alloc_new w _) (by rw [p.cntVals_len, cntZero_size]) p.cntVals_one ?_))
  refine bodyPost_ret (results_cell_row rfl _ _ w.heap.size 41 p.cntVals.toArray (0, 0) _ rfl (setRow_heap _ _ cntZero _ 41 (0, 0) (heap_alloc_new w _)) Try.underlying41 rfl (by simp only [List.size_toArray]; rw [p.cntVals_len, cnt_cells])) rfl ?_
  exact ⟨rfl, ((Kept.refl _ _).alloc _).setRowNew (Nat.le_refl _) _⟩

/-- The size that a new pool gets. -/
def clampN (n : Int) : Nat := (max 0 (min n 240)).toNat
def PM.fresh0 (n : Nat) : PM := { size := n, cnt := fun _ => 0, st := fun _ => 0 }
theorem fresh_cells (k : Nat) : Try.zeroCells130.setIfInBounds 0 (.int .i64 k) = (PM.fresh0 k).cells := by kernel_rfl
theorem PoolNew.fresh0 {w : World} {k : Nat} {x : Int} (hk : k ≤ 240) (hx : (k : Int) = x) :
    PoolNew w.heap.size (PM.fresh0 k) w (w.alloc (.cells (Try.zeroCells130.setIfInBounds 0 (.int .i64 x)) 130)) := by
  subst hx
  refine ⟨Nat.le_refl _, ⟨?_, hk, fun _ => Nat.zero_le _, fun _ => Nat.zero_le _⟩, (Kept.refl _ _).alloc _⟩
  rw [heap_alloc_new, fresh_cells]
theorem new_any (n : Int) (w : World) :
    Calls Try.prog 22 #[.int .i64 n] w fun e w' => ∃ c, e = .returned (.pointer (some ⟨c, 0, none⟩)) ∧ PoolNew c (PM.fresh0 (clampN n)) w w' := by
  go_enter Try.func22, Try.ntmps22
  go_wp2_with fail
  all_goals go_ret
  all_goals exact ⟨_, rfl, PoolNew.fresh0 (by unfold clampN; omega) (by unfold clampN; omega)⟩

/-- The pool that is loaded. -/
def PM.loaded (n : Nat) (c : Nat → Nat) : PM := { size := n, cnt := c, st := fun _ => 0 }
def cntList (c : Nat → Nat) : List Value := (List.range 240).map fun i => Value.int .u8 (c i)
theorem low_addr (g m : Nat) : ∃ o, (if 240 = m then (⟨g, 0, none⟩ : Addr) else ⟨g, 0 + m, none⟩) = ⟨g, o, none⟩ ∧ (m < 240 → o = m) := by
  by_cases h : 240 = m
  · exact ⟨0, by rw [if_pos h], by omega⟩
  · exact ⟨m, by rw [if_neg h, Nat.zero_add], fun _ => rfl⟩
theorem cntList_get (c : Nat → Nat) (i : Nat) (hi : i < 240) : (cntList c)[i]? = some (.int .u8 (c i)) := by simp [cntList, hi]
theorem cntList_len (c : Nat → Nat) : (cntList c).length = 240 := by simp [cntList]
theorem cntList_one (c : Nat → Nat) : ∀ v ∈ cntList c, v.oneCell' = true := by
  intro v hv
  simp only [cntList, List.mem_map] at hv
  obtain ⟨i, _, rfl⟩ := hv
  rfl
theorem cells_loaded (n : Nat) (c : Nat → Nat) :
    ((PM.fresh0 n).cells.toList.take 1 ++ (cntList c ++ (PM.fresh0 n).cells.toList.drop (1 + (cntList c).length))).toArray = (PM.loaded n c).cells := by
  rw [cntList_len]
  apply Array.ext'
  rw [PM.cells_eq, PM.cells_eq]
  simp only [List.take_succ_cons, List.take_zero, List.cons_append, List.nil_append]
  rw [show 1 + 240 = 240 + 1 by rfl, List.drop_succ_cons, List.drop_left' (PM.cntVals_len _)]
  rfl
theorem load_ok (n : Int) (c : Nat → Nat) (w : World) (hc : ∀ i, c i ≤ 255) (hz : ∀ i, clampN n ≤ i → i < 240 → c i = 0) :
    Calls Try.prog 25 #[.int .i64 n, .agg (cntList c).toArray] w fun e w' =>
      ∃ b, e = .returned (.tuple #[.pointer (some ⟨b, 0, none⟩), .int .i64 0]) ∧ PoolNew b (PM.loaded (clampN n) c) w w' := by
  have hz' := Lib.hid hz; clear hz
  have hle : clampN n ≤ 240 := by unfold clampN; omega
  have hsl := fun wx => run_sliceAt_low (P := Try.prog) Try.underlying41 (by kernel_rfl) w.heap.size 0 hle wx
  obtain ⟨o, ho, ho'⟩ := low_addr w.heap.size (clampN n)
  rw [ho] at hsl
  clear ho
  obtain ⟨L, hL⟩ : ∃ L, 240 - clampN n = L := ⟨_, rfl⟩
  rw [hL] at hsl
  have hLL : clampN n + L = 240 := by omega
  have hLL' := Lib.hid hLL
  clear hL hLL
  have hL240 : L ≤ 240 := by have := hLL'.out; omega
  go_enter Try.func25, Try.ntmps25
  go_wp2_with fail
  refine (new_any _ _).mono ?_
  rintro e w1 ⟨b, rfl, hn⟩
  have h0 := hn.pool.c_size
  have hsz := hn.pool.hsize
  have e1 : (PM.fresh0 (clampN n)).size = clampN n := rfl
  rw [e1] at h0 hsz
  have hblk : w1.heap[w.heap.size]? = some (.cells (cntList c).toArray 41 (0, 0)) :=
    hn.kept.get (heap_alloc_new w _) id
  have hcl : ∀ j, j < 240 → w1.cell? ⟨w.heap.size, j, none⟩ = some (.int .u8 (c j)) := fun j hj => by
    rw [cell_of_heap hblk]; simpa using cntList_get c j hj
  have hcl' := Lib.hid hcl; clear hcl
  go_wp2_with fail
  go_loop [17] (fun i => ∃ k : Nat, k ≤ L ∧ i = .int .i64 k) (fun i => L - (intOf i).toNat)
  case atStart => exact ⟨0, Nat.zero_le _, rfl⟩
  case round =>
    obtain ⟨k, hk, rfl⟩ := hrel
    by_cases hlt : k < L
    · have hkk : o + k = clampN n + k := by rw [ho' (by have := hLL'.out; omega)]
      have hcell : w1.cell? ⟨w.heap.size, o + k, none⟩ = some (.int .u8 0) := by
        rw [hkk, hcl'.out _ (by have := hLL'.out; omega), hz'.out _ (by omega) (by have := hLL'.out; omega)]; rfl
      clear hkk
      go_wp2_with fail
      go_round
      case rel => exact ⟨k + 1, by omega, by go_num⟩
      case measure => simp [intOf]; omega
    · go_wp2_with (first | (refine wpList_load_agg 41 rfl rfl rfl _ Try.underlying41 rfl (cntList c) (by rw [cntList_len, cnt_cells]) (fun j v hv => by rw [cell_of_heap hblk, Nat.zero_add]; simpa using hv) ?_) | (refine wpList_store_agg 41 rfl rfl rfl (cntList c) rfl (by rw [cntList_len, cnt_cells]) 130 _ hn.pool.heap (by rw [cntList_len, PM.cells_size]; omega) (cntList_one c) ?_))
      go_ret2
      refine ⟨b, rfl, ?_, ⟨?_, hn.pool.hsize, hc, fun _ => Nat.zero_le 4⟩, ?_⟩
      · have := hn.new; simp at this; omega
      · rw [setRow_heap _ _ _ _ _ _ hn.pool.heap, cells_loaded]
      · have hnn := hn.new
        simp at hnn
        exact (((Kept.refl _ _).alloc _).trans hn.kept).setRowNew (by omega) _
theorem load_bad (n : Int) (c : Nat → Nat) (w : World) (i : Nat) (hi : clampN n ≤ i) (hi2 : i < 240) (hci : c i ≠ 0) :
    Calls Try.prog 25 #[.int .i64 n, .agg (cntList c).toArray] w fun e w' =>
      e = .returned (.tuple #[.pointer none, .int .i64 61]) ∧ Kept (fun _ => False) w w' := by
  have hle : clampN n ≤ 240 := by unfold clampN; omega
  have hlt0 : clampN n < 240 := by omega
  have hne : ¬ 240 = clampN n := by omega
  have hsl := fun wx => run_sliceAt_low (P := Try.prog) Try.underlying41 (by kernel_rfl) w.heap.size 0 hle wx
  rw [if_neg hne] at hsl
  clear hne
  obtain ⟨L, hL⟩ : ∃ L, 240 - clampN n = L := ⟨_, rfl⟩
  rw [hL] at hsl
  have hLL : clampN n + L = 240 := by omega
  have hLL' := Lib.hid hLL
  clear hL hLL
  obtain ⟨q, hq⟩ : ∃ q, i = clampN n + q := ⟨i - clampN n, by omega⟩
  have hqL : q < L := by have := hLL'.out; omega
  have hci' : 0 < c (clampN n + q) := by rw [← hq]; omega
  clear hci hi hi2 hq
  have hL240 : L ≤ 240 := by have := hLL'.out; omega
  go_enter Try.func25, Try.ntmps25
  go_wp2_with fail
  refine (new_any _ _).mono ?_
  rintro e w1 ⟨b, rfl, hn⟩
  have h0 := hn.pool.c_size
  have hsz := hn.pool.hsize
  have e1 : (PM.fresh0 (clampN n)).size = clampN n := rfl
  rw [e1] at h0 hsz
  have hblk : w1.heap[w.heap.size]? = some (.cells (cntList c).toArray 41 (0, 0)) :=
    hn.kept.get (heap_alloc_new w _) id
  have hcl : ∀ j, j < 240 → w1.cell? ⟨w.heap.size, j, none⟩ = some (.int .u8 (c j)) := fun j hj => by
    rw [cell_of_heap hblk]; simpa using cntList_get c j hj
  have hcl' := Lib.hid hcl; clear hcl
  go_wp2_with fail
  go_loop [17] (fun i => ∃ k : Nat, k ≤ q ∧ i = .int .i64 k) (fun i => L - (intOf i).toNat)
  case atStart => exact ⟨0, Nat.zero_le _, rfl⟩
  case round =>
    obtain ⟨k, hk, rfl⟩ := hrel
    have hkL : k < L := by omega
    have hcell : w1.cell? ⟨w.heap.size, clampN n + k, none⟩ = some (.int .u8 (c (clampN n + k))) := hcl'.out _ (by have := hLL'.out; omega)
    have hbase := ((Kept.refl (fun _ => False) w).alloc (.cells (cntList c).toArray 41 (0, 0))).trans hn.kept
    by_cases hcz : c (clampN n + k) = 0
    · rw [hcz] at hcell
      have hkq : k < q := by
        rcases Nat.lt_or_ge k q with h | h
        · exact h
        · obtain rfl : k = q := by omega
          omega
      clear hcz
      go_wp2_with fail
      go_round
      case rel => exact ⟨k + 1, by omega, by go_num⟩
      case measure => simp [intOf]; omega
    · have hcp : 0 < c (clampN n + k) := by omega
      go_wp2_with fail
      go_ret2
      exact ⟨rfl, hbase⟩
end Go.Proofs.Ytgajongbbaccjaa
