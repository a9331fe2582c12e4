/-
  The document's pool: New, Load, Commit, Mark, Tidy.
-/
import Derived.Test.YtgajongbbaccjaaRefB
namespace Go.Proofs.Ytgajongbbaccjaa
open Go.RowKit
set_option maxRecDepth 100000

theorem owns_val {w : World} {base : Nat} {e : TypeId} {sz : Nat} {v : Value} {n : Nat} {xs : List Value} (h : w.ownsRow base e sz v n xs) : ∃ A cap, v = .slice A n cap := by
  rcases h.2 with ⟨rfl, rfl⟩ | ⟨g, cap, cur, rfl, _⟩
  · exact ⟨_, _, rfl⟩
  · exact ⟨_, _, rfl⟩
theorem new_cells (w : World) (cs : List Value) (e : TypeId) (k : Nat) (hk : k = w.heap.size) : ∀ j u, cs[j]? = some u → (w.alloc (.cells cs.toArray e)).cell? ((⟨k, 0, none⟩ : Addr).add j) = some u := by
  intro j u hj
  subst hk
  rw [addr_add, Nat.zero_add, cell_of_heap (heap_alloc_new w _)]
  simpa using hj

theorem refNew_any (size : Int) (w : World) :
    Calls Try.prog 85 #[.int .i64 size] w fun e w' => ∃ v, e = .returned v ∧ w'.ownsRow w.heap.size 136 5 v (clampN size) (leaves (PM.fresh0 (clampN size)) (clampN size)) ∧ Kept (fun _ => False) w w' := by
  obtain ⟨i0, hi0, hz0, hz1, hz2⟩ := info_parts leafInfo
  have hcl : (clampN size : Int) = max 0 (min size 240) := by unfold clampN; omega
  have hc240 : clampN size ≤ 240 := by omega
  have hcl' := Lib.hid hcl; clear hcl
  obtain ⟨m, hm⟩ : ∃ m, m = clampN size := ⟨_, rfl⟩
  rw [← hm] at hc240 hcl' ⊢
  clear hm
  go_enter Try.func85, Try.ntmps85
  go_wp2_with fail
  go_loopw [3] (fun v wr => ∃ k : Nat, k ≤ m ∧ wr.ownsRow w.heap.size 136 5 v k (leaves (PM.fresh0 m) k) ∧ Kept (fun _ => False) w wr) (fun v _ => m - (match v with | .slice _ n _ => n | _ => 0))
  case atStart => exact ⟨0, Nat.zero_le _, owns_empty _ _ _ _ _ (Nat.le_refl _) rfl, (Kept.refl _ _).alloc _⟩
  case round =>
    obtain ⟨k, hk, hown, hkk⟩ := hrel
    obtain ⟨A, cap, rfl⟩ := owns_val hown
    have hwsz := hkk.size
    have hcl2 := hcl'.out
    by_cases hlt : k < m
    · have h1 : (k : Int) < size := by omega
      have h2 : (k : Int) < 240 := by omega
      clear hcl2
      have hkk' := Lib.hid hkk; clear hkk
      have hsucc : Hid (leaves (PM.fresh0 m) (k + 1) = leaves (PM.fresh0 m) k ++ [.int .i64 0, .bool false, .bool false, .bool false, .bool false]) := flat_succ _ _
      go_wp2_with (at_builtin; refine wpList_append_own _ rfl _ _ 46 rfl w.heap.size 136 i0 _ 5 16 Try.underlying46 hi0 hz0 hz1 hz2 rfl (by omega) _ k _ rfl (hown.alloc _) ⟨wr.heap.size, 0, none⟩ 1 1 [.int .i64 0, .bool false, .bool false, .bool false, .bool false] rfl rfl (new_cells wr _ _ _ rfl) (by simp [Value.oneCell']) (by simp [maxLen]; omega) (by omega) (by simp; omega) ?_; intro v' w1 hown1 hgrow _; rw [← hsucc.out] at hown1; have hk1 := (hkk'.out.alloc _).grown hgrow (fun k hk => .inr (ownsRow.block_ge hown _ hk)); obtain ⟨A', cap', rfl⟩ := owns_val hown1)
      go_roundw
      case rel => exact ⟨k + 1, by omega, hown1, hk1⟩
      case measure => simp; omega
    · obtain rfl : k = m := by omega
      clear hlt hk
      by_cases h1 : (k : Int) < size
      · have h2 : (k : Int) = 240 := by omega
        obtain rfl : k = 240 := by omega
        clear h2 hcl2
        go_wp2_with fail
        go_ret
        exact ⟨_, rfl, hown, hkk⟩
      · clear hcl2
        go_wp2_with fail
        go_ret
        exact ⟨_, rfl, hown, hkk⟩

theorem refCommit_any {A : Option Addr} {n cap : Nat} {p : PM} {w : World} (h : LeavesAt w (.slice A n cap) p) (hs : p.size ≤ 240) :
    Calls Try.prog 41 #[.slice A n cap] w fun e w' => ∃ v, e = .returned v ∧ LeavesNew v (p.committed) w w' := by
  obtain rfl := h.size
  obtain ⟨i0, hi0, hz0, hz1, hz2⟩ := info_parts leafInfo
  have h' := Lib.hid h; clear h
  go_enter Try.func41, Try.ntmps41
  go_wp2_with fail
  go_loopw [3, 9] (fun v i wr => ∃ k : Nat, k ≤ p.size ∧ i = .int .i64 k ∧ wr.ownsRow w.heap.size 136 5 v k (leaves (p.committed) k) ∧ Kept (fun _ => False) w wr) (fun _ i _ => p.size - (intOf i).toNat)
  case atStart => exact ⟨0, Nat.zero_le _, rfl, owns_empty _ _ _ _ _ (Nat.le_refl _) rfl, (Kept.refl _ _).alloc _⟩
  case round =>
    obtain ⟨k, hk, rfl, hown, hkk⟩ := hrel
    obtain ⟨A', cap', rfl⟩ := owns_val hown
    have hwsz := hkk.size
    by_cases hlt : k < p.size
    · obtain ⟨b, off, rfl, hbl, c0, c1, c2, c3, c4⟩ := LeavesAt.cells (h'.out.fresh hkk) hlt
      have hkk' := Lib.hid hkk; clear hkk
      have hsucc := flat_succ (leafCells (p.committed)) k
      rw [show leafCells p.committed k = [.int .i64 (p.cnt k), .bool false, .bool false, .bool false, .bool false] from rfl] at hsucc
      have hsucc' := Lib.hid hsucc; clear hsucc
      go_wp2_with (at_builtin; refine wpList_append_own _ rfl _ _ 46 rfl w.heap.size 136 i0 _ 5 16 Try.underlying46 hi0 hz0 hz1 hz2 rfl (by omega) _ k _ rfl ((hown.alloc _).alloc _) ⟨wr.heap.size + 1, 0, none⟩ 1 1 [.int .i64 (p.cnt k), .bool false, .bool false, .bool false, .bool false] rfl rfl (new_cells (wr.alloc _) _ _ _ (by simp)) (by simp [Value.oneCell']) (by simp [maxLen]; omega) (by omega) (by simp; omega) ?_; intro v' w1 hown1 hgrow _; rw [show leaves (p.committed) k ++ [.int .i64 (p.cnt k), .bool false, .bool false, .bool false, .bool false] = leaves (p.committed) (k + 1) from hsucc'.out.symm] at hown1; have hk1 := ((hkk'.out.alloc _).alloc _).grown hgrow (fun k hk => .inr (ownsRow.block_ge hown _ hk)); obtain ⟨A'', cap'', rfl⟩ := owns_val hown1)
      go_roundw
      case rel => exact ⟨k + 1, by omega, by go_num, hown1, hk1⟩
      case measure => simp [intOf]; omega
    · obtain rfl : k = p.size := by omega
      go_wp2_with fail
      go_ret
      exact ⟨_, rfl, SliceAt.of_owns hown, fun b hb => hown.lt b hb, hkk⟩

theorem refMark_any {A : Option Addr} {n cap : Nat} {p : PM} {w : World} (h : LeavesAt w (.slice A n cap) p) (hs : p.size ≤ 240) :
    Calls Try.prog 42 #[.slice A n cap] w fun e w' => ∃ v, e = .returned v ∧ LeavesNew v (p.turned 1 2) w w' := by
  obtain rfl := h.size
  obtain ⟨i0, hi0, hz0, hz1, hz2⟩ := info_parts leafInfo
  have h' := Lib.hid h; clear h
  go_enter Try.func42, Try.ntmps42
  go_wp2_with fail
  go_loopw [3, 9] (fun v i wr => ∃ k : Nat, k ≤ p.size ∧ i = .int .i64 k ∧ wr.ownsRow w.heap.size 136 5 v k (leaves (p.turned 1 2) k) ∧ Kept (fun _ => False) w wr) (fun _ i _ => p.size - (intOf i).toNat)
  case atStart => exact ⟨0, Nat.zero_le _, rfl, owns_empty _ _ _ _ _ (Nat.le_refl _) rfl, (Kept.refl _ _).alloc _⟩
  case round =>
    obtain ⟨k, hk, rfl, hown, hkk⟩ := hrel
    obtain ⟨A', cap', rfl⟩ := owns_val hown
    have hwsz := hkk.size
    by_cases hlt : k < p.size
    · obtain ⟨b, off, rfl, hbl, c0, c1, c2, c3, c4⟩ := LeavesAt.cells (h'.out.fresh hkk) hlt
      have hkk' := Lib.hid hkk; clear hkk
      have hsucc := flat_succ (leafCells (p.turned 1 2)) k
      by_cases g1 : p.st k = 1
      · rw [show (p.st k == 1) = true by simpa using g1] at c1
        rw [show (p.st k == 2) = false by simp [g1]] at c2
        rw [show leafCells (p.turned 1 2) k = [.int .i64 (p.cnt k), .bool false, .bool true, .bool (p.st k == 3), .bool (p.st k == 4)] by simp [leafCells, PM.turned, g1]] at hsucc
        clear g1
        have hsucc' := Lib.hid hsucc; clear hsucc
        go_wp2_with (at_builtin; refine wpList_append_own _ rfl _ _ 46 rfl w.heap.size 136 i0 _ 5 16 Try.underlying46 hi0 hz0 hz1 hz2 rfl (by omega) _ k _ rfl ((hown.alloc _).alloc _) ⟨wr.heap.size + 1, 0, none⟩ 1 1 [.int .i64 (p.cnt k), .bool false, .bool true, .bool (p.st k == 3), .bool (p.st k == 4)] rfl rfl (new_cells (wr.alloc _) _ _ _ (by simp)) (by simp [Value.oneCell']) (by simp [maxLen]; omega) (by omega) (by simp; omega) ?_; intro v' w1 hown1 hgrow _; rw [show leaves (p.turned 1 2) k ++ [.int .i64 (p.cnt k), .bool false, .bool true, .bool (p.st k == 3), .bool (p.st k == 4)] = leaves (p.turned 1 2) (k + 1) from hsucc'.out.symm] at hown1; have hk1 := ((hkk'.out.alloc _).alloc _).grown hgrow (fun k hk => .inr (ownsRow.block_ge hown _ hk)); obtain ⟨A'', cap'', rfl⟩ := owns_val hown1)
        go_roundw
        case rel => exact ⟨k + 1, by omega, by go_num, hown1, hk1⟩
        case measure => simp [intOf]; omega
      · rw [show (p.st k == 1) = false by simpa using g1] at c1
        by_cases g2 : p.st k = 2
        · rw [show (p.st k == 2) = true by simpa using g2] at c2
          rw [show leafCells (p.turned 1 2) k = [.int .i64 (p.cnt k), .bool false, .bool true, .bool (p.st k == 3), .bool (p.st k == 4)] by simp [leafCells, PM.turned, g2]] at hsucc
          clear g1 g2
          have hsucc' := Lib.hid hsucc; clear hsucc
          go_wp2_with (at_builtin; refine wpList_append_own _ rfl _ _ 46 rfl w.heap.size 136 i0 _ 5 16 Try.underlying46 hi0 hz0 hz1 hz2 rfl (by omega) _ k _ rfl ((hown.alloc _).alloc _) ⟨wr.heap.size + 1, 0, none⟩ 1 1 [.int .i64 (p.cnt k), .bool false, .bool true, .bool (p.st k == 3), .bool (p.st k == 4)] rfl rfl (new_cells (wr.alloc _) _ _ _ (by simp)) (by simp [Value.oneCell']) (by simp [maxLen]; omega) (by omega) (by simp; omega) ?_; intro v' w1 hown1 hgrow _; rw [show leaves (p.turned 1 2) k ++ [.int .i64 (p.cnt k), .bool false, .bool true, .bool (p.st k == 3), .bool (p.st k == 4)] = leaves (p.turned 1 2) (k + 1) from hsucc'.out.symm] at hown1; have hk1 := ((hkk'.out.alloc _).alloc _).grown hgrow (fun k hk => .inr (ownsRow.block_ge hown _ hk)); obtain ⟨A'', cap'', rfl⟩ := owns_val hown1)
          go_roundw
          case rel => exact ⟨k + 1, by omega, by go_num, hown1, hk1⟩
          case measure => simp [intOf]; omega
        · rw [show (p.st k == 2) = false by simpa using g2] at c2
          rw [show leafCells (p.turned 1 2) k = [.int .i64 (p.cnt k), .bool false, .bool false, .bool (p.st k == 3), .bool (p.st k == 4)] by simp [leafCells, PM.turned, g1, g2]] at hsucc
          clear g1 g2
          have hsucc' := Lib.hid hsucc; clear hsucc
          go_wp2_with (at_builtin; refine wpList_append_own _ rfl _ _ 46 rfl w.heap.size 136 i0 _ 5 16 Try.underlying46 hi0 hz0 hz1 hz2 rfl (by omega) _ k _ rfl ((hown.alloc _).alloc _) ⟨wr.heap.size + 1, 0, none⟩ 1 1 [.int .i64 (p.cnt k), .bool false, .bool false, .bool (p.st k == 3), .bool (p.st k == 4)] rfl rfl (new_cells (wr.alloc _) _ _ _ (by simp)) (by simp [Value.oneCell']) (by simp [maxLen]; omega) (by omega) (by simp; omega) ?_; intro v' w1 hown1 hgrow _; rw [show leaves (p.turned 1 2) k ++ [.int .i64 (p.cnt k), .bool false, .bool false, .bool (p.st k == 3), .bool (p.st k == 4)] = leaves (p.turned 1 2) (k + 1) from hsucc'.out.symm] at hown1; have hk1 := ((hkk'.out.alloc _).alloc _).grown hgrow (fun k hk => .inr (ownsRow.block_ge hown _ hk)); obtain ⟨A'', cap'', rfl⟩ := owns_val hown1)
          go_roundw
          case rel => exact ⟨k + 1, by omega, by go_num, hown1, hk1⟩
          case measure => simp [intOf]; omega
    · obtain rfl : k = p.size := by omega
      go_wp2_with fail
      go_ret
      exact ⟨_, rfl, SliceAt.of_owns hown, fun b hb => hown.lt b hb, hkk⟩

theorem refTidy_any {A : Option Addr} {n cap : Nat} {p : PM} {w : World} (h : LeavesAt w (.slice A n cap) p) (hs : p.size ≤ 240) :
    Calls Try.prog 44 #[.slice A n cap] w fun e w' => ∃ v, e = .returned v ∧ LeavesNew v (p.turned 3 0) w w' := by
  obtain rfl := h.size
  obtain ⟨i0, hi0, hz0, hz1, hz2⟩ := info_parts leafInfo
  have h' := Lib.hid h; clear h
  go_enter Try.func44, Try.ntmps44
  go_wp2_with fail
  go_loopw [3, 9] (fun v i wr => ∃ k : Nat, k ≤ p.size ∧ i = .int .i64 k ∧ wr.ownsRow w.heap.size 136 5 v k (leaves (p.turned 3 0) k) ∧ Kept (fun _ => False) w wr) (fun _ i _ => p.size - (intOf i).toNat)
  case atStart => exact ⟨0, Nat.zero_le _, rfl, owns_empty _ _ _ _ _ (Nat.le_refl _) rfl, (Kept.refl _ _).alloc _⟩
  case round =>
    obtain ⟨k, hk, rfl, hown, hkk⟩ := hrel
    obtain ⟨A', cap', rfl⟩ := owns_val hown
    have hwsz := hkk.size
    by_cases hlt : k < p.size
    · obtain ⟨b, off, rfl, hbl, c0, c1, c2, c3, c4⟩ := LeavesAt.cells (h'.out.fresh hkk) hlt
      have hkk' := Lib.hid hkk; clear hkk
      have hsucc := flat_succ (leafCells (p.turned 3 0)) k
      rw [show leafCells (p.turned 3 0) k = [.int .i64 (p.cnt k), .bool (p.st k == 1), .bool (p.st k == 2), .bool false, .bool (p.st k == 4)] by by_cases g : p.st k = 3 <;> simp [leafCells, PM.turned, g]] at hsucc
      have hsucc' := Lib.hid hsucc; clear hsucc
      go_wp2_with (at_builtin; refine wpList_append_own _ rfl _ _ 46 rfl w.heap.size 136 i0 _ 5 16 Try.underlying46 hi0 hz0 hz1 hz2 rfl (by omega) _ k _ rfl ((hown.alloc _).alloc _) ⟨wr.heap.size + 1, 0, none⟩ 1 1 [.int .i64 (p.cnt k), .bool (p.st k == 1), .bool (p.st k == 2), .bool false, .bool (p.st k == 4)] rfl rfl (new_cells (wr.alloc _) _ _ _ (by simp)) (by simp [Value.oneCell']) (by simp [maxLen]; omega) (by omega) (by simp; omega) ?_; intro v' w1 hown1 hgrow _; rw [show leaves (p.turned 3 0) k ++ [.int .i64 (p.cnt k), .bool (p.st k == 1), .bool (p.st k == 2), .bool false, .bool (p.st k == 4)] = leaves (p.turned 3 0) (k + 1) from hsucc'.out.symm] at hown1; have hk1 := ((hkk'.out.alloc _).alloc _).grown hgrow (fun k hk => .inr (ownsRow.block_ge hown _ hk)); obtain ⟨A'', cap'', rfl⟩ := owns_val hown1)
      go_roundw
      case rel => exact ⟨k + 1, by omega, by go_num, hown1, hk1⟩
      case measure => simp [intOf]; omega
    · obtain rfl : k = p.size := by omega
      go_wp2_with fail
      go_ret
      exact ⟨_, rfl, SliceAt.of_owns hown, fun b hb => hown.lt b hb, hkk⟩

/-- The pool of which the first k pages have got their counts. -/
def PM.part (m : Nat) (c : Nat → Nat) (k : Nat) : PM := { size := m, cnt := fun j => if j < k then c j else 0, st := fun _ => 0 }
theorem part_zero (m : Nat) (c : Nat → Nat) : leaves (PM.part m c 0) m = leaves (PM.fresh0 m) m := by
  unfold leaves; exact flat_congr fun i _ => by simp [leafCells, PM.part, PM.fresh0]
theorem part_full (m : Nat) (c : Nat → Nat) {k : Nat} (hk : m ≤ k) : leaves (PM.part m c k) m = leaves (PM.loaded m c) m := by
  unfold leaves; exact flat_congr fun i hi => by simp [leafCells, PM.part, PM.loaded, show i < k by omega]
theorem part_more (m : Nat) (c : Nat → Nat) {k : Nat} (hk : m ≤ k) : leaves (PM.part m c (k + 1)) m = leaves (PM.part m c k) m := by
  rw [part_full m c hk, part_full m c (by omega)]
theorem part_succ (m : Nat) (c : Nat → Nat) {k : Nat} (hk : k < m) : (leaves (PM.part m c k) m).set (k * 5) (.int .i64 (c k)) = leaves (PM.part m c (k + 1)) m := by
  unfold leaves
  have := flat_setCell (leafCells_len (PM.part m c k)) (leafCells_len (PM.part m c (k + 1))) (i := k) (j := 0) (n := m) (.int .i64 (c k)) hk (by omega) (by simp [leafCells, PM.part]) (fun j _ hj => by simp [leafCells, PM.part, show (j < k + 1) = (j < k) by rw [eq_iff_iff]; omega])
  simpa using this

theorem refLoad_ok (size : Int) (c : Nat → Nat) (w : World) (hc : ∀ i, c i ≤ 255) (hz : ∀ i, clampN size ≤ i → i < 240 → c i = 0) :
    Calls Try.prog 37 #[.int .i64 size, .agg (cntList c).toArray] w fun e w' =>
      ∃ v, e = .returned (.tuple #[v, .int .i64 0]) ∧ LeavesNew v (PM.loaded (clampN size) c) w w' := by
  have hcl : clampN size ≤ 240 := by unfold clampN; omega
  obtain ⟨m, hm⟩ : ∃ m, m = clampN size := ⟨_, rfl⟩
  have hnew := fun wx => refNew_any size wx
  rw [← hm] at hnew hcl hz ⊢
  have hnew' := Lib.hid hnew; clear hnew hm
  have hz' := Lib.hid hz; clear hz
  have hc' := Lib.hid hc; clear hc
  have hget' := Lib.hid (fun j hj => cntList_get c j hj)
  go_enter Try.func37, Try.ntmps37
  go_wp2_with fail
  refine (hnew'.out _).mono ?_
  rintro e w1 ⟨v, rfl, hown, hk1⟩
  have hbox : w1.heap[w.heap.size]? = some (.cells (cntList c).toArray 30 (0, 0)) := hk1.get (heap_alloc_new w _) id
  have hk1' := ((Kept.refl (fun _ => False) w).alloc _).trans hk1
  rw [← part_zero m c] at hown
  obtain ⟨A, cap, rfl⟩ := owns_val hown
  rw [World.size_alloc] at hown
  clear hk1
  go_wp2_with (refine wpList_load_agg 30 rfl rfl rfl _ Try.underlying30 rfl (cntList c) (by rw [cntList_len]; kernel_rfl) (fun j v hv => by rw [cell_of_heap hbox, Nat.zero_add]; simpa using hv) ?_)
  go_loopw [12] (fun i wr => ∃ k : Nat, k ≤ 240 ∧ i = .int .i64 k ∧ wr.ownsRow (w.heap.size + 1) 136 5 (.slice A m cap) m (leaves (PM.part m c k) m) ∧ Kept (fun _ => False) w wr) (fun i _ => 240 - (intOf i).toNat)
  case atStart => exact ⟨0, by omega, rfl, hown, hk1'⟩
  case round =>
    obtain ⟨k, hk, rfl, ho, hkk⟩ := hrel
    by_cases hlt : k < 240
    · have hix := fun wx => run_index_agg (P := Try.prog) Try.underlying30 Try.underlying5 rfl (by kernel_rfl) (cntList c) hlt (hget'.out k hlt) .i64 wx
      have hck := hc'.out k
      by_cases hkm : k < m
      · obtain ⟨g, cap', cur, hv, hg, hgh, hgc, hgm, hcs, hct⟩ := owns_some ho (by omega)
        injection hv with e1 e2 e3
        subst e1 e3
        have hset := owns_setCell ho (j := k * 5) (by omega) (.int .i64 (c k))
        rw [part_succ m c hkm] at hset
        have hcell : ∃ y, wr.cell? ⟨g, k * 5, none⟩ = some y := ⟨_, by rw [cell_of_heap hgh]; exact Array.getElem?_eq_getElem (by rw [hcs]; omega)⟩
        obtain ⟨y, hcell⟩ := hcell
        have hfree := free_of_heap hgh (k * 5)
        have hkset := hkk.setNew (p := ⟨g, k * 5, none⟩) (by show w.heap.size ≤ g; omega) (.int .i64 (c k))
        have hset' := Lib.hid hset; clear hset ho hct hcs
        have hkset' := Lib.hid hkset; clear hkset
        go_wp2_with fail
        go_roundw
        case rel => exact ⟨k + 1, by omega, by go_num, hset'.out, hkset'.out⟩
        case measure => simp [intOf]; omega
      · have hck0 : c k = 0 := hz'.out k (by omega) hlt
        rw [hck0] at hix
        have hmk : m ≤ k := by omega
        have hck0' := Lib.hid hck0; clear hck0 hck
        go_wp2_with fail
        go_roundw
        case rel => exact ⟨k + 1, by omega, by go_num, by rw [part_more m c hmk]; exact ho, hkk⟩
        case measure => simp [intOf]; omega
    · obtain rfl : k = 240 := by omega
      rw [part_full m c hcl] at ho
      go_wp2_with fail
      go_ret2
      exact ⟨_, rfl, SliceAt.of_owns ho, fun b hb => ⟨Nat.le_of_succ_le (ho.lt b hb).1, (ho.lt b hb).2⟩, hkk⟩
theorem refLoad_bad (size : Int) (c : Nat → Nat) (w : World) (hc : ∀ i, c i ≤ 255) (i : Nat) (hi : clampN size ≤ i) (hi2 : i < 240) (hci : c i ≠ 0) :
    Calls Try.prog 37 #[.int .i64 size, .agg (cntList c).toArray] w fun e w' => e = .returned (.tuple #[.slice none 0 0, .int .i64 61]) ∧ Kept (fun _ => False) w w' := by
  have hcl : clampN size ≤ 240 := by unfold clampN; omega
  obtain ⟨m, hm⟩ : ∃ m, m = clampN size := ⟨_, rfl⟩
  have hnew := fun wx => refNew_any size wx
  rw [← hm] at hnew hcl hi
  have hnew' := Lib.hid hnew; clear hnew hm
  have hc' := Lib.hid hc; clear hc
  have hget' := Lib.hid (fun j hj => cntList_get c j hj)
  go_enter Try.func37, Try.ntmps37
  go_wp2_with fail
  refine (hnew'.out _).mono ?_
  rintro e w1 ⟨v, rfl, hown, hk1⟩
  have hbox : w1.heap[w.heap.size]? = some (.cells (cntList c).toArray 30 (0, 0)) := hk1.get (heap_alloc_new w _) id
  have hk1' := ((Kept.refl (fun _ => False) w).alloc _).trans hk1
  rw [← part_zero m c] at hown
  obtain ⟨A, cap, rfl⟩ := owns_val hown
  rw [World.size_alloc] at hown
  clear hk1
  go_wp2_with (refine wpList_load_agg 30 rfl rfl rfl _ Try.underlying30 rfl (cntList c) (by rw [cntList_len]; kernel_rfl) (fun j v hv => by rw [cell_of_heap hbox, Nat.zero_add]; simpa using hv) ?_)
  go_loopw [12] (fun x wr => ∃ k : Nat, k ≤ i ∧ x = .int .i64 k ∧ wr.ownsRow (w.heap.size + 1) 136 5 (.slice A m cap) m (leaves (PM.part m c k) m) ∧ Kept (fun _ => False) w wr) (fun x _ => 240 - (intOf x).toNat)
  case atStart => exact ⟨0, Nat.zero_le _, rfl, hown, hk1'⟩
  case round =>
    obtain ⟨k, hk, rfl, ho, hkk⟩ := hrel
    have hlt : k < 240 := by omega
    · have hix := fun wx => run_index_agg (P := Try.prog) Try.underlying30 Try.underlying5 rfl (by kernel_rfl) (cntList c) hlt (hget'.out k hlt) .i64 wx
      have hck := hc'.out k
      by_cases hkm : k < m
      · have hki : k < i := by omega
        obtain ⟨g, cap', cur, hv, hg, hgh, hgc, hgm, hcs, hct⟩ := owns_some ho (by omega)
        injection hv with e1 e2 e3
        subst e1 e3
        have hset := owns_setCell ho (j := k * 5) (by omega) (.int .i64 (c k))
        rw [part_succ m c hkm] at hset
        have hcell : ∃ y, wr.cell? ⟨g, k * 5, none⟩ = some y := ⟨_, by rw [cell_of_heap hgh]; exact Array.getElem?_eq_getElem (by rw [hcs]; omega)⟩
        obtain ⟨y, hcell⟩ := hcell
        have hfree := free_of_heap hgh (k * 5)
        have hkset := hkk.setNew (p := ⟨g, k * 5, none⟩) (by show w.heap.size ≤ g; omega) (.int .i64 (c k))
        have hset' := Lib.hid hset; clear hset ho hct hcs
        have hkset' := Lib.hid hkset; clear hkset
        go_wp2_with fail
        go_roundw
        case rel => exact ⟨k + 1, by omega, by go_num, hset'.out, hkset'.out⟩
        case measure => simp [intOf]; omega
      · have hmk : m ≤ k := by omega
        by_cases hck0 : c k = 0
        · have hki : k < i := by
            rcases Nat.lt_or_ge k i with h | h
            · exact h
            · obtain rfl : k = i := by omega
              exact absurd hck0 hci
          rw [hck0] at hix
          have hck0' := Lib.hid hck0; clear hck0 hck
          go_wp2_with fail
          go_roundw
          case rel => exact ⟨k + 1, by omega, by go_num, by rw [part_more m c hmk]; exact ho, hkk⟩
          case measure => simp [intOf]; omega
        · have hpos : 0 < c k := by omega
          clear hck0
          go_wp2_with fail
          go_ret2
          exact ⟨rfl, hkk⟩
end Go.Proofs.Ytgajongbbaccjaa
