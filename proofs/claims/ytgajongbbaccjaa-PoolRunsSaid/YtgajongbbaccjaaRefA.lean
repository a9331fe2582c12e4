/-
  The document's pool (package understudyref07): what its functions answer, when what they are given is a pool's pages.
-/
import Derived.Test.YtgajongbbaccjaaPoolP
import Derived.Test.YtgajongbbaccjaaSlc
namespace Go.Proofs.Ytgajongbbaccjaa
open Go.RowKit
set_option maxRecDepth 100000

/-- A page as the document has it: five cells. -/
def leafCells (p : PM) (i : Nat) : List Value := [.int .i64 (p.cnt i), .bool (p.st i == 1), .bool (p.st i == 2), .bool (p.st i == 3), .bool (p.st i == 4)]
theorem leafCells_len (p : PM) (i : Nat) : (leafCells p i).length = 5 := rfl
theorem leafCells_one (p : PM) (i : Nat) : ∀ v ∈ leafCells p i, v.oneCell' = true := by
  intro v hv
  simp only [leafCells, List.mem_cons, List.not_mem_nil, or_false] at hv
  rcases hv with rfl | rfl | rfl | rfl | rfl <;> rfl
def leaves (p : PM) (n : Nat) : List Value := (List.range n).flatMap (leafCells p)
/-- A slice that has a pool's pages. -/
abbrev LeavesAt (w : World) (v : Value) (p : PM) : Prop := SliceAt w v 5 p.size (leaves p p.size)

theorem LeavesAt.cells {w : World} {A : Option Addr} {n cap : Nat} {p : PM} (h : LeavesAt w (.slice A n cap) p) {i : Nat} (hi : i < p.size) :
    ∃ b off, A = some ⟨b, off, none⟩ ∧ b < w.heap.size ∧ w.cell? ⟨b, off + i * 5, none⟩ = some (.int .i64 (p.cnt i)) ∧ w.cell? ⟨b, off + i * 5 + 1, none⟩ = some (.bool (p.st i == 1)) ∧
      w.cell? ⟨b, off + i * 5 + 2, none⟩ = some (.bool (p.st i == 2)) ∧ w.cell? ⟨b, off + i * 5 + 3, none⟩ = some (.bool (p.st i == 3)) ∧ w.cell? ⟨b, off + i * 5 + 4, none⟩ = some (.bool (p.st i == 4)) := by
  obtain ⟨b, off, hA, hb, hc⟩ := SliceAt.elem h hi (by omega)
  have g := fun j (hj : j < 5) => flat_get (leafCells_len p) hj p.size hi
  refine ⟨b, off, hA, hb, ?_, ?_, ?_, ?_, ?_⟩
  · have := hc 0 _ (by omega) (g 0 (by omega)); simpa using this
  · exact hc 1 _ (by omega) (g 1 (by omega))
  · exact hc 2 _ (by omega) (g 2 (by omega))
  · exact hc 3 _ (by omega) (g 3 (by omega))
  · exact hc 4 _ (by omega) (g 4 (by omega))
theorem LeavesAt.size {w : World} {A : Option Addr} {n cap : Nat} {p : PM} (h : LeavesAt w (.slice A n cap) p) : n = p.size := by
  obtain ⟨_, A', cap', hv, _⟩ := h
  injection hv

theorem refFree_any (c : Nat) (f y s g : Bool) (w : World) :
    Calls Try.prog 86 #[.agg #[.int .i64 c, .bool f, .bool y, .bool s, .bool g]] w fun e w' => e = .returned (.bool (c == 0 && !f && !y && !s && !g)) ∧ Kept (fun _ => False) w w' := by
  go_enter Try.func86, Try.ntmps86
  go_wp2_with fail
  all_goals go_ret
  all_goals exact ⟨by simp [*], (Kept.refl _ _).alloc _⟩
theorem leaf_free {p : PM} {i : Nat} (h : p.st i ≤ 4) : (p.cnt i == 0 && !(p.st i == 1) && !(p.st i == 2) && !(p.st i == 3) && !(p.st i == 4)) = p.freeB i := by
  unfold PM.freeB
  rw [Bool.eq_iff_iff]
  simp only [Bool.and_eq_true, Bool.not_eq_true', beq_iff_eq, beq_eq_false_iff_ne]
  omega

theorem refHeld_any {A : Option Addr} {n cap : Nat} {p : PM} {w : World} (h : LeavesAt w (.slice A n cap) p) (hs : p.size ≤ 240) (i : Int) :
    Calls Try.prog 88 #[.slice A n cap, .int .i64 i] w fun e w' => e = .returned (.bool (p.heldB i)) ∧ w = w' := by
  obtain rfl := h.size
  by_cases ht : p.thereB i = true
  · have hb := thereB_pos ht
    obtain ⟨k, rfl⟩ := Int.eq_ofNat_of_zero_le hb.1
    have hk : k < p.size := by omega
    obtain ⟨b, off, rfl, hbl, c0, c1, c2, c3, c4⟩ := h.cells hk
    clear c3 c4
    have hd : p.heldB k = (decide (0 < p.cnt k) || (p.st k == 1 || p.st k == 2)) := by simp [PM.heldB, PM.freshB, ht]
    rw [hd]
    clear hd ht
    by_cases g0 : 0 < p.cnt k
    · go_enter Try.func88, Try.ntmps88
      go_wp2_with fail
      go_ret
      exact ⟨by simp [g0], rfl⟩
    · by_cases g1 : p.st k = 1
      · rw [show (p.st k == 1) = true by simpa using g1] at c1
        go_enter Try.func88, Try.ntmps88
        go_wp2_with fail
        go_ret
        exact ⟨by simp [g1], rfl⟩
      · rw [show (p.st k == 1) = false by simpa using g1] at c1
        go_enter Try.func88, Try.ntmps88
        go_wp2_with fail
        go_ret
        exact ⟨by simp [g0, g1], rfl⟩
  · have hd : p.heldB i = false := by simp [PM.heldB, ht]
    rw [hd]
    have hnb : i < 0 ∨ (p.size : Int) ≤ i := by simp only [PM.thereB, decide_eq_true_eq] at ht; omega
    clear hd ht
    rcases hnb with hnb | hnb
    · go_enter Try.func88, Try.ntmps88
      go_wp2_with fail
      go_ret
      exact ⟨rfl, rfl⟩
    · have h0 : 0 ≤ i := by omega
      go_enter Try.func88, Try.ntmps88
      go_wp2_with fail
      go_ret
      exact ⟨rfl, rfl⟩

/-- A slice of another pool's pages, in a block that is new. -/
structure LeavesNew (v : Value) (p : PM) (w w' : World) : Prop where
  at_ : LeavesAt w' v p
  new : ∀ b, v.ownBlock = some b → w.heap.size ≤ b ∧ b < w'.heap.size
  kept : Kept (fun _ => False) w w'

theorem leafInfo : (Try.prog.info? 136).map (fun i => (i.zero, i.size, i.bytes)) = some (some (.agg #[.int .i64 0, .bool false, .bool false, .bool false, .bool false]), 5, 16) := by kernel_rfl
theorem change_any {A : Option Addr} {n cap : Nat} {p p' : PM} {w : World} (h : LeavesAt w (.slice A n cap) p) (hs : p.size ≤ 240) (i : Nat) (hi : i < p.size) (hsz : p'.size = p.size)
    (hother : ∀ j, j < p.size → j ≠ i → leafCells p' j = leafCells p j) :
    Calls Try.prog 87 #[.slice A n cap, .int .i64 i, .agg (leafCells p' i).toArray] w fun e w' => ∃ v, e = .returned v ∧ LeavesNew v p' w w' := by
  obtain rfl := h.size
  obtain ⟨b, off, rfl, hbl, _⟩ := h.cells hi
  obtain ⟨i0, hi0, hz0, hz1, hz2⟩ := info_parts leafInfo
  have hnews : ∀ o1 o2 j u, (leaves p p.size)[j]? = some u → ((w.alloc o1).alloc o2).cell? ((⟨b, off, none⟩ : Addr).add j) = some u := by
    intro o1 o2 j u hj
    obtain ⟨_, A', cap', hv, _, _, hc⟩ := h
    obtain ⟨b', off', hA', hcc⟩ := hc j u hj
    injection hv with e1 e2 e3
    rw [← e1] at hA'
    injection hA' with e
    injection e with e1 e2
    subst e1 e2
    rw [addr_add]
    exact (((Kept.refl (fun _ => False) w).alloc o1).alloc o2).cell hcc id
  have hone : ∀ u ∈ leaves p p.size, u.oneCell' = true := by
    intro u hu
    simp only [leaves, List.mem_flatMap] at hu
    obtain ⟨j, _, hu⟩ := hu
    exact leafCells_one p j u hu
  have hlen : (leaves p p.size).length = p.size * 5 := h.len
  have hnews' := Lib.hid hnews; clear hnews
  have hone' := Lib.hid hone; clear hone
  have hlen' := Lib.hid hlen; clear hlen
  have hcap : p.size ≤ cap := by obtain ⟨_, A', cap', hv, hc, _⟩ := h; injection hv with e1 e2 e3; omega
  have h' := Lib.hid h; clear h
  have hsz' := Lib.hid hsz; clear hsz
  have hother' := Lib.hid hother; clear hother
  go_enter Try.func87, Try.ntmps87
  go_wp2_with (first | (at_builtin; refine wpList_append_own _ rfl _ _ 46 rfl w.heap.size 136 i0 _ 5 16 Try.underlying46 hi0 hz0 hz1 hz2 rfl (by omega) (.slice (some ⟨w.heap.size + 1, 0, none⟩) 0 0) 0 [] rfl (owns_empty _ _ _ _ _ (by simp) (by simp)) ⟨b, off, none⟩ p.size cap (leaves p p.size) rfl hlen'.out (hnews'.out _ _) hone'.out (by simp [maxLen]; omega) (by omega) (by simp; omega) ?_; intro v' w1 hown hgrow _; simp only [Nat.zero_add, List.nil_append] at hown; go_loud (obtain ⟨g, gc, cur, rfl, hg, hgh, hgc, hgm, hcs, hct⟩ := owns_some hown (by omega)); go_loud (have hbox := (hgrow.block w.heap.size (by simp; omega) (by simp [Value.ownBlock])).trans ((heap_alloc_old _ _ (by simp)).trans (heap_alloc_new w _))); go_loud (have hk1 := (((Kept.refl (fun _ => False) w).alloc _).alloc _).grown hgrow (fun k hk => .inr (by simp [Value.ownBlock] at hk; omega))); clear hown hgrow) | (refine wpList_load_agg 136 rfl rfl rfl _ Try.underlying136 rfl (leafCells p' i) (by kernel_rfl) (fun j u hu => by rw [cell_of_heap hbox, Nat.zero_add]; simpa using hu) ?_) | (refine wpList_store_agg 136 rfl rfl rfl (leafCells p' i) rfl (by kernel_rfl) 136 cur hgh (by rw [leafCells_len, hcs]; omega) (leafCells_one p' i) ?_))
  go_ret
  have ho := owns_set (w := w1) hg hgh hgc hgm hcs (hct : _ = (List.range p.size).flatMap (leafCells p)) (leafCells_len p) (leafCells_len p') hi hother'.out
  refine ⟨_, rfl, ?_, fun k hk => ?_, hk1.setRowNew hg _⟩
  · show SliceAt _ _ 5 p'.size (leaves p' p'.size)
    rw [hsz'.out]
    exact SliceAt.of_owns ho
  · injection hk with hk; rw [← hk]; exact ⟨hg, by rw [setRow_size]; exact lt_of_heap hgh⟩
end Go.Proofs.Ytgajongbbaccjaa
