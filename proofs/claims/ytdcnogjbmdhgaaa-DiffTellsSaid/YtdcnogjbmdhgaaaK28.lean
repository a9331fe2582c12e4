/-
 DiffWays, plain: three trees in a store.
-/
import Derived.Test.YtdcnogjbmdhgaaaK12
import Derived.Test.YtdcnogjbmdhgaaaK16
import Derived.Test.YtdcnogjbmdhgaaaK22
import Derived.Test.YtdcnogjbmdhgaaaK25
import Derived.Test.YtdcnogjbmdhgaaaK26
import Derived.Test.YtdcnogjbmdhgaaaK27
import Derived.Deep.RegionHeld3
set_option linter.unusedVariables false
set_option linter.unusedSimpArgs false
namespace Go.Proofs.Ytdcnogjbmdhgaaa
open Go.RowKit

theorem build_changes : ∀ (cs : List (Int × Int)) {M M' : SM} {root r : Int}, (∀ c ∈ cs, c.2 ≠ -1) → SM.changes cs M root = (M', r, 0) → SM.build cs M root = (M', r, 0)
 | [], _, _, _, _, _, h => h
 | x :: cs, M, M', root, r, hx, e => by
  have hone : M.one root x = M.put root x.1 x.2 := by unfold SM.one; rw [if_neg (hx x (List.mem_cons_self ..))]
  rw [build_cons]
  rw [changes_cons] at e
  unfold SM.change at e
  dsimp only at e
  rw [hone] at e
  by_cases h0 : (M.put root x.1 x.2).2.2 = 0
  ·rw [if_pos h0] at e ⊢
   by_cases h5 : ((M.put root x.1 x.2).1.swap root (M.put root x.1 x.2).2.1).2 = 0
   ·rw [if_pos h5] at e ⊢
    rw [if_pos rfl] at e
    exact build_changes cs (fun c hc => hx c (List.mem_cons_of_mem _ hc)) e
   ·rw [if_neg h5] at e
    dsimp only at e
    rw [if_neg h5] at e
    injection e with _ e
    injection e with _ e
    exact absurd e h5
  ·rw [if_neg h0] at e
   dsimp only at e
   rw [if_neg h0] at e
   injection e with _ e
   injection e with _ e
   exact absurd e h0
theorem list_again {l : List (Int × Int)} (h : ListOk l) : l.foldl chgL [] = l := by
 have h0 : ListOk [] := ⟨List.Pairwise.nil, (fun y hy => by cases hy), (fun y hy => by cases hy)⟩
 obtain ⟨h1, h2⟩ := findL_chgs (b := l) l h0 (fun c hc => ⟨(h.keys c hc).1, (h.keys c hc).2, .inr (h.pages c hc), (findL_mem h.rises hc).symm⟩)
 refine list_ext h1 h fun k _ _ => ?_
 rw [h2 k]
 split
 ·rfl
 ·rename_i hno
  rw [findL_none (fun y hy e => hno ⟨y, hy, e⟩)]
  rfl
theorem list_of_find {l : List (Int × Int)} (h : ListOk l) : l = (List.range 64).filterMap fun (k : Nat) => if findL l (k : Int) = -1 then none else some ((k : Int), findL l (k : Int)) := by
 have hr : ∀ (a n : Nat), RisesK ((List.range' a n).filterMap fun (k : Nat) => if findL l (k : Int) = -1 then none else some ((k : Int), findL l (k : Int))) ∧ ∀ y ∈ (List.range' a n).filterMap (fun (k : Nat) => if findL l (k : Int) = -1 then none else some ((k : Int), findL l (k : Int))), (a : Int) ≤ y.1 := by
  intro a n
  induction n generalizing a with
  | zero => exact ⟨List.Pairwise.nil, fun y hy => (by cases hy)⟩
  | succ n ih =>
   obtain ⟨h1, h2⟩ := ih (a + 1)
   rw [List.range'_succ]
   by_cases hf : findL l (a : Int) = -1
   ·rw [List.filterMap_cons, if_pos hf]
    exact ⟨h1, fun y hy => by have := h2 y hy; omega⟩
   ·rw [List.filterMap_cons, if_neg hf]
    refine ⟨List.pairwise_cons.2 ⟨fun y hy => by have := h2 y hy; show (a : Int) < y.1; omega, h1⟩, fun y hy => ?_⟩
    rcases List.mem_cons.1 hy with rfl | hy
    ·exact Int.le_refl _
    ·have := h2 y hy; omega
 have hr0 := hr 0 64
 rw [← List.range_eq_range'] at hr0
 refine rises_eq h.rises hr0.1 fun y => ?_
 rw [List.mem_filterMap]
 constructor
 ·intro hy
  have hk := h.keys y hy
  have hf := findL_mem h.rises hy
  have hp := h.pages y hy
  obtain ⟨k, hk'⟩ := Int.eq_ofNat_of_zero_le hk.1
  refine ⟨k, List.mem_range.2 (by omega), ?_⟩
  rw [← hk', hf, if_neg (by omega)]
 ·rintro ⟨k, _, e⟩
  split at e
  ·cases e
  ·rename_i hne
   cases e
   exact findL_pos hne
theorem occ_count {l : List (Int × Int)} (h : ListOk l) (b : Nat) : occ l b = (List.range 64).countP fun (k : Nat) => decide (findL l (k : Int) = (b : Int)) := by
 conv => lhs; rw [list_of_find h]
 have key : ∀ L : List Nat, occ (L.filterMap fun (k : Nat) => if findL l (k : Int) = -1 then none else some ((k : Int), findL l (k : Int))) b = L.countP fun (k : Nat) => decide (findL l (k : Int) = (b : Int)) := by
  intro L
  induction L with
  | nil => rfl
  | cons k L ih =>
   by_cases hf : findL l (k : Int) = -1
   ·rw [List.filterMap_cons, if_pos hf, List.countP_cons_of_neg (by simp; omega)]
    exact ih
   ·rw [List.filterMap_cons, if_neg hf]
    unfold occ at ih ⊢
    rw [List.countP_cons, ih, List.countP_cons]
    by_cases hb : findL l (k : Int) = (b : Int)
    ·simp [hb]
    ·have : (findL l (k : Int) == (b : Int)) = false := by rw [beq_eq_false_iff_ne]; exact hb
     simp [hb]
 exact key _
theorem count4 {A B C D : Nat → Bool} (h : ∀ k, (A k).toNat + 2 * (B k).toNat + (C k).toNat + (D k).toNat ≤ 4) : ∀ L : List Nat, L.countP A + 2 * L.countP B + L.countP C + L.countP D ≤ 4 * L.length
 | [] => Nat.le_refl _
 | k :: L => by
  have ih := count4 h L
  have hk := h k
  rw [List.countP_cons, List.countP_cons, List.countP_cons, List.countP_cons, List.length_cons]
  cases ha : A k <;> cases hb : B k <;> cases hc : C k <;> cases hd : D k <;> simp only [ha, hb, hc, hd, Bool.toNat_false, Bool.toNat_true] at hk ⊢ <;> simp <;> omega
theorem count3 {A B D : Nat → Bool} (h : ∀ k, (A k).toNat + 2 * (B k).toNat + (D k).toNat ≤ 3) : ∀ L : List Nat, L.countP A + 2 * L.countP B + L.countP D ≤ 3 * L.length
 | [] => Nat.le_refl _
 | k :: L => by
  have ih := count3 h L
  have hk := h k
  rw [List.countP_cons, List.countP_cons, List.countP_cons, List.length_cons]
  cases ha : A k <;> cases hb : B k <;> cases hd : D k <;> simp only [ha, hb, hd, Bool.toNat_false, Bool.toNat_true] at hk ⊢ <;> simp <;> omega
theorem tells_count {la lb : List (Int × Int)} (ha : ListOk la) (hb : ListOk lb) (b n : Nat) (hn : n < (changesL la lb).length) :
  min (1 + occ la b + 2 * occ lb b + 7 * n) (1 + occ la b + 2 * occ lb b + occ (((changesL la lb).take n).foldl chgL la) b) ≤ 248 := by
 obtain ⟨h1, h2⟩ := findL_chgs (b := lb) ((changesL la lb).take n) ha (fun c hc => by
  obtain ⟨k0, k1, _, e⟩ := mem_changes.1 (List.mem_of_mem_take hc)
  exact ⟨k0, k1, by rw [e]; exact find_page hb c.1, e⟩)
 obtain ⟨lc, hlc⟩ : ∃ lc, ((changesL la lb).take n).foldl chgL la = lc := ⟨_, rfl⟩
 rw [hlc] at h1 h2 ⊢
 rw [occ_count ha, occ_count hb, occ_count h1]
 have hlen := changes_count la lb
 have e4 := count4 (A := fun (k : Nat) => decide (findL la (k : Int) = (b : Int))) (B := fun (k : Nat) => decide (findL lb (k : Int) = (b : Int))) (C := fun (k : Nat) => decide (findL lc (k : Int) = (b : Int))) (D := fun (k : Nat) => decide (findL la (k : Int) ≠ findL lb (k : Int))) (fun k => by
  have hc : findL lc (k : Int) = findL la (k : Int) ∨ findL lc (k : Int) = findL lb (k : Int) := by
   rw [h2]; split
   ·exact .inr rfl
   ·exact .inl rfl
  by_cases e1 : findL la (k : Int) = (b : Int) <;> by_cases e2 : findL lb (k : Int) = (b : Int) <;> by_cases e3 : findL lc (k : Int) = (b : Int) <;> by_cases e5 : findL la (k : Int) = findL lb (k : Int) <;> simp [e1, e2, e3, e5] <;> have hD := Bool.toNat_le (!decide ((b : Int) = findL lb (k : Int))) <;> omega) (List.range 64)
 have e3 := count3 (A := fun (k : Nat) => decide (findL la (k : Int) = (b : Int))) (B := fun (k : Nat) => decide (findL lb (k : Int) = (b : Int))) (D := fun (k : Nat) => decide (findL la (k : Int) ≠ findL lb (k : Int))) (fun k => by
  by_cases e1 : findL la (k : Int) = (b : Int) <;> by_cases e2 : findL lb (k : Int) = (b : Int) <;> by_cases e5 : findL la (k : Int) = findL lb (k : Int) <;> simp [e1, e2, e5] <;> have hD := Bool.toNat_le (!decide ((b : Int) = findL lb (k : Int))) <;> omega) (List.range 64)
 rw [List.length_range] at e3 e4
 omega
structure TellsOk (ns : List Nat) (l0 l1 : List (Int × Int)) (apart : Bool) (M M1 M1h M2 M3 M4 M5 : SM) (r0 r1 rb rc : Int) (la lb : List (Int × Int)) : Prop where
 h0 : SM.changes (ownL ns l0) M (-1) = (M1, r0, 0)
 hh : (if r0 = -1 then (M1, 0) else M1.hold r0) = (M1h, 0)
 h1 : SM.changes (ownL ns l1) M1h r0 = (M2, r1, 0)
 h2 : apart = true → SM.build lb M2 (-1) = (M3, rb, 0)
 h2' : apart = false → M3 = M2 ∧ rb = r1
 h4 : (if r0 = -1 then (M3, 0) else M3.hold r0) = (M4, 0)
 h5 : SM.changes (changesL la lb) M4 r0 = (M5, rc, 0)
 g1 : M1h.log.length ≤ 10000
 g2 : M2.log.length ≤ 10000
 g4 : M4.log.length ≤ 10000
 ea : (ownL ns l0).foldl chgL [] = la
 eb : (ownL ns l1).foldl chgL la = lb
 a : ListOk la
 b : ListOk lb
 a3 : RootIs 1 M3 r0 la
 b3 : RootIs 1 M3 rb lb
 a5 : RootIs 1 M5 r0 la
 c5 : RootIs 1 M5 rc lb
 lena : la.length ≤ 64
 lenb : lb.length ≤ 64
theorem tells_ok {ns : List Nat} {M : SM} (h : OneTree Clean 240 ns M (-1) [] 0) (h4 : ns.length = 4) (hn : ns.Nodup) (hlog : M.log.length ≤ 4) {l0 l1 : List (Int × Int)} (hl0 : l0.length ≤ 70) (hl1 : l1.length ≤ 70) (apart : Bool) :
  ∃ M1 M1h M2 M3 M4 M5 r0 r1 rb rc la lb, TellsOk ns l0 l1 apart M M1 M1h M2 M3 M4 M5 r0 r1 rb rc la lb := by
 have hB := clean_besides
 have hown0 := ownL_len ns l0
 have hown1 := ownL_len ns l1
 have F0 : Forest Clean ns M [.none] := (Forest.of_one h).none
 obtain ⟨M1, t0, e0, q0, p0, F1⟩ := Forest.changes (k := 0) hB hn (by omega) (ownL ns l0) F0 (by decide) rfl (fun t ht => by rw [List.mem_singleton.1 ht]; show 0 + _ ≤ _; omega) (by show (0 + 3 + 0) + _ + _ ≤ _; omega) (ownL_good h4 l0)
 have F1 : Forest Clean ns M1 [t0] := F1
 have e0 : SM.changes (ownL ns l0) M (-1) = (M1, t0.root, 0) := e0
 have q0 : t0.l = (ownL ns l0).foldl chgL [] := q0
 have p0 : t0.P ≤ 70 := by rw [p0]; show 0 + _ ≤ _; omega
 have g1 : M1.log.length ≤ 2000 := by
  have := changes_logS (ownL ns l0) M (-1)
  rw [e0] at this
  dsimp only at this
  omega
 obtain ⟨M1h, eh, Fh, hlg⟩ := F1.hold hB hn (by show 1 ≤ 3; decide) (fun t ht => by rw [List.mem_singleton.1 ht]; omega) (List.mem_singleton.2 rfl)
 have Fh : Forest Clean ns M1h [t0, t0] := Fh
 obtain ⟨M2, t1, e1, q1, p1, F2⟩ := Forest.changes (k := 1) (t := t0) hB hn (by omega) (ownL ns l1) Fh (by show 2 ≤ 3; decide) rfl (fun t ht => by simp at ht; rw [ht]; omega) (by show (t0.P + 3 + (t0.P + 3 + 0)) + _ + _ ≤ _; omega) (ownL_good h4 l1)
 have F2 : Forest Clean ns M2 [t0, t1] := F2
 have g2 : M2.log.length ≤ 4000 := by
  have := changes_logS (ownL ns l1) M1h t0.root
  rw [e1] at this
  dsimp only at this
  rw [hlg] at this
  omega
 have p1 : t1.P ≤ 140 := by rw [p1]; omega
 have ok : ∀ t ∈ [t0, t1], ListOk t.l := fun t ht => by
  have T := (F2.tree t ht)
  refine ⟨T.1.keys.1, T.1.keys.2, fun y hy => ?_⟩
  obtain ⟨b, _, e⟩ := T.2 y hy
  omega
 have m0 : t0 ∈ [t0, t1] := List.mem_cons_self ..
 have m1 : t1 ∈ [t0, t1] := List.mem_cons_of_mem _ (List.mem_cons_self ..)
 have len0 := (F2.tree t0 m0).1.len
 have len1 := (F2.tree t1 m1).1.len
 have hch := changes_count t0.l t1.l
 have hch64 : (changesL t0.l t1.l).length ≤ 64 := by
  rw [hch]
  exact Nat.le_trans List.countP_le_length (by rw [List.length_range]; exact Nat.le_refl _)
 have hchg : ∀ x ∈ changesL t0.l t1.l, 0 ≤ x.1 ∧ x.1 < 64 ∧ (x.2 = -1 ∨ ∃ b ∈ ns, x.2 = ((b : Nat) : Int)) := fun x hx => by
  obtain ⟨k0, k1, _, e⟩ := mem_changes.1 hx
  refine ⟨k0, k1, ?_⟩
  by_cases hf : findL t1.l x.1 = -1
  ·exact .inl (e.trans hf)
  ·right
   obtain ⟨b, hb, e2⟩ := (F2.tree t1 m1).2 _ (findL_pos hf)
   exact ⟨b, hb, e.trans e2⟩
 have last : ∀ (M3 : SM) (us : List IM) (rb : Int), Forest Clean ns M3 (t0 :: us) → us.length ≤ 2 → (∀ t ∈ us, t.P ≤ 140) → (us.map fun i => i.P + 3).sum ≤ 143 + 67 → (∀ b : Nat, (us.map fun i => occ i.l b).sum ≤ 2 * occ t1.l b) → M3.log.length ≤ 6000 → (∃ t ∈ us, t.root = rb ∧ t.l = t1.l) →
   ∃ M4 M5 rc, (if t0.root = -1 then (M3, 0) else M3.hold t0.root) = (M4, 0) ∧ SM.changes (changesL t0.l t1.l) M4 t0.root = (M5, rc, 0) ∧ M4.log.length ≤ 10000 ∧ RootIs 1 M3 t0.root t0.l ∧ RootIs 1 M3 rb t1.l ∧ RootIs 1 M5 t0.root t0.l ∧ RootIs 1 M5 rc t1.l := by
  intro M3 us rb F3 hus hPu hsu hoc hlg3 ⟨tb, htb, hrb, hlb⟩
  have hP0 : ∀ t ∈ t0 :: us, t.P ≤ 140 := fun t ht => by
   rcases List.mem_cons.1 ht with rfl | ht
   ·omega
   ·exact hPu t ht
  obtain ⟨M4, e4, F4, hlg4⟩ := F3.hold hB hn (by rw [List.length_cons]; omega) (fun t ht => by have := hP0 t ht; omega) (List.mem_cons_self ..)
  have hcnt4 : ∀ b ∈ ns, M4.pool.cnt b = M3.pool.cnt b := fun b hb => by
   have := F3.hold_cnt (t := t0) (List.mem_cons_self ..) hb
   rw [e4] at this
   exact this
  have hk : (t0 :: us ++ [t0])[us.length + 1]? = some t0 := by
   rw [List.getElem?_append_right (by rw [List.length_cons]; omega), List.length_cons, Nat.sub_self]
   rfl
  have her : (t0 :: us ++ [t0]).eraseIdx (us.length + 1) = t0 :: us := by
   rw [List.eraseIdx_append_of_length_le (by rw [List.length_cons]; omega), List.length_cons, Nat.sub_self]
   simp
  have hsum : ∀ b : Nat, ((t0 :: us).map fun i => occ i.l b).sum + 1 ≤ 1 + occ t0.l b + 2 * occ t1.l b := fun b => by
   rw [List.map_cons, List.sum_cons]
   have := hoc b
   omega
  obtain ⟨M5, t5, e5, q5, p5, F5⟩ := Forest.changes4 (k := us.length + 1) (S := fun b => 1 + occ t0.l b + 2 * occ t1.l b) (l0 := t0.l) hB hn (by omega) (changesL t0.l t1.l) (fun b _ n hn' => tells_count (ok t0 m0) (ok t1 m1) b n hn') (changesL t0.l t1.l) 0 rfl F4 (by rw [List.length_append, List.length_cons, List.length_singleton]; omega) hk rfl (fun b _ => by rw [her]; exact hsum b) (fun b hb => by
    rw [hcnt4 b hb]
    have h1 := F3.counts hn (fun t ht => by have := hP0 t ht; omega) hb
    have h2 := hsum b
    show M3.pool.cnt b ≤ 1 + occ t0.l b + 2 * occ t1.l b + 7 * 0
    omega) (fun t ht => by
    rcases List.mem_append.1 ht with ht | ht
    ·have := hP0 t ht; omega
    ·rw [List.mem_singleton.1 ht]; omega) (by
    rw [List.map_append, List.sum_append, List.map_cons, List.sum_cons, List.map_cons, List.sum_cons, List.map_nil, List.sum_nil]
    omega) hchg
  have q5 : t5.l = t1.l := by rw [q5]; exact changes_lead (ok t0 m0) (ok t1 m1)
  have p5 : t5.P ≤ 134 := by rw [p5]; omega
  have hset : (t0 :: us ++ [t0]).set (us.length + 1) t5 = t0 :: us ++ [t5] := by
   rw [List.set_append, if_neg (by rw [List.length_cons]; omega), List.length_cons, Nat.sub_self]
   rfl
  rw [hset] at F5
  refine ⟨M4, M5, t5.root, e4, e5, by rw [hlg4]; omega, F3.rootis (List.mem_cons_self ..) (by omega), ?_, F5.rootis (List.mem_append_left _ (List.mem_cons_self ..)) (by omega), ?_⟩
  ·have := F3.rootis (List.mem_cons_of_mem _ htb) (by have := hPu tb htb; omega)
   rw [hrb, hlb] at this
   exact this
  ·have := F5.rootis (List.mem_append_right _ (List.mem_singleton.2 rfl)) (by omega)
   rw [q5] at this
   exact this
 cases apart with
 | false =>
  obtain ⟨M4, M5, rc, h1, h2, h3, h5, h6, h7, h8⟩ := last M2 [t1] t1.root F2 (by show 1 ≤ 2; decide) (fun t ht => by rw [List.mem_singleton.1 ht]; omega) (by show t1.P + 3 + 0 ≤ _; omega) (fun b => by show occ t1.l b + 0 ≤ _; omega) (by omega) ⟨t1, List.mem_singleton.2 rfl, rfl, rfl⟩
  exact ⟨M1, M1h, M2, M2, M4, M5, t0.root, t1.root, t1.root, rc, t0.l, t1.l, e0, eh, e1, fun h => (by cases h), fun _ => ⟨rfl, rfl⟩, h1, h2, by rw [hlg]; omega, by omega, h3, q0.symm, q1.symm, ok t0 m0, ok t1 m1, h5, h6, h7, h8, len0, len1⟩
 | true =>
  have F3 : Forest Clean ns M2 [t0, t1, .none] := F2.none
  obtain ⟨M3, t2, e2, q2, p2, F4⟩ := Forest.changes (k := 2) (t := .none) hB hn (by omega) t1.l F3 (by show 3 ≤ 3; decide) rfl (fun t ht => by
   simp only [List.mem_cons, List.not_mem_nil, or_false] at ht
   rcases ht with rfl | rfl | rfl
   ·omega
   ·omega
   ·show 0 + _ ≤ _; omega) (by show (t0.P + 3 + (t1.P + 3 + (0 + 3 + 0))) + _ + _ ≤ _; omega) (fun y hy => ⟨((ok t1 m1).keys y hy).1, ((ok t1 m1).keys y hy).2, .inr ((F2.tree t1 m1).2 y hy)⟩)
  have F4 : Forest Clean ns M3 [t0, t1, t2] := F4
  have q2 : t2.l = t1.l := by rw [q2]; exact list_again (ok t1 m1)
  have p2 : t2.P ≤ 64 := by rw [p2]; show 0 + _ ≤ _; omega
  have e2 : SM.changes t1.l M2 (-1) = (M3, t2.root, 0) := e2
  have hb2 := build_changes t1.l (fun c hc => by obtain ⟨b, _, e⟩ := (F2.tree t1 m1).2 c hc; omega) e2
  have g3 : M3.log.length ≤ 6000 := by
   have := changes_logS t1.l M2 (-1)
   rw [e2] at this
   dsimp only at this
   omega
  obtain ⟨M4, M5, rc, h1, h2, h3, h5, h6, h7, h8⟩ := last M3 [t1, t2] t2.root F4 (by show 2 ≤ 2; decide) (fun t ht => by
   simp only [List.mem_cons, List.not_mem_nil, or_false] at ht
   rcases ht with rfl | rfl
   ·omega
   ·omega) (by show t1.P + 3 + (t2.P + 3 + 0) ≤ _; omega) (fun b => by show occ t1.l b + (occ t2.l b + 0) ≤ _; rw [q2]; omega) g3 ⟨t2, List.mem_cons_of_mem _ (List.mem_singleton.2 rfl), rfl, q2⟩
  exact ⟨M1, M1h, M2, M3, M4, M5, t0.root, t1.root, t2.root, rc, t0.l, t1.l, e0, eh, e1, fun _ => hb2, fun h => (by cases h), h1, h2, by rw [hlg]; omega, by omega, h3, q0.symm, q1.symm, ok t0 m0, ok t1 m1, h5, h6, h7, h8, len0, len1⟩
set_option maxRecDepth 100000

theorem run_equalIn_chg (d : Nat) (p q : Int × Int) (w : World) : (Op.equalIn (d + 2) 41 (.agg #[.int .i64 p.1, .int .i64 p.2]) (.agg #[.int .i64 q.1, .int .i64 q.2])).run Try.prog w = .ok (decide (p = q)) w := by
 obtain ⟨p1, p2⟩ := p
 obtain ⟨q1, q2⟩ := q
 have hi : ∀ w, (isAgg 3).run Try.prog w = .ok false w := fun w => by
  unfold isAgg
  rw [Sem.run_bind, run_underlying Try.underlying3 w]
  rfl
 have hS : Try.prog.underlying 41 = some (.struct (Try.prog.fieldsOf 41)) := by kernel_rfl
 have hp : Try.prog.stoodInHeld 41 = false := by kernel_rfl
 have hq : ∀ (a b : Int) w, (Op.equalIn (d + 1) 3 (.int .i64 a) (.int .i64 b)).run Try.prog w = .ok (a == b) w := fun a b w => run_equalIn_int w d 3 .i64 .i64 a b Try.underlying3
 rw [run_equalIn_struct w (d + 1) 41 _ _ hS hp]
 simp only [Program.fieldsOf, Try.underlying41]
 by_cases h1 : p1 = q1
 ·by_cases h2 : p2 = q2
  ·simp [Op.eqFields, part, hi, hq, h1, h2]
  ·simp [Op.eqFields, part, hi, hq, h1, h2]
 ·simp [Op.eqFields, part, hi, hq, h1]
theorem exec_neq_chg {o : Oper} {a : Act} {x y : Operand} {u : TypeId} (ho : o.op = .binOp .neq 41 x y u) (p q : Int × Int) (hx : a.eval x = .agg #[.int .i64 p.1, .int .i64 p.2]) (hy : a.eval y = .agg #[.int .i64 q.1, .int .i64 q.2]) (w : World) :
  (execOp a.eval o).run Try.prog w = .ok (.value (.bool (!decide (p = q)))) w := by
 unfold execOp
 have hm : Try.prog.eqGuardType Try.prog.depth 41 = false := by kernel_rfl
 have he := run_equalIn_chg 9998 p q w
 simp only [ho, hx, hy, Sem.run_bind, run_eqGuard_agg (hm := hm), Result.andThen_ok, run_neq_struct, he]
 rfl

set_option maxHeartbeats 4000000 in
theorem ref12Same {w : World} {va vb : Value} {a b : List (Int × Int)} (ha : EntsAt w va a) (hb : EntsAt w vb b) (hla : a.length ≤ 1000000) :
  Calls Try.prog 12 #[va, vb] w fun e w' => e = .returned (.bool (decide (a = b))) ∧ Kept (fun _ => False) w w' := by
 obtain ⟨Aa, ca, rfl, ha1, ha2⟩ := ha.form
 obtain ⟨Ab, cb, rfl, hb1, hb2⟩ := hb.form
 unfold maxLen at ha2 hb2
 by_cases hlen : a.length = b.length
 ·have hb' : EntsAt w (.slice Ab a.length cb) b := by rw [hlen]; exact hb
  have hr : Hid ((∀ k, k < a.length → a[k]? = b[k]?) → a = b) := h_ (fun h => List.ext_getElem? fun k => by
   by_cases hk : k < a.length
   ·exact h k hk
   ·rw [List.getElem?_eq_none (by omega), List.getElem?_eq_none (by omega)])
  have hn : Hid (∀ (k : Nat) (x y : Int × Int), a[k]? = some x → b[k]? = some y → x ≠ y → a ≠ b) := h_ (fun k x y hx hy hne e => by subst e; rw [hx] at hy; cases hy; exact hne rfl)
  have hlb : Hid (∀ k, k < a.length → ∃ y, b[k]? = some y) := h_ (fun k hk => ⟨_, List.getElem?_eq_getElem (by omega)⟩)
  rw [← hlen] at hb1 ⊢
  have ha' := h_ ha
  have hb'' := h_ hb'
  clear ha hb hb' hlen
  go_enter Try.func12, Try.ntmps12
  go_wp2_with fail
  go_loopw [13] (fun i wr => ∃ k : Nat, k ≤ a.length ∧ i = .int .i64 k ∧ Hid (∀ j, j < k → a[j]? = b[j]?) ∧ Kept (fun _ => False) w wr) (fun i _ => a.length - (intOf i).toNat)
  case atStart => exact ⟨0, Nat.zero_le _, rfl, h_ (fun j hj => by omega), Kept.refl _ _⟩
  case round =>
   obtain ⟨k, hk, rfl, hpre, hkk⟩ := hrel
   by_cases hlt : k < a.length
   ·obtain ⟨x, hx⟩ : ∃ x, a[k]? = some x := ⟨_, List.getElem?_eq_getElem hlt⟩
    obtain ⟨y, hy⟩ := hlb.out k hlt
    obtain ⟨ba, oa, rfl, hba, hx1, hx2⟩ := EntsAt.get (SliceAt.fresh ha'.out hkk) hx
    obtain ⟨bb, ob, rfl, hbb, hy1, hy2⟩ := EntsAt.get (SliceAt.fresh hb''.out hkk) hy
    have hki : (k : Int) < (a.length : Int) := by omega
    have lx : Hid (∀ W, Kept (fun _ => False) wr W → ∀ j v, [Value.int .i64 x.1, .int .i64 x.2][j]? = some v → W.cell? ⟨ba, oa + k * 2 + j, none⟩ = some v) := h_ (fun W hW j v hj => by
     match j, hj with
     | 0, hj => cases hj; exact hW.cell hx1 id
     | 1, hj => cases hj; exact hW.cell hx2 id)
    have ly : Hid (∀ W, Kept (fun _ => False) wr W → ∀ j v, [Value.int .i64 y.1, .int .i64 y.2][j]? = some v → W.cell? ⟨bb, ob + k * 2 + j, none⟩ = some v) := h_ (fun W hW j v hj => by
     match j, hj with
     | 0, hj => cases hj; exact hW.cell hy1 id
     | 1, hj => cases hj; exact hW.cell hy2 id)
    have hx' := h_ hx
    have hy' := h_ hy
    have hkk' := h_ hkk
    clear hx hy hx1 hx2 hy1 hy2 hkk
    go_wp2_with fail
    refine wp_region_quiet (C := fun w' => Kept (fun _ => False) wr w') (by kernel_rfl) (by kernel_rfl) (Kept.refl _ _).drew ?_
    refine wpQuiet_step (fun K hK => ?_); go_simp; refine ⟨_, fun _ _ => rfl, hK _ ?_⟩; clear hK K
    refine wpQuiet_step (fun K hK => ?_); go_simp; refine ⟨_, fun _ _ => rfl, hK _ ?_⟩; clear hK K
    refine wpQuiet_step (fun K hK => ?_); go_simp; refine ⟨_, fun _ _ => rfl, hK _ ?_⟩; clear hK K
    refine wpQuiet_step (fun K hK => ?_); refine q_on rfl (q_val (.agg [Value.int .i64 x.1, .int .i64 x.2].toArray) (fun W hW => exec_load_agg (g := ba) (off := oa + k * 2) rfl rfl [.int .i64 x.1, .int .i64 x.2] Try.underlying41 rfl (by kernel_rfl) (lx.out W hW)) (hK _ ?_)); clear hK K
    refine wpQuiet_step (fun K hK => ?_); go_simp; refine ⟨_, fun _ _ => rfl, hK _ ?_⟩; clear hK K
    refine wpQuiet_step (fun K hK => ?_); go_simp; refine ⟨_, fun _ _ => rfl, hK _ ?_⟩; clear hK K
    refine wpQuiet_step (fun K hK => ?_); go_simp; refine ⟨_, fun _ _ => rfl, hK _ ?_⟩; clear hK K
    refine wpQuiet_step (fun K hK => ?_); refine q_on rfl (q_val (.agg [Value.int .i64 y.1, .int .i64 y.2].toArray) (fun W hW => exec_load_agg (g := bb) (off := ob + k * 2) rfl rfl [.int .i64 y.1, .int .i64 y.2] Try.underlying41 rfl (by kernel_rfl) (ly.out W hW)) (hK _ ?_)); clear hK K
    obtain ⟨z, hz⟩ : ∃ z, decide (x = y) = z := ⟨_, rfl⟩
    refine wpQuiet_step (fun K hK => ?_); refine q_on rfl (q_val (.bool (!z)) (fun W hW => by rw [← hz]; exact exec_neq_chg rfl x y rfl rfl W) (hK _ ?_)); clear hK K
    refine wpQuiet_nil ?_
    intro w9 hw9
    have hw9' := h_ hw9
    clear hw9 lx ly
    cases z with
    | true =>
     have hxy := of_decide_eq_true hz
     clear hz
     go_wp2_with fail
     go_roundw
     case rel => exact ⟨k + 1, by omega, by go_num, h_ (fun j hj => by
      by_cases e : j = k
      ·rw [e, hx'.out, hy'.out, hxy]
      ·exact hpre.out j (by omega)), hkk'.out.trans hw9'.out⟩
     case measure => simp [intOf]; omega
    | false =>
     have he : Hid (decide (a = b) = false) := h_ (by rw [decide_eq_false_iff_not]; exact hn.out k x y hx'.out hy'.out (of_decide_eq_false hz))
     clear hz
     go_wp2_with fail
     go_ret
     exact ⟨by rw [he.out]; rfl, hkk'.out.trans hw9'.out⟩
   ·obtain rfl : k = a.length := by omega
    have he : Hid (decide (a = b) = true) := h_ (by simpa using hr.out hpre.out)
    go_wp2_with fail
    go_ret
    exact ⟨by rw [he.out]; rfl, hkk⟩
 ·have he : Hid (decide (a = b) = false) := h_ (by rw [decide_eq_false_iff_not]; exact fun e => hlen (by rw [e]))
  clear ha hb
  go_enter Try.func12, Try.ntmps12
  go_wp2_with fail
  go_ret
  exact ⟨by rw [he.out]; rfl, Kept.refl _ _⟩

def chU (la lb : List (Int × Int)) (k : Nat) : List (Int × Int) := (List.range k).filterMap fun (k : Nat) => if findL la (k : Int) = findL lb (k : Int) then none else some ((k : Int), findL lb (k : Int))
theorem chU_same {la lb : List (Int × Int)} {k : Nat} (h : findL la (k : Int) = findL lb (k : Int)) : chU la lb (k + 1) = chU la lb k := by
 unfold chU
 rw [List.range_succ, List.filterMap_append, List.filterMap_cons, if_pos h, List.filterMap_nil, List.append_nil]
theorem chU_more {la lb : List (Int × Int)} {k : Nat} {y : Int} (h : findL la (k : Int) ≠ findL lb (k : Int)) (hy : findL lb (k : Int) = y) : chU la lb (k + 1) = chU la lb k ++ [((k : Int), y)] := by
 unfold chU
 rw [List.range_succ, List.filterMap_append, List.filterMap_cons, if_neg h, List.filterMap_nil, hy]
theorem chU_len (la lb : List (Int × Int)) (k : Nat) : (chU la lb k).length ≤ k := by
 unfold chU
 exact Nat.le_trans (List.length_filterMap_le _ _) (by rw [List.length_range]; exact Nat.le_refl _)
structure ChuAt (w0 : World) (la lb : List (Int × Int)) (k : Nat) (u : Value) (wr : World) : Prop where
 kept : Kept (fun _ => False) w0 wr
 row : wr.ownsRow w0.heap.size 41 2 u (chU la lb k).length (entCells (chU la lb k))
theorem ChuAt.fresh {w0 wr w' : World} {la lb : List (Int × Int)} {k : Nat} {u : Value} (h : ChuAt w0 la lb k u wr) (k' : Kept (fun _ => False) wr w') : ChuAt w0 la lb k u w' := ⟨h.kept.trans k', ownsRow.keptOf h.row k' (fun _ _ => id)⟩
set_option maxHeartbeats 8000000 in
theorem ref12Changes {w : World} {va vb : Value} {la lb : List (Int × Int)} (ha : EntsAt w va la) (hb : EntsAt w vb lb) (hla : la.length ≤ 1000) (hlb : lb.length ≤ 1000) :
  Calls Try.prog 13 #[va, vb] w fun e w' => ∃ v, e = .returned v ∧ w'.ownsRow w.heap.size 41 2 v (changesL la lb).length (entCells (changesL la lb)) ∧ Kept (fun _ => False) w w' := by
 obtain ⟨Aa, ca, rfl, ha1, ha2⟩ := ha.form
 obtain ⟨Ab, cb, rfl, hb1, hb2⟩ := hb.form
 unfold maxLen at ha2 hb2
 have ha' := h_ ha
 have hb' := h_ hb
 have h64 : Hid (changesL la lb = chU la lb 64) := h_ rfl
 clear ha hb
 go_enter Try.func13, Try.ntmps13
 go_wp2_with fail
 have I0 : Hid (ChuAt w la lb 0 (.slice (some ⟨w.heap.size, 0, none⟩) 0 0) (w.alloc (.cells #[] 41))) := h_ ⟨(Kept.refl _ _).alloc _, owns_empty w w.heap.size w.heap.size 41 2 (Nat.le_refl _) rfl⟩
 go_loopw [5, 6] (fun u i wr => ∃ (k : Nat), k ≤ 64 ∧ i = .int .i64 k ∧ Hid (ChuAt w la lb k u wr)) (fun _ i _ => 64 - (intOf i).toNat)
 case atStart => exact ⟨0, Nat.zero_le _, rfl, I0⟩
 case round =>
  obtain ⟨k, hk, rfl, hI⟩ := hrel
  obtain ⟨Au, cu, rfl, hu1, hu2⟩ := EntsAt.form (show EntsAt wr _ (chU la lb k) from SliceAt.of_owns hI.out.row)
  unfold maxLen at hu2
  by_cases hlt : k < 64
  ·have hki : (k : Int) < 64 := by omega
   have hc1 := h_ (refFind10 (SliceAt.fresh ha'.out hI.out.kept) hla (k : Int))
   go_wp2_with fail
   refine hc1.out.mono ?_
   rintro e w1 ⟨rfl, k1⟩
   have I1 := h_ (hI.out.fresh k1)
   clear hI k1 hc1
   have hc2 := h_ (refFind10 (SliceAt.fresh hb'.out I1.out.kept) hlb (k : Int))
   go_wp2_with fail
   refine hc2.out.mono ?_
   rintro e w2 ⟨rfl, k2⟩
   have I2 := h_ (I1.out.fresh k2)
   clear I1 k2 hc2
   obtain ⟨x, hx⟩ : ∃ x, findL la (k : Int) = x := ⟨_, rfl⟩
   obtain ⟨y, hy⟩ : ∃ y, findL lb (k : Int) = y := ⟨_, rfl⟩
   rw [hx, hy]
   have hcl := chU_len la lb k
   by_cases e : x = y
   ·have hne : (x != y) = false := by simp [e]
    have hn := chU_same (hx.trans (e.trans hy.symm))
    have fin : Hid (ChuAt w la lb (k + 1) (.slice Au (chU la lb k).length cu) w2) := h_ (by
     have h := I2.out
     exact ⟨h.kept, by rw [hn]; exact h.row⟩)
    clear hx hy e hn I2
    go_wp2_with fail
    go_roundw
    case rel => exact ⟨k + 1, by omega, by go_num, fin⟩
    case measure => simp [intOf]; omega
   ·have hne : (x != y) = true := by simp [e]
    have hn := h_ (chU_more (y := y) (by rw [hx, hy]; exact e) hy)
    have R2 := h_ I2.out.row
    have K2 := h_ I2.out.kept
    clear hx hy e I2
    go_wp2_with (at_builtin; refine wpList_append_src rfl elemChange (.tmp 23) (.tmp 27) rfl (by rfl) (by rfl) (ownsRow.keptOf R2.out ((Kept.refl _ _).alloc _) (fun _ _ => id)) (SliceAt.block_new (ys := [.int .i64 (k : Int), .int .i64 y]) (m := 1) (heap_alloc_new _ _) rfl (by decide)) (by intro c hc; simp at hc; rcases hc with rfl | rfl <;> rfl) (by omega) (by omega) (Nat.le_trans K2.out.size ((Kept.refl (fun _ => False) _).alloc _).size) ?_; intro v7 w7 hown7 hg7 hat7)
    have fin : Hid (ChuAt w la lb (k + 1) v7 w7) := h_ (by
     have R3 := ownsRow.keptOf R2.out ((Kept.refl (fun _ => False) w2).alloc (.cells #[.int .i64 (k : Int), .int .i64 y] 41)) (fun _ _ => id)
     have K3 := K2.out.trans ((Kept.refl (fun _ => False) w2).alloc (.cells #[.int .i64 (k : Int), .int .i64 y] 41))
     exact ⟨K3.trans_new (Kept.of_grown hg7) (fun i hi e => absurd hi (Nat.not_lt.2 (R3.lt i e).1)), by rw [hn.out, entCells_append, List.length_append]; exact hown7⟩)
    clear hown7 hg7 hat7
    go_wp2_with fail
    go_roundw
    case rel => exact ⟨k + 1, by omega, by go_num, fin⟩
    case measure => simp [intOf]; omega
  ·obtain rfl : k = 64 := by omega
   have hI' := h_ hI.out
   clear hI
   go_wp2_with fail
   go_ret
   exact ⟨_, rfl, by rw [h64.out]; exact hI'.out.row, hI'.out.kept⟩

set_option maxHeartbeats 16000000 in
theorem two12_long0 {w : World} {A : SA} {M : SM} (h : StoreAt w A M) {ns : List Nat} (hns : ns.length = 4) {vp v0 v1 : Value} {l0 l1 : List (Int × Int)} (hp : PagesAt w vp ns A) (hv0 : EntsOff w A v0 l0) (hv1 : EntsOff w A v1 l1) (hl0 : 70 < l0.length) :
  Calls Try.prog 7 #[.agg #[.pointer (some ⟨A.sb, 0, none⟩)], vp, .agg #[v0, v1]] w fun e w' => ∃ A' M' a b X0 n0 c0 X1 n1 c1, e = .returned (.tuple #[.agg #[.int .i64 a, .int .i64 b], .agg #[.slice X0 n0 c0, .slice X1 n1 c1], .bool false]) ∧ StoreTo A A' M' w w' := by
 obtain ⟨A0, c0, rfl, ha1, ha2⟩ := hv0.at_.form
 obtain ⟨A1, c1, rfl, hb1, hb2⟩ := hv1.at_.form
 obtain ⟨_, Ap, cp, rfl, hp1, hp2, _⟩ := id hp.at_
 unfold maxLen at ha2 hb2 hp2
 have hne : ns ≠ [] := fun e => by rw [e] at hns; cases hns
 obtain ⟨sb, hsb⟩ : ∃ sb, A.sb = sb := ⟨_, rfl⟩
 obtain ⟨db, hdb⟩ : ∃ b, w.heap.size = b := ⟨_, rfl⟩
 obtain ⟨w1, hw1⟩ : ∃ u, w.alloc (.cells #[.pointer (some ⟨sb, 0, none⟩)] 31) = u := ⟨_, rfl⟩
 obtain ⟨lb, hlb⟩ : ∃ b, w1.heap.size = b := ⟨_, rfl⟩
 obtain ⟨w2, hw2⟩ : ∃ u, w1.alloc (.cells #[.slice A0 l0.length c0, .slice A1 l1.length c1] 23) = u := ⟨_, rfl⟩
 obtain ⟨rr, hrr⟩ : ∃ b, w2.heap.size = b := ⟨_, rfl⟩
 obtain ⟨w3, hw3⟩ : ∃ u, w2.alloc (.cells #[.int .i64 0, .int .i64 0] 35) = u := ⟨_, rfl⟩
 obtain ⟨lr, hlr⟩ : ∃ b, w3.heap.size = b := ⟨_, rfl⟩
 obtain ⟨w4, hw4⟩ : ∃ u, w3.alloc (.cells #[.slice none 0 0, .slice none 0 0] 37) = u := ⟨_, rfl⟩
 obtain ⟨rB, hrB⟩ : ∃ b, w4.heap.size = b := ⟨_, rfl⟩
 obtain ⟨w5, hw5⟩ : ∃ u, (w4.alloc (.cells #[.int .i64 0, .int .i64 0] 35)).setRow rB #[.int .i64 (-1), .int .i64 (-1)] = u := ⟨_, rfl⟩
 obtain ⟨lB, hlB⟩ : ∃ b, w5.heap.size = b := ⟨_, rfl⟩
 obtain ⟨w6, hw6⟩ : ∃ u, (w5.alloc (.cells #[.slice none 0 0, .slice none 0 0] 37)).setRow lB #[.slice none 0 0, .slice none 0 0] = u := ⟨_, rfl⟩
 have k1 : Kept (fun _ => False) w w1 := by rw [← hw1]; exact (Kept.refl _ _).alloc _
 have k2 : Kept (fun _ => False) w1 w2 := by rw [← hw2]; exact (Kept.refl _ _).alloc _
 have k3 : Kept (fun _ => False) w2 w3 := by rw [← hw3]; exact (Kept.refl _ _).alloc _
 have k4 : Kept (fun _ => False) w3 w4 := by rw [← hw4]; exact (Kept.refl _ _).alloc _
 have k5 : Kept (fun _ => False) w4 w5 := by rw [← hw5]; exact ((Kept.refl _ _).alloc _).setRowNew (by omega) _
 have k6 : Kept (fun _ => False) w5 w6 := by rw [← hw6]; exact ((Kept.refl _ _).alloc _).setRowNew (by omega) _
 have q1 : w1.heap[db]? = some (.cells #[.pointer (some ⟨sb, 0, none⟩)] 31 (0, 0)) := by rw [← hw1, ← hdb]; exact heap_alloc_new _ _
 have q2 : w2.heap[lb]? = some (.cells #[.slice A0 l0.length c0, .slice A1 l1.length c1] 23 (0, 0)) := by rw [← hw2, ← hlb]; exact heap_alloc_new _ _
 have q3 : w3.heap[rr]? = some (.cells #[.int .i64 0, .int .i64 0] 35 (0, 0)) := by rw [← hw3, ← hrr]; exact heap_alloc_new _ _
 have q4 : w4.heap[lr]? = some (.cells #[.slice none 0 0, .slice none 0 0] 37 (0, 0)) := by rw [← hw4, ← hlr]; exact heap_alloc_new _ _
 have q5 : w5.heap[rB]? = some (.cells #[.int .i64 (-1), .int .i64 (-1)] 35 (0, 0)) := by rw [← hw5, ← hrB]; exact setRow_heap _ _ _ _ _ _ (heap_alloc_new _ _)
 have q6 : w6.heap[lB]? = some (.cells #[.slice none 0 0, .slice none 0 0] 37 (0, 0)) := by rw [← hw6, ← hlB]; exact setRow_heap _ _ _ _ _ _ (heap_alloc_new _ _)
 have e1 := lt_of_heap q1
 have e2 := lt_of_heap q2
 have e3 := lt_of_heap q3
 have e4 := lt_of_heap q4
 have e5 := lt_of_heap q5
 have e6 := lt_of_heap q6
 have K6 := ((((k1.trans k2).trans k3).trans k4).trans k5).trans k6
 have hord : w.heap.size ≤ db ∧ db < lb ∧ lb < rr ∧ rr < lr ∧ lr < rB ∧ rB < lB := by omega
 have hIn : Hid (TwoIn w.heap.size db lb rr lr rB lB (.slice A0 l0.length c0) (.slice A1 l1.length c1) (.slice Ap ns.length cp) l0 l1) := h_ ⟨hord, fun hl b hb => (hv0.off hl b hb).1, fun hl b hb => (hv1.off hl b hb).1, fun b hb => (hp.off hne b hb).1⟩
 have S0 : Hid (∃ B, TwoSt w A sb db lb rr lr rB lB (.slice A0 l0.length c0) (.slice A1 l1.length c1) (.slice Ap ns.length cp) ns l0 l1 (-1) (-1) (.slice none 0 0) (.slice none 0 0) w6 B M) := h_ ⟨A, (StoreTo.refl h).fresh K6, ((((k2.trans k3).trans k4).trans k5).trans k6).get q1 id, (((k3.trans k4).trans k5).trans k6).get q2 id, ((k4.trans k5).trans k6).get q3 id, (k5.trans k6).get q4 id, k6.get q5 id, q6, fun b hb => ⟨by simp at hb; omega, fun e => by have := h.lt e; simp at hb; omega⟩, hv0.fresh K6, hv1.fresh K6, hp.fresh K6⟩
 have hp4 := h_ hp
 have hw1' := h_ hw1
 have hw2' := h_ hw2
 have hw3' := h_ hw3
 have hw4' := h_ hw4
 have hw5' := h_ hw5
 have hw6' := h_ hw6
 have hdb' := h_ hdb
 have hlb' := h_ hlb
 have hrr' := h_ hrr
 have hlr' := h_ hlr
 have hrB' := h_ hrB
 have hlB' := h_ hlB
 have hsb' := h_ hsb
 rw [hsb]
 clear h hp hv0 hv1 hw1 hw2 hw3 hw4 hw5 hw6 hdb hlb hrr hlr hrB hlB k1 k2 k3 k4 k5 k6 q1 q2 q3 q4 q5 q6 e1 e2 e3 e4 e5 e6 K6 hord hsb
 go_enter Try.func7, Try.ntmps7
 go_wp2_with (first | (refine wpList_box_named 31 rfl rfl _ rfl hw1'.out ?_; rw [hdb'.out]) | (refine wpList_box_named 23 rfl rfl _ rfl hw2'.out ?_; rw [hlb'.out]) | (refine wpList_alloc_as 35 rfl rfl #[.int .i64 0, .int .i64 0] (by kernel_rfl) ?_; first | rw [hw3'.out, hrr'.out] | rw [hrB'.out]) | (refine wpList_alloc_as 37 rfl rfl #[.slice none 0 0, .slice none 0 0] (by kernel_rfl) ?_; first | rw [hw4'.out, hlr'.out] | rw [hlB'.out]) | (refine wpList_store_whole 35 rfl rfl rfl [.int .i64 (-1), .int .i64 (-1)] rfl (by kernel_rfl) 35 #[.int .i64 0, .int .i64 0] (by rw [← hrB'.out]; exact heap_alloc_new _ _) rfl (by intro c hc; simp at hc; subst hc; rfl) ?_; rw [hw5'.out]) | (refine wpList_store_whole 37 rfl rfl rfl [.slice none 0 0, .slice none 0 0] rfl (by kernel_rfl) 37 #[.slice none 0 0, .slice none 0 0] (by rw [← hlB'.out]; exact heap_alloc_new _ _) rfl (by intro c hc; simp at hc; subst hc; rfl) ?_; rw [hw6'.out]))
 go_loopw [23] (fun i wr => i = .int .i64 0 ∧ Hid (∃ B, TwoSt w A sb db lb rr lr rB lB (.slice A0 l0.length c0) (.slice A1 l1.length c1) (.slice Ap ns.length cp) ns l0 l1 (-1) (-1) (.slice none 0 0) (.slice none 0 0) wr B M)) (fun i _ => (2 - intOf i).toNat)
 case atStart => exact ⟨rfl, S0⟩
 case round =>
  obtain ⟨rfl, hI⟩ := hrel
  obtain ⟨B, St⟩ := hI.out
  have clj := cell_of_heap St.cl 0
  simp at clj
  have dl : decide ((70 : Int) < (l0.length : Int)) = true := decide_eq_true (by omega)
  have S := h_ St
  have Sd := h_ (S.out.fresh (Kept.refl _ _).drew)
  obtain ⟨o1, o2, o3, o4, o5, o6⟩ := hIn.out.ord
  clear hI St
  go_wp2_with fail
  refine wp_region_held_drew (S := fun W => W.heap[rB]? = some (.cells #[.int .i64 (-1), .int .i64 (-1)] 35 (0, 0)) ∧ W.heap[lB]? = some (.cells #[.slice none 0 0, .slice none 0 0] 37 (0, 0))) (by kernel_rfl) ⟨Sd.out.c9, Sd.out.c10⟩ (fun hS => ?_)
  refine wpAnyH_take (i := 0) (v := .agg #[.int .i64 (-1), .int .i64 (-1)]) rfl (by kernel_rfl) (by kernel_rfl) (by kernel_rfl) (fun _ _ _ h => h) (Or.inl ⟨by rfl, fun W hW => exec_load_agg rfl (by rfl) [.int .i64 (-1), .int .i64 (-1)] Try.underlying35 rfl (by kernel_rfl) (fun j v hj => by rw [Nat.zero_add, cell_of_heap hW.1]; simpa using hj)⟩) (by assumption) ?_
  simp only [Act.put, q1_, q2_, q3_, List.setIfInBounds_toArray, q5_, q6_]
  refine wpAnyH_take (i := 1) (v := .agg #[.slice none 0 0, .slice none 0 0]) rfl (by kernel_rfl) (by kernel_rfl) (by kernel_rfl) (fun _ _ _ h => h) (Or.inl ⟨by rfl, fun W hW => exec_load_agg rfl (by rfl) [.slice none 0 0, .slice none 0 0] Try.underlying37 rfl (by kernel_rfl) (fun j v hj => by rw [Nat.zero_add, cell_of_heap hW.2]; simpa using hj)⟩) (by assumption) ?_
  simp only [Act.put, q1_, q2_, q3_, List.setIfInBounds_toArray, q5_, q6_]
  refine wpAnyH_ready (rs := [2]) (by kernel_rfl) (by simp) ?_
  refine AllReadyH.cons rfl (fun K hK => ?_) AllReadyH.nil
  have k1 : Kept (fun j => j = rr) wr.drew (wr.drew.setRow rr #[.int .i64 (-1), .int .i64 (-1)]) := Kept.setRow (S := fun j => j = rr) (Kept.refl _ _) rfl _
  refine step_store_whole 35 rfl rfl (g := rr) (by rfl) [.int .i64 (-1), .int .i64 (-1)] rfl (by kernel_rfl) 35 #[.int .i64 0, .int .i64 0] Sd.out.c6 rfl (by intro c hc; simp at hc; (first | (rcases hc with rfl | rfl <;> rfl) | (subst hc; rfl))) ?_
  refine hK.out _ _ ⟨k1.get hS.1 (by omega), k1.get hS.2 (by omega)⟩ (fun hS2 => ?_)
  clear hK K
  try simp only [Act.put, q1_, q2_, q3_, List.setIfInBounds_toArray, q5_, q6_]
  have h2 := k1.get Sd.out.c7 (by omega)
  have h1 : (wr.drew.setRow rr #[.int .i64 (-1), .int .i64 (-1)]).heap[rr]? = some (.cells #[.int .i64 (-1), .int .i64 (-1)] _ (0, 0)) := setRow_heap _ _ _ _ _ _ Sd.out.c6
  have k2 : Kept (fun j => j = lr) (wr.drew.setRow rr #[.int .i64 (-1), .int .i64 (-1)]) ((wr.drew.setRow rr #[.int .i64 (-1), .int .i64 (-1)]).setRow lr #[.slice none 0 0, .slice none 0 0]) := Kept.setRow (S := fun j => j = lr) (Kept.refl _ _) rfl _
  have g1 := k2.get h1 (by omega)
  have g2 : ((wr.drew.setRow rr #[.int .i64 (-1), .int .i64 (-1)]).setRow lr #[.slice none 0 0, .slice none 0 0]).heap[lr]? = some (.cells #[.slice none 0 0, .slice none 0 0] _ (0, 0)) := setRow_heap _ _ _ _ _ _ h2
  have ap : ∀ c ∈ [db, lb, rr, lr, rB, lB], ¬ B.own c := fun c hc => (Sd.out.ap c hc).off
  have fin : Hid (StoreTo A B M w ((wr.drew.setRow rr #[.int .i64 (-1), .int .i64 (-1)]).setRow lr #[.slice none 0 0, .slice none 0 0])) := h_ ((Sd.out.to_.apart k1 (ap rr (by simp)) (by omega)).apart k2 (ap lr (by simp)) (by omega))
  refine wpAnyH_ready (rs := [3]) (by kernel_rfl) (by simp) ?_
  refine AllReadyH.cons rfl (fun K hK => ?_) ?_
  ·refine step_store_whole 37 rfl rfl (g := lr) (by rfl) [.slice none 0 0, .slice none 0 0] rfl (by kernel_rfl) 37 #[.slice none 0 0, .slice none 0 0] h2 rfl (by intro c hc; simp at hc; (first | (rcases hc with rfl | rfl <;> rfl) | (subst hc; rfl))) ?_
   refine hK.out _ _ ⟨k2.get hS2.1 (by omega), k2.get hS2.2 (by omega)⟩ (fun hS3 => ?_)
   clear hK K
   try simp only [Act.put, q1_, q2_, q3_, List.setIfInBounds_toArray, q5_, q6_]
   refine wpAnyH_take (i := 4) (v := .bool false) rfl (by kernel_rfl) (by kernel_rfl) (by kernel_rfl) (fun _ _ _ h => h) (Or.inl ⟨by rfl, fun W hW => by go_simp⟩) (by assumption) ?_
   simp only [Act.put, q1_, q2_, q3_, List.setIfInBounds_toArray, q5_, q6_]
   refine wpAnyH_done (by kernel_rfl) ?_ _
   clear hS hS2 hS3 k1 k2 h1 h2
   go_wp2_with fail
   refine bodyPost_ret (results_two rfl _ _ rr lr 35 37 #[.int .i64 (-1), .int .i64 (-1)] #[.slice none 0 0, .slice none 0 0] (0, 0) (0, 0) _ _ rfl g1 Try.underlying35 rfl (by kernel_rfl) rfl g2 Try.underlying37 rfl (by kernel_rfl)) rfl ?_
   exact ⟨B, M, _, _, _, _, _, _, _, _, rfl, fin.out⟩
  exact AllReadyH.nil
set_option maxHeartbeats 16000000 in
theorem two12_long1 {w : World} {A : SA} {M M1 : SM} (h : StoreAt w A M) {ns : List Nat} (hns : ns.length = 4) {vp v0 v1 : Value} {l0 l1 : List (Int × Int)} (hp : PagesAt w vp ns A) (hv0 : EntsOff w A v0 l0) (hv1 : EntsOff w A v1 l1) (hl0 : l0.length ≤ 70) (hl1 : 70 < l1.length) {r0 : Int}
  (H0 : SM.changes (ownL ns l0) M (-1) = (M1, r0, 0)) (g0 : M.log.length ≤ 10000) :
  Calls Try.prog 7 #[.agg #[.pointer (some ⟨A.sb, 0, none⟩)], vp, .agg #[v0, v1]] w fun e w' => ∃ A' M' a b X0 n0 c0 X1 n1 c1, e = .returned (.tuple #[.agg #[.int .i64 a, .int .i64 b], .agg #[.slice X0 n0 c0, .slice X1 n1 c1], .bool false]) ∧ StoreTo A A' M' w w' := by
 obtain ⟨A0, c0, rfl, ha1, ha2⟩ := hv0.at_.form
 obtain ⟨A1, c1, rfl, hb1, hb2⟩ := hv1.at_.form
 obtain ⟨_, Ap, cp, rfl, hp1, hp2, _⟩ := id hp.at_
 unfold maxLen at ha2 hb2 hp2
 have hne : ns ≠ [] := fun e => by rw [e] at hns; cases hns
 obtain ⟨sb, hsb⟩ : ∃ sb, A.sb = sb := ⟨_, rfl⟩
 obtain ⟨db, hdb⟩ : ∃ b, w.heap.size = b := ⟨_, rfl⟩
 obtain ⟨w1, hw1⟩ : ∃ u, w.alloc (.cells #[.pointer (some ⟨sb, 0, none⟩)] 31) = u := ⟨_, rfl⟩
 obtain ⟨lb, hlb⟩ : ∃ b, w1.heap.size = b := ⟨_, rfl⟩
 obtain ⟨w2, hw2⟩ : ∃ u, w1.alloc (.cells #[.slice A0 l0.length c0, .slice A1 l1.length c1] 23) = u := ⟨_, rfl⟩
 obtain ⟨rr, hrr⟩ : ∃ b, w2.heap.size = b := ⟨_, rfl⟩
 obtain ⟨w3, hw3⟩ : ∃ u, w2.alloc (.cells #[.int .i64 0, .int .i64 0] 35) = u := ⟨_, rfl⟩
 obtain ⟨lr, hlr⟩ : ∃ b, w3.heap.size = b := ⟨_, rfl⟩
 obtain ⟨w4, hw4⟩ : ∃ u, w3.alloc (.cells #[.slice none 0 0, .slice none 0 0] 37) = u := ⟨_, rfl⟩
 obtain ⟨rB, hrB⟩ : ∃ b, w4.heap.size = b := ⟨_, rfl⟩
 obtain ⟨w5, hw5⟩ : ∃ u, (w4.alloc (.cells #[.int .i64 0, .int .i64 0] 35)).setRow rB #[.int .i64 (-1), .int .i64 (-1)] = u := ⟨_, rfl⟩
 obtain ⟨lB, hlB⟩ : ∃ b, w5.heap.size = b := ⟨_, rfl⟩
 obtain ⟨w6, hw6⟩ : ∃ u, (w5.alloc (.cells #[.slice none 0 0, .slice none 0 0] 37)).setRow lB #[.slice none 0 0, .slice none 0 0] = u := ⟨_, rfl⟩
 have k1 : Kept (fun _ => False) w w1 := by rw [← hw1]; exact (Kept.refl _ _).alloc _
 have k2 : Kept (fun _ => False) w1 w2 := by rw [← hw2]; exact (Kept.refl _ _).alloc _
 have k3 : Kept (fun _ => False) w2 w3 := by rw [← hw3]; exact (Kept.refl _ _).alloc _
 have k4 : Kept (fun _ => False) w3 w4 := by rw [← hw4]; exact (Kept.refl _ _).alloc _
 have k5 : Kept (fun _ => False) w4 w5 := by rw [← hw5]; exact ((Kept.refl _ _).alloc _).setRowNew (by omega) _
 have k6 : Kept (fun _ => False) w5 w6 := by rw [← hw6]; exact ((Kept.refl _ _).alloc _).setRowNew (by omega) _
 have q1 : w1.heap[db]? = some (.cells #[.pointer (some ⟨sb, 0, none⟩)] 31 (0, 0)) := by rw [← hw1, ← hdb]; exact heap_alloc_new _ _
 have q2 : w2.heap[lb]? = some (.cells #[.slice A0 l0.length c0, .slice A1 l1.length c1] 23 (0, 0)) := by rw [← hw2, ← hlb]; exact heap_alloc_new _ _
 have q3 : w3.heap[rr]? = some (.cells #[.int .i64 0, .int .i64 0] 35 (0, 0)) := by rw [← hw3, ← hrr]; exact heap_alloc_new _ _
 have q4 : w4.heap[lr]? = some (.cells #[.slice none 0 0, .slice none 0 0] 37 (0, 0)) := by rw [← hw4, ← hlr]; exact heap_alloc_new _ _
 have q5 : w5.heap[rB]? = some (.cells #[.int .i64 (-1), .int .i64 (-1)] 35 (0, 0)) := by rw [← hw5, ← hrB]; exact setRow_heap _ _ _ _ _ _ (heap_alloc_new _ _)
 have q6 : w6.heap[lB]? = some (.cells #[.slice none 0 0, .slice none 0 0] 37 (0, 0)) := by rw [← hw6, ← hlB]; exact setRow_heap _ _ _ _ _ _ (heap_alloc_new _ _)
 have e1 := lt_of_heap q1
 have e2 := lt_of_heap q2
 have e3 := lt_of_heap q3
 have e4 := lt_of_heap q4
 have e5 := lt_of_heap q5
 have e6 := lt_of_heap q6
 have K6 := ((((k1.trans k2).trans k3).trans k4).trans k5).trans k6
 have hord : w.heap.size ≤ db ∧ db < lb ∧ lb < rr ∧ rr < lr ∧ lr < rB ∧ rB < lB := by omega
 have hIn : Hid (TwoIn w.heap.size db lb rr lr rB lB (.slice A0 l0.length c0) (.slice A1 l1.length c1) (.slice Ap ns.length cp) l0 l1) := h_ ⟨hord, fun hl b hb => (hv0.off hl b hb).1, fun hl b hb => (hv1.off hl b hb).1, fun b hb => (hp.off hne b hb).1⟩
 have S0 : Hid (∃ B, TwoSt w A sb db lb rr lr rB lB (.slice A0 l0.length c0) (.slice A1 l1.length c1) (.slice Ap ns.length cp) ns l0 l1 (-1) (-1) (.slice none 0 0) (.slice none 0 0) w6 B M) := h_ ⟨A, (StoreTo.refl h).fresh K6, ((((k2.trans k3).trans k4).trans k5).trans k6).get q1 id, (((k3.trans k4).trans k5).trans k6).get q2 id, ((k4.trans k5).trans k6).get q3 id, (k5.trans k6).get q4 id, k6.get q5 id, q6, fun b hb => ⟨by simp at hb; omega, fun e => by have := h.lt e; simp at hb; omega⟩, hv0.fresh K6, hv1.fresh K6, hp.fresh K6⟩
 have hp4 := h_ hp
 have H0' := h_ H0
 have hw1' := h_ hw1
 have hw2' := h_ hw2
 have hw3' := h_ hw3
 have hw4' := h_ hw4
 have hw5' := h_ hw5
 have hw6' := h_ hw6
 have hdb' := h_ hdb
 have hlb' := h_ hlb
 have hrr' := h_ hrr
 have hlr' := h_ hlr
 have hrB' := h_ hrB
 have hlB' := h_ hlB
 have hsb' := h_ hsb
 rw [hsb]
 clear H0 h hp hv0 hv1 hw1 hw2 hw3 hw4 hw5 hw6 hdb hlb hrr hlr hrB hlB k1 k2 k3 k4 k5 k6 q1 q2 q3 q4 q5 q6 e1 e2 e3 e4 e5 e6 K6 hord hsb
 go_enter Try.func7, Try.ntmps7
 go_wp2_with (first | (refine wpList_box_named 31 rfl rfl _ rfl hw1'.out ?_; rw [hdb'.out]) | (refine wpList_box_named 23 rfl rfl _ rfl hw2'.out ?_; rw [hlb'.out]) | (refine wpList_alloc_as 35 rfl rfl #[.int .i64 0, .int .i64 0] (by kernel_rfl) ?_; first | rw [hw3'.out, hrr'.out] | rw [hrB'.out]) | (refine wpList_alloc_as 37 rfl rfl #[.slice none 0 0, .slice none 0 0] (by kernel_rfl) ?_; first | rw [hw4'.out, hlr'.out] | rw [hlB'.out]) | (refine wpList_store_whole 35 rfl rfl rfl [.int .i64 (-1), .int .i64 (-1)] rfl (by kernel_rfl) 35 #[.int .i64 0, .int .i64 0] (by rw [← hrB'.out]; exact heap_alloc_new _ _) rfl (by intro c hc; simp at hc; subst hc; rfl) ?_; rw [hw5'.out]) | (refine wpList_store_whole 37 rfl rfl rfl [.slice none 0 0, .slice none 0 0] rfl (by kernel_rfl) 37 #[.slice none 0 0, .slice none 0 0] (by rw [← hlB'.out]; exact heap_alloc_new _ _) rfl (by intro c hc; simp at hc; subst hc; rfl) ?_; rw [hw6'.out]))
 go_loopw [23] (fun i wr => (i = .int .i64 0 ∧ Hid (∃ B, TwoSt w A sb db lb rr lr rB lB (.slice A0 l0.length c0) (.slice A1 l1.length c1) (.slice Ap ns.length cp) ns l0 l1 (-1) (-1) (.slice none 0 0) (.slice none 0 0) wr B M)) ∨ (i = .int .i64 1 ∧ Hid (∃ B L0, TwoSt w A sb db lb rr lr rB lB (.slice A0 l0.length c0) (.slice A1 l1.length c1) (.slice Ap ns.length cp) ns l0 l1 r0 (-1) L0 (.slice none 0 0) wr B M1 ∧ ListAt lB wr B L0 ((ownL ns l0).foldl chgL [])))) (fun i _ => (2 - intOf i).toNat)
 case atStart => exact .inl ⟨rfl, S0⟩
 case round =>
  rcases hrel with ⟨rfl, hI⟩ | ⟨rfl, hI⟩
  ·obtain ⟨B, St⟩ := hI.out
   have hL := h_ (show True from trivial)
   have St0 := h_ St
   have clj := cell_of_heap St.cl 0
   simp at clj
   have dl : decide ((70 : Int) < (l0.length : Int)) = false := decide_eq_false (by omega)
   obtain ⟨wo, hwo⟩ : ∃ wo, wr.alloc (.cells #[] 41) = wo := ⟨_, rfl⟩
   have O0 : Hid (OwnSt wr ns l0 0 (.slice (some ⟨wr.heap.size, 0, none⟩) 0 0) wo) := h_ ⟨by rw [← hwo]; exact (Kept.refl _ _).alloc _, by rw [List.take_zero, ← hwo]; exact owns_empty wr wr.heap.size wr.heap.size 41 2 (Nat.le_refl _) rfl⟩
   have hwo' := h_ hwo
   have clo := cell_of_heap (((Kept.refl (fun _ => False) wr).alloc (.cells #[] 41)).get St.cl id) 0
   simp at clo
   clear hwo St
   go_wp2_with fail
   rw [hwo'.out]
   obtain ⟨wz, hwz⟩ : ∃ u, wr = u := ⟨_, rfl⟩
   rw [hwz] at hI St0 clj O0 hwo' ⊢
   clear hwz hI
   have St' := St0
   go_loopw [12, 38] (fun v i wr => ∃ (k : Nat), k ≤ l0.length ∧ i = .int .i64 k ∧ Hid (OwnSt wz ns l0 k v wr)) (fun _ i _ => l0.length - (intOf i).toNat)
   case atStart => exact ⟨0, Nat.zero_le _, rfl, O0⟩
   case round =>
    obtain ⟨k, hk, rfl, hO⟩ := hrel
    obtain ⟨_, Av, cv, rfl, hv1, hv2, _⟩ := SliceAt.of_owns hO.out.row
    unfold maxLen at hv2
    have hbnd := ownL_len ns (l0.take k)
    have hlk : (l0.take k).length ≤ 70 := by rw [List.length_take]; omega
    by_cases hlt : k < l0.length
    ·obtain ⟨x, hx⟩ : ∃ x, l0[k]? = some x := ⟨_, List.getElem?_eq_getElem hlt⟩
     obtain ⟨xk, xp⟩ := x
     have St := St'.out.fresh hO.out.kept
     obtain ⟨eb, eo, hA0, heb, hx0, hx1⟩ := St.e0.at_.get hx
     have hki : (k : Int) < (l0.length : Int) := by omega
     have hown := ownL_step (ns := ns) hx
     have hlo : Hid (∀ i v, [Value.int .i64 xk, .int .i64 xp][i]? = some v → wr.cell? ⟨eb, eo + k * 2 + i, none⟩ = some v) := h_ (fun i v hi => by
      match i, hi with
      | 0, hi => cases hi; exact hx0
      | 1, hi => cases hi; exact hx1)
     obtain ⟨xb, hxb⟩ : ∃ xb, wr.heap.size = xb := ⟨_, rfl⟩
     obtain ⟨wx, hwx⟩ : ∃ wx, (wr.alloc (.cells #[.int .i64 0, .int .i64 0] 41)).setRow xb #[.int .i64 xk, .int .i64 xp] = wx := ⟨_, rfl⟩
     have kx : Kept (fun _ => False) wr wx := by rw [← hwx]; exact ((Kept.refl _ _).alloc _).setRowNew (by omega) _
     have qx : wx.heap[xb]? = some (.cells #[.int .i64 xk, .int .i64 xp] 41 (0, 0)) := by rw [← hwx, ← hxb]; exact setRow_heap _ _ _ _ _ _ (heap_alloc_new _ _)
     have cx0 := cell_of_heap qx 0
     have cx1 := cell_of_heap qx 1
     simp at cx0 cx1
     have Ox := h_ (hO.out.fresh kx)
     have hxn : Hid (wz.heap.size ≤ xb) := h_ (by have := hO.out.kept.size; omega)
     have hxb' := h_ hxb
     have hwx' := h_ hwx
     by_cases h0 : 0 ≤ xk
     ·have d0 : decide (0 ≤ xk) = true := decide_eq_true h0
      by_cases h1 : xk < 64
      ·have d1 : decide (xk < 64) = true := decide_eq_true h1
       by_cases hm : xp = -1
       ·subst hm
        have hfin : Hid (ownL ns (l0.take (k + 1)) = ownL ns (l0.take k) ++ [(xk, -1)]) := h_ (by rw [hown, ownC_none h0 h1])
        have hlx : Hid (∀ i v, [Value.int .i64 xk, .int .i64 (-1)][i]? = some v → wx.cell? ⟨xb, 0 + i, none⟩ = some v) := h_ (fun i v hi => by rw [cell_of_heap qx, Nat.zero_add]; simpa using hi)
        subst hA0
        clear hx hx0 hx1 hO St hown kx qx hxb hwx heb
        go_wp2_with (first | (refine wpList_load_agg 41 rfl rfl rfl _ Try.underlying41 rfl [.int .i64 xk, .int .i64 (-1)] (by kernel_rfl) hlo.out ?_) | (refine wpList_load_agg 41 rfl rfl rfl _ Try.underlying41 rfl [.int .i64 xk, .int .i64 (-1)] (by kernel_rfl) hlx.out ?_) | (refine wpList_alloc_as 41 rfl rfl #[.int .i64 0, .int .i64 0] (by kernel_rfl) ?_; rw [hxb'.out]) | (refine wpList_store_whole 41 rfl rfl rfl [.int .i64 xk, .int .i64 (-1)] rfl (by kernel_rfl) 41 #[.int .i64 0, .int .i64 0] (by rw [← hxb'.out]; exact heap_alloc_new _ _) rfl (by intro c hc; simp at hc; rcases hc with rfl | rfl <;> rfl) ?_; rw [hwx'.out]) | (at_builtin; refine wpList_append_src rfl elemChange (.tmp 61) (.tmp 63) rfl (by rfl) (by rfl) (ownsRow.keptOf Ox.out.row ((Kept.refl (fun _ => False) wx).alloc _) (fun _ _ => id)) (SliceAt.block_new (ys := [.int .i64 xk, .int .i64 (-1)]) (m := 1) (heap_alloc_new _ _) rfl (by decide)) (by intro c hc; simp at hc; rcases hc with rfl | rfl <;> rfl) (by omega) (by omega) (Nat.le_trans Ox.out.kept.size ((Kept.refl (fun _ => False) _).alloc _).size) ?_; intro v7 w7 hown7 hg7 hat7))
        have fin : Hid (OwnSt wz ns l0 (k + 1) v7 w7) := h_ (Ox.out.more ((Kept.refl (fun _ => False) wx).alloc _) hfin.out hown7 hg7)
        clear hown7 hg7 hat7
        go_wp2_with fail
        go_roundw
        case rel => exact ⟨k + 1, by omega, by go_num, fin⟩
        case measure => simp [intOf] <;> omega
       ·have hb : (xp == -1) = false := by simp [hm]
        have hb2 : (xp != -1) = true := by simp [hm]
        obtain ⟨q, hq⟩ : ∃ q, clampQ xp = q := ⟨_, rfl⟩
        have hq4 : q < ns.length := by rw [hns, ← hq]; unfold clampQ; omega
        have hqc : max 0 (min xp 3) = (q : Int) := by rw [← hq]; unfold clampQ; omega
        obtain ⟨p, hp⟩ : ∃ p, ns[q]? = some p := ⟨_, List.getElem?_eq_getElem hq4⟩
        obtain ⟨pb, po, hAp, hpb, hcp⟩ := PagesAt.get (St.pg.fresh kx) hp
        have hfin : Hid (ownL ns (l0.take (k + 1)) = ownL ns (l0.take k) ++ [(xk, (p : Int))]) := h_ (by rw [hown, ownC_some h0 h1 hm (by rw [hq]; exact hp)])
        have hq3 : (q : Int) < 4 := by omega
        have fx := free_of_heap qx 1
        obtain ⟨wy, hwy⟩ : ∃ wy, wx.setCell ⟨xb, 1, none⟩ (.int .i64 (p : Int)) = wy := ⟨_, rfl⟩
        have ky : Kept (fun j => j = xb) wx wy := by rw [← hwy]; exact Kept.setCell (S := fun j => j = xb) (Kept.refl _ _) rfl _
        have qy : wy.heap[xb]? = some (.cells #[.int .i64 xk, .int .i64 (p : Int)] 41 (0, 0)) := by rw [← hwy, heap_setCell_same qx]; rfl
        have hly : Hid (∀ i v, [Value.int .i64 xk, .int .i64 (p : Int)][i]? = some v → wy.cell? ⟨xb, 0 + i, none⟩ = some v) := h_ (fun i v hi => by rw [cell_of_heap qy, Nat.zero_add]; simpa using hi)
        have Oy := h_ (hO.out.later kx ky (by omega) hxn.out)
        have hwy' := h_ hwy
        subst hA0 hAp
        clear hx hx0 hx1 hO St hown kx qx hxb hwx heb ky qy hwy hp hq hq4 hpb h0 h1 hm
        go_wp2_with (first | (refine wpList_load_agg 41 rfl rfl rfl _ Try.underlying41 rfl [.int .i64 xk, .int .i64 xp] (by kernel_rfl) hlo.out ?_) | (refine wpList_load_agg 41 rfl rfl rfl _ Try.underlying41 rfl [.int .i64 xk, .int .i64 (p : Int)] (by kernel_rfl) hly.out ?_) | (refine wpList_alloc_as 41 rfl rfl #[.int .i64 0, .int .i64 0] (by kernel_rfl) ?_; rw [hxb'.out]) | (refine wpList_store_whole 41 rfl rfl rfl [.int .i64 xk, .int .i64 xp] rfl (by kernel_rfl) 41 #[.int .i64 0, .int .i64 0] (by rw [← hxb'.out]; exact heap_alloc_new _ _) rfl (by intro c hc; simp at hc; rcases hc with rfl | rfl <;> rfl) ?_; rw [hwx'.out]) | (rw [hwy'.out]; refine wpList_load_agg 41 rfl rfl rfl _ Try.underlying41 rfl [.int .i64 xk, .int .i64 (p : Int)] (by kernel_rfl) hly.out ?_) | (at_builtin; refine wpList_append_src rfl elemChange (.tmp 61) (.tmp 63) rfl (by rfl) (by rfl) (ownsRow.keptOf Oy.out.row ((Kept.refl (fun _ => False) wy).alloc _) (fun _ _ => id)) (SliceAt.block_new (ys := [.int .i64 xk, .int .i64 (p : Int)]) (m := 1) (heap_alloc_new _ _) rfl (by decide)) (by intro c hc; simp at hc; rcases hc with rfl | rfl <;> rfl) (by omega) (by omega) (Nat.le_trans Oy.out.kept.size ((Kept.refl (fun _ => False) _).alloc _).size) ?_; intro v7 w7 hown7 hg7 hat7))
        have fin : Hid (OwnSt wz ns l0 (k + 1) v7 w7) := h_ (Oy.out.more ((Kept.refl (fun _ => False) wy).alloc _) hfin.out hown7 hg7)
        clear hown7 hg7 hat7
        go_wp2_with fail
        go_roundw
        case rel => exact ⟨k + 1, by omega, by go_num, fin⟩
        case measure => simp [intOf] <;> omega
      ·have d1 : decide (xk < 64) = false := decide_eq_false h1
       have fin : Hid (OwnSt wz ns l0 (k + 1) (.slice Av (ownL ns (l0.take k)).length cv) wx) := h_ (Ox.out.skip (by rw [hown, ownC_skip (by omega)]))
       subst hA0
       clear hx hx0 hx1 hO St hown kx qx hxb hwx heb
       go_wp2_with (first | (refine wpList_load_agg 41 rfl rfl rfl _ Try.underlying41 rfl [.int .i64 xk, .int .i64 xp] (by kernel_rfl) hlo.out ?_) | (refine wpList_alloc_as 41 rfl rfl #[.int .i64 0, .int .i64 0] (by kernel_rfl) ?_; rw [hxb'.out]) | (refine wpList_store_whole 41 rfl rfl rfl [.int .i64 xk, .int .i64 xp] rfl (by kernel_rfl) 41 #[.int .i64 0, .int .i64 0] (by rw [← hxb'.out]; exact heap_alloc_new _ _) rfl (by intro c hc; simp at hc; rcases hc with rfl | rfl <;> rfl) ?_; rw [hwx'.out]))
       go_roundw
       case rel => exact ⟨k + 1, by omega, by go_num, fin⟩
       case measure => simp [intOf] <;> omega
     ·have d0 : decide (0 ≤ xk) = false := decide_eq_false h0
      have fin : Hid (OwnSt wz ns l0 (k + 1) (.slice Av (ownL ns (l0.take k)).length cv) wx) := h_ (Ox.out.skip (by rw [hown, ownC_skip (by omega)]))
      subst hA0
      clear hx hx0 hx1 hO St hown kx qx hxb hwx heb
      go_wp2_with (first | (refine wpList_load_agg 41 rfl rfl rfl _ Try.underlying41 rfl [.int .i64 xk, .int .i64 xp] (by kernel_rfl) hlo.out ?_) | (refine wpList_alloc_as 41 rfl rfl #[.int .i64 0, .int .i64 0] (by kernel_rfl) ?_; rw [hxb'.out]) | (refine wpList_store_whole 41 rfl rfl rfl [.int .i64 xk, .int .i64 xp] rfl (by kernel_rfl) 41 #[.int .i64 0, .int .i64 0] (by rw [← hxb'.out]; exact heap_alloc_new _ _) rfl (by intro c hc; simp at hc; rcases hc with rfl | rfl <;> rfl) ?_; rw [hwx'.out]))
      go_roundw
      case rel => exact ⟨k + 1, by omega, by go_num, fin⟩
      case measure => simp [intOf] <;> omega
    ·obtain rfl : k = l0.length := by omega
     have hki : decide ((l0.length : Int) < (l0.length : Int)) = false := decide_eq_false (by omega)
     have hrow := hO.out.row
     have hkp := hO.out.kept
     rw [List.take_length] at hrow hbnd hv1 ⊢
     have S1 := h_ (St'.out.fresh hkp)
     obtain ⟨cs, hcs⟩ : ∃ cs, ownL ns l0 = cs := ⟨_, rfl⟩
     have hgood0 := ownL_good hns l0
     rw [hcs] at hrow hbnd hv1 hgood0 ⊢
     have hgood := h_ hgood0
     clear hgood0
     have EC : Hid (EntsOff wr B (.slice Av cs.length cv) cs) := h_ ⟨SliceAt.of_owns hrow, fun _ b hb => ⟨(hrow.lt b hb).2, fun e => by have := (hrow.lt b hb).1; have := St'.out.to_.store.lt (.inl e); omega⟩⟩
     have hH := H0'.out
     rw [hcs] at hH
     have hH' := h_ hH
     clear hH
     obtain ⟨we, hwe⟩ : ∃ we, wr.alloc (.cells #[] 58) = we := ⟨_, rfl⟩
     have ke : Kept (fun _ => False) wr we := by rw [← hwe]; exact (Kept.refl _ _).alloc _
     have S2 := h_ (S1.out.fresh ke)
     have EC2 := h_ (EC.out.fresh ke)
     have hfar : lB < wr.heap.size := (S1.out.ap lB (by simp)).lt
     have EN : Hid (ListAt lB we B (.slice (some ⟨wr.heap.size, 0, none⟩) 0 0) []) := h_ ⟨⟨sliceNil (Nat.zero_le _), fun h => absurd rfl h⟩, fun h => absurd rfl h⟩
     have hsz : lB < we.heap.size := Nat.lt_of_lt_of_le hfar ke.size
     have hwe' := h_ hwe
     have hcs' := h_ hcs
     clear hO hkp hrow ke hwe hcs
     have hLg : Hid (RisesK ([] : List (Int × Int)) ∧ ∀ y ∈ ([] : List (Int × Int)), 0 ≤ y.1 ∧ y.1 < 64) := h_ ⟨List.Pairwise.nil, fun y hy => by cases hy⟩
     have CA := diffApply S2.out.to_.store (-1) EC2.out (by omega) (by omega)
     rw [hH'.out, S2.out.to_.sb, hsb'.out] at CA
     have CA' : Hid (Calls Try.prog 15 #[.agg #[.pointer (some ⟨sb, 0, none⟩)], .int .i64 (-1), .slice Av cs.length cv] _ fun e w' => ∃ A', e = .returned (.tuple #[.int .i64 r0, .int .i64 0]) ∧ StoreTo B A' M1 _ w') := h_ CA
     have hld := h_ S2.out.load
     clear CA
     go_wp2_with (first | (rw [hwe'.out]; (refine wpList_load_agg 31 rfl rfl rfl _ Try.underlying31 rfl [.pointer (some ⟨sb, 0, none⟩)] (by kernel_rfl) hld.out ?_)) | (refine wpList_load_agg 31 rfl rfl rfl _ Try.underlying31 rfl [.pointer (some ⟨sb, 0, none⟩)] (by kernel_rfl) hld.out ?_))
     refine CA'.out.mono ?_
     rintro e wf ⟨B2, rfl, hT⟩
     have S3 := h_ (S2.out.to hne hT)
     have EC3 := h_ (EC2.out.to hT)
     have LI3 := h_ (EN.out.to hT)
     have hs3 : lB < wf.heap.size := (S3.out.ap lB (by simp)).lt
     have CB := h_ (ref12Apply LI3.out.off.at_ EC3.out.at_ hLg.out (by omega) (fun x hx => ⟨(hgood.out x hx).1, (hgood.out x hx).2.1⟩))
     clear hT hld
     go_wp2_with fail
     refine CB.out.mono ?_
     rintro e wg ⟨u, rfl, R⟩
     have S4 := h_ (S3.out.fresh R.kept)
     have LU := h_ (list_made S3.out.to_.store hs3 LI3.out R)
     obtain ⟨Au, cu, rfl, hu1, hu2⟩ := LU.out.off.at_.form
     have g9 := cell_of_heap S4.out.c9 0
     have f9 := free_of_heap S4.out.c9 0
     simp at g9
     have S5 := h_ (S4.out.roots hIn.out (o := 0) (v := .int .i64 r0) (s0 := r0) (s1 := (-1)) rfl)
     have g10 := cell_of_heap S5.out.c10 0
     have f10 := free_of_heap S5.out.c10 0
     simp at g10
     obtain ⟨wh, hwh⟩ : ∃ wh, (wg.setCell ⟨rB, 0, none⟩ (.int .i64 r0)).setCell ⟨lB, 0, none⟩ (.slice Au (cs.foldl chgL []).length cu) = wh := ⟨_, rfl⟩
     have kk1 : Kept (fun i => i = rB) wg (wg.setCell ⟨rB, 0, none⟩ (.int .i64 r0)) := Kept.setCell (S := fun i => i = rB) (Kept.refl _ _) rfl _
     have kk2 : Kept (fun i => i = lB) (wg.setCell ⟨rB, 0, none⟩ (.int .i64 r0)) wh := by rw [← hwh]; exact Kept.setCell (S := fun i => i = lB) (Kept.refl _ _) rfl _
     have hrl : rB ≤ lB := by have := hIn.out.ord; omega
     have fin : Hid (∃ B L0, TwoSt w A sb db lb rr lr rB lB (.slice A0 l0.length c0) (.slice A1 l1.length c1) (.slice Ap ns.length cp) ns l0 l1 r0 (-1) L0 (.slice none 0 0) wh B M1 ∧ ListAt lB wh B L0 ((ownL ns l0).foldl chgL [])) := h_ ⟨B2, _, by rw [← hwh]; exact S5.out.lists hIn.out rfl, by rw [hcs'.out]; exact (LU.out.apart kk1 hrl).apart kk2 (Nat.le_refl _)⟩
     have hwh' := h_ hwh
     clear R kk1 kk2 hwh
     go_wp2_with fail
     rw [hwh'.out]
     go_roundw
     case rel => exact .inr ⟨by first | rfl | go_num, fin⟩
     case measure => simp [intOf] <;> omega
  ·obtain ⟨B, L0, St, hL0⟩ := hI.out
   obtain ⟨AL, cL, rfl, hL1, hL2⟩ := hL0.off.at_.form
   obtain ⟨LL, hLL⟩ : ∃ LL, (ownL ns l0).foldl chgL [] = LL := ⟨_, rfl⟩
   rw [hLL] at St hL1
   clear hL0 hLL
   have clj := cell_of_heap St.cl 1
   simp at clj
   have dl : decide ((70 : Int) < (l1.length : Int)) = true := decide_eq_true (by omega)
   have S := h_ St
   have Sd := h_ (S.out.fresh (Kept.refl _ _).drew)
   obtain ⟨o1, o2, o3, o4, o5, o6⟩ := hIn.out.ord
   clear hI St
   go_wp2_with fail
   refine wp_region_held_drew (S := fun W => W.heap[rB]? = some (.cells #[.int .i64 r0, .int .i64 (-1)] 35 (0, 0)) ∧ W.heap[lB]? = some (.cells #[.slice AL LL.length cL, .slice none 0 0] 37 (0, 0))) (by kernel_rfl) ⟨Sd.out.c9, Sd.out.c10⟩ (fun hS => ?_)
   refine wpAnyH_take (i := 0) (v := .agg #[.int .i64 r0, .int .i64 (-1)]) rfl (by kernel_rfl) (by kernel_rfl) (by kernel_rfl) (fun _ _ _ h => h) (Or.inl ⟨by rfl, fun W hW => exec_load_agg rfl (by rfl) [.int .i64 r0, .int .i64 (-1)] Try.underlying35 rfl (by kernel_rfl) (fun j v hj => by rw [Nat.zero_add, cell_of_heap hW.1]; simpa using hj)⟩) (by assumption) ?_
   simp only [Act.put, q1_, q2_, q3_, List.setIfInBounds_toArray, q5_, q6_]
   refine wpAnyH_take (i := 1) (v := .agg #[.slice AL LL.length cL, .slice none 0 0]) rfl (by kernel_rfl) (by kernel_rfl) (by kernel_rfl) (fun _ _ _ h => h) (Or.inl ⟨by rfl, fun W hW => exec_load_agg rfl (by rfl) [.slice AL LL.length cL, .slice none 0 0] Try.underlying37 rfl (by kernel_rfl) (fun j v hj => by rw [Nat.zero_add, cell_of_heap hW.2]; simpa using hj)⟩) (by assumption) ?_
   simp only [Act.put, q1_, q2_, q3_, List.setIfInBounds_toArray, q5_, q6_]
   refine wpAnyH_ready (rs := [2]) (by kernel_rfl) (by simp) ?_
   refine AllReadyH.cons rfl (fun K hK => ?_) AllReadyH.nil
   have k1 : Kept (fun j => j = rr) wr.drew (wr.drew.setRow rr #[.int .i64 r0, .int .i64 (-1)]) := Kept.setRow (S := fun j => j = rr) (Kept.refl _ _) rfl _
   refine step_store_whole 35 rfl rfl (g := rr) (by rfl) [.int .i64 r0, .int .i64 (-1)] rfl (by kernel_rfl) 35 #[.int .i64 0, .int .i64 0] Sd.out.c6 rfl (by intro c hc; simp at hc; (first | (rcases hc with rfl | rfl <;> rfl) | (subst hc; rfl))) ?_
   refine hK.out _ _ ⟨k1.get hS.1 (by omega), k1.get hS.2 (by omega)⟩ (fun hS2 => ?_)
   clear hK K
   try simp only [Act.put, q1_, q2_, q3_, List.setIfInBounds_toArray, q5_, q6_]
   have h2 := k1.get Sd.out.c7 (by omega)
   have h1 : (wr.drew.setRow rr #[.int .i64 r0, .int .i64 (-1)]).heap[rr]? = some (.cells #[.int .i64 r0, .int .i64 (-1)] _ (0, 0)) := setRow_heap _ _ _ _ _ _ Sd.out.c6
   have k2 : Kept (fun j => j = lr) (wr.drew.setRow rr #[.int .i64 r0, .int .i64 (-1)]) ((wr.drew.setRow rr #[.int .i64 r0, .int .i64 (-1)]).setRow lr #[.slice AL LL.length cL, .slice none 0 0]) := Kept.setRow (S := fun j => j = lr) (Kept.refl _ _) rfl _
   have g1 := k2.get h1 (by omega)
   have g2 : ((wr.drew.setRow rr #[.int .i64 r0, .int .i64 (-1)]).setRow lr #[.slice AL LL.length cL, .slice none 0 0]).heap[lr]? = some (.cells #[.slice AL LL.length cL, .slice none 0 0] _ (0, 0)) := setRow_heap _ _ _ _ _ _ h2
   have ap : ∀ c ∈ [db, lb, rr, lr, rB, lB], ¬ B.own c := fun c hc => (Sd.out.ap c hc).off
   have fin : Hid (StoreTo A B M1 w ((wr.drew.setRow rr #[.int .i64 r0, .int .i64 (-1)]).setRow lr #[.slice AL LL.length cL, .slice none 0 0])) := h_ ((Sd.out.to_.apart k1 (ap rr (by simp)) (by omega)).apart k2 (ap lr (by simp)) (by omega))
   refine wpAnyH_ready (rs := [3]) (by kernel_rfl) (by simp) ?_
   refine AllReadyH.cons rfl (fun K hK => ?_) ?_
   ·refine step_store_whole 37 rfl rfl (g := lr) (by rfl) [.slice AL LL.length cL, .slice none 0 0] rfl (by kernel_rfl) 37 #[.slice none 0 0, .slice none 0 0] h2 rfl (by intro c hc; simp at hc; (first | (rcases hc with rfl | rfl <;> rfl) | (subst hc; rfl))) ?_
    refine hK.out _ _ ⟨k2.get hS2.1 (by omega), k2.get hS2.2 (by omega)⟩ (fun hS3 => ?_)
    clear hK K
    try simp only [Act.put, q1_, q2_, q3_, List.setIfInBounds_toArray, q5_, q6_]
    refine wpAnyH_take (i := 4) (v := .bool false) rfl (by kernel_rfl) (by kernel_rfl) (by kernel_rfl) (fun _ _ _ h => h) (Or.inl ⟨by rfl, fun W hW => by go_simp⟩) (by assumption) ?_
    simp only [Act.put, q1_, q2_, q3_, List.setIfInBounds_toArray, q5_, q6_]
    refine wpAnyH_done (by kernel_rfl) ?_ _
    clear hS hS2 hS3 k1 k2 h1 h2
    go_wp2_with fail
    refine bodyPost_ret (results_two rfl _ _ rr lr 35 37 #[.int .i64 r0, .int .i64 (-1)] #[.slice AL LL.length cL, .slice none 0 0] (0, 0) (0, 0) _ _ rfl g1 Try.underlying35 rfl (by kernel_rfl) rfl g2 Try.underlying37 rfl (by kernel_rfl)) rfl ?_
    exact ⟨B, M1, _, _, _, _, _, _, _, _, rfl, fin.out⟩
   exact AllReadyH.nil

theorem run_equalIn_change (d : Nat) (p q : Int × Int) (w : World) : (Op.equalIn (d + 2) 41 (.agg #[.int .i64 p.1, .int .i64 p.2]) (.agg #[.int .i64 q.1, .int .i64 q.2])).run Try.prog w = .ok (decide (p = q)) w := by
 obtain ⟨p1, p2⟩ := p
 obtain ⟨q1, q2⟩ := q
 have hi : ∀ w, (isAgg 3).run Try.prog w = .ok false w := fun w => by
  unfold isAgg
  rw [Sem.run_bind, run_underlying Try.underlying3 w]
  rfl
 have hS : Try.prog.underlying 41 = some (.struct (Try.prog.fieldsOf 41)) := by kernel_rfl
 have hp : Try.prog.stoodInHeld 41 = false := by kernel_rfl
 have hq : ∀ (a b : Int) w, (Op.equalIn (d + 1) 3 (.int .i64 a) (.int .i64 b)).run Try.prog w = .ok (a == b) w := fun a b w => run_equalIn_int w d 3 .i64 .i64 a b Try.underlying3
 rw [run_equalIn_struct w (d + 1) 41 _ _ hS hp]
 simp only [Program.fieldsOf, Try.underlying41]
 by_cases h1 : p1 = q1
 ·by_cases h2 : p2 = q2
  ·simp [Op.eqFields, part, hi, hq, h1, h2]
  ·simp [Op.eqFields, part, hi, hq, h1, h2]
 ·simp [Op.eqFields, part, hi, hq, h1]
theorem exec_eql_change {o : Oper} {a : Act} {x y : Operand} {u : TypeId} (ho : o.op = .binOp .eql 41 x y u) (p q : Int × Int) (hx : a.eval x = .agg #[.int .i64 p.1, .int .i64 p.2]) (hy : a.eval y = .agg #[.int .i64 q.1, .int .i64 q.2]) (w : World) :
  (execOp a.eval o).run Try.prog w = .ok (.value (.bool (decide (p = q)))) w := by
 unfold execOp
 have hm : Try.prog.eqGuardType Try.prog.depth 41 = false := by kernel_rfl
 have he := run_equalIn_change 9998 p q w
 simp only [ho, hx, hy, Sem.run_bind, run_eqGuard_agg (hm := hm), Result.andThen_ok, run_eql_struct, he]
 rfl
structure DifSt (w0 : World) (db sb g p0 p1 p2 : Nat) (wr : World) (A : SA) (M : SM) : Prop where
 own : OwnStore w0 A M wr
 box : wr.heap[db]? = some (.cells #[.pointer (some ⟨sb, 0, none⟩)] 31 (0, 0))
 bsafe : Safe wr A db
 eq : A.sb = sb
 c0 : wr.cell? ⟨g, 0, none⟩ = some (.int .i64 p0)
 c1 : wr.cell? ⟨g, 0 + 1, none⟩ = some (.int .i64 p1)
 c2 : wr.cell? ⟨g, 0 + 2, none⟩ = some (.int .i64 p2)
 gsafe : Safe wr A g
theorem DifSt.fresh {w0 wr w' : World} {db sb g p0 p1 p2 : Nat} {A : SA} {M : SM} (h : DifSt w0 db sb g p0 p1 p2 wr A M) (k : Kept (fun _ => False) wr w') : DifSt w0 db sb g p0 p1 p2 w' A M :=
 ⟨h.own.fresh k, k.get h.box id, h.bsafe.fresh k, h.eq, k.cell h.c0 id, k.cell h.c1 id, k.cell h.c2 id, h.gsafe.fresh k⟩
theorem DifSt.to {w0 wr w' : World} {db sb g p0 p1 p2 : Nat} {A A' : SA} {M M' : SM} (h : DifSt w0 db sb g p0 p1 p2 wr A M) (k : StoreTo A A' M' wr w') : DifSt w0 db sb g p0 p1 p2 w' A' M' :=
 ⟨h.own.to k, k.get h.box h.bsafe, h.bsafe.to k, k.sb.trans h.eq, k.kept.cell h.c0 h.gsafe.off, k.kept.cell h.c1 h.gsafe.off, k.kept.cell h.c2 h.gsafe.off, h.gsafe.to k⟩
theorem DifSt.load {w0 wr : World} {db sb g p0 p1 p2 : Nat} {A : SA} {M : SM} (h : DifSt w0 db sb g p0 p1 p2 wr A M) : ∀ j v, [Value.pointer (some ⟨sb, 0, none⟩)][j]? = some v → wr.cell? ⟨db, 0 + j, none⟩ = some v := fun j v hj => by rw [Nat.zero_add, cell_of_heap h.box]; simpa using hj
theorem two_cells {W : World} {b off : Nat} {x y : Value} (h1 : W.cell? ⟨b, off, none⟩ = some x) (h2 : W.cell? ⟨b, off + 1, none⟩ = some y) : ∀ j v, [x, y][j]? = some v → W.cell? ⟨b, off + j, none⟩ = some v
 | 0, v, hj => by rw [Nat.add_zero, h1]; simpa using hj
 | 1, v, hj => by rw [h2]; simpa using hj
 | j + 2, v, hj => by simp at hj
set_option maxHeartbeats 16000000 in
theorem diffAlive (w : World) : Calls Try.prog 5 #[] w fun e w' => e = .returned (.bool true) ∧ Kept (fun _ => False) w w' := by
 have hm := made12 w
 have hm' := h_ hm
 clear hm
 go_enter Try.func5, Try.ntmps5
 go_wp2_with fail
 refine hm'.out.mono ?_
 rintro e w2 ⟨A, M, ns, v, rfl, hA, h4, hone, hnd, hrow, hoff, hlg, hk, hnew⟩
 rcases hrow.2 with ⟨_, h0⟩ | ⟨g, cp, cur, rfl, hb, hg, hn, hm2, hs, ht⟩
 ·exact absurd h0 (by decide)
 obtain ⟨p0, p1, p2, p3, rfl⟩ : ∃ p0 p1 p2 p3, ns = [p0, p1, p2, p3] := by
  match ns, h4 with
  | [a, b, c, d], _ => exact ⟨a, b, c, d, rfl⟩
 have hsl := SliceAt.of_owns hrow
 have e0 := hsl.cell0 (j := 0) (v := .int .i64 p0) rfl
 have e1 := hsl.cell0 (j := 1) (v := .int .i64 p1) rfl
 have e2 := hsl.cell0 (j := 2) (v := .int .i64 p2) rfl
 have hgl := (hrow.lt g rfl).2
 obtain ⟨_, _, _, e4, hcp1, hcp2, _⟩ := hsl
 cases e4
 unfold maxLen at hcp2
 obtain ⟨M1, a, hbd, h1, hlg1⟩ := alive12_build hone h4 (p0 := p0) (p1 := p1) (by simp) (by simp)
 obtain ⟨db, hdb⟩ : ∃ db, w2.heap.size = db := ⟨_, rfl⟩
 obtain ⟨w3, hw3⟩ : ∃ w3, (w2.alloc (.cells #[.pointer none] 31)).setRow db #[.pointer (some ⟨A.sb, 0, none⟩)] = w3 := ⟨_, rfl⟩
 have k3 : Kept (fun _ => False) w2 w3 := by rw [← hw3]; exact ((Kept.refl _ _).alloc _).setRowNew (by omega) _
 have q3 : w3.heap[db]? = some (.cells #[.pointer (some ⟨A.sb, 0, none⟩)] 31 (0, 0)) := by rw [← hw3, ← hdb]; exact setRow_heap _ _ _ _ _ _ (heap_alloc_new _ _)
 have S3 : DifSt w db A.sb g p0 p1 p2 w3 A M := ⟨⟨hA.fresh k3, hk.trans k3, hnew⟩, q3, Safe.new hA (by omega) (lt_of_heap q3), rfl, k3.cell e0 id, k3.cell e1 id, k3.cell e2 id, ⟨Nat.lt_of_lt_of_le hgl k3.size, fun e => hoff g rfl (.inl e)⟩⟩
 obtain ⟨sb, hsb⟩ : ∃ sb, A.sb = sb := ⟨_, rfl⟩
 rw [hsb] at hw3 S3 ⊢
 have S3 := h_ S3
 have hw3' := h_ hw3
 have hdb' := h_ hdb
 have hone' := h_ hone
 have h1' := h_ h1
 have hbd' := h_ hbd
 clear hA hone hnd hrow hoff hk hnew hb hg hn hs ht e0 e1 e2 hgl hdb hw3 k3 q3 hbd h1 hm2
 go_wp2_with (first | (refine wpList_alloc_as 31 rfl rfl #[.pointer none] differ_zero ?_; rw [hdb'.out]) | (refine wpList_store_whole 31 rfl rfl rfl [.pointer (some ⟨sb, 0, none⟩)] rfl (by kernel_rfl) 31 #[.pointer none] (by rw [← hdb'.out]; exact heap_alloc_new _ _) rfl (by intro c hc; simp at hc; subst hc; rfl) ?_; rw [hw3'.out]))
 refine wp_region_held_drew (S := fun W => W.heap[db]? = some (.cells #[.pointer (some ⟨sb, 0, none⟩)] 31 (0, 0)) ∧ W.cell? ⟨g, 0, none⟩ = some (.int .i64 p0) ∧ W.cell? ⟨g, 0 + 1, none⟩ = some (.int .i64 p1) ∧ W.cell? ⟨g, 0 + 2, none⟩ = some (.int .i64 p2)) (by kernel_rfl) ⟨S3.out.box, S3.out.c0, S3.out.c1, S3.out.c2⟩ (fun hS => ?_)
 refine wpAnyH_take (i := 0) (v := .pointer (some ⟨db, 0, none⟩)) rfl (by kernel_rfl) (by kernel_rfl) (by kernel_rfl) (fun _ _ _ h => h) (Or.inl ⟨by rfl, fun W hW => by go_simp⟩) (by assumption) ?_
 simp only [Act.put, q1_, q2_, q3_, List.setIfInBounds_toArray, q5_, q6_]
 refine wpAnyH_take (i := 1) (v := .pointer (some ⟨db, 0, none⟩)) rfl (by kernel_rfl) (by kernel_rfl) (by kernel_rfl) (fun _ _ _ h => h) (Or.inl ⟨by rfl, fun W hW => by go_simp⟩) (by assumption) ?_
 simp only [Act.put, q1_, q2_, q3_, List.setIfInBounds_toArray, q5_, q6_]
 refine wpAnyH_take (i := 2) (v := .agg #[.pointer (some ⟨sb, 0, none⟩)]) rfl (by kernel_rfl) (by kernel_rfl) (by kernel_rfl) (fun _ _ _ h => h) (Or.inl ⟨by rfl, fun W hW => exec_load_agg rfl (by rfl) [.pointer (some ⟨sb, 0, none⟩)] Try.underlying27 rfl (by kernel_rfl) (fun j v hj => by rw [cell_of_heap hW.1, Nat.zero_add]; simpa using hj)⟩) (by assumption) ?_
 simp only [Act.put, q1_, q2_, q3_, List.setIfInBounds_toArray, q5_, q6_]
 refine wpAnyH_take (i := 3) (v := .slice (some ⟨g, 0, none⟩) 4 cp) rfl (by kernel_rfl) (by kernel_rfl) (by kernel_rfl) (fun _ _ _ h => h) (Or.inl ⟨by rfl, fun W hW => by go_simp⟩) (by assumption) ?_
 simp only [Act.put, q1_, q2_, q3_, List.setIfInBounds_toArray, q5_, q6_]
 refine wpAnyH_take (i := 4) (v := .pointer (some ⟨g, 0, none⟩)) rfl (by kernel_rfl) (by kernel_rfl) (by kernel_rfl) (fun _ _ _ h => h) (Or.inl ⟨by rfl, fun W hW => by go_simp⟩) (by assumption) ?_
 simp only [Act.put, q1_, q2_, q3_, List.setIfInBounds_toArray, q5_, q6_]
 refine wpAnyH_take (i := 5) (v := .int .i64 p0) rfl (by kernel_rfl) (by kernel_rfl) (by kernel_rfl) (fun _ _ _ h => h) (Or.inl ⟨by rfl, fun W hW => by have hc := hW.2.1; clear hW; go_simp⟩) (by assumption) ?_
 simp only [Act.put, q1_, q2_, q3_, List.setIfInBounds_toArray, q5_, q6_]
 refine wpAnyH_take (i := 6) (v := .agg #[.int .i64 1, .int .i64 p0]) rfl (by kernel_rfl) (by kernel_rfl) (by kernel_rfl) (fun _ _ _ h => h) (Or.inl ⟨by rfl, fun W hW => by go_simp⟩) (by assumption) ?_
 simp only [Act.put, q1_, q2_, q3_, List.setIfInBounds_toArray, q5_, q6_]
 refine wpAnyH_take (i := 7) (v := .slice (some ⟨g, 0, none⟩) 4 cp) rfl (by kernel_rfl) (by kernel_rfl) (by kernel_rfl) (fun _ _ _ h => h) (Or.inl ⟨by rfl, fun W hW => by go_simp⟩) (by assumption) ?_
 simp only [Act.put, q1_, q2_, q3_, List.setIfInBounds_toArray, q5_, q6_]
 refine wpAnyH_take (i := 8) (v := .pointer (some ⟨g, 0 + 1, none⟩)) rfl (by kernel_rfl) (by kernel_rfl) (by kernel_rfl) (fun _ _ _ h => h) (Or.inl ⟨by rfl, fun W hW => by go_simp⟩) (by assumption) ?_
 simp only [Act.put, q1_, q2_, q3_, List.setIfInBounds_toArray, q5_, q6_]
 refine wpAnyH_take (i := 9) (v := .int .i64 p1) rfl (by kernel_rfl) (by kernel_rfl) (by kernel_rfl) (fun _ _ _ h => h) (Or.inl ⟨by rfl, fun W hW => by have hc := hW.2.2.1; clear hW; go_simp⟩) (by assumption) ?_
 simp only [Act.put, q1_, q2_, q3_, List.setIfInBounds_toArray, q5_, q6_]
 refine wpAnyH_take (i := 10) (v := .agg #[.int .i64 2, .int .i64 p1]) rfl (by kernel_rfl) (by kernel_rfl) (by kernel_rfl) (fun _ _ _ h => h) (Or.inl ⟨by rfl, fun W hW => by go_simp⟩) (by assumption) ?_
 simp only [Act.put, q1_, q2_, q3_, List.setIfInBounds_toArray, q5_, q6_]
 refine wpAnyH_ready (rs := [11]) (by kernel_rfl) (by simp) ?_
 refine AllReadyH.cons rfl (fun K hK => ?_) ?_
 ·rw [if_pos (by rfl)]
  simp only [Go.wp_at_zero, Go.wp_at_succ]
  go_simp
  have k4 : Kept (fun _ => False) w3 (w3.drew.alloc (.cells #[.int .i64 1, .int .i64 p0, .int .i64 2, .int .i64 p1] 58)) := (Kept.refl _ _).drew.alloc _
  have S4 := S3.out.fresh k4
  refine hK.out _ _ ⟨S4.box, S4.c0, S4.c1, S4.c2⟩ (fun hS4 => ?_)
  clear hK K
  try simp only [Act.put, q1_, q2_, q3_, List.setIfInBounds_toArray, q5_, q6_]
  obtain ⟨hS4', hE4⟩ := ents_new (S3.out.fresh ((Kept.refl (fun _ => False) w3).drew)).own.store (exA p0 p1) (by show 2 ≤ 1000; omega)
  have hB := treeBuild hS4' hE4 (by show 2 ≤ 1000; omega) (by omega)
  rw [hbd'.out, S3.out.eq] at hB
  dsimp only at hB
  have hB' := h_ hB
  have S4 := h_ S4
  clear hS4' hE4 hB k4
  refine wpAnyH_ready (rs := [12]) (by kernel_rfl) (by simp) ?_
  refine AllReadyH.cons rfl (fun K hK => ?_) ?_
  ·rw [if_pos (by rfl)]
   simp only [Go.wp_at_zero, Go.wp_at_succ]
   go_simp
   refine hB'.out.mono ?_
   rintro e w5 ⟨A5, rfl, hT5⟩
   have S5 := S4.out.to hT5
   refine hK.out _ _ ⟨S5.box, S5.c0, S5.c1, S5.c2⟩ (fun hS5 => ?_)
   clear hK K
   try simp only [Act.put, q1_, q2_, q3_, List.setIfInBounds_toArray, q5_, q6_]
   have S5 := h_ S5
   refine wpAnyH_take (i := 13) (v := .tuple #[.int .i64 a, .int .i64 0]) rfl (by kernel_rfl) (by kernel_rfl) (by kernel_rfl) (fun _ _ _ h => h) (Or.inl ⟨by rfl, fun W hW => by go_simp⟩) (by assumption) ?_
   simp only [Act.put, q1_, q2_, q3_, List.setIfInBounds_toArray, q5_, q6_]
   refine wpAnyH_take (i := 14) (v := .int .i64 a) rfl (by kernel_rfl) (by kernel_rfl) (by kernel_rfl) (fun _ _ _ h => h) (Or.inl ⟨by rfl, fun W hW => by go_simp⟩) (by assumption) ?_
   simp only [Act.put, q1_, q2_, q3_, List.setIfInBounds_toArray, q5_, q6_]
   refine wpAnyH_take (i := 15) (v := .int .i64 0) rfl (by kernel_rfl) (by kernel_rfl) (by kernel_rfl) (fun _ _ _ h => h) (Or.inl ⟨by rfl, fun W hW => by go_simp⟩) (by assumption) ?_
   simp only [Act.put, q1_, q2_, q3_, List.setIfInBounds_toArray, q5_, q6_]
   refine wpAnyH_take (i := 16) (v := .int .i64 a) rfl (by kernel_rfl) (by kernel_rfl) (by kernel_rfl) (fun _ _ _ h => h) (Or.inl ⟨by rfl, fun W hW => by go_simp⟩) (by assumption) ?_
   simp only [Act.put, q1_, q2_, q3_, List.setIfInBounds_toArray, q5_, q6_]
   refine wpAnyH_take (i := 17) (v := .int .i64 0) rfl (by kernel_rfl) (by kernel_rfl) (by kernel_rfl) (fun _ _ _ h => h) (Or.inl ⟨by rfl, fun W hW => by go_simp⟩) (by assumption) ?_
   simp only [Act.put, q1_, q2_, q3_, List.setIfInBounds_toArray, q5_, q6_]
   refine wpAnyH_done (by kernel_rfl) ?_ _
   clear hS hS4 hS5 hT5 hB'
   obtain ⟨M2, b, M3, hpt, hsw, hra, hrb, hlg3⟩ := alive12_put h1'.out h4 (p2 := p2) (by simp) (by simp) (by simp)
   have hra' := h_ hra
   have hrb' := h_ hrb
   have hsw' := h_ hsw
   have hP := treePut (S5.out.fresh ((Kept.refl (fun _ => False) w5).drew)).own.store a 9 (p2 : Int) (by omega)
   rw [hpt, S5.out.eq] at hP
   dsimp only at hP
   have hP' := h_ hP
   clear hpt hra hrb hsw hP
   go_wp2_with fail
   refine wp_region_held_drew (S := fun W => W.heap[db]? = some (.cells #[.pointer (some ⟨sb, 0, none⟩)] 31 (0, 0)) ∧ W.cell? ⟨g, 0, none⟩ = some (.int .i64 p0) ∧ W.cell? ⟨g, 0 + 1, none⟩ = some (.int .i64 p1) ∧ W.cell? ⟨g, 0 + 2, none⟩ = some (.int .i64 p2)) (by kernel_rfl) ⟨S5.out.box, S5.out.c0, S5.out.c1, S5.out.c2⟩ (fun hS => ?_)
   refine wpAnyH_take (i := 0) (v := .pointer (some ⟨db, 0, none⟩)) rfl (by kernel_rfl) (by kernel_rfl) (by kernel_rfl) (fun _ _ _ h => h) (Or.inl ⟨by rfl, fun W hW => by go_simp⟩) (by assumption) ?_
   simp only [Act.put, q1_, q2_, q3_, List.setIfInBounds_toArray, q5_, q6_]
   refine wpAnyH_take (i := 1) (v := .pointer (some ⟨db, 0, none⟩)) rfl (by kernel_rfl) (by kernel_rfl) (by kernel_rfl) (fun _ _ _ h => h) (Or.inl ⟨by rfl, fun W hW => by go_simp⟩) (by assumption) ?_
   simp only [Act.put, q1_, q2_, q3_, List.setIfInBounds_toArray, q5_, q6_]
   refine wpAnyH_take (i := 2) (v := .agg #[.pointer (some ⟨sb, 0, none⟩)]) rfl (by kernel_rfl) (by kernel_rfl) (by kernel_rfl) (fun _ _ _ h => h) (Or.inl ⟨by rfl, fun W hW => exec_load_agg rfl (by rfl) [.pointer (some ⟨sb, 0, none⟩)] Try.underlying27 rfl (by kernel_rfl) (fun j v hj => by rw [cell_of_heap hW.1, Nat.zero_add]; simpa using hj)⟩) (by assumption) ?_
   simp only [Act.put, q1_, q2_, q3_, List.setIfInBounds_toArray, q5_, q6_]
   refine wpAnyH_take (i := 3) (v := .int .i64 a) rfl (by kernel_rfl) (by kernel_rfl) (by kernel_rfl) (fun _ _ _ h => h) (Or.inl ⟨by rfl, fun W hW => by go_simp⟩) (by assumption) ?_
   simp only [Act.put, q1_, q2_, q3_, List.setIfInBounds_toArray, q5_, q6_]
   refine wpAnyH_take (i := 4) (v := .slice (some ⟨g, 0, none⟩) 4 cp) rfl (by kernel_rfl) (by kernel_rfl) (by kernel_rfl) (fun _ _ _ h => h) (Or.inl ⟨by rfl, fun W hW => by go_simp⟩) (by assumption) ?_
   simp only [Act.put, q1_, q2_, q3_, List.setIfInBounds_toArray, q5_, q6_]
   refine wpAnyH_take (i := 5) (v := .pointer (some ⟨g, 0 + 2, none⟩)) rfl (by kernel_rfl) (by kernel_rfl) (by kernel_rfl) (fun _ _ _ h => h) (Or.inl ⟨by rfl, fun W hW => by go_simp⟩) (by assumption) ?_
   simp only [Act.put, q1_, q2_, q3_, List.setIfInBounds_toArray, q5_, q6_]
   refine wpAnyH_take (i := 6) (v := .int .i64 p2) rfl (by kernel_rfl) (by kernel_rfl) (by kernel_rfl) (fun _ _ _ h => h) (Or.inl ⟨by rfl, fun W hW => by have hc := hW.2.2.2; clear hW; go_simp⟩) (by assumption) ?_
   simp only [Act.put, q1_, q2_, q3_, List.setIfInBounds_toArray, q5_, q6_]
   refine wpAnyH_ready (rs := [7]) (by kernel_rfl) (by simp) ?_
   refine AllReadyH.cons rfl (fun K hK => ?_) ?_
   ·rw [if_pos (by rfl)]
    simp only [Go.wp_at_zero, Go.wp_at_succ]
    go_simp
    refine hP'.out.mono ?_
    rintro e w6 ⟨A6, rfl, hT6⟩
    have S6 := (S5.out.fresh ((Kept.refl (fun _ => False) w5).drew)).to hT6
    refine hK.out _ _ ⟨S6.box, S6.c0, S6.c1, S6.c2⟩ (fun hS6 => ?_)
    clear hK K
    try simp only [Act.put, q1_, q2_, q3_, List.setIfInBounds_toArray, q5_, q6_]
    have S6 := h_ S6
    refine wpAnyH_take (i := 8) (v := .tuple #[.int .i64 b, .int .i64 0]) rfl (by kernel_rfl) (by kernel_rfl) (by kernel_rfl) (fun _ _ _ h => h) (Or.inl ⟨by rfl, fun W hW => by go_simp⟩) (by assumption) ?_
    simp only [Act.put, q1_, q2_, q3_, List.setIfInBounds_toArray, q5_, q6_]
    refine wpAnyH_take (i := 9) (v := .int .i64 b) rfl (by kernel_rfl) (by kernel_rfl) (by kernel_rfl) (fun _ _ _ h => h) (Or.inl ⟨by rfl, fun W hW => by go_simp⟩) (by assumption) ?_
    simp only [Act.put, q1_, q2_, q3_, List.setIfInBounds_toArray, q5_, q6_]
    refine wpAnyH_take (i := 10) (v := .int .i64 0) rfl (by kernel_rfl) (by kernel_rfl) (by kernel_rfl) (fun _ _ _ h => h) (Or.inl ⟨by rfl, fun W hW => by go_simp⟩) (by assumption) ?_
    simp only [Act.put, q1_, q2_, q3_, List.setIfInBounds_toArray, q5_, q6_]
    refine wpAnyH_take (i := 11) (v := .int .i64 b) rfl (by kernel_rfl) (by kernel_rfl) (by kernel_rfl) (fun _ _ _ h => h) (Or.inl ⟨by rfl, fun W hW => by go_simp⟩) (by assumption) ?_
    simp only [Act.put, q1_, q2_, q3_, List.setIfInBounds_toArray, q5_, q6_]
    refine wpAnyH_take (i := 12) (v := .int .i64 0) rfl (by kernel_rfl) (by kernel_rfl) (by kernel_rfl) (fun _ _ _ h => h) (Or.inl ⟨by rfl, fun W hW => by go_simp⟩) (by assumption) ?_
    simp only [Act.put, q1_, q2_, q3_, List.setIfInBounds_toArray, q5_, q6_]
    refine wpAnyH_done (by kernel_rfl) ?_ _
    clear hS hS6 hT6 hP'
    have hlg3' : M3.log.length ≤ 1000 := by omega
    have hW := treeSwap S6.out.own.store (-1) b
    rw [hsw'.out, S6.out.eq] at hW
    dsimp only at hW
    have hW' := h_ hW
    clear hW
    go_wp2_with (first | (refine wpList_load_agg 27 rfl rfl rfl _ Try.underlying27 rfl [.pointer (some ⟨sb, 0, none⟩)] (by kernel_rfl) S6.out.load ?_))
    refine hW'.out.mono ?_
    rintro e w7 ⟨rfl, hT7⟩
    have S7 := h_ (S6.out.to hT7)
    clear hT7 hW'
    have hC := diffChanges S7.out.own.store hra'.out hrb'.out
    rw [S7.out.eq] at hC
    rw [ch_ab] at hC
    have hC' := h_ hC
    clear hC
    go_wp2_with (first | (refine wpList_load_agg 31 rfl rfl rfl _ Try.underlying31 rfl [.pointer (some ⟨sb, 0, none⟩)] (by kernel_rfl) S7.out.load ?_))
    refine hC'.out.mono ?_
    rintro e w8 ⟨v8, rfl, hown8, kc8⟩
    have S8 := h_ (S7.out.fresh kc8)
    have hE8 : EntsAt w8 v8 [(9, (p2 : Int))] := SliceAt.of_owns hown8
    obtain ⟨Av8, cap8, rfl, u1, u2⟩ := EntsAt.form hE8
    obtain ⟨b8, off8, rfl, _, c1, c2⟩ := EntsAt.get hE8 (i := 0) (x := (9, (p2 : Int))) rfl
    rw [Nat.zero_mul, Nat.add_zero] at c1 c2
    have c1' := h_ c1
    have c2' := h_ c2
    clear hown8 hE8 kc8 c1 c2 hC'
    have hC := diffChanges S8.out.own.store hrb'.out hra'.out
    rw [S8.out.eq] at hC
    rw [ch_ba] at hC
    have hC' := h_ hC
    clear hC
    go_wp2_with (first | (refine wpList_load_agg 31 rfl rfl rfl _ Try.underlying31 rfl [.pointer (some ⟨sb, 0, none⟩)] (by kernel_rfl) S8.out.load ?_))
    refine hC'.out.mono ?_
    rintro e w9 ⟨v9, rfl, hown9, kc9⟩
    have S9 := h_ (S8.out.fresh kc9)
    have hE9 : EntsAt w9 v9 [(9, (-1 : Int))] := SliceAt.of_owns hown9
    obtain ⟨Av9, cap9, rfl, u3, u4⟩ := EntsAt.form hE9
    obtain ⟨b9, off9, rfl, _, c3, c4⟩ := EntsAt.get hE9 (i := 0) (x := (9, (-1 : Int))) rfl
    rw [Nat.zero_mul, Nat.add_zero] at c3 c4
    have c3' := h_ c3
    have c4' := h_ c4
    have c1'' := h_ (kc9.cell c1'.out id)
    have c2'' := h_ (kc9.cell c2'.out id)
    clear hown9 hE9 kc9 c3 c4 hC' c1' c2'
    unfold maxLen at u2 u4
    simp only [List.length_cons, List.length_nil, Nat.zero_add] at u1 u2 u3 u4 ⊢
    go_wp2_with fail
    refine wp_region_quiet (C := fun w' => Kept (fun _ => False) w9 w') (by kernel_rfl) (by kernel_rfl) (Kept.refl _ _).drew ?_
    simp only []
    refine wpQuiet_step (fun K hK => ?_); go_simp; refine ⟨_, fun _ _ => rfl, hK _ ?_⟩; clear hK K
    refine wpQuiet_step (fun K hK => ?_); go_simp; refine ⟨_, fun _ _ => rfl, hK _ ?_⟩; clear hK K
    refine wpQuiet_step (fun K hK => ?_); go_simp; refine ⟨_, fun _ _ => rfl, hK _ ?_⟩; clear hK K
    refine wpQuiet_step (fun K hK => ?_); go_simp; refine ⟨_, fun _ _ => rfl, hK _ ?_⟩; clear hK K
    refine wpQuiet_step (fun K hK => ?_); go_simp; refine ⟨_, fun _ _ => rfl, hK _ ?_⟩; clear hK K
    refine wpQuiet_step (fun K hK => ?_); go_simp; refine ⟨_, fun _ _ => rfl, hK _ ?_⟩; clear hK K
    refine wpQuiet_step (fun K hK => ?_); go_simp; refine ⟨_, fun _ _ => rfl, hK _ ?_⟩; clear hK K
    refine wpQuiet_step (fun K hK => ?_); go_simp; refine ⟨_, fun _ _ => rfl, hK _ ?_⟩; clear hK K
    refine wpQuiet_step (fun K hK => ?_); go_simp; refine ⟨_, fun _ _ => rfl, hK _ ?_⟩; clear hK K
    refine wpQuiet_step (fun K hK => ?_); go_simp; refine ⟨_, fun _ _ => rfl, hK _ ?_⟩; clear hK K
    refine wpQuiet_step (fun K hK => ?_); go_simp; refine ⟨_, fun _ _ => rfl, hK _ ?_⟩; clear hK K
    refine wpQuiet_step (fun K hK => ?_); go_simp; refine ⟨_, fun _ _ => rfl, hK _ ?_⟩; clear hK K
    refine wpQuiet_step (fun K hK => ?_); go_simp; refine ⟨_, fun _ _ => rfl, hK _ ?_⟩; clear hK K
    refine wpQuiet_step (fun K hK => ?_); go_simp; refine ⟨_, fun _ _ => rfl, hK _ ?_⟩; clear hK K
    refine wpQuiet_step (fun K hK => ?_); go_simp; refine ⟨_, fun _ _ => rfl, hK _ ?_⟩; clear hK K
    refine wpQuiet_step (fun K hK => ?_); go_simp; refine ⟨_, fun _ _ => rfl, hK _ ?_⟩; clear hK K
    refine wpQuiet_step (fun K hK => ?_); go_simp; refine ⟨_, fun _ _ => rfl, hK _ ?_⟩; clear hK K
    refine wpQuiet_step (fun K hK => ?_); go_simp; refine ⟨_, fun _ _ => rfl, hK _ ?_⟩; clear hK K
    refine wpQuiet_step (fun K hK => ?_); go_simp; refine ⟨_, fun _ _ => rfl, hK _ ?_⟩; clear hK K
    refine wpQuiet_step (fun K hK => ?_); go_simp; refine ⟨_, fun _ _ => rfl, hK _ ?_⟩; clear hK K
    refine wpQuiet_step (fun K hK => ?_); go_simp; refine ⟨_, fun _ _ => rfl, hK _ ?_⟩; clear hK K
    refine wpQuiet_step (fun K hK => ?_); go_simp; refine ⟨_, fun _ _ => rfl, hK _ ?_⟩; clear hK K
    refine wpQuiet_step (fun K hK => ?_); go_simp; refine ⟨_, fun _ _ => rfl, hK _ ?_⟩; clear hK K
    refine wpQuiet_step (fun K hK => ?_); go_simp; refine ⟨_, fun _ _ => rfl, hK _ ?_⟩; clear hK K
    refine wpQuiet_step (fun K hK => ?_); go_simp; refine ⟨_, fun _ _ => rfl, hK _ ?_⟩; clear hK K
    refine wpQuiet_step (fun K hK => ?_); go_simp; refine ⟨_, fun _ _ => rfl, hK _ ?_⟩; clear hK K
    refine wpQuiet_step (fun K hK => ?_); refine q_on rfl (q_val (.agg #[.int .i64 9, .int .i64 p2]) (fun W hW => exec_load_agg (g := b8) (off := off8) rfl (by rfl) [.int .i64 9, .int .i64 p2] Try.underlying41 rfl (by kernel_rfl) (two_cells (hW.cell c1''.out id) (hW.cell c2''.out id))) (hK _ ?_)); clear hK K
    refine wpQuiet_step (fun K hK => ?_); go_simp; refine ⟨_, fun _ _ => rfl, hK _ ?_⟩; clear hK K
    refine wpQuiet_step (fun K hK => ?_); go_simp; refine ⟨_, fun _ _ => rfl, hK _ ?_⟩; clear hK K
    refine wpQuiet_step (fun K hK => ?_); refine q_on rfl (q_val (.int .i64 p2) (fun W hW => by have hc := hW.cell S9.out.c2 id; clear hW; go_simp) (hK _ ?_)); clear hK K
    refine wpQuiet_step (fun K hK => ?_); go_simp; refine ⟨_, fun _ _ => rfl, hK _ ?_⟩; clear hK K
    refine wpQuiet_step (fun K hK => ?_); refine q_on rfl (q_val (.bool true) (fun W hW => by rw [exec_eql_change rfl (9, (p2 : Int)) (9, (p2 : Int)) (by rfl) (by rfl)]; simp) (hK _ ?_)); clear hK K
    refine wpQuiet_step (fun K hK => ?_); go_simp; refine ⟨_, fun _ _ => rfl, hK _ ?_⟩; clear hK K
    refine wpQuiet_step (fun K hK => ?_); go_simp; refine ⟨_, fun _ _ => rfl, hK _ ?_⟩; clear hK K
    refine wpQuiet_step (fun K hK => ?_); go_simp; refine ⟨_, fun _ _ => rfl, hK _ ?_⟩; clear hK K
    refine wpQuiet_step (fun K hK => ?_); go_simp; refine ⟨_, fun _ _ => rfl, hK _ ?_⟩; clear hK K
    refine wpQuiet_step (fun K hK => ?_); go_simp; refine ⟨_, fun _ _ => rfl, hK _ ?_⟩; clear hK K
    refine wpQuiet_step (fun K hK => ?_); go_simp; refine ⟨_, fun _ _ => rfl, hK _ ?_⟩; clear hK K
    refine wpQuiet_step (fun K hK => ?_); go_simp; refine ⟨_, fun _ _ => rfl, hK _ ?_⟩; clear hK K
    refine wpQuiet_step (fun K hK => ?_); go_simp; refine ⟨_, fun _ _ => rfl, hK _ ?_⟩; clear hK K
    refine wpQuiet_step (fun K hK => ?_); go_simp; refine ⟨_, fun _ _ => rfl, hK _ ?_⟩; clear hK K
    refine wpQuiet_step (fun K hK => ?_); refine q_on rfl (q_val (.agg #[.int .i64 9, .int .i64 (-1)]) (fun W hW => exec_load_agg (g := b9) (off := off9) rfl (by rfl) [.int .i64 9, .int .i64 (-1)] Try.underlying41 rfl (by kernel_rfl) (two_cells (hW.cell c3'.out id) (hW.cell c4'.out id))) (hK _ ?_)); clear hK K
    refine wpQuiet_step (fun K hK => ?_); go_simp; refine ⟨_, fun _ _ => rfl, hK _ ?_⟩; clear hK K
    refine wpQuiet_step (fun K hK => ?_); refine q_on rfl (q_val (.bool true) (fun W hW => by rw [exec_eql_change rfl (9, (-1 : Int)) (9, (-1 : Int)) (by rfl) (by rfl)]; simp) (hK _ ?_)); clear hK K
    refine wpQuiet_step (fun K hK => ?_); go_simp; refine ⟨_, fun _ _ => rfl, hK _ ?_⟩; clear hK K
    refine wpQuiet_step (fun K hK => ?_); go_simp; refine ⟨_, fun _ _ => rfl, hK _ ?_⟩; clear hK K
    refine wpQuiet_nil ?_
    intro wq hwq
    go_wp2_with fail
    go_ret
    exact ⟨rfl, S9.out.own.kept.trans hwq⟩
   exact AllReadyH.nil
  exact AllReadyH.nil
 exact AllReadyH.nil

structure ShSt (w : World) (db sb : Nat) (wr : World) (A : SA) (M : SM) : Prop where
 own : OwnStore w A M wr
 cd : wr.heap[db]? = some (.cells #[.pointer (some ⟨sb, 0, none⟩)] 31 (0, 0))
 sd : Safe wr A db
 eq : A.sb = sb
theorem ShSt.fresh {w wr w' : World} {db sb : Nat} {A : SA} {M : SM} (h : ShSt w db sb wr A M) (k : Kept (fun _ => False) wr w') : ShSt w db sb w' A M := ⟨h.own.fresh k, k.get h.cd id, h.sd.fresh k, h.eq⟩
theorem ShSt.to {w wr w' : World} {db sb : Nat} {A A' : SA} {M M' : SM} (h : ShSt w db sb wr A M) (k : StoreTo A A' M' wr w') : ShSt w db sb w' A' M' := ⟨h.own.to k, k.get h.cd h.sd, h.sd.to k, k.sb.trans h.eq⟩
theorem ShSt.load {w wr : World} {db sb : Nat} {A : SA} {M : SM} (h : ShSt w db sb wr A M) : ∀ j v, [Value.pointer (some ⟨sb, 0, none⟩)][j]? = some v → wr.cell? ⟨db, 0 + j, none⟩ = some v := ptr_load' h.cd
section
variable {K : SM → Prop} {c : Nat} {ns : List Nat} {M N : SM} {ts : List IM} {t : IM} {k : Nat}
end

section
variable {w wr w' : World} {pre : List (Int × Int)} {v : Value}
end
section
variable {w wr w' : World} {db sb cb rb lb : Nat} {u0 u1 vp : Value} {ns : List Nat} {l1 LL : List (Int × Int)} {r0 : Int} {L0 L1 : Value} {A A' : SA} {M M' : SM}
end
end Go.Proofs.Ytdcnogjbmdhgaaa
