/-
  One tree in a store, plain: how many pages it has, by its ledger.
-/
import Derived.Test.YthmjcbmeiabbgaaK12
import Derived.Test.YthmjcbmeiabbgaaK16
import Derived.Test.YthmjcbmeiabbgaaK17
set_option linter.unusedVariables false
set_option linter.unusedSimpArgs false
namespace Go.Proofs.Ythmjcbmeiabbgaa
open Go.RowKit

theorem Tr.cast {m : Nat} {M : SM} : ∀ {h : Nat} {p : Int} {l : List (Int × Int)}, Tr m M h p l → Tr 1 M h p l
  | 0, _, _, t => t.elim
  | h + 1, p, l, ⟨hp, n, hna, hok, k⟩ => ⟨hp, n, hna, hok, k.mono fun e _ a ha => ⟨Tr.cast ha.1, by
      cases h with
      | zero => exact ha.1.elim
      | succ h =>
        obtain ⟨_, n', hn', hok', k'⟩ := ha.1
        rw [entN_of hn']
        exact (innerOk_of hok' (by have := k'.kind; omega)).pos⟩⟩
theorem tr_ents {m : Nat} {M : SM} {h : Nat} {p : Int} {l : List (Int × Int)} (t : Tr m M (h + 1) p l) : 1 ≤ (M.ents p.toNat).length ∧ (M.ents p.toNat).length ≤ 6 := by
  obtain ⟨_, n, hn, hok, k⟩ := t
  have := innerOk_of hok (by have := k.kind; omega)
  rw [ents_of hn]
  exact ⟨this.pos, this.le⟩
/-- A tree's ledger bounds its height. -/
theorem led_high {m : Nat} {M : SM} {h : Nat} {p : Int} {l : List (Int × Int)} {s : Nat} (t : Tr m M (h + 1) p l) (k : Led M (h + 1) p s) (h0 : 0 < h) : 3 ^ h ≤ s := by
  rcases k with ⟨hz, _⟩ | ⟨_, hK⟩
  · omega
  · have h1 := (tr_ents t).1
    cases he : M.ents p.toNat with
    | nil => rw [he] at h1; simp at h1
    | cons e es =>
      rw [he] at hK
      obtain ⟨t, u, h2, h3, _⟩ := hK
      have := h3.1
      omega
theorem pages_cnt {M : SM} : ∀ (h : Nat) (p : Int), (pagesF M h p).length = sumN (fun j => cntL M (j + 1) h p) h
  | 0, _ => rfl
  | h + 1, p => by
    unfold pagesF sumN
    have e1 : cntL M (h + 1) (h + 1) p = 1 := by
      unfold cntL
      rw [if_pos rfl]
      split
      · rfl
      · have : ∀ es : List (Int × Int), (es.map fun e => cntL M (h + 1) h e.2).sum = 0 := fun es => by
          induction es with
          | nil => rfl
          | cons e es ih => rw [List.map_cons, List.sum_cons, ih, cntL_low (by omega)]
        rw [this]
    rw [e1, List.length_cons]
    by_cases h0 : h = 0
    · subst h0; rfl
    · rw [if_neg h0]
      have e2 : sumN (fun j => cntL M (j + 1) (h + 1) p) h = sumN (fun j => ((M.ents p.toNat).map fun e => cntL M (j + 1) h e.2).sum) h := sumN_congr fun j hj => by
        conv => lhs; unfold cntL
        rw [if_neg (by omega), if_neg h0, Nat.zero_add]
      rw [e2]
      have e3 : ∀ es : List (Int × Int), (es.flatMap fun e => pagesF M h e.2).length = sumN (fun j => (es.map fun e => cntL M (j + 1) h e.2).sum) h := fun es => by
        induction es with
        | nil => exact (sumN_zero (fun _ _ => rfl)).symm
        | cons e es ih =>
          have e4 : sumN (fun j => ((e :: es).map fun e => cntL M (j + 1) h e.2).sum) h = sumN (fun j => cntL M (j + 1) h e.2) h + sumN (fun j => (es.map fun e => cntL M (j + 1) h e.2).sum) h := by
            rw [← sumN_add]
            exact sumN_congr fun j _ => by rw [List.map_cons, List.sum_cons]
          rw [e4, ← ih, ← pages_cnt h e.2, List.flatMap_cons, List.length_append]
      rw [e3]
/-- How many pages at most: of at most 150 puts. -/
theorem led_pages {m : Nat} {M : SM} {h : Nat} {p : Int} {l : List (Int × Int)} {s : Nat} (t : Tr m M h p l) (k : Led M h p s) (hs : s ≤ 150) : h ≤ 5 ∧ (pagesF M h p).length ≤ 73 ∧ 2 * (pagesF M h p).length ≤ s + 3 := by
  have h5 : h ≤ 5 := by
    cases h with
    | zero => exact Nat.zero_le _
    | succ h =>
      by_cases h0 : 0 < h
      · have := led_high t k h0
        refine Classical.byContradiction fun hn => ?_
        have h2 : 3 ^ 5 ≤ 3 ^ h := Nat.pow_le_pow_right (by decide) (by omega)
        have : (3 : Nat) ^ 5 = 243 := by decide
        omega
      · omega
  refine ⟨h5, ?_⟩
  rw [pages_cnt]
  have hc : ∀ j, j < h → 3 ^ j * cntL M j h p ≤ s := fun j hj => led_cnt k hj
  have ht : cntL M h h p ≤ 1 := by
    cases h with
    | zero => exact Nat.zero_le _
    | succ h =>
      unfold cntL
      rw [if_pos rfl]
      split
      · exact Nat.le_refl _
      · have : ∀ es : List (Int × Int), (es.map fun e => cntL M (h + 1) h e.2).sum = 0 := fun es => by
          induction es with
          | nil => rfl
          | cons e es ih => rw [List.map_cons, List.sum_cons, ih, cntL_low (by omega)]
        rw [this]
        exact Nat.le_refl _
  have d1 := hc 1
  have d2 := hc 2
  have d3 := hc 3
  have d4 := hc 4
  have e2 : (3 : Nat) ^ 2 = 9 := by decide
  have e3 : (3 : Nat) ^ 3 = 27 := by decide
  have e4 : (3 : Nat) ^ 4 = 81 := by decide
  rw [Nat.pow_one] at d1
  rw [e2] at d2
  rw [e3] at d3
  rw [e4] at d4
  have hcase : h = 0 ∨ h = 1 ∨ h = 2 ∨ h = 3 ∨ h = 4 ∨ h = 5 := by omega
  rcases hcase with rfl | rfl | rfl | rfl | rfl | rfl
  · simp [sumN]
  · simp only [sumN, Nat.zero_add, Nat.reduceAdd]; omega
  · have := d1 (by decide)
    simp only [sumN, Nat.zero_add, Nat.reduceAdd]; omega
  · have := d1 (by decide); have := d2 (by decide)
    simp only [sumN, Nat.zero_add, Nat.reduceAdd]; omega
  · have := d1 (by decide); have := d2 (by decide); have := d3 (by decide)
    simp only [sumN, Nat.zero_add, Nat.reduceAdd]; omega
  · have := d1 (by decide); have := d2 (by decide); have := d3 (by decide); have := d4 (by decide)
    simp only [sumN, Nat.zero_add, Nat.reduceAdd]; omega
/-- A tree's nodes have as many entries as there are keys and nodes below the root. -/
theorem pages_sum {m : Nat} {M : SM} : ∀ {h : Nat} {p : Int} {l : List (Int × Int)}, Tr m M h p l → entSum M (pagesF M h p) + 1 = l.length + (pagesF M h p).length
  | 0, _, _, t => t.elim
  | h + 1, p, l, ⟨hp, n, hn, hok, k⟩ => by
    have he := ents_of hn
    unfold pagesF
    rcases k with ⟨h0, _, hl⟩ | ⟨h0, _, hK⟩
    · rw [if_pos h0]
      unfold entSum
      simp only [List.map_cons, List.map_nil, List.sum_cons, List.sum_nil, List.length_cons, List.length_nil]
      rw [he, hl]
      omega
    · rw [if_neg (by omega), he]
      have key : ∀ (es l : List (Int × Int)), Kids (Sub m M h) es l → entSum M (es.flatMap fun e => pagesF M h e.2) + es.length = l.length + (es.flatMap fun e => pagesF M h e.2).length := by
        intro es
        induction es with
        | nil => intro l hl; rw [show l = [] from hl]; rfl
        | cons e es ih =>
          rintro l ⟨a, b, x, h1, h2, h3, h4, h5⟩
          have i1 := pages_sum h2.1
          have i2 := ih b h5
          rw [List.flatMap_cons, entSum_append, h1, List.length_append, List.length_append, List.length_cons]
          omega
      have i3 := key n.ents l hK
      have e1 : entSum M (p.toNat :: n.ents.flatMap fun e => pagesF M h e.2) = n.ents.length + entSum M (n.ents.flatMap fun e => pagesF M h e.2) := by
        unfold entSum
        rw [List.map_cons, List.sum_cons, he]
      rw [e1, List.length_cons]
      omega
end Go.Proofs.Ythmjcbmeiabbgaa
/-
  Cutting, plain: a tree without a key.
-/
namespace Go.Proofs.Ythmjcbmeiabbgaa
open Go.RowKit

theorem cutF_closed {Q : SM → Prop} (C : Closed Q) : ∀ (f : Nat) (M : SM) (root key : Int), Q M → Q (SM.cutF f M root key).1
  | 0, _, _, _, h => h
  | f + 1, M, root, key, h => by
    unfold SM.cutF
    dsimp only
    split
    · exact h
    · split
      · split <;> exact h
      · have hc := cutF_closed C f M ((M.tnode root (8 - f)).1.ents.getD (atI (M.tnode root (8 - f)).1.ents key).toNat (0, 0)).2 key h
        split
        · exact hc
        · split
          · split <;> exact C.split _ hc
          · exact hc
theorem cut_closed {Q : SM → Prop} (C : Closed Q) {M : SM} (root key : Int) (h : Q M) : Q (M.cut root key).1 := by
  have hc := cutF_closed C 9 M root key h
  unfold SM.cut
  split
  · exact h
  · split
    · exact h
    · dsimp only
      split
      · exact hc
      · split
        · exact hc
        · split
          · exact hc
          · split <;> exact C.split _ hc
/-- What a tree's new root leaves. -/
structure CutTop (M : SM) (ext : Nat → Nat) (h : Nat) (root key : Int) (l : List (Int × Int)) (M' : SM) (p : Int) : Prop where
  exact : Exact M' ext
  grown : Grown M M'
  sum : M'.sum ≤ M.sum + 6 * h + 6
  loose : Loose M' [((0 : Int), p)]
  had : ∃ y ∈ l, y.1 = key
  tr : (p = -1 ∧ cutL l key = []) ∨ ∃ h', h' ≤ h + 1 ∧ Tr 1 M' h' p (cutL l key) ∧ (∀ s, Led M (h + 1) root s → Led M' h' p s) ∧
    (h' = h + 1 → 0 < h → 2 ≤ (M'.ents p.toNat).length ∧ (AdjN (sizesE M (M.ents root.toNat)) → AdjN (sizesE M' (M'.ents p.toNat))))

theorem cut_ok {M : SM} {ext : Nat → Nat} (E : Exact M ext) {h : Nat} {root key : Int} {l : List (Int × Int)} (t : Tr 1 M (h + 1) root l) (h8 : h + 1 ≤ 8) (g : Good M l) (hl : Loose M []) (k0 : 0 ≤ key) (k1 : key < 64) :
    (M.cut root key = (M, root, false, 0) ∧ ∀ y ∈ l, y.1 ≠ key) ∨
      ((M.cut root key).2.2.2 = 0 ∧ (M.cut root key).2.2.1 = true ∧ CutTop M ext h root key l (M.cut root key).1 (M.cut root key).2.1) ∨
      ((M.cut root key).2.2.2 = 71 ∧ M.pool.freeCount < h + 1) ∨ ((M.cut root key).2.2.2 = 72 ∧ ∃ c, 255 < M.sum + 6 * h + 6 + ext c) := by
  have hne : root ≠ -1 := fun e => by have := (heldB_int t.held).1; omega
  have hc := cutF_ok (key := key) h 0 M l root (by omega) E t g
  rw [Nat.sub_zero] at hc
  unfold SM.cut
  rw [if_neg (by omega), if_neg hne]
  dsimp only
  obtain ⟨R, hR⟩ : ∃ R, SM.cutF 9 M root key = R := ⟨_, rfl⟩
  rw [hR] at hc ⊢
  obtain ⟨M1, n1, was, er⟩ := R
  dsimp only at hc ⊢
  rcases hc with ⟨e, hno⟩ | ⟨rfl, rfl, P⟩ | ⟨rfl, hf⟩ | ⟨rfl, c, hf⟩
  · injection e with e1 e2
    injection e2 with _ e2
    injection e2 with e2 e3
    subst e1 e2 e3
    rw [if_neg (by decide), if_pos rfl]
    exact .inl ⟨rfl, hno⟩
  · rw [if_neg (by decide), if_neg (by decide)]
    have a2 := P.sum
    have hhi := P.hi
    have hpe := P.entN
    have hL := P.loose [] hl
    rw [List.append_nil] at hL
    have g1 : Good M1 (cutL l key) := (g.cut key).grown P.grown
    by_cases hone : n1.kind = 3 ∧ n1.ents.length = 1
    · rw [if_pos hone]
      obtain ⟨hk, h1⟩ := hone
      cases he : n1.ents with
      | nil => rw [he] at h1; simp at h1
      | cons e es =>
        have hes : es = [] := by rw [he] at h1; exact List.eq_nil_of_length_eq_zero (by simpa using h1)
        subst hes
        have hK := P.tr
        rcases hK with ⟨_, hk2, _⟩ | ⟨h0, _, hK⟩
        · omega
        · rw [he] at hK hL
          obtain ⟨a, b, x, hab, hT, _, _, hb⟩ := hK
          rw [show b = [] from hb, List.append_nil] at hab
          refine .inr (.inl ⟨rfl, rfl, P.exact, P.grown, by show M1.sum ≤ _; omega, ?_, P.had, .inr ⟨h, Nat.le_succ _, ?_, fun s hs => ?_, fun e => by omega⟩⟩)
          · intro q hq hc
            obtain ⟨y, hy, hye⟩ := hL q hq hc
            rw [List.mem_singleton] at hy
            subst hy
            exact ⟨_, List.mem_singleton.2 rfl, hye⟩
          · show Tr 1 M1 h e.2 (cutL l key)
            rw [hab]; exact hT.1
          · have := P.led s hs
            rw [he] at this
            rcases this with ⟨hz, _⟩ | ⟨_, t, u, h2, h3, _⟩
            · omega
            · show Led M1 h e.2 s
              exact h3.2.weak (by omega)
    · rw [if_neg hone]
      by_cases hz : n1.ents.length = 0
      · rw [split_none hz]
        dsimp only
        rw [if_pos (.inr rfl)]
        refine .inr (.inl ⟨rfl, rfl, P.exact, P.grown, by show M1.sum ≤ _; omega, ?_, P.had, .inl ⟨rfl, P.tr.nil hz⟩⟩)
        have : n1.ents = [] := List.eq_nil_of_length_eq_zero hz
        rw [this] at hL
        exact hL.mono fun y hy => by cases hy
      · have hsp := split_ok P.exact P.tr g1 (by omega) (by omega)
        obtain ⟨R, hR2⟩ : ∃ R, M1.split n1 = R := ⟨_, rfl⟩
        rw [hR2] at hsp ⊢
        obtain ⟨M2, out, er⟩ := R
        dsimp only at hsp ⊢
        rcases hsp with ⟨rfl, S⟩ | ⟨rfl, hf⟩ | ⟨rfl, c, hf⟩
        · have b2 := S.sum
          obtain ⟨k, i, ho, hT, _, _⟩ := S.one (by omega)
          rw [ho]
          rw [if_neg (by simp)]
          refine .inr (.inl ⟨rfl, rfl, S.exact, P.grown.trans S.grown, by show M2.sum ≤ _; omega, ?_, P.had, .inr ⟨h + 1, Nat.le_refl _, hT, fun s hs => ?_, fun _ h0 => ?_⟩⟩)
          · have := S.loose [] (by rw [List.append_nil]; exact hL)
            rw [ho] at this
            intro q hq hc
            obtain ⟨y, hy, he⟩ := this q hq hc
            rw [List.nil_append, List.mem_singleton] at hy
            subst hy
            exact ⟨_, List.mem_singleton.2 rfl, he⟩
          · have := (S.led s (P.led s hs)).1 (by omega)
            rw [ho] at this
            exact this _ (List.mem_cons_self ..)
          · obtain ⟨o, ho1, ho2⟩ := S.last
            obtain rfl : o = (k, (i : Int)) := by rw [ho] at ho1; simpa using ho1.symm
            rw [if_neg (by omega), List.drop_zero] at ho2
            show 2 ≤ (M2.ents (Int.toNat (i : Int))).length ∧ (_ → AdjN (sizesE M2 (M2.ents (Int.toNat (i : Int)))))
            rw [ho2]
            rcases P.tr with ⟨hz, _⟩ | ⟨_, hk3, hK⟩
            · omega
            · refine ⟨?_, fun hA => ?_⟩
              · have : ¬ n1.ents.length = 1 := fun e => hone ⟨hk3, e⟩
                omega
              · rw [sizes_grown S.grown (Kids.held (P := fun q => M1.pool.heldB q = true) (fun q a ha => ha.1.held) hK)]
                exact P.dense h0 hA
        · have a1 := P.free
          refine .inr (.inr (.inl ⟨?_, by rw [if_neg (by omega)] at hf; omega⟩))
          rw [if_pos (.inl (by decide))]
        · refine .inr (.inr (.inr ⟨?_, c, by omega⟩))
          rw [if_pos (.inl (by decide))]
  · rw [if_pos (by decide)]
    exact .inr (.inr (.inl ⟨rfl, by omega⟩))
  · rw [if_pos (by decide)]
    exact .inr (.inr (.inr ⟨rfl, c, by omega⟩))
end Go.Proofs.Ythmjcbmeiabbgaa
/-
  One tree in a store with some blocks, plain: put, cut, list.
-/
namespace Go.Proofs.Ythmjcbmeiabbgaa
open Go.RowKit

/-- Who holds: the blocks, and the root. -/
def extB (bl : List Nat) (root : Int) : Nat → Nat := fun p => bl.count p + (if (p : Int) = root then 1 else 0)
/-- What is kept besides, and how much room it costs. -/
structure Besides (K : SM → Prop) (c : Nat) : Prop where
  closed : Closed K
  room : ∀ M, K M → M.pool.size ≤ M.pool.freeCount + M.liveN + c
structure OneTree (K : SM → Prop) (s : Nat) (bl : List Nat) (M : SM) (root : Int) (l : List (Int × Int)) (P : Nat) : Prop where
  exact : Exact M (extB bl root)
  size : M.pool.size = s
  kk : K M
  data : ∀ b ∈ bl, M.live b = true ∧ ∃ d, M.nodeAt b = some d ∧ d.kind = 1 ∧ d.ents = []
  keys : RisesK l ∧ ∀ y ∈ l, 0 ≤ y.1 ∧ y.1 < 64 ∧ ∃ b ∈ bl, y.2 = ((b : Nat) : Int)
  root : (root = -1 ∧ l = []) ∨ ∃ h, Tr 1 M h root l ∧ Led M h root P
  loose : Loose M []
theorem clean_besides : Besides Clean 0 := ⟨clean_closed, fun M h => by have := clean_free h; omega⟩
section
variable {K : SM → Prop} {s c : Nat} {bl : List Nat} {M : SM} {root : Int} {l : List (Int × Int)} {P : Nat}
theorem OneTree.good (h : OneTree K s bl M root l P) : Good M l := ⟨h.keys.1, fun y hy => by
  obtain ⟨a, b, d, hd, e⟩ := h.keys.2 y hy
  refine ⟨a, b, ?_⟩
  rw [e, heldB_nat]
  exact (h.data d hd).1⟩
theorem OneTree.len (h : OneTree K s bl M root l P) : l.length ≤ 64 := rises_len h.keys.1 fun y hy => ⟨(h.keys.2 y hy).1, (h.keys.2 y hy).2.1⟩
/-- The tree's pages, and the blocks: all that is there. -/
theorem OneTree.pages (h : OneTree K s bl M root l P) (hP : P ≤ 150) : ∃ L : List Nat, (root = -1 ∨ root.toNat ∈ L) ∧ (∀ q, M.live q = true → q ∈ bl ++ L) ∧ L.length ≤ 73 ∧ entSum M L ≤ 137 ∧ 2 * L.length ≤ P + 3 ∧ (root = -1 → L = []) := by
  have h64 := h.len
  have key : ∃ L : List Nat, (root = -1 ∨ root.toNat ∈ L) ∧ (∀ q ∈ L, ∀ x ∈ M.ents q, x.2.toNat ∈ L ∨ x ∈ l) ∧ L.length ≤ 73 ∧ entSum M L ≤ 137 ∧ 2 * L.length ≤ P + 3 ∧ (root = -1 → L = []) := by
    rcases h.root with ⟨e, _⟩ | ⟨hh, t, k⟩
    · exact ⟨[], .inl e, fun q hq => (by cases hq), Nat.zero_le _, Nat.zero_le _, by show 2 * 0 ≤ _; omega, fun _ => rfl⟩
    · obtain ⟨_, p1, p2⟩ := led_pages t k hP
      have p3 := pages_sum t
      exact ⟨pagesF M hh root, .inr (pages_self (tr_pos t)), pages_closed t, p1, by omega, p2, fun e => by have := (heldB_int t.held).1; omega⟩
  obtain ⟨L, a1, a2, a3, a4, a5, a6⟩ := key
  refine ⟨L, a1, ?_, a3, a4, a5, a6⟩
  refine reach_all h.exact h.loose (fun q _ hq => ?_) (fun q hq x hx => ?_)
  · unfold extB at hq
    by_cases e : (q : Int) = root
    · rcases a1 with a1 | a1
      · omega
      · rw [← e, Int.toNat_natCast] at a1
        exact List.mem_append_right _ a1
    · rw [if_neg e, Nat.add_zero] at hq
      exact List.mem_append_left _ (List.count_pos_iff.1 hq)
  · rcases List.mem_append.1 hq with hq | hq
    · obtain ⟨_, d, hd, _, he⟩ := h.data q hq
      rw [ents_of hd, he] at hx
      cases hx
    · rcases a2 q hq x hx with e | e
      · exact List.mem_append_right _ e
      · obtain ⟨_, _, b, hb, hbe⟩ := h.keys.2 x e
        rw [hbe, Int.toNat_natCast]
        exact List.mem_append_left _ hb
theorem data_sum (h : ∀ b ∈ bl, ∃ d, M.nodeAt b = some d ∧ d.ents = []) : entSum M bl = 0 := by
  induction bl with
  | nil => rfl
  | cons b bl ih =>
    obtain ⟨d, hd, he⟩ := h b (List.mem_cons_self ..)
    have := ih (fun b hb => h b (List.mem_cons_of_mem _ hb))
    unfold entSum at this ⊢
    rw [List.map_cons, List.sum_cons, ents_of hd, he, this]
    rfl
theorem OneTree.room (h : OneTree K s bl M root l P) (hB : Besides K c) (hP : P ≤ 150) : s ≤ M.pool.freeCount + bl.length + 73 + c ∧ M.sum ≤ 137 := by
  obtain ⟨L, _, a2, a3, a4, _⟩ := h.pages hP
  have c1 := hB.room M h.kk
  have c2 := liveN_list a2
  have c3 := sumE_list a2
  rw [entSum_append, data_sum (fun b hb => by obtain ⟨_, d, hd, _, he⟩ := h.data b hb; exact ⟨d, hd, he⟩)] at c3
  rw [List.length_append] at c2
  rw [h.size] at c1
  omega
theorem OneTree.rooted (h : OneTree K s bl M root l P) (hP : P ≤ 150) : ∃ k, Rooted 1 M root l k ∧ k ≤ 5 ∧ (root = -1 ∨ Led M k root P) := by
  rcases h.root with ⟨e1, e2⟩ | ⟨k, t, j⟩
  · exact ⟨0, .inl ⟨e1, e2, rfl⟩, Nat.zero_le _, .inl e1⟩
  · exact ⟨k, .inr t, (led_pages t j hP).1, .inr j⟩
theorem OneTree.list (h : OneTree K s bl M root l P) (hP : P ≤ 150) : M.list root = (l, 0) := by
  obtain ⟨k, hr, hk, _⟩ := h.rooted hP
  exact listR_ok hr (by omega)
/-- A store that has grown lists the same. -/
theorem OneTree.listG (h : OneTree K s bl M root l P) (hP : P ≤ 150) {M' : SM} (g : Grown M M') : M'.list root = (l, 0) := by
  obtain ⟨k, hr, hk, _⟩ := h.rooted hP
  exact listR_ok (hr.imp id fun t => Tr.grown g t) (by omega)
/-- One root held in the place of another. -/
theorem OneTree.swapped (h : OneTree K s bl M root l P) (hB : Besides K c) {M1 : SM} {next : Int} {l' : List (Int × Int)} {P' : Nat} (hk1 : K M1) (E1 : Exact M1 (extB bl root)) (g : Grown M M1)
    (hl1 : Loose M1 [((0 : Int), next)]) (hs : M1.sum ≤ 240) (hbl : bl.length ≤ 5) (hkeys : RisesK l' ∧ ∀ y ∈ l', 0 ≤ y.1 ∧ y.1 < 64 ∧ ∃ b ∈ bl, y.2 = ((b : Nat) : Int))
    (ht : (next = -1 ∧ l' = []) ∨ ∃ h', Tr 1 M1 h' next l' ∧ Led M1 h' next P') :
    (M1.swap root next).2 = 0 ∧ OneTree K s bl (M1.swap root next).1 next l' P' ∧ (M1.swap root next).1.log = M1.log := by
  have hextb : ∀ q, extB bl root q ≤ 6 := fun q => by
    unfold extB
    have : bl.count q ≤ bl.length := List.count_le_length
    split <;> omega
  have hn : next = -1 ∨ (M1.pool.heldB next = true ∧ M1.pool.cnt next.toNat < 255) := by
    rcases ht with ⟨e, _⟩ | ⟨h', t, _⟩
    · exact .inl e
    · have h1 := t.held
      have h2 := E1.cnt_le (heldB_int h1).2
      have h3 := hextb next.toNat
      exact .inr ⟨h1, by omega⟩
  have hold : root = -1 ∨ (M1.pool.heldB root = true ∧ 0 < extB bl root root.toNat) := by
    rcases h.root with ⟨hr, _⟩ | ⟨k, t, _⟩
    · exact .inl hr
    · have h0 := (heldB_int t.held).1
      exact .inr ⟨g.held t.held, by unfold extB; rw [if_pos (by omega)]; omega⟩
  obtain ⟨r1, E2, hlog, hsz, hlv, hlo⟩ := swap_ok E1 hn hold
  have hK2 : K (M1.swap root next).1 := hB.closed.swap _ _ hk1
  obtain ⟨M2, hM2⟩ : ∃ M2, (M1.swap root next).1 = M2 := ⟨_, rfl⟩
  rw [hM2] at E2 hlog hsz hlv hlo hK2 ⊢
  have hnode : ∀ q, M2.nodeAt q = M1.nodeAt q := fun q => by unfold SM.nodeAt; rw [hlog]
  have E2' : Exact M2 (extB bl next) := exact_congr E2 (fun p _ => by
    unfold swapE extB
    by_cases e1 : (p : Int) = root <;> by_cases e2 : (p : Int) = next <;> simp [e1, e2] <;> omega)
  refine ⟨r1, ⟨E2', by rw [hsz, g.size, h.size], hK2, fun b hb => ?_, hkeys, ?_, fun q hq hc => ?_⟩, hlog⟩
  · obtain ⟨hbl, d, hd, hk⟩ := h.data b hb
    refine ⟨?_, d, by rw [hnode, g.node b hbl]; exact hd, hk⟩
    have := ext_held E2' (p := b) (by rw [hsz, g.size]; exact live_lt hbl) (by unfold extB; have := List.count_pos_iff.2 hb; omega)
    rw [heldB_nat] at this
    exact this
  · rcases ht with ht | ⟨h', t, k⟩
    · exact .inl ht
    · right
      have hn := t.held
      have hn0 := (heldB_int hn).1
      have hnext2 : M2.pool.heldB next = true := by
        obtain ⟨c, hc⟩ := Int.eq_ofNat_of_zero_le hn0
        rw [hc]
        refine ext_held E2' ?_ (by unfold extB; rw [if_pos hc.symm]; omega)
        rw [hsz]
        have := live_lt (M := M1) (heldB_int hn).2
        rw [hc, Int.toNat_natCast] at this
        exact this
      exact ⟨h', Tr.stays E2' hlog t hnext2, Led.same (fun q _ => hnode q) t k⟩
  · obtain ⟨c1, c2⟩ := hlo q hq hc
    obtain ⟨x, hx, he⟩ := hl1 q (hlv q hq) c1
    rw [List.mem_singleton] at hx
    rw [hx] at he
    exact absurd he.symm c2
theorem one_put (h : OneTree K s bl M root l P) (hB : Besides K c) (hP : P + 1 ≤ 150) (hbl : bl.length ≤ 5) (hs : 5 + 73 + c + 20 ≤ s) {key page : Int} (k0 : 0 ≤ key) (k1 : key < 64) (hp : ∃ b ∈ bl, page = ((b : Nat) : Int)) :
    (M.put root key page).2.2 = 0 ∧ ((M.put root key page).1.swap root (M.put root key page).2.1).2 = 0 ∧ OneTree K s bl ((M.put root key page).1.swap root (M.put root key page).2.1).1 (M.put root key page).2.1 (putL l (key, page)) (P + 1) ∧
      (M.put root key page).1.list root = (l, 0) := by
  obtain ⟨k, hr, hk, hled⟩ := h.rooted (by omega)
  obtain ⟨r1, r2⟩ := h.room hB (by omega)
  have hx : M.pool.heldB page = true := by
    obtain ⟨b, hb, e⟩ := hp
    rw [e, heldB_nat]
    exact (h.data b hb).1
  have hextb : ∀ q, extB bl root q ≤ 6 := fun q => by
    unfold extB
    have : bl.count q ≤ bl.length := List.count_le_length
    split <;> omega
  rcases put_ok (m := 1) (by decide) h.exact hr (by omega) h.good h.loose hx k0 k1 with ⟨e, T⟩ | ⟨_, e, hf⟩ | ⟨_, e, c, hc⟩
  · have hk1 : K (M.put root key page).1 := hB.closed.put _ _ _ h.kk
    have ts := T.sum
    have g := h.good.put (x := (key, page)) k0 k1 hx
    obtain ⟨M1, hM1⟩ : ∃ M1, (M.put root key page).1 = M1 := ⟨_, rfl⟩
    obtain ⟨next, hnext⟩ : ∃ next, (M.put root key page).2.1 = next := ⟨_, rfl⟩
    rw [hM1, hnext] at T
    rw [hM1] at hk1 ts ⊢
    rw [hnext]
    obtain ⟨h', t, _, j⟩ := T.led (P + 1) ⟨P, rfl, hled⟩
    obtain ⟨s1, s2, _⟩ := h.swapped hB (l' := putL l (key, page)) (P' := P + 1) hk1 T.exact T.grown (T.loose [] rfl) (by omega) hbl ⟨g.1, fun y hy => by
      refine ⟨(g.2 y hy).1, (g.2 y hy).2.1, ?_⟩
      rcases putL_mem hy with rfl | hy
      · exact hp
      · exact (h.keys.2 y hy).2.2⟩ (.inr ⟨h', t, j⟩)
    exact ⟨e, s1, s2, h.listG (by omega) T.grown⟩
  · exfalso; omega
  · exfalso; have := hextb c; omega
theorem one_cut (h : OneTree K s bl M root l P) (hB : Besides K c) (hP : P ≤ 150) (hbl : bl.length ≤ 5) (hs : 5 + 73 + c + 20 ≤ s) {key : Int} (k0 : 0 ≤ key) (k1 : key < 64) :
    (M.cut root key = (M, root, false, 0) ∧ cutL l key = l ∧ ∀ y ∈ l, y.1 ≠ key) ∨
      ((M.cut root key).2.2.2 = 0 ∧ (M.cut root key).2.2.1 = true ∧ (∃ y ∈ l, y.1 = key) ∧ (M.cut root key).1.list root = (l, 0) ∧ ((M.cut root key).1.swap root (M.cut root key).2.1).2 = 0 ∧
        OneTree K s bl ((M.cut root key).1.swap root (M.cut root key).2.1).1 (M.cut root key).2.1 (cutL l key) P) := by
  obtain ⟨r1, r2⟩ := h.room hB hP
  have hextb : ∀ q, extB bl root q ≤ 6 := fun q => by
    unfold extB
    have : bl.count q ≤ bl.length := List.count_le_length
    split <;> omega
  rcases h.root with ⟨rfl, rfl⟩ | ⟨k, t, j⟩
  · refine .inl ⟨?_, rfl, fun y hy => by cases hy⟩
    unfold SM.cut
    rw [if_neg (by omega), if_pos rfl]
  · obtain ⟨hk, _⟩ := led_pages t j hP
    obtain ⟨k, rfl⟩ : ∃ i, k = i + 1 := ⟨k - 1, by have := tr_pos t; omega⟩
    have hKM : K (M.cut root key).1 := by
      have hc : Closed K := hB.closed
      exact cut_closed hc root key h.kk
    rcases cut_ok (key := key) h.exact t (by omega) h.good h.loose k0 k1 with ⟨e, hno⟩ | ⟨e, ew, T⟩ | ⟨e, hf⟩ | ⟨e, c, hc⟩
    · exact .inl ⟨e, cutL_none hno, hno⟩
    · have ts := T.sum
      obtain ⟨M1, hM1⟩ : ∃ M1, (M.cut root key).1 = M1 := ⟨_, rfl⟩
      obtain ⟨next, hnext⟩ : ∃ next, (M.cut root key).2.1 = next := ⟨_, rfl⟩
      rw [hM1, hnext] at T
      rw [hM1] at hKM ts ⊢
      rw [hnext]
      have hkeys : RisesK (cutL l key) ∧ ∀ y ∈ cutL l key, 0 ≤ y.1 ∧ y.1 < 64 ∧ ∃ b ∈ bl, y.2 = ((b : Nat) : Int) := ⟨cutL_rises h.keys.1 key, fun y hy => h.keys.2 y (List.mem_filter.1 hy).1⟩
      obtain ⟨s1, s2, _⟩ := h.swapped hB (P' := P) hKM T.exact T.grown T.loose (by omega) hbl hkeys (T.tr.imp id fun ⟨h', _, t', k', _⟩ => ⟨h', t', k' P j⟩)
      exact .inr ⟨e, ew, T.had, h.listG hP T.grown, s1, s2⟩
    · exfalso; omega
    · exfalso; have := hextb c; omega
end
end Go.Proofs.Ythmjcbmeiabbgaa
/-
  One tree in a store, plain: a tree that is built; how dense one is that was built in order, and cut.
-/
namespace Go.Proofs.Ythmjcbmeiabbgaa
open Go.RowKit

section
variable {K : SM → Prop} {s c : Nat} {bl : List Nat} {M : SM} {root : Int} {l : List (Int × Int)} {P : Nat}
theorem build_one (hB : Besides K c) (hbl : bl.length ≤ 5) (hs : 5 + 73 + c + 20 ≤ s) : ∀ (ks : List (Int × Int)) {M : SM} {root : Int} {l : List (Int × Int)} {P : Nat}, OneTree K s bl M root l P → P + ks.length ≤ 150 →
    (∀ y ∈ ks, 0 ≤ y.1 ∧ y.1 < 64 ∧ ∃ b ∈ bl, y.2 = ((b : Nat) : Int)) →
    ∃ M' root', SM.build ks M root = (M', root', 0) ∧ OneTree K s bl M' root' (ks.foldl putL l) (P + ks.length) ∧ M'.log.length ≤ M.log.length + 22 * ks.length
  | [], M, root, _, _, h, _, _ => ⟨M, root, rfl, h, Nat.le_refl _⟩
  | x :: ks, M, root, l, P, h, hP, hks => by
    obtain ⟨hx0, hx1, hx2⟩ := hks x (List.mem_cons_self ..)
    obtain ⟨x1, x2⟩ := x
    dsimp only at hx0 hx1 hx2
    rw [List.length_cons] at hP
    obtain ⟨e1, e2, hI, _⟩ := one_put h hB (by omega) hbl hs hx0 hx1 hx2
    have hl1 := put_log M root x1 x2
    have hl2 := swap_log (M.put root x1 x2).1 root (M.put root x1 x2).2.1
    obtain ⟨M', root', e3, hI', hl⟩ := build_one hB hbl hs ks hI (by omega) (fun y hy => hks y (List.mem_cons_of_mem _ hy))
    refine ⟨M', root', ?_, by rw [List.length_cons, show P + (ks.length + 1) = P + 1 + ks.length by omega]; exact hI', by rw [hl2] at hl; rw [List.length_cons]; omega⟩
    rw [build_cons]
    dsimp only
    rw [if_pos e1, if_pos e2, e3]
/-- All that is there: the blocks, and the tree's pages. -/
theorem OneTree.all_live (h : OneTree K s bl M root l P) {m hh : Nat} (t : Tr m M hh root l) : ∀ q, M.live q = true → q ∈ bl ++ pagesF M hh root := by
  refine reach_all h.exact h.loose (fun q _ hq => ?_) (fun q hq x hx => ?_)
  · unfold extB at hq
    by_cases e : (q : Int) = root
    · have := pages_self (M := M) (p := root) (tr_pos t)
      rw [← e, Int.toNat_natCast] at this
      rw [e] at this
      exact List.mem_append_right _ this
    · rw [if_neg e, Nat.add_zero] at hq
      exact List.mem_append_left _ (List.count_pos_iff.1 hq)
  · rcases List.mem_append.1 hq with hq | hq
    · obtain ⟨_, d, hd, _, he⟩ := h.data q hq
      rw [ents_of hd, he] at hx
      cases hx
    · rcases pages_closed t q hq x hx with e | e
      · exact List.mem_append_right _ e
      · obtain ⟨_, _, b, hb, hbe⟩ := h.keys.2 x e
        rw [hbe, Int.toNat_natCast]
        exact List.mem_append_left _ hb
end

/-- So many puts at the end. -/
def spK : Nat → List Nat
  | 0 => []
  | 1 => [1]
  | k + 2 => topS (bumpF (spK (k + 1)))
theorem spK_64 : spK 64 = [6, 6, 4] := by decide +kernel
theorem spine_len (M : SM) : ∀ (h : Nat) (p : Int), (spine M h p).length = h
  | 0, _ => rfl
  | h + 1, p => by
    unfold spine
    rw [List.length_cons]
    by_cases h0 : h = 0
    · rw [if_pos h0, h0]; rfl
    · rw [if_neg h0, spine_len M h]
theorem ents_log {M M' : SM} (h : M'.log = M.log) (q : Nat) : M'.ents q = M.ents q := by unfold SM.ents SM.nodeAt; rw [h]
theorem spine_log {M M' : SM} (hl : M'.log = M.log) : ∀ (h : Nat) (p : Int), spine M' h p = spine M h p
  | 0, _ => rfl
  | h + 1, p => by unfold spine; rw [ents_log hl, spine_log hl h]
def AscSt (M : SM) (root : Int) (l : List (Int × Int)) (k : Nat) : Prop := (k = 0 ∧ root = -1 ∧ l = []) ∨ (0 < k ∧ ∃ h, Tr 3 M h root l ∧ spine M h root = spK k)
theorem asc_put {s : Nat} {M : SM} {root : Int} {l : List (Int × Int)} {k : Nat} (h : OneTree Clean s [0] M root l k) (hs : 100 ≤ s) (hA : AscSt M root l k) (hk : k + 1 ≤ 150) {key : Int} (k0 : 0 ≤ key) (k1 : key < 64) (hmax : ∀ y ∈ l, y.1 < key)
    (h2 : OneTree Clean s [0] ((M.put root key 0).1.swap root (M.put root key 0).2.1).1 (M.put root key 0).2.1 (putL l (key, 0)) (k + 1)) :
    AscSt ((M.put root key 0).1.swap root (M.put root key 0).2.1).1 (M.put root key 0).2.1 (putL l (key, 0)) (k + 1) := by
  have hx : M.pool.heldB 0 = true := by
    have := (h.data 0 (List.mem_singleton.2 rfl)).1
    rw [show (0 : Int) = ((0 : Nat) : Int) from rfl, heldB_nat]
    exact this
  have hr : ∃ hh, Rooted 3 M root l hh ∧ hh ≤ 8 ∧ ((root = -1 ∧ k = 0) ∨ (root ≠ -1 ∧ 0 < k ∧ spine M hh root = spK k)) := by
    rcases hA with ⟨e1, e2, e3⟩ | ⟨e1, hh, t, e2⟩
    · exact ⟨0, .inl ⟨e2, e3, rfl⟩, by omega, .inl ⟨e2, e1⟩⟩
    · exact ⟨hh, .inr t, by have := tr_high t h.good; omega, .inr ⟨fun e => by have := (heldB_int t.held).1; omega, e1, e2⟩⟩
  obtain ⟨hh, hr, h8, hsp⟩ := hr
  obtain ⟨r1, r2⟩ := h.room clean_besides (by omega)
  have hext : ∀ q, extB [0] root q ≤ 2 := fun q => by
    unfold extB
    have : [0].count q ≤ 1 := List.count_le_length
    split <;> omega
  have h5 : hh ≤ 4 := by
    rcases hr with ⟨_, _, e⟩ | t
    · omega
    · exact tr_high t h.good
  rcases put_ok (m := 3) (by decide) h.exact hr h8 h.good h.loose hx k0 k1 with ⟨e, T⟩ | ⟨_, e, hf⟩ | ⟨_, e, c, hc⟩
  · right
    refine ⟨by omega, ?_⟩
    have hT : ∃ h', Tr 3 (M.put root key 0).1 h' (M.put root key 0).2.1 (putL l (key, 0)) ∧ spine (M.put root key 0).1 h' (M.put root key 0).2.1 = spK (k + 1) := by
      rcases hsp with ⟨e1, e2⟩ | ⟨e1, e2, e3⟩
      · obtain ⟨h', t, e4⟩ := T.asc [1] (.inl ⟨e1, rfl⟩)
        exact ⟨h', t, by rw [e4, e2]; rfl⟩
      · obtain ⟨h', t, e4⟩ := T.asc _ (.inr ⟨e1, hmax, rfl⟩)
        refine ⟨h', t, ?_⟩
        rw [e4, e3]
        obtain ⟨j, rfl⟩ : ∃ j, k = j + 1 := ⟨k - 1, by omega⟩
        rfl
    obtain ⟨h', t, e4⟩ := hT
    have hlog := swap_log (M.put root key 0).1 root (M.put root key 0).2.1
    have hheld : ((M.put root key 0).1.swap root (M.put root key 0).2.1).1.pool.heldB (M.put root key 0).2.1 = true := by
      rcases h2.root with ⟨e1, _⟩ | ⟨_, t2, _⟩
      · have := (heldB_int t.held).1; omega
      · exact t2.held
    exact ⟨h', Tr.stays h2.exact hlog t hheld, by rw [spine_log hlog]; exact e4⟩
  · rw [List.length_singleton] at r1
    exfalso; omega
  · exfalso; have := hext c; omega
theorem adj_ge : ∀ {l : List Nat}, (∀ x ∈ l, 3 ≤ x) → AdjN l
  | [], _ => trivial
  | [_], _ => trivial
  | x :: y :: r, h => ⟨.inl ⟨h x (List.mem_cons_self ..), h y (List.mem_cons_of_mem _ (List.mem_cons_self ..))⟩, adj_ge fun z hz => h z (List.mem_cons_of_mem _ hz)⟩
/-- A tree of three heights at most, dense below the root. -/
def DenseAt (M : SM) (root : Int) (l : List (Int × Int)) : Prop :=
  (root = -1 ∧ l = []) ∨ ∃ h, Tr 1 M h root l ∧ h ≤ 3 ∧ (h = 3 → 2 ≤ (M.ents root.toNat).length ∧ AdjN (sizesE M (M.ents root.toNat)))
theorem asc_dense {M : SM} {root : Int} {l : List (Int × Int)} (h : AscSt M root l 64) : DenseAt M root l := by
  rcases h with ⟨h, _⟩ | ⟨_, hh, t, e⟩
  · omega
  · rw [spK_64] at e
    have hl : hh = 3 := by have := spine_len M hh root; rw [e] at this; exact this.symm
    subst hl
    refine .inr ⟨3, t.cast, Nat.le_refl _, fun _ => ⟨?_, ?_⟩⟩
    · have : (spine M 3 root).headD 0 = (M.ents root.toNat).length := rfl
      rw [e] at this
      rw [← this]; decide
    · obtain ⟨_, n, hn, _, k⟩ := t
      rcases k with ⟨h0, _⟩ | ⟨_, _, hK⟩
      · exact absurd h0 (by decide)
      · rw [ents_of hn]
        refine adj_ge fun x hx => ?_
        unfold sizesE at hx
        obtain ⟨e, he, rfl⟩ := List.mem_map.1 hx
        obtain ⟨a, ha, _⟩ := hK.each e he
        exact ha.2
theorem sizes_log {M M' : SM} (h : M'.log = M.log) (es : List (Int × Int)) : sizesE M' es = sizesE M es := by
  unfold sizesE SM.entN
  exact List.map_congr_left fun e _ => by rw [ents_log h]
theorem dense_cut {s : Nat} {M : SM} {root : Int} {l : List (Int × Int)} {P : Nat} (h : OneTree Clean s [0] M root l P) (hs : 100 ≤ s) (hP : P ≤ 150) (hD : DenseAt M root l) {key : Int} (k0 : 0 ≤ key) (k1 : key < 64) (hw : (M.cut root key).2.2.1 = true)
    (h2 : OneTree Clean s [0] ((M.cut root key).1.swap root (M.cut root key).2.1).1 (M.cut root key).2.1 (cutL l key) P) :
    DenseAt ((M.cut root key).1.swap root (M.cut root key).2.1).1 (M.cut root key).2.1 (cutL l key) := by
  rcases hD with ⟨rfl, rfl⟩ | ⟨hh, t, h3, hd⟩
  · unfold SM.cut at hw
    rw [if_neg (by omega), if_pos rfl] at hw
    cases hw
  · obtain ⟨hh, rfl⟩ : ∃ i, hh = i + 1 := ⟨hh - 1, by have := tr_pos t; omega⟩
    obtain ⟨r1, r2⟩ := h.room clean_besides hP
    have hext : ∀ q, extB [0] root q ≤ 2 := fun q => by
      unfold extB
      have : [0].count q ≤ 1 := List.count_le_length
      split <;> omega
    rcases cut_ok (key := key) h.exact t (by omega) h.good h.loose k0 k1 with ⟨e, _⟩ | ⟨_, _, T⟩ | ⟨e, hf⟩ | ⟨e, c, hc⟩
    · rw [e] at hw; cases hw
    · have hlog := swap_log (M.cut root key).1 root (M.cut root key).2.1
      rcases T.tr with hz | ⟨h', hle, t', _, hd'⟩
      · exact .inl hz
      · right
        have hheld : ((M.cut root key).1.swap root (M.cut root key).2.1).1.pool.heldB (M.cut root key).2.1 = true := by
          rcases h2.root with ⟨e1, _⟩ | ⟨_, t2, _⟩
          · have := (heldB_int t'.held).1; omega
          · exact t2.held
        refine ⟨h', Tr.stays h2.exact hlog t' hheld, by omega, fun e => ?_⟩
        rw [ents_log hlog, sizes_log hlog]
        obtain ⟨d1, d2⟩ := hd (by omega)
        obtain ⟨e1, e2⟩ := hd' (by omega) (by omega)
        exact ⟨e1, e2 d2⟩
    · rw [List.length_singleton] at r1
      exfalso; omega
    · exfalso; have := hext c; omega
theorem kids_len {T : Int → List (Int × Int) → Prop} {f : Int → Nat} (hT : ∀ q a, T q a → f q ≤ a.length) : ∀ {es l : List (Int × Int)}, Kids T es l → (es.map fun e => f e.2).sum ≤ l.length
  | [], _, _ => Nat.zero_le _
  | e :: es, _, ⟨a, b, x, h1, h2, _, _, h5⟩ => by
    have i1 := hT _ _ h2
    have i2 := kids_len hT h5
    rw [List.map_cons, List.sum_cons, h1, List.length_append]
    omega
theorem tr_ge {m : Nat} {M : SM} : ∀ {h : Nat} {p : Int} {l : List (Int × Int)}, Tr m M h p l → M.entN p ≤ l.length ∧ 1 ≤ M.entN p
  | 0, _, _, t => t.elim
  | h + 1, p, l, ⟨hp, n, hn, hok, k⟩ => by
    have hin := innerOk_of hok (by have := k.kind; omega)
    rw [entN_of hn]
    refine ⟨?_, hin.pos⟩
    rcases k with ⟨_, _, hl⟩ | ⟨_, _, hK⟩
    · rw [hl]; exact Nat.le_refl _
    · have := kids_len (f := fun _ => 1) (fun q a ha => Nat.le_trans (tr_ge ha.1).2 (tr_ge ha.1).1) hK
      have e : ∀ es : List (Int × Int), (es.map fun _ => 1).sum = es.length := fun es => by
        induction es with
        | nil => rfl
        | cons e es ih => rw [List.map_cons, List.sum_cons, ih, List.length_cons]; omega
      rw [e] at this
      exact this
theorem dense_count {s : Nat} {M : SM} {root : Int} {l : List (Int × Int)} {P : Nat} (h : OneTree Clean s [0] M root l P) (hD : DenseAt M root l) : s ≤ M.pool.freeCount + 1 + (l.length + l.length / 2 + 1) := by
  have c1 := clean_free h.kk
  rw [h.size] at c1
  rcases hD with ⟨rfl, rfl⟩ | ⟨hh, t, h3, hd⟩
  · have hall := reach_all h.exact h.loose (L := [0]) (fun q _ hq => by
      unfold extB at hq
      rw [if_neg (by omega), Nat.add_zero] at hq
      exact List.count_pos_iff.1 hq) (fun q hq x hx => by
      obtain ⟨_, d, hd, _, he⟩ := h.data q hq
      rw [ents_of hd, he] at hx
      cases hx)
    have c2 := liveN_list hall
    rw [List.length_singleton] at c2
    omega
  · have c2 := liveN_list (h.all_live t)
    rw [List.length_append, List.length_singleton] at c2
    have hlen := tr_ge t
    have key : (pagesF M hh root).length ≤ l.length + l.length / 2 + 1 := by
      have hcase : hh = 1 ∨ hh = 2 ∨ hh = 3 := by have := tr_pos t; omega
      rcases hcase with rfl | rfl | rfl
      · show 1 ≤ _; omega
      · have : (pagesF M 2 root).length = 1 + (M.ents root.toNat).length := by
          show (root.toNat :: (M.ents root.toNat).flatMap fun e => [e.2.toNat]).length = _
          rw [List.length_cons]
          have : ∀ es : List (Int × Int), (es.flatMap fun e => [e.2.toNat]).length = es.length := fun es => by
            induction es with
            | nil => rfl
            | cons e es ih => rw [List.flatMap_cons, List.length_append, ih]; simp; omega
          rw [this]; omega
        rw [this]
        have h1 : M.entN root = (M.ents root.toNat).length := rfl
        omega
      · obtain ⟨d1, d2⟩ := hd rfl
        have e1 : (pagesF M 3 root).length = 1 + ((M.ents root.toNat).length + (sizesE M (M.ents root.toNat)).sum) := by
          show (root.toNat :: (M.ents root.toNat).flatMap fun e => pagesF M 2 e.2).length = _
          rw [List.length_cons]
          have : ∀ es : List (Int × Int), (es.flatMap fun e => pagesF M 2 e.2).length = es.length + (sizesE M es).sum := fun es => by
            induction es with
            | nil => rfl
            | cons e es ih =>
              have e2 : (pagesF M 2 e.2).length = 1 + M.entN e.2 := by
                show (e.2.toNat :: (M.ents e.2.toNat).flatMap fun e => [e.2.toNat]).length = _
                rw [List.length_cons]
                have : ∀ es : List (Int × Int), (es.flatMap fun e => [e.2.toNat]).length = es.length := fun es => by
                  induction es with
                  | nil => rfl
                  | cons e es ih => rw [List.flatMap_cons, List.length_append, ih]; simp; omega
                rw [this]
                show (M.ents e.2.toNat).length + 1 = 1 + (M.ents e.2.toNat).length
                omega
              have e3 : (sizesE M (e :: es)).sum = M.entN e.2 + (sizesE M es).sum := by unfold sizesE; rw [List.map_cons, List.sum_cons]
              rw [List.flatMap_cons, List.length_append, ih, e2, e3, List.length_cons]
              omega
          rw [this]; omega
        rw [e1]
        obtain ⟨_, n, hn, hok, k⟩ := t
        rcases k with ⟨h0, _⟩ | ⟨_, _, hK⟩
        · exact absurd h0 (by decide)
        · rw [ents_of hn] at d1 d2 ⊢
          have h1 : (sizesE M n.ents).sum ≤ l.length := kids_len (f := fun q => M.entN q) (fun q a ha => (tr_ge ha.1).1) hK
          have h2 := adj_sum d2 (fun x hx => by
            unfold sizesE at hx
            obtain ⟨e, he, rfl⟩ := List.mem_map.1 hx
            obtain ⟨a, ha, _⟩ := hK.each e he
            exact (tr_ge ha.1).2) (by intro e; have := congrArg List.length e; unfold sizesE at this; rw [List.length_map] at this; simp at this; rw [this] at d1; simp at d1)
          have h3 : (sizesE M n.ents).length = n.ents.length := by unfold sizesE; rw [List.length_map]
          omega
    omega
end Go.Proofs.Ythmjcbmeiabbgaa
/-
  Pruners (package prune): Cut.
-/
namespace Go.Proofs.Ythmjcbmeiabbgaa
open Go.RowKit
set_option maxRecDepth 100000

theorem cut_log {w : World} {A : SA} {M : SM} (h : StoreAt w A M) (root key : Int) : (M.cut root key).1.log.length ≤ M.log.length + 20 := by
  have h1 := (cutF_log h 9 root key).1
  have h2 := (split_bound (SM.cutF 9 M root key).1 (SM.cutF 9 M root key).2.1).1
  unfold SM.cut
  split
  · dsimp only; omega
  · split
    · dsimp only; omega
    · dsimp only
      split
      · dsimp only; omega
      · split
        · dsimp only; omega
        · split
          · dsimp only; omega
          · split <;> (dsimp only; omega)
set_option maxHeartbeats 8000000 in
theorem pruneCut {w : World} {A : SA} {M : SM} (h : StoreAt w A M) (root key : Int) (hfew : M.log.length + 30 < 100000000) :
    Calls Try.prog 30 #[.agg #[.pointer (some ⟨A.sb, 0, none⟩)], .int .i64 root, .int .i64 key] w fun e w' => ∃ A', e = .returned (.tuple #[.int .i64 (M.cut root key).2.1, .bool (M.cut root key).2.2.1, .int .i64 (M.cut root key).2.2.2]) ∧ StoreTo A A' (M.cut root key).1 w w' := by
  obtain ⟨w1, hw1⟩ : ∃ w1, w.alloc (.cells #[.pointer (some ⟨A.sb, 0, none⟩)] 57) = w1 := ⟨_, rfl⟩
  have k1 : Kept (fun _ => False) w w1 := by rw [← hw1]; exact (Kept.refl _ _).alloc _
  have s1 : w1.heap.size = w.heap.size + 1 := by rw [← hw1]; simp
  have t1 : w1.heap[w.heap.size]? = some (.cells #[.pointer (some ⟨A.sb, 0, none⟩)] 57 (0, 0)) := by rw [← hw1]; exact heap_alloc_new _ _
  have k1' := Lib.hid k1
  have hw1' := Lib.hid hw1
  have h' := Lib.hid h
  by_cases hk0 : key < 0
  · have e : Hid (M.cut root key = (M, -1, false, 101)) := Lib.hid (by unfold SM.cut; rw [if_pos (.inl hk0)])
    clear hw1 k1 s1 t1 h
    go_enter Try.func30, Try.ntmps30
    go_wp2_with (first | (refine wpList_box_named 57 rfl rfl _ rfl hw1'.out ?_))
    go_ret3
    first | exact ⟨A, by rw [e.out]; rfl, by rw [e.out]; exact (StoreTo.refl h'.out).fresh k1'.out⟩ | exact ⟨by rw [e.out]; rfl, A, by rw [e.out]; exact (StoreTo.refl h'.out).fresh k1'.out⟩
  by_cases hk1 : 64 ≤ key
  · have e : Hid (M.cut root key = (M, -1, false, 101)) := Lib.hid (by unfold SM.cut; rw [if_pos (.inr hk1)])
    clear hw1 k1 s1 t1 h
    go_enter Try.func30, Try.ntmps30
    go_wp2_with (first | (refine wpList_box_named 57 rfl rfl _ rfl hw1'.out ?_))
    go_ret3
    first | exact ⟨A, by rw [e.out]; rfl, by rw [e.out]; exact (StoreTo.refl h'.out).fresh k1'.out⟩ | exact ⟨by rw [e.out]; rfl, A, by rw [e.out]; exact (StoreTo.refl h'.out).fresh k1'.out⟩
  by_cases hr : root = -1
  · subst hr
    have e : Hid (M.cut (-1) key = (M, -1, false, 0)) := Lib.hid (by unfold SM.cut; rw [if_neg (by omega), if_pos rfl])
    clear hw1 k1 s1 t1 h
    go_enter Try.func30, Try.ntmps30
    go_wp2_with (first | (refine wpList_box_named 57 rfl rfl _ rfl hw1'.out ?_))
    go_ret3
    first | exact ⟨A, by rw [e.out]; rfl, by rw [e.out]; exact (StoreTo.refl h'.out).fresh k1'.out⟩ | exact ⟨by rw [e.out]; rfl, A, by rw [e.out]; exact (StoreTo.refl h'.out).fresh k1'.out⟩
  have hrb : (root == -1) = false := by simpa using hr
  have hP := pruneCutF 9 (by omega) (Nat.le_refl _) root key (h.fresh k1) (by omega)
  have hlog := (cutF_log h 9 root key).1
  have hcut : Hid (M.cut root key = if (SM.cutF 9 M root key).2.2.2 ≠ 0 then ((SM.cutF 9 M root key).1, -1, false, (SM.cutF 9 M root key).2.2.2)
      else if (SM.cutF 9 M root key).2.2.1 = false then ((SM.cutF 9 M root key).1, root, false, 0)
      else if (SM.cutF 9 M root key).2.1.kind = 3 ∧ (SM.cutF 9 M root key).2.1.ents.length = 1 then ((SM.cutF 9 M root key).1, ((SM.cutF 9 M root key).2.1.ents.getD 0 (0, 0)).2, true, 0)
      else if ((SM.cutF 9 M root key).1.split (SM.cutF 9 M root key).2.1).2.2 ≠ 0 ∨ ((SM.cutF 9 M root key).1.split (SM.cutF 9 M root key).2.1).2.1.length = 0 then (((SM.cutF 9 M root key).1.split (SM.cutF 9 M root key).2.1).1, -1, ((SM.cutF 9 M root key).1.split (SM.cutF 9 M root key).2.1).2.2 == 0, ((SM.cutF 9 M root key).1.split (SM.cutF 9 M root key).2.1).2.2)
      else (((SM.cutF 9 M root key).1.split (SM.cutF 9 M root key).2.1).1, (((SM.cutF 9 M root key).1.split (SM.cutF 9 M root key).2.1).2.1.getD 0 (0, 0)).2, true, 0)) := Lib.hid (by unfold SM.cut; rw [if_neg (by omega), if_neg hr])
  obtain ⟨R, hR⟩ : ∃ R, SM.cutF 9 M root key = R := ⟨_, rfl⟩
  rw [hR] at hP hlog
  simp only [hR] at hcut
  obtain ⟨M1, n1, was, er⟩ := R
  dsimp only at hP hlog hcut
  have hP' := Lib.hid hP
  obtain ⟨Z, hZ⟩ : ∃ Z, nodeCells NM.zero (.slice none 0 0) = Z := ⟨_, rfl⟩
  have hZz : Hid ((Try.prog.info? 33).map (·.zero) = some (some (.agg Z.toArray))) := Lib.hid (by rw [← hZ]; exact node_zero)
  have hZl : Hid (Z.length = 18) := Lib.hid (by rw [← hZ]; exact nodeCells_len _ _)
  have t1' := Lib.hid t1
  have sf1 : Hid (Safe w1 A w.heap.size) := Lib.hid (Safe.new h (Nat.le_refl _) (by omega))
  have hload1 : Hid (∀ j v, [Value.pointer (some ⟨A.sb, 0, none⟩)][j]? = some v → w1.cell? ⟨w.heap.size, 0 + j, none⟩ = some v) := Lib.hid (fun j v hj => by rw [Nat.zero_add, cell_of_heap t1]; simpa using hj)
  have st1 := Lib.hid ((StoreTo.refl h).fresh k1)
  have hsz1 := s1
  clear hw1 k1 s1 t1 h hP hR hr hZ
  go_enter Try.func30, Try.ntmps30
  go_wp2_with (first | (refine wpList_box_named 57 rfl rfl _ rfl hw1'.out ?_) | (refine wpList_load_agg 57 rfl rfl rfl _ Try.underlying57 rfl [.pointer (some ⟨A.sb, 0, none⟩)] (by kernel_rfl) hload1.out ?_))
  refine hP'.out.mono ?_
  rintro e' w3 ⟨A3, v, rfl, hT3, hO3⟩
  obtain ⟨Av, cap, rfl, hf1, hf2⟩ := EntsAt.form hO3.ents.at_
  unfold maxLen at hf2
  obtain ⟨F, hF⟩ : ∃ F, nodeCells n1 (.slice Av n1.ents.length cap) = F := ⟨_, rfl⟩
  have hFl : Hid (F.length = 18) := Lib.hid (by rw [← hF]; exact nodeCells_len _ _)
  have hF1 : Hid (∀ v ∈ F, v.oneCell' = true) := Lib.hid (by rw [← hF]; exact nodeCells_one _ _ _ _)
  obtain ⟨nb, hnb⟩ : ∃ nb, w3.heap.size = nb := ⟨_, rfl⟩
  obtain ⟨w5, hw5⟩ : ∃ w5, (w3.alloc (.cells Z.toArray 33)).setRow nb F.toArray = w5 := ⟨_, rfl⟩
  have k5 : Kept (fun _ => False) w3 w5 := by rw [← hw5]; exact ((Kept.refl _ _).alloc _).setRowNew (by omega) _
  have q5 := Lib.hid (show w5.heap[nb]? = some (.cells F.toArray 33 (0, 0)) by rw [← hw5, ← hnb]; exact setRow_heap _ _ _ _ _ _ (heap_alloc_new _ _))
  have bx5 : NodeBox w5 nb n1 (.slice Av n1.ents.length cap) := ⟨by rw [hF]; exact q5.out⟩
  have c0 := bx5.c0
  have c17 := bx5.c17
  have t5 := Lib.hid (k5.get (hT3.get t1'.out sf1.out) id)
  have ct5 := cell_of_heap t5.out 0
  simp at ct5
  have hT5 := Lib.hid ((st1.out.trans hT3).fresh k5)
  have hsb := hT3.sb
  have hO5 := Lib.hid (hO3.ents.fresh k5)
  have hSp := treeSplit hT5.out.store hO5.out (by omega)
  rw [hF, hsb] at hSp
  have hSp' := Lib.hid hSp
  have hnb' := Lib.hid hnb
  have hw5' := Lib.hid hw5
  rw [hF]
  clear hT3 hO3 hF hnb hw5 k5 hSp hsb bx5
  by_cases h0 : er = 0
  · subst h0
    rw [if_neg (by simp)] at hcut
    cases was with
    | false =>
      rw [if_pos rfl] at hcut
      go_wp2_with (first | (refine wpList_alloc_as 33 rfl rfl Z.toArray hZz.out ?_; rw [hnb'.out]) | (refine wpList_store_whole 33 rfl rfl rfl F rfl (by rw [hFl.out]; exact node_size) 33 _ (by rw [← hnb'.out]; exact heap_alloc_new _ _) (by simp [hFl.out, hZl.out]) hF1.out ?_; rw [hw5'.out]))
      go_ret3
      first | exact ⟨A3, by rw [hcut.out]; rfl, by rw [hcut.out]; exact hT5.out⟩ | exact ⟨by rw [hcut.out]; rfl, A3, by rw [hcut.out]; exact hT5.out⟩
    | true =>
      rw [if_neg (by simp)] at hcut
      by_cases hone : n1.kind = 3 ∧ n1.ents.length = 1
      · obtain ⟨hk3, hl1⟩ := hone
        rw [if_pos ⟨hk3, hl1⟩] at hcut
        obtain ⟨x, hx⟩ : ∃ x, n1.ents[0]? = some x := ⟨_, List.getElem?_eq_getElem (by omega)⟩
        obtain ⟨b, off, rfl, _, hx1, hx2⟩ := EntsAt.get hO5.out.at_ hx
        have hxd : n1.ents.getD 0 (0, 0) = x := by simp [hx]
        rw [hxd] at hcut
        rw [Nat.zero_mul, Nat.add_zero] at hx1 hx2
        rw [hk3] at c0
        rw [hl1] at c17
        clear hx hxd hk3 hl1 hf1
        go_wp2_with (first | (refine wpList_alloc_as 33 rfl rfl Z.toArray hZz.out ?_; rw [hnb'.out]) | (refine wpList_store_whole 33 rfl rfl rfl F rfl (by rw [hFl.out]; exact node_size) 33 _ (by rw [← hnb'.out]; exact heap_alloc_new _ _) (by simp [hFl.out, hZl.out]) hF1.out ?_; rw [hw5'.out]))
        go_ret3
        first | exact ⟨A3, by rw [hcut.out]; rfl, by rw [hcut.out]; exact hT5.out⟩ | exact ⟨by rw [hcut.out]; rfl, A3, by rw [hcut.out]; exact hT5.out⟩
      · rw [if_neg hone] at hcut
        obtain ⟨R, hR⟩ : ∃ R, M1.split n1 = R := ⟨_, rfl⟩
        rw [hR] at hSp'
        simp only [hR] at hcut
        obtain ⟨M2, out, er2⟩ := R
        dsimp only at hSp' hcut
        clear hR
        have fin : Hid (∀ w6 A6, StoreTo A3 A6 M2 w5 w6 → StoreTo A A6 M2 w w6) := Lib.hid (fun w6 A6 k => hT5.out.trans k)
        by_cases hk3 : n1.kind = 3
        · have hl1 : ((n1.ents.length : Int) == 1) = false := by rw [beq_eq_false_iff_ne]; intro e; exact hone ⟨hk3, by omega⟩
          rw [hk3] at c0
          clear hk3 hone
          go_wp2_with (first | (refine wpList_alloc_as 33 rfl rfl Z.toArray hZz.out ?_; rw [hnb'.out]) | (refine wpList_store_whole 33 rfl rfl rfl F rfl (by rw [hFl.out]; exact node_size) 33 _ (by rw [← hnb'.out]; exact heap_alloc_new _ _) (by simp [hFl.out, hZl.out]) hF1.out ?_; rw [hw5'.out]) | (refine wpList_load_agg 26 rfl rfl rfl _ Try.underlying26 rfl [.pointer (some ⟨A.sb, 0, none⟩)] (by kernel_rfl) (fun j v hj => by rw [Nat.zero_add, cell_of_heap t5.out]; simpa using hj) ?_) | (refine wpList_load_agg 33 rfl rfl rfl _ Try.underlying33 rfl F (by rw [hFl.out]; exact node_size) (fun j v hv => by rw [cell_of_heap q5.out, Nat.zero_add]; simpa using hv) ?_))
          refine hSp'.out.mono ?_
          rintro e w6 ⟨A6, v6, rfl, hT6, hO6⟩
          obtain ⟨Av6, cap6, rfl, hg1, hg2⟩ := hO6.ents.at_.form
          unfold maxLen at hg2
          have hTT := Lib.hid (fin.out _ _ hT6)
          have hO6' := Lib.hid hO6
          clear hT6 hO6
          by_cases h2 : er2 = 0
          · subst h2
            by_cases hl2 : out.length = 0
            · rw [if_pos (Or.inr hl2)] at hcut
              have hlb2 : ((out.length : Int) == 0) = true := by simp [hl2]
              clear hl2
              go_wp2_with fail
              go_ret3
              first | exact ⟨A6, by rw [hcut.out]; rfl, by rw [hcut.out]; exact hTT.out⟩ | exact ⟨by rw [hcut.out]; rfl, A6, by rw [hcut.out]; exact hTT.out⟩
            · rw [if_neg (by simp only [ne_eq, not_true_eq_false, false_or]; exact hl2)] at hcut
              obtain ⟨x, hx⟩ : ∃ x, out[0]? = some x := ⟨_, List.getElem?_eq_getElem (by omega)⟩
              obtain ⟨b, off, rfl, _, hx1, hx2⟩ := EntsAt.get hO6'.out.ents.at_ hx
              have hxd : out.getD 0 (0, 0) = x := by simp [hx]
              rw [hxd] at hcut
              rw [Nat.zero_mul, Nat.add_zero] at hx1 hx2
              have hlb2 : ((out.length : Int) == 0) = false := by rw [beq_eq_false_iff_ne]; omega
              have hpos : 0 < out.length := by omega
              clear hx hxd hl2
              go_wp2_with fail
              go_ret3
              first | exact ⟨A6, by rw [hcut.out]; rfl, by rw [hcut.out]; exact hTT.out⟩ | exact ⟨by rw [hcut.out]; rfl, A6, by rw [hcut.out]; exact hTT.out⟩
          · rw [if_pos (Or.inl h2)] at hcut
            have h2' : ((er2 : Int) == 0) = false := by rw [beq_eq_false_iff_ne]; omega
            have h2b : ((er2 : Int) != 0) = true := by rw [bne, h2']; rfl
            have h2c : (er2 == 0) = false := by rw [beq_eq_false_iff_ne]; exact h2
            rw [h2c] at hcut
            clear h2
            go_wp2_with fail
            go_ret3
            first | exact ⟨A6, by rw [hcut.out]; rfl, by rw [hcut.out]; exact hTT.out⟩ | exact ⟨by rw [hcut.out]; rfl, A6, by rw [hcut.out]; exact hTT.out⟩
        · have hkb : (n1.kind == 3) = false := by simpa using hk3
          clear hk3 hone
          go_wp2_with (first | (refine wpList_alloc_as 33 rfl rfl Z.toArray hZz.out ?_; rw [hnb'.out]) | (refine wpList_store_whole 33 rfl rfl rfl F rfl (by rw [hFl.out]; exact node_size) 33 _ (by rw [← hnb'.out]; exact heap_alloc_new _ _) (by simp [hFl.out, hZl.out]) hF1.out ?_; rw [hw5'.out]) | (refine wpList_load_agg 26 rfl rfl rfl _ Try.underlying26 rfl [.pointer (some ⟨A.sb, 0, none⟩)] (by kernel_rfl) (fun j v hj => by rw [Nat.zero_add, cell_of_heap t5.out]; simpa using hj) ?_) | (refine wpList_load_agg 33 rfl rfl rfl _ Try.underlying33 rfl F (by rw [hFl.out]; exact node_size) (fun j v hv => by rw [cell_of_heap q5.out, Nat.zero_add]; simpa using hv) ?_))
          refine hSp'.out.mono ?_
          rintro e w6 ⟨A6, v6, rfl, hT6, hO6⟩
          obtain ⟨Av6, cap6, rfl, hg1, hg2⟩ := hO6.ents.at_.form
          unfold maxLen at hg2
          have hTT := Lib.hid (fin.out _ _ hT6)
          have hO6' := Lib.hid hO6
          clear hT6 hO6
          by_cases h2 : er2 = 0
          · subst h2
            by_cases hl2 : out.length = 0
            · rw [if_pos (Or.inr hl2)] at hcut
              have hlb2 : ((out.length : Int) == 0) = true := by simp [hl2]
              clear hl2
              go_wp2_with fail
              go_ret3
              first | exact ⟨A6, by rw [hcut.out]; rfl, by rw [hcut.out]; exact hTT.out⟩ | exact ⟨by rw [hcut.out]; rfl, A6, by rw [hcut.out]; exact hTT.out⟩
            · rw [if_neg (by simp only [ne_eq, not_true_eq_false, false_or]; exact hl2)] at hcut
              obtain ⟨x, hx⟩ : ∃ x, out[0]? = some x := ⟨_, List.getElem?_eq_getElem (by omega)⟩
              obtain ⟨b, off, rfl, _, hx1, hx2⟩ := EntsAt.get hO6'.out.ents.at_ hx
              have hxd : out.getD 0 (0, 0) = x := by simp [hx]
              rw [hxd] at hcut
              rw [Nat.zero_mul, Nat.add_zero] at hx1 hx2
              have hlb2 : ((out.length : Int) == 0) = false := by rw [beq_eq_false_iff_ne]; omega
              have hpos : 0 < out.length := by omega
              clear hx hxd hl2
              go_wp2_with fail
              go_ret3
              first | exact ⟨A6, by rw [hcut.out]; rfl, by rw [hcut.out]; exact hTT.out⟩ | exact ⟨by rw [hcut.out]; rfl, A6, by rw [hcut.out]; exact hTT.out⟩
          · rw [if_pos (Or.inl h2)] at hcut
            have h2' : ((er2 : Int) == 0) = false := by rw [beq_eq_false_iff_ne]; omega
            have h2b : ((er2 : Int) != 0) = true := by rw [bne, h2']; rfl
            have h2c : (er2 == 0) = false := by rw [beq_eq_false_iff_ne]; exact h2
            rw [h2c] at hcut
            clear h2
            go_wp2_with fail
            go_ret3
            first | exact ⟨A6, by rw [hcut.out]; rfl, by rw [hcut.out]; exact hTT.out⟩ | exact ⟨by rw [hcut.out]; rfl, A6, by rw [hcut.out]; exact hTT.out⟩
  · rw [if_pos h0] at hcut
    have h0' : ((er : Int) == 0) = false := by rw [beq_eq_false_iff_ne]; omega
    clear h0
    go_wp2_with (first | (refine wpList_alloc_as 33 rfl rfl Z.toArray hZz.out ?_; rw [hnb'.out]) | (refine wpList_store_whole 33 rfl rfl rfl F rfl (by rw [hFl.out]; exact node_size) 33 _ (by rw [← hnb'.out]; exact heap_alloc_new _ _) (by simp [hFl.out, hZl.out]) hF1.out ?_; rw [hw5'.out]))
    go_ret3
    first | exact ⟨A3, by rw [hcut.out]; rfl, by rw [hcut.out]; exact hT5.out⟩ | exact ⟨by rw [hcut.out]; rfl, A3, by rw [hcut.out]; exact hT5.out⟩
end Go.Proofs.Ythmjcbmeiabbgaa
/-
  Pruners (package prune): Trim.
-/
namespace Go.Proofs.Ythmjcbmeiabbgaa
open Go.RowKit
set_option maxRecDepth 100000

/-- Whole numbers that no call of a store writes. -/
structure IntsOff (w : World) (A : SA) (v : Value) (l : List Int) : Prop where
  at_ : SliceAt w v 1 l.length (l.map (Value.int .i64))
  off : l ≠ [] → ∀ b, v.ownBlock = some b → b < w.heap.size ∧ ¬ A.foot b
theorem IntsOff.fresh {w w' : World} {A : SA} {v : Value} {l : List Int} (h : IntsOff w A v l) (k : Kept (fun _ => False) w w') : IntsOff w' A v l :=
  ⟨SliceAt.fresh h.at_ k, fun hl b hb => ⟨Nat.lt_of_lt_of_le (h.off hl b hb).1 k.size, (h.off hl b hb).2⟩⟩
theorem ints_nil {w w' : World} {v : Value} (h : SliceAt w v 1 0 []) : SliceAt w' v 1 0 [] := by
  obtain ⟨h1, A, cap, h2, h3, h4, _⟩ := h
  exact ⟨h1, A, cap, h2, h3, h4, fun j v hj => by simp at hj⟩
theorem IntsOff.to {A A' : SA} {M' : SM} {w w' : World} {v : Value} {l : List Int} (h : IntsOff w A v l) (k : StoreTo A A' M' w w') : IntsOff w' A' v l :=
  ⟨by
    by_cases hl : l = []
    · subst hl; exact ints_nil h.at_
    · exact SliceAt.kept h.at_ k.kept fun b hb => (h.off hl b hb).2, fun hl b hb => ⟨Nat.lt_of_lt_of_le (h.off hl b hb).1 k.kept.size, fun e => (k.foot b e).elim (h.off hl b hb).2 fun e => absurd (h.off hl b hb).1 (Nat.not_lt.2 e)⟩⟩
theorem IntsOff.form {w : World} {A : SA} {v : Value} {l : List Int} (h : IntsOff w A v l) : ∃ Av cap, v = .slice Av l.length cap ∧ l.length ≤ cap ∧ cap ≤ maxLen := by
  obtain ⟨_, Av, cap, hv, h1, h2, _⟩ := h.at_
  exact ⟨Av, cap, hv, h1, h2⟩
theorem IntsOff.get {w : World} {A : SA} {Av : Option Addr} {n cap : Nat} {l : List Int} (h : IntsOff w A (.slice Av n cap) l) {i : Nat} {x : Int} (hx : l[i]? = some x) :
    ∃ b off, Av = some ⟨b, off, none⟩ ∧ b < w.heap.size ∧ w.cell? ⟨b, off + i, none⟩ = some (.int .i64 x) := by
  have hi : i < l.length := (List.getElem?_eq_some_iff.1 hx).1
  obtain ⟨_, A', cap', hv, h1, h2, h3⟩ := id h.at_
  injection hv with e1 e2 e3
  subst e2
  obtain ⟨b, off, hA, hb, hc⟩ := SliceAt.elem h.at_ hi (by decide)
  refine ⟨b, off, hA, hb, ?_⟩
  have := hc 0 (.int .i64 x) (by decide) (by simp [hx])
  simpa using this
theorem trim_cons (x : Int) (ks : List Int) (M : SM) (root : Int) : SM.trim (x :: ks) M root =
    if (M.cut root x).2.2.2 = 0 then
      (if (M.cut root x).2.2.1 = true then (if ((M.cut root x).1.swap root (M.cut root x).2.1).2 = 0 then SM.trim ks ((M.cut root x).1.swap root (M.cut root x).2.1).1 (M.cut root x).2.1 else (((M.cut root x).1.swap root (M.cut root x).2.1).1, -1, ((M.cut root x).1.swap root (M.cut root x).2.1).2))
       else SM.trim ks (M.cut root x).1 (M.cut root x).2.1)
    else ((M.cut root x).1, -1, (M.cut root x).2.2.2) := by
  conv => lhs; unfold SM.trim
  dsimp only
  split
  · split
    · rfl
    · rfl
  · rfl
theorem trim_log {w : World} {A : SA} {M : SM} (h : StoreAt w A M) (root x : Int) : (SM.trim [x] M root).1.log.length ≤ M.log.length + 20 := by
  have h1 := cut_log h root x
  have h2 := swap_log (M.cut root x).1 root (M.cut root x).2.1
  rw [trim_cons]
  split
  · split
    · split
      · show ((M.cut root x).1.swap root (M.cut root x).2.1).1.log.length ≤ _; rw [h2]; exact h1
      · show ((M.cut root x).1.swap root (M.cut root x).2.1).1.log.length ≤ _; rw [h2]; exact h1
    · exact h1
  · exact h1
/-- What holds in the midst of Trim. -/
structure TrimSt (w : World) (A : SA) (M : SM) (ks : List Int) (root : Int) (v : Value) (k : Nat) (root' : Int) (A' : SA) (M' : SM) (wr : World) : Prop where
  to_ : StoreTo A A' M' w wr
  pb : wr.heap[w.heap.size]? = some (.cells #[.pointer (some ⟨A.sb, 0, none⟩)] 57 (0, 0))
  sp : Safe wr A' w.heap.size
  keys : IntsOff wr A' v ks
  rest : SM.trim (ks.drop k) M' root' = SM.trim ks M root
  log : M'.log.length ≤ M.log.length + 20 * k
theorem TrimSt.load {w wr : World} {A A' : SA} {M M' : SM} {ks : List Int} {root root' : Int} {v : Value} {k : Nat} (h : TrimSt w A M ks root v k root' A' M' wr) : ∀ j u, [Value.pointer (some ⟨A.sb, 0, none⟩)][j]? = some u → wr.cell? ⟨w.heap.size, 0 + j, none⟩ = some u := fun j u hj => by rw [Nat.zero_add, cell_of_heap h.pb]; simpa using hj

set_option maxHeartbeats 8000000 in
theorem pruneTrim {w : World} {A : SA} {M : SM} (h : StoreAt w A M) (root : Int) {v : Value} {ks : List Int} (hv : IntsOff w A v ks) (hks : ks.length ≤ 1000) (hfew : M.log.length + 100000 < 100000000) :
    Calls Try.prog 44 #[.agg #[.pointer (some ⟨A.sb, 0, none⟩)], .int .i64 root, v] w fun e w' => ∃ A', e = .returned (.tuple #[.int .i64 (SM.trim ks M root).2.1, .int .i64 (SM.trim ks M root).2.2]) ∧ StoreTo A A' (SM.trim ks M root).1 w w' := by
  obtain ⟨Av, cap, rfl, hc1, hc2⟩ := hv.form
  unfold maxLen at hc2
  obtain ⟨w1, hw1⟩ : ∃ w1, w.alloc (.cells #[.pointer (some ⟨A.sb, 0, none⟩)] 57) = w1 := ⟨_, rfl⟩
  have k1 : Kept (fun _ => False) w w1 := by rw [← hw1]; exact (Kept.refl _ _).alloc _
  have I1 : Hid (∃ A' M', TrimSt w A M ks root (.slice Av ks.length cap) 0 root A' M' w1) := Lib.hid ⟨A, M, (StoreTo.refl h).fresh k1, by rw [← hw1]; exact heap_alloc_new _ _, Safe.new h (Nat.le_refl _) (by rw [← hw1]; simp), hv.fresh k1, rfl, Nat.le_refl _⟩
  have hw1' := Lib.hid hw1
  clear hw1 k1 h hv
  go_enter Try.func44, Try.ntmps44
  go_wp2_with (first | (refine wpList_box_named 57 rfl rfl _ rfl hw1'.out ?_))
  go_loopw [1, 15] (fun r i wr => ∃ (k : Nat) (root' : Int), k ≤ ks.length ∧ i = .int .i64 k ∧ r = .int .i64 root' ∧ Hid (∃ A' M', TrimSt w A M ks root (.slice Av ks.length cap) k root' A' M' wr)) (fun _ i _ => ks.length - (intOf i).toNat)
  case atStart => exact ⟨0, root, Nat.zero_le _, rfl, rfl, I1⟩
  case round =>
    obtain ⟨k, root', hk, rfl, rfl, hI⟩ := hrel
    obtain ⟨A', M', St⟩ := hI.out
    have St' := Lib.hid St
    by_cases hlt : k < ks.length
    · obtain ⟨x, hx⟩ : ∃ x, ks[k]? = some x := ⟨_, List.getElem?_eq_getElem hlt⟩
      obtain ⟨b, off, rfl, hb, hxc⟩ := St.keys.get hx
      have hd : ks.drop k = x :: ks.drop (k + 1) := by rw [List.drop_eq_getElem_cons hlt, (List.getElem?_eq_some_iff.1 hx).2]
      have hrest := St.rest
      rw [hd, trim_cons] at hrest
      have hcut := pruneCut St.to_.store root' x (by have := St.log; omega)
      rw [St.to_.sb] at hcut
      have hlog := cut_log St.to_.store root' x
      have hki : (k : Int) < (ks.length : Int) := by omega
      have hload : Hid (∀ j u, [Value.pointer (some ⟨A.sb, 0, none⟩)][j]? = some u → wr.cell? ⟨w.heap.size, 0 + j, none⟩ = some u) := Lib.hid St.load
      obtain ⟨R, hR⟩ : ∃ R, M'.cut root' x = R := ⟨_, rfl⟩
      rw [hR] at hcut hlog
      simp only [hR] at hrest
      obtain ⟨M1, next, was, er⟩ := R
      dsimp only at hcut hlog hrest
      have hcut' := Lib.hid hcut
      have hrest' := Lib.hid hrest
      have hlog' := Lib.hid hlog
      clear hcut hR hx hd hI St hrest hlog
      go_wp2_with (first | (refine wpList_load_agg 57 rfl rfl rfl _ Try.underlying57 rfl [.pointer (some ⟨A.sb, 0, none⟩)] (by kernel_rfl) hload.out ?_))
      refine hcut'.out.mono ?_
      rintro e w3 ⟨A3, rfl, hT3⟩
      have T3 := Lib.hid (St'.out.to_.trans hT3)
      have p3 := Lib.hid (hT3.get St'.out.pb St'.out.sp)
      have s3 := Lib.hid (St'.out.sp.to hT3)
      have K3 := Lib.hid (St'.out.keys.to hT3)
      have ct3 := cell_of_heap p3.out 0
      simp at ct3
      clear hT3
      by_cases h0 : er = 0
      · subst h0
        cases was with
        | false =>
          have hr2 := hrest'.out
          rw [if_pos rfl, if_neg (by decide)] at hr2
          have fin : Hid (∃ A' M', TrimSt w A M ks root (.slice (some ⟨b, off, none⟩) ks.length cap) (k + 1) next A' M' w3) := Lib.hid ⟨A3, M1, T3.out, p3.out, s3.out, K3.out, hr2, by have := hlog'.out; have := St'.out.log; omega⟩
          clear hr2
          go_wp2_with fail
          go_roundw
          case rel => exact ⟨k + 1, next, by omega, by go_num, rfl, fin⟩
          case measure => simp [intOf]; omega
        | true =>
          have hr2 := hrest'.out
          rw [if_pos rfl, if_pos rfl] at hr2
          have hS := treeSwap T3.out.store root' next
          rw [T3.out.sb] at hS
          have hlogS := swap_log M1 root' next
          obtain ⟨R, hRe⟩ : ∃ R, M1.swap root' next = R := ⟨_, rfl⟩
          rw [hRe] at hS hlogS
          simp only [hRe] at hr2
          obtain ⟨M2, es⟩ := R
          dsimp only at hS hr2 hlogS
          have hS' := Lib.hid hS
          have hr2' := Lib.hid hr2
          have hload3 : Hid (∀ j u, [Value.pointer (some ⟨A.sb, 0, none⟩)][j]? = some u → w3.cell? ⟨w.heap.size, 0 + j, none⟩ = some u) := Lib.hid (fun j u hj => by rw [Nat.zero_add, cell_of_heap p3.out]; simpa using hj)
          have hlogS' := Lib.hid hlogS
          clear hS hRe hr2 hlogS
          go_wp2_with (first | (refine wpList_load_agg 26 rfl rfl rfl _ Try.underlying26 rfl [.pointer (some ⟨A.sb, 0, none⟩)] (by kernel_rfl) hload3.out ?_))
          refine hS'.out.mono ?_
          rintro e w4 ⟨rfl, hT4⟩
          have T4 := Lib.hid (T3.out.trans hT4)
          have p4 := Lib.hid (hT4.get p3.out s3.out)
          have s4 := Lib.hid (s3.out.to hT4)
          have K4 := Lib.hid (K3.out.to hT4)
          clear hT4
          by_cases h1 : es = 0
          · subst h1
            have hr3 := hr2'.out
            rw [if_pos rfl] at hr3
            have fin : Hid (∃ A' M', TrimSt w A M ks root (.slice (some ⟨b, off, none⟩) ks.length cap) (k + 1) next A' M' w4) := Lib.hid ⟨_, M2, T4.out, p4.out, s4.out, K4.out, hr3, by have := hlog'.out; have := St'.out.log; have := hlogS'.out; rw [this]; omega⟩
            clear hr3
            go_wp2_with fail
            go_roundw
            case rel => exact ⟨k + 1, next, by omega, by go_num, rfl, fin⟩
            case measure => simp [intOf]; omega
          · have h1' : ((es : Int) == 0) = false := by simp; omega
            have hr3 := hr2'.out
            rw [if_neg h1] at hr3
            have hr3' := Lib.hid hr3
            clear hr3 h1
            go_wp2_with fail
            go_ret2
            exact ⟨_, by rw [← hr3'.out]; rfl, by rw [← hr3'.out]; exact T4.out⟩
      · have h0' : ((er : Int) == 0) = false := by simp; omega
        have hr2 := hrest'.out
        rw [if_neg h0] at hr2
        have hr2' := Lib.hid hr2
        clear hr2 h0
        go_wp2_with fail
        go_ret2
        exact ⟨_, by rw [← hr2'.out]; rfl, by rw [← hr2'.out]; exact T3.out⟩
    · obtain rfl : k = ks.length := by omega
      have hr := St.rest
      rw [List.drop_length] at hr
      have hr' : Hid ((M', root', 0) = SM.trim ks M root) := Lib.hid hr
      clear hI St hr
      go_wp2_with fail
      go_ret2
      exact ⟨A', by rw [← hr'.out]; rfl, by rw [← hr'.out]; exact St'.out.to_⟩
end Go.Proofs.Ythmjcbmeiabbgaa
/-
  Layer 10's laws: the chapter's example.
-/
namespace Go.Proofs.Ythmjcbmeiabbgaa
open Go.RowKit
set_option maxRecDepth 100000

theorem alive10_facts : ∃ M1 M2 : SM, (madeM 16 9).put (-1) 5 0 = (M1, 1, 0) ∧ M1.swap (-1) 1 = (M2, 0) ∧ M2.find 1 5 = (0, 0) ∧ M2.find 1 6 = (-1, 0) :=
  ⟨((madeM 16 9).put (-1) 5 0).1, (((madeM 16 9).put (-1) 5 0).1.swap (-1) 1).1, Prod.ext rfl (by kernel_rfl), Prod.ext rfl (by kernel_rfl), by kernel_rfl, by kernel_rfl⟩
/-- A store that is a call's own. -/
structure OwnStore (w : World) (A : SA) (M : SM) (wr : World) : Prop where
  store : StoreAt wr A M
  kept : Kept (fun _ => False) w wr
  new : ∀ k, A.own k → w.heap.size ≤ k
theorem OwnStore.fresh {w wr w' : World} {A : SA} {M : SM} (h : OwnStore w A M wr) (k : Kept (fun _ => False) wr w') : OwnStore w A M w' := ⟨h.store.fresh k, h.kept.trans k, h.new⟩
theorem OwnStore.to {w wr w' : World} {A A' : SA} {M M' : SM} (h : OwnStore w A M wr) (k : StoreTo A A' M' wr w') : OwnStore w A' M' w' := by
  refine ⟨k.store, h.kept.trans_new k.kept (fun i hi e => by have := h.new _ (.inl e); omega), fun j hj => ?_⟩
  have hsz := h.kept.size
  rcases hj with hj | hj | hj
  · rcases k.foot j hj with e | e
    · exact h.new _ (.inl e)
    · omega
  · rw [k.fix.2] at hj; exact h.new _ (.inr (.inl hj))
  · rw [k.fix.1] at hj; exact h.new _ (.inr (.inr hj))
/-- A tree's variable: a box with its store's address. -/
structure TreeVar (wr : World) (A : SA) (b sb : Nat) : Prop where
  heap : wr.heap[b]? = some (.cells #[.pointer (some ⟨sb, 0, none⟩)] 26 (0, 0))
  safe : Safe wr A b
  eq : A.sb = sb
theorem TreeVar.fresh {wr w' : World} {A : SA} {b sb : Nat} (h : TreeVar wr A b sb) (k : Kept (fun _ => False) wr w') : TreeVar w' A b sb := ⟨k.get h.heap id, h.safe.fresh k, h.eq⟩
theorem TreeVar.to {wr w' : World} {A A' : SA} {M' : SM} {b sb : Nat} (h : TreeVar wr A b sb) (k : StoreTo A A' M' wr w') : TreeVar w' A' b sb := ⟨k.get h.heap h.safe, h.safe.to k, k.sb.trans h.eq⟩
theorem TreeVar.load {wr : World} {A : SA} {b sb : Nat} (h : TreeVar wr A b sb) : ∀ j v, [Value.pointer (some ⟨sb, 0, none⟩)][j]? = some v → wr.cell? ⟨b, 0 + j, none⟩ = some v := fun j v hj => by rw [Nat.zero_add, cell_of_heap h.heap]; simpa using hj
/-- The variable is made, and filled. -/
theorem TreeVar.made {w wr : World} {A : SA} {M : SM} (h : OwnStore w A M wr) {b : Nat} (hb : wr.heap.size = b) :
    OwnStore w A M ((wr.alloc (.cells #[.pointer none] 26)).setRow b #[.pointer (some ⟨A.sb, 0, none⟩)]) ∧ TreeVar ((wr.alloc (.cells #[.pointer none] 26)).setRow b #[.pointer (some ⟨A.sb, 0, none⟩)]) A b A.sb := by
  have k : Kept (fun _ => False) wr ((wr.alloc (.cells #[.pointer none] 26)).setRow b #[.pointer (some ⟨A.sb, 0, none⟩)]) := ((Kept.refl _ _).alloc _).setRowNew (by omega) _
  refine ⟨h.fresh k, ⟨by rw [← hb]; exact setRow_heap _ _ _ _ _ _ (heap_alloc_new _ _), Safe.new h.store (by omega) (by simp [World.setRow]; omega), rfl⟩⟩

set_option maxHeartbeats 4000000 in
theorem alive10 (w : World) : Calls Try.prog 13 #[] w fun e w' => e = .returned (.bool true) ∧ Kept (fun _ => False) w w' := by
  obtain ⟨M1, M2, e1, e2, e3, e4⟩ := alive10_facts
  have hlog : M1.log.length ≤ 23 := by have := put_log (madeM 16 9) (-1) 5 0; rw [e1] at this; exact this
  have hlog2 : M2.log.length ≤ 23 := by have := swap_log M1 (-1) 1; rw [e2] at this; simp only at this; rw [this]; exact hlog
  have hm := made10 20 (by decide) (by decide) w
  rw [show (min (20 : Int) 244 - 4).toNat = 16 from by decide] at hm
  have hm' := Lib.hid hm
  have e1' := Lib.hid e1
  have e2' := Lib.hid e2
  have e3' := Lib.hid e3
  have e4' := Lib.hid e4
  clear e1 e2 e3 e4 hm
  go_enter Try.func13, Try.ntmps13
  go_wp2_with fail
  refine hm'.out.mono ?_
  rintro e w2 ⟨A, rfl, hA, hk, hn⟩
  obtain ⟨b, hb⟩ : ∃ b, w2.heap.size = b := ⟨_, rfl⟩
  have hO := TreeVar.made (b := b) ⟨hA, hk, hn⟩ hb
  obtain ⟨w3, hw3⟩ : ∃ w3, (w2.alloc (.cells #[.pointer none] 26)).setRow b #[.pointer (some ⟨A.sb, 0, none⟩)] = w3 := ⟨_, rfl⟩
  rw [hw3] at hO
  obtain ⟨hO3, hT3⟩ := hO
  have hO3 := Lib.hid hO3
  have hT3 := Lib.hid hT3
  have hw3' := Lib.hid hw3
  have hb' := Lib.hid hb
  obtain ⟨sb, hsb⟩ : ∃ sb, A.sb = sb := ⟨_, rfl⟩
  have c3 := cell_of_heap hT3.out.heap 0
  have hP := treePut hO3.out.store (-1) 5 0 (by show 1 + 30 < 100000000; omega)
  rw [e1'.out, hsb] at hP
  have hP' := Lib.hid hP
  rw [hsb] at hw3' hT3 c3 ⊢
  simp at c3
  clear hA hk hn hw3 hb hP
  go_wp2_with (first | (refine wpList_alloc_as 26 rfl rfl #[.pointer none] tree_zero ?_; rw [hb'.out]) | (refine wpList_store_whole 26 rfl rfl rfl [.pointer (some ⟨sb, 0, none⟩)] rfl (by kernel_rfl) 26 #[.pointer none] (by rw [← hb'.out]; exact heap_alloc_new _ _) rfl (by intro c hc; simp at hc; subst hc; rfl) ?_; rw [hw3'.out]) | (refine wpList_load_agg 26 rfl rfl rfl _ Try.underlying26 rfl [.pointer (some ⟨sb, 0, none⟩)] (by kernel_rfl) hT3.out.load ?_))
  refine hP'.out.mono ?_
  rintro e w4 ⟨A4, rfl, hT4⟩
  have hO4 := Lib.hid (hO3.out.to hT4)
  have hV4 := Lib.hid (hT3.out.to hT4)
  have hS := treeSwap hO4.out.store (-1) 1
  rw [e2'.out, hV4.out.eq] at hS
  have hS' := Lib.hid hS
  clear hT4 hS c3
  go_wp2_with (first | (refine wpList_load_agg 26 rfl rfl rfl _ Try.underlying26 rfl [.pointer (some ⟨sb, 0, none⟩)] (by kernel_rfl) hV4.out.load ?_))
  refine hS'.out.mono ?_
  rintro e w5 ⟨rfl, hT5⟩
  have hO5 := Lib.hid (hO4.out.to hT5)
  have hV5 := Lib.hid (hV4.out.to hT5)
  have hF := treeFind hO5.out.store 1 5
  rw [e3'.out, hV5.out.eq] at hF
  have hF' := Lib.hid hF
  clear hT5 hF
  go_wp2_with (first | (refine wpList_load_agg 26 rfl rfl rfl _ Try.underlying26 rfl [.pointer (some ⟨sb, 0, none⟩)] (by kernel_rfl) hV5.out.load ?_))
  refine hF'.out.mono ?_
  rintro e w6 ⟨rfl, hk6⟩
  have hO6 := Lib.hid (hO5.out.fresh hk6)
  have hV6 := Lib.hid (hV5.out.fresh hk6)
  have hF := treeFind hO6.out.store 1 6
  rw [e4'.out, hV6.out.eq] at hF
  have hF' := Lib.hid hF
  clear hk6 hF
  go_wp2_with (first | (refine wpList_load_agg 26 rfl rfl rfl _ Try.underlying26 rfl [.pointer (some ⟨sb, 0, none⟩)] (by kernel_rfl) hV6.out.load ?_))
  refine hF'.out.mono ?_
  rintro e w7 ⟨rfl, hk7⟩
  have hO7 := Lib.hid (hO6.out.fresh hk7)
  clear hk7
  go_wp2_with fail
  go_ret
  exact ⟨rfl, hO7.out.kept⟩
end Go.Proofs.Ythmjcbmeiabbgaa
/-
  Layer 11's laws: an empty store with a page of a block.
-/
namespace Go.Proofs.Ythmjcbmeiabbgaa
open Go.RowKit
set_option maxRecDepth 100000

theorem pruner_zero : (Try.prog.info? 57).map (·.zero) = some (some (.agg #[.pointer none])) := by kernel_rfl
set_option maxHeartbeats 4000000 in
theorem made11 (x : Int) (h0 : 5 ≤ x) (h1 : x ≤ 1000) (w : World) :
    Calls Try.prog 28 #[.int .i64 x] w fun e w' => ∃ A, e = .returned (.tuple #[.agg #[.pointer (some ⟨A.sb, 0, none⟩)], .int .i64 0, .bool true]) ∧ StoreAt w' A (madeM (min x 244 - 4).toNat 9) ∧ Kept (fun _ => False) w w' ∧ ∀ k, A.own k → w.heap.size ≤ k := by
  obtain ⟨s, hs⟩ : ∃ s, (min x 244 - 4).toNat = s := ⟨_, rfl⟩
  have hsz : Hid (clampN (max 0 (min x 244 - 4)) = s) := Lib.hid (by unfold clampN; omega)
  have hdn : Hid (max 0 (min x 244) = ((s + 4 : Nat) : Int)) := Lib.hid (by omega)
  have hs0 : 0 < s := by omega
  have hs1 : s ≤ 240 := by omega
  obtain ⟨w1, hw1⟩ : ∃ w1, w.alloc (.cells #[.pointer none] 57) = w1 := ⟨_, rfl⟩
  have k1 := Lib.hid (show Kept (fun _ => False) w w1 by rw [← hw1]; exact (Kept.refl _ _).alloc _)
  have t1 := Lib.hid (show w1.heap[w.heap.size]? = some (.cells #[.pointer none] 57 (0, 0)) by rw [← hw1]; exact heap_alloc_new _ _)
  have z1 : Hid (w1.heap.size = w.heap.size + 1) := Lib.hid (by rw [← hw1]; simp)
  have hw1' := Lib.hid hw1
  have hb1 : Hid (∀ w, (Instr.build 30 #[(0, .int .u8 9)]).run Try.prog w = .ok (.agg (blockCells (dataN 9).block).toArray) w) := Lib.hid (fun w => run_build _ _ _ _ (by kernel_rfl))
  have hb2 : Hid (∀ w, (Instr.build 33 #[(0, .int .i64 1), (1, .agg (blockCells (dataN 9).block).toArray)]).run Try.prog w = .ok (.agg (nodeCells (dataN 9) (.slice none 0 0)).toArray) w) := Lib.hid (fun w => run_build _ _ _ _ (by kernel_rfl))
  obtain ⟨B, hB⟩ : ∃ B, blockCells (dataN 9).block = B := ⟨_, rfl⟩
  obtain ⟨C, hC⟩ : ∃ C, nodeCells (dataN 9) (.slice none 0 0) = C := ⟨_, rfl⟩
  rw [hB] at hb1 hb2
  rw [hC] at hb2
  have hC' := Lib.hid hC
  rw [hs]
  clear hw1 hB hC hs
  go_enter Try.func28, Try.ntmps28
  go_wp2_with (first | (refine wpList_alloc_as 57 rfl rfl #[.pointer none] pruner_zero ?_; rw [hw1'.out]))
  refine (diskNew (s + 4) (by omega) x hdn.out _).mono ?_
  rintro e w2 ⟨D, rfl, hD, hDn, hDp, hDo, hk2⟩
  have hD' := Lib.hid hD
  have hDn' := Lib.hid hDn
  have hDp' := Lib.hid hDp
  have hDo' := Lib.hid hDo
  have hk2' := Lib.hid hk2
  clear hD hDn hDp hDo hk2
  go_wp2_with fail
  refine (nodesSize x _ (by omega) h1).mono ?_
  rintro e w3 ⟨rfl, rfl⟩
  go_wp2_with fail
  refine (new_any _ _).mono ?_
  rintro e w3 ⟨c, rfl, hnew⟩
  have hP := hnew.pool
  rw [hsz.out] at hP
  have hP' := Lib.hid hP
  have hck := hnew.new
  have hk3 := Lib.hid hnew.kept
  clear hnew hP
  go_wp2_with fail
  refine (nodesNew (hD'.out.fresh hk3.out) hP'.out hDp'.out (fun e => by have := hD'.out.lt _ e; omega) (.inr (by rw [hDn'.out]; exact Nat.le_refl _))).mono ?_
  rintro e w4 ⟨A, rfl, hA, hk4, hAo⟩
  have hA' := Lib.hid hA
  have hk14 := Lib.hid (((hk2'.out.trans hk3.out).trans hk4))
  have hAo' : Hid (∀ k, A.own k → w1.heap.size ≤ k) := Lib.hid (fun k hk => by
    rcases hAo k hk with rfl | h | h
    · have := hk2'.out.size; omega
    · exact hDo'.out _ h
    · have := hk2'.out.size; have := hk3.out.size; omega)
  have hmk := storeMake (n := dataN 9) (sv := .slice none 0 0) hA ⟨sliceNil (by decide), fun _ b hb => by simp [Value.ownBlock] at hb⟩ rfl (dataN_ok 9 (by decide)).2.2 (by show 0 < 100000000; omega)
  rw [make_first s 9 hs0, hC'.out] at hmk
  have hmk' := Lib.hid hmk
  clear hA hk4 hAo hmk
  go_wp2_with (first | (refine wpList_exec rfl (exec_build 30 #[(0, .const (.int .u8 9))] _ rfl (by simp [Act.eval]) (hb1.out _)) ?_) | (refine wpList_exec rfl (exec_build 33 #[(0, .const (.int .i64 1)), (1, .tmp 19)] _ rfl (by simp [Act.eval, Act.put]) (hb2.out _)) ?_))
  refine hmk'.out.mono ?_
  rintro e w5 ⟨A5, rfl, hT5⟩
  have hsb5 := hT5.sb
  have hh := storeHold hT5.store 0
  rw [hold_first s 9 hs0, hsb5] at hh
  have hh' := Lib.hid hh
  have hT5' := Lib.hid hT5
  clear hh hT5 hsb5
  have hbt : Hid (∀ w, (Instr.build 26 #[(0, .pointer (some ⟨A.sb, 0, none⟩))]).run Try.prog w = .ok (.agg [Value.pointer (some ⟨A.sb, 0, none⟩)].toArray) w) := Lib.hid (fun w => run_build _ _ _ _ (by kernel_rfl))
  have hbp : Hid (∀ w, (Instr.build 57 #[(0, .agg [Value.pointer (some ⟨A.sb, 0, none⟩)].toArray)]).run Try.prog w = .ok (.agg [Value.pointer (some ⟨A.sb, 0, none⟩)].toArray) w) := Lib.hid (fun w => run_build _ _ _ _ (by kernel_rfl))
  go_wp2_with (first | (refine wpList_exec rfl (exec_build 26 #[(0, .tmp 24)] _ rfl (by simp [Act.eval, Act.put]) (hbt.out _)) ?_) | (refine wpList_exec rfl (exec_build 57 #[(0, .tmp 25)] _ rfl (by simp [Act.eval, Act.put]) (hbp.out _)) ?_))
  refine hh'.out.mono ?_
  rintro e w6 ⟨rfl, hT6⟩
  have hT := Lib.hid (hT5'.out.trans hT6)
  have t6 := Lib.hid (hT.out.kept.get (hk14.out.get t1.out id) (fun e => by have := hAo'.out _ (.inl e); have := z1.out; omega))
  have hk6 : Hid (Kept (fun _ => False) w w6) := Lib.hid ((k1.out.trans hk14.out).trans_new hT.out.kept (fun i hi e => by have := hAo'.out _ (.inl e); have := z1.out; omega))
  have c6 := cell_of_heap t6.out 0
  have f6 := free_of_heap t6.out 0
  simp at c6
  have hk46 : Hid (∀ k, A5.own k → w.heap.size + 1 ≤ k) := Lib.hid (fun k hk => by
    have hz := z1.out
    have hsz4 := hk14.out.size
    rcases hk with hk | hk | hk
    · rcases hT.out.foot k hk with h | h
      · have := hAo'.out _ (.inl h); omega
      · omega
    · rw [hT.out.fix.2] at hk
      have := hAo'.out _ (.inr (.inl hk)); omega
    · rw [hT.out.fix.1] at hk
      have := hAo'.out _ (.inr (.inr hk)); omega)
  have hsb : A5.sb = A.sb := hT.out.sb
  clear hT6
  go_wp2_with (first | (refine wpList_store_whole 57 rfl rfl rfl [.pointer (some ⟨A.sb, 0, none⟩)] rfl (by kernel_rfl) 57 #[.pointer none] t6.out rfl (by intro c hc; simp at hc; subst hc; rfl) ?_))
  refine bodyPost_ret (results_row_tmp2 rfl _ _ w.heap.size 57 #[.pointer (some ⟨A.sb, 0, none⟩)] (0, 0) _ rfl (setRow_heap _ _ _ _ 57 (0, 0) t6.out) Try.underlying57 rfl (by kernel_rfl)) rfl ?_
  have kS := (Kept.refl (fun i => i = w.heap.size) w6).setRow rfl #[.pointer (some ⟨A.sb, 0, none⟩)]
  exact ⟨A5, by rw [hsb]; rfl, hT.out.store.kept kS (fun i hi e => by have := hk46.out i hi; omega), hk6.out.setRowNew (Nat.le_refl _) _, fun k hk => by have := hk46.out k hk; omega⟩
end Go.Proofs.Ythmjcbmeiabbgaa
/-
  Entries that are written out.
-/
namespace Go.Proofs.Ythmjcbmeiabbgaa
open Go.RowKit
set_option maxRecDepth 100000

/-- Entries that are written out. -/
theorem ents_new {w : World} {A : SA} {M : SM} (h : StoreAt w A M) (l : List (Int × Int)) (hl : l.length ≤ 1000) : StoreAt (w.alloc (.cells (entCells l).toArray 35)) A M ∧ EntsOff (w.alloc (.cells (entCells l).toArray 35)) A (.slice (some ⟨w.heap.size, 0, none⟩) l.length l.length) l := by
  refine ⟨h.fresh ((Kept.refl _ _).alloc _), SliceAt.block_new (heap_alloc_new _ _) (entCells_len _) (by unfold maxLen; omega), fun _ b hb => ?_⟩
  simp [Value.ownBlock] at hb
  subst hb
  exact ⟨by simp, fun e => Nat.lt_irrefl _ (h.lt (.inl e))⟩
end Go.Proofs.Ythmjcbmeiabbgaa
/-
  Layer 11's laws: the chapter's example.
-/
namespace Go.Proofs.Ythmjcbmeiabbgaa
open Go.RowKit
set_option maxRecDepth 100000

/-- A pruner's variable: a box with its store's address. -/
structure PrVar (wr : World) (A : SA) (b sb : Nat) : Prop where
  heap : wr.heap[b]? = some (.cells #[.pointer (some ⟨sb, 0, none⟩)] 57 (0, 0))
  safe : Safe wr A b
  eq : A.sb = sb
theorem PrVar.fresh {wr w' : World} {A : SA} {b sb : Nat} (h : PrVar wr A b sb) (k : Kept (fun _ => False) wr w') : PrVar w' A b sb := ⟨k.get h.heap id, h.safe.fresh k, h.eq⟩
theorem PrVar.to {wr w' : World} {A A' : SA} {M' : SM} {b sb : Nat} (h : PrVar wr A b sb) (k : StoreTo A A' M' wr w') : PrVar w' A' b sb := ⟨k.get h.heap h.safe, h.safe.to k, k.sb.trans h.eq⟩
theorem PrVar.load {wr : World} {A : SA} {b sb : Nat} (h : PrVar wr A b sb) : ∀ j v, [Value.pointer (some ⟨sb, 0, none⟩)][j]? = some v → wr.cell? ⟨b, 0 + j, none⟩ = some v := fun j v hj => by rw [Nat.zero_add, cell_of_heap h.heap]; simpa using hj
/-- The variable is made, and filled. -/
theorem PrVar.made {w wr : World} {A : SA} {M : SM} (h : OwnStore w A M wr) {b : Nat} (hb : wr.heap.size = b) :
    OwnStore w A M ((wr.alloc (.cells #[.pointer none] 57)).setRow b #[.pointer (some ⟨A.sb, 0, none⟩)]) ∧ PrVar ((wr.alloc (.cells #[.pointer none] 57)).setRow b #[.pointer (some ⟨A.sb, 0, none⟩)]) A b A.sb := by
  have k : Kept (fun _ => False) wr ((wr.alloc (.cells #[.pointer none] 57)).setRow b #[.pointer (some ⟨A.sb, 0, none⟩)]) := ((Kept.refl _ _).alloc _).setRowNew (by omega) _
  refine ⟨h.fresh k, ⟨by rw [← hb]; exact setRow_heap _ _ _ _ _ _ (heap_alloc_new _ _), Safe.new h.store (by omega) (by simp [World.setRow]; omega), rfl⟩⟩
def m11a : SM := (SM.build [(1, 0), (2, 0)] (madeM 26 9) (-1)).1
def m11b : SM := (m11a.cut 2 1).1
def m11c : SM := (m11b.cut 2 3).1
theorem m11_build : SM.build [(1, 0), (2, 0)] (madeM 26 9) (-1) = (m11a, 2, 0) := Prod.ext rfl (by kernel_rfl)
theorem m11_cut : m11a.cut 2 1 = (m11b, 1, true, 0) := Prod.ext rfl (by kernel_rfl)
theorem m11_cut2 : m11b.cut 2 3 = (m11c, 2, false, 0) := Prod.ext rfl (by kernel_rfl)
theorem m11_list : m11c.list 1 = ([(2, 0)], 0) := by kernel_rfl
theorem m11_log : m11a.log.length ≤ 100 ∧ m11b.log.length ≤ 100 := ⟨of_decide_eq_true (by kernel_rfl), of_decide_eq_true (by kernel_rfl)⟩
set_option maxHeartbeats 4000000 in
theorem alive11 (w : World) : Calls Try.prog 29 #[] w fun e w' => e = .returned (.bool true) ∧ Kept (fun _ => False) w w' := by
  have e1 := m11_build
  have e2 := m11_cut
  have e3 := m11_cut2
  have e4 := m11_list
  obtain ⟨hl1, hl2⟩ := m11_log
  generalize m11a = M1 at *
  generalize m11b = M2 at *
  generalize m11c = M3 at *
  have hm := made11 30 (by decide) (by decide) w
  rw [show (min (30 : Int) 244 - 4).toNat = 26 from by decide] at hm
  have hm' := Lib.hid hm
  have e1' := Lib.hid e1
  have e2' := Lib.hid e2
  have e3' := Lib.hid e3
  have e4' := Lib.hid e4
  clear e1 e2 e3 e4 hm
  go_enter Try.func29, Try.ntmps29
  go_wp2_with fail
  refine hm'.out.mono ?_
  rintro e w2 ⟨A, rfl, hA, hk, hn⟩
  obtain ⟨b, hb⟩ : ∃ b, w2.heap.size = b := ⟨_, rfl⟩
  have hO := PrVar.made (b := b) ⟨hA, hk, hn⟩ hb
  obtain ⟨w3, hw3⟩ : ∃ w3, (w2.alloc (.cells #[.pointer none] 57)).setRow b #[.pointer (some ⟨A.sb, 0, none⟩)] = w3 := ⟨_, rfl⟩
  rw [hw3] at hO
  obtain ⟨hO3, hT3⟩ := hO
  have hO3 := Lib.hid hO3
  have hT3 := Lib.hid hT3
  have hw3' := Lib.hid hw3
  have hb' := Lib.hid hb
  obtain ⟨sb, hsb⟩ : ∃ sb, A.sb = sb := ⟨_, rfl⟩
  rw [hsb] at hw3' hT3 ⊢
  clear hA hk hn hw3 hb
  go_wp2_with (first | (refine wpList_alloc_as 57 rfl rfl #[.pointer none] pruner_zero ?_; rw [hb'.out]) | (refine wpList_store_whole 57 rfl rfl rfl [.pointer (some ⟨sb, 0, none⟩)] rfl (by kernel_rfl) 57 #[.pointer none] (by rw [← hb'.out]; exact heap_alloc_new _ _) rfl (by intro c hc; simp at hc; subst hc; rfl) ?_; rw [hw3'.out]) | (refine wpList_load_agg 26 rfl rfl rfl _ Try.underlying26 rfl [.pointer (some ⟨sb, 0, none⟩)] (by kernel_rfl) hT3.out.load ?_))
  obtain ⟨hS4, hE4⟩ := ents_new hO3.out.store [(1, 0), (2, 0)] (by decide)
  have hB := treeBuild hS4 hE4 (by decide) (by show 1 + 100000 < 100000000; omega)
  rw [e1'.out, hT3.out.eq] at hB
  refine hB.mono ?_
  rintro e w5 ⟨A5, rfl, hT5⟩
  have hk4 : Kept (fun _ => False) w3 (w3.alloc (.cells (entCells [((1 : Int), (0 : Int)), (2, 0)]).toArray 35)) := (Kept.refl _ _).alloc _
  have hO5 := Lib.hid ((hO3.out.fresh hk4).to hT5)
  have hV5 := Lib.hid ((hT3.out.fresh hk4).to hT5)
  have hC := pruneCut hO5.out.store 2 1 (by show M1.log.length + 30 < 100000000; omega)
  rw [e2'.out, hV5.out.eq] at hC
  have hC' := Lib.hid hC
  clear hB hT5 hk4 hC hS4 hE4
  go_wp2_with (first | (refine wpList_load_agg 57 rfl rfl rfl _ Try.underlying57 rfl [.pointer (some ⟨sb, 0, none⟩)] (by kernel_rfl) hV5.out.load ?_))
  refine hC'.out.mono ?_
  rintro e w6 ⟨A6, rfl, hT6⟩
  have hO6 := Lib.hid (hO5.out.to hT6)
  have hV6 := Lib.hid (hV5.out.to hT6)
  have hC := pruneCut hO6.out.store 2 3 (by show M2.log.length + 30 < 100000000; omega)
  rw [e3'.out, hV6.out.eq] at hC
  have hC' := Lib.hid hC
  clear hC hT6
  go_wp2_with (first | (refine wpList_load_agg 57 rfl rfl rfl _ Try.underlying57 rfl [.pointer (some ⟨sb, 0, none⟩)] (by kernel_rfl) hV6.out.load ?_))
  refine hC'.out.mono ?_
  rintro e w7 ⟨A7, rfl, hT7⟩
  have hO7 := Lib.hid (hO6.out.to hT7)
  have hV7 := Lib.hid (hV6.out.to hT7)
  have hL := treeList hO7.out.store 1
  rw [e4'.out, hV7.out.eq] at hL
  have hL' := Lib.hid hL
  clear hL hT7
  go_wp2_with (first | (refine wpList_load_agg 26 rfl rfl rfl _ Try.underlying26 rfl [.pointer (some ⟨sb, 0, none⟩)] (by kernel_rfl) hV7.out.load ?_))
  refine hL'.out.mono ?_
  rintro e w8 ⟨v, rfl, hown, hk8⟩
  have hE8 : EntsAt w8 v [(2, 0)] := SliceAt.of_owns hown
  obtain ⟨Av, cap, rfl, _⟩ := EntsAt.form hE8
  obtain ⟨b8, off8, rfl, _, c1, c2⟩ := EntsAt.get hE8 (i := 0) (x := (2, 0)) rfl
  have hO8 := Lib.hid (hO7.out.fresh hk8)
  rw [Nat.zero_mul, Nat.add_zero] at c1
  clear hown hE8 hk8 c2
  go_wp2_with fail
  go_ret
  exact ⟨rfl, hO8.out.kept⟩
end Go.Proofs.Ythmjcbmeiabbgaa
/-
  The document's answer: are two lists of entries the same?
-/
namespace Go.Proofs.Ythmjcbmeiabbgaa
open Go.RowKit
set_option maxRecDepth 100000

theorem run_equalIn_entry (d : Nat) (p q : Int × Int) (w : World) : (Op.equalIn (d + 2) 35 (.agg #[.int .i64 p.1, .int .i64 p.2]) (.agg #[.int .i64 q.1, .int .i64 q.2])).run Try.prog w = .ok (decide (p = q)) w := by
  obtain ⟨p1, p2⟩ := p
  obtain ⟨q1, q2⟩ := q
  have hi : ∀ w, (isAgg 3).run Try.prog w = .ok false w := fun w => by
    unfold isAgg
    rw [Sem.run_bind, run_underlying Try.underlying3 w]
    rfl
  have hS : Try.prog.underlying 35 = some (.struct (Try.prog.fieldsOf 35)) := by kernel_rfl
  have hp : Try.prog.stoodInHeld 35 = false := by kernel_rfl
  have hq : ∀ (a b : Int) w, (Op.equalIn (d + 1) 3 (.int .i64 a) (.int .i64 b)).run Try.prog w = .ok (a == b) w := fun a b w => run_equalIn_int w d 3 .i64 .i64 a b Try.underlying3
  rw [run_equalIn_struct w (d + 1) 35 _ _ hS hp]
  simp only [Program.fieldsOf, Try.underlying35]
  by_cases h1 : p1 = q1
  · by_cases h2 : p2 = q2
    · simp [Op.eqFields, part, hi, hq, h1, h2]
    · simp [Op.eqFields, part, hi, hq, h1, h2]
  · simp [Op.eqFields, part, hi, hq, h1]
theorem exec_neq_entry {o : Oper} {a : Act} {x y : Operand} {u : TypeId} (ho : o.op = .binOp .neq 35 x y u) (p q : Int × Int) (hx : a.eval x = .agg #[.int .i64 p.1, .int .i64 p.2]) (hy : a.eval y = .agg #[.int .i64 q.1, .int .i64 q.2]) (w : World) :
    (execOp a.eval o).run Try.prog w = .ok (.value (.bool (!decide (p = q)))) w := by
  unfold execOp
  have hm : Try.prog.eqGuardType Try.prog.depth 35 = false := by kernel_rfl
  have he := run_equalIn_entry 9998 p q w
  simp only [ho, hx, hy, Sem.run_bind, run_eqGuard_agg (hm := hm), Result.andThen_ok, run_neq_struct, he]
  rfl

set_option maxHeartbeats 4000000 in
theorem same10 {w : World} {va vb : Value} {a b : List (Int × Int)} (ha : EntsAt w va a) (hb : EntsAt w vb b) (hla : a.length ≤ 1000000) :
    Calls Try.prog 17 #[va, vb] w fun e w' => e = .returned (.bool (decide (a = b))) ∧ Kept (fun _ => False) w w' := by
  obtain ⟨Aa, ca, rfl, ha1, ha2⟩ := ha.form
  obtain ⟨Ab, cb, rfl, hb1, hb2⟩ := hb.form
  unfold maxLen at ha2 hb2
  by_cases hlen : a.length = b.length
  · have hb' : EntsAt w (.slice Ab a.length cb) b := by rw [hlen]; exact hb
    have hr : Hid ((∀ k, k < a.length → a[k]? = b[k]?) → a = b) := Lib.hid (fun h => List.ext_getElem? fun k => by
      by_cases hk : k < a.length
      · exact h k hk
      · rw [List.getElem?_eq_none (by omega), List.getElem?_eq_none (by omega)])
    have hn : Hid (∀ (k : Nat) (x y : Int × Int), a[k]? = some x → b[k]? = some y → x ≠ y → a ≠ b) := Lib.hid (fun k x y hx hy hne e => by subst e; rw [hx] at hy; cases hy; exact hne rfl)
    have hlb : Hid (∀ k, k < a.length → ∃ y, b[k]? = some y) := Lib.hid (fun k hk => ⟨_, List.getElem?_eq_getElem (by omega)⟩)
    rw [← hlen] at hb1 ⊢
    have ha' := Lib.hid ha
    have hb'' := Lib.hid hb'
    clear ha hb hb' hlen
    go_enter Try.func17, Try.ntmps17
    go_wp2_with fail
    go_loopw [13] (fun i wr => ∃ k : Nat, k ≤ a.length ∧ i = .int .i64 k ∧ Hid (∀ j, j < k → a[j]? = b[j]?) ∧ Kept (fun _ => False) w wr) (fun i _ => a.length - (intOf i).toNat)
    case atStart => exact ⟨0, Nat.zero_le _, rfl, Lib.hid (fun j hj => by omega), Kept.refl _ _⟩
    case round =>
      obtain ⟨k, hk, rfl, hpre, hkk⟩ := hrel
      by_cases hlt : k < a.length
      · obtain ⟨x, hx⟩ : ∃ x, a[k]? = some x := ⟨_, List.getElem?_eq_getElem hlt⟩
        obtain ⟨y, hy⟩ := hlb.out k hlt
        obtain ⟨ba, oa, rfl, hba, hx1, hx2⟩ := EntsAt.get (SliceAt.fresh ha'.out hkk) hx
        obtain ⟨bb, ob, rfl, hbb, hy1, hy2⟩ := EntsAt.get (SliceAt.fresh hb''.out hkk) hy
        have hki : (k : Int) < (a.length : Int) := by omega
        have lx : Hid (∀ W, Kept (fun _ => False) wr W → ∀ j v, [Value.int .i64 x.1, .int .i64 x.2][j]? = some v → W.cell? ⟨ba, oa + k * 2 + j, none⟩ = some v) := Lib.hid (fun W hW j v hj => by
          match j, hj with
          | 0, hj => cases hj; exact hW.cell hx1 id
          | 1, hj => cases hj; exact hW.cell hx2 id)
        have ly : Hid (∀ W, Kept (fun _ => False) wr W → ∀ j v, [Value.int .i64 y.1, .int .i64 y.2][j]? = some v → W.cell? ⟨bb, ob + k * 2 + j, none⟩ = some v) := Lib.hid (fun W hW j v hj => by
          match j, hj with
          | 0, hj => cases hj; exact hW.cell hy1 id
          | 1, hj => cases hj; exact hW.cell hy2 id)
        have hx' := Lib.hid hx
        have hy' := Lib.hid hy
        have hkk' := Lib.hid hkk
        clear hx hy hx1 hx2 hy1 hy2 hkk
        go_wp2_with fail
        refine wp_region_quiet (C := fun w' => Kept (fun _ => False) wr w') (by kernel_rfl) (by kernel_rfl) (Kept.refl _ _).drew ?_
        refine wpQuiet_step (fun K hK => ?_); go_simp; refine ⟨_, fun _ _ => rfl, hK _ ?_⟩; clear hK K
        refine wpQuiet_step (fun K hK => ?_); go_simp; refine ⟨_, fun _ _ => rfl, hK _ ?_⟩; clear hK K
        refine wpQuiet_step (fun K hK => ?_); go_simp; refine ⟨_, fun _ _ => rfl, hK _ ?_⟩; clear hK K
        refine wpQuiet_step (fun K hK => ?_); refine q_on rfl (q_val (.agg [Value.int .i64 x.1, .int .i64 x.2].toArray) (fun W hW => exec_load_agg (g := ba) (off := oa + k * 2) rfl rfl [.int .i64 x.1, .int .i64 x.2] Try.underlying35 rfl (by kernel_rfl) (lx.out W hW)) (hK _ ?_)); clear hK K
        refine wpQuiet_step (fun K hK => ?_); go_simp; refine ⟨_, fun _ _ => rfl, hK _ ?_⟩; clear hK K
        refine wpQuiet_step (fun K hK => ?_); go_simp; refine ⟨_, fun _ _ => rfl, hK _ ?_⟩; clear hK K
        refine wpQuiet_step (fun K hK => ?_); go_simp; refine ⟨_, fun _ _ => rfl, hK _ ?_⟩; clear hK K
        refine wpQuiet_step (fun K hK => ?_); refine q_on rfl (q_val (.agg [Value.int .i64 y.1, .int .i64 y.2].toArray) (fun W hW => exec_load_agg (g := bb) (off := ob + k * 2) rfl rfl [.int .i64 y.1, .int .i64 y.2] Try.underlying35 rfl (by kernel_rfl) (ly.out W hW)) (hK _ ?_)); clear hK K
        obtain ⟨z, hz⟩ : ∃ z, decide (x = y) = z := ⟨_, rfl⟩
        refine wpQuiet_step (fun K hK => ?_); refine q_on rfl (q_val (.bool (!z)) (fun W hW => by rw [← hz]; exact exec_neq_entry rfl x y rfl rfl W) (hK _ ?_)); clear hK K
        refine wpQuiet_nil ?_
        intro w9 hw9
        have hw9' := Lib.hid hw9
        clear hw9 lx ly
        cases z with
        | true =>
          have hxy := of_decide_eq_true hz
          clear hz
          go_wp2_with fail
          go_roundw
          case rel => exact ⟨k + 1, by omega, by go_num, Lib.hid (fun j hj => by
            by_cases e : j = k
            · rw [e, hx'.out, hy'.out, hxy]
            · exact hpre.out j (by omega)), hkk'.out.trans hw9'.out⟩
          case measure => simp [intOf]; omega
        | false =>
          have he : Hid (decide (a = b) = false) := Lib.hid (by rw [decide_eq_false_iff_not]; exact hn.out k x y hx'.out hy'.out (of_decide_eq_false hz))
          clear hz
          go_wp2_with fail
          go_ret
          exact ⟨by rw [he.out]; rfl, hkk'.out.trans hw9'.out⟩
      · obtain rfl : k = a.length := by omega
        have he : Hid (decide (a = b) = true) := Lib.hid (by simpa using hr.out hpre.out)
        go_wp2_with fail
        go_ret
        exact ⟨by rw [he.out]; rfl, hkk⟩
  · have he : Hid (decide (a = b) = false) := Lib.hid (by rw [decide_eq_false_iff_not]; exact fun e => hlen (by rw [e]))
    clear ha hb
    go_enter Try.func17, Try.ntmps17
    go_wp2_with fail
    go_ret
    exact ⟨by rw [he.out]; rfl, Kept.refl _ _⟩
end Go.Proofs.Ythmjcbmeiabbgaa
/-
  TreeSplits: the walk.
-/
namespace Go.Proofs.Ythmjcbmeiabbgaa.treeSplits
open Go.RowKit
set_option maxRecDepth 100000

/-- A slice of ints that came in. -/
def IntsIn (w : World) (v : Value) (l : List Int) : Prop := ∃ A cap, v = .slice A l.length cap ∧ l.length ≤ cap ∧ cap ≤ maxLen ∧
    ∀ (i : Nat) (x : Int), l[i]? = some x → ∃ b off, A = some ⟨b, off, none⟩ ∧ b < w.heap.size ∧ w.cell? ⟨b, off + i, none⟩ = some (.int .i64 x)
/-- The entries so far, and the last key. -/
def step (s : List (Int × Int) × Int) (k : Int) : List (Int × Int) × Int := if s.2 < k ∧ k < 64 then (s.1 ++ [(k, 0)], k) else s
def upTo (l : List Int) (k : Nat) : List (Int × Int) × Int := (l.take k).foldl step ([], -1)
theorem upTo_succ {l : List Int} {k : Nat} {x : Int} (h : l[k]? = some x) : upTo l (k + 1) = step (upTo l k) x := by
  unfold upTo
  rw [List.take_add_one, h]
  simp
theorem upTo_len (l : List Int) : ∀ k, (upTo l k).1.length ≤ k
  | 0 => Nat.le_refl _
  | k + 1 => by
    cases h : l[k]? with
    | none =>
      have : upTo l (k + 1) = upTo l k := by unfold upTo; rw [List.take_add_one, h]; simp
      rw [this]
      exact Nat.le_succ_of_le (upTo_len l k)
    | some x =>
      rw [upTo_succ h]
      unfold step
      have := upTo_len l k
      split
      · rw [List.length_append, List.length_singleton]; omega
      · omega
theorem upTo_good (l : List Int) : ∀ k, RisesK (upTo l k).1 ∧ (∀ y ∈ (upTo l k).1, 0 ≤ y.1 ∧ y.1 < 64 ∧ y.1 ≤ (upTo l k).2 ∧ y.2 = 0) ∧ -1 ≤ (upTo l k).2 ∧ (upTo l k).2 < 64
  | 0 => ⟨List.Pairwise.nil, (fun y hy => by cases hy), by show (-1 : Int) ≤ -1; omega, by show (-1 : Int) < 64; omega⟩
  | k + 1 => by
    obtain ⟨h1, h2, h3, h4⟩ := upTo_good l k
    cases h : l[k]? with
    | none =>
      have : upTo l (k + 1) = upTo l k := by unfold upTo; rw [List.take_add_one, h]; simp
      rw [this]
      exact ⟨h1, h2, h3, h4⟩
    | some x =>
      rw [upTo_succ h]
      unfold step
      split
      · rename_i hc
        refine ⟨List.pairwise_append.2 ⟨h1, List.pairwise_singleton _ _, fun a ha b hb => ?_⟩, fun y hy => ?_, by dsimp only; omega, hc.2⟩
        · rw [List.mem_singleton.1 hb]
          have := h2 a ha
          show a.1 < x
          omega
        · rcases List.mem_append.1 hy with hy | hy
          · have := h2 y hy
            exact ⟨this.1, this.2.1, by dsimp only; omega, this.2.2.2⟩
          · rw [List.mem_singleton.1 hy]
            exact ⟨by dsimp only; omega, hc.2, Int.le_refl _, rfl⟩
      · exact ⟨h1, h2, h3, h4⟩

/-- What the split pages are. -/
def leaves (M : SM) (out : List (Int × Int)) (k : Nat) : List (Int × Int) := (out.take k).flatMap fun e => (M.get e.2).1.ents
theorem kids_leaves {m : Nat} {M : SM} : ∀ (es l : List (Int × Int)), Kids (Sub m M 1) es l → (es.flatMap fun e => (M.get e.2).1.ents) = l ∧
    ∀ e ∈ es, ∃ n x, M.get e.2 = (n, 0) ∧ n.kind = 2 ∧ n.ents[0]? = some x ∧ x.1 = e.1 ∧ n.ents.length ≤ 6
  | [], l, h => ⟨h.symm, fun e he => by cases he⟩
  | e :: es, l, ⟨a, b, x, h1, h2, h3, h4, h5⟩ => by
    obtain ⟨n, g1, g2, g3, g4, g5⟩ := leaf_get h2.1
    obtain ⟨i1, i2⟩ := kids_leaves es b h5
    refine ⟨by rw [List.flatMap_cons, i1, g1, g3, h1], fun f hf => ?_⟩
    rcases List.mem_cons.1 hf with rfl | hf
    · exact ⟨n, x, g1, g2, by rw [g3, ← h3, List.head?_eq_getElem?], h4, by rw [g3]; exact g5⟩
    · exact i2 f hf
theorem leaves_succ {M : SM} {out : List (Int × Int)} {k : Nat} {e : Int × Int} (h : out[k]? = some e) : leaves M out (k + 1) = leaves M out k ++ (M.get e.2).1.ents := by
  unfold leaves
  rw [List.take_add_one, h]
  simp
theorem leaves_len {M : SM} {out : List (Int × Int)} (h : ∀ e ∈ out, ∃ n x, M.get e.2 = (n, 0) ∧ n.kind = 2 ∧ n.ents[0]? = some x ∧ x.1 = e.1 ∧ n.ents.length ≤ 6) : ∀ k, (leaves M out k).length ≤ 6 * k
  | 0 => Nat.le_refl _
  | k + 1 => by
    have ih := leaves_len h k
    cases he : out[k]? with
    | none =>
      have : leaves M out (k + 1) = leaves M out k := by unfold leaves; rw [List.take_add_one, he]; simp
      rw [this]; omega
    | some e =>
      rw [leaves_succ he, List.length_append]
      obtain ⟨n, x, g1, _, _, _, g5⟩ := h e (List.mem_of_getElem? he)
      rw [g1]
      show _ + n.ents.length ≤ _
      omega
theorem split_facts {l : List Int} {E : List (Int × Int)} {k : Nat} (hE : (upTo l k).1 = E) (h12 : E.length ≤ 12) :
    ∃ M' out, (madeM 56 9).split ⟨2, zeros16, E⟩ = (M', out, 0) ∧ out.length = (if 6 < E.length then 2 else if 0 < E.length then 1 else 0) ∧ leaves M' out out.length = E ∧
      ∀ e ∈ out, ∃ n x, M'.get e.2 = (n, 0) ∧ n.kind = 2 ∧ n.ents[0]? = some x ∧ x.1 = e.1 ∧ n.ents.length ≤ 6 := by
  by_cases h0 : E.length = 0
  · have : E = [] := List.eq_nil_of_length_eq_zero h0
    subst this
    exact ⟨madeM 56 9, [], rfl, rfl, rfl, fun e he => by cases he⟩
  · have hg := upTo_good l k
    rw [hE] at hg
    have g : Good (madeM 56 9) E := ⟨hg.1, fun y hy => by
      have := hg.2.1 y hy
      exact ⟨this.1, this.2.1, by rw [this.2.2.2]; exact made_held 56 9 (by decide)⟩⟩
    have t : NTr (Sub 1 (madeM 56 9) 0) 0 ⟨2, zeros16, E⟩ E := .inl ⟨rfl, rfl, rfl⟩
    rcases split_ok (made_exact 56 9 (by decide) (by decide) (by decide)) t g (by show 1 ≤ E.length; omega) h12 with ⟨e, S⟩ | ⟨e, hf⟩ | ⟨e, c, hc⟩
    · have hK := S.kids (by decide) (by show 1 ≤ E.length; omega)
      obtain ⟨k1, k2⟩ := kids_leaves _ _ hK
      refine ⟨_, _, Prod.ext rfl (Prod.ext rfl e), ?_, ?_, k2⟩
      · rw [S.len]
        show (if 6 < E.length then 2 else 1) = _
        split
        · rfl
        · rw [if_pos (by omega)]
      · unfold leaves
        rw [List.take_length]
        exact k1
    · rw [made_free 56 9 (by decide)] at hf
      split at hf <;> omega
    · rw [made_sum] at hc
      have : extOne c ≤ 1 := by unfold extOne; split <;> omega
      have hc2 : 255 < 0 + E.length + extOne c := hc
      omega
set_option maxHeartbeats 8000000 in
theorem walkIn {w : World} (va : Value) (l : List Int) (hl : IntsIn w va l) : Calls Try.prog 3 #[va] w fun e w' => e = .returned (.bool true) ∧ Kept (fun _ => False) w w' := by
  obtain ⟨Aa, ca, rfl, hc1, hc2, hget⟩ := hl
  unfold maxLen at hc2
  have hget' := Lib.hid hget
  clear hget
  by_cases hlong : 40 < l.length
  · have hb : decide ((40 : Int) < (l.length : Int)) = true := by rw [decide_eq_true_eq]; omega
    clear hlong
    go_enter Try.func3, Try.ntmps3
    go_wp2_with fail
    refine (alive10 _).mono ?_
    rintro e w1 ⟨rfl, k1⟩
    have k1' := Lib.hid k1
    clear k1
    go_wp2_with fail
    go_ret
    exact ⟨rfl, k1'.out⟩
  have hshort : l.length ≤ 40 := by omega
  have hb : decide ((40 : Int) < (l.length : Int)) = false := by rw [decide_eq_false_iff_not]; omega
  clear hlong
  have hm := fun w => made10 60 (by decide) (by decide) w
  rw [show (min (60 : Int) 244 - 4).toNat = 56 from by decide] at hm
  have hm' := Lib.hid hm
  clear hm
  obtain ⟨Z, hZ⟩ : ∃ Z, nodeCells NM.zero (.slice none 0 0) = Z := ⟨_, rfl⟩
  have hZz : Hid ((Try.prog.info? 33).map (·.zero) = some (some (.agg Z.toArray))) := Lib.hid (by rw [← hZ]; exact node_zero)
  have hZl : Hid (Z.length = 18) := Lib.hid (by rw [← hZ]; exact nodeCells_len _ _)
  obtain ⟨C0, hC0⟩ : ∃ C0, nodeCells ⟨2, zeros16, []⟩ (.slice none 0 0) = C0 := ⟨_, rfl⟩
  have hC0l : Hid (C0.length = 18) := Lib.hid (by rw [← hC0]; exact nodeCells_len _ _)
  have hC01 : Hid (∀ v ∈ C0, v.oneCell' = true) := Lib.hid (by rw [← hC0]; exact nodeCells_one _ _ _ _)
  have hbn : Hid (∀ w, (Instr.build 33 #[(0, .int .i64 2)]).run Try.prog w = .ok (.agg C0.toArray) w) := Lib.hid (fun w => by rw [← hC0]; exact run_build _ _ _ _ (by kernel_rfl))
  have hC0' := Lib.hid hC0
  clear hZ hC0
  go_enter Try.func3, Try.ntmps3
  go_wp2_with fail
  refine (alive10 _).mono ?_
  rintro e w1 ⟨rfl, k1⟩
  have k1' := Lib.hid k1
  clear k1
  go_wp2_with fail
  refine (hm'.out _).mono ?_
  rintro e w2 ⟨A, rfl, hA, hk, hn⟩
  obtain ⟨b, hbb⟩ : ∃ b, w2.heap.size = b := ⟨_, rfl⟩
  have hO := TreeVar.made (b := b) ⟨hA, hk, hn⟩ hbb
  obtain ⟨w3, hw3⟩ : ∃ w3, (w2.alloc (.cells #[.pointer none] 26)).setRow b #[.pointer (some ⟨A.sb, 0, none⟩)] = w3 := ⟨_, rfl⟩
  rw [hw3] at hO
  obtain ⟨hO3, hT3⟩ := hO
  have hO3 := Lib.hid hO3
  have hT3 := Lib.hid hT3
  have hw3' := Lib.hid hw3
  have hb' := Lib.hid hbb
  obtain ⟨sb, hsb⟩ : ∃ sb, A.sb = sb := ⟨_, rfl⟩
  rw [hsb] at hw3' hT3 ⊢
  obtain ⟨nb, hnb⟩ : ∃ nb, w3.heap.size = nb := ⟨_, rfl⟩
  obtain ⟨w4, hw4⟩ : ∃ w4, (w3.alloc (.cells Z.toArray 33)).setRow nb C0.toArray = w4 := ⟨_, rfl⟩
  have k4 : Kept (fun _ => False) w3 w4 := by rw [← hw4]; exact ((Kept.refl _ _).alloc _).setRowNew (by omega) _
  have box4 : NodeBox w4 nb ⟨2, zeros16, []⟩ (.slice none 0 0) := ⟨by rw [hC0'.out, ← hw4, ← hnb]; exact setRow_heap _ _ _ _ _ _ (heap_alloc_new _ _)⟩
  have I4 : Hid (Kept (fun _ => False) w3 w4 ∧ (∃ v, NodeBox w4 nb ⟨2, zeros16, (upTo l 0).1⟩ v ∧ w4.ownsRow (nb + 1) 35 2 v (upTo l 0).1.length (entCells (upTo l 0).1))) := Lib.hid ⟨k4, _, box4, World.ownsRow_nil _ _ _ _⟩
  have hw4' := Lib.hid hw4
  have hnb' := Lib.hid hnb
  have hkw := Lib.hid (k1'.out.trans hO3.out.kept)
  clear hA hk hn hw3 hbb hnb hw4 k4 box4
  go_wp2_with (first | (refine wpList_alloc_as 26 rfl rfl #[.pointer none] tree_zero ?_; rw [hb'.out]) | (refine wpList_store_whole 26 rfl rfl rfl [.pointer (some ⟨sb, 0, none⟩)] rfl (by kernel_rfl) 26 #[.pointer none] (by rw [← hb'.out]; exact heap_alloc_new _ _) rfl (by intro c hc; simp at hc; subst hc; rfl) ?_; rw [hw3'.out]) | (refine wpList_exec rfl (exec_build 33 #[(0, .const (.int .i64 2))] _ rfl (by simp [Act.eval]) (hbn.out _)) ?_) | (refine wpList_alloc_as 33 rfl rfl Z.toArray hZz.out ?_; rw [hnb'.out]) | (refine wpList_store_whole 33 rfl rfl rfl C0 rfl (by rw [hC0l.out]; exact node_size) 33 Z.toArray (by rw [← hnb'.out]; exact heap_alloc_new _ _) (by simp [hC0l.out, hZl.out]) hC01.out ?_; rw [hw4'.out]))
  go_loopw [6, 29] (fun x i wr => ∃ k : Nat, k ≤ l.length ∧ i = .int .i64 k ∧ x = .int .i64 (upTo l k).2 ∧ Hid (Kept (fun _ => False) w3 wr ∧ (∃ v, NodeBox wr nb ⟨2, zeros16, (upTo l k).1⟩ v ∧ wr.ownsRow (nb + 1) 35 2 v (upTo l k).1.length (entCells (upTo l k).1)))) (fun _ i _ => l.length - (intOf i).toNat)
  case atStart => exact ⟨0, Nat.zero_le _, rfl, rfl, I4⟩
  case round =>
    obtain ⟨k, hk, rfl, rfl, hI⟩ := hrel
    by_cases hlt : k < l.length
    · obtain ⟨x, hx⟩ : ∃ x, l[k]? = some x := ⟨_, List.getElem?_eq_getElem hlt⟩
      obtain ⟨ab, ao, rfl, hab, c1⟩ := hget'.out k x hx
      have hs := Lib.hid (upTo_succ hx)
      have hlenk := upTo_len l k
      obtain ⟨S, hS⟩ : ∃ S, upTo l k = S := ⟨_, rfl⟩
      rw [hS] at hs hI hlenk ⊢
      obtain ⟨E, last⟩ := S
      dsimp only at hI hlenk ⊢
      obtain ⟨kw, v, box, own⟩ := hI.out
      obtain ⟨Av, cv, rfl, hf1, hf2⟩ := EntsAt.form (show EntsAt wr v E from SliceAt.of_owns own)
      unfold maxLen at hf2
      have c1' := kw.cell (hkw.out.cell c1 id) id
      have c17 := box.c17
      have hki : (k : Int) < (l.length : Int) := by omega
      have kw' := Lib.hid kw
      have own' := Lib.hid own
      have box' := Lib.hid box
      clear hx c1 hI kw own box hS
      by_cases hc : last < x ∧ x < 64
      · have hst : Hid (upTo l (k + 1) = (E ++ [(x, 0)], x)) := Lib.hid (by rw [hs.out]; unfold step; rw [if_pos hc])
        obtain ⟨hc3, hc4⟩ := hc
        obtain ⟨w5, hw5⟩ : ∃ w5, wr.alloc (.cells #[.int .i64 x, .int .i64 0] 35) = w5 := ⟨_, rfl⟩
        have kA : Kept (fun _ => False) wr w5 := by rw [← hw5]; exact (Kept.refl _ _).alloc _
        have own5 := Lib.hid (show (wr.alloc (.cells #[.int .i64 x, .int .i64 0] 35)).ownsRow (nb + 1) 35 2 (.slice Av E.length cv) E.length (entCells E) by rw [hw5]; exact ownsRow.keptOf own'.out kA (fun _ _ => id))
        have hbase : nb + 1 ≤ (wr.alloc (.cells #[.int .i64 x, .int .i64 0] 35)).heap.size := by rw [hw5]; have := lt_of_heap (box'.out.kept kA id).heap; omega
        have box5 := Lib.hid (show NodeBox (wr.alloc (.cells #[.int .i64 x, .int .i64 0] 35)) nb ⟨2, zeros16, E⟩ (.slice Av E.length cv) by rw [hw5]; exact box'.out.kept kA id)
        have k5 := Lib.hid (show Kept (fun _ => False) w3 (wr.alloc (.cells #[.int .i64 x, .int .i64 0] 35)) by rw [hw5]; exact kw'.out.trans kA)
        clear hw5 kA hs
        go_wp2_with (at_builtin; refine wpList_append_src rfl elemEntry (.tmp 41) (.tmp 45) rfl (by rfl) (by rfl) own5.out (SliceAt.block_new (ys := [.int .i64 x, .int .i64 0]) (m := 1) (heap_alloc_new _ _) (by rfl) (by decide)) (by intro c hc; simp at hc; rcases hc with rfl | rfl <;> rfl) (by omega) (by omega) hbase ?_; intro v2 w6 hown2 hg2 hat2; have hown3 : w6.ownsRow (nb + 1) 35 2 v2 (E ++ [(x, 0)]).length (entCells (E ++ [(x, 0)])) := (by rw [entCells_append, List.length_append]; exact hown2); obtain ⟨A2, c2, rfl, hg1, hg3⟩ := EntsAt.form (show EntsAt w6 v2 (E ++ [(x, 0)]) from SliceAt.of_owns hown3); obtain ⟨E2, hE2⟩ : ∃ E2, E ++ [(x, 0)] = E2 := ⟨_, rfl⟩; rw [hE2] at hown3 hst hg1; rw [hE2]; have kG := Kept.of_grown hg2; have hne : ∀ j, (Value.slice Av E.length cv).ownBlock = some j → nb + 1 ≤ j := fun j hj => (own5.out.lt j hj).1; have box6 := box5.out.kept kG (fun e => by have := hne _ e; omega); have c6 := box6.c17; have f6 := free_of_heap box6.heap 17; have fin : Hid (Kept (fun _ => False) w3 (w6.setCell ⟨nb, 17, none⟩ (.slice A2 E2.length c2)) ∧ NodeBox (w6.setCell ⟨nb, 17, none⟩ (.slice A2 E2.length c2)) nb ⟨2, zeros16, E2⟩ (.slice A2 E2.length c2) ∧ (w6.setCell ⟨nb, 17, none⟩ (.slice A2 E2.length c2)).ownsRow (nb + 1) 35 2 (.slice A2 E2.length c2) E2.length (entCells E2)) := Lib.hid (by refine ⟨(k5.out.trans_new kG (fun j hj e => by have := hne _ e; have := hnb'.out; omega)).setNew (by have := hnb'.out; show w3.heap.size ≤ nb; omega) _, ⟨by rw [heap_setCell_same box6.heap, nodeCells_set ⟨2, zeros16, E⟩ E2]⟩, ownsRow.keptOf hown3 ((Kept.refl (fun j => j = nb) w6).setCell (p := ⟨nb, 17, none⟩) rfl _) (fun g hg e => by have := (hown3.lt g hg).1; omega)⟩); clear hown2 hg2 hat2 hown3 kG hne box6 hE2)
        go_roundw
        case rel => exact ⟨k + 1, by omega, by go_num, by rw [hst.out], Lib.hid ⟨fin.out.1, _, by rw [hst.out]; exact fin.out.2.1, by rw [hst.out]; exact fin.out.2.2⟩⟩
        case measure => simp [intOf]; omega
      · have hst : Hid (upTo l (k + 1) = (E, last)) := Lib.hid (by rw [hs.out]; unfold step; rw [if_neg hc])
        have fin : Hid (Kept (fun _ => False) w3 wr ∧ NodeBox wr nb ⟨2, zeros16, E⟩ (.slice Av E.length cv) ∧ wr.ownsRow (nb + 1) 35 2 (.slice Av E.length cv) E.length (entCells E)) := Lib.hid ⟨kw'.out, box'.out, own'.out⟩
        clear hs
        by_cases hc3 : last < x
        · have hc4 : decide (x < 64) = false := by rw [decide_eq_false_iff_not]; exact fun e => hc ⟨hc3, e⟩
          clear hc
          go_wp2_with fail
          go_roundw
          case rel => exact ⟨k + 1, by omega, by go_num, by rw [hst.out], Lib.hid ⟨fin.out.1, _, by rw [hst.out]; exact fin.out.2.1, by rw [hst.out]; exact fin.out.2.2⟩⟩
          case measure => simp [intOf]; omega
        · have hc4 : decide (last < x) = false := by rw [decide_eq_false_iff_not]; exact hc3
          clear hc hc3
          go_wp2_with fail
          go_roundw
          case rel => exact ⟨k + 1, by omega, by go_num, by rw [hst.out], Lib.hid ⟨fin.out.1, _, by rw [hst.out]; exact fin.out.2.1, by rw [hst.out]; exact fin.out.2.2⟩⟩
          case measure => simp [intOf]; omega
    · obtain rfl : k = l.length := by omega
      obtain ⟨kw, v, box, own⟩ := hI.out
      obtain ⟨E, hE⟩ : ∃ E, (upTo l l.length).1 = E := ⟨_, rfl⟩
      have hE40 := upTo_len l l.length
      have hfacts := split_facts (l := l) (k := l.length) (E := E) hE
      rw [hE] at box own hE40
      obtain ⟨last, hlast⟩ : ∃ last, (upTo l l.length).2 = last := ⟨_, rfl⟩
      rw [hlast]
      obtain ⟨Av, cv, rfl, hf1, hf2⟩ := EntsAt.form (show EntsAt wr v E from SliceAt.of_owns own)
      unfold maxLen at hf2
      have hO := Lib.hid (hO3.out.fresh kw)
      have hV := Lib.hid (hT3.out.fresh kw)
      have hnbA : ∀ j, A.own j → j < nb := fun j hj => by have := hO3.out.store.lt hj; have := hnb'.out; omega
      have hsn : Hid (Safe wr A nb) := Lib.hid ⟨lt_of_heap box.heap, fun e => Nat.lt_irrefl _ (hnbA _ (.inl e))⟩
      have hEO : EntsOff wr A (.slice Av E.length cv) E := ⟨SliceAt.of_owns own, fun _ j hj => ⟨(own.lt j hj).2, fun e => by have h1 := (own.lt j hj).1; have h2 := hnbA j (.inl e); omega⟩⟩
      have hsp := treeSplit (n := ⟨2, zeros16, E⟩) hO.out.store hEO (by show 1 + 2 < 100000000; omega)
      obtain ⟨CE, hCE⟩ : ∃ CE, nodeCells ⟨2, zeros16, E⟩ (.slice Av E.length cv) = CE := ⟨_, rfl⟩
      have hCEl : Hid (CE.length = 18) := Lib.hid (by rw [← hCE]; exact nodeCells_len _ _)
      rw [hsb, hCE] at hsp
      have qE := Lib.hid (show wr.heap[nb]? = some (.cells CE.toArray 33 (0, 0)) by rw [← hCE]; exact box.heap)
      have box' := Lib.hid box
      have hEO' := Lib.hid hEO
      have hkw2 := Lib.hid (hkw.out.trans kw)
      have hsbw := Lib.hid hsb
      clear hI own kw box hEO hnbA hE hlast hCE hsb
      by_cases h12 : 12 < E.length
      · have hsn2 : (madeM 56 9).split ⟨2, zeros16, E⟩ = (madeM 56 9, [], 81) := by unfold SM.split; rw [if_pos h12]
        rw [hsn2] at hsp
        have hsp' := Lib.hid hsp
        have hd12 : decide ((12 : Int) < (E.length : Int)) = true := by rw [decide_eq_true_eq]; omega
        clear hsp hsn2 hfacts h12
        go_wp2_with (first | (refine wpList_load_agg 26 rfl rfl rfl _ Try.underlying26 rfl [.pointer (some ⟨sb, 0, none⟩)] (by kernel_rfl) hV.out.load ?_) | (refine wpList_load_agg 33 rfl rfl rfl _ Try.underlying33 rfl CE (by rw [hCEl.out]; exact node_size) (fun j v hv => by rw [cell_of_heap qE.out, Nat.zero_add]; simpa using hv) ?_))
        refine hsp'.out.mono ?_
        rintro e w5 ⟨A5, v5, rfl, hT5, hO5⟩
        obtain ⟨A6, c6, rfl, _⟩ := EntsAt.form hO5.ents.at_
        have c17 := (show NodeBox w5 nb ⟨2, zeros16, E⟩ (.slice Av E.length cv) from ⟨hT5.get box'.out.heap hsn.out⟩).c17
        have hkk := Lib.hid (hO.out.to hT5).kept
        clear hT5 hO5
        go_wp2_with fail
        go_ret
        exact ⟨rfl, k1'.out.trans hkk.out⟩
      · obtain ⟨M1, out, e1, e2, e3, e4⟩ := hfacts (by omega)
        rw [e1] at hsp
        have hsp' := Lib.hid hsp
        have hd12 : decide ((12 : Int) < (E.length : Int)) = false := by rw [decide_eq_false_iff_not]; omega
        have hout : out.length ≤ 2 := by rw [e2]; split <;> (try split) <;> omega
        have e3' := Lib.hid e3
        have e4' := Lib.hid e4
        have hLl := Lib.hid (leaves_len e4)
        clear hsp e1 e3 e4
        go_wp2_with (first | (refine wpList_load_agg 26 rfl rfl rfl _ Try.underlying26 rfl [.pointer (some ⟨sb, 0, none⟩)] (by kernel_rfl) hV.out.load ?_) | (refine wpList_load_agg 33 rfl rfl rfl _ Try.underlying33 rfl CE (by rw [hCEl.out]; exact node_size) (fun j v hv => by rw [cell_of_heap qE.out, Nat.zero_add]; simpa using hv) ?_))
        refine hsp'.out.mono ?_
        rintro e w5 ⟨A5, v5, rfl, hT5, hO5⟩
        obtain ⟨Ao, co, rfl, ho1, ho2⟩ := EntsAt.form hO5.ents.at_
        unfold maxLen at ho2
        have box5 : NodeBox w5 nb ⟨2, zeros16, E⟩ (.slice Av E.length cv) := ⟨hT5.get box'.out.heap hsn.out⟩
        have c17 := box5.c17
        have box5' := Lib.hid box5
        have S5 := Lib.hid (hO.out.to hT5)
        have V5 := Lib.hid (hV.out.to hT5)
        have E5 := Lib.hid (hEO'.out.to hT5)
        have O5 := Lib.hid hO5.ents
        have hsb5 : A5.sb = sb := hT5.sb.trans hsbw.out
        clear hT5 hO5 box5
        have c3_5 := cell_of_heap V5.out.heap 0
        simp at c3_5
        have hcase : (E.length = 0 ∧ out.length = 0) ∨ (0 < E.length ∧ E.length ≤ 6 ∧ out.length = 1) ∨ (6 < E.length ∧ out.length = 2) := by
          rw [e2]
          by_cases h6 : 6 < E.length
          · exact .inr (.inr ⟨h6, by rw [if_pos h6]⟩)
          · by_cases h0 : 0 < E.length
            · exact .inr (.inl ⟨h0, by omega, by rw [if_neg h6, if_pos h0]⟩)
            · exact .inl ⟨by omega, by rw [if_neg h6, if_neg h0]⟩
        have hown0 := Lib.hid (owns_empty w5 w5.heap.size w5.heap.size 35 2 (Nat.le_refl _) rfl)
        have k50 := Lib.hid ((Kept.refl (fun _ => False) w5).alloc (.cells #[] 35))
        clear e2 h12
        have hfin : ∃ wn : Int, (out.length : Int) = wn ∧ ((wn = 0 ∧ decide (0 < E.length) = false ∧ decide ((6 : Int) < (E.length : Int)) = false) ∨ (wn = 1 ∧ decide (0 < E.length) = true ∧ decide ((6 : Int) < (E.length : Int)) = false) ∨ (wn = 2 ∧ decide (0 < E.length) = true ∧ decide ((6 : Int) < (E.length : Int)) = true)) := by
          rcases hcase with ⟨h1, h2⟩ | ⟨h1, h2, h3⟩ | ⟨h1, h2⟩
          · exact ⟨0, by omega, .inl ⟨rfl, by rw [decide_eq_false_iff_not]; omega, by rw [decide_eq_false_iff_not]; omega⟩⟩
          · exact ⟨1, by omega, .inr (.inl ⟨rfl, by rw [decide_eq_true_eq]; omega, by rw [decide_eq_false_iff_not]; omega⟩)⟩
          · exact ⟨2, by omega, .inr (.inr ⟨rfl, by rw [decide_eq_true_eq]; omega, by rw [decide_eq_true_eq]; omega⟩)⟩
        obtain ⟨wn, hwn, hcs⟩ := hfin
        have hwn' := Lib.hid hwn
        clear hwn hcase
        rcases hcs with ⟨rfl, d0, d6⟩ | ⟨rfl, d0, d6⟩ | ⟨rfl, d0, d6⟩
        all_goals first | (have d0' := of_decide_eq_true d0) | (have d0' := of_decide_eq_false d0)
        all_goals (
          go_wp2_with fail
          go_loopw [12, 78] (fun v i wr => ∃ j : Nat, j ≤ out.length ∧ i = .int .i64 j ∧ Hid (Kept (fun _ => False) w5 wr) ∧ Hid (wr.ownsRow w5.heap.size 35 2 v (leaves M1 out j).length (entCells (leaves M1 out j)))) (fun _ i _ => out.length - (intOf i).toNat)
          case atStart => exact ⟨0, Nat.zero_le _, rfl, k50, hown0⟩
          case round =>
            obtain ⟨j, hj, rfl, hkr, hor⟩ := hrel
            have hlv := Lib.hid (fun e h => leaves_succ (M := M1) (out := out) (k := j) (e := e) h)
            obtain ⟨L, hL⟩ : ∃ L, leaves M1 out j = L := ⟨_, rfl⟩
            have hLj := hLl.out j
            rw [hL] at hor hlv hLj
            obtain ⟨Ar, cr, rfl, hr1, hr2⟩ := EntsAt.form (show EntsAt wr _ L from SliceAt.of_owns hor.out)
            unfold maxLen at hr2
            by_cases hlt : j < out.length
            · obtain ⟨x, hx⟩ : ∃ x, out[j]? = some x := ⟨_, List.getElem?_eq_getElem hlt⟩
              obtain ⟨n, y, g1, g2, g3, g4, g5⟩ := e4'.out x (List.mem_of_getElem? hx)
              have hlv' := Lib.hid (hlv.out x hx)
              rw [g1] at hlv'
              obtain ⟨bo, oo, hAo, hbo, ex1, ex2⟩ := EntsAt.get (SliceAt.fresh O5.out.at_ hkr.out) hx
              cases hAo
              obtain ⟨xb, hxb⟩ : ∃ xb, wr.heap.size = xb := ⟨_, rfl⟩
              obtain ⟨w6, hw6⟩ : ∃ w6, (wr.alloc (.cells #[.int .i64 0, .int .i64 0] 35)).setRow xb #[.int .i64 x.1, .int .i64 x.2] = w6 := ⟨_, rfl⟩
              have k6 : Kept (fun _ => False) wr w6 := by rw [← hw6]; exact ((Kept.refl _ _).alloc _).setRowNew (by omega) _
              have x6 : w6.heap[xb]? = some (.cells #[.int .i64 x.1, .int .i64 x.2] 35 (0, 0)) := by rw [← hw6, ← hxb]; exact setRow_heap _ _ _ _ _ _ (heap_alloc_new _ _)
              have k56 := hkr.out.trans k6
              have c3_6 := k56.cell c3_5 id
              have cx6 := cell_of_heap x6 1
              simp at cx6
              have hG := get_any (S5.out.store.fresh k56) x.2
              rw [g1, hsb5] at hG
              dsimp only at hG
              have hG' := Lib.hid hG
              have hload : Hid (∀ i v, [Value.int .i64 x.1, .int .i64 x.2][i]? = some v → wr.cell? ⟨bo, oo + j * 2 + i, none⟩ = some v) := Lib.hid (fun i v hi => by
                match i, hi with
                | 0, hi => cases hi; exact ex1
                | 1, hi => cases hi; exact ex2)
              have hji : (j : Int) < (out.length : Int) := by omega
              have hxb' := Lib.hid hxb
              have hw6' := Lib.hid hw6
              have x6' := Lib.hid x6
              have k56' := Lib.hid k56
              have own6 := Lib.hid (ownsRow.keptOf hor.out k6 (fun _ _ => id))
              have g2' := Lib.hid g2
              have g3' := Lib.hid g3
              clear hx hG hxb hw6 k6 x6 k56 ex1 ex2 g1 g2 g3 hor hkr hlv hL
              go_wp2_with (first | (refine wpList_load_agg 35 rfl rfl rfl _ Try.underlying35 rfl [.int .i64 x.1, .int .i64 x.2] (by kernel_rfl) hload.out ?_) | (refine wpList_alloc_as 35 rfl rfl #[.int .i64 0, .int .i64 0] entry_zero ?_; rw [hxb'.out]) | (refine wpList_store_whole 35 rfl rfl rfl [.int .i64 x.1, .int .i64 x.2] rfl entry_size 35 #[.int .i64 0, .int .i64 0] (by rw [← hxb'.out]; exact heap_alloc_new _ _) rfl (by intro c hc; simp at hc; rcases hc with rfl | rfl <;> rfl) ?_; rw [hw6'.out]))
              refine hG'.out.mono ?_
              rintro e w7 ⟨v7, rfl, own7, hk7⟩
              obtain ⟨An, cn, rfl, hn1, hn2⟩ := EntsAt.form (show EntsAt w7 v7 n.ents from SliceAt.of_owns own7)
              unfold maxLen at hn2
              obtain ⟨F, hF⟩ : ∃ F, nodeCells n (.slice An n.ents.length cn) = F := ⟨_, rfl⟩
              have hFl : Hid (F.length = 18) := Lib.hid (by rw [← hF]; exact nodeCells_len _ _)
              have hF1 : Hid (∀ v ∈ F, v.oneCell' = true) := Lib.hid (by rw [← hF]; exact nodeCells_one _ _ _ _)
              obtain ⟨kb, hkb⟩ : ∃ kb, w7.heap.size = kb := ⟨_, rfl⟩
              obtain ⟨w8, hw8⟩ : ∃ w8, (w7.alloc (.cells Z.toArray 33)).setRow kb F.toArray = w8 := ⟨_, rfl⟩
              have k8 : Kept (fun _ => False) w7 w8 := by rw [← hw8]; exact ((Kept.refl _ _).alloc _).setRowNew (by omega) _
              have box8 : NodeBox w8 kb n (.slice An n.ents.length cn) := ⟨by rw [hF, ← hw8, ← hkb]; exact setRow_heap _ _ _ _ _ _ (heap_alloc_new _ _)⟩
              have k68 := hk7.trans k8
              have own8 := ownsRow.keptOf own7 k8 (fun _ _ => id)
              obtain ⟨bn, on, hAn, hbn2, ey1, _⟩ := EntsAt.get (show EntsAt w8 (.slice An n.ents.length cn) n.ents from SliceAt.of_owns own8) g3'.out
              cases hAn
              rw [Nat.zero_mul, Nat.add_zero, g4] at ey1
              have cx8 := cell_of_heap (k68.get x6'.out id) 0
              simp at cx8
              have c0_8 := box8.c0
              rw [g2'.out] at c0_8
              have c17_8 := box8.c17
              have hkr8 := Lib.hid (k56'.out.trans k68)
              have row8 := Lib.hid (ownsRow.keptOf own6.out k68 (fun _ _ => id))
              have src8 := Lib.hid (SliceAt.of_owns own8)
              have hpos : 0 < n.ents.length := by have := (List.getElem?_eq_some_iff.1 g3'.out).1; omega
              have hposI : (0 : Int) < (n.ents.length : Int) := by omega
              have hne0 : ((n.ents.length : Int) == 0) = false := by rw [beq_eq_false_iff_ne]; omega
              have hle6 : decide ((6 : Int) < (n.ents.length : Int)) = false := by rw [decide_eq_false_iff_not]; omega
              have hbase8 := hkr8.out.size
              have hone : Hid (∀ c ∈ entCells n.ents, c.oneCell' = true) := Lib.hid (entCells_one _)
              have hLlen : L.length ≤ 1000 := by omega
              have hw8' := Lib.hid hw8
              have hkb' := Lib.hid hkb
              rw [hF]
              clear own7 hk7 hF hkb hw8 k8 box8 k68 own8 hG' k56' own6 hload
              go_wp2_with (first | (refine wpList_alloc_as 33 rfl rfl Z.toArray hZz.out ?_; rw [hkb'.out]) | (refine wpList_store_whole 33 rfl rfl rfl F rfl (by rw [hFl.out]; exact node_size) 33 Z.toArray (by rw [← hkb'.out]; exact heap_alloc_new _ _) (by simp [hFl.out, hZl.out]) hF1.out ?_; rw [hw8'.out]))
              go_quiet (fail)
              have row9 := Lib.hid (ownsRow.keptOf row8.out ((Kept.refl (fun _ => False) w8).drewN nq) (fun _ _ => id))
              have src9 := Lib.hid (SliceAt.fresh src8.out ((Kept.refl (fun _ => False) w8).drewN nq))
              have hkr9 := Lib.hid (hkr8.out.drewN nq)
              have hbase9 := hkr9.out.size
              go_wp2_with (at_builtin; refine wpList_append_src rfl elemEntry (.tmp 119) (.tmp 121) rfl (by rfl) (by rfl) row9.out src9.out hone.out (by omega) (by omega) hbase9 ?_; intro v2 w2 hown2 hg2 hat2)
              have hk2 := Lib.hid (hkr9.out.grown hg2 (fun k e => .inr (row9.out.lt k e).1))
              have hown2' := Lib.hid hown2
              clear hown2 hg2 hat2
              go_roundw
              case rel => exact ⟨j + 1, by omega, by go_num, hk2, Lib.hid (by rw [hlv'.out, List.length_append, entCells_append]; exact hown2'.out)⟩
              case measure => simp [intOf]; omega
            · obtain rfl : j = out.length := by omega
              have hLE : L = E := by rw [← hL]; exact e3'.out
              rw [hLE] at hor hr1 ⊢
              have c17r := (box5'.out.kept hkr.out id).c17
              have hS := same10 (SliceAt.of_owns hor.out) (SliceAt.fresh E5.out.at_ hkr.out) (by omega)
              rw [decide_eq_true rfl] at hS
              have hS' := Lib.hid hS
              have hkk := Lib.hid (S5.out.kept.trans hkr.out)
              have hwn2 := hwn'.out
              clear hS hLE hL hor hkr hlv hLj hj hlt
              go_wp2_with fail
              refine hS'.out.mono ?_
              rintro e w9 ⟨rfl, hk9⟩
              have hk9' := Lib.hid hk9
              clear hk9
              go_wp2_with fail
              go_ret
              exact ⟨rfl, k1'.out.trans (hkk.out.trans hk9'.out)⟩)
end Go.Proofs.Ythmjcbmeiabbgaa.treeSplits
