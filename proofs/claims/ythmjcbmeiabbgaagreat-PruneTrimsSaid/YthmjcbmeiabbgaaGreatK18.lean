/-
  One tree in a store, plain: how many pages it has, by its ledger.
-/
import Derived.Test.YthmjcbmeiabbgaaGreatK03
import Derived.Test.YthmjcbmeiabbgaaGreatK16
import Derived.Test.YthmjcbmeiabbgaaGreatK17
set_option linter.unusedVariables false
set_option linter.unusedSimpArgs false
namespace Go.Proofs.YthmjcbmeiabbgaaGreat
open Go.RowKit

theorem Tr.cast {m : Nat} {M : SM} : ∀ {h : Nat} {p : Int} {l : List (Int × Int)}, Tr m M h p l → Tr 1 M h p l
  | 0, _, _, t => t.elim
  | h + 1, p, l, ⟨hp, n, hna, hok, k⟩ => ⟨hp, n, hna, hok, k.mono fun e _ a ha => ⟨Tr.cast ha.1, by
      cases h with
      | zero => exact ha.1.elim
      | succ h =>
        obtain ⟨_, n', hn', hok', k'⟩ := ha.1
        rw [entN_of hn']
        exact (innerOk_of hok' (by have := k'.kind; omega)).pos⟩⟩
theorem tr_ents {m : Nat} {M : SM} {h : Nat} {p : Int} {l : List (Int × Int)} (t : Tr m M (h + 1) p l) : 1 ≤ (M.ents p.toNat).length ∧ (M.ents p.toNat).length ≤ 6 := by
  obtain ⟨_, n, hn, hok, k⟩ := t
  have := innerOk_of hok (by have := k.kind; omega)
  rw [ents_of hn]
  exact ⟨this.pos, this.le⟩
/-- A tree's ledger bounds its height. -/
theorem led_high {m : Nat} {M : SM} {h : Nat} {p : Int} {l : List (Int × Int)} {s : Nat} (t : Tr m M (h + 1) p l) (k : Led M (h + 1) p s) (h0 : 0 < h) : 3 ^ h ≤ s := by
  rcases k with ⟨hz, _⟩ | ⟨_, hK⟩
  · omega
  · have h1 := (tr_ents t).1
    cases he : M.ents p.toNat with
    | nil => rw [he] at h1; simp at h1
    | cons e es =>
      rw [he] at hK
      obtain ⟨t, u, h2, h3, _⟩ := hK
      have := h3.1
      omega
theorem pages_cnt {M : SM} : ∀ (h : Nat) (p : Int), (pagesF M h p).length = sumN (fun j => cntL M (j + 1) h p) h
  | 0, _ => rfl
  | h + 1, p => by
    unfold pagesF sumN
    have e1 : cntL M (h + 1) (h + 1) p = 1 := by
      unfold cntL
      rw [if_pos rfl]
      split
      · rfl
      · have : ∀ es : List (Int × Int), (es.map fun e => cntL M (h + 1) h e.2).sum = 0 := fun es => by
          induction es with
          | nil => rfl
          | cons e es ih => rw [List.map_cons, List.sum_cons, ih, cntL_low (by omega)]
        rw [this]
    rw [e1, List.length_cons]
    by_cases h0 : h = 0
    · subst h0; rfl
    · rw [if_neg h0]
      have e2 : sumN (fun j => cntL M (j + 1) (h + 1) p) h = sumN (fun j => ((M.ents p.toNat).map fun e => cntL M (j + 1) h e.2).sum) h := sumN_congr fun j hj => by
        conv => lhs; unfold cntL
        rw [if_neg (by omega), if_neg h0, Nat.zero_add]
      rw [e2]
      have e3 : ∀ es : List (Int × Int), (es.flatMap fun e => pagesF M h e.2).length = sumN (fun j => (es.map fun e => cntL M (j + 1) h e.2).sum) h := fun es => by
        induction es with
        | nil => exact (sumN_zero (fun _ _ => rfl)).symm
        | cons e es ih =>
          have e4 : sumN (fun j => ((e :: es).map fun e => cntL M (j + 1) h e.2).sum) h = sumN (fun j => cntL M (j + 1) h e.2) h + sumN (fun j => (es.map fun e => cntL M (j + 1) h e.2).sum) h := by
            rw [← sumN_add]
            exact sumN_congr fun j _ => by rw [List.map_cons, List.sum_cons]
          rw [e4, ← ih, ← pages_cnt h e.2, List.flatMap_cons, List.length_append]
      rw [e3]
/-- How many pages at most: of at most 150 puts. -/
theorem led_pages {m : Nat} {M : SM} {h : Nat} {p : Int} {l : List (Int × Int)} {s : Nat} (t : Tr m M h p l) (k : Led M h p s) (hs : s ≤ 150) : h ≤ 5 ∧ (pagesF M h p).length ≤ 73 ∧ 2 * (pagesF M h p).length ≤ s + 3 := by
  have h5 : h ≤ 5 := by
    cases h with
    | zero => exact Nat.zero_le _
    | succ h =>
      by_cases h0 : 0 < h
      · have := led_high t k h0
        refine Classical.byContradiction fun hn => ?_
        have h2 : 3 ^ 5 ≤ 3 ^ h := Nat.pow_le_pow_right (by decide) (by omega)
        have : (3 : Nat) ^ 5 = 243 := by decide
        omega
      · omega
  refine ⟨h5, ?_⟩
  rw [pages_cnt]
  have hc : ∀ j, j < h → 3 ^ j * cntL M j h p ≤ s := fun j hj => led_cnt k hj
  have ht : cntL M h h p ≤ 1 := by
    cases h with
    | zero => exact Nat.zero_le _
    | succ h =>
      unfold cntL
      rw [if_pos rfl]
      split
      · exact Nat.le_refl _
      · have : ∀ es : List (Int × Int), (es.map fun e => cntL M (h + 1) h e.2).sum = 0 := fun es => by
          induction es with
          | nil => rfl
          | cons e es ih => rw [List.map_cons, List.sum_cons, ih, cntL_low (by omega)]
        rw [this]
        exact Nat.le_refl _
  have d1 := hc 1
  have d2 := hc 2
  have d3 := hc 3
  have d4 := hc 4
  have e2 : (3 : Nat) ^ 2 = 9 := by decide
  have e3 : (3 : Nat) ^ 3 = 27 := by decide
  have e4 : (3 : Nat) ^ 4 = 81 := by decide
  rw [Nat.pow_one] at d1
  rw [e2] at d2
  rw [e3] at d3
  rw [e4] at d4
  have hcase : h = 0 ∨ h = 1 ∨ h = 2 ∨ h = 3 ∨ h = 4 ∨ h = 5 := by omega
  rcases hcase with rfl | rfl | rfl | rfl | rfl | rfl
  · simp [sumN]
  · simp only [sumN, Nat.zero_add, Nat.reduceAdd]; omega
  · have := d1 (by decide)
    simp only [sumN, Nat.zero_add, Nat.reduceAdd]; omega
  · have := d1 (by decide); have := d2 (by decide)
    simp only [sumN, Nat.zero_add, Nat.reduceAdd]; omega
  · have := d1 (by decide); have := d2 (by decide); have := d3 (by decide)
    simp only [sumN, Nat.zero_add, Nat.reduceAdd]; omega
  · have := d1 (by decide); have := d2 (by decide); have := d3 (by decide); have := d4 (by decide)
    simp only [sumN, Nat.zero_add, Nat.reduceAdd]; omega
/-- A tree's nodes have as many entries as there are keys and nodes below the root. -/
theorem pages_sum {m : Nat} {M : SM} : ∀ {h : Nat} {p : Int} {l : List (Int × Int)}, Tr m M h p l → entSum M (pagesF M h p) + 1 = l.length + (pagesF M h p).length
  | 0, _, _, t => t.elim
  | h + 1, p, l, ⟨hp, n, hn, hok, k⟩ => by
    have he := ents_of hn
    unfold pagesF
    rcases k with ⟨h0, _, hl⟩ | ⟨h0, _, hK⟩
    · rw [if_pos h0]
      unfold entSum
      simp only [List.map_cons, List.map_nil, List.sum_cons, List.sum_nil, List.length_cons, List.length_nil]
      rw [he, hl]
      omega
    · rw [if_neg (by omega), he]
      have key : ∀ (es l : List (Int × Int)), Kids (Sub m M h) es l → entSum M (es.flatMap fun e => pagesF M h e.2) + es.length = l.length + (es.flatMap fun e => pagesF M h e.2).length := by
        intro es
        induction es with
        | nil => intro l hl; rw [show l = [] from hl]; rfl
        | cons e es ih =>
          rintro l ⟨a, b, x, h1, h2, h3, h4, h5⟩
          have i1 := pages_sum h2.1
          have i2 := ih b h5
          rw [List.flatMap_cons, entSum_append, h1, List.length_append, List.length_append, List.length_cons]
          omega
      have i3 := key n.ents l hK
      have e1 : entSum M (p.toNat :: n.ents.flatMap fun e => pagesF M h e.2) = n.ents.length + entSum M (n.ents.flatMap fun e => pagesF M h e.2) := by
        unfold entSum
        rw [List.map_cons, List.sum_cons, he]
      rw [e1, List.length_cons]
      omega
end Go.Proofs.YthmjcbmeiabbgaaGreat
/-
  Cutting, plain: a tree without a key.
-/
namespace Go.Proofs.YthmjcbmeiabbgaaGreat
open Go.RowKit

theorem cutF_closed {Q : SM → Prop} (C : Closed Q) : ∀ (f : Nat) (M : SM) (root key : Int), Q M → Q (SM.cutF f M root key).1
  | 0, _, _, _, h => h
  | f + 1, M, root, key, h => by
    unfold SM.cutF
    dsimp only
    split
    · exact h
    · split
      · split <;> exact h
      · have hc := cutF_closed C f M ((M.tnode root (8 - f)).1.ents.getD (atI (M.tnode root (8 - f)).1.ents key).toNat (0, 0)).2 key h
        split
        · exact hc
        · split
          · split <;> exact C.split _ hc
          · exact hc
theorem cut_closed {Q : SM → Prop} (C : Closed Q) {M : SM} (root key : Int) (h : Q M) : Q (M.cut root key).1 := by
  have hc := cutF_closed C 9 M root key h
  unfold SM.cut
  split
  · exact h
  · split
    · exact h
    · dsimp only
      split
      · exact hc
      · split
        · exact hc
        · split
          · exact hc
          · split <;> exact C.split _ hc
/-- What a tree's new root leaves. -/
structure CutTop (M : SM) (ext : Nat → Nat) (h : Nat) (root key : Int) (l : List (Int × Int)) (M' : SM) (p : Int) : Prop where
  exact : Exact M' ext
  grown : Grown M M'
  sum : M'.sum ≤ M.sum + 6 * h + 6
  loose : Loose M' [((0 : Int), p)]
  had : ∃ y ∈ l, y.1 = key
  tr : (p = -1 ∧ cutL l key = []) ∨ ∃ h', h' ≤ h + 1 ∧ Tr 1 M' h' p (cutL l key) ∧ (∀ s, Led M (h + 1) root s → Led M' h' p s) ∧
    (h' = h + 1 → 0 < h → 2 ≤ (M'.ents p.toNat).length ∧ (AdjN (sizesE M (M.ents root.toNat)) → AdjN (sizesE M' (M'.ents p.toNat))))

theorem cut_ok {M : SM} {ext : Nat → Nat} (E : Exact M ext) {h : Nat} {root key : Int} {l : List (Int × Int)} (t : Tr 1 M (h + 1) root l) (h8 : h + 1 ≤ 8) (g : Good M l) (hl : Loose M []) (k0 : 0 ≤ key) (k1 : key < 64) :
    (M.cut root key = (M, root, false, 0) ∧ ∀ y ∈ l, y.1 ≠ key) ∨
      ((M.cut root key).2.2.2 = 0 ∧ (M.cut root key).2.2.1 = true ∧ CutTop M ext h root key l (M.cut root key).1 (M.cut root key).2.1) ∨
      ((M.cut root key).2.2.2 = 71 ∧ M.pool.freeCount < h + 1) ∨ ((M.cut root key).2.2.2 = 72 ∧ ∃ c, 255 < M.sum + 6 * h + 6 + ext c) := by
  have hne : root ≠ -1 := fun e => by have := (heldB_int t.held).1; omega
  have hc := cutF_ok (key := key) h 0 M l root (by omega) E t g
  rw [Nat.sub_zero] at hc
  unfold SM.cut
  rw [if_neg (by omega), if_neg hne]
  dsimp only
  obtain ⟨R, hR⟩ : ∃ R, SM.cutF 9 M root key = R := ⟨_, rfl⟩
  rw [hR] at hc ⊢
  obtain ⟨M1, n1, was, er⟩ := R
  dsimp only at hc ⊢
  rcases hc with ⟨e, hno⟩ | ⟨rfl, rfl, P⟩ | ⟨rfl, hf⟩ | ⟨rfl, c, hf⟩
  · injection e with e1 e2
    injection e2 with _ e2
    injection e2 with e2 e3
    subst e1 e2 e3
    rw [if_neg (by decide), if_pos rfl]
    exact .inl ⟨rfl, hno⟩
  · rw [if_neg (by decide), if_neg (by decide)]
    have a2 := P.sum
    have hhi := P.hi
    have hpe := P.entN
    have hL := P.loose [] hl
    rw [List.append_nil] at hL
    have g1 : Good M1 (cutL l key) := (g.cut key).grown P.grown
    by_cases hone : n1.kind = 3 ∧ n1.ents.length = 1
    · rw [if_pos hone]
      obtain ⟨hk, h1⟩ := hone
      cases he : n1.ents with
      | nil => rw [he] at h1; simp at h1
      | cons e es =>
        have hes : es = [] := by rw [he] at h1; exact List.eq_nil_of_length_eq_zero (by simpa using h1)
        subst hes
        have hK := P.tr
        rcases hK with ⟨_, hk2, _⟩ | ⟨h0, _, hK⟩
        · omega
        · rw [he] at hK hL
          obtain ⟨a, b, x, hab, hT, _, _, hb⟩ := hK
          rw [show b = [] from hb, List.append_nil] at hab
          refine .inr (.inl ⟨rfl, rfl, P.exact, P.grown, by show M1.sum ≤ _; omega, ?_, P.had, .inr ⟨h, Nat.le_succ _, ?_, fun s hs => ?_, fun e => by omega⟩⟩)
          · intro q hq hc
            obtain ⟨y, hy, hye⟩ := hL q hq hc
            rw [List.mem_singleton] at hy
            subst hy
            exact ⟨_, List.mem_singleton.2 rfl, hye⟩
          · show Tr 1 M1 h e.2 (cutL l key)
            rw [hab]; exact hT.1
          · have := P.led s hs
            rw [he] at this
            rcases this with ⟨hz, _⟩ | ⟨_, t, u, h2, h3, _⟩
            · omega
            · show Led M1 h e.2 s
              exact h3.2.weak (by omega)
    · rw [if_neg hone]
      by_cases hz : n1.ents.length = 0
      · rw [split_none hz]
        dsimp only
        rw [if_pos (.inr rfl)]
        refine .inr (.inl ⟨rfl, rfl, P.exact, P.grown, by show M1.sum ≤ _; omega, ?_, P.had, .inl ⟨rfl, P.tr.nil hz⟩⟩)
        have : n1.ents = [] := List.eq_nil_of_length_eq_zero hz
        rw [this] at hL
        exact hL.mono fun y hy => by cases hy
      · have hsp := split_ok P.exact P.tr g1 (by omega) (by omega)
        obtain ⟨R, hR2⟩ : ∃ R, M1.split n1 = R := ⟨_, rfl⟩
        rw [hR2] at hsp ⊢
        obtain ⟨M2, out, er⟩ := R
        dsimp only at hsp ⊢
        rcases hsp with ⟨rfl, S⟩ | ⟨rfl, hf⟩ | ⟨rfl, c, hf⟩
        · have b2 := S.sum
          obtain ⟨k, i, ho, hT, _, _⟩ := S.one (by omega)
          rw [ho]
          rw [if_neg (by simp)]
          refine .inr (.inl ⟨rfl, rfl, S.exact, P.grown.trans S.grown, by show M2.sum ≤ _; omega, ?_, P.had, .inr ⟨h + 1, Nat.le_refl _, hT, fun s hs => ?_, fun _ h0 => ?_⟩⟩)
          · have := S.loose [] (by rw [List.append_nil]; exact hL)
            rw [ho] at this
            intro q hq hc
            obtain ⟨y, hy, he⟩ := this q hq hc
            rw [List.nil_append, List.mem_singleton] at hy
            subst hy
            exact ⟨_, List.mem_singleton.2 rfl, he⟩
          · have := (S.led s (P.led s hs)).1 (by omega)
            rw [ho] at this
            exact this _ (List.mem_cons_self ..)
          · obtain ⟨o, ho1, ho2⟩ := S.last
            obtain rfl : o = (k, (i : Int)) := by rw [ho] at ho1; simpa using ho1.symm
            rw [if_neg (by omega), List.drop_zero] at ho2
            show 2 ≤ (M2.ents (Int.toNat (i : Int))).length ∧ (_ → AdjN (sizesE M2 (M2.ents (Int.toNat (i : Int)))))
            rw [ho2]
            rcases P.tr with ⟨hz, _⟩ | ⟨_, hk3, hK⟩
            · omega
            · refine ⟨?_, fun hA => ?_⟩
              · have : ¬ n1.ents.length = 1 := fun e => hone ⟨hk3, e⟩
                omega
              · rw [sizes_grown S.grown (Kids.held (P := fun q => M1.pool.heldB q = true) (fun q a ha => ha.1.held) hK)]
                exact P.dense h0 hA
        · have a1 := P.free
          refine .inr (.inr (.inl ⟨?_, by rw [if_neg (by omega)] at hf; omega⟩))
          rw [if_pos (.inl (by decide))]
        · refine .inr (.inr (.inr ⟨?_, c, by omega⟩))
          rw [if_pos (.inl (by decide))]
  · rw [if_pos (by decide)]
    exact .inr (.inr (.inl ⟨rfl, by omega⟩))
  · rw [if_pos (by decide)]
    exact .inr (.inr (.inr ⟨rfl, c, by omega⟩))
end Go.Proofs.YthmjcbmeiabbgaaGreat
/-
  One tree in a store with some blocks, plain: put, cut, list.
-/
namespace Go.Proofs.YthmjcbmeiabbgaaGreat
open Go.RowKit

/-- Who holds: the blocks, and the root. -/
def extB (bl : List Nat) (root : Int) : Nat → Nat := fun p => bl.count p + (if (p : Int) = root then 1 else 0)
/-- What is kept besides, and how much room it costs. -/
structure Besides (K : SM → Prop) (c : Nat) : Prop where
  closed : Closed K
  room : ∀ M, K M → M.pool.size ≤ M.pool.freeCount + M.liveN + c
structure OneTree (K : SM → Prop) (s : Nat) (bl : List Nat) (M : SM) (root : Int) (l : List (Int × Int)) (P : Nat) : Prop where
  exact : Exact M (extB bl root)
  size : M.pool.size = s
  kk : K M
  data : ∀ b ∈ bl, M.live b = true ∧ ∃ d, M.nodeAt b = some d ∧ d.kind = 1 ∧ d.ents = []
  keys : RisesK l ∧ ∀ y ∈ l, 0 ≤ y.1 ∧ y.1 < 64 ∧ ∃ b ∈ bl, y.2 = ((b : Nat) : Int)
  root : (root = -1 ∧ l = []) ∨ ∃ h, Tr 1 M h root l ∧ Led M h root P
  loose : Loose M []
theorem clean_besides : Besides Clean 0 := ⟨clean_closed, fun M h => by have := clean_free h; omega⟩
section
variable {K : SM → Prop} {s c : Nat} {bl : List Nat} {M : SM} {root : Int} {l : List (Int × Int)} {P : Nat}
theorem OneTree.good (h : OneTree K s bl M root l P) : Good M l := ⟨h.keys.1, fun y hy => by
  obtain ⟨a, b, d, hd, e⟩ := h.keys.2 y hy
  refine ⟨a, b, ?_⟩
  rw [e, heldB_nat]
  exact (h.data d hd).1⟩
theorem OneTree.len (h : OneTree K s bl M root l P) : l.length ≤ 64 := rises_len h.keys.1 fun y hy => ⟨(h.keys.2 y hy).1, (h.keys.2 y hy).2.1⟩
/-- The tree's pages, and the blocks: all that is there. -/
theorem OneTree.pages (h : OneTree K s bl M root l P) (hP : P ≤ 150) : ∃ L : List Nat, (root = -1 ∨ root.toNat ∈ L) ∧ (∀ q, M.live q = true → q ∈ bl ++ L) ∧ L.length ≤ 73 ∧ entSum M L ≤ 137 ∧ 2 * L.length ≤ P + 3 ∧ (root = -1 → L = []) := by
  have h64 := h.len
  have key : ∃ L : List Nat, (root = -1 ∨ root.toNat ∈ L) ∧ (∀ q ∈ L, ∀ x ∈ M.ents q, x.2.toNat ∈ L ∨ x ∈ l) ∧ L.length ≤ 73 ∧ entSum M L ≤ 137 ∧ 2 * L.length ≤ P + 3 ∧ (root = -1 → L = []) := by
    rcases h.root with ⟨e, _⟩ | ⟨hh, t, k⟩
    · exact ⟨[], .inl e, fun q hq => (by cases hq), Nat.zero_le _, Nat.zero_le _, by show 2 * 0 ≤ _; omega, fun _ => rfl⟩
    · obtain ⟨_, p1, p2⟩ := led_pages t k hP
      have p3 := pages_sum t
      exact ⟨pagesF M hh root, .inr (pages_self (tr_pos t)), pages_closed t, p1, by omega, p2, fun e => by have := (heldB_int t.held).1; omega⟩
  obtain ⟨L, a1, a2, a3, a4, a5, a6⟩ := key
  refine ⟨L, a1, ?_, a3, a4, a5, a6⟩
  refine reach_all h.exact h.loose (fun q _ hq => ?_) (fun q hq x hx => ?_)
  · unfold extB at hq
    by_cases e : (q : Int) = root
    · rcases a1 with a1 | a1
      · omega
      · rw [← e, Int.toNat_natCast] at a1
        exact List.mem_append_right _ a1
    · rw [if_neg e, Nat.add_zero] at hq
      exact List.mem_append_left _ (List.count_pos_iff.1 hq)
  · rcases List.mem_append.1 hq with hq | hq
    · obtain ⟨_, d, hd, _, he⟩ := h.data q hq
      rw [ents_of hd, he] at hx
      cases hx
    · rcases a2 q hq x hx with e | e
      · exact List.mem_append_right _ e
      · obtain ⟨_, _, b, hb, hbe⟩ := h.keys.2 x e
        rw [hbe, Int.toNat_natCast]
        exact List.mem_append_left _ hb
theorem data_sum (h : ∀ b ∈ bl, ∃ d, M.nodeAt b = some d ∧ d.ents = []) : entSum M bl = 0 := by
  induction bl with
  | nil => rfl
  | cons b bl ih =>
    obtain ⟨d, hd, he⟩ := h b (List.mem_cons_self ..)
    have := ih (fun b hb => h b (List.mem_cons_of_mem _ hb))
    unfold entSum at this ⊢
    rw [List.map_cons, List.sum_cons, ents_of hd, he, this]
    rfl
theorem OneTree.room (h : OneTree K s bl M root l P) (hB : Besides K c) (hP : P ≤ 150) : s ≤ M.pool.freeCount + bl.length + 73 + c ∧ M.sum ≤ 137 := by
  obtain ⟨L, _, a2, a3, a4, _⟩ := h.pages hP
  have c1 := hB.room M h.kk
  have c2 := liveN_list a2
  have c3 := sumE_list a2
  rw [entSum_append, data_sum (fun b hb => by obtain ⟨_, d, hd, _, he⟩ := h.data b hb; exact ⟨d, hd, he⟩)] at c3
  rw [List.length_append] at c2
  rw [h.size] at c1
  omega
theorem OneTree.rooted (h : OneTree K s bl M root l P) (hP : P ≤ 150) : ∃ k, Rooted 1 M root l k ∧ k ≤ 5 ∧ (root = -1 ∨ Led M k root P) := by
  rcases h.root with ⟨e1, e2⟩ | ⟨k, t, j⟩
  · exact ⟨0, .inl ⟨e1, e2, rfl⟩, Nat.zero_le _, .inl e1⟩
  · exact ⟨k, .inr t, (led_pages t j hP).1, .inr j⟩
theorem OneTree.list (h : OneTree K s bl M root l P) (hP : P ≤ 150) : M.list root = (l, 0) := by
  obtain ⟨k, hr, hk, _⟩ := h.rooted hP
  exact listR_ok hr (by omega)
/-- A store that has grown lists the same. -/
theorem OneTree.listG (h : OneTree K s bl M root l P) (hP : P ≤ 150) {M' : SM} (g : Grown M M') : M'.list root = (l, 0) := by
  obtain ⟨k, hr, hk, _⟩ := h.rooted hP
  exact listR_ok (hr.imp id fun t => Tr.grown g t) (by omega)
/-- One root held in the place of another. -/
theorem OneTree.swapped (h : OneTree K s bl M root l P) (hB : Besides K c) {M1 : SM} {next : Int} {l' : List (Int × Int)} {P' : Nat} (hk1 : K M1) (E1 : Exact M1 (extB bl root)) (g : Grown M M1)
    (hl1 : Loose M1 [((0 : Int), next)]) (hs : M1.sum ≤ 240) (hbl : bl.length ≤ 5) (hkeys : RisesK l' ∧ ∀ y ∈ l', 0 ≤ y.1 ∧ y.1 < 64 ∧ ∃ b ∈ bl, y.2 = ((b : Nat) : Int))
    (ht : (next = -1 ∧ l' = []) ∨ ∃ h', Tr 1 M1 h' next l' ∧ Led M1 h' next P') :
    (M1.swap root next).2 = 0 ∧ OneTree K s bl (M1.swap root next).1 next l' P' ∧ (M1.swap root next).1.log = M1.log := by
  have hextb : ∀ q, extB bl root q ≤ 6 := fun q => by
    unfold extB
    have : bl.count q ≤ bl.length := List.count_le_length
    split <;> omega
  have hn : next = -1 ∨ (M1.pool.heldB next = true ∧ M1.pool.cnt next.toNat < 255) := by
    rcases ht with ⟨e, _⟩ | ⟨h', t, _⟩
    · exact .inl e
    · have h1 := t.held
      have h2 := E1.cnt_le (heldB_int h1).2
      have h3 := hextb next.toNat
      exact .inr ⟨h1, by omega⟩
  have hold : root = -1 ∨ (M1.pool.heldB root = true ∧ 0 < extB bl root root.toNat) := by
    rcases h.root with ⟨hr, _⟩ | ⟨k, t, _⟩
    · exact .inl hr
    · have h0 := (heldB_int t.held).1
      exact .inr ⟨g.held t.held, by unfold extB; rw [if_pos (by omega)]; omega⟩
  obtain ⟨r1, E2, hlog, hsz, hlv, hlo⟩ := swap_ok E1 hn hold
  have hK2 : K (M1.swap root next).1 := hB.closed.swap _ _ hk1
  obtain ⟨M2, hM2⟩ : ∃ M2, (M1.swap root next).1 = M2 := ⟨_, rfl⟩
  rw [hM2] at E2 hlog hsz hlv hlo hK2 ⊢
  have hnode : ∀ q, M2.nodeAt q = M1.nodeAt q := fun q => by unfold SM.nodeAt; rw [hlog]
  have E2' : Exact M2 (extB bl next) := exact_congr E2 (fun p _ => by
    unfold swapE extB
    by_cases e1 : (p : Int) = root <;> by_cases e2 : (p : Int) = next <;> simp [e1, e2] <;> omega)
  refine ⟨r1, ⟨E2', by rw [hsz, g.size, h.size], hK2, fun b hb => ?_, hkeys, ?_, fun q hq hc => ?_⟩, hlog⟩
  · obtain ⟨hbl, d, hd, hk⟩ := h.data b hb
    refine ⟨?_, d, by rw [hnode, g.node b hbl]; exact hd, hk⟩
    have := ext_held E2' (p := b) (by rw [hsz, g.size]; exact live_lt hbl) (by unfold extB; have := List.count_pos_iff.2 hb; omega)
    rw [heldB_nat] at this
    exact this
  · rcases ht with ht | ⟨h', t, k⟩
    · exact .inl ht
    · right
      have hn := t.held
      have hn0 := (heldB_int hn).1
      have hnext2 : M2.pool.heldB next = true := by
        obtain ⟨c, hc⟩ := Int.eq_ofNat_of_zero_le hn0
        rw [hc]
        refine ext_held E2' ?_ (by unfold extB; rw [if_pos hc.symm]; omega)
        rw [hsz]
        have := live_lt (M := M1) (heldB_int hn).2
        rw [hc, Int.toNat_natCast] at this
        exact this
      exact ⟨h', Tr.stays E2' hlog t hnext2, Led.same (fun q _ => hnode q) t k⟩
  · obtain ⟨c1, c2⟩ := hlo q hq hc
    obtain ⟨x, hx, he⟩ := hl1 q (hlv q hq) c1
    rw [List.mem_singleton] at hx
    rw [hx] at he
    exact absurd he.symm c2
theorem one_put (h : OneTree K s bl M root l P) (hB : Besides K c) (hP : P + 1 ≤ 150) (hbl : bl.length ≤ 5) (hs : 5 + 73 + c + 20 ≤ s) {key page : Int} (k0 : 0 ≤ key) (k1 : key < 64) (hp : ∃ b ∈ bl, page = ((b : Nat) : Int)) :
    (M.put root key page).2.2 = 0 ∧ ((M.put root key page).1.swap root (M.put root key page).2.1).2 = 0 ∧ OneTree K s bl ((M.put root key page).1.swap root (M.put root key page).2.1).1 (M.put root key page).2.1 (putL l (key, page)) (P + 1) ∧
      (M.put root key page).1.list root = (l, 0) := by
  obtain ⟨k, hr, hk, hled⟩ := h.rooted (by omega)
  obtain ⟨r1, r2⟩ := h.room hB (by omega)
  have hx : M.pool.heldB page = true := by
    obtain ⟨b, hb, e⟩ := hp
    rw [e, heldB_nat]
    exact (h.data b hb).1
  have hextb : ∀ q, extB bl root q ≤ 6 := fun q => by
    unfold extB
    have : bl.count q ≤ bl.length := List.count_le_length
    split <;> omega
  rcases put_ok (m := 1) (by decide) h.exact hr (by omega) h.good h.loose hx k0 k1 with ⟨e, T⟩ | ⟨_, e, hf⟩ | ⟨_, e, c, hc⟩
  · have hk1 : K (M.put root key page).1 := hB.closed.put _ _ _ h.kk
    have ts := T.sum
    have g := h.good.put (x := (key, page)) k0 k1 hx
    obtain ⟨M1, hM1⟩ : ∃ M1, (M.put root key page).1 = M1 := ⟨_, rfl⟩
    obtain ⟨next, hnext⟩ : ∃ next, (M.put root key page).2.1 = next := ⟨_, rfl⟩
    rw [hM1, hnext] at T
    rw [hM1] at hk1 ts ⊢
    rw [hnext]
    obtain ⟨h', t, _, j⟩ := T.led (P + 1) ⟨P, rfl, hled⟩
    obtain ⟨s1, s2, _⟩ := h.swapped hB (l' := putL l (key, page)) (P' := P + 1) hk1 T.exact T.grown (T.loose [] rfl) (by omega) hbl ⟨g.1, fun y hy => by
      refine ⟨(g.2 y hy).1, (g.2 y hy).2.1, ?_⟩
      rcases putL_mem hy with rfl | hy
      · exact hp
      · exact (h.keys.2 y hy).2.2⟩ (.inr ⟨h', t, j⟩)
    exact ⟨e, s1, s2, h.listG (by omega) T.grown⟩
  · exfalso; omega
  · exfalso; have := hextb c; omega
theorem one_cut (h : OneTree K s bl M root l P) (hB : Besides K c) (hP : P ≤ 150) (hbl : bl.length ≤ 5) (hs : 5 + 73 + c + 20 ≤ s) {key : Int} (k0 : 0 ≤ key) (k1 : key < 64) :
    (M.cut root key = (M, root, false, 0) ∧ cutL l key = l ∧ ∀ y ∈ l, y.1 ≠ key) ∨
      ((M.cut root key).2.2.2 = 0 ∧ (M.cut root key).2.2.1 = true ∧ (∃ y ∈ l, y.1 = key) ∧ (M.cut root key).1.list root = (l, 0) ∧ ((M.cut root key).1.swap root (M.cut root key).2.1).2 = 0 ∧
        OneTree K s bl ((M.cut root key).1.swap root (M.cut root key).2.1).1 (M.cut root key).2.1 (cutL l key) P) := by
  obtain ⟨r1, r2⟩ := h.room hB hP
  have hextb : ∀ q, extB bl root q ≤ 6 := fun q => by
    unfold extB
    have : bl.count q ≤ bl.length := List.count_le_length
    split <;> omega
  rcases h.root with ⟨rfl, rfl⟩ | ⟨k, t, j⟩
  · refine .inl ⟨?_, rfl, fun y hy => by cases hy⟩
    unfold SM.cut
    rw [if_neg (by omega), if_pos rfl]
  · obtain ⟨hk, _⟩ := led_pages t j hP
    obtain ⟨k, rfl⟩ : ∃ i, k = i + 1 := ⟨k - 1, by have := tr_pos t; omega⟩
    have hKM : K (M.cut root key).1 := by
      have hc : Closed K := hB.closed
      exact cut_closed hc root key h.kk
    rcases cut_ok (key := key) h.exact t (by omega) h.good h.loose k0 k1 with ⟨e, hno⟩ | ⟨e, ew, T⟩ | ⟨e, hf⟩ | ⟨e, c, hc⟩
    · exact .inl ⟨e, cutL_none hno, hno⟩
    · have ts := T.sum
      obtain ⟨M1, hM1⟩ : ∃ M1, (M.cut root key).1 = M1 := ⟨_, rfl⟩
      obtain ⟨next, hnext⟩ : ∃ next, (M.cut root key).2.1 = next := ⟨_, rfl⟩
      rw [hM1, hnext] at T
      rw [hM1] at hKM ts ⊢
      rw [hnext]
      have hkeys : RisesK (cutL l key) ∧ ∀ y ∈ cutL l key, 0 ≤ y.1 ∧ y.1 < 64 ∧ ∃ b ∈ bl, y.2 = ((b : Nat) : Int) := ⟨cutL_rises h.keys.1 key, fun y hy => h.keys.2 y (List.mem_filter.1 hy).1⟩
      obtain ⟨s1, s2, _⟩ := h.swapped hB (P' := P) hKM T.exact T.grown T.loose (by omega) hbl hkeys (T.tr.imp id fun ⟨h', _, t', k', _⟩ => ⟨h', t', k' P j⟩)
      exact .inr ⟨e, ew, T.had, h.listG hP T.grown, s1, s2⟩
    · exfalso; omega
    · exfalso; have := hextb c; omega
end
end Go.Proofs.YthmjcbmeiabbgaaGreat
/-
  One tree in a store, plain: a tree that is built; how dense one is that was built in order, and cut.
-/
namespace Go.Proofs.YthmjcbmeiabbgaaGreat
open Go.RowKit

section
variable {K : SM → Prop} {s c : Nat} {bl : List Nat} {M : SM} {root : Int} {l : List (Int × Int)} {P : Nat}
theorem build_one (hB : Besides K c) (hbl : bl.length ≤ 5) (hs : 5 + 73 + c + 20 ≤ s) : ∀ (ks : List (Int × Int)) {M : SM} {root : Int} {l : List (Int × Int)} {P : Nat}, OneTree K s bl M root l P → P + ks.length ≤ 150 →
    (∀ y ∈ ks, 0 ≤ y.1 ∧ y.1 < 64 ∧ ∃ b ∈ bl, y.2 = ((b : Nat) : Int)) →
    ∃ M' root', SM.build ks M root = (M', root', 0) ∧ OneTree K s bl M' root' (ks.foldl putL l) (P + ks.length) ∧ M'.log.length ≤ M.log.length + 22 * ks.length
  | [], M, root, _, _, h, _, _ => ⟨M, root, rfl, h, Nat.le_refl _⟩
  | x :: ks, M, root, l, P, h, hP, hks => by
    obtain ⟨hx0, hx1, hx2⟩ := hks x (List.mem_cons_self ..)
    obtain ⟨x1, x2⟩ := x
    dsimp only at hx0 hx1 hx2
    rw [List.length_cons] at hP
    obtain ⟨e1, e2, hI, _⟩ := one_put h hB (by omega) hbl hs hx0 hx1 hx2
    have hl1 := put_log M root x1 x2
    have hl2 := swap_log (M.put root x1 x2).1 root (M.put root x1 x2).2.1
    obtain ⟨M', root', e3, hI', hl⟩ := build_one hB hbl hs ks hI (by omega) (fun y hy => hks y (List.mem_cons_of_mem _ hy))
    refine ⟨M', root', ?_, by rw [List.length_cons, show P + (ks.length + 1) = P + 1 + ks.length by omega]; exact hI', by rw [hl2] at hl; rw [List.length_cons]; omega⟩
    rw [build_cons]
    dsimp only
    rw [if_pos e1, if_pos e2, e3]
/-- All that is there: the blocks, and the tree's pages. -/
theorem OneTree.all_live (h : OneTree K s bl M root l P) {m hh : Nat} (t : Tr m M hh root l) : ∀ q, M.live q = true → q ∈ bl ++ pagesF M hh root := by
  refine reach_all h.exact h.loose (fun q _ hq => ?_) (fun q hq x hx => ?_)
  · unfold extB at hq
    by_cases e : (q : Int) = root
    · have := pages_self (M := M) (p := root) (tr_pos t)
      rw [← e, Int.toNat_natCast] at this
      rw [e] at this
      exact List.mem_append_right _ this
    · rw [if_neg e, Nat.add_zero] at hq
      exact List.mem_append_left _ (List.count_pos_iff.1 hq)
  · rcases List.mem_append.1 hq with hq | hq
    · obtain ⟨_, d, hd, _, he⟩ := h.data q hq
      rw [ents_of hd, he] at hx
      cases hx
    · rcases pages_closed t q hq x hx with e | e
      · exact List.mem_append_right _ e
      · obtain ⟨_, _, b, hb, hbe⟩ := h.keys.2 x e
        rw [hbe, Int.toNat_natCast]
        exact List.mem_append_left _ hb
end

/-- So many puts at the end. -/
def spK : Nat → List Nat
  | 0 => []
  | 1 => [1]
  | k + 2 => topS (bumpF (spK (k + 1)))
theorem spK_64 : spK 64 = [6, 6, 4] := by decide +kernel
theorem spine_len (M : SM) : ∀ (h : Nat) (p : Int), (spine M h p).length = h
  | 0, _ => rfl
  | h + 1, p => by
    unfold spine
    rw [List.length_cons]
    by_cases h0 : h = 0
    · rw [if_pos h0, h0]; rfl
    · rw [if_neg h0, spine_len M h]
theorem ents_log {M M' : SM} (h : M'.log = M.log) (q : Nat) : M'.ents q = M.ents q := by unfold SM.ents SM.nodeAt; rw [h]
theorem spine_log {M M' : SM} (hl : M'.log = M.log) : ∀ (h : Nat) (p : Int), spine M' h p = spine M h p
  | 0, _ => rfl
  | h + 1, p => by unfold spine; rw [ents_log hl, spine_log hl h]
def AscSt (M : SM) (root : Int) (l : List (Int × Int)) (k : Nat) : Prop := (k = 0 ∧ root = -1 ∧ l = []) ∨ (0 < k ∧ ∃ h, Tr 3 M h root l ∧ spine M h root = spK k)
theorem asc_put {s : Nat} {M : SM} {root : Int} {l : List (Int × Int)} {k : Nat} (h : OneTree Clean s [0] M root l k) (hs : 100 ≤ s) (hA : AscSt M root l k) (hk : k + 1 ≤ 150) {key : Int} (k0 : 0 ≤ key) (k1 : key < 64) (hmax : ∀ y ∈ l, y.1 < key)
    (h2 : OneTree Clean s [0] ((M.put root key 0).1.swap root (M.put root key 0).2.1).1 (M.put root key 0).2.1 (putL l (key, 0)) (k + 1)) :
    AscSt ((M.put root key 0).1.swap root (M.put root key 0).2.1).1 (M.put root key 0).2.1 (putL l (key, 0)) (k + 1) := by
  have hx : M.pool.heldB 0 = true := by
    have := (h.data 0 (List.mem_singleton.2 rfl)).1
    rw [show (0 : Int) = ((0 : Nat) : Int) from rfl, heldB_nat]
    exact this
  have hr : ∃ hh, Rooted 3 M root l hh ∧ hh ≤ 8 ∧ ((root = -1 ∧ k = 0) ∨ (root ≠ -1 ∧ 0 < k ∧ spine M hh root = spK k)) := by
    rcases hA with ⟨e1, e2, e3⟩ | ⟨e1, hh, t, e2⟩
    · exact ⟨0, .inl ⟨e2, e3, rfl⟩, by omega, .inl ⟨e2, e1⟩⟩
    · exact ⟨hh, .inr t, by have := tr_high t h.good; omega, .inr ⟨fun e => by have := (heldB_int t.held).1; omega, e1, e2⟩⟩
  obtain ⟨hh, hr, h8, hsp⟩ := hr
  obtain ⟨r1, r2⟩ := h.room clean_besides (by omega)
  have hext : ∀ q, extB [0] root q ≤ 2 := fun q => by
    unfold extB
    have : [0].count q ≤ 1 := List.count_le_length
    split <;> omega
  have h5 : hh ≤ 4 := by
    rcases hr with ⟨_, _, e⟩ | t
    · omega
    · exact tr_high t h.good
  rcases put_ok (m := 3) (by decide) h.exact hr h8 h.good h.loose hx k0 k1 with ⟨e, T⟩ | ⟨_, e, hf⟩ | ⟨_, e, c, hc⟩
  · right
    refine ⟨by omega, ?_⟩
    have hT : ∃ h', Tr 3 (M.put root key 0).1 h' (M.put root key 0).2.1 (putL l (key, 0)) ∧ spine (M.put root key 0).1 h' (M.put root key 0).2.1 = spK (k + 1) := by
      rcases hsp with ⟨e1, e2⟩ | ⟨e1, e2, e3⟩
      · obtain ⟨h', t, e4⟩ := T.asc [1] (.inl ⟨e1, rfl⟩)
        exact ⟨h', t, by rw [e4, e2]; rfl⟩
      · obtain ⟨h', t, e4⟩ := T.asc _ (.inr ⟨e1, hmax, rfl⟩)
        refine ⟨h', t, ?_⟩
        rw [e4, e3]
        obtain ⟨j, rfl⟩ : ∃ j, k = j + 1 := ⟨k - 1, by omega⟩
        rfl
    obtain ⟨h', t, e4⟩ := hT
    have hlog := swap_log (M.put root key 0).1 root (M.put root key 0).2.1
    have hheld : ((M.put root key 0).1.swap root (M.put root key 0).2.1).1.pool.heldB (M.put root key 0).2.1 = true := by
      rcases h2.root with ⟨e1, _⟩ | ⟨_, t2, _⟩
      · have := (heldB_int t.held).1; omega
      · exact t2.held
    exact ⟨h', Tr.stays h2.exact hlog t hheld, by rw [spine_log hlog]; exact e4⟩
  · rw [List.length_singleton] at r1
    exfalso; omega
  · exfalso; have := hext c; omega
theorem adj_ge : ∀ {l : List Nat}, (∀ x ∈ l, 3 ≤ x) → AdjN l
  | [], _ => trivial
  | [_], _ => trivial
  | x :: y :: r, h => ⟨.inl ⟨h x (List.mem_cons_self ..), h y (List.mem_cons_of_mem _ (List.mem_cons_self ..))⟩, adj_ge fun z hz => h z (List.mem_cons_of_mem _ hz)⟩
/-- A tree of three heights at most, dense below the root. -/
def DenseAt (M : SM) (root : Int) (l : List (Int × Int)) : Prop :=
  (root = -1 ∧ l = []) ∨ ∃ h, Tr 1 M h root l ∧ h ≤ 3 ∧ (h = 3 → 2 ≤ (M.ents root.toNat).length ∧ AdjN (sizesE M (M.ents root.toNat)))
theorem asc_dense {M : SM} {root : Int} {l : List (Int × Int)} (h : AscSt M root l 64) : DenseAt M root l := by
  rcases h with ⟨h, _⟩ | ⟨_, hh, t, e⟩
  · omega
  · rw [spK_64] at e
    have hl : hh = 3 := by have := spine_len M hh root; rw [e] at this; exact this.symm
    subst hl
    refine .inr ⟨3, t.cast, Nat.le_refl _, fun _ => ⟨?_, ?_⟩⟩
    · have : (spine M 3 root).headD 0 = (M.ents root.toNat).length := rfl
      rw [e] at this
      rw [← this]; decide
    · obtain ⟨_, n, hn, _, k⟩ := t
      rcases k with ⟨h0, _⟩ | ⟨_, _, hK⟩
      · exact absurd h0 (by decide)
      · rw [ents_of hn]
        refine adj_ge fun x hx => ?_
        unfold sizesE at hx
        obtain ⟨e, he, rfl⟩ := List.mem_map.1 hx
        obtain ⟨a, ha, _⟩ := hK.each e he
        exact ha.2
theorem sizes_log {M M' : SM} (h : M'.log = M.log) (es : List (Int × Int)) : sizesE M' es = sizesE M es := by
  unfold sizesE SM.entN
  exact List.map_congr_left fun e _ => by rw [ents_log h]
theorem dense_cut {s : Nat} {M : SM} {root : Int} {l : List (Int × Int)} {P : Nat} (h : OneTree Clean s [0] M root l P) (hs : 100 ≤ s) (hP : P ≤ 150) (hD : DenseAt M root l) {key : Int} (k0 : 0 ≤ key) (k1 : key < 64) (hw : (M.cut root key).2.2.1 = true)
    (h2 : OneTree Clean s [0] ((M.cut root key).1.swap root (M.cut root key).2.1).1 (M.cut root key).2.1 (cutL l key) P) :
    DenseAt ((M.cut root key).1.swap root (M.cut root key).2.1).1 (M.cut root key).2.1 (cutL l key) := by
  rcases hD with ⟨rfl, rfl⟩ | ⟨hh, t, h3, hd⟩
  · unfold SM.cut at hw
    rw [if_neg (by omega), if_pos rfl] at hw
    cases hw
  · obtain ⟨hh, rfl⟩ : ∃ i, hh = i + 1 := ⟨hh - 1, by have := tr_pos t; omega⟩
    obtain ⟨r1, r2⟩ := h.room clean_besides hP
    have hext : ∀ q, extB [0] root q ≤ 2 := fun q => by
      unfold extB
      have : [0].count q ≤ 1 := List.count_le_length
      split <;> omega
    rcases cut_ok (key := key) h.exact t (by omega) h.good h.loose k0 k1 with ⟨e, _⟩ | ⟨_, _, T⟩ | ⟨e, hf⟩ | ⟨e, c, hc⟩
    · rw [e] at hw; cases hw
    · have hlog := swap_log (M.cut root key).1 root (M.cut root key).2.1
      rcases T.tr with hz | ⟨h', hle, t', _, hd'⟩
      · exact .inl hz
      · right
        have hheld : ((M.cut root key).1.swap root (M.cut root key).2.1).1.pool.heldB (M.cut root key).2.1 = true := by
          rcases h2.root with ⟨e1, _⟩ | ⟨_, t2, _⟩
          · have := (heldB_int t'.held).1; omega
          · exact t2.held
        refine ⟨h', Tr.stays h2.exact hlog t' hheld, by omega, fun e => ?_⟩
        rw [ents_log hlog, sizes_log hlog]
        obtain ⟨d1, d2⟩ := hd (by omega)
        obtain ⟨e1, e2⟩ := hd' (by omega) (by omega)
        exact ⟨e1, e2 d2⟩
    · rw [List.length_singleton] at r1
      exfalso; omega
    · exfalso; have := hext c; omega
theorem kids_len {T : Int → List (Int × Int) → Prop} {f : Int → Nat} (hT : ∀ q a, T q a → f q ≤ a.length) : ∀ {es l : List (Int × Int)}, Kids T es l → (es.map fun e => f e.2).sum ≤ l.length
  | [], _, _ => Nat.zero_le _
  | e :: es, _, ⟨a, b, x, h1, h2, _, _, h5⟩ => by
    have i1 := hT _ _ h2
    have i2 := kids_len hT h5
    rw [List.map_cons, List.sum_cons, h1, List.length_append]
    omega
theorem tr_ge {m : Nat} {M : SM} : ∀ {h : Nat} {p : Int} {l : List (Int × Int)}, Tr m M h p l → M.entN p ≤ l.length ∧ 1 ≤ M.entN p
  | 0, _, _, t => t.elim
  | h + 1, p, l, ⟨hp, n, hn, hok, k⟩ => by
    have hin := innerOk_of hok (by have := k.kind; omega)
    rw [entN_of hn]
    refine ⟨?_, hin.pos⟩
    rcases k with ⟨_, _, hl⟩ | ⟨_, _, hK⟩
    · rw [hl]; exact Nat.le_refl _
    · have := kids_len (f := fun _ => 1) (fun q a ha => Nat.le_trans (tr_ge ha.1).2 (tr_ge ha.1).1) hK
      have e : ∀ es : List (Int × Int), (es.map fun _ => 1).sum = es.length := fun es => by
        induction es with
        | nil => rfl
        | cons e es ih => rw [List.map_cons, List.sum_cons, ih, List.length_cons]; omega
      rw [e] at this
      exact this
theorem dense_count {s : Nat} {M : SM} {root : Int} {l : List (Int × Int)} {P : Nat} (h : OneTree Clean s [0] M root l P) (hD : DenseAt M root l) : s ≤ M.pool.freeCount + 1 + (l.length + l.length / 2 + 1) := by
  have c1 := clean_free h.kk
  rw [h.size] at c1
  rcases hD with ⟨rfl, rfl⟩ | ⟨hh, t, h3, hd⟩
  · have hall := reach_all h.exact h.loose (L := [0]) (fun q _ hq => by
      unfold extB at hq
      rw [if_neg (by omega), Nat.add_zero] at hq
      exact List.count_pos_iff.1 hq) (fun q hq x hx => by
      obtain ⟨_, d, hd, _, he⟩ := h.data q hq
      rw [ents_of hd, he] at hx
      cases hx)
    have c2 := liveN_list hall
    rw [List.length_singleton] at c2
    omega
  · have c2 := liveN_list (h.all_live t)
    rw [List.length_append, List.length_singleton] at c2
    have hlen := tr_ge t
    have key : (pagesF M hh root).length ≤ l.length + l.length / 2 + 1 := by
      have hcase : hh = 1 ∨ hh = 2 ∨ hh = 3 := by have := tr_pos t; omega
      rcases hcase with rfl | rfl | rfl
      · show 1 ≤ _; omega
      · have : (pagesF M 2 root).length = 1 + (M.ents root.toNat).length := by
          show (root.toNat :: (M.ents root.toNat).flatMap fun e => [e.2.toNat]).length = _
          rw [List.length_cons]
          have : ∀ es : List (Int × Int), (es.flatMap fun e => [e.2.toNat]).length = es.length := fun es => by
            induction es with
            | nil => rfl
            | cons e es ih => rw [List.flatMap_cons, List.length_append, ih]; simp; omega
          rw [this]; omega
        rw [this]
        have h1 : M.entN root = (M.ents root.toNat).length := rfl
        omega
      · obtain ⟨d1, d2⟩ := hd rfl
        have e1 : (pagesF M 3 root).length = 1 + ((M.ents root.toNat).length + (sizesE M (M.ents root.toNat)).sum) := by
          show (root.toNat :: (M.ents root.toNat).flatMap fun e => pagesF M 2 e.2).length = _
          rw [List.length_cons]
          have : ∀ es : List (Int × Int), (es.flatMap fun e => pagesF M 2 e.2).length = es.length + (sizesE M es).sum := fun es => by
            induction es with
            | nil => rfl
            | cons e es ih =>
              have e2 : (pagesF M 2 e.2).length = 1 + M.entN e.2 := by
                show (e.2.toNat :: (M.ents e.2.toNat).flatMap fun e => [e.2.toNat]).length = _
                rw [List.length_cons]
                have : ∀ es : List (Int × Int), (es.flatMap fun e => [e.2.toNat]).length = es.length := fun es => by
                  induction es with
                  | nil => rfl
                  | cons e es ih => rw [List.flatMap_cons, List.length_append, ih]; simp; omega
                rw [this]
                show (M.ents e.2.toNat).length + 1 = 1 + (M.ents e.2.toNat).length
                omega
              have e3 : (sizesE M (e :: es)).sum = M.entN e.2 + (sizesE M es).sum := by unfold sizesE; rw [List.map_cons, List.sum_cons]
              rw [List.flatMap_cons, List.length_append, ih, e2, e3, List.length_cons]
              omega
          rw [this]; omega
        rw [e1]
        obtain ⟨_, n, hn, hok, k⟩ := t
        rcases k with ⟨h0, _⟩ | ⟨_, _, hK⟩
        · exact absurd h0 (by decide)
        · rw [ents_of hn] at d1 d2 ⊢
          have h1 : (sizesE M n.ents).sum ≤ l.length := kids_len (f := fun q => M.entN q) (fun q a ha => (tr_ge ha.1).1) hK
          have h2 := adj_sum d2 (fun x hx => by
            unfold sizesE at hx
            obtain ⟨e, he, rfl⟩ := List.mem_map.1 hx
            obtain ⟨a, ha, _⟩ := hK.each e he
            exact (tr_ge ha.1).2) (by intro e; have := congrArg List.length e; unfold sizesE at this; rw [List.length_map] at this; simp at this; rw [this] at d1; simp at d1)
          have h3 : (sizesE M n.ents).length = n.ents.length := by unfold sizesE; rw [List.length_map]
          omega
    omega
end Go.Proofs.YthmjcbmeiabbgaaGreat
/-
  Exactly what is needed is there, plain: behind Tidy, as many pages are taken as a tree's nodes are, and the blocks.
-/
namespace Go.Proofs.YthmjcbmeiabbgaaGreat
open Go.RowKit

theorem ints_cell {w : World} {Av : Option Addr} {n cap : Nat} {l : List Int} (h : SliceAt w (.slice Av n cap) 1 l.length (l.map (Value.int .i64))) {i : Nat} {x : Int} (hx : l[i]? = some x) :
    ∃ b off, Av = some ⟨b, off, none⟩ ∧ b < w.heap.size ∧ w.cell? ⟨b, off + i, none⟩ = some (.int .i64 x) := by
  have hi : i < l.length := (List.getElem?_eq_some_iff.1 hx).1
  obtain ⟨_, A', cap', hv, h1, h2, h3⟩ := id h
  injection hv with e1 e2 e3
  subst e2
  obtain ⟨b, off, hA, hb, hc⟩ := SliceAt.elem h hi (by decide)
  refine ⟨b, off, hA, hb, ?_⟩
  have := hc 0 (.int .i64 x) (by decide) (by simp [hx])
  simpa using this
def SM.tidy (M : SM) : SM := ⟨M.pool.turned 3 0, M.log⟩
/-- No page goes. -/
def Mild (M : SM) : Prop := ∀ q, M.pool.st q ≤ 3
theorem tidy_live (M : SM) (q : Nat) : M.tidy.live q = M.live q := by
  unfold SM.tidy SM.live PM.live PM.turned
  dsimp only
  by_cases h : M.pool.st q = 3
  · simp [h]
  · simp [h]
theorem tidy_size (M : SM) : M.tidy.pool.size = M.pool.size := rfl
theorem tidy_node (M : SM) (q : Nat) : M.tidy.nodeAt q = M.nodeAt q := rfl
theorem tidy_grown (M : SM) : Grown M M.tidy := ⟨rfl, fun q h => by rw [tidy_live]; exact h, fun _ _ => rfl⟩
theorem tidy_free {M : SM} (h : Mild M) : M.tidy.pool.freeCount + M.tidy.liveN = M.pool.size := by
  unfold PM.freeCount SM.liveN
  rw [freeN_sum, ← sumN_add]
  have : ∀ n, n ≤ M.pool.size → sumN (fun i => (if M.tidy.pool.freeB i then 1 else 0) + if M.tidy.live i then 1 else 0) n = n := by
    intro n
    induction n with
    | zero => intro _; rfl
    | succ n ih =>
      intro hn
      unfold sumN
      rw [ih (by omega)]
      have hq := h n
      have e : M.tidy.pool.freeB n = !M.tidy.live n := by
        unfold SM.tidy SM.live PM.live PM.turned PM.freeB
        dsimp only
        have hlt : n < M.pool.size := by omega
        have hs : M.pool.st n = 0 ∨ M.pool.st n = 1 ∨ M.pool.st n = 2 ∨ M.pool.st n = 3 := by omega
        by_cases hc : M.pool.cnt n = 0
        · rcases hs with hs | hs | hs | hs <;> simp [hs, hlt, hc]
        · have hc' : 0 < M.pool.cnt n := by omega
          rcases hs with hs | hs | hs | hs <;> simp [hs, hlt, hc, hc']
      rw [e]
      cases M.tidy.live n <;> simp
  exact this _ (Nat.le_refl _)
/-- A tree's pages are no blocks. -/
theorem pages_kind {m : Nat} {M : SM} : ∀ {h : Nat} {p : Int} {l : List (Int × Int)}, Tr m M h p l → ∀ q ∈ pagesF M h p, ∃ n, M.nodeAt q = some n ∧ n.kind ≠ 1
  | 0, _, _, t, _, _ => t.elim
  | h + 1, p, l, ⟨hp, n, hn, hok, k⟩, q, hq => by
    have he := ents_of hn
    unfold pagesF at hq
    rcases List.mem_cons.1 hq with rfl | hq
    · refine ⟨n, hn, ?_⟩
      rcases k with ⟨_, hk, _⟩ | ⟨_, hk, _⟩ <;> rw [hk] <;> decide
    · rcases k with ⟨h0, _, hl⟩ | ⟨h0, _, hK⟩
      · rw [if_pos h0] at hq
        cases hq
      · rw [if_neg (by omega), List.mem_flatMap] at hq
        obtain ⟨e, hee, hq⟩ := hq
        rw [he] at hee
        obtain ⟨a, ha, _⟩ := hK.each e hee
        exact pages_kind ha.1 q hq
/-- Is a page's node none of a block's? -/
def SM.innerB (M : SM) (x : Int) : Bool := match M.nodeAt x.toNat with | some n => decide (n.kind ≠ 1) | none => false
theorem OneTree.tidy {K : SM → Prop} {s : Nat} {bl : List Nat} {M : SM} {root : Int} {l : List (Int × Int)} {P : Nat} (h : OneTree K s bl M root l P) : OneTree (fun _ => True) s bl M.tidy root l P := by
  refine ⟨exact_same h.exact rfl (fun _ => rfl) (tidy_live M) (fun _ _ => rfl), h.size, trivial, fun b hb => ?_, h.keys, ?_, fun q hq hc => h.loose q (by rw [← tidy_live]; exact hq) hc⟩
  · obtain ⟨a, d⟩ := h.data b hb
    exact ⟨by rw [tidy_live]; exact a, d⟩
  · rcases h.root with e | ⟨k, t, j⟩
    · exact .inl e
    · exact .inr ⟨k, Tr.grown (tidy_grown M) t, Led.grown (tidy_grown M) t j⟩
/-- What exact asks. -/
theorem exact_count {K : SM → Prop} {s : Nat} {bl : List Nat} {M : SM} {root : Int} {l : List (Int × Int)} {P : Nat} (h : OneTree K s bl M root l P) (hm : Mild M) (hb : bl.Nodup) :
    ∃ L, M.tidy.reach [root] = (L, 0) ∧ (∀ x ∈ L, ∃ n, M.tidy.get x = (n, 0) ∧ M.innerB x = decide (n.kind ≠ 1)) ∧ M.tidy.pool.freeCount + (L.countP M.innerB + bl.length) = s ∧ L.length ≤ M.pool.size := by
  have T := h.tidy
  have hr : ∀ r ∈ [root], r = -1 ∨ M.tidy.pool.heldB r = true := fun r hr => by
    rw [List.mem_singleton] at hr
    subst hr
    rcases T.root with ⟨e, _⟩ | ⟨k, t, _⟩
    · exact .inl e
    · exact .inr t.held
  obtain ⟨L, e, R⟩ := reach_ok T.exact hr
  refine ⟨L, e, fun x hx => ?_, ?_, ?_⟩
  · obtain ⟨n, hn, _, hg⟩ := get_live T.exact (R.live x hx)
    refine ⟨n, hg, ?_⟩
    unfold SM.innerB
    rw [show M.nodeAt x.toNat = some n from hn]
  · have hbl : ∀ b ∈ bl, M.innerB (b : Int) = false := fun b hb => by
      obtain ⟨_, d, hd, hk, _⟩ := h.data b hb
      unfold SM.innerB
      rw [Int.toNat_natCast, hd]
      simp [hk]
    have hout : ∀ q, M.live q = true → q ∈ bl ∨ ((q : Int) ∈ L ∧ M.innerB (q : Int) = true) := fun q hq => by
      by_cases hqb : q ∈ bl
      · exact .inl hqb
      · right
        rcases h.root with ⟨he, hl0⟩ | ⟨k, t, j⟩
        · have := reach_all h.exact h.loose (L := bl) (fun q _ hq => by
            unfold extB at hq
            rw [if_neg (by omega), Nat.add_zero] at hq
            exact List.count_pos_iff.1 hq) (fun q hq x hx => by
            obtain ⟨_, d, hd, _, hde⟩ := h.data q hq
            rw [ents_of hd, hde] at hx
            cases hx) q hq
          exact absurd this hqb
        · have hp : q ∈ pagesF M k root := (List.mem_append.1 (h.all_live t q hq)).resolve_left hqb
          obtain ⟨n, hn, hk⟩ := pages_kind t q hp
          refine ⟨?_, by unfold SM.innerB; rw [Int.toNat_natCast, hn]; simp [hk]⟩
          have hin := reach_all T.exact T.loose (L := bl ++ L.map Int.toNat) (fun q _ hq => by
            unfold extB at hq
            by_cases e : (q : Int) = root
            · exact List.mem_append_right _ (List.mem_map.2 ⟨q, R.next _ (List.mem_singleton.2 e) (by omega), Int.toNat_natCast q⟩)
            · rw [if_neg e, Nat.add_zero] at hq
              exact List.mem_append_left _ (List.count_pos_iff.1 hq)) (fun q hq x hx => by
            rcases List.mem_append.1 hq with hq | hq
            · obtain ⟨_, d, hd, _, hde⟩ := T.data q hq
              rw [ents_of hd, hde] at hx
              cases hx
            · obtain ⟨y, hy, rfl⟩ := List.mem_map.1 hq
              exact List.mem_append_right _ (List.mem_map.2 ⟨x.2, R.kids y hy x hx, rfl⟩)) q (by rw [tidy_live]; exact hq)
          obtain ⟨y, hy, hye⟩ := List.mem_map.1 ((List.mem_append.1 hin).resolve_left hqb)
          have h0 := (heldB_int (R.live y hy)).1
          rw [show (q : Int) = y by omega]
          exact hy
    have hnd : (bl ++ (L.filter M.innerB).map Int.toNat).Nodup := by
      rw [List.nodup_append]
      refine ⟨hb, ?_, fun a ha b hbm hab => ?_⟩
      · rw [List.nodup_iff_pairwise_ne, List.pairwise_map]
        refine (R.nodup.filter _).imp_of_mem fun ha hb hne => ?_
        have h0 := (heldB_int (R.live _ (List.mem_filter.1 ha).1)).1
        have h1 := (heldB_int (R.live _ (List.mem_filter.1 hb).1)).1
        omega
      · obtain ⟨y, hy, hye⟩ := List.mem_map.1 hbm
        obtain ⟨hy1, hy2⟩ := List.mem_filter.1 hy
        have h0 := (heldB_int (R.live y hy1)).1
        have := hbl a ha
        rw [show (a : Int) = y by omega, hy2] at this
        exact absurd this (by decide)
    have hsum := sum_list_eq (f := fun _ => 1) (bl ++ (L.filter M.innerB).map Int.toNat) M.tidy.live M.tidy.pool.size hnd
      (fun q hq => by
        have hl : M.tidy.live q = true := by
          rcases List.mem_append.1 hq with hq | hq
          · exact (T.data q hq).1
          · obtain ⟨y, hy, rfl⟩ := List.mem_map.1 hq
            exact (heldB_int (R.live y (List.mem_filter.1 hy).1)).2
        exact ⟨live_lt hl, hl⟩)
      (fun q _ hq => by
        rw [tidy_live] at hq
        rcases hout q hq with hq | ⟨h1, h2⟩
        · exact List.mem_append_left _ hq
        · exact List.mem_append_right _ (List.mem_map.2 ⟨q, List.mem_filter.2 ⟨h1, h2⟩, Int.toNat_natCast q⟩))
    have hone : ∀ L : List Nat, (L.map fun _ => 1).sum = L.length := fun L => by
      induction L with
      | nil => rfl
      | cons a L ih => rw [List.map_cons, List.sum_cons, ih, List.length_cons]; omega
    have hfree := tidy_free hm
    rw [hone, List.length_append, List.length_map, ← List.countP_eq_length_filter] at hsum
    have : M.tidy.liveN = bl.length + L.countP M.innerB := hsum
    have := h.size
    omega
  · have hn : (L.map Int.toNat).Nodup := by
      rw [List.nodup_iff_pairwise_ne, List.pairwise_map]
      refine R.nodup.imp_of_mem fun ha hb hne => ?_
      have h0 := (heldB_int (R.live _ ha)).1
      have h1 := (heldB_int (R.live _ hb)).1
      omega
    have hsub : (L.map Int.toNat) ⊆ List.range M.pool.size := fun q hq => by
      obtain ⟨y, hy, rfl⟩ := List.mem_map.1 hq
      rw [List.mem_range]
      exact live_lt (M := M.tidy) (heldB_int (R.live y hy)).2
    have := List.Nodup.length_le_of_subset hn hsub
    rw [List.length_map, List.length_range] at this
    exact this
end Go.Proofs.YthmjcbmeiabbgaaGreat
