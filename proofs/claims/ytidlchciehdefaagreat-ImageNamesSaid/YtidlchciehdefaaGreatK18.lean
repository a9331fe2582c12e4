/-
  One tree in a store, plain: how many pages it has, by its ledger.
-/
import Derived.Test.YtidlchciehdefaaGreatK03
import Derived.Test.YtidlchciehdefaaGreatK16
import Derived.Test.YtidlchciehdefaaGreatK17
set_option linter.unusedVariables false
set_option linter.unusedSimpArgs false
namespace Go.Proofs.YtidlchciehdefaaGreat
open Go.RowKit

theorem Tr.cast {m : Nat} {M : SM} : ∀ {h : Nat} {p : Int} {l : List (Int × Int)}, Tr m M h p l → Tr 1 M h p l
  | 0, _, _, t => t.elim
  | h + 1, p, l, ⟨hp, n, hna, hok, k⟩ => ⟨hp, n, hna, hok, k.mono fun e _ a ha => ⟨Tr.cast ha.1, by
      cases h with
      | zero => exact ha.1.elim
      | succ h =>
        obtain ⟨_, n', hn', hok', k'⟩ := ha.1
        rw [entN_of hn']
        exact (innerOk_of hok' (by have := k'.kind; omega)).pos⟩⟩
theorem tr_ents {m : Nat} {M : SM} {h : Nat} {p : Int} {l : List (Int × Int)} (t : Tr m M (h + 1) p l) : 1 ≤ (M.ents p.toNat).length ∧ (M.ents p.toNat).length ≤ 6 := by
  obtain ⟨_, n, hn, hok, k⟩ := t
  have := innerOk_of hok (by have := k.kind; omega)
  rw [ents_of hn]
  exact ⟨this.pos, this.le⟩
/-- A tree's ledger bounds its height. -/
theorem led_high {m : Nat} {M : SM} {h : Nat} {p : Int} {l : List (Int × Int)} {s : Nat} (t : Tr m M (h + 1) p l) (k : Led M (h + 1) p s) (h0 : 0 < h) : 3 ^ h ≤ s := by
  rcases k with ⟨hz, _⟩ | ⟨_, hK⟩
  · omega
  · have h1 := (tr_ents t).1
    cases he : M.ents p.toNat with
    | nil => rw [he] at h1; simp at h1
    | cons e es =>
      rw [he] at hK
      obtain ⟨t, u, h2, h3, _⟩ := hK
      have := h3.1
      omega
theorem pages_cnt {M : SM} : ∀ (h : Nat) (p : Int), (pagesF M h p).length = sumN (fun j => cntL M (j + 1) h p) h
  | 0, _ => rfl
  | h + 1, p => by
    unfold pagesF sumN
    have e1 : cntL M (h + 1) (h + 1) p = 1 := by
      unfold cntL
      rw [if_pos rfl]
      split
      · rfl
      · have : ∀ es : List (Int × Int), (es.map fun e => cntL M (h + 1) h e.2).sum = 0 := fun es => by
          induction es with
          | nil => rfl
          | cons e es ih => rw [List.map_cons, List.sum_cons, ih, cntL_low (by omega)]
        rw [this]
    rw [e1, List.length_cons]
    by_cases h0 : h = 0
    · subst h0; rfl
    · rw [if_neg h0]
      have e2 : sumN (fun j => cntL M (j + 1) (h + 1) p) h = sumN (fun j => ((M.ents p.toNat).map fun e => cntL M (j + 1) h e.2).sum) h := sumN_congr fun j hj => by
        conv => lhs; unfold cntL
        rw [if_neg (by omega), if_neg h0, Nat.zero_add]
      rw [e2]
      have e3 : ∀ es : List (Int × Int), (es.flatMap fun e => pagesF M h e.2).length = sumN (fun j => (es.map fun e => cntL M (j + 1) h e.2).sum) h := fun es => by
        induction es with
        | nil => exact (sumN_zero (fun _ _ => rfl)).symm
        | cons e es ih =>
          have e4 : sumN (fun j => ((e :: es).map fun e => cntL M (j + 1) h e.2).sum) h = sumN (fun j => cntL M (j + 1) h e.2) h + sumN (fun j => (es.map fun e => cntL M (j + 1) h e.2).sum) h := by
            rw [← sumN_add]
            exact sumN_congr fun j _ => by rw [List.map_cons, List.sum_cons]
          rw [e4, ← ih, ← pages_cnt h e.2, List.flatMap_cons, List.length_append]
      rw [e3]
/-- How many pages at most: of at most 150 puts. -/
theorem led_pages {m : Nat} {M : SM} {h : Nat} {p : Int} {l : List (Int × Int)} {s : Nat} (t : Tr m M h p l) (k : Led M h p s) (hs : s ≤ 150) : h ≤ 5 ∧ (pagesF M h p).length ≤ 73 ∧ 2 * (pagesF M h p).length ≤ s + 3 := by
  have h5 : h ≤ 5 := by
    cases h with
    | zero => exact Nat.zero_le _
    | succ h =>
      by_cases h0 : 0 < h
      · have := led_high t k h0
        refine Classical.byContradiction fun hn => ?_
        have h2 : 3 ^ 5 ≤ 3 ^ h := Nat.pow_le_pow_right (by decide) (by omega)
        have : (3 : Nat) ^ 5 = 243 := by decide
        omega
      · omega
  refine ⟨h5, ?_⟩
  rw [pages_cnt]
  have hc : ∀ j, j < h → 3 ^ j * cntL M j h p ≤ s := fun j hj => led_cnt k hj
  have ht : cntL M h h p ≤ 1 := by
    cases h with
    | zero => exact Nat.zero_le _
    | succ h =>
      unfold cntL
      rw [if_pos rfl]
      split
      · exact Nat.le_refl _
      · have : ∀ es : List (Int × Int), (es.map fun e => cntL M (h + 1) h e.2).sum = 0 := fun es => by
          induction es with
          | nil => rfl
          | cons e es ih => rw [List.map_cons, List.sum_cons, ih, cntL_low (by omega)]
        rw [this]
        exact Nat.le_refl _
  have d1 := hc 1
  have d2 := hc 2
  have d3 := hc 3
  have d4 := hc 4
  have e2 : (3 : Nat) ^ 2 = 9 := by decide
  have e3 : (3 : Nat) ^ 3 = 27 := by decide
  have e4 : (3 : Nat) ^ 4 = 81 := by decide
  rw [Nat.pow_one] at d1
  rw [e2] at d2
  rw [e3] at d3
  rw [e4] at d4
  have hcase : h = 0 ∨ h = 1 ∨ h = 2 ∨ h = 3 ∨ h = 4 ∨ h = 5 := by omega
  rcases hcase with rfl | rfl | rfl | rfl | rfl | rfl
  · simp [sumN]
  · simp only [sumN, Nat.zero_add, Nat.reduceAdd]; omega
  · have := d1 (by decide)
    simp only [sumN, Nat.zero_add, Nat.reduceAdd]; omega
  · have := d1 (by decide); have := d2 (by decide)
    simp only [sumN, Nat.zero_add, Nat.reduceAdd]; omega
  · have := d1 (by decide); have := d2 (by decide); have := d3 (by decide)
    simp only [sumN, Nat.zero_add, Nat.reduceAdd]; omega
  · have := d1 (by decide); have := d2 (by decide); have := d3 (by decide); have := d4 (by decide)
    simp only [sumN, Nat.zero_add, Nat.reduceAdd]; omega
/-- A tree's nodes have as many entries as there are keys and nodes below the root. -/
theorem pages_sum {m : Nat} {M : SM} : ∀ {h : Nat} {p : Int} {l : List (Int × Int)}, Tr m M h p l → entSum M (pagesF M h p) + 1 = l.length + (pagesF M h p).length
  | 0, _, _, t => t.elim
  | h + 1, p, l, ⟨hp, n, hn, hok, k⟩ => by
    have he := ents_of hn
    unfold pagesF
    rcases k with ⟨h0, _, hl⟩ | ⟨h0, _, hK⟩
    · rw [if_pos h0]
      unfold entSum
      simp only [List.map_cons, List.map_nil, List.sum_cons, List.sum_nil, List.length_cons, List.length_nil]
      rw [he, hl]
      omega
    · rw [if_neg (by omega), he]
      have key : ∀ (es l : List (Int × Int)), Kids (Sub m M h) es l → entSum M (es.flatMap fun e => pagesF M h e.2) + es.length = l.length + (es.flatMap fun e => pagesF M h e.2).length := by
        intro es
        induction es with
        | nil => intro l hl; rw [show l = [] from hl]; rfl
        | cons e es ih =>
          rintro l ⟨a, b, x, h1, h2, h3, h4, h5⟩
          have i1 := pages_sum h2.1
          have i2 := ih b h5
          rw [List.flatMap_cons, entSum_append, h1, List.length_append, List.length_append, List.length_cons]
          omega
      have i3 := key n.ents l hK
      have e1 : entSum M (p.toNat :: n.ents.flatMap fun e => pagesF M h e.2) = n.ents.length + entSum M (n.ents.flatMap fun e => pagesF M h e.2) := by
        unfold entSum
        rw [List.map_cons, List.sum_cons, he]
      rw [e1, List.length_cons]
      omega
end Go.Proofs.YtidlchciehdefaaGreat
/-
  Cutting, plain: a tree without a key.
-/
namespace Go.Proofs.YtidlchciehdefaaGreat
open Go.RowKit

theorem cutF_closed {Q : SM → Prop} (C : Closed Q) : ∀ (f : Nat) (M : SM) (root key : Int), Q M → Q (SM.cutF f M root key).1
  | 0, _, _, _, h => h
  | f + 1, M, root, key, h => by
    unfold SM.cutF
    dsimp only
    split
    · exact h
    · split
      · split <;> exact h
      · have hc := cutF_closed C f M ((M.tnode root (8 - f)).1.ents.getD (atI (M.tnode root (8 - f)).1.ents key).toNat (0, 0)).2 key h
        split
        · exact hc
        · split
          · split <;> exact C.split _ hc
          · exact hc
theorem cut_closed {Q : SM → Prop} (C : Closed Q) {M : SM} (root key : Int) (h : Q M) : Q (M.cut root key).1 := by
  have hc := cutF_closed C 9 M root key h
  unfold SM.cut
  split
  · exact h
  · split
    · exact h
    · dsimp only
      split
      · exact hc
      · split
        · exact hc
        · split
          · exact hc
          · split <;> exact C.split _ hc
/-- What a tree's new root leaves. -/
structure CutTop (M : SM) (ext : Nat → Nat) (h : Nat) (root key : Int) (l : List (Int × Int)) (M' : SM) (p : Int) : Prop where
  exact : Exact M' ext
  grown : Grown M M'
  sum : M'.sum ≤ M.sum + 6 * h + 6
  loose : Loose M' [((0 : Int), p)]
  had : ∃ y ∈ l, y.1 = key
  tr : (p = -1 ∧ cutL l key = []) ∨ ∃ h', h' ≤ h + 1 ∧ Tr 1 M' h' p (cutL l key) ∧ (∀ s, Led M (h + 1) root s → Led M' h' p s) ∧
    (h' = h + 1 → 0 < h → 2 ≤ (M'.ents p.toNat).length ∧ (AdjN (sizesE M (M.ents root.toNat)) → AdjN (sizesE M' (M'.ents p.toNat))))

theorem cut_ok {M : SM} {ext : Nat → Nat} (E : Exact M ext) {h : Nat} {root key : Int} {l : List (Int × Int)} (t : Tr 1 M (h + 1) root l) (h8 : h + 1 ≤ 8) (g : Good M l) (hl : Loose M []) (k0 : 0 ≤ key) (k1 : key < 64) :
    (M.cut root key = (M, root, false, 0) ∧ ∀ y ∈ l, y.1 ≠ key) ∨
      ((M.cut root key).2.2.2 = 0 ∧ (M.cut root key).2.2.1 = true ∧ CutTop M ext h root key l (M.cut root key).1 (M.cut root key).2.1) ∨
      ((M.cut root key).2.2.2 = 71 ∧ M.pool.freeCount < h + 1) ∨ ((M.cut root key).2.2.2 = 72 ∧ ∃ c, 255 < M.sum + 6 * h + 6 + ext c) := by
  have hne : root ≠ -1 := fun e => by have := (heldB_int t.held).1; omega
  have hc := cutF_ok (key := key) h 0 M l root (by omega) E t g
  rw [Nat.sub_zero] at hc
  unfold SM.cut
  rw [if_neg (by omega), if_neg hne]
  dsimp only
  obtain ⟨R, hR⟩ : ∃ R, SM.cutF 9 M root key = R := ⟨_, rfl⟩
  rw [hR] at hc ⊢
  obtain ⟨M1, n1, was, er⟩ := R
  dsimp only at hc ⊢
  rcases hc with ⟨e, hno⟩ | ⟨rfl, rfl, P⟩ | ⟨rfl, hf⟩ | ⟨rfl, c, hf⟩
  · injection e with e1 e2
    injection e2 with _ e2
    injection e2 with e2 e3
    subst e1 e2 e3
    rw [if_neg (by decide), if_pos rfl]
    exact .inl ⟨rfl, hno⟩
  · rw [if_neg (by decide), if_neg (by decide)]
    have a2 := P.sum
    have hhi := P.hi
    have hpe := P.entN
    have hL := P.loose [] hl
    rw [List.append_nil] at hL
    have g1 : Good M1 (cutL l key) := (g.cut key).grown P.grown
    by_cases hone : n1.kind = 3 ∧ n1.ents.length = 1
    · rw [if_pos hone]
      obtain ⟨hk, h1⟩ := hone
      cases he : n1.ents with
      | nil => rw [he] at h1; simp at h1
      | cons e es =>
        have hes : es = [] := by rw [he] at h1; exact List.eq_nil_of_length_eq_zero (by simpa using h1)
        subst hes
        have hK := P.tr
        rcases hK with ⟨_, hk2, _⟩ | ⟨h0, _, hK⟩
        · omega
        · rw [he] at hK hL
          obtain ⟨a, b, x, hab, hT, _, _, hb⟩ := hK
          rw [show b = [] from hb, List.append_nil] at hab
          refine .inr (.inl ⟨rfl, rfl, P.exact, P.grown, by show M1.sum ≤ _; omega, ?_, P.had, .inr ⟨h, Nat.le_succ _, ?_, fun s hs => ?_, fun e => by omega⟩⟩)
          · intro q hq hc
            obtain ⟨y, hy, hye⟩ := hL q hq hc
            rw [List.mem_singleton] at hy
            subst hy
            exact ⟨_, List.mem_singleton.2 rfl, hye⟩
          · show Tr 1 M1 h e.2 (cutL l key)
            rw [hab]; exact hT.1
          · have := P.led s hs
            rw [he] at this
            rcases this with ⟨hz, _⟩ | ⟨_, t, u, h2, h3, _⟩
            · omega
            · show Led M1 h e.2 s
              exact h3.2.weak (by omega)
    · rw [if_neg hone]
      by_cases hz : n1.ents.length = 0
      · rw [split_none hz]
        dsimp only
        rw [if_pos (.inr rfl)]
        refine .inr (.inl ⟨rfl, rfl, P.exact, P.grown, by show M1.sum ≤ _; omega, ?_, P.had, .inl ⟨rfl, P.tr.nil hz⟩⟩)
        have : n1.ents = [] := List.eq_nil_of_length_eq_zero hz
        rw [this] at hL
        exact hL.mono fun y hy => by cases hy
      · have hsp := split_ok P.exact P.tr g1 (by omega) (by omega)
        obtain ⟨R, hR2⟩ : ∃ R, M1.split n1 = R := ⟨_, rfl⟩
        rw [hR2] at hsp ⊢
        obtain ⟨M2, out, er⟩ := R
        dsimp only at hsp ⊢
        rcases hsp with ⟨rfl, S⟩ | ⟨rfl, hf⟩ | ⟨rfl, c, hf⟩
        · have b2 := S.sum
          obtain ⟨k, i, ho, hT, _, _⟩ := S.one (by omega)
          rw [ho]
          rw [if_neg (by simp)]
          refine .inr (.inl ⟨rfl, rfl, S.exact, P.grown.trans S.grown, by show M2.sum ≤ _; omega, ?_, P.had, .inr ⟨h + 1, Nat.le_refl _, hT, fun s hs => ?_, fun _ h0 => ?_⟩⟩)
          · have := S.loose [] (by rw [List.append_nil]; exact hL)
            rw [ho] at this
            intro q hq hc
            obtain ⟨y, hy, he⟩ := this q hq hc
            rw [List.nil_append, List.mem_singleton] at hy
            subst hy
            exact ⟨_, List.mem_singleton.2 rfl, he⟩
          · have := (S.led s (P.led s hs)).1 (by omega)
            rw [ho] at this
            exact this _ (List.mem_cons_self ..)
          · obtain ⟨o, ho1, ho2⟩ := S.last
            obtain rfl : o = (k, (i : Int)) := by rw [ho] at ho1; simpa using ho1.symm
            rw [if_neg (by omega), List.drop_zero] at ho2
            show 2 ≤ (M2.ents (Int.toNat (i : Int))).length ∧ (_ → AdjN (sizesE M2 (M2.ents (Int.toNat (i : Int)))))
            rw [ho2]
            rcases P.tr with ⟨hz, _⟩ | ⟨_, hk3, hK⟩
            · omega
            · refine ⟨?_, fun hA => ?_⟩
              · have : ¬ n1.ents.length = 1 := fun e => hone ⟨hk3, e⟩
                omega
              · rw [sizes_grown S.grown (Kids.held (P := fun q => M1.pool.heldB q = true) (fun q a ha => ha.1.held) hK)]
                exact P.dense h0 hA
        · have a1 := P.free
          refine .inr (.inr (.inl ⟨?_, by rw [if_neg (by omega)] at hf; omega⟩))
          rw [if_pos (.inl (by decide))]
        · refine .inr (.inr (.inr ⟨?_, c, by omega⟩))
          rw [if_pos (.inl (by decide))]
  · rw [if_pos (by decide)]
    exact .inr (.inr (.inl ⟨rfl, by omega⟩))
  · rw [if_pos (by decide)]
    exact .inr (.inr (.inr ⟨rfl, c, by omega⟩))
end Go.Proofs.YtidlchciehdefaaGreat
/-
  Several trees in a store, plain: a change of one of them.
-/
namespace Go.Proofs.YtidlchciehdefaaGreat
open Go.RowKit

/-- A tree with entries, after so many puts at most. -/
structure TreeIn (m : Nat) (M : SM) (root : Int) (l : List (Int × Int)) (P : Nat) : Prop where
  root : (root = -1 ∧ l = []) ∨ ∃ h, Tr m M h root l ∧ Led M h root P
  keys : RisesK l ∧ ∀ y ∈ l, 0 ≤ y.1 ∧ y.1 < 64
theorem TreeIn.none (m : Nat) (M : SM) (P : Nat) : TreeIn m M (-1) [] P := ⟨.inl ⟨rfl, rfl⟩, List.Pairwise.nil, fun y hy => by cases hy⟩
section
variable {m : Nat} {M M' : SM} {ext : Nat → Nat} {root : Int} {l : List (Int × Int)} {P : Nat}
theorem TreeIn.held (t : TreeIn m M root l P) (E : Exact M ext) : ∀ y ∈ l, M.pool.heldB y.2 = true := fun y hy => by
  rcases t.root with ⟨_, el⟩ | ⟨h, t, _⟩
  · rw [el] at hy; cases hy
  · exact tr_held E t y hy
theorem TreeIn.good (t : TreeIn m M root l P) (E : Exact M ext) : Good M l := ⟨t.keys.1, fun y hy => ⟨(t.keys.2 y hy).1, (t.keys.2 y hy).2, t.held E y hy⟩⟩
theorem TreeIn.weak (t : TreeIn m M root l P) {P' : Nat} (h : P ≤ P') : TreeIn m M root l P' := ⟨t.root.imp id fun ⟨k, a, b⟩ => ⟨k, a, b.weak h⟩, t.keys⟩
theorem TreeIn.grown (t : TreeIn m M root l P) (g : Grown M M') : TreeIn m M' root l P := ⟨t.root.imp id fun ⟨k, a, b⟩ => ⟨k, Tr.grown g a, Led.grown g a b⟩, t.keys⟩
theorem TreeIn.len (t : TreeIn m M root l P) : l.length ≤ 64 := rises_len t.keys.1 t.keys.2
/-- A tree whose root is held still. -/
theorem TreeIn.stays (t : TreeIn m M root l P) (E : Exact M' ext) (hlog : M'.log = M.log) (hs : M'.pool.size = M.pool.size) (hr : root = -1 ∨ 0 < ext root.toNat) : TreeIn m M' root l P := by
  refine ⟨?_, t.keys⟩
  rcases t.root with e | ⟨h, t, k⟩
  · exact .inl e
  · have hh := t.held
    obtain ⟨h0, hl⟩ := heldB_int hh
    have hr' : 0 < ext root.toNat := by
      rcases hr with e | e
      · omega
      · exact e
    have hh' : M'.pool.heldB root = true := by
      have := ext_held E (p := root.toNat) (by rw [hs]; exact live_lt hl) hr'
      rw [Int.toNat_of_nonneg h0] at this
      exact this
    exact .inr ⟨h, Tr.stays E hlog t hh', Led.same (fun q _ => by unfold SM.nodeAt; rw [hlog]) t k⟩
theorem TreeIn.rooted (t : TreeIn m M root l P) (hP : P ≤ 150) : ∃ k, Rooted m M root l k ∧ k ≤ 5 ∧ (root = -1 ∨ Led M k root P) := by
  rcases t.root with ⟨e1, e2⟩ | ⟨k, t, j⟩
  · exact ⟨0, .inl ⟨e1, e2, rfl⟩, Nat.zero_le _, .inl e1⟩
  · exact ⟨k, .inr t, (led_pages t j hP).1, .inr j⟩
theorem TreeIn.list (t : TreeIn m M root l P) (hP : P ≤ 150) : M.list root = (l, 0) := by
  obtain ⟨k, hr, hk, _⟩ := t.rooted hP
  exact listR_ok hr (by omega)
end

/-- An entry stands in a leaf. -/
theorem tr_mem {m : Nat} {M : SM} : ∀ {h : Nat} {p : Int} {l : List (Int × Int)}, Tr m M h p l → ∀ y ∈ l, ∃ q, M.live q = true ∧ y ∈ M.ents q
  | 0, _, _, t, _, _ => t.elim
  | h + 1, p, l, ⟨hp, n, hn, _, k⟩, y, hy => by
    rcases k with ⟨_, _, hl⟩ | ⟨_, _, hK⟩
    · exact ⟨p.toNat, (heldB_int hp).2, by rw [ents_of hn, hl]; exact hy⟩
    · obtain ⟨e, _, a, ha, hya⟩ := hK.in y hy
      exact tr_mem ha.1 y hya
theorem ntr_mem {m : Nat} {M : SM} {h : Nat} {n : NM} {l : List (Int × Int)} (k : NTr (Sub m M h) h n l) : ∀ y ∈ l, y ∈ n.ents ∨ ∃ q, M.live q = true ∧ y ∈ M.ents q := fun y hy => by
  rcases k with ⟨_, _, hl⟩ | ⟨_, _, hK⟩
  · exact .inl (by rw [hl]; exact hy)
  · obtain ⟨e, _, a, ha, hya⟩ := hK.in y hy
    exact .inr (tr_mem ha.1 y hya)
theorem ref_pos {M : SM} {ext : Nat → Nat} (E : Exact M ext) {q : Nat} (hq : M.live q = true) {x : Int × Int} (hx : x ∈ M.ents q) : 0 < M.pool.cnt x.2.toNat := by
  have h1 := E.kids q hq x hx
  rw [E.cnt _ (live_lt h1)]
  unfold SM.refs
  have h2 := sumN_get (f := fun q => if M.live q then occ (M.ents q) x.2.toNat else 0) (live_lt hq)
  have h3 := occ_pos hx (E.pos hq hx)
  simp only [hq, if_true] at h2
  omega
theorem putL_has (l : List (Int × Int)) (x : Int × Int) : x ∈ putL l x := by
  unfold putL
  exact List.mem_append_left _ (List.mem_append_right _ (List.mem_singleton.2 rfl))
/-- A page that isn't held yet comes into a tree. -/
theorem put_new {m : Nat} (hm : m ≤ 3) {M : SM} {ext : Nat → Nat} (E : Exact M ext) {h : Nat} {root key page : Int} {l : List (Int × Int)} (t : Rooted m M root l h) (h8 : h ≤ 8) (g : Good M l) (hl : Loose M [(key, page)]) (hx : M.pool.heldB page = true) (k0 : 0 ≤ key) (k1 : key < 64) :
    ((M.put root key page).2.2 = 0 ∧ TopOk m M ext (h - 1) (putL l (key, page)) (2 * h + 3) (7 * h + 3) (M.put root key page).1 (M.put root key page).2.1 (fun s => ∃ r, s = r + 1 ∧ (root = -1 ∨ Led M h root r)) (fun _ => False)) ∨
      ((M.put root key page).2.1 = -1 ∧ (M.put root key page).2.2 = 71 ∧ M.pool.freeCount < 2 * h + 3) ∨ ((M.put root key page).2.1 = -1 ∧ (M.put root key page).2.2 = 72 ∧ ∃ c, 255 < M.sum + 7 * h + 3 + ext c) := by
  unfold SM.put
  rw [if_neg (by omega)]
  rcases t with ⟨rfl, rfl, rfl⟩ | t
  · rw [if_pos rfl]
    have t0 : NTr (Sub m M 0) 0 ⟨2, List.replicate 16 0, [(key, page)]⟩ (putL [] (key, page)) := .inl ⟨rfl, rfl, rfl⟩
    rcases top_ok hm E t0 (g.put k0 k1 hx) (by show 1 ≤ 1; omega) (by show 1 ≤ 12; omega) hl with ⟨e, T⟩ | ⟨e1, e, hf⟩ | ⟨e1, e, c, hc⟩
    · have b1 := T.free
      have b2 := T.sum
      dsimp only [List.length_cons, List.length_nil] at b2
      exact .inl ⟨e, ⟨T.exact, T.grown, T.tr, by omega, by omega, T.zero, T.loose, fun s hs => T.led s (.inl ⟨rfl, by obtain ⟨r, hr, _⟩ := hs; show 1 ≤ s; omega⟩), fun sp hsp => hsp.elim⟩⟩
    · exact .inr (.inl ⟨e1, e, by omega⟩)
    · exact .inr (.inr ⟨e1, e, c, by dsimp only [List.length_cons, List.length_nil] at hc; omega⟩)
  · have hne : root ≠ -1 := fun e => by have := (heldB_int t.held).1; omega
    rw [if_neg hne]
    cases h with
    | zero => exact t.elim
    | succ h =>
      have hp := putF_ok hm (x := (key, page)) k0 k1 h 0 M l root (by omega) E t g hx
      rw [Nat.sub_zero] at hp
      obtain ⟨R, hR⟩ : ∃ R, SM.putF 9 M root (key, page) = R := ⟨_, rfl⟩
      rw [hR] at hp ⊢
      obtain ⟨M1, n1, er⟩ := R
      dsimp only at hp ⊢
      rcases hp with ⟨rfl, P⟩ | ⟨rfl, hf⟩ | ⟨rfl, hf⟩
      · rw [if_pos rfl]
        have a1 := P.free
        have a2 := P.sum
        have hen := P.entN
        have hlo := P.lo
        have hhi := P.hi
        have hL : Loose M1 n1.ents := fun q hq hc => by
          obtain ⟨y, hy, he⟩ := P.loose [(key, page)] hl q hq hc
          rcases List.mem_append.1 hy with hy | hy
          · exact ⟨y, hy, he⟩
          · rw [List.mem_singleton] at hy
            subst hy
            rcases ntr_mem P.tr (key, page) (putL_has _ _) with h1 | ⟨q', hq', h1⟩
            · exact ⟨_, h1, he⟩
            · have := ref_pos P.exact hq' h1
              rw [he, Int.toNat_natCast] at this
              omega
        rcases top_ok hm P.exact P.tr ((g.put k0 k1 hx).grown P.grown) (by omega) (by omega) hL with ⟨e, T⟩ | ⟨e1, e, hf⟩ | ⟨e1, e, c, hc⟩
        · have b1 := T.free
          have b2 := T.sum
          exact .inl ⟨e, ⟨T.exact, P.grown.trans T.grown, T.tr, by omega, by omega, T.zero, T.loose, fun s hs => by
            obtain ⟨r, rfl, hr⟩ := hs
            rcases hr with hr | hr
            · exact absurd hr hne
            · exact T.led _ (P.led r hr), fun sp hsp => hsp.elim⟩⟩
        · exact .inr (.inl ⟨e1, e, by omega⟩)
        · exact .inr (.inr ⟨e1, e, c, by omega⟩)
      · rw [if_neg (by decide)]
        exact .inr (.inl ⟨rfl, rfl, by omega⟩)
      · rw [if_neg (by decide)]
        obtain ⟨c, hc⟩ := hf
        exact .inr (.inr ⟨rfl, rfl, c, by omega⟩)

/-- A tree with a change, not held yet; the change of a tree, held in its place; changes. -/
def SM.one (M : SM) (root : Int) (c : Int × Int) : SM × Int × Nat := if c.2 = -1 then ((M.cut root c.1).1, (M.cut root c.1).2.1, (M.cut root c.1).2.2.2) else M.put root c.1 c.2
def SM.change (M : SM) (root : Int) (c : Int × Int) : SM × Int × Nat :=
  let o := M.one root c
  if o.2.2 = 0 then (if (o.1.swap root o.2.1).2 = 0 then ((o.1.swap root o.2.1).1, o.2.1, 0) else ((o.1.swap root o.2.1).1, -1, (o.1.swap root o.2.1).2)) else (o.1, -1, o.2.2)
def SM.changes : List (Int × Int) → SM → Int → SM × Int × Nat
  | [], M, root => (M, root, 0)
  | c :: cs, M, root => if (M.change root c).2.2 = 0 then SM.changes cs (M.change root c).1 (M.change root c).2.1 else M.change root c
theorem one_closed {Q : SM → Prop} (C : Closed Q) {M : SM} (root : Int) (c : Int × Int) (h : Q M) : Q (M.one root c).1 := by
  unfold SM.one
  split
  · exact cut_closed C root c.1 h
  · exact C.put root c.1 c.2 h
theorem change_closed {Q : SM → Prop} (C : Closed Q) {M : SM} (root : Int) (c : Int × Int) (h : Q M) : Q (M.change root c).1 := by
  have h1 := one_closed C root c h
  unfold SM.change
  dsimp only
  split
  · split <;> exact C.swap _ _ h1
  · exact h1
theorem changes_closed {Q : SM → Prop} (C : Closed Q) : ∀ (cs : List (Int × Int)) {M : SM} (root : Int), Q M → Q (SM.changes cs M root).1
  | [], _, _, h => h
  | c :: cs, M, root, h => by
    unfold SM.changes
    split
    · exact changes_closed C cs _ (change_closed C root c h)
    · exact change_closed C root c h
/-- The document's entries with a change. -/
def chgL (l : List (Int × Int)) (c : Int × Int) : List (Int × Int) := if c.2 = -1 then cutL l c.1 else putL l c
/-- What a change leaves. -/
structure Changed (m : Nat) (M : SM) (ext : Nat → Nat) (root : Int) (l' : List (Int × Int)) (P' : Nat) (M' : SM) (next : Int) : Prop where
  exact : Exact M' (swapE ext root next)
  size : M'.pool.size = M.pool.size
  node : ∀ q, M.live q = true → M'.nodeAt q = M.nodeAt q
  tree : TreeIn m M' next l' P'
  loose : Loose M' []
  others : ∀ m0 r l0 P0, TreeIn m0 M r l0 P0 → (r = -1 ∨ 0 < swapE ext root next r.toNat) → TreeIn m0 M' r l0 P0
theorem change_bad (M : SM) (root : Int) {c : Int × Int} (hk : c.1 < 0 ∨ 63 < c.1) : M.change root c = (M, -1, 101) := by
  unfold SM.change SM.one SM.cut SM.put
  rw [if_pos (show c.1 < 0 ∨ 64 ≤ c.1 by omega), if_pos (show c.1 < 0 ∨ 64 ≤ c.1 by omega)]
  split <;> rfl
/-- A new root that can't be held once more. -/
theorem swap_full {M : SM} {old next : Int} (hn : M.pool.heldB next = true) (hc : ¬ M.pool.cnt next.toNat < 255) : (M.swap old next).2 = 72 := by
  have hne : next ≠ -1 := fun e => by have := (heldB_int hn).1; omega
  unfold SM.swap
  dsimp only
  rw [if_neg hne]
  have : (M.hold next).2 = 72 := by
    unfold SM.hold PM.holdErr
    rw [if_pos hn, if_neg hc]
  rw [this, if_neg (by decide)]
  exact this
section
variable {m : Nat} {M M1 : SM} {ext : Nat → Nat} {root next : Int} {l l' : List (Int × Int)} {P P' : Nat}
theorem swapE_next (ext : Nat → Nat) {root next : Int} (h0 : 0 ≤ next) (hr : root = -1 ∨ 0 < ext root.toNat) : 0 < swapE ext root next next.toNat := by
  unfold swapE
  rw [if_pos (show ((next.toNat : Nat) : Int) = next by omega)]
  by_cases e : ((next.toNat : Nat) : Int) = root
  · rw [if_pos e]
    have : root.toNat = next.toNat := by omega
    rw [this] at hr
    omega
  · rw [if_neg e]; omega
theorem changed_of (E1 : Exact M1 ext) (g : Grown M M1) (hl1 : Loose M1 [((0 : Int), next)]) (hr : root = -1 ∨ (M.pool.heldB root = true ∧ 0 < ext root.toNat)) (t : TreeIn m M1 next l' P') :
    ((M1.swap root next).2 = 0 ∧ Changed m M ext root l' P' (M1.swap root next).1 next) ∨ ((M1.swap root next).2 = 72 ∧ 255 ≤ M1.sum + ext next.toNat) := by
  by_cases hc : next = -1 ∨ (M1.pool.heldB next = true ∧ M1.pool.cnt next.toNat < 255)
  · have hold : root = -1 ∨ (M1.pool.heldB root = true ∧ 0 < ext root.toNat) := hr.imp id fun ⟨a, b⟩ => ⟨g.held a, b⟩
    obtain ⟨r1, E2, hlog, hsz, hlv, hlo⟩ := swap_ok E1 hc hold
    refine .inl ⟨r1, E2, hsz.trans g.size, fun q hq => ?_, ?_, fun q hq hc => ?_, fun _ r l0 P0 t0 hr0 => (t0.grown g).stays E2 hlog hsz hr0⟩
    · have : (M1.swap root next).1.nodeAt q = M1.nodeAt q := by unfold SM.nodeAt; rw [hlog]
      rw [this, g.node q hq]
    · refine t.stays E2 hlog hsz ?_
      rcases hc with e | ⟨h1, _⟩
      · exact .inl e
      · exact .inr (swapE_next ext (heldB_int h1).1 (hr.imp id fun h => h.2))
    · obtain ⟨c1, c2⟩ := hlo q hq hc
      obtain ⟨x, hx, he⟩ := hl1 q (hlv q hq) c1
      rw [List.mem_singleton] at hx
      rw [hx] at he
      exact absurd he.symm c2
  · rcases t.root with ⟨e, _⟩ | ⟨h, t, _⟩
    · exact absurd (.inl e) hc
    · have hh := t.held
      have hf : ¬ M1.pool.cnt next.toNat < 255 := fun h => hc (.inr ⟨hh, h⟩)
      have := E1.cnt_le (heldB_int hh).2
      exact .inr ⟨swap_full hh hf, by omega⟩
theorem change_ok (hm : m ≤ 3) (E : Exact M ext) (t : TreeIn m M root l P) (hP : P + 1 ≤ 150) (hr : root = -1 ∨ 0 < ext root.toNat) {c : Int × Int} (k0 : 0 ≤ c.1) (k1 : c.1 < 64) (hx : c.2 = -1 ∨ M.pool.heldB c.2 = true)
    (hl : Loose M (if c.2 = -1 then [] else [c])) (hm1 : c.2 = -1 → m = 1) :
    ((M.change root c).2.2 = 0 ∧ Changed m M ext root (chgL l c) (P + 1) (M.change root c).1 (M.change root c).2.1) ∨
      ((M.change root c).2.1 = -1 ∧ (((M.change root c).2.2 = 71 ∧ ∃ h, Rooted m M root l h ∧ (root = -1 ∨ Led M h root P) ∧ M.pool.freeCount < 2 * h + 3) ∨ ((M.change root c).2.2 = 72 ∧ ∃ q, 255 ≤ M.sum + 38 + ext q))) := by
  obtain ⟨k, hro, hk, hled⟩ := t.rooted (by omega)
  have hr' : root = -1 ∨ (M.pool.heldB root = true ∧ 0 < ext root.toNat) := by
    rcases t.root with ⟨e, _⟩ | ⟨h, t, _⟩
    · exact .inl e
    · have hh := t.held
      have h0 := (heldB_int hh).1
      refine .inr ⟨hh, ?_⟩
      rcases hr with e | e
      · omega
      · exact e
  have fin : ∀ {M1 : SM} {next : Int} {l' : List (Int × Int)}, M.one root c = (M1, next, 0) → Exact M1 ext → Grown M M1 → Loose M1 [((0 : Int), next)] → M1.sum ≤ M.sum + 38 → TreeIn m M1 next l' (P + 1) → l' = chgL l c →
      ((M.change root c).2.2 = 0 ∧ Changed m M ext root (chgL l c) (P + 1) (M.change root c).1 (M.change root c).2.1) ∨
      ((M.change root c).2.1 = -1 ∧ (((M.change root c).2.2 = 71 ∧ ∃ h, Rooted m M root l h ∧ (root = -1 ∨ Led M h root P) ∧ M.pool.freeCount < 2 * h + 3) ∨ ((M.change root c).2.2 = 72 ∧ ∃ q, 255 ≤ M.sum + 38 + ext q))) := by
    intro M1 next l' ho E1 g hl1 hs t1 hl'
    subst hl'
    unfold SM.change
    rw [ho]
    dsimp only
    rw [if_pos rfl]
    rcases changed_of E1 g hl1 hr' t1 with ⟨e, C⟩ | ⟨e, h⟩
    · rw [if_pos e]
      exact .inl ⟨rfl, C⟩
    · rw [if_neg (by omega)]
      exact .inr ⟨rfl, .inr ⟨e, next.toNat, by omega⟩⟩
  have err : ∀ {M1 : SM} {n : Int} {e : Nat}, M.one root c = (M1, n, e) → e ≠ 0 → (M.change root c).2.1 = -1 ∧ (M.change root c).2.2 = e := by
    intro M1 n e ho he
    unfold SM.change
    rw [ho]
    dsimp only
    rw [if_neg he]
    exact ⟨rfl, rfl⟩
  by_cases hc : c.2 = -1
  · have hm1 := hm1 hc
    subst hm1
    rw [if_pos hc] at hl
    have hone : M.one root c = ((M.cut root c.1).1, (M.cut root c.1).2.1, (M.cut root c.1).2.2.2) := by unfold SM.one; rw [if_pos hc]
    have hchg : chgL l c = cutL l c.1 := by unfold chgL; rw [if_pos hc]
    rcases t.root with ⟨e, el⟩ | ⟨h, tt, j⟩
    · have hcut : M.cut root c.1 = (M, -1, false, 0) := by
        unfold SM.cut
        rw [if_neg (by omega), if_pos e]
      rw [hcut] at hone
      exact fin hone E (Grown.refl M) (hl.mono fun y hy => by cases hy) (show M.sum ≤ M.sum + 38 by omega) (l' := []) (TreeIn.none _ M _) (by rw [hchg, el]; rfl)
    · obtain ⟨h, rfl⟩ : ∃ i, h = i + 1 := ⟨h - 1, by have := tr_pos tt; omega⟩
      have h5 := (led_pages tt j (by omega)).1
      rcases cut_ok (key := c.1) E tt (by omega) (t.good E) hl k0 k1 with ⟨e, hno⟩ | ⟨e, ew, T⟩ | ⟨e, hf⟩ | ⟨e, q, hq⟩
      · rw [e] at hone
        exact fin hone E (Grown.refl M) (hl.mono fun y hy => by cases hy) (show M.sum ≤ M.sum + 38 by omega) (t.weak (Nat.le_succ P)) (by rw [hchg, cutL_none hno])
      · have ts := T.sum
        have hone' : M.one root c = ((M.cut root c.1).1, (M.cut root c.1).2.1, 0) := by rw [hone, e]
        exact fin hone' T.exact T.grown T.loose (by omega) (l' := cutL l c.1) ⟨T.tr.imp id fun ⟨h', _, t', k', _⟩ => ⟨h', t', (k' P j).weak (Nat.le_succ P)⟩, cutL_rises t.keys.1 _, fun y hy => t.keys.2 y (List.mem_filter.1 hy).1⟩ hchg.symm
      · have := err hone (by rw [e]; decide)
        exact .inr ⟨this.1, .inl ⟨this.2.trans e, h + 1, .inr tt, .inr j, by omega⟩⟩
      · have := err hone (by rw [e]; decide)
        exact .inr ⟨this.1, .inr ⟨this.2.trans e, q, by omega⟩⟩
  · rw [if_neg hc] at hl
    have hx' : M.pool.heldB c.2 = true := hx.resolve_left hc
    have hone : M.one root c = M.put root c.1 c.2 := by unfold SM.one; rw [if_neg hc]
    have hchg : chgL l c = putL l c := by unfold chgL; rw [if_neg hc]
    rcases put_new hm E hro (by omega) (t.good E) (key := c.1) (page := c.2) hl hx' k0 k1 with ⟨e, T⟩ | ⟨e1, e, hf⟩ | ⟨e1, e, q, hq⟩
    · have ts := T.sum
      obtain ⟨h', tt, _, j⟩ := T.led (P + 1) ⟨P, rfl, hled⟩
      have hone' : M.one root c = ((M.put root c.1 c.2).1, (M.put root c.1 c.2).2.1, 0) := by rw [hone, ← e]
      have g := (t.good E).put (x := c) k0 k1 hx'
      exact fin hone' T.exact T.grown (T.loose [] rfl) (by omega) (l' := putL l c) ⟨.inr ⟨h', tt, j⟩, g.1, fun y hy => ⟨(g.2 y hy).1, (g.2 y hy).2.1⟩⟩ hchg.symm
    · have := err (M1 := (M.put root c.1 c.2).1) (n := (M.put root c.1 c.2).2.1) (e := (M.put root c.1 c.2).2.2) hone (by omega)
      exact .inr ⟨this.1, .inl ⟨this.2.trans e, k, hro, hled, hf⟩⟩
    · have := err (M1 := (M.put root c.1 c.2).1) (n := (M.put root c.1 c.2).2.1) (e := (M.put root c.1 c.2).2.2) hone (by omega)
      exact .inr ⟨this.1, .inr ⟨this.2.trans e, q, by omega⟩⟩
end
end Go.Proofs.YtidlchciehdefaaGreat
/-
  One tree in a store with some blocks, plain: put, cut, list.
-/
namespace Go.Proofs.YtidlchciehdefaaGreat
open Go.RowKit

/-- Who holds: the blocks, and the root. -/
def extB (bl : List Nat) (root : Int) : Nat → Nat := fun p => bl.count p + (if (p : Int) = root then 1 else 0)
/-- What is kept besides, and how much room it costs. -/
structure Besides (K : SM → Prop) (c : Nat) : Prop where
  closed : Closed K
  room : ∀ M, K M → M.pool.size ≤ M.pool.freeCount + M.liveN + c
structure OneTree (K : SM → Prop) (s : Nat) (bl : List Nat) (M : SM) (root : Int) (l : List (Int × Int)) (P : Nat) : Prop where
  exact : Exact M (extB bl root)
  size : M.pool.size = s
  kk : K M
  data : ∀ b ∈ bl, M.live b = true ∧ ∃ d, M.nodeAt b = some d ∧ d.kind = 1 ∧ d.ents = []
  keys : RisesK l ∧ ∀ y ∈ l, 0 ≤ y.1 ∧ y.1 < 64 ∧ ∃ b ∈ bl, y.2 = ((b : Nat) : Int)
  root : (root = -1 ∧ l = []) ∨ ∃ h, Tr 1 M h root l ∧ Led M h root P
  loose : Loose M []
theorem clean_besides : Besides Clean 0 := ⟨clean_closed, fun M h => by have := clean_free h; omega⟩
section
variable {K : SM → Prop} {s c : Nat} {bl : List Nat} {M : SM} {root : Int} {l : List (Int × Int)} {P : Nat}
theorem OneTree.good (h : OneTree K s bl M root l P) : Good M l := ⟨h.keys.1, fun y hy => by
  obtain ⟨a, b, d, hd, e⟩ := h.keys.2 y hy
  refine ⟨a, b, ?_⟩
  rw [e, heldB_nat]
  exact (h.data d hd).1⟩
theorem OneTree.len (h : OneTree K s bl M root l P) : l.length ≤ 64 := rises_len h.keys.1 fun y hy => ⟨(h.keys.2 y hy).1, (h.keys.2 y hy).2.1⟩
/-- The tree's pages, and the blocks: all that is there. -/
theorem OneTree.pages (h : OneTree K s bl M root l P) (hP : P ≤ 150) : ∃ L : List Nat, (root = -1 ∨ root.toNat ∈ L) ∧ (∀ q, M.live q = true → q ∈ bl ++ L) ∧ L.length ≤ 73 ∧ entSum M L ≤ 137 ∧ 2 * L.length ≤ P + 3 ∧ (root = -1 → L = []) := by
  have h64 := h.len
  have key : ∃ L : List Nat, (root = -1 ∨ root.toNat ∈ L) ∧ (∀ q ∈ L, ∀ x ∈ M.ents q, x.2.toNat ∈ L ∨ x ∈ l) ∧ L.length ≤ 73 ∧ entSum M L ≤ 137 ∧ 2 * L.length ≤ P + 3 ∧ (root = -1 → L = []) := by
    rcases h.root with ⟨e, _⟩ | ⟨hh, t, k⟩
    · exact ⟨[], .inl e, fun q hq => (by cases hq), Nat.zero_le _, Nat.zero_le _, by show 2 * 0 ≤ _; omega, fun _ => rfl⟩
    · obtain ⟨_, p1, p2⟩ := led_pages t k hP
      have p3 := pages_sum t
      exact ⟨pagesF M hh root, .inr (pages_self (tr_pos t)), pages_closed t, p1, by omega, p2, fun e => by have := (heldB_int t.held).1; omega⟩
  obtain ⟨L, a1, a2, a3, a4, a5, a6⟩ := key
  refine ⟨L, a1, ?_, a3, a4, a5, a6⟩
  refine reach_all h.exact h.loose (fun q _ hq => ?_) (fun q hq x hx => ?_)
  · unfold extB at hq
    by_cases e : (q : Int) = root
    · rcases a1 with a1 | a1
      · omega
      · rw [← e, Int.toNat_natCast] at a1
        exact List.mem_append_right _ a1
    · rw [if_neg e, Nat.add_zero] at hq
      exact List.mem_append_left _ (List.count_pos_iff.1 hq)
  · rcases List.mem_append.1 hq with hq | hq
    · obtain ⟨_, d, hd, _, he⟩ := h.data q hq
      rw [ents_of hd, he] at hx
      cases hx
    · rcases a2 q hq x hx with e | e
      · exact List.mem_append_right _ e
      · obtain ⟨_, _, b, hb, hbe⟩ := h.keys.2 x e
        rw [hbe, Int.toNat_natCast]
        exact List.mem_append_left _ hb
theorem data_sum (h : ∀ b ∈ bl, ∃ d, M.nodeAt b = some d ∧ d.ents = []) : entSum M bl = 0 := by
  induction bl with
  | nil => rfl
  | cons b bl ih =>
    obtain ⟨d, hd, he⟩ := h b (List.mem_cons_self ..)
    have := ih (fun b hb => h b (List.mem_cons_of_mem _ hb))
    unfold entSum at this ⊢
    rw [List.map_cons, List.sum_cons, ents_of hd, he, this]
    rfl
theorem OneTree.room (h : OneTree K s bl M root l P) (hB : Besides K c) (hP : P ≤ 150) : s ≤ M.pool.freeCount + bl.length + 73 + c ∧ M.sum ≤ 137 := by
  obtain ⟨L, _, a2, a3, a4, _⟩ := h.pages hP
  have c1 := hB.room M h.kk
  have c2 := liveN_list a2
  have c3 := sumE_list a2
  rw [entSum_append, data_sum (fun b hb => by obtain ⟨_, d, hd, _, he⟩ := h.data b hb; exact ⟨d, hd, he⟩)] at c3
  rw [List.length_append] at c2
  rw [h.size] at c1
  omega
theorem OneTree.rooted (h : OneTree K s bl M root l P) (hP : P ≤ 150) : ∃ k, Rooted 1 M root l k ∧ k ≤ 5 ∧ (root = -1 ∨ Led M k root P) := by
  rcases h.root with ⟨e1, e2⟩ | ⟨k, t, j⟩
  · exact ⟨0, .inl ⟨e1, e2, rfl⟩, Nat.zero_le _, .inl e1⟩
  · exact ⟨k, .inr t, (led_pages t j hP).1, .inr j⟩
theorem OneTree.list (h : OneTree K s bl M root l P) (hP : P ≤ 150) : M.list root = (l, 0) := by
  obtain ⟨k, hr, hk, _⟩ := h.rooted hP
  exact listR_ok hr (by omega)
/-- A store that has grown lists the same. -/
theorem OneTree.listG (h : OneTree K s bl M root l P) (hP : P ≤ 150) {M' : SM} (g : Grown M M') : M'.list root = (l, 0) := by
  obtain ⟨k, hr, hk, _⟩ := h.rooted hP
  exact listR_ok (hr.imp id fun t => Tr.grown g t) (by omega)
/-- One root held in the place of another. -/
theorem OneTree.swapped (h : OneTree K s bl M root l P) (hB : Besides K c) {M1 : SM} {next : Int} {l' : List (Int × Int)} {P' : Nat} (hk1 : K M1) (E1 : Exact M1 (extB bl root)) (g : Grown M M1)
    (hl1 : Loose M1 [((0 : Int), next)]) (hs : M1.sum ≤ 240) (hbl : bl.length ≤ 5) (hkeys : RisesK l' ∧ ∀ y ∈ l', 0 ≤ y.1 ∧ y.1 < 64 ∧ ∃ b ∈ bl, y.2 = ((b : Nat) : Int))
    (ht : (next = -1 ∧ l' = []) ∨ ∃ h', Tr 1 M1 h' next l' ∧ Led M1 h' next P') :
    (M1.swap root next).2 = 0 ∧ OneTree K s bl (M1.swap root next).1 next l' P' ∧ (M1.swap root next).1.log = M1.log := by
  have hextb : ∀ q, extB bl root q ≤ 6 := fun q => by
    unfold extB
    have : bl.count q ≤ bl.length := List.count_le_length
    split <;> omega
  have hn : next = -1 ∨ (M1.pool.heldB next = true ∧ M1.pool.cnt next.toNat < 255) := by
    rcases ht with ⟨e, _⟩ | ⟨h', t, _⟩
    · exact .inl e
    · have h1 := t.held
      have h2 := E1.cnt_le (heldB_int h1).2
      have h3 := hextb next.toNat
      exact .inr ⟨h1, by omega⟩
  have hold : root = -1 ∨ (M1.pool.heldB root = true ∧ 0 < extB bl root root.toNat) := by
    rcases h.root with ⟨hr, _⟩ | ⟨k, t, _⟩
    · exact .inl hr
    · have h0 := (heldB_int t.held).1
      exact .inr ⟨g.held t.held, by unfold extB; rw [if_pos (by omega)]; omega⟩
  obtain ⟨r1, E2, hlog, hsz, hlv, hlo⟩ := swap_ok E1 hn hold
  have hK2 : K (M1.swap root next).1 := hB.closed.swap _ _ hk1
  obtain ⟨M2, hM2⟩ : ∃ M2, (M1.swap root next).1 = M2 := ⟨_, rfl⟩
  rw [hM2] at E2 hlog hsz hlv hlo hK2 ⊢
  have hnode : ∀ q, M2.nodeAt q = M1.nodeAt q := fun q => by unfold SM.nodeAt; rw [hlog]
  have E2' : Exact M2 (extB bl next) := exact_congr E2 (fun p _ => by
    unfold swapE extB
    by_cases e1 : (p : Int) = root <;> by_cases e2 : (p : Int) = next <;> simp [e1, e2] <;> omega)
  refine ⟨r1, ⟨E2', by rw [hsz, g.size, h.size], hK2, fun b hb => ?_, hkeys, ?_, fun q hq hc => ?_⟩, hlog⟩
  · obtain ⟨hbl, d, hd, hk⟩ := h.data b hb
    refine ⟨?_, d, by rw [hnode, g.node b hbl]; exact hd, hk⟩
    have := ext_held E2' (p := b) (by rw [hsz, g.size]; exact live_lt hbl) (by unfold extB; have := List.count_pos_iff.2 hb; omega)
    rw [heldB_nat] at this
    exact this
  · rcases ht with ht | ⟨h', t, k⟩
    · exact .inl ht
    · right
      have hn := t.held
      have hn0 := (heldB_int hn).1
      have hnext2 : M2.pool.heldB next = true := by
        obtain ⟨c, hc⟩ := Int.eq_ofNat_of_zero_le hn0
        rw [hc]
        refine ext_held E2' ?_ (by unfold extB; rw [if_pos hc.symm]; omega)
        rw [hsz]
        have := live_lt (M := M1) (heldB_int hn).2
        rw [hc, Int.toNat_natCast] at this
        exact this
      exact ⟨h', Tr.stays E2' hlog t hnext2, Led.same (fun q _ => hnode q) t k⟩
  · obtain ⟨c1, c2⟩ := hlo q hq hc
    obtain ⟨x, hx, he⟩ := hl1 q (hlv q hq) c1
    rw [List.mem_singleton] at hx
    rw [hx] at he
    exact absurd he.symm c2
theorem one_put (h : OneTree K s bl M root l P) (hB : Besides K c) (hP : P + 1 ≤ 150) (hbl : bl.length ≤ 5) (hs : 5 + 73 + c + 20 ≤ s) {key page : Int} (k0 : 0 ≤ key) (k1 : key < 64) (hp : ∃ b ∈ bl, page = ((b : Nat) : Int)) :
    (M.put root key page).2.2 = 0 ∧ ((M.put root key page).1.swap root (M.put root key page).2.1).2 = 0 ∧ OneTree K s bl ((M.put root key page).1.swap root (M.put root key page).2.1).1 (M.put root key page).2.1 (putL l (key, page)) (P + 1) ∧
      (M.put root key page).1.list root = (l, 0) := by
  obtain ⟨k, hr, hk, hled⟩ := h.rooted (by omega)
  obtain ⟨r1, r2⟩ := h.room hB (by omega)
  have hx : M.pool.heldB page = true := by
    obtain ⟨b, hb, e⟩ := hp
    rw [e, heldB_nat]
    exact (h.data b hb).1
  have hextb : ∀ q, extB bl root q ≤ 6 := fun q => by
    unfold extB
    have : bl.count q ≤ bl.length := List.count_le_length
    split <;> omega
  rcases put_ok (m := 1) (by decide) h.exact hr (by omega) h.good h.loose hx k0 k1 with ⟨e, T⟩ | ⟨_, e, hf⟩ | ⟨_, e, c, hc⟩
  · have hk1 : K (M.put root key page).1 := hB.closed.put _ _ _ h.kk
    have ts := T.sum
    have g := h.good.put (x := (key, page)) k0 k1 hx
    obtain ⟨M1, hM1⟩ : ∃ M1, (M.put root key page).1 = M1 := ⟨_, rfl⟩
    obtain ⟨next, hnext⟩ : ∃ next, (M.put root key page).2.1 = next := ⟨_, rfl⟩
    rw [hM1, hnext] at T
    rw [hM1] at hk1 ts ⊢
    rw [hnext]
    obtain ⟨h', t, _, j⟩ := T.led (P + 1) ⟨P, rfl, hled⟩
    obtain ⟨s1, s2, _⟩ := h.swapped hB (l' := putL l (key, page)) (P' := P + 1) hk1 T.exact T.grown (T.loose [] rfl) (by omega) hbl ⟨g.1, fun y hy => by
      refine ⟨(g.2 y hy).1, (g.2 y hy).2.1, ?_⟩
      rcases putL_mem hy with rfl | hy
      · exact hp
      · exact (h.keys.2 y hy).2.2⟩ (.inr ⟨h', t, j⟩)
    exact ⟨e, s1, s2, h.listG (by omega) T.grown⟩
  · exfalso; omega
  · exfalso; have := hextb c; omega
theorem one_cut (h : OneTree K s bl M root l P) (hB : Besides K c) (hP : P ≤ 150) (hbl : bl.length ≤ 5) (hs : 5 + 73 + c + 20 ≤ s) {key : Int} (k0 : 0 ≤ key) (k1 : key < 64) :
    (M.cut root key = (M, root, false, 0) ∧ cutL l key = l ∧ ∀ y ∈ l, y.1 ≠ key) ∨
      ((M.cut root key).2.2.2 = 0 ∧ (M.cut root key).2.2.1 = true ∧ (∃ y ∈ l, y.1 = key) ∧ (M.cut root key).1.list root = (l, 0) ∧ ((M.cut root key).1.swap root (M.cut root key).2.1).2 = 0 ∧
        OneTree K s bl ((M.cut root key).1.swap root (M.cut root key).2.1).1 (M.cut root key).2.1 (cutL l key) P) := by
  obtain ⟨r1, r2⟩ := h.room hB hP
  have hextb : ∀ q, extB bl root q ≤ 6 := fun q => by
    unfold extB
    have : bl.count q ≤ bl.length := List.count_le_length
    split <;> omega
  rcases h.root with ⟨rfl, rfl⟩ | ⟨k, t, j⟩
  · refine .inl ⟨?_, rfl, fun y hy => by cases hy⟩
    unfold SM.cut
    rw [if_neg (by omega), if_pos rfl]
  · obtain ⟨hk, _⟩ := led_pages t j hP
    obtain ⟨k, rfl⟩ : ∃ i, k = i + 1 := ⟨k - 1, by have := tr_pos t; omega⟩
    have hKM : K (M.cut root key).1 := by
      have hc : Closed K := hB.closed
      exact cut_closed hc root key h.kk
    rcases cut_ok (key := key) h.exact t (by omega) h.good h.loose k0 k1 with ⟨e, hno⟩ | ⟨e, ew, T⟩ | ⟨e, hf⟩ | ⟨e, c, hc⟩
    · exact .inl ⟨e, cutL_none hno, hno⟩
    · have ts := T.sum
      obtain ⟨M1, hM1⟩ : ∃ M1, (M.cut root key).1 = M1 := ⟨_, rfl⟩
      obtain ⟨next, hnext⟩ : ∃ next, (M.cut root key).2.1 = next := ⟨_, rfl⟩
      rw [hM1, hnext] at T
      rw [hM1] at hKM ts ⊢
      rw [hnext]
      have hkeys : RisesK (cutL l key) ∧ ∀ y ∈ cutL l key, 0 ≤ y.1 ∧ y.1 < 64 ∧ ∃ b ∈ bl, y.2 = ((b : Nat) : Int) := ⟨cutL_rises h.keys.1 key, fun y hy => h.keys.2 y (List.mem_filter.1 hy).1⟩
      obtain ⟨s1, s2, _⟩ := h.swapped hB (P' := P) hKM T.exact T.grown T.loose (by omega) hbl hkeys (T.tr.imp id fun ⟨h', _, t', k', _⟩ => ⟨h', t', k' P j⟩)
      exact .inr ⟨e, ew, T.had, h.listG hP T.grown, s1, s2⟩
    · exfalso; omega
    · exfalso; have := hextb c; omega
end
end Go.Proofs.YtidlchciehdefaaGreat
/-
  One tree in a store, plain: a tree that is built; how dense one is that was built in order, and cut.
-/
namespace Go.Proofs.YtidlchciehdefaaGreat
open Go.RowKit

section
variable {K : SM → Prop} {s c : Nat} {bl : List Nat} {M : SM} {root : Int} {l : List (Int × Int)} {P : Nat}
theorem build_one (hB : Besides K c) (hbl : bl.length ≤ 5) (hs : 5 + 73 + c + 20 ≤ s) : ∀ (ks : List (Int × Int)) {M : SM} {root : Int} {l : List (Int × Int)} {P : Nat}, OneTree K s bl M root l P → P + ks.length ≤ 150 →
    (∀ y ∈ ks, 0 ≤ y.1 ∧ y.1 < 64 ∧ ∃ b ∈ bl, y.2 = ((b : Nat) : Int)) →
    ∃ M' root', SM.build ks M root = (M', root', 0) ∧ OneTree K s bl M' root' (ks.foldl putL l) (P + ks.length) ∧ M'.log.length ≤ M.log.length + 22 * ks.length
  | [], M, root, _, _, h, _, _ => ⟨M, root, rfl, h, Nat.le_refl _⟩
  | x :: ks, M, root, l, P, h, hP, hks => by
    obtain ⟨hx0, hx1, hx2⟩ := hks x (List.mem_cons_self ..)
    obtain ⟨x1, x2⟩ := x
    dsimp only at hx0 hx1 hx2
    rw [List.length_cons] at hP
    obtain ⟨e1, e2, hI, _⟩ := one_put h hB (by omega) hbl hs hx0 hx1 hx2
    have hl1 := put_log M root x1 x2
    have hl2 := swap_log (M.put root x1 x2).1 root (M.put root x1 x2).2.1
    obtain ⟨M', root', e3, hI', hl⟩ := build_one hB hbl hs ks hI (by omega) (fun y hy => hks y (List.mem_cons_of_mem _ hy))
    refine ⟨M', root', ?_, by rw [List.length_cons, show P + (ks.length + 1) = P + 1 + ks.length by omega]; exact hI', by rw [hl2] at hl; rw [List.length_cons]; omega⟩
    rw [build_cons]
    dsimp only
    rw [if_pos e1, if_pos e2, e3]
/-- All that is there: the blocks, and the tree's pages. -/
theorem OneTree.all_live (h : OneTree K s bl M root l P) {m hh : Nat} (t : Tr m M hh root l) : ∀ q, M.live q = true → q ∈ bl ++ pagesF M hh root := by
  refine reach_all h.exact h.loose (fun q _ hq => ?_) (fun q hq x hx => ?_)
  · unfold extB at hq
    by_cases e : (q : Int) = root
    · have := pages_self (M := M) (p := root) (tr_pos t)
      rw [← e, Int.toNat_natCast] at this
      rw [e] at this
      exact List.mem_append_right _ this
    · rw [if_neg e, Nat.add_zero] at hq
      exact List.mem_append_left _ (List.count_pos_iff.1 hq)
  · rcases List.mem_append.1 hq with hq | hq
    · obtain ⟨_, d, hd, _, he⟩ := h.data q hq
      rw [ents_of hd, he] at hx
      cases hx
    · rcases pages_closed t q hq x hx with e | e
      · exact List.mem_append_right _ e
      · obtain ⟨_, _, b, hb, hbe⟩ := h.keys.2 x e
        rw [hbe, Int.toNat_natCast]
        exact List.mem_append_left _ hb
end

/-- So many puts at the end. -/
def spK : Nat → List Nat
  | 0 => []
  | 1 => [1]
  | k + 2 => topS (bumpF (spK (k + 1)))
theorem spK_64 : spK 64 = [6, 6, 4] := by decide +kernel
theorem spine_len (M : SM) : ∀ (h : Nat) (p : Int), (spine M h p).length = h
  | 0, _ => rfl
  | h + 1, p => by
    unfold spine
    rw [List.length_cons]
    by_cases h0 : h = 0
    · rw [if_pos h0, h0]; rfl
    · rw [if_neg h0, spine_len M h]
theorem ents_log {M M' : SM} (h : M'.log = M.log) (q : Nat) : M'.ents q = M.ents q := by unfold SM.ents SM.nodeAt; rw [h]
theorem spine_log {M M' : SM} (hl : M'.log = M.log) : ∀ (h : Nat) (p : Int), spine M' h p = spine M h p
  | 0, _ => rfl
  | h + 1, p => by unfold spine; rw [ents_log hl, spine_log hl h]
def AscSt (M : SM) (root : Int) (l : List (Int × Int)) (k : Nat) : Prop := (k = 0 ∧ root = -1 ∧ l = []) ∨ (0 < k ∧ ∃ h, Tr 3 M h root l ∧ spine M h root = spK k)
theorem asc_put {s : Nat} {M : SM} {root : Int} {l : List (Int × Int)} {k : Nat} (h : OneTree Clean s [0] M root l k) (hs : 100 ≤ s) (hA : AscSt M root l k) (hk : k + 1 ≤ 150) {key : Int} (k0 : 0 ≤ key) (k1 : key < 64) (hmax : ∀ y ∈ l, y.1 < key)
    (h2 : OneTree Clean s [0] ((M.put root key 0).1.swap root (M.put root key 0).2.1).1 (M.put root key 0).2.1 (putL l (key, 0)) (k + 1)) :
    AscSt ((M.put root key 0).1.swap root (M.put root key 0).2.1).1 (M.put root key 0).2.1 (putL l (key, 0)) (k + 1) := by
  have hx : M.pool.heldB 0 = true := by
    have := (h.data 0 (List.mem_singleton.2 rfl)).1
    rw [show (0 : Int) = ((0 : Nat) : Int) from rfl, heldB_nat]
    exact this
  have hr : ∃ hh, Rooted 3 M root l hh ∧ hh ≤ 8 ∧ ((root = -1 ∧ k = 0) ∨ (root ≠ -1 ∧ 0 < k ∧ spine M hh root = spK k)) := by
    rcases hA with ⟨e1, e2, e3⟩ | ⟨e1, hh, t, e2⟩
    · exact ⟨0, .inl ⟨e2, e3, rfl⟩, by omega, .inl ⟨e2, e1⟩⟩
    · exact ⟨hh, .inr t, by have := tr_high t h.good; omega, .inr ⟨fun e => by have := (heldB_int t.held).1; omega, e1, e2⟩⟩
  obtain ⟨hh, hr, h8, hsp⟩ := hr
  obtain ⟨r1, r2⟩ := h.room clean_besides (by omega)
  have hext : ∀ q, extB [0] root q ≤ 2 := fun q => by
    unfold extB
    have : [0].count q ≤ 1 := List.count_le_length
    split <;> omega
  have h5 : hh ≤ 4 := by
    rcases hr with ⟨_, _, e⟩ | t
    · omega
    · exact tr_high t h.good
  rcases put_ok (m := 3) (by decide) h.exact hr h8 h.good h.loose hx k0 k1 with ⟨e, T⟩ | ⟨_, e, hf⟩ | ⟨_, e, c, hc⟩
  · right
    refine ⟨by omega, ?_⟩
    have hT : ∃ h', Tr 3 (M.put root key 0).1 h' (M.put root key 0).2.1 (putL l (key, 0)) ∧ spine (M.put root key 0).1 h' (M.put root key 0).2.1 = spK (k + 1) := by
      rcases hsp with ⟨e1, e2⟩ | ⟨e1, e2, e3⟩
      · obtain ⟨h', t, e4⟩ := T.asc [1] (.inl ⟨e1, rfl⟩)
        exact ⟨h', t, by rw [e4, e2]; rfl⟩
      · obtain ⟨h', t, e4⟩ := T.asc _ (.inr ⟨e1, hmax, rfl⟩)
        refine ⟨h', t, ?_⟩
        rw [e4, e3]
        obtain ⟨j, rfl⟩ : ∃ j, k = j + 1 := ⟨k - 1, by omega⟩
        rfl
    obtain ⟨h', t, e4⟩ := hT
    have hlog := swap_log (M.put root key 0).1 root (M.put root key 0).2.1
    have hheld : ((M.put root key 0).1.swap root (M.put root key 0).2.1).1.pool.heldB (M.put root key 0).2.1 = true := by
      rcases h2.root with ⟨e1, _⟩ | ⟨_, t2, _⟩
      · have := (heldB_int t.held).1; omega
      · exact t2.held
    exact ⟨h', Tr.stays h2.exact hlog t hheld, by rw [spine_log hlog]; exact e4⟩
  · rw [List.length_singleton] at r1
    exfalso; omega
  · exfalso; have := hext c; omega
theorem adj_ge : ∀ {l : List Nat}, (∀ x ∈ l, 3 ≤ x) → AdjN l
  | [], _ => trivial
  | [_], _ => trivial
  | x :: y :: r, h => ⟨.inl ⟨h x (List.mem_cons_self ..), h y (List.mem_cons_of_mem _ (List.mem_cons_self ..))⟩, adj_ge fun z hz => h z (List.mem_cons_of_mem _ hz)⟩
/-- A tree of three heights at most, dense below the root. -/
def DenseAt (M : SM) (root : Int) (l : List (Int × Int)) : Prop :=
  (root = -1 ∧ l = []) ∨ ∃ h, Tr 1 M h root l ∧ h ≤ 3 ∧ (h = 3 → 2 ≤ (M.ents root.toNat).length ∧ AdjN (sizesE M (M.ents root.toNat)))
theorem asc_dense {M : SM} {root : Int} {l : List (Int × Int)} (h : AscSt M root l 64) : DenseAt M root l := by
  rcases h with ⟨h, _⟩ | ⟨_, hh, t, e⟩
  · omega
  · rw [spK_64] at e
    have hl : hh = 3 := by have := spine_len M hh root; rw [e] at this; exact this.symm
    subst hl
    refine .inr ⟨3, t.cast, Nat.le_refl _, fun _ => ⟨?_, ?_⟩⟩
    · have : (spine M 3 root).headD 0 = (M.ents root.toNat).length := rfl
      rw [e] at this
      rw [← this]; decide
    · obtain ⟨_, n, hn, _, k⟩ := t
      rcases k with ⟨h0, _⟩ | ⟨_, _, hK⟩
      · exact absurd h0 (by decide)
      · rw [ents_of hn]
        refine adj_ge fun x hx => ?_
        unfold sizesE at hx
        obtain ⟨e, he, rfl⟩ := List.mem_map.1 hx
        obtain ⟨a, ha, _⟩ := hK.each e he
        exact ha.2
theorem sizes_log {M M' : SM} (h : M'.log = M.log) (es : List (Int × Int)) : sizesE M' es = sizesE M es := by
  unfold sizesE SM.entN
  exact List.map_congr_left fun e _ => by rw [ents_log h]
theorem dense_cut {s : Nat} {M : SM} {root : Int} {l : List (Int × Int)} {P : Nat} (h : OneTree Clean s [0] M root l P) (hs : 100 ≤ s) (hP : P ≤ 150) (hD : DenseAt M root l) {key : Int} (k0 : 0 ≤ key) (k1 : key < 64) (hw : (M.cut root key).2.2.1 = true)
    (h2 : OneTree Clean s [0] ((M.cut root key).1.swap root (M.cut root key).2.1).1 (M.cut root key).2.1 (cutL l key) P) :
    DenseAt ((M.cut root key).1.swap root (M.cut root key).2.1).1 (M.cut root key).2.1 (cutL l key) := by
  rcases hD with ⟨rfl, rfl⟩ | ⟨hh, t, h3, hd⟩
  · unfold SM.cut at hw
    rw [if_neg (by omega), if_pos rfl] at hw
    cases hw
  · obtain ⟨hh, rfl⟩ : ∃ i, hh = i + 1 := ⟨hh - 1, by have := tr_pos t; omega⟩
    obtain ⟨r1, r2⟩ := h.room clean_besides hP
    have hext : ∀ q, extB [0] root q ≤ 2 := fun q => by
      unfold extB
      have : [0].count q ≤ 1 := List.count_le_length
      split <;> omega
    rcases cut_ok (key := key) h.exact t (by omega) h.good h.loose k0 k1 with ⟨e, _⟩ | ⟨_, _, T⟩ | ⟨e, hf⟩ | ⟨e, c, hc⟩
    · rw [e] at hw; cases hw
    · have hlog := swap_log (M.cut root key).1 root (M.cut root key).2.1
      rcases T.tr with hz | ⟨h', hle, t', _, hd'⟩
      · exact .inl hz
      · right
        have hheld : ((M.cut root key).1.swap root (M.cut root key).2.1).1.pool.heldB (M.cut root key).2.1 = true := by
          rcases h2.root with ⟨e1, _⟩ | ⟨_, t2, _⟩
          · have := (heldB_int t'.held).1; omega
          · exact t2.held
        refine ⟨h', Tr.stays h2.exact hlog t' hheld, by omega, fun e => ?_⟩
        rw [ents_log hlog, sizes_log hlog]
        obtain ⟨d1, d2⟩ := hd (by omega)
        obtain ⟨e1, e2⟩ := hd' (by omega) (by omega)
        exact ⟨e1, e2 d2⟩
    · rw [List.length_singleton] at r1
      exfalso; omega
    · exfalso; have := hext c; omega
theorem kids_len {T : Int → List (Int × Int) → Prop} {f : Int → Nat} (hT : ∀ q a, T q a → f q ≤ a.length) : ∀ {es l : List (Int × Int)}, Kids T es l → (es.map fun e => f e.2).sum ≤ l.length
  | [], _, _ => Nat.zero_le _
  | e :: es, _, ⟨a, b, x, h1, h2, _, _, h5⟩ => by
    have i1 := hT _ _ h2
    have i2 := kids_len hT h5
    rw [List.map_cons, List.sum_cons, h1, List.length_append]
    omega
theorem tr_ge {m : Nat} {M : SM} : ∀ {h : Nat} {p : Int} {l : List (Int × Int)}, Tr m M h p l → M.entN p ≤ l.length ∧ 1 ≤ M.entN p
  | 0, _, _, t => t.elim
  | h + 1, p, l, ⟨hp, n, hn, hok, k⟩ => by
    have hin := innerOk_of hok (by have := k.kind; omega)
    rw [entN_of hn]
    refine ⟨?_, hin.pos⟩
    rcases k with ⟨_, _, hl⟩ | ⟨_, _, hK⟩
    · rw [hl]; exact Nat.le_refl _
    · have := kids_len (f := fun _ => 1) (fun q a ha => Nat.le_trans (tr_ge ha.1).2 (tr_ge ha.1).1) hK
      have e : ∀ es : List (Int × Int), (es.map fun _ => 1).sum = es.length := fun es => by
        induction es with
        | nil => rfl
        | cons e es ih => rw [List.map_cons, List.sum_cons, ih, List.length_cons]; omega
      rw [e] at this
      exact this
theorem dense_count {s : Nat} {M : SM} {root : Int} {l : List (Int × Int)} {P : Nat} (h : OneTree Clean s [0] M root l P) (hD : DenseAt M root l) : s ≤ M.pool.freeCount + 1 + (l.length + l.length / 2 + 1) := by
  have c1 := clean_free h.kk
  rw [h.size] at c1
  rcases hD with ⟨rfl, rfl⟩ | ⟨hh, t, h3, hd⟩
  · have hall := reach_all h.exact h.loose (L := [0]) (fun q _ hq => by
      unfold extB at hq
      rw [if_neg (by omega), Nat.add_zero] at hq
      exact List.count_pos_iff.1 hq) (fun q hq x hx => by
      obtain ⟨_, d, hd, _, he⟩ := h.data q hq
      rw [ents_of hd, he] at hx
      cases hx)
    have c2 := liveN_list hall
    rw [List.length_singleton] at c2
    omega
  · have c2 := liveN_list (h.all_live t)
    rw [List.length_append, List.length_singleton] at c2
    have hlen := tr_ge t
    have key : (pagesF M hh root).length ≤ l.length + l.length / 2 + 1 := by
      have hcase : hh = 1 ∨ hh = 2 ∨ hh = 3 := by have := tr_pos t; omega
      rcases hcase with rfl | rfl | rfl
      · show 1 ≤ _; omega
      · have : (pagesF M 2 root).length = 1 + (M.ents root.toNat).length := by
          show (root.toNat :: (M.ents root.toNat).flatMap fun e => [e.2.toNat]).length = _
          rw [List.length_cons]
          have : ∀ es : List (Int × Int), (es.flatMap fun e => [e.2.toNat]).length = es.length := fun es => by
            induction es with
            | nil => rfl
            | cons e es ih => rw [List.flatMap_cons, List.length_append, ih]; simp; omega
          rw [this]; omega
        rw [this]
        have h1 : M.entN root = (M.ents root.toNat).length := rfl
        omega
      · obtain ⟨d1, d2⟩ := hd rfl
        have e1 : (pagesF M 3 root).length = 1 + ((M.ents root.toNat).length + (sizesE M (M.ents root.toNat)).sum) := by
          show (root.toNat :: (M.ents root.toNat).flatMap fun e => pagesF M 2 e.2).length = _
          rw [List.length_cons]
          have : ∀ es : List (Int × Int), (es.flatMap fun e => pagesF M 2 e.2).length = es.length + (sizesE M es).sum := fun es => by
            induction es with
            | nil => rfl
            | cons e es ih =>
              have e2 : (pagesF M 2 e.2).length = 1 + M.entN e.2 := by
                show (e.2.toNat :: (M.ents e.2.toNat).flatMap fun e => [e.2.toNat]).length = _
                rw [List.length_cons]
                have : ∀ es : List (Int × Int), (es.flatMap fun e => [e.2.toNat]).length = es.length := fun es => by
                  induction es with
                  | nil => rfl
                  | cons e es ih => rw [List.flatMap_cons, List.length_append, ih]; simp; omega
                rw [this]
                show (M.ents e.2.toNat).length + 1 = 1 + (M.ents e.2.toNat).length
                omega
              have e3 : (sizesE M (e :: es)).sum = M.entN e.2 + (sizesE M es).sum := by unfold sizesE; rw [List.map_cons, List.sum_cons]
              rw [List.flatMap_cons, List.length_append, ih, e2, e3, List.length_cons]
              omega
          rw [this]; omega
        rw [e1]
        obtain ⟨_, n, hn, hok, k⟩ := t
        rcases k with ⟨h0, _⟩ | ⟨_, _, hK⟩
        · exact absurd h0 (by decide)
        · rw [ents_of hn] at d1 d2 ⊢
          have h1 : (sizesE M n.ents).sum ≤ l.length := kids_len (f := fun q => M.entN q) (fun q a ha => (tr_ge ha.1).1) hK
          have h2 := adj_sum d2 (fun x hx => by
            unfold sizesE at hx
            obtain ⟨e, he, rfl⟩ := List.mem_map.1 hx
            obtain ⟨a, ha, _⟩ := hK.each e he
            exact (tr_ge ha.1).2) (by intro e; have := congrArg List.length e; unfold sizesE at this; rw [List.length_map] at this; simp at this; rw [this] at d1; simp at d1)
          have h3 : (sizesE M n.ents).length = n.ents.length := by unfold sizesE; rw [List.length_map]
          omega
    omega
end Go.Proofs.YtidlchciehdefaaGreat
/-
  Exactly what is needed is there, plain: behind Tidy, as many pages are taken as a tree's nodes are, and the blocks.
-/
namespace Go.Proofs.YtidlchciehdefaaGreat
open Go.RowKit

theorem ints_cell {w : World} {Av : Option Addr} {n cap : Nat} {l : List Int} (h : SliceAt w (.slice Av n cap) 1 l.length (l.map (Value.int .i64))) {i : Nat} {x : Int} (hx : l[i]? = some x) :
    ∃ b off, Av = some ⟨b, off, none⟩ ∧ b < w.heap.size ∧ w.cell? ⟨b, off + i, none⟩ = some (.int .i64 x) := by
  have hi : i < l.length := (List.getElem?_eq_some_iff.1 hx).1
  obtain ⟨_, A', cap', hv, h1, h2, h3⟩ := id h
  injection hv with e1 e2 e3
  subst e2
  obtain ⟨b, off, hA, hb, hc⟩ := SliceAt.elem h hi (by decide)
  refine ⟨b, off, hA, hb, ?_⟩
  have := hc 0 (.int .i64 x) (by decide) (by simp [hx])
  simpa using this
def SM.tidy (M : SM) : SM := ⟨M.pool.turned 3 0, M.log⟩
/-- No page goes. -/
def Mild (M : SM) : Prop := ∀ q, M.pool.st q ≤ 3
theorem tidy_live (M : SM) (q : Nat) : M.tidy.live q = M.live q := by
  unfold SM.tidy SM.live PM.live PM.turned
  dsimp only
  by_cases h : M.pool.st q = 3
  · simp [h]
  · simp [h]
theorem tidy_size (M : SM) : M.tidy.pool.size = M.pool.size := rfl
theorem tidy_node (M : SM) (q : Nat) : M.tidy.nodeAt q = M.nodeAt q := rfl
theorem tidy_grown (M : SM) : Grown M M.tidy := ⟨rfl, fun q h => by rw [tidy_live]; exact h, fun _ _ => rfl⟩
theorem tidy_free {M : SM} (h : Mild M) : M.tidy.pool.freeCount + M.tidy.liveN = M.pool.size := by
  unfold PM.freeCount SM.liveN
  rw [freeN_sum, ← sumN_add]
  have : ∀ n, n ≤ M.pool.size → sumN (fun i => (if M.tidy.pool.freeB i then 1 else 0) + if M.tidy.live i then 1 else 0) n = n := by
    intro n
    induction n with
    | zero => intro _; rfl
    | succ n ih =>
      intro hn
      unfold sumN
      rw [ih (by omega)]
      have hq := h n
      have e : M.tidy.pool.freeB n = !M.tidy.live n := by
        unfold SM.tidy SM.live PM.live PM.turned PM.freeB
        dsimp only
        have hlt : n < M.pool.size := by omega
        have hs : M.pool.st n = 0 ∨ M.pool.st n = 1 ∨ M.pool.st n = 2 ∨ M.pool.st n = 3 := by omega
        by_cases hc : M.pool.cnt n = 0
        · rcases hs with hs | hs | hs | hs <;> simp [hs, hlt, hc]
        · have hc' : 0 < M.pool.cnt n := by omega
          rcases hs with hs | hs | hs | hs <;> simp [hs, hlt, hc, hc']
      rw [e]
      cases M.tidy.live n <;> simp
  exact this _ (Nat.le_refl _)
/-- A tree's pages are no blocks. -/
theorem pages_kind {m : Nat} {M : SM} : ∀ {h : Nat} {p : Int} {l : List (Int × Int)}, Tr m M h p l → ∀ q ∈ pagesF M h p, ∃ n, M.nodeAt q = some n ∧ n.kind ≠ 1
  | 0, _, _, t, _, _ => t.elim
  | h + 1, p, l, ⟨hp, n, hn, hok, k⟩, q, hq => by
    have he := ents_of hn
    unfold pagesF at hq
    rcases List.mem_cons.1 hq with rfl | hq
    · refine ⟨n, hn, ?_⟩
      rcases k with ⟨_, hk, _⟩ | ⟨_, hk, _⟩ <;> rw [hk] <;> decide
    · rcases k with ⟨h0, _, hl⟩ | ⟨h0, _, hK⟩
      · rw [if_pos h0] at hq
        cases hq
      · rw [if_neg (by omega), List.mem_flatMap] at hq
        obtain ⟨e, hee, hq⟩ := hq
        rw [he] at hee
        obtain ⟨a, ha, _⟩ := hK.each e hee
        exact pages_kind ha.1 q hq
/-- Is a page's node none of a block's? -/
def SM.innerB (M : SM) (x : Int) : Bool := match M.nodeAt x.toNat with | some n => decide (n.kind ≠ 1) | none => false
theorem OneTree.tidy {K : SM → Prop} {s : Nat} {bl : List Nat} {M : SM} {root : Int} {l : List (Int × Int)} {P : Nat} (h : OneTree K s bl M root l P) : OneTree (fun _ => True) s bl M.tidy root l P := by
  refine ⟨exact_same h.exact rfl (fun _ => rfl) (tidy_live M) (fun _ _ => rfl), h.size, trivial, fun b hb => ?_, h.keys, ?_, fun q hq hc => h.loose q (by rw [← tidy_live]; exact hq) hc⟩
  · obtain ⟨a, d⟩ := h.data b hb
    exact ⟨by rw [tidy_live]; exact a, d⟩
  · rcases h.root with e | ⟨k, t, j⟩
    · exact .inl e
    · exact .inr ⟨k, Tr.grown (tidy_grown M) t, Led.grown (tidy_grown M) t j⟩
/-- What exact asks. -/
theorem exact_count {K : SM → Prop} {s : Nat} {bl : List Nat} {M : SM} {root : Int} {l : List (Int × Int)} {P : Nat} (h : OneTree K s bl M root l P) (hm : Mild M) (hb : bl.Nodup) :
    ∃ L, M.tidy.reach [root] = (L, 0) ∧ (∀ x ∈ L, ∃ n, M.tidy.get x = (n, 0) ∧ M.innerB x = decide (n.kind ≠ 1)) ∧ M.tidy.pool.freeCount + (L.countP M.innerB + bl.length) = s ∧ L.length ≤ M.pool.size := by
  have T := h.tidy
  have hr : ∀ r ∈ [root], r = -1 ∨ M.tidy.pool.heldB r = true := fun r hr => by
    rw [List.mem_singleton] at hr
    subst hr
    rcases T.root with ⟨e, _⟩ | ⟨k, t, _⟩
    · exact .inl e
    · exact .inr t.held
  obtain ⟨L, e, R⟩ := reach_ok T.exact hr
  refine ⟨L, e, fun x hx => ?_, ?_, ?_⟩
  · obtain ⟨n, hn, _, hg⟩ := get_live T.exact (R.live x hx)
    refine ⟨n, hg, ?_⟩
    unfold SM.innerB
    rw [show M.nodeAt x.toNat = some n from hn]
  · have hbl : ∀ b ∈ bl, M.innerB (b : Int) = false := fun b hb => by
      obtain ⟨_, d, hd, hk, _⟩ := h.data b hb
      unfold SM.innerB
      rw [Int.toNat_natCast, hd]
      simp [hk]
    have hout : ∀ q, M.live q = true → q ∈ bl ∨ ((q : Int) ∈ L ∧ M.innerB (q : Int) = true) := fun q hq => by
      by_cases hqb : q ∈ bl
      · exact .inl hqb
      · right
        rcases h.root with ⟨he, hl0⟩ | ⟨k, t, j⟩
        · have := reach_all h.exact h.loose (L := bl) (fun q _ hq => by
            unfold extB at hq
            rw [if_neg (by omega), Nat.add_zero] at hq
            exact List.count_pos_iff.1 hq) (fun q hq x hx => by
            obtain ⟨_, d, hd, _, hde⟩ := h.data q hq
            rw [ents_of hd, hde] at hx
            cases hx) q hq
          exact absurd this hqb
        · have hp : q ∈ pagesF M k root := (List.mem_append.1 (h.all_live t q hq)).resolve_left hqb
          obtain ⟨n, hn, hk⟩ := pages_kind t q hp
          refine ⟨?_, by unfold SM.innerB; rw [Int.toNat_natCast, hn]; simp [hk]⟩
          have hin := reach_all T.exact T.loose (L := bl ++ L.map Int.toNat) (fun q _ hq => by
            unfold extB at hq
            by_cases e : (q : Int) = root
            · exact List.mem_append_right _ (List.mem_map.2 ⟨q, R.next _ (List.mem_singleton.2 e) (by omega), Int.toNat_natCast q⟩)
            · rw [if_neg e, Nat.add_zero] at hq
              exact List.mem_append_left _ (List.count_pos_iff.1 hq)) (fun q hq x hx => by
            rcases List.mem_append.1 hq with hq | hq
            · obtain ⟨_, d, hd, _, hde⟩ := T.data q hq
              rw [ents_of hd, hde] at hx
              cases hx
            · obtain ⟨y, hy, rfl⟩ := List.mem_map.1 hq
              exact List.mem_append_right _ (List.mem_map.2 ⟨x.2, R.kids y hy x hx, rfl⟩)) q (by rw [tidy_live]; exact hq)
          obtain ⟨y, hy, hye⟩ := List.mem_map.1 ((List.mem_append.1 hin).resolve_left hqb)
          have h0 := (heldB_int (R.live y hy)).1
          rw [show (q : Int) = y by omega]
          exact hy
    have hnd : (bl ++ (L.filter M.innerB).map Int.toNat).Nodup := by
      rw [List.nodup_append]
      refine ⟨hb, ?_, fun a ha b hbm hab => ?_⟩
      · rw [List.nodup_iff_pairwise_ne, List.pairwise_map]
        refine (R.nodup.filter _).imp_of_mem fun ha hb hne => ?_
        have h0 := (heldB_int (R.live _ (List.mem_filter.1 ha).1)).1
        have h1 := (heldB_int (R.live _ (List.mem_filter.1 hb).1)).1
        omega
      · obtain ⟨y, hy, hye⟩ := List.mem_map.1 hbm
        obtain ⟨hy1, hy2⟩ := List.mem_filter.1 hy
        have h0 := (heldB_int (R.live y hy1)).1
        have := hbl a ha
        rw [show (a : Int) = y by omega, hy2] at this
        exact absurd this (by decide)
    have hsum := sum_list_eq (f := fun _ => 1) (bl ++ (L.filter M.innerB).map Int.toNat) M.tidy.live M.tidy.pool.size hnd
      (fun q hq => by
        have hl : M.tidy.live q = true := by
          rcases List.mem_append.1 hq with hq | hq
          · exact (T.data q hq).1
          · obtain ⟨y, hy, rfl⟩ := List.mem_map.1 hq
            exact (heldB_int (R.live y (List.mem_filter.1 hy).1)).2
        exact ⟨live_lt hl, hl⟩)
      (fun q _ hq => by
        rw [tidy_live] at hq
        rcases hout q hq with hq | ⟨h1, h2⟩
        · exact List.mem_append_left _ hq
        · exact List.mem_append_right _ (List.mem_map.2 ⟨q, List.mem_filter.2 ⟨h1, h2⟩, Int.toNat_natCast q⟩))
    have hone : ∀ L : List Nat, (L.map fun _ => 1).sum = L.length := fun L => by
      induction L with
      | nil => rfl
      | cons a L ih => rw [List.map_cons, List.sum_cons, ih, List.length_cons]; omega
    have hfree := tidy_free hm
    rw [hone, List.length_append, List.length_map, ← List.countP_eq_length_filter] at hsum
    have : M.tidy.liveN = bl.length + L.countP M.innerB := hsum
    have := h.size
    omega
  · have hn : (L.map Int.toNat).Nodup := by
      rw [List.nodup_iff_pairwise_ne, List.pairwise_map]
      refine R.nodup.imp_of_mem fun ha hb hne => ?_
      have h0 := (heldB_int (R.live _ ha)).1
      have h1 := (heldB_int (R.live _ hb)).1
      omega
    have hsub : (L.map Int.toNat) ⊆ List.range M.pool.size := fun q hq => by
      obtain ⟨y, hy, rfl⟩ := List.mem_map.1 hq
      rw [List.mem_range]
      exact live_lt (M := M.tidy) (heldB_int (R.live y hy)).2
    have := List.Nodup.length_le_of_subset hn hsub
    rw [List.length_map, List.length_range] at this
    exact this
end Go.Proofs.YtidlchciehdefaaGreat
/-
  Images, plain: blocks in trees, several of them in a store; a block is written.
-/
namespace Go.Proofs.YtidlchciehdefaaGreat
open Go.RowKit

/-- An image: its root, its entries, how many puts it took at most, its blocks. -/
structure IM where
  root : Int
  l : List (Int × Int)
  P : Nat
  w : Int → List Nat
def upd (w : Int → List Nat) (key : Int) (b : List Nat) : Int → List Nat := fun k => if k = key then b else w k
def IM.none : IM := ⟨-1, [], 0, fun _ => zeros16⟩
structure Img (m : Nat) (M : SM) (i : IM) : Prop where
  tree : TreeIn m M i.root i.l i.P
  data : ∀ y ∈ i.l, ∃ d, M.nodeAt y.2.toNat = some d ∧ d.kind = 1 ∧ d.block = i.w y.1 ∧ d.ents = []
  zero : ∀ k, 0 ≤ k → k < 64 → (∀ y ∈ i.l, y.1 ≠ k) → i.w k = zeros16
/-- Who holds: the roots. -/
def extL (rs : List Int) : Nat → Nat := fun p => rs.count (p : Int)
structure Imgs (m : Nat) (M : SM) (is : List IM) : Prop where
  exact : Exact M (extL (is.map (·.root)))
  loose : Loose M []
  img : ∀ i ∈ is, Img m M i
section
variable {m : Nat} {M N : SM} {is : List IM} {i : IM} {k : Nat}
theorem Img.none (m : Nat) (M : SM) : Img m M .none := ⟨TreeIn.none m M 0, fun y hy => (by cases hy), fun _ _ _ _ => rfl⟩
theorem Img.held (h : Img m M i) {ext : Nat → Nat} (E : Exact M ext) {y : Int × Int} (hy : y ∈ i.l) : M.live y.2.toNat = true := (heldB_int (h.tree.held E y hy)).2
/-- Pools that hold the same, and logs that say the same of what is there. -/
theorem Imgs.same (h : Imgs m M is) (hs : N.pool.size = M.pool.size) (hc : ∀ q, N.pool.cnt q = M.pool.cnt q) (hl : ∀ q, N.live q = M.live q) (hn : ∀ q, M.live q = true → N.nodeAt q = M.nodeAt q) : Imgs m N is := by
  have g := grown_same hs hl hn
  refine ⟨exact_same h.exact hs hc hl hn, fun q hq hq0 => h.loose q (by rw [← hl]; exact hq) (by rw [← hc]; exact hq0), fun i hi => ?_⟩
  have hI := h.img i hi
  exact ⟨hI.tree.grown g, fun y hy => by
    obtain ⟨d, hd, r⟩ := hI.data y hy
    exact ⟨d, by rw [hn _ (hI.held h.exact hy)]; exact hd, r⟩, hI.zero⟩
theorem Imgs.tidy (h : Imgs m M is) : Imgs m M.tidy is := h.same rfl (fun _ => rfl) (tidy_live M) (fun _ _ => rfl)
theorem Imgs.mark (h : Imgs m M is) : Imgs m (markM M) is := h.same rfl (fun _ => rfl) (mark_live M) (fun _ _ => rfl)
theorem Imgs.undo (h : Imgs m M is) (k : Marked M N) : Imgs m ⟨M.pool, N.log⟩ is := h.same rfl (fun _ => rfl) (fun _ => rfl) (fun q hq => k.node q hq)
/-- The pool is committed. -/
def SM.commit (M : SM) : SM := ⟨{ M.pool with st := fun _ => 0 }, M.log⟩
theorem commit_live {M : SM} (hl : Loose M []) (q : Nat) : M.commit.live q = M.live q := by
  have e : M.commit.live q = (decide (q < M.pool.size) && decide (0 < M.pool.cnt q)) := by
    unfold SM.commit SM.live PM.live
    simp
  rw [e]
  by_cases h : M.live q = true
  · have hlt := live_lt h
    have hc : 0 < M.pool.cnt q := Nat.pos_of_ne_zero fun e => by
      obtain ⟨y, hy, _⟩ := hl q h e
      cases hy
    rw [h]
    simp [hlt, hc]
  · have h' : M.live q = false := by simpa using h
    rw [h']
    simp only [SM.live, PM.live, Bool.and_eq_false_iff, decide_eq_false_iff_not, Bool.or_eq_false_iff] at h'
    rw [Bool.and_eq_false_iff]
    rcases h' with h' | h'
    · exact .inl (by simpa using h')
    · exact .inr (by simpa using h'.1)
theorem Imgs.commit (h : Imgs m M is) : Imgs m M.commit is := h.same rfl (fun _ => rfl) (commit_live h.loose) (fun _ _ => rfl)
theorem extL_pos {rs : List Int} {r : Int} (h : r ∈ rs) (h0 : 0 ≤ r) : 0 < extL rs r.toNat := by
  unfold extL
  rw [Int.toNat_of_nonneg h0]
  exact List.count_pos_iff.2 h
theorem extL_root {rs : List Int} {r : Int} (h : r ∈ rs) (h0 : -1 ≤ r) : r = -1 ∨ 0 < extL rs r.toNat := by
  by_cases e : r = -1
  · exact .inl e
  · exact .inr (extL_pos h (by omega))
theorem extL_set {rs : List Int} {r next : Int} {k : Nat} (h : rs[k]? = some r) (p : Nat) : swapE (extL rs) r next p = extL (rs.set k next) p := by
  have hk : k < rs.length := (List.getElem?_eq_some_iff.1 h).1
  have hr := (List.getElem?_eq_some_iff.1 h).2
  unfold swapE extL
  rw [List.count_set hk, hr]
  by_cases e1 : (p : Int) = r <;> by_cases e2 : (p : Int) = next
  · rw [if_pos e1, if_pos e2]
    have a1 : (r == (p : Int)) = true := by simp [e1]
    have a2 : (next == (p : Int)) = true := by simp [e2]
    simp only [a1, a2, if_true]
    have : 0 < List.count (p : Int) rs := List.count_pos_iff.2 (by rw [e1, ← hr]; exact List.getElem_mem hk)
    omega
  · rw [if_pos e1, if_neg e2]
    have a1 : (r == (p : Int)) = true := by simp [e1]
    have a2 : (next == (p : Int)) = false := by simp; omega
    simp only [a1, a2, if_true]
    simp
  · rw [if_neg e1, if_pos e2]
    have a1 : (r == (p : Int)) = false := by simp; omega
    have a2 : (next == (p : Int)) = true := by simp [e2]
    simp only [a1, a2, if_true]
    simp
  · rw [if_neg e1, if_neg e2]
    have a1 : (r == (p : Int)) = false := by simp; omega
    have a2 : (next == (p : Int)) = false := by simp; omega
    simp only [a1, a2]
    simp
theorem TreeIn.low {m : Nat} {M : SM} {root : Int} {l : List (Int × Int)} {P : Nat} (t : TreeIn m M root l P) : -1 ≤ root := by
  rcases t.root with ⟨e, _⟩ | ⟨_, t, _⟩
  · omega
  · have := (heldB_int t.held).1; omega
/-- What changes one image leaves the others. -/
theorem imgs_changed (E : Exact M (extL (is.map (·.root)))) (hall : ∀ i ∈ is, Img m M i) (hi : is[k]? = some i) {i' : IM} {M' : SM} (C : Changed m M (extL (is.map (·.root))) i.root i'.l i'.P M' i'.root)
    (hd : ∀ y ∈ i'.l, ∃ d, M'.nodeAt y.2.toNat = some d ∧ d.kind = 1 ∧ d.block = i'.w y.1 ∧ d.ents = []) (hz : ∀ k, 0 ≤ k → k < 64 → (∀ y ∈ i'.l, y.1 ≠ k) → i'.w k = zeros16) : Imgs m M' (is.set k i') := by
  have hroots : (is.set k i').map (·.root) = (is.map (·.root)).set k i'.root := List.map_set ..
  have hr : (is.map (·.root))[k]? = some i.root := by rw [List.getElem?_map, hi]; rfl
  have E' : Exact M' (extL ((is.set k i').map (·.root))) := by
    rw [hroots]
    exact exact_congr C.exact fun p _ => extL_set hr p
  refine ⟨E', C.loose, fun j hj => ?_⟩
  rcases List.mem_or_eq_of_mem_set hj with hj' | rfl
  · have hJ := hall j hj'
    have hin : j.root ∈ (is.set k i').map (·.root) := List.mem_map.2 ⟨j, hj, rfl⟩
    have t' := C.others m j.root j.l j.P hJ.tree (by
      rcases extL_root hin hJ.tree.low with e | e
      · exact .inl e
      · exact .inr (by rw [extL_set hr, ← hroots]; exact e))
    exact ⟨t', fun y hy => by
      obtain ⟨d, hd, r⟩ := hJ.data y hy
      exact ⟨d, by rw [C.node _ (hJ.held E hy)]; exact hd, r⟩, hJ.zero⟩
  · exact ⟨C.tree, hd, hz⟩
end
/-- A store tidied up, and marked. -/
def SM.marked (M : SM) : SM := markM M.tidy
def SM.safely (M : SM) (r : SM × Int × Nat) : SM × Int × Nat := if r.2.2 = 0 then r else (⟨M.marked.pool, r.1.log⟩, -1, r.2.2)
def SM.write1 (M : SM) (root key : Int) (b : List Nat) : SM × Int × Nat := let m := M.make ⟨1, b, []⟩; if m.2.2 = 0 then m.1.changes [(key, m.2.1)] root else (m.1, -1, m.2.2)
def SM.write (M : SM) (root key : Int) (b : List Nat) : SM × Int × Nat := if key < 0 ∨ 63 < key then (M, -1, 101) else M.safely (M.marked.write1 root key b)
theorem change_one (c : Int × Int) (M : SM) (root : Int) : SM.changes [c] M root = M.change root c := by
  unfold SM.changes SM.changes
  by_cases h : (M.change root c).2.2 = 0
  · rw [if_pos h]
    conv => rhs; rw [show M.change root c = ((M.change root c).1, (M.change root c).2.1, (M.change root c).2.2) from rfl, h]
  · rw [if_neg h]
theorem data_ok {b : List Nat} (hb : b.length = 16) (h256 : ∀ x ∈ b, x < 256) : NM.ok ⟨1, b, []⟩ := ⟨by unfold NM.rightB; rw [if_pos rfl]; rfl, hb, h256⟩
section
variable {m : Nat} {M : SM} {is : List IM} {i : IM} {k : Nat}
theorem write1_ok (hm : m ≤ 3) (h : Imgs m M is) (hi : is[k]? = some i) (hP : i.P + 1 ≤ 150) {key : Int} (k0 : 0 ≤ key) (k1 : key < 64) {b : List Nat} (hb : b.length = 16) (h256 : ∀ x ∈ b, x < 256) :
    ((M.write1 i.root key b).2.2 = 0 ∧ ∃ pg, Imgs m (M.write1 i.root key b).1 (is.set k ⟨(M.write1 i.root key b).2.1, putL i.l (key, pg), i.P + 1, upd i.w key b⟩)) ∨
      ((M.write1 i.root key b).2.1 = -1 ∧ (((M.write1 i.root key b).2.2 = 71 ∧ (M.pool.freeCount = 0 ∨ ∃ M1 h, Grown M M1 ∧ Rooted m M1 i.root i.l h ∧ (i.root = -1 ∨ Led M1 h i.root i.P) ∧ M.pool.freeCount < 2 * h + 4)) ∨ ((M.write1 i.root key b).2.2 = 72 ∧ ∃ q, 255 ≤ M.sum + 38 + extL (is.map (·.root)) q))) := by
  have hr : i ∈ is := List.mem_of_getElem? hi
  have hI := h.img i hr
  unfold SM.write1
  dsimp only
  rcases make_ok h.exact (data_ok hb h256) (fun x hx => by cases hx) with ⟨pg, e, D⟩ | ⟨e, hf⟩ | ⟨e, q, hq⟩
  · rw [show (M.make ⟨1, b, []⟩).2.2 = 0 by rw [e], show (M.make ⟨1, b, []⟩).2.1 = (pg : Int) by rw [e], if_pos rfl, change_one]
    obtain ⟨M1, hM1⟩ : ∃ M1, (M.make ⟨1, b, []⟩).1 = M1 := ⟨_, rfl⟩
    rw [hM1] at D ⊢
    have h1 : TreeIn m M1 i.root i.l i.P := hI.tree.grown D.grown
    have hne : ((pg : Nat) : Int) ≠ -1 := by omega
    have hl1 : Loose M1 [(key, (pg : Int))] := fun q hq hc => by
      rcases D.only q hq with rfl | hq'
      · exact ⟨_, List.mem_singleton.2 rfl, rfl⟩
      · have hc' : M.pool.cnt q = 0 := by
          have := D.cnt q
          omega
        obtain ⟨y, hy, _⟩ := h.loose q hq' hc'
        cases hy
    have hs : M1.sum = M.sum := by have := D.sum; simpa using this
    rcases change_ok hm D.exact h1 hP (extL_root (List.mem_map.2 ⟨i, hr, rfl⟩) hI.tree.low) (c := (key, (pg : Int))) k0 k1 (.inr (by rw [heldB_nat]; exact D.live)) (by rw [if_neg hne]; exact hl1) (fun e => absurd e hne) with ⟨e, C⟩ | ⟨e1, e⟩
    · left
      refine ⟨e, (pg : Int), ?_⟩
      have hchg : chgL i.l (key, (pg : Int)) = putL i.l (key, (pg : Int)) := by unfold chgL; rw [if_neg hne]
      rw [hchg] at C
      have g1 : ∀ j ∈ is, Img m M1 j := fun j hj => ⟨(h.img j hj).tree.grown D.grown, fun y hy => by
        obtain ⟨d, hd, r⟩ := (h.img j hj).data y hy
        exact ⟨d, by rw [D.grown.node _ ((h.img j hj).held h.exact hy)]; exact hd, r⟩, (h.img j hj).zero⟩
      refine imgs_changed D.exact g1 hi (i' := ⟨_, putL i.l (key, (pg : Int)), i.P + 1, upd i.w key b⟩) C (fun y hy => ?_) (fun j j0 j1 hj => ?_)
      · rcases putL_mem hy with rfl | hy'
        · refine ⟨⟨1, b, []⟩, ?_, rfl, ?_, rfl⟩
          · show ((M1.change i.root (key, (pg : Int))).1).nodeAt (Int.toNat (pg : Int)) = _
            rw [Int.toNat_natCast, C.node _ D.live, D.node]
          · show b = upd i.w key b key
            unfold upd; rw [if_pos rfl]
        · obtain ⟨d, hd, e1, e2, e3⟩ := (g1 i hr).data y hy'
          refine ⟨d, by rw [C.node _ ((g1 i hr).held D.exact hy')]; exact hd, e1, ?_, e3⟩
          show d.block = upd i.w key b y.1
          have hyk : y.1 ≠ key := fun e => by
            unfold putL at hy
            simp only [List.mem_append, List.mem_singleton, List.mem_filter, decide_eq_true_eq] at hy
            rcases hy with (hy | hy) | hy
            · omega
            · have : y.2 = (pg : Int) := by rw [hy]
              have hlv := hI.held h.exact hy'
              rw [this, Int.toNat_natCast, D.new] at hlv
              cases hlv
            · omega
          unfold upd; rw [if_neg hyk]; exact e2
      · show upd i.w key b j = zeros16
        have hjk : j ≠ key := fun e => hj (key, (pg : Int)) (putL_has _ _) e.symm
        unfold upd; rw [if_neg hjk]
        refine hI.zero j j0 j1 fun y hy e => ?_
        by_cases hyk : y.1 < key
        · exact hj y (by unfold putL; simp [hy, hyk]) e
        · exact hj y (by unfold putL; simp only [List.mem_append, List.mem_filter, decide_eq_true_eq]; exact .inr ⟨hy, by omega⟩) e
    · right
      have := D.free
      exact ⟨e1, e.imp (fun ⟨e, hh, ht, hled, hf⟩ => ⟨e, .inr ⟨M1, hh, D.grown, ht, hled, by omega⟩⟩) (fun ⟨e, q, hq⟩ => ⟨e, q, by omega⟩)⟩
  · right
    rw [show (M.make ⟨1, b, []⟩).2.2 = 71 by rw [e], if_neg (by decide)]
    exact ⟨rfl, .inl ⟨rfl, .inl hf⟩⟩
  · right
    rw [show (M.make ⟨1, b, []⟩).2.2 = 72 by rw [e], if_neg (by decide)]
    exact ⟨rfl, .inr ⟨rfl, q, by simp only [List.length_nil] at hq; omega⟩⟩
end
end Go.Proofs.YtidlchciehdefaaGreat
/-
  What a tree finds, and its height, plain; the document's Put, Cut, Find and Trim, plain.
-/
namespace Go.Proofs.YtidlchciehdefaaGreat
open Go.RowKit

/-- The page of a key. -/
def findL : List (Int × Int) → Int → Int
  | [], _ => -1
  | y :: l, key => if y.1 = key then y.2 else findL l key
theorem findL_none : ∀ {l : List (Int × Int)} {key : Int}, (∀ y ∈ l, y.1 ≠ key) → findL l key = -1
  | [], _, _ => rfl
  | y :: l, key, h => by
    unfold findL
    rw [if_neg (h y (List.mem_cons_self ..)), findL_none fun z hz => h z (List.mem_cons_of_mem _ hz)]
theorem findL_skip : ∀ {a l : List (Int × Int)} {key : Int}, (∀ y ∈ a, y.1 ≠ key) → findL (a ++ l) key = findL l key
  | [], _, _, _ => rfl
  | y :: a, l, key, h => by
    rw [List.cons_append, findL, if_neg (h y (List.mem_cons_self ..))]
    exact findL_skip fun z hz => h z (List.mem_cons_of_mem _ hz)
theorem findL_left : ∀ {a l : List (Int × Int)} {key : Int}, (∀ y ∈ l, y.1 ≠ key) → findL (a ++ l) key = findL a key
  | [], _, _, h => findL_none h
  | y :: a, l, key, h => by
    rw [List.cons_append, findL, findL]
    split
    · rfl
    · exact findL_left h
theorem findF_succ (f : Nat) (M : SM) (root key : Int) : SM.findF (f + 1) M root key = if root = -1 then (-1, 0) else
      if (M.tnode root (8 - f)).2 = 0 then
        if atI (M.tnode root (8 - f)).1.ents key < 0 ∨ ((M.tnode root (8 - f)).1.kind = 2 ∧ ((M.tnode root (8 - f)).1.ents.getD (atI (M.tnode root (8 - f)).1.ents key).toNat (0, 0)).1 ≠ key) then (-1, 0)
        else if (M.tnode root (8 - f)).1.kind = 2 then (((M.tnode root (8 - f)).1.ents.getD (atI (M.tnode root (8 - f)).1.ents key).toNat (0, 0)).2, 0)
          else SM.findF f M ((M.tnode root (8 - f)).1.ents.getD (atI (M.tnode root (8 - f)).1.ents key).toNat (0, 0)).2 key
      else (-1, (M.tnode root (8 - f)).2) := rfl
theorem find_ok {m : Nat} {M : SM} {key : Int} : ∀ (h d : Nat) (p : Int) (l : List (Int × Int)), h + d ≤ 8 → Tr m M h p l → Good M l → SM.findF (9 - d) M p key = (findL l key, 0)
  | 0, _, _, _, _, t, _ => t.elim
  | h + 1, d, p, l, hd, t, g => by
    obtain ⟨n, hn, hna, hok, k⟩ := tnode_tr t (d := d) (by omega)
    have ge := k.good g
    have hp0 := (heldB_int t.held).1
    have hb := atI_bound (l := n.ents) key
    rw [show 9 - d = (8 - d) + 1 by omega, findF_succ, show 8 - (8 - d) = d by omega, hn]
    dsimp only
    rw [if_neg (by omega), if_pos rfl]
    by_cases ha : atI n.ents key < 0
    · rw [if_pos (.inl ha), findL_none]
      intro y hy
      obtain ⟨e, he, hle⟩ := k.ge g.1 y hy
      have := atI_neg ge.1 ha e he
      omega
    obtain ⟨i, hi⟩ := Int.eq_ofNat_of_zero_le (show 0 ≤ atI n.ents key by omega)
    have hil : i < n.ents.length := by omega
    rw [hi, Int.toNat_natCast]
    rcases k with ⟨h0, hk, hl⟩ | ⟨h0, hk, hK⟩
    · have hlc := leaf_cut ge.1 hi hil
      by_cases hke : (n.ents.getD i (0, 0)).1 = key
      · rw [if_neg (fun e => by rcases e with e | e; exact absurd e (by omega); exact e.2 hke), if_pos hk]
        have hg : n.ents.getD i (0, 0) = n.ents[i] := by simp [List.getD, List.getElem?_eq_getElem hil]
        have hd' : n.ents.drop i = n.ents[i] :: n.ents.drop (i + 1) := List.drop_eq_getElem_cons hil
        have hlt : ∀ y ∈ n.ents.take i, y.1 < n.ents[i].1 := fun y hy => rises_cut ge.1 i y hy n.ents[i] (by rw [hd']; exact List.mem_cons_self ..)
        rw [hg] at hke ⊢
        rw [← hl]
        have e : n.ents = n.ents.take i ++ n.ents[i] :: n.ents.drop (i + 1) := by rw [← hd', List.take_append_drop]
        have e2 : findL n.ents key = n.ents[i].2 := by
          have e3 : findL (n.ents.take i ++ n.ents[i] :: n.ents.drop (i + 1)) key = n.ents[i].2 := by
            rw [findL_skip (fun y hy => by have := hlt y hy; omega), findL, if_pos hke]
          rw [← e] at e3
          exact e3
        rw [e2]
      · rw [if_pos (.inr ⟨hk, hke⟩), ← hl, findL_none (hlc.2 hke)]
    · rw [if_neg (fun e => by rcases e with e | e; exact absurd e (by omega); have := e.1; omega), if_neg (by omega)]
      obtain ⟨_, hc1, hc2⟩ := atI_cut ge.1 key (c := i + 1) (by rw [hi]; omega)
      have hg : n.ents.getD i (0, 0) = n.ents[i] := by simp [List.getD, List.getElem?_eq_getElem hil]
      have hes : n.ents = n.ents.take i ++ n.ents[i] :: n.ents.drop (i + 1) := by rw [← List.drop_eq_getElem_cons hil, List.take_append_drop]
      rw [hg]
      obtain ⟨e, he⟩ : ∃ e, n.ents[i] = e := ⟨_, rfl⟩
      obtain ⟨es1, he1⟩ : ∃ es1, n.ents.take i = es1 := ⟨_, rfl⟩
      obtain ⟨es2, he2⟩ : ∃ es2, n.ents.drop (i + 1) = es2 := ⟨_, rfl⟩
      have hee1 : e.1 ≤ key := hc1 e (by rw [← he, List.mem_take_iff_getElem]; exact ⟨i, by omega, rfl⟩)
      have hee2 : ∀ f ∈ es2, key < f.1 := fun f hf => hc2 f (by rw [he2]; exact hf)
      rw [he, he1, he2] at hes
      rw [he]
      rw [hes] at hK
      obtain ⟨a, b, hab, hK1, s, tt, y, hst, hT, hy, hye, hK2⟩ := hK.cut
      subst hab hst
      have ga : ∀ z ∈ a, z.1 < key := fun z hz => by
        have hys : y ∈ s ++ tt := List.mem_append_left _ (List.mem_of_mem_head? (by rw [hy]; rfl))
        have := (List.pairwise_append.1 g.1).2.2 z hz y hys
        omega
      have gt : ∀ z ∈ tt, key < z.1 := fun z hz => by
        cases es2 with
        | nil => rw [show tt = [] from hK2] at hz; cases hz
        | cons f es2 =>
          obtain ⟨u, hu, hue⟩ := hK2.head
          have h1 := hee2 f (List.mem_cons_self ..)
          have h2 := head_le g.right.right.1 hu z hz
          omega
      have hr := find_ok (key := key) h (d + 1) e.2 s (by omega) hT.1 g.right.left
      rw [show 9 - (d + 1) = 8 - d by omega] at hr
      rw [hr, findL_skip (fun z hz => by have := ga z hz; omega), findL_left (fun z hz => by have := gt z hz; omega)]
theorem heightF_succ (f : Nat) (M : SM) (root : Int) : SM.heightF (f + 1) M root = if root = -1 then (8 - f, 0) else
      if (M.tnode root (8 - f)).2 = 0 then
        if (M.tnode root (8 - f)).1.kind = 2 then (8 - f + 1, 0) else SM.heightF f M ((M.tnode root (8 - f)).1.ents.getD 0 (0, 0)).2
      else (0, (M.tnode root (8 - f)).2) := rfl
theorem height_ok {m : Nat} {M : SM} : ∀ (h d : Nat) (p : Int) (l : List (Int × Int)), h + d ≤ 8 → Tr m M h p l → SM.heightF (9 - d) M p = (d + h, 0)
  | 0, _, _, _, _, t => t.elim
  | h + 1, d, p, l, hd, t => by
    obtain ⟨n, hn, hna, hok, k⟩ := tnode_tr t (d := d) (by omega)
    have hp0 := (heldB_int t.held).1
    rw [show 9 - d = (8 - d) + 1 by omega, heightF_succ, show 8 - (8 - d) = d by omega, hn]
    dsimp only
    rw [if_neg (by omega), if_pos rfl]
    rcases k with ⟨h0, hk, hl⟩ | ⟨h0, hk, hK⟩
    · rw [if_pos hk, h0]
    · rw [if_neg (by omega)]
      have hin := innerOk_of hok (by omega)
      have hpos := hin.pos
      cases hes : n.ents with
      | nil => rw [hes] at hpos; exact absurd hpos (by decide)
      | cons e es =>
        rw [hes] at hK
        obtain ⟨a, b, x, _, hT, _⟩ := hK
        have := height_ok h (d + 1) e.2 a (by omega) hT.1
        rw [show 9 - (d + 1) = 8 - d by omega] at this
        show SM.heightF (8 - d) M e.2 = _
        rw [this]
        congr 1
        omega
section
variable {K : SM → Prop} {s : Nat} {bl : List Nat} {M : SM} {root : Int} {l : List (Int × Int)} {P : Nat}
theorem OneTree.find (h : OneTree K s bl M root l P) (hP : P ≤ 150) (key : Int) : M.find root key = (findL l key, 0) := by
  obtain ⟨k, hr, hk, _⟩ := h.rooted hP
  rcases hr with ⟨e, el, _⟩ | t
  · subst e el
    rfl
  · exact find_ok k 0 root l (by omega) t h.good
theorem OneTree.height (h : OneTree K s bl M root l P) (hP : P ≤ 150) : ∃ k, M.height root = (k, 0) ∧ k ≤ 5 ∧ (l ≠ [] → 1 ≤ k) := by
  rcases h.root with ⟨e, el⟩ | ⟨k, t, j⟩
  · subst e el
    exact ⟨0, rfl, by omega, fun e => absurd rfl e⟩
  · refine ⟨k, ?_, (led_pages t j hP).1, fun _ => tr_pos t⟩
    have := height_ok k 0 root l (by have := (led_pages t j hP).1; omega) t
    rw [Nat.zero_add] at this
    exact this
end
/-- The document's Put, step by step: what was put out, and whether the new one was. -/
def putStep (x : Int × Int) (s : List (Int × Int) × Bool) (y : Int × Int) : List (Int × Int) × Bool :=
  let s1 := if s.2 = false ∧ x.1 ≤ y.1 then (s.1 ++ [x], true) else s
  (if y.1 ≠ x.1 then s1.1 ++ [y] else s1.1, s1.2)
def refPut (l : List (Int × Int)) (x : Int × Int) : List (Int × Int) :=
  let s := l.foldl (putStep x) ([], false)
  if s.2 then s.1 else s.1 ++ [x]
theorem put_true (x : Int × Int) : ∀ (l a : List (Int × Int)), l.foldl (putStep x) (a, true) = (a ++ l.filter fun y => decide (y.1 ≠ x.1), true)
  | [], a => by simp
  | y :: l, a => by
    rw [List.foldl_cons]
    have : putStep x (a, true) y = (a ++ [y].filter (fun y => decide (y.1 ≠ x.1)), true) := by
      unfold putStep
      by_cases e : y.1 = x.1 <;> simp [e]
    rw [this, put_true x l, List.append_assoc, ← List.filter_append, List.singleton_append]
theorem refPut_eq {l : List (Int × Int)} (hr : RisesK l) (x : Int × Int) : refPut l x = putL l x := by
  have key : ∀ (l a : List (Int × Int)), RisesK l → (let s := l.foldl (putStep x) (a, false); if s.2 then s.1 else s.1 ++ [x]) = a ++ putL l x := by
    intro l
    induction l with
    | nil => intro a _; rfl
    | cons y l ih =>
      intro a hr
      have hr' := List.pairwise_cons.1 hr
      rw [List.foldl_cons]
      by_cases hy : x.1 ≤ y.1
      · have hst : putStep x (a, false) y = (a ++ [x] ++ [y].filter (fun y => decide (y.1 ≠ x.1)), true) := by
          unfold putStep
          by_cases e : y.1 = x.1
          · have : x.1 ≤ x.1 := Int.le_refl _
            simp [e]
          · simp [e, hy]
        have hall : l.filter (fun y => decide (y.1 ≠ x.1)) = l := filter_all fun z hz => by have := hr'.1 z hz; simp; omega
        have h1 : (y :: l).filter (fun z => decide (z.1 < x.1)) = [] := filter_none fun z hz => by
          rcases List.mem_cons.1 hz with rfl | hz
          · simp; omega
          · have := hr'.1 z hz; simp; omega
        have h2 : l.filter (fun z => decide (x.1 < z.1)) = l := filter_all fun z hz => by have := hr'.1 z hz; simp; omega
        rw [hst, put_true]
        dsimp only
        rw [if_pos rfl, hall]
        unfold putL
        rw [h1, List.nil_append, List.append_assoc, List.append_assoc]
        congr 2
        by_cases e : y.1 = x.1
        · have h3 : (y :: l).filter (fun z => decide (x.1 < z.1)) = l := by rw [List.filter_cons_of_neg (by simp; omega), h2]
          rw [h3]
          simp [e]
        · have h3 : (y :: l).filter (fun z => decide (x.1 < z.1)) = y :: l := by rw [List.filter_cons_of_pos (by simp; omega), h2]
          rw [h3]
          simp [e]
      · have hst : putStep x (a, false) y = (a ++ [y], false) := by
          unfold putStep
          have : y.1 ≠ x.1 := by omega
          simp [hy, this]
        rw [hst, ih _ hr'.2]
        unfold putL
        rw [List.filter_cons_of_pos (by simp; omega), List.filter_cons_of_neg (by simp; omega)]
        simp
  have := key l [] hr
  rw [List.nil_append] at this
  exact this
/-- The document's Trim. -/
def refTrim : List Int → List (Int × Int) → List (Int × Int) × Nat
  | [], l => (l, 0)
  | k :: ks, l => if k < 0 ∨ 63 < k then ([], 101) else refTrim ks (cutL l k)
end Go.Proofs.YtidlchciehdefaaGreat
/-
  One tree in a store, plain: what the laws on chapter 11 ask.
-/
namespace Go.Proofs.YtidlchciehdefaaGreat
open Go.RowKit

theorem clean_mild {M : SM} (h : Clean M) : Mild M := fun q => by
  have := (h q).1
  omega
section
variable {K : SM → Prop} {s c : Nat} {bl : List Nat} {M : SM} {root : Int} {l : List (Int × Int)} {P : Nat}
theorem OneTree.none (h : OneTree K s bl M root l P) : (root = -1 ↔ l = []) := by
  rcases h.root with ⟨e, el⟩ | ⟨k, t, _⟩
  · exact ⟨fun _ => el, fun _ => e⟩
  · have h0 := (heldB_int t.held).1
    have h1 := tr_ge t
    refine ⟨fun e => ?_, fun e => ?_⟩
    · omega
    · rw [e] at h1
      simp at h1
      omega
theorem OneTree.range (h : OneTree K s bl M root l P) : -1 ≤ root ∧ root < 240 := by
  rcases h.root with ⟨e, _⟩ | ⟨k, t, _⟩
  · omega
  · obtain ⟨h0, h1⟩ := heldB_int t.held
    have := live_lt (M := M) h1
    have := h.exact.size
    omega
theorem OneTree.out (h : OneTree K s bl M root l P) {key : Int} (hk : key < 0 ∨ 63 < key) : cutL l key = l := cutL_none fun y hy => by
  have := h.keys.2 y hy
  omega
end
theorem put_bad (M : SM) (root : Int) {key : Int} (page : Int) (hk : key < 0 ∨ 63 < key) : M.put root key page = (M, -1, 101) := by
  unfold SM.put
  rw [if_pos (by omega)]
theorem cut_bad (M : SM) (root : Int) {key : Int} (hk : key < 0 ∨ 63 < key) : M.cut root key = (M, -1, false, 101) := by
  unfold SM.cut
  rw [if_pos (by omega)]
end Go.Proofs.YtidlchciehdefaaGreat
/-
  Pruners (package prune): Cut.
-/
namespace Go.Proofs.YtidlchciehdefaaGreat
open Go.RowKit
set_option maxRecDepth 100000

theorem cut_log {w : World} {A : SA} {M : SM} (h : StoreAt w A M) (root key : Int) : (M.cut root key).1.log.length ≤ M.log.length + 20 := by
  have h1 := (cutF_log h 9 root key).1
  have h2 := (split_bound (SM.cutF 9 M root key).1 (SM.cutF 9 M root key).2.1).1
  unfold SM.cut
  split
  · dsimp only; omega
  · split
    · dsimp only; omega
    · dsimp only
      split
      · dsimp only; omega
      · split
        · dsimp only; omega
        · split
          · dsimp only; omega
          · split <;> (dsimp only; omega)
set_option maxHeartbeats 8000000 in
theorem pruneCut {w : World} {A : SA} {M : SM} (h : StoreAt w A M) (root key : Int) (hfew : M.log.length + 30 < 100000000) :
    Calls Tryz.prog 108 #[.agg #[.pointer (some ⟨A.sb, 0, none⟩)], .int .i64 root, .int .i64 key] w fun e w' => ∃ A', e = .returned (.tuple #[.int .i64 (M.cut root key).2.1, .bool (M.cut root key).2.2.1, .int .i64 (M.cut root key).2.2.2]) ∧ StoreTo A A' (M.cut root key).1 w w' := by
  obtain ⟨w1, hw1⟩ : ∃ w1, w.alloc (.cells #[.pointer (some ⟨A.sb, 0, none⟩)] 28) = w1 := ⟨_, rfl⟩
  have k1 : Kept (fun _ => False) w w1 := by rw [← hw1]; exact (Kept.refl _ _).alloc _
  have s1 : w1.heap.size = w.heap.size + 1 := by rw [← hw1]; simp
  have t1 : w1.heap[w.heap.size]? = some (.cells #[.pointer (some ⟨A.sb, 0, none⟩)] 28 (0, 0)) := by rw [← hw1]; exact heap_alloc_new _ _
  have k1' := Lib.hid k1
  have hw1' := Lib.hid hw1
  have h' := Lib.hid h
  by_cases hk0 : key < 0
  · have e : Hid (M.cut root key = (M, -1, false, 101)) := Lib.hid (by unfold SM.cut; rw [if_pos (.inl hk0)])
    clear hw1 k1 s1 t1 h
    go_enter Tryz.func108, Tryz.ntmps108
    go_wp2_with (first | (refine wpList_box_named 28 rfl rfl _ rfl hw1'.out ?_))
    go_ret3
    first | exact ⟨A, by rw [e.out]; rfl, by rw [e.out]; exact (StoreTo.refl h'.out).fresh k1'.out⟩ | exact ⟨by rw [e.out]; rfl, A, by rw [e.out]; exact (StoreTo.refl h'.out).fresh k1'.out⟩
  by_cases hk1 : 64 ≤ key
  · have e : Hid (M.cut root key = (M, -1, false, 101)) := Lib.hid (by unfold SM.cut; rw [if_pos (.inr hk1)])
    clear hw1 k1 s1 t1 h
    go_enter Tryz.func108, Tryz.ntmps108
    go_wp2_with (first | (refine wpList_box_named 28 rfl rfl _ rfl hw1'.out ?_))
    go_ret3
    first | exact ⟨A, by rw [e.out]; rfl, by rw [e.out]; exact (StoreTo.refl h'.out).fresh k1'.out⟩ | exact ⟨by rw [e.out]; rfl, A, by rw [e.out]; exact (StoreTo.refl h'.out).fresh k1'.out⟩
  by_cases hr : root = -1
  · subst hr
    have e : Hid (M.cut (-1) key = (M, -1, false, 0)) := Lib.hid (by unfold SM.cut; rw [if_neg (by omega), if_pos rfl])
    clear hw1 k1 s1 t1 h
    go_enter Tryz.func108, Tryz.ntmps108
    go_wp2_with (first | (refine wpList_box_named 28 rfl rfl _ rfl hw1'.out ?_))
    go_ret3
    first | exact ⟨A, by rw [e.out]; rfl, by rw [e.out]; exact (StoreTo.refl h'.out).fresh k1'.out⟩ | exact ⟨by rw [e.out]; rfl, A, by rw [e.out]; exact (StoreTo.refl h'.out).fresh k1'.out⟩
  have hrb : (root == -1) = false := by simpa using hr
  have hP := pruneCutF 9 (by omega) (Nat.le_refl _) root key (h.fresh k1) (by omega)
  have hlog := (cutF_log h 9 root key).1
  have hcut : Hid (M.cut root key = if (SM.cutF 9 M root key).2.2.2 ≠ 0 then ((SM.cutF 9 M root key).1, -1, false, (SM.cutF 9 M root key).2.2.2)
      else if (SM.cutF 9 M root key).2.2.1 = false then ((SM.cutF 9 M root key).1, root, false, 0)
      else if (SM.cutF 9 M root key).2.1.kind = 3 ∧ (SM.cutF 9 M root key).2.1.ents.length = 1 then ((SM.cutF 9 M root key).1, ((SM.cutF 9 M root key).2.1.ents.getD 0 (0, 0)).2, true, 0)
      else if ((SM.cutF 9 M root key).1.split (SM.cutF 9 M root key).2.1).2.2 ≠ 0 ∨ ((SM.cutF 9 M root key).1.split (SM.cutF 9 M root key).2.1).2.1.length = 0 then (((SM.cutF 9 M root key).1.split (SM.cutF 9 M root key).2.1).1, -1, ((SM.cutF 9 M root key).1.split (SM.cutF 9 M root key).2.1).2.2 == 0, ((SM.cutF 9 M root key).1.split (SM.cutF 9 M root key).2.1).2.2)
      else (((SM.cutF 9 M root key).1.split (SM.cutF 9 M root key).2.1).1, (((SM.cutF 9 M root key).1.split (SM.cutF 9 M root key).2.1).2.1.getD 0 (0, 0)).2, true, 0)) := Lib.hid (by unfold SM.cut; rw [if_neg (by omega), if_neg hr])
  obtain ⟨R, hR⟩ : ∃ R, SM.cutF 9 M root key = R := ⟨_, rfl⟩
  rw [hR] at hP hlog
  simp only [hR] at hcut
  obtain ⟨M1, n1, was, er⟩ := R
  dsimp only at hP hlog hcut
  have hP' := Lib.hid hP
  obtain ⟨Z, hZ⟩ : ∃ Z, nodeCells NM.zero (.slice none 0 0) = Z := ⟨_, rfl⟩
  have hZz : Hid ((Tryz.prog.info? 115).map (·.zero) = some (some (.agg Z.toArray))) := Lib.hid (by rw [← hZ]; exact node_zero)
  have hZl : Hid (Z.length = 18) := Lib.hid (by rw [← hZ]; exact nodeCells_len _ _)
  have t1' := Lib.hid t1
  have sf1 : Hid (Safe w1 A w.heap.size) := Lib.hid (Safe.new h (Nat.le_refl _) (by omega))
  have hload1 : Hid (∀ j v, [Value.pointer (some ⟨A.sb, 0, none⟩)][j]? = some v → w1.cell? ⟨w.heap.size, 0 + j, none⟩ = some v) := Lib.hid (fun j v hj => by rw [Nat.zero_add, cell_of_heap t1]; simpa using hj)
  have st1 := Lib.hid ((StoreTo.refl h).fresh k1)
  have hsz1 := s1
  clear hw1 k1 s1 t1 h hP hR hr hZ
  go_enter Tryz.func108, Tryz.ntmps108
  go_wp2_with (first | (refine wpList_box_named 28 rfl rfl _ rfl hw1'.out ?_) | (refine wpList_load_agg 28 rfl rfl rfl _ Tryz.underlying28 rfl [.pointer (some ⟨A.sb, 0, none⟩)] (by kernel_rfl) hload1.out ?_))
  refine hP'.out.mono ?_
  rintro e' w3 ⟨A3, v, rfl, hT3, hO3⟩
  obtain ⟨Av, cap, rfl, hf1, hf2⟩ := EntsAt.form hO3.ents.at_
  unfold maxLen at hf2
  obtain ⟨F, hF⟩ : ∃ F, nodeCells n1 (.slice Av n1.ents.length cap) = F := ⟨_, rfl⟩
  have hFl : Hid (F.length = 18) := Lib.hid (by rw [← hF]; exact nodeCells_len _ _)
  have hF1 : Hid (∀ v ∈ F, v.oneCell' = true) := Lib.hid (by rw [← hF]; exact nodeCells_one _ _ _ _)
  obtain ⟨nb, hnb⟩ : ∃ nb, w3.heap.size = nb := ⟨_, rfl⟩
  obtain ⟨w5, hw5⟩ : ∃ w5, (w3.alloc (.cells Z.toArray 115)).setRow nb F.toArray = w5 := ⟨_, rfl⟩
  have k5 : Kept (fun _ => False) w3 w5 := by rw [← hw5]; exact ((Kept.refl _ _).alloc _).setRowNew (by omega) _
  have q5 := Lib.hid (show w5.heap[nb]? = some (.cells F.toArray 115 (0, 0)) by rw [← hw5, ← hnb]; exact setRow_heap _ _ _ _ _ _ (heap_alloc_new _ _))
  have bx5 : NodeBox w5 nb n1 (.slice Av n1.ents.length cap) := ⟨by rw [hF]; exact q5.out⟩
  have c0 := bx5.c0
  have c17 := bx5.c17
  have t5 := Lib.hid (k5.get (hT3.get t1'.out sf1.out) id)
  have ct5 := cell_of_heap t5.out 0
  simp at ct5
  have hT5 := Lib.hid ((st1.out.trans hT3).fresh k5)
  have hsb := hT3.sb
  have hO5 := Lib.hid (hO3.ents.fresh k5)
  have hSp := treeSplit hT5.out.store hO5.out (by omega)
  rw [hF, hsb] at hSp
  have hSp' := Lib.hid hSp
  have hnb' := Lib.hid hnb
  have hw5' := Lib.hid hw5
  rw [hF]
  clear hT3 hO3 hF hnb hw5 k5 hSp hsb bx5
  by_cases h0 : er = 0
  · subst h0
    rw [if_neg (by simp)] at hcut
    cases was with
    | false =>
      rw [if_pos rfl] at hcut
      go_wp2_with (first | (refine wpList_alloc_as 115 rfl rfl Z.toArray hZz.out ?_; rw [hnb'.out]) | (refine wpList_store_whole 115 rfl rfl rfl F rfl (by rw [hFl.out]; exact node_size) 115 _ (by rw [← hnb'.out]; exact heap_alloc_new _ _) (by simp [hFl.out, hZl.out]) hF1.out ?_; rw [hw5'.out]))
      go_ret3
      first | exact ⟨A3, by rw [hcut.out]; rfl, by rw [hcut.out]; exact hT5.out⟩ | exact ⟨by rw [hcut.out]; rfl, A3, by rw [hcut.out]; exact hT5.out⟩
    | true =>
      rw [if_neg (by simp)] at hcut
      by_cases hone : n1.kind = 3 ∧ n1.ents.length = 1
      · obtain ⟨hk3, hl1⟩ := hone
        rw [if_pos ⟨hk3, hl1⟩] at hcut
        obtain ⟨x, hx⟩ : ∃ x, n1.ents[0]? = some x := ⟨_, List.getElem?_eq_getElem (by omega)⟩
        obtain ⟨b, off, rfl, _, hx1, hx2⟩ := EntsAt.get hO5.out.at_ hx
        have hxd : n1.ents.getD 0 (0, 0) = x := by simp [hx]
        rw [hxd] at hcut
        rw [Nat.zero_mul, Nat.add_zero] at hx1 hx2
        rw [hk3] at c0
        rw [hl1] at c17
        clear hx hxd hk3 hl1 hf1
        go_wp2_with (first | (refine wpList_alloc_as 115 rfl rfl Z.toArray hZz.out ?_; rw [hnb'.out]) | (refine wpList_store_whole 115 rfl rfl rfl F rfl (by rw [hFl.out]; exact node_size) 115 _ (by rw [← hnb'.out]; exact heap_alloc_new _ _) (by simp [hFl.out, hZl.out]) hF1.out ?_; rw [hw5'.out]))
        go_ret3
        first | exact ⟨A3, by rw [hcut.out]; rfl, by rw [hcut.out]; exact hT5.out⟩ | exact ⟨by rw [hcut.out]; rfl, A3, by rw [hcut.out]; exact hT5.out⟩
      · rw [if_neg hone] at hcut
        obtain ⟨R, hR⟩ : ∃ R, M1.split n1 = R := ⟨_, rfl⟩
        rw [hR] at hSp'
        simp only [hR] at hcut
        obtain ⟨M2, out, er2⟩ := R
        dsimp only at hSp' hcut
        clear hR
        have fin : Hid (∀ w6 A6, StoreTo A3 A6 M2 w5 w6 → StoreTo A A6 M2 w w6) := Lib.hid (fun w6 A6 k => hT5.out.trans k)
        by_cases hk3 : n1.kind = 3
        · have hl1 : ((n1.ents.length : Int) == 1) = false := by rw [beq_eq_false_iff_ne]; intro e; exact hone ⟨hk3, by omega⟩
          rw [hk3] at c0
          clear hk3 hone
          go_wp2_with (first | (refine wpList_alloc_as 115 rfl rfl Z.toArray hZz.out ?_; rw [hnb'.out]) | (refine wpList_store_whole 115 rfl rfl rfl F rfl (by rw [hFl.out]; exact node_size) 115 _ (by rw [← hnb'.out]; exact heap_alloc_new _ _) (by simp [hFl.out, hZl.out]) hF1.out ?_; rw [hw5'.out]) | (refine wpList_load_agg 26 rfl rfl rfl _ Tryz.underlying26 rfl [.pointer (some ⟨A.sb, 0, none⟩)] (by kernel_rfl) (fun j v hj => by rw [Nat.zero_add, cell_of_heap t5.out]; simpa using hj) ?_) | (refine wpList_load_agg 115 rfl rfl rfl _ Tryz.underlying115 rfl F (by rw [hFl.out]; exact node_size) (fun j v hv => by rw [cell_of_heap q5.out, Nat.zero_add]; simpa using hv) ?_))
          refine hSp'.out.mono ?_
          rintro e w6 ⟨A6, v6, rfl, hT6, hO6⟩
          obtain ⟨Av6, cap6, rfl, hg1, hg2⟩ := hO6.ents.at_.form
          unfold maxLen at hg2
          have hTT := Lib.hid (fin.out _ _ hT6)
          have hO6' := Lib.hid hO6
          clear hT6 hO6
          by_cases h2 : er2 = 0
          · subst h2
            by_cases hl2 : out.length = 0
            · rw [if_pos (Or.inr hl2)] at hcut
              have hlb2 : ((out.length : Int) == 0) = true := by simp [hl2]
              clear hl2
              go_wp2_with fail
              go_ret3
              first | exact ⟨A6, by rw [hcut.out]; rfl, by rw [hcut.out]; exact hTT.out⟩ | exact ⟨by rw [hcut.out]; rfl, A6, by rw [hcut.out]; exact hTT.out⟩
            · rw [if_neg (by simp only [ne_eq, not_true_eq_false, false_or]; exact hl2)] at hcut
              obtain ⟨x, hx⟩ : ∃ x, out[0]? = some x := ⟨_, List.getElem?_eq_getElem (by omega)⟩
              obtain ⟨b, off, rfl, _, hx1, hx2⟩ := EntsAt.get hO6'.out.ents.at_ hx
              have hxd : out.getD 0 (0, 0) = x := by simp [hx]
              rw [hxd] at hcut
              rw [Nat.zero_mul, Nat.add_zero] at hx1 hx2
              have hlb2 : ((out.length : Int) == 0) = false := by rw [beq_eq_false_iff_ne]; omega
              have hpos : 0 < out.length := by omega
              clear hx hxd hl2
              go_wp2_with fail
              go_ret3
              first | exact ⟨A6, by rw [hcut.out]; rfl, by rw [hcut.out]; exact hTT.out⟩ | exact ⟨by rw [hcut.out]; rfl, A6, by rw [hcut.out]; exact hTT.out⟩
          · rw [if_pos (Or.inl h2)] at hcut
            have h2' : ((er2 : Int) == 0) = false := by rw [beq_eq_false_iff_ne]; omega
            have h2b : ((er2 : Int) != 0) = true := by rw [bne, h2']; rfl
            have h2c : (er2 == 0) = false := by rw [beq_eq_false_iff_ne]; exact h2
            rw [h2c] at hcut
            clear h2
            go_wp2_with fail
            go_ret3
            first | exact ⟨A6, by rw [hcut.out]; rfl, by rw [hcut.out]; exact hTT.out⟩ | exact ⟨by rw [hcut.out]; rfl, A6, by rw [hcut.out]; exact hTT.out⟩
        · have hkb : (n1.kind == 3) = false := by simpa using hk3
          clear hk3 hone
          go_wp2_with (first | (refine wpList_alloc_as 115 rfl rfl Z.toArray hZz.out ?_; rw [hnb'.out]) | (refine wpList_store_whole 115 rfl rfl rfl F rfl (by rw [hFl.out]; exact node_size) 115 _ (by rw [← hnb'.out]; exact heap_alloc_new _ _) (by simp [hFl.out, hZl.out]) hF1.out ?_; rw [hw5'.out]) | (refine wpList_load_agg 26 rfl rfl rfl _ Tryz.underlying26 rfl [.pointer (some ⟨A.sb, 0, none⟩)] (by kernel_rfl) (fun j v hj => by rw [Nat.zero_add, cell_of_heap t5.out]; simpa using hj) ?_) | (refine wpList_load_agg 115 rfl rfl rfl _ Tryz.underlying115 rfl F (by rw [hFl.out]; exact node_size) (fun j v hv => by rw [cell_of_heap q5.out, Nat.zero_add]; simpa using hv) ?_))
          refine hSp'.out.mono ?_
          rintro e w6 ⟨A6, v6, rfl, hT6, hO6⟩
          obtain ⟨Av6, cap6, rfl, hg1, hg2⟩ := hO6.ents.at_.form
          unfold maxLen at hg2
          have hTT := Lib.hid (fin.out _ _ hT6)
          have hO6' := Lib.hid hO6
          clear hT6 hO6
          by_cases h2 : er2 = 0
          · subst h2
            by_cases hl2 : out.length = 0
            · rw [if_pos (Or.inr hl2)] at hcut
              have hlb2 : ((out.length : Int) == 0) = true := by simp [hl2]
              clear hl2
              go_wp2_with fail
              go_ret3
              first | exact ⟨A6, by rw [hcut.out]; rfl, by rw [hcut.out]; exact hTT.out⟩ | exact ⟨by rw [hcut.out]; rfl, A6, by rw [hcut.out]; exact hTT.out⟩
            · rw [if_neg (by simp only [ne_eq, not_true_eq_false, false_or]; exact hl2)] at hcut
              obtain ⟨x, hx⟩ : ∃ x, out[0]? = some x := ⟨_, List.getElem?_eq_getElem (by omega)⟩
              obtain ⟨b, off, rfl, _, hx1, hx2⟩ := EntsAt.get hO6'.out.ents.at_ hx
              have hxd : out.getD 0 (0, 0) = x := by simp [hx]
              rw [hxd] at hcut
              rw [Nat.zero_mul, Nat.add_zero] at hx1 hx2
              have hlb2 : ((out.length : Int) == 0) = false := by rw [beq_eq_false_iff_ne]; omega
              have hpos : 0 < out.length := by omega
              clear hx hxd hl2
              go_wp2_with fail
              go_ret3
              first | exact ⟨A6, by rw [hcut.out]; rfl, by rw [hcut.out]; exact hTT.out⟩ | exact ⟨by rw [hcut.out]; rfl, A6, by rw [hcut.out]; exact hTT.out⟩
          · rw [if_pos (Or.inl h2)] at hcut
            have h2' : ((er2 : Int) == 0) = false := by rw [beq_eq_false_iff_ne]; omega
            have h2b : ((er2 : Int) != 0) = true := by rw [bne, h2']; rfl
            have h2c : (er2 == 0) = false := by rw [beq_eq_false_iff_ne]; exact h2
            rw [h2c] at hcut
            clear h2
            go_wp2_with fail
            go_ret3
            first | exact ⟨A6, by rw [hcut.out]; rfl, by rw [hcut.out]; exact hTT.out⟩ | exact ⟨by rw [hcut.out]; rfl, A6, by rw [hcut.out]; exact hTT.out⟩
  · rw [if_pos h0] at hcut
    have h0' : ((er : Int) == 0) = false := by rw [beq_eq_false_iff_ne]; omega
    clear h0
    go_wp2_with (first | (refine wpList_alloc_as 115 rfl rfl Z.toArray hZz.out ?_; rw [hnb'.out]) | (refine wpList_store_whole 115 rfl rfl rfl F rfl (by rw [hFl.out]; exact node_size) 115 _ (by rw [← hnb'.out]; exact heap_alloc_new _ _) (by simp [hFl.out, hZl.out]) hF1.out ?_; rw [hw5'.out]))
    go_ret3
    first | exact ⟨A3, by rw [hcut.out]; rfl, by rw [hcut.out]; exact hT5.out⟩ | exact ⟨by rw [hcut.out]; rfl, A3, by rw [hcut.out]; exact hT5.out⟩
end Go.Proofs.YtidlchciehdefaaGreat
/-
  Pruners (package prune): Trim.
-/
namespace Go.Proofs.YtidlchciehdefaaGreat
open Go.RowKit
set_option maxRecDepth 100000

/-- Whole numbers that no call of a store writes. -/
structure IntsOff (w : World) (A : SA) (v : Value) (l : List Int) : Prop where
  at_ : SliceAt w v 1 l.length (l.map (Value.int .i64))
  off : l ≠ [] → ∀ b, v.ownBlock = some b → b < w.heap.size ∧ ¬ A.foot b
theorem IntsOff.fresh {w w' : World} {A : SA} {v : Value} {l : List Int} (h : IntsOff w A v l) (k : Kept (fun _ => False) w w') : IntsOff w' A v l :=
  ⟨SliceAt.fresh h.at_ k, fun hl b hb => ⟨Nat.lt_of_lt_of_le (h.off hl b hb).1 k.size, (h.off hl b hb).2⟩⟩
theorem ints_nil {w w' : World} {v : Value} (h : SliceAt w v 1 0 []) : SliceAt w' v 1 0 [] := by
  obtain ⟨h1, A, cap, h2, h3, h4, _⟩ := h
  exact ⟨h1, A, cap, h2, h3, h4, fun j v hj => by simp at hj⟩
theorem IntsOff.to {A A' : SA} {M' : SM} {w w' : World} {v : Value} {l : List Int} (h : IntsOff w A v l) (k : StoreTo A A' M' w w') : IntsOff w' A' v l :=
  ⟨by
    by_cases hl : l = []
    · subst hl; exact ints_nil h.at_
    · exact SliceAt.kept h.at_ k.kept fun b hb => (h.off hl b hb).2, fun hl b hb => ⟨Nat.lt_of_lt_of_le (h.off hl b hb).1 k.kept.size, fun e => (k.foot b e).elim (h.off hl b hb).2 fun e => absurd (h.off hl b hb).1 (Nat.not_lt.2 e)⟩⟩
theorem IntsOff.form {w : World} {A : SA} {v : Value} {l : List Int} (h : IntsOff w A v l) : ∃ Av cap, v = .slice Av l.length cap ∧ l.length ≤ cap ∧ cap ≤ maxLen := by
  obtain ⟨_, Av, cap, hv, h1, h2, _⟩ := h.at_
  exact ⟨Av, cap, hv, h1, h2⟩
theorem IntsOff.get {w : World} {A : SA} {Av : Option Addr} {n cap : Nat} {l : List Int} (h : IntsOff w A (.slice Av n cap) l) {i : Nat} {x : Int} (hx : l[i]? = some x) :
    ∃ b off, Av = some ⟨b, off, none⟩ ∧ b < w.heap.size ∧ w.cell? ⟨b, off + i, none⟩ = some (.int .i64 x) := by
  have hi : i < l.length := (List.getElem?_eq_some_iff.1 hx).1
  obtain ⟨_, A', cap', hv, h1, h2, h3⟩ := id h.at_
  injection hv with e1 e2 e3
  subst e2
  obtain ⟨b, off, hA, hb, hc⟩ := SliceAt.elem h.at_ hi (by decide)
  refine ⟨b, off, hA, hb, ?_⟩
  have := hc 0 (.int .i64 x) (by decide) (by simp [hx])
  simpa using this
theorem trim_cons (x : Int) (ks : List Int) (M : SM) (root : Int) : SM.trim (x :: ks) M root =
    if (M.cut root x).2.2.2 = 0 then
      (if (M.cut root x).2.2.1 = true then (if ((M.cut root x).1.swap root (M.cut root x).2.1).2 = 0 then SM.trim ks ((M.cut root x).1.swap root (M.cut root x).2.1).1 (M.cut root x).2.1 else (((M.cut root x).1.swap root (M.cut root x).2.1).1, -1, ((M.cut root x).1.swap root (M.cut root x).2.1).2))
       else SM.trim ks (M.cut root x).1 (M.cut root x).2.1)
    else ((M.cut root x).1, -1, (M.cut root x).2.2.2) := by
  conv => lhs; unfold SM.trim
  dsimp only
  split
  · split
    · rfl
    · rfl
  · rfl
theorem trim_log {w : World} {A : SA} {M : SM} (h : StoreAt w A M) (root x : Int) : (SM.trim [x] M root).1.log.length ≤ M.log.length + 20 := by
  have h1 := cut_log h root x
  have h2 := swap_log (M.cut root x).1 root (M.cut root x).2.1
  rw [trim_cons]
  split
  · split
    · split
      · show ((M.cut root x).1.swap root (M.cut root x).2.1).1.log.length ≤ _; rw [h2]; exact h1
      · show ((M.cut root x).1.swap root (M.cut root x).2.1).1.log.length ≤ _; rw [h2]; exact h1
    · exact h1
  · exact h1
/-- What holds in the midst of Trim. -/
structure TrimSt (w : World) (A : SA) (M : SM) (ks : List Int) (root : Int) (v : Value) (k : Nat) (root' : Int) (A' : SA) (M' : SM) (wr : World) : Prop where
  to_ : StoreTo A A' M' w wr
  pb : wr.heap[w.heap.size]? = some (.cells #[.pointer (some ⟨A.sb, 0, none⟩)] 28 (0, 0))
  sp : Safe wr A' w.heap.size
  keys : IntsOff wr A' v ks
  rest : SM.trim (ks.drop k) M' root' = SM.trim ks M root
  log : M'.log.length ≤ M.log.length + 20 * k
theorem TrimSt.load {w wr : World} {A A' : SA} {M M' : SM} {ks : List Int} {root root' : Int} {v : Value} {k : Nat} (h : TrimSt w A M ks root v k root' A' M' wr) : ∀ j u, [Value.pointer (some ⟨A.sb, 0, none⟩)][j]? = some u → wr.cell? ⟨w.heap.size, 0 + j, none⟩ = some u := fun j u hj => by rw [Nat.zero_add, cell_of_heap h.pb]; simpa using hj

set_option maxHeartbeats 8000000 in
theorem pruneTrim {w : World} {A : SA} {M : SM} (h : StoreAt w A M) (root : Int) {v : Value} {ks : List Int} (hv : IntsOff w A v ks) (hks : ks.length ≤ 1000) (hfew : M.log.length + 100000 < 100000000) :
    Calls Tryz.prog 71 #[.agg #[.pointer (some ⟨A.sb, 0, none⟩)], .int .i64 root, v] w fun e w' => ∃ A', e = .returned (.tuple #[.int .i64 (SM.trim ks M root).2.1, .int .i64 (SM.trim ks M root).2.2]) ∧ StoreTo A A' (SM.trim ks M root).1 w w' := by
  obtain ⟨Av, cap, rfl, hc1, hc2⟩ := hv.form
  unfold maxLen at hc2
  obtain ⟨w1, hw1⟩ : ∃ w1, w.alloc (.cells #[.pointer (some ⟨A.sb, 0, none⟩)] 28) = w1 := ⟨_, rfl⟩
  have k1 : Kept (fun _ => False) w w1 := by rw [← hw1]; exact (Kept.refl _ _).alloc _
  have I1 : Hid (∃ A' M', TrimSt w A M ks root (.slice Av ks.length cap) 0 root A' M' w1) := Lib.hid ⟨A, M, (StoreTo.refl h).fresh k1, by rw [← hw1]; exact heap_alloc_new _ _, Safe.new h (Nat.le_refl _) (by rw [← hw1]; simp), hv.fresh k1, rfl, Nat.le_refl _⟩
  have hw1' := Lib.hid hw1
  clear hw1 k1 h hv
  go_enter Tryz.func71, Tryz.ntmps71
  go_wp2_with (first | (refine wpList_box_named 28 rfl rfl _ rfl hw1'.out ?_))
  go_loopw [1, 15] (fun r i wr => ∃ (k : Nat) (root' : Int), k ≤ ks.length ∧ i = .int .i64 k ∧ r = .int .i64 root' ∧ Hid (∃ A' M', TrimSt w A M ks root (.slice Av ks.length cap) k root' A' M' wr)) (fun _ i _ => ks.length - (intOf i).toNat)
  case atStart => exact ⟨0, root, Nat.zero_le _, rfl, rfl, I1⟩
  case round =>
    obtain ⟨k, root', hk, rfl, rfl, hI⟩ := hrel
    obtain ⟨A', M', St⟩ := hI.out
    have St' := Lib.hid St
    by_cases hlt : k < ks.length
    · obtain ⟨x, hx⟩ : ∃ x, ks[k]? = some x := ⟨_, List.getElem?_eq_getElem hlt⟩
      obtain ⟨b, off, rfl, hb, hxc⟩ := St.keys.get hx
      have hd : ks.drop k = x :: ks.drop (k + 1) := by rw [List.drop_eq_getElem_cons hlt, (List.getElem?_eq_some_iff.1 hx).2]
      have hrest := St.rest
      rw [hd, trim_cons] at hrest
      have hcut := pruneCut St.to_.store root' x (by have := St.log; omega)
      rw [St.to_.sb] at hcut
      have hlog := cut_log St.to_.store root' x
      have hki : (k : Int) < (ks.length : Int) := by omega
      have hload : Hid (∀ j u, [Value.pointer (some ⟨A.sb, 0, none⟩)][j]? = some u → wr.cell? ⟨w.heap.size, 0 + j, none⟩ = some u) := Lib.hid St.load
      obtain ⟨R, hR⟩ : ∃ R, M'.cut root' x = R := ⟨_, rfl⟩
      rw [hR] at hcut hlog
      simp only [hR] at hrest
      obtain ⟨M1, next, was, er⟩ := R
      dsimp only at hcut hlog hrest
      have hcut' := Lib.hid hcut
      have hrest' := Lib.hid hrest
      have hlog' := Lib.hid hlog
      clear hcut hR hx hd hI St hrest hlog
      go_wp2_with (first | (refine wpList_load_agg 28 rfl rfl rfl _ Tryz.underlying28 rfl [.pointer (some ⟨A.sb, 0, none⟩)] (by kernel_rfl) hload.out ?_))
      refine hcut'.out.mono ?_
      rintro e w3 ⟨A3, rfl, hT3⟩
      have T3 := Lib.hid (St'.out.to_.trans hT3)
      have p3 := Lib.hid (hT3.get St'.out.pb St'.out.sp)
      have s3 := Lib.hid (St'.out.sp.to hT3)
      have K3 := Lib.hid (St'.out.keys.to hT3)
      have ct3 := cell_of_heap p3.out 0
      simp at ct3
      clear hT3
      by_cases h0 : er = 0
      · subst h0
        cases was with
        | false =>
          have hr2 := hrest'.out
          rw [if_pos rfl, if_neg (by decide)] at hr2
          have fin : Hid (∃ A' M', TrimSt w A M ks root (.slice (some ⟨b, off, none⟩) ks.length cap) (k + 1) next A' M' w3) := Lib.hid ⟨A3, M1, T3.out, p3.out, s3.out, K3.out, hr2, by have := hlog'.out; have := St'.out.log; omega⟩
          clear hr2
          go_wp2_with fail
          go_roundw
          case rel => exact ⟨k + 1, next, by omega, by go_num, rfl, fin⟩
          case measure => simp [intOf]; omega
        | true =>
          have hr2 := hrest'.out
          rw [if_pos rfl, if_pos rfl] at hr2
          have hS := treeSwap T3.out.store root' next
          rw [T3.out.sb] at hS
          have hlogS := swap_log M1 root' next
          obtain ⟨R, hRe⟩ : ∃ R, M1.swap root' next = R := ⟨_, rfl⟩
          rw [hRe] at hS hlogS
          simp only [hRe] at hr2
          obtain ⟨M2, es⟩ := R
          dsimp only at hS hr2 hlogS
          have hS' := Lib.hid hS
          have hr2' := Lib.hid hr2
          have hload3 : Hid (∀ j u, [Value.pointer (some ⟨A.sb, 0, none⟩)][j]? = some u → w3.cell? ⟨w.heap.size, 0 + j, none⟩ = some u) := Lib.hid (fun j u hj => by rw [Nat.zero_add, cell_of_heap p3.out]; simpa using hj)
          have hlogS' := Lib.hid hlogS
          clear hS hRe hr2 hlogS
          go_wp2_with (first | (refine wpList_load_agg 26 rfl rfl rfl _ Tryz.underlying26 rfl [.pointer (some ⟨A.sb, 0, none⟩)] (by kernel_rfl) hload3.out ?_))
          refine hS'.out.mono ?_
          rintro e w4 ⟨rfl, hT4⟩
          have T4 := Lib.hid (T3.out.trans hT4)
          have p4 := Lib.hid (hT4.get p3.out s3.out)
          have s4 := Lib.hid (s3.out.to hT4)
          have K4 := Lib.hid (K3.out.to hT4)
          clear hT4
          by_cases h1 : es = 0
          · subst h1
            have hr3 := hr2'.out
            rw [if_pos rfl] at hr3
            have fin : Hid (∃ A' M', TrimSt w A M ks root (.slice (some ⟨b, off, none⟩) ks.length cap) (k + 1) next A' M' w4) := Lib.hid ⟨_, M2, T4.out, p4.out, s4.out, K4.out, hr3, by have := hlog'.out; have := St'.out.log; have := hlogS'.out; rw [this]; omega⟩
            clear hr3
            go_wp2_with fail
            go_roundw
            case rel => exact ⟨k + 1, next, by omega, by go_num, rfl, fin⟩
            case measure => simp [intOf]; omega
          · have h1' : ((es : Int) == 0) = false := by simp; omega
            have hr3 := hr2'.out
            rw [if_neg h1] at hr3
            have hr3' := Lib.hid hr3
            clear hr3 h1
            go_wp2_with fail
            go_ret2
            exact ⟨_, by rw [← hr3'.out]; rfl, by rw [← hr3'.out]; exact T4.out⟩
      · have h0' : ((er : Int) == 0) = false := by simp; omega
        have hr2 := hrest'.out
        rw [if_neg h0] at hr2
        have hr2' := Lib.hid hr2
        clear hr2 h0
        go_wp2_with fail
        go_ret2
        exact ⟨_, by rw [← hr2'.out]; rfl, by rw [← hr2'.out]; exact T3.out⟩
    · obtain rfl : k = ks.length := by omega
      have hr := St.rest
      rw [List.drop_length] at hr
      have hr' : Hid ((M', root', 0) = SM.trim ks M root) := Lib.hid hr
      clear hI St hr
      go_wp2_with fail
      go_ret2
      exact ⟨A', by rw [← hr'.out]; rfl, by rw [← hr'.out]; exact St'.out.to_⟩
end Go.Proofs.YtidlchciehdefaaGreat
/-
  Put and cut again, plain.
-/
namespace Go.Proofs.YtidlchciehdefaaGreat
open Go.RowKit

theorem rises_split : ∀ {l : List (Int × Int)} (_ : RisesK l) (k : Int), l = l.filter (fun y => decide (y.1 < k)) ++ l.filter (fun y => decide (y.1 = k)) ++ l.filter (fun y => decide (k < y.1))
  | [], _, _ => rfl
  | z :: l, hr, k => by
    have hr' := List.pairwise_cons.1 hr
    have ih := rises_split hr'.2 k
    rcases Int.lt_trichotomy z.1 k with h | h | h
    · rw [List.filter_cons_of_pos (by simpa using h), List.filter_cons_of_neg (by simp; omega), List.filter_cons_of_neg (by simp; omega), List.cons_append, List.cons_append, ← ih]
    · have e1 : l.filter (fun y => decide (y.1 < k)) = [] := filter_none fun y hy => by have := hr'.1 y hy; simp; omega
      have e2 : l.filter (fun y => decide (y.1 = k)) = [] := filter_none fun y hy => by have := hr'.1 y hy; simp; omega
      rw [e1, e2, List.nil_append, List.nil_append] at ih
      rw [List.filter_cons_of_neg (by simp; omega), List.filter_cons_of_pos (by simpa using h), List.filter_cons_of_neg (by simp; omega), e1, e2, ← ih]
      rfl
    · have e1 : l.filter (fun y => decide (y.1 < k)) = [] := filter_none fun y hy => by have := hr'.1 y hy; simp; omega
      have e2 : l.filter (fun y => decide (y.1 = k)) = [] := filter_none fun y hy => by have := hr'.1 y hy; simp; omega
      rw [e1, e2, List.nil_append, List.nil_append] at ih
      rw [List.filter_cons_of_neg (by simp; omega), List.filter_cons_of_neg (by simp; omega), List.filter_cons_of_pos (by simpa using h), e1, e2, ← ih]
      rfl
theorem filter_and (l : List (Int × Int)) (p q : Int × Int → Bool) : (l.filter p).filter q = l.filter fun y => q y && p y := List.filter_filter
theorem cut_put {l : List (Int × Int)} (hr : RisesK l) {k : Int} (p : Int) (hn : ∀ y ∈ l, y.1 ≠ k) : cutL (putL l (k, p)) k = l := by
  have e1 : (l.filter fun y => decide (y.1 < k)).filter (fun y => decide (y.1 ≠ k)) = l.filter fun y => decide (y.1 < k) := filter_all fun y hy => by have := (List.mem_filter.1 hy).2; simp at this ⊢; omega
  have e2 : (l.filter fun y => decide (k < y.1)).filter (fun y => decide (y.1 ≠ k)) = l.filter fun y => decide (k < y.1) := filter_all fun y hy => by have := (List.mem_filter.1 hy).2; simp at this ⊢; omega
  have e3 : l.filter (fun y => decide (y.1 = k)) = [] := filter_none fun y hy => by have := hn y hy; simpa using this
  have h := rises_split hr k
  rw [e3, List.append_nil] at h
  unfold cutL putL
  rw [List.filter_append, List.filter_append, e1, e2]
  conv => rhs; rw [h]
  simp
theorem put_cut {l : List (Int × Int)} (hr : RisesK l) {k p : Int} (hk : (k, p) ∈ l) : putL (cutL l k) (k, p) = l := by
  have e1 : (cutL l k).filter (fun y => decide (y.1 < k)) = l.filter fun y => decide (y.1 < k) := by
    unfold cutL
    rw [filter_and]
    refine List.filter_congr fun y _ => ?_
    by_cases h : y.1 < k
    · have : y.1 ≠ k := by omega
      simp [h, this]
    · simp [h]
  have e2 : (cutL l k).filter (fun y => decide (k < y.1)) = l.filter fun y => decide (k < y.1) := by
    unfold cutL
    rw [filter_and]
    refine List.filter_congr fun y _ => ?_
    by_cases h : k < y.1
    · have : y.1 ≠ k := by omega
      simp [h, this]
    · simp [h]
  have e3 : l.filter (fun y => decide (y.1 = k)) = [(k, p)] := by
    obtain ⟨a, b, rfl⟩ := List.append_of_mem hk
    have hp := List.pairwise_append.1 hr
    have hq := List.pairwise_cons.1 hp.2.1
    rw [List.filter_append, List.filter_cons_of_pos (by simp), filter_none (l := a) (fun y hy => by have := hp.2.2 y hy (k, p) (List.mem_cons_self ..); simp at this ⊢; omega),
      filter_none (l := b) (fun y hy => by have := hq.1 y hy; simp at this ⊢; omega)]
    rfl
  have h := rises_split hr k
  rw [e3] at h
  unfold putL
  rw [e1, e2]
  exact h.symm
theorem findL_neg : ∀ {l : List (Int × Int)} {k : Int}, (∀ y ∈ l, 0 ≤ y.2) → findL l k = -1 → ∀ y ∈ l, y.1 ≠ k
  | [], _, _, _, y, hy => by cases hy
  | z :: l, k, h0, hf, y, hy => by
    unfold findL at hf
    have hz := h0 z (List.mem_cons_self ..)
    by_cases e : z.1 = k
    · rw [if_pos e] at hf
      omega
    · rw [if_neg e] at hf
      rcases List.mem_cons.1 hy with rfl | hy
      · exact e
      · exact findL_neg (fun y hy => h0 y (List.mem_cons_of_mem _ hy)) hf y hy
theorem findL_pos : ∀ {l : List (Int × Int)} {k : Int}, findL l k ≠ -1 → (k, findL l k) ∈ l
  | [], _, h => absurd rfl h
  | z :: l, k, h => by
    unfold findL at h ⊢
    by_cases e : z.1 = k
    · rw [if_pos e]
      rw [← e]
      exact List.mem_cons_self ..
    · rw [if_neg e] at h ⊢
      exact List.mem_cons_of_mem _ (findL_pos h)
section
variable {K : SM → Prop} {s c : Nat} {bl : List Nat} {M : SM} {root : Int} {l : List (Int × Int)} {P : Nat}
theorem one_trim (h : OneTree K s bl M root l P) (hB : Besides K c) (hP : P ≤ 150) (hbl : bl.length ≤ 5) (hs : 5 + 73 + c + 20 ≤ s) {key : Int} (k0 : 0 ≤ key) (k1 : key < 64) :
    (SM.trim [key] M root).2.2 = 0 ∧ OneTree K s bl (SM.trim [key] M root).1 (SM.trim [key] M root).2.1 (cutL l key) P := by
  rw [trim_cons]
  rcases one_cut h hB hP hbl hs k0 k1 with ⟨e, e2, _⟩ | ⟨e1, e2, _, _, e3, e4⟩
  · rw [e, e2]
    exact ⟨rfl, h⟩
  · rw [if_pos e1, if_pos e2, if_pos e3]
    exact ⟨rfl, e4⟩
end
end Go.Proofs.YtidlchciehdefaaGreat
/-
  What PruneTrims asks, plain: a mark, what is kept behind it, and what is undone.
-/
namespace Go.Proofs.YtidlchciehdefaaGreat
open Go.RowKit

/-- What is not free as before was there at the mark. -/
def Spent (M0 M : SM) : Prop := ∀ q, M.pool.st q ≤ 3 ∧ (2 ≤ M.pool.st q → q < M0.pool.size → M0.live q = true) ∧ (0 < M.pool.cnt q → M.pool.st q = 1 ∨ M.pool.st q = 2)
theorem spent_live {M0 M : SM} (h : Spent M0 M) {i : Int} (hi : M.pool.heldB i = true) : M.pool.st i.toNat = 1 ∨ M.pool.st i.toNat = 2 := by
  have hl := (heldB_int hi).2
  have := h i.toNat
  simp only [PM.live, Bool.and_eq_true, Bool.or_eq_true, decide_eq_true_eq, beq_iff_eq] at hl
  rcases hl.2 with h1 | h1
  · exact this.2.2 h1
  · exact h1
theorem spent_closed (M0 : SM) : Closed (Spent M0) := by
  refine ⟨fun M i n hi h q => ?_, fun M i h q => ?_, fun M i hi h q => ?_⟩
  · have := h q
    by_cases e : q = i
    · subst e; simp [PM.setSt]
    · simp only [PM.setSt, if_neg e]; exact this
  · have := h q
    show (M.pool.holdTo i).st q ≤ 3 ∧ (2 ≤ (M.pool.holdTo i).st q → q < M0.pool.size → M0.live q = true) ∧ (0 < (M.pool.holdTo i).cnt q → (M.pool.holdTo i).st q = 1 ∨ (M.pool.holdTo i).st q = 2)
    unfold PM.holdTo
    split
    · rename_i hc
      simp only [Bool.and_eq_true] at hc
      have hs := spent_live h hc.1
      simp only [PM.setCnt]
      refine ⟨this.1, this.2.1, fun hq => ?_⟩
      split at hq
      · rename_i e; rw [e]; exact hs
      · exact this.2.2 hq
    · exact this
  · have := h q
    have hs := spent_live h hi
    show (M.pool.dropTo i.toNat).st q ≤ 3 ∧ (2 ≤ (M.pool.dropTo i.toNat).st q → q < M0.pool.size → M0.live q = true) ∧ (0 < (M.pool.dropTo i.toNat).cnt q → (M.pool.dropTo i.toNat).st q = 1 ∨ (M.pool.dropTo i.toNat).st q = 2)
    unfold PM.dropTo
    split
    · simp only [PM.setCnt]
      refine ⟨this.1, this.2.1, fun hq => ?_⟩
      split at hq
      · rename_i e; rw [e]; exact hs
      · exact this.2.2 hq
    · simp only [PM.setCnt, PM.setSt]
      by_cases e : q = i.toNat
      · subst e
        simp only [if_true]
        unfold PM.lastSt
        rcases hs with hs | hs
        · rw [hs]; exact ⟨by decide, fun h => absurd h (by decide), fun h => absurd h (by decide)⟩
        · rw [hs]; exact ⟨by decide, fun _ => this.2.1 (by omega), fun h => absurd h (by decide)⟩
      · simp only [if_neg e]
        exact this
theorem sumN_three {f g k : Nat → Nat} : ∀ n, (∀ i, i < n → 1 ≤ f i + g i + k i) → n ≤ sumN f n + sumN g n + sumN k n
  | 0, _ => Nat.zero_le _
  | n + 1, h => by
    have h1 := sumN_three n (fun i hi => h i (by omega))
    have h2 := h n (by omega)
    unfold sumN
    omega
theorem spent_room {M0 M : SM} (h : Spent M0 M) (hs : M.pool.size = M0.pool.size) : M.pool.size ≤ M.pool.freeCount + M.liveN + M0.liveN := by
  unfold PM.freeCount SM.liveN
  rw [freeN_sum, ← hs]
  refine sumN_three _ fun q hq => ?_
  have hq0 : q < M0.pool.size := hs ▸ hq
  have hs := h q
  by_cases hl : M.live q = true
  · rw [if_pos hl]; omega
  · have hn := hl
    simp only [SM.live, PM.live, Bool.and_eq_true, Bool.or_eq_true, decide_eq_true_eq, beq_iff_eq, not_and, not_or] at hn
    obtain ⟨n1, n2, n3⟩ := hn hq
    by_cases h0 : M.pool.st q = 0
    · have : M.pool.freeB q = true := by
        unfold PM.freeB
        simp only [Bool.and_eq_true, beq_iff_eq]
        omega
      rw [if_pos this]; omega
    · have : M0.live q = true := hs.2.1 (by omega) hq0
      rw [if_pos this]; omega
/-- What is kept behind a mark. -/
def Since (M0 M : SM) : Prop := Marked M0 M ∧ Spent M0 M
theorem since_besides {M0 : SM} {c : Nat} (hc : M0.liveN ≤ c) : Besides (Since M0) c :=
  ⟨⟨fun M i n hi h => ⟨(marked_closed M0).take M i n hi h.1, (spent_closed M0).take M i n hi h.2⟩, fun M i h => ⟨(marked_closed M0).hold M i h.1, (spent_closed M0).hold M i h.2⟩, fun M i hi h => ⟨(marked_closed M0).drop M i hi h.1, (spent_closed M0).drop M i hi h.2⟩⟩,
    fun M h => by have := spent_room h.2 h.1.size; omega⟩
theorem since_mild {M0 M : SM} (h : Since M0 M) : Mild M := fun q => (h.2 q).1
/-- Stores that hold the same, and say the same of what is there. -/
theorem OneTree.same {K K' : SM → Prop} {s : Nat} {bl : List Nat} {M N : SM} {root : Int} {l : List (Int × Int)} {P : Nat} (h : OneTree K s bl M root l P) (hk : K' N) (hs : N.pool.size = M.pool.size)
    (hc : ∀ q, N.pool.cnt q = M.pool.cnt q) (hl : ∀ q, N.live q = M.live q) (hn : ∀ q, M.live q = true → N.nodeAt q = M.nodeAt q) : OneTree K' s bl N root l P := by
  have g := grown_same hs hl hn
  refine ⟨exact_same h.exact hs hc hl hn, hs.trans h.size, hk, fun b hb => ?_, h.keys, ?_, fun q hq hq0 => h.loose q (by rw [← hl]; exact hq) (by rw [← hc]; exact hq0)⟩
  · obtain ⟨a, d⟩ := h.data b hb
    exact ⟨by rw [hl]; exact a, by rw [hn b a]; exact d⟩
  · rcases h.root with e | ⟨k, t, j⟩
    · exact .inl e
    · exact .inr ⟨k, Tr.grown g t, Led.grown g t j⟩
section
variable {s : Nat} {bl : List Nat} {M : SM} {root : Int} {l : List (Int × Int)} {P : Nat}
/-- At the mark. -/
theorem OneTree.marked (h : OneTree Clean s bl M root l P) : OneTree (Since (markM M)) s bl (markM M) root l P := by
  refine h.same ⟨mark_start M, fun q => ?_⟩ rfl (fun _ => rfl) (mark_live M) (fun _ _ => rfl)
  have hk := h.kk q
  have e : (markM M).pool.st q = if M.pool.st q = 1 then 2 else M.pool.st q := rfl
  refine ⟨by rw [e]; split <;> omega, fun h2 hq => ?_, fun h2 => ?_⟩
  · rw [e] at h2
    have h1 : M.pool.st q = 1 := by
      by_cases h1 : M.pool.st q = 1
      · exact h1
      · rw [if_neg h1] at h2; omega
    rw [mark_live]
    unfold SM.live PM.live
    rw [h1]
    have hq' : q < M.pool.size := hq
    simp [hq']
  · rw [e, if_pos (hk.2 h2)]
    exact .inr rfl
/-- Undone. -/
theorem OneTree.undone {N : SM} (h : OneTree (Since M) s bl M root l P) (hn : Since M N) : OneTree Mild s bl ⟨M.pool, N.log⟩ root l P :=
  h.same (fun q => since_mild h.kk q) rfl (fun _ => rfl) (fun _ => rfl) (fun q hq => hn.1.node q hq)
theorem OneTree.few {K : SM → Prop} (h : OneTree K s bl M root l P) (hP : P ≤ 150) : 2 * M.liveN ≤ 2 * bl.length + P + 3 := by
  obtain ⟨L, _, a2, _, _, a5, _⟩ := h.pages hP
  have := liveN_list a2
  rw [List.length_append] at this
  omega
end
/-- Keys taken out at once. -/
theorem trims_ok {K : SM → Prop} {s c : Nat} {bl : List Nat} (hB : Besides K c) (hbl : bl.length ≤ 5) (hs : 5 + 73 + c + 20 ≤ s) : ∀ (ks : List Int) {M : SM} {root : Int} {l : List (Int × Int)} {P : Nat}, OneTree K s bl M root l P → P ≤ 150 →
    ((∀ k ∈ ks, 0 ≤ k ∧ k ≤ 63) ∧ (SM.trim ks M root).2.2 = 0 ∧ OneTree K s bl (SM.trim ks M root).1 (SM.trim ks M root).2.1 (ks.foldl cutL l) P) ∨
      ((∃ k ∈ ks, k < 0 ∨ 63 < k) ∧ (SM.trim ks M root).2.1 = -1 ∧ (SM.trim ks M root).2.2 = 101 ∧ K (SM.trim ks M root).1 ∧ (SM.trim ks M root).1.pool.size = s)
  | [], M, root, l, P, h, _ => .inl ⟨fun _ hk => (by cases hk), rfl, h⟩
  | x :: ks, M, root, l, P, h, hP => by
    rw [trim_cons, List.foldl_cons]
    by_cases hx : x < 0 ∨ 63 < x
    · right
      rw [cut_bad M root hx]
      exact ⟨⟨x, List.mem_cons_self .., hx⟩, rfl, rfl, h.kk, h.size⟩
    · have step : ∀ {M' : SM} {root' : Int}, OneTree K s bl M' root' (cutL l x) P → 
        ((∀ k ∈ x :: ks, 0 ≤ k ∧ k ≤ 63) ∧ (SM.trim ks M' root').2.2 = 0 ∧ OneTree K s bl (SM.trim ks M' root').1 (SM.trim ks M' root').2.1 (ks.foldl cutL (cutL l x)) P) ∨
          ((∃ k ∈ x :: ks, k < 0 ∨ 63 < k) ∧ (SM.trim ks M' root').2.1 = -1 ∧ (SM.trim ks M' root').2.2 = 101 ∧ K (SM.trim ks M' root').1 ∧ (SM.trim ks M' root').1.pool.size = s) := fun h' => by
        rcases trims_ok hB hbl hs ks h' hP with ⟨a, b⟩ | ⟨⟨k, hk, hk2⟩, b⟩
        · exact .inl ⟨fun k hk => by
            rcases List.mem_cons.1 hk with rfl | hk
            · omega
            · exact a k hk, b⟩
        · exact .inr ⟨⟨k, List.mem_cons_of_mem _ hk, hk2⟩, b⟩
      rcases one_cut h hB hP hbl hs (key := x) (by omega) (by omega) with ⟨e, e2, _⟩ | ⟨e1, e2, _, _, e3, e4⟩
      · rw [e]
        exact step (e2.symm ▸ h)
      · rw [if_pos e1, if_pos e2, if_pos e3]
        exact step e4
theorem refTrim_ok : ∀ {ks : List Int} {l : List (Int × Int)}, (∀ k ∈ ks, 0 ≤ k ∧ k ≤ 63) → refTrim ks l = (ks.foldl cutL l, 0)
  | [], _, _ => rfl
  | k :: ks, l, h => by
    have := h k (List.mem_cons_self ..)
    unfold refTrim
    rw [if_neg (by omega)]
    exact refTrim_ok fun j hj => h j (List.mem_cons_of_mem _ hj)
theorem refTrim_bad : ∀ {ks : List Int} {l : List (Int × Int)}, (∃ k ∈ ks, k < 0 ∨ 63 < k) → refTrim ks l = ([], 101)
  | [], _, ⟨k, hk, _⟩ => by cases hk
  | k :: ks, l, ⟨j, hj, hj2⟩ => by
    unfold refTrim
    by_cases hk : k < 0 ∨ 63 < k
    · rw [if_pos hk]
    · rw [if_neg hk]
      rcases List.mem_cons.1 hj with rfl | hj
      · exact absurd hj2 hk
      · exact refTrim_bad ⟨j, hj, hj2⟩
end Go.Proofs.YtidlchciehdefaaGreat
/-
  Images, plain: what is done safely; blocks are cleared; what is let go, and copied.
-/
namespace Go.Proofs.YtidlchciehdefaaGreat
open Go.RowKit

theorem write1_closed {Q : SM → Prop} (C : Closed Q) {M : SM} (root key : Int) (b : List Nat) (h : Q M) : Q (M.write1 root key b).1 := by
  have h1 := C.make ⟨1, b, []⟩ h
  unfold SM.write1
  dsimp only
  split
  · exact changes_closed C _ root h1
  · exact h1
theorem sum_same {M N : SM} (hs : N.pool.size = M.pool.size) (hl : ∀ q, N.live q = M.live q) (hn : ∀ q, N.nodeAt q = M.nodeAt q) : N.sum = M.sum := by
  unfold SM.sum
  rw [hs]
  refine sumN_congr fun q _ => ?_
  have : N.ents q = M.ents q := by unfold SM.ents; rw [hn]
  rw [hl, this]
theorem marked_live (M : SM) (q : Nat) : M.marked.live q = M.live q := (mark_live M.tidy q).trans (tidy_live M q)
theorem marked_sum (M : SM) : M.marked.sum = M.sum := sum_same rfl (marked_live M) (fun _ => rfl)
theorem marked_free (M : SM) : M.marked.pool.freeCount = M.tidy.pool.freeCount := mark_free M.tidy
section
variable {m : Nat} {M : SM} {is : List IM} {i : IM} {k : Nat}
theorem Imgs.marked (h : Imgs m M is) : Imgs m M.marked is := h.tidy.mark
/-- With an error all is as it was. -/
theorem safely_err (h : Imgs m M is) {r : SM × Int × Nat} (he : r.2.2 ≠ 0) (hk : Marked M.marked r.1) : (M.safely r).2.1 = -1 ∧ (M.safely r).2.2 = r.2.2 ∧ Imgs m (M.safely r).1 is ∧ (M.safely r).1.pool = M.marked.pool ∧ (M.safely r).1.log = r.1.log := by
  unfold SM.safely
  rw [if_neg he]
  exact ⟨rfl, rfl, h.marked.undo hk, rfl, rfl⟩
theorem write_ok (hm : m ≤ 3) (h : Imgs m M is) (hi : is[k]? = some i) (hP : i.P + 1 ≤ 150) {key : Int} (k0 : 0 ≤ key) (k1 : key < 64) {b : List Nat} (hb : b.length = 16) (h256 : ∀ x ∈ b, x < 256) :
    ((M.write i.root key b).2.2 = 0 ∧ ∃ pg, Imgs m (M.write i.root key b).1 (is.set k ⟨(M.write i.root key b).2.1, putL i.l (key, pg), i.P + 1, upd i.w key b⟩)) ∨
      ((M.write i.root key b).2.1 = -1 ∧ Imgs m (M.write i.root key b).1 is ∧ (M.write i.root key b).1.pool = M.marked.pool ∧
        (((M.write i.root key b).2.2 = 71 ∧ (M.tidy.pool.freeCount = 0 ∨ ∃ M1 h, Grown M.marked M1 ∧ Rooted m M1 i.root i.l h ∧ (i.root = -1 ∨ Led M1 h i.root i.P) ∧ M.tidy.pool.freeCount < 2 * h + 4)) ∨ ((M.write i.root key b).2.2 = 72 ∧ ∃ q, 255 ≤ M.sum + 38 + extL (is.map (·.root)) q))) := by
  unfold SM.write
  rw [if_neg (by omega)]
  rcases write1_ok hm h.marked hi hP k0 k1 hb h256 with ⟨e, pg, hI⟩ | ⟨e1, e⟩
  · left
    have : M.safely (M.marked.write1 i.root key b) = M.marked.write1 i.root key b := by unfold SM.safely; rw [if_pos e]
    rw [this]
    exact ⟨e, pg, hI⟩
  · right
    have hk := write1_closed (marked_closed M.marked) i.root key b (mark_start M.tidy)
    have hne : (M.marked.write1 i.root key b).2.2 ≠ 0 := by rcases e with ⟨e, _⟩ | ⟨e, _⟩ <;> rw [e] <;> decide
    obtain ⟨a1, a2, a3, a4, _⟩ := safely_err h hne hk
    rw [a2]
    rw [marked_free, marked_sum] at e
    exact ⟨a1, a3, a4, e⟩
end
/-- Blocks are cleared. -/
def SM.clear (M : SM) (root : Int) (keys : List Int) : SM × Int × Nat := if (∃ x ∈ keys, x < 0 ∨ 63 < x) then (M, -1, 101) else M.safely (SM.trim keys M.marked root)
def wipe (w : Int → List Nat) (key : Int) : Int → List Nat := upd w key zeros16
section
variable {M : SM} {is : List IM} {i : IM} {k : Nat}
/-- One key is taken out of an image. -/
theorem cut1_ok (h : Imgs 1 M is) (hi : is[k]? = some i) (hP : i.P ≤ 149) {key : Int} (k0 : 0 ≤ key) (k1 : key < 64) (ks : List Int) :
    (∃ M' next, SM.trim (key :: ks) M i.root = SM.trim ks M' next ∧ Imgs 1 M' (is.set k ⟨next, cutL i.l key, i.P, wipe i.w key⟩)) ∨
      ((SM.trim (key :: ks) M i.root).2.1 = -1 ∧ (((SM.trim (key :: ks) M i.root).2.2 = 71 ∧ M.pool.freeCount < 6) ∨ ((SM.trim (key :: ks) M i.root).2.2 = 72 ∧ ∃ q, 255 ≤ M.sum + 36 + extL (is.map (·.root)) q))) := by
  have hr : i ∈ is := List.mem_of_getElem? hi
  have hI := h.img i hr
  have hext := extL_root (List.mem_map.2 ⟨i, hr, rfl⟩) hI.tree.low
  rw [trim_cons]
  have hzero : ∀ j, 0 ≤ j → j < 64 → (∀ y ∈ cutL i.l key, y.1 ≠ j) → wipe i.w key j = zeros16 := fun j j0 j1 hj => by
    unfold wipe upd
    by_cases e : j = key
    · rw [if_pos e]
    · rw [if_neg e]
      refine hI.zero j j0 j1 fun y hy he => hj y (List.mem_filter.2 ⟨hy, ?_⟩) he
      simp only [decide_eq_true_eq]
      omega
  have stay : (∀ y ∈ i.l, y.1 ≠ key) → Imgs 1 M (is.set k ⟨i.root, cutL i.l key, i.P, wipe i.w key⟩) := fun hno => by
    have hroots : (is.set k ⟨i.root, cutL i.l key, i.P, wipe i.w key⟩).map (·.root) = is.map (·.root) := by
      rw [List.map_set]
      refine List.ext_getElem? fun n => ?_
      rw [List.getElem?_set]
      by_cases e : k = n
      · subst e
        rw [List.getElem?_map, hi]
        have hk := (List.getElem?_eq_some_iff.1 hi).1
        simp [hk]
      · rw [if_neg e]
    refine ⟨by rw [hroots]; exact h.exact, h.loose, fun j hj => ?_⟩
    rcases List.mem_or_eq_of_mem_set hj with hj' | rfl
    · exact h.img j hj'
    · refine ⟨by rw [show (⟨i.root, cutL i.l key, i.P, wipe i.w key⟩ : IM).l = i.l from cutL_none hno]; exact hI.tree, fun y hy => ?_, hzero⟩
      have hy' : y ∈ i.l := (List.mem_filter.1 hy).1
      obtain ⟨d, hd, e1, e2, e3⟩ := hI.data y hy'
      refine ⟨d, hd, e1, ?_, e3⟩
      show d.block = wipe i.w key y.1
      unfold wipe upd
      rw [if_neg (hno y hy')]; exact e2
  rcases hI.tree.root with ⟨e, el⟩ | ⟨hh, tt, j⟩
  · have hcut : M.cut i.root key = (M, -1, false, 0) := by
      unfold SM.cut
      rw [if_neg (by omega), if_pos e]
    rw [hcut, if_pos rfl, if_neg (by simp)]
    exact .inl ⟨M, -1, rfl, by have := stay (by rw [el]; intro y hy; cases hy); rw [e] at this; exact this⟩
  · obtain ⟨hh, rfl⟩ : ∃ n, hh = n + 1 := ⟨hh - 1, by have := tr_pos tt; omega⟩
    have h5 := (led_pages tt j (by omega)).1
    rcases cut_ok (key := key) h.exact tt (by omega) (hI.tree.good h.exact) h.loose k0 k1 with ⟨e, hno⟩ | ⟨e, ew, T⟩ | ⟨e, hf⟩ | ⟨e, q, hq⟩
    · rw [e, if_pos rfl, if_neg (by simp)]
      exact .inl ⟨M, i.root, rfl, stay hno⟩
    · rw [if_pos e, if_pos ew]
      have t1 : TreeIn 1 (M.cut i.root key).1 (M.cut i.root key).2.1 (cutL i.l key) i.P := ⟨T.tr.imp id fun ⟨h', _, t', k', _⟩ => ⟨h', t', k' i.P j⟩, cutL_rises hI.tree.keys.1 _, fun y hy => hI.tree.keys.2 y (List.mem_filter.1 hy).1⟩
      have hh0 := (heldB_int tt.held).1
      rcases changed_of T.exact T.grown T.loose (root := i.root) (.inr ⟨tt.held, hext.resolve_left (by omega)⟩) t1 with ⟨e2, C⟩ | ⟨e2, hfull⟩
      · rw [if_pos e2]
        refine .inl ⟨_, _, rfl, ?_⟩
        refine imgs_changed h.exact h.img hi (i' := ⟨_, cutL i.l key, i.P, wipe i.w key⟩) C (fun y hy => ?_) hzero
        have hy' : y ∈ i.l := (List.mem_filter.1 hy).1
        have hyk : y.1 ≠ key := by have := (List.mem_filter.1 hy).2; simpa using this
        obtain ⟨d, hd, e1, e2, e3⟩ := hI.data y hy'
        refine ⟨d, by rw [C.node _ (hI.held h.exact hy')]; exact hd, e1, ?_, e3⟩
        show d.block = wipe i.w key y.1
        unfold wipe upd
        rw [if_neg hyk]; exact e2
      · rw [if_neg (by omega)]
        have ts := T.sum
        exact .inr ⟨rfl, .inr ⟨e2, (M.cut i.root key).2.1.toNat, by omega⟩⟩
    · rw [if_neg (by omega)]
      exact .inr ⟨rfl, .inl ⟨e, by omega⟩⟩
    · rw [if_neg (by omega)]
      exact .inr ⟨rfl, .inr ⟨e, q, by omega⟩⟩
theorem set_set {α : Type} (l : List α) (k : Nat) (a b : α) : (l.set k a).set k b = l.set k b := by simp
theorem trimI_ok : ∀ (ks : List Int) {M : SM} {is : List IM} {i : IM}, Imgs 1 M is → is[k]? = some i → i.P ≤ 149 → (∀ x ∈ ks, 0 ≤ x ∧ x ≤ 63) →
    ((SM.trim ks M i.root).2.2 = 0 ∧ Imgs 1 (SM.trim ks M i.root).1 (is.set k ⟨(SM.trim ks M i.root).2.1, ks.foldl cutL i.l, i.P, ks.foldl wipe i.w⟩)) ∨
      ((SM.trim ks M i.root).2.1 = -1 ∧ ((SM.trim ks M i.root).2.2 = 71 ∨ (SM.trim ks M i.root).2.2 = 72))
  | [], M, is, i, h, hi, _, _ => by
    left
    refine ⟨rfl, ?_⟩
    have : is.set k ⟨i.root, i.l, i.P, i.w⟩ = is := by
      refine List.ext_getElem? fun n => ?_
      rw [List.getElem?_set]
      by_cases e : k = n
      · subst e
        have hk := (List.getElem?_eq_some_iff.1 hi).1
        rw [if_pos rfl, if_pos hk, hi]
      · rw [if_neg e]
    show Imgs 1 M (is.set k ⟨i.root, i.l, i.P, i.w⟩)
    rw [this]; exact h
  | key :: ks, M, is, i, h, hi, hP, hks => by
    have hk := hks key (List.mem_cons_self ..)
    rcases cut1_ok h hi hP hk.1 (by omega) ks with ⟨M', next, e, hI⟩ | hr
    · rw [e]
      have hlt := (List.getElem?_eq_some_iff.1 hi).1
      have hi' : (is.set k ⟨next, cutL i.l key, i.P, wipe i.w key⟩)[k]? = some ⟨next, cutL i.l key, i.P, wipe i.w key⟩ := by rw [List.getElem?_set_self hlt]
      rcases trimI_ok ks hI hi' hP (fun x hx => hks x (List.mem_cons_of_mem _ hx)) with ⟨a, b⟩ | b
      · rw [set_set] at b
        exact .inl ⟨a, b⟩
      · exact .inr b
    · exact .inr (hr.imp id fun h => h.imp (fun h => h.1) fun h => h.1)
theorem trim_closed {Q : SM → Prop} (C : Closed Q) : ∀ (ks : List Int) {M : SM} (root : Int), Q M → Q (SM.trim ks M root).1
  | [], _, _, h => h
  | key :: ks, M, root, h => by
    have h1 := cut_closed C root key h
    rw [trim_cons]
    split
    · split
      · split
        · exact trim_closed C ks _ (C.swap _ _ h1)
        · exact C.swap _ _ h1
      · exact trim_closed C ks _ h1
    · exact h1
theorem clear_ok (h : Imgs 1 M is) (hi : is[k]? = some i) (hP : i.P ≤ 149) {ks : List Int} (hks : ∀ x ∈ ks, 0 ≤ x ∧ x ≤ 63) :
    ((M.clear i.root ks).2.2 = 0 ∧ Imgs 1 (M.clear i.root ks).1 (is.set k ⟨(M.clear i.root ks).2.1, ks.foldl cutL i.l, i.P, ks.foldl wipe i.w⟩)) ∨
      ((M.clear i.root ks).2.1 = -1 ∧ Imgs 1 (M.clear i.root ks).1 is ∧ (M.clear i.root ks).1.pool = M.marked.pool ∧ ((M.clear i.root ks).2.2 = 71 ∨ (M.clear i.root ks).2.2 = 72)) := by
  unfold SM.clear
  rw [if_neg (fun ⟨x, hx, e⟩ => by have := hks x hx; omega)]
  rcases trimI_ok ks h.marked hi hP hks with ⟨e, hI⟩ | ⟨e1, e⟩
  · left
    have : M.safely (SM.trim ks M.marked i.root) = SM.trim ks M.marked i.root := by unfold SM.safely; rw [if_pos e]
    rw [this]
    exact ⟨e, hI⟩
  · right
    have hk := trim_closed (marked_closed M.marked) ks i.root (mark_start M.tidy)
    have hne : (SM.trim ks M.marked i.root).2.2 ≠ 0 := by rcases e with e | e <;> rw [e] <;> decide
    obtain ⟨a1, a2, a3, a4, _⟩ := safely_err h hne hk
    rw [a2]
    exact ⟨a1, a3, a4, e⟩
/-- One key, where there is room. -/
theorem clear_one (h : Imgs 1 M is) (hi : is[k]? = some i) (hP : i.P ≤ 149) {key : Int} (k0 : 0 ≤ key) (k1 : key < 64) (hf : 6 ≤ M.tidy.pool.freeCount) (hs : ∀ q, M.sum + 36 + extL (is.map (·.root)) q < 255) :
    (M.clear i.root [key]).2.2 = 0 ∧ Imgs 1 (M.clear i.root [key]).1 (is.set k ⟨(M.clear i.root [key]).2.1, cutL i.l key, i.P, wipe i.w key⟩) := by
  have hcl : M.clear i.root [key] = M.safely (SM.trim [key] M.marked i.root) := by
    unfold SM.clear
    rw [if_neg (fun ⟨x, hx, e⟩ => by rw [List.mem_singleton.1 hx] at e; omega)]
  rcases cut1_ok h.marked hi hP k0 k1 [] with ⟨M', next, e, hI⟩ | ⟨_, e⟩
  · have : M.clear i.root [key] = (M', next, 0) := by
      rw [hcl, e]
      unfold SM.safely
      exact if_pos rfl
    rw [this]
    exact ⟨rfl, hI⟩
  · exfalso
    rw [marked_free, marked_sum] at e
    rcases e with ⟨_, e⟩ | ⟨_, q, e⟩
    · omega
    · have := hs q; omega
theorem TreeIn.nil {m : Nat} {root : Int} {P : Nat} (t : TreeIn m M root [] P) : root = -1 := by
  rcases t.root with ⟨e, _⟩ | ⟨hh, t, _⟩
  · exact e
  · have := tr_ge t
    simp at this
    omega
end
end Go.Proofs.YtidlchciehdefaaGreat
