/-
 Two trees held against one another, plain: what is in one, but for what is shared; where they differ.
-/
import Derived.Test.YtdcnogjbmdhgaaaK17
import Derived.Test.YtdcnogjbmdhgaaaK20
import Derived.Test.YtdcnogjbmdhgaaaK24
import Derived.Test.YtdcnogjbmdhgaaaK25
import Derived.Test.YtdcnogjbmdhgaaaK26
set_option linter.unusedVariables false
set_option linter.unusedSimpArgs false
namespace Go.Proofs.Ytdcnogjbmdhgaaa
open Go.RowKit

theorem tr_get {m : Nat} {M : SM} {h : Nat} {p : Int} {l : List (Int × Int)} (t : Tr m M h p l) : ∃ k n, h = k + 1 ∧ M.get p = (n, 0) ∧ n.ok ∧ M.nodeAt p.toNat = some n ∧ NTr (fun q a => Tr m M k q a ∧ m ≤ M.entN q) k n l ∧ p ≠ -1 := by
 cases h with
 | zero => exact t.elim
 | succ k =>
  obtain ⟨hp, n, hn, hok, hk⟩ := t
  refine ⟨k, n, rfl, ?_, hok, hn, hk, by have := (heldB_int hp).1; omega⟩
  unfold SM.get
  rw [if_pos hp, hn]
theorem kids_unique {T U : Int → List (Int × Int) → Prop} : ∀ {es l l' : List (Int × Int)}, (∀ e ∈ es, ∀ a b, T e.2 a → U e.2 b → a = b) → Kids T es l → Kids U es l' → l = l'
 | [], _, _, _, h, k => by rw [show _ = [] from h, show _ = [] from k]
 | e :: es, _, _, hT, ⟨a, b, x, h1, h2, _, _, h5⟩, ⟨a', b', x', k1, k2, _, _, k5⟩ => by
  rw [h1, k1, hT e (List.mem_cons_self ..) a a' h2 k2, kids_unique (fun e he => hT e (List.mem_cons_of_mem _ he)) h5 k5]
theorem tr_unique {m : Nat} {M : SM} : ∀ {h h' : Nat} {p : Int} {l l' : List (Int × Int)}, Tr m M h p l → Tr m M h' p l' → l = l'
 | 0, _, _, _, _, t, _ => t.elim
 | _ + 1, 0, _, _, _, _, t => t.elim
 | h + 1, h' + 1, p, l, l', ⟨_, n, hn, _, k⟩, ⟨_, n', hn', _, k'⟩ => by
  rw [hn] at hn'
  cases hn'
  rcases k with ⟨_, k2, k3⟩ | ⟨_, k2, k3⟩
  ·rcases k' with ⟨_, j2, j3⟩ | ⟨_, j2, j3⟩
   ·rw [← k3, ← j3]
   ·omega
  ·rcases k' with ⟨_, j2, j3⟩ | ⟨_, j2, j3⟩
   ·omega
   ·exact kids_unique (fun e _ a b ha hb => tr_unique ha.1 hb.1) k3 j3
theorem tr_below {m : Nat} {M : SM} {h : Nat} {p : Int} {l : List (Int × Int)} (t : Tr m M h p l) {q : Int} (hb : Below M p q) : ∃ h' a, h' ≤ h ∧ Tr m M h' q a ∧ ∀ y ∈ a, y ∈ l := by
 induction hb with
 | here => exact ⟨h, l, Nat.le_refl _, t, fun y hy => hy⟩
 | @kid x y _ hk hy ih =>
  obtain ⟨h', a, hle, t', hs⟩ := ih
  obtain ⟨k, n, rfl, hg, hok, hn, hN, _⟩ := tr_get t'
  rw [hg] at hk hy
  rcases hN with ⟨_, k2, _⟩ | ⟨_, _, k3⟩
  ·dsimp only at hk; omega
  ·obtain ⟨c, hc, hcs⟩ := k3.each y hy
   exact ⟨k, c, by omega, hc.1, fun z hz => hs z (hcs z hz)⟩
theorem below_ok {m : Nat} {M : SM} {h : Nat} {p : Int} {l : List (Int × Int)} (t : Tr m M h p l) : (∀ x, Below M p x → x = -1 ∨ (M.get x).2 = 0) ∧ ∀ x, Below M p x → (M.get x).1.kind = 3 → (M.get x).1.ents ≠ [] := by
 refine ⟨fun x hx => ?_, fun x hx hk => ?_⟩
 ·obtain ⟨h', a, _, t', _⟩ := tr_below t hx
  obtain ⟨k, n, _, hg, _⟩ := tr_get t'
  exact .inr (by rw [hg])
 ·obtain ⟨h', a, _, t', _⟩ := tr_below t hx
  obtain ⟨k, n, _, hg, hok, _⟩ := tr_get t'
  rw [hg] at hk ⊢
  dsimp only at hk ⊢
  exact List.length_pos_iff.1 (innerOk_of hok (by omega)).pos
theorem below_cases {M : SM} {p q : Int} (h : Below M p q) : q = p ∨ ((M.get p).1.kind = 3 ∧ ∃ y ∈ (M.get p).1.ents, Below M y.2 q) := by
 induction h with
 | here => exact .inl rfl
 | @kid x y _ hk hy ih =>
  rcases ih with e | ⟨k, z, hz, hb⟩
  ·subst e; exact .inr ⟨hk, y, hy, .here⟩
  ·exact .inr ⟨k, z, hz, .kid hb hk hy⟩
theorem below_neg {M : SM} {p : Int} {m h : Nat} {l : List (Int × Int)} (t : Tr m M h p l) {q : Int} (hb : Below M p q) : q ≠ -1 := by
 obtain ⟨_, _, _, t', _⟩ := tr_below t hb
 obtain ⟨_, _, _, _, _, _, _, e⟩ := tr_get t'
 exact e
def ownF (M : SM) (S : Int → Bool) : Nat → Int → List (Int × Int)
 | 0, _ => []
 | h + 1, r => if r = -1 ∨ S r = true then [] else ((M.get r).1.ents.map (fun y => if (M.get r).1.kind = 2 then [y] else ownF M S h y.2)).flatten
theorem own_ok {m : Nat} {M : SM} {S : Int → Bool} : ∀ {h d : Nat} {p : Int} {l : List (Int × Int)}, Tr m M h p l → d + h ≤ 8 → (-9223372036854775808 ≤ p ∧ p ≤ 9223372036854775807) → (∀ x y, Below M p x → y ∈ (M.get x).1.ents → 0 ≤ y.2 ∧ y.2 < 240) → OwnC M S d p (ownF M S h p)
 | 0, _, _, _, t, _, _, _ => t.elim
 | h + 1, d, p, l, t, hd, hp, hb => by
  obtain ⟨k, n, e, hg, hok, hn, hN, hp1⟩ := tr_get t
  obtain rfl : h = k := by omega
  unfold ownF
  by_cases hS : p = -1 ∨ S p = true
  ·rw [if_pos hS]; exact ownNone hp hS
  ·rw [if_neg hS]
   have hSp : S p = false := by
    cases e : S p with
    | false => rfl
    | true => exact absurd (.inr e) hS
   rw [hg]
   dsimp only
   rcases hN with ⟨_, k2, k3⟩ | ⟨_, k2, k3⟩
   ·exact ownNode hg hSp (.inl k2) (by omega) (fun _ y _ => by simp only [k2, if_true]) (fun e => by omega)
   ·refine ownNode hg hSp (.inr k2) (by omega) (fun e => by omega) (fun _ y hy => ?_)
    simp only [k2, show ¬ ((3 : Nat) = 2) by decide, if_false]
    obtain ⟨c, hc, _⟩ := k3.each y hy
    have hyb := hb p y .here (by rw [hg]; exact hy)
    refine own_ok hc.1 (by omega) (by omega) (fun x z hx hz => hb x z ?_ hz)
    have hbelow : Below M p y.2 := .kid .here (by rw [hg]; exact k2) (by rw [hg]; exact hy)
    clear hz
    induction hx with
    | here => exact hbelow
    | kid _ h1 h2 ih => exact .kid ih h1 h2
theorem flat_sub {T : Int → List (Int × Int) → Prop} {f : Int × Int → List (Int × Int)} : ∀ {es l : List (Int × Int)}, Kids T es l → (∀ e ∈ es, ∀ a, T e.2 a → (f e).Sublist a) → ((es.map f).flatten).Sublist l
 | [], _, h, _ => by rw [show _ = [] from h]; exact List.Sublist.refl _
 | e :: es, _, ⟨a, b, x, h1, h2, _, _, h5⟩, hf => by
  rw [h1, List.map_cons, List.flatten_cons]
  exact List.Sublist.append (hf e (List.mem_cons_self ..) a h2) (flat_sub h5 (fun e he => hf e (List.mem_cons_of_mem _ he)))
theorem flat_one : ∀ (l : List (Int × Int)), (l.map fun y => [y]).flatten = l
 | [] => rfl
 | y :: l => by rw [List.map_cons, List.flatten_cons, flat_one l]; rfl
theorem own_sub {m : Nat} {M : SM} {S : Int → Bool} : ∀ {h : Nat} {p : Int} {l : List (Int × Int)}, Tr m M h p l → (ownF M S h p).Sublist l
 | 0, _, _, t => t.elim
 | h + 1, p, l, t => by
  obtain ⟨k, n, e, hg, hok, hn, hN, hp1⟩ := tr_get t
  obtain rfl : h = k := by omega
  unfold ownF
  by_cases hS : p = -1 ∨ S p = true
  ·rw [if_pos hS]; exact List.nil_sublist _
  ·rw [if_neg hS, hg]
   dsimp only
   rcases hN with ⟨_, k2, k3⟩ | ⟨_, k2, k3⟩
   ·simp only [k2, if_true]
    rw [flat_one, k3]
    exact List.Sublist.refl _
   ·simp only [k2, show ¬ ((3 : Nat) = 2) by decide, if_false]
    exact flat_sub k3 (fun e _ a ha => own_sub ha.1)
theorem own_or {m : Nat} {M : SM} {S : Int → Bool} : ∀ {h : Nat} {p : Int} {l : List (Int × Int)}, Tr m M h p l → ∀ y ∈ l, y ∈ ownF M S h p ∨ ∃ q, Below M p q ∧ S q = true ∧ ∃ h' a, Tr m M h' q a ∧ y ∈ a
 | 0, _, _, t, _, _ => t.elim
 | h + 1, p, l, t, y, hy => by
  obtain ⟨k, n, e, hg, hok, hn, hN, hp1⟩ := tr_get t
  obtain rfl : h = k := by omega
  unfold ownF
  by_cases hS : S p = true
  ·exact .inr ⟨p, .here, hS, _, _, t, hy⟩
  ·rw [if_neg (by simp [hp1, hS]), hg]
   dsimp only
   rcases hN with ⟨_, k2, k3⟩ | ⟨_, k2, k3⟩
   ·simp only [k2, if_true]
    rw [flat_one, k3]
    exact .inl hy
   ·simp only [k2, show ¬ ((3 : Nat) = 2) by decide, if_false]
    obtain ⟨e, he, a, ha, hya⟩ := k3.in y hy
    rcases own_or (S := S) ha.1 y hya with h1 | ⟨q, hq, hs, r⟩
    ·exact .inl (List.mem_flatten.2 ⟨_, List.mem_map.2 ⟨e, he, rfl⟩, h1⟩)
    ·refine .inr ⟨q, ?_, hs, r⟩
     have hbelow : Below M p e.2 := .kid .here (by rw [hg]; exact k2) (by rw [hg]; exact he)
     clear hs r
     induction hq with
     | here => exact hbelow
     | kid _ h1 h2 ih => exact .kid ih h1 h2
theorem kids_same {T : Int → List (Int × Int) → Prop} (hT : ∀ q a b, T q a → T q b → a = b) : ∀ {es l : List (Int × Int)}, Kids T es l → RisesK l → ∀ e ∈ es, ∀ e' ∈ es, ∀ a a', T e.2 a → T e'.2 a' → RisesK a ∧ ∀ y ∈ a, ∀ z ∈ a', z.1 = y.1 → e = e'
 | [], _, _, _, e, he, _, _, _, _, _, _ => by cases he
 | f :: es, l, ⟨a0, b0, x, h1, h2, h3, h4, h5⟩, hr, e, he, e', he', a, a', ha, ha' => by
  rw [h1] at hr
  have hr' := List.pairwise_append.1 hr
  have hb : ∀ g ∈ es, ∀ c, T g.2 c → ∀ z ∈ c, z ∈ b0 := fun g hg c hc z hz => by
   obtain ⟨c', hc', hs⟩ := h5.each g hg
   rw [hT _ _ _ hc hc'] at hz
   exact hs z hz
  rcases List.mem_cons.1 he with rfl | he2
  ·rw [hT _ _ _ ha h2]
   refine ⟨hr'.1, fun y hy z hz hk => ?_⟩
   rcases List.mem_cons.1 he' with e2 | he2'
   ·exact e2.symm
   ·have := hr'.2.2 y hy z (hb e' he2' a' ha' z hz)
    omega
  ·rcases List.mem_cons.1 he' with e2 | he2'
   ·subst e2
    obtain ⟨c', hc', hs⟩ := h5.each e he2
    refine ⟨(kids_same hT h5 hr'.2.1 e he2 e he2 a a ha ha).1, fun y hy z hz hk => ?_⟩
    rw [hT _ _ _ ha' h2] at hz
    have := hr'.2.2 z hz y (hb e he2 a ha y hy)
    omega
   ·exact kids_same hT h5 hr'.2.1 e he2 e' he2' a a' ha ha'
theorem own_not {m : Nat} {M : SM} {S : Int → Bool} : ∀ {h : Nat} {p : Int} {l : List (Int × Int)}, Tr m M h p l → RisesK l → ∀ y ∈ ownF M S h p, ∀ q, Below M p q → S q = true → ∀ h' a, Tr m M h' q a → ∀ z ∈ a, z.1 ≠ y.1
 | 0, _, _, t, _, _, _, _, _, _, _, _, _, _, _ => t.elim
 | h + 1, p, l, t, hr, y, hy, q, hq, hs, h', a, ta, z, hz => by
  obtain ⟨k, n, e, hg, hok, hn, hN, hp1⟩ := tr_get t
  obtain rfl : h = k := by omega
  unfold ownF at hy
  by_cases hS : p = -1 ∨ S p = true
  ·rw [if_pos hS] at hy; cases hy
  ·rw [if_neg hS, hg] at hy
   dsimp only at hy
   rcases below_cases hq with e | ⟨hk3, e', he', hb'⟩
   ·exact absurd (.inr (e ▸ hs)) hS
   ·rw [hg] at hk3 he'
    dsimp only at hk3 he'
    rcases hN with ⟨_, k2, k3⟩ | ⟨_, k2, k3⟩
    ·omega
    ·simp only [k2, show ¬ ((3 : Nat) = 2) by decide, if_false] at hy
     obtain ⟨o, ho, hyo⟩ := List.mem_flatten.1 hy
     obtain ⟨e, he, rfl⟩ := List.mem_map.1 ho
     obtain ⟨c, hc, _⟩ := k3.each e he
     obtain ⟨c', hc', _⟩ := k3.each e' he'
     obtain ⟨h2, a2, _, t2, hsub⟩ := tr_below hc'.1 hb'
     have hzc : z ∈ c' := hsub z (by rw [tr_unique t2 ta]; exact hz)
     have hyc : y ∈ c := (own_sub hc.1).subset hyo
     obtain ⟨hrc, hsame⟩ := kids_same (fun q a b ha hb => tr_unique ha.1 hb.1) k3 hr e he e' he' c c' hc hc'
     intro hk
     have := hsame y hyc z hzc hk
     subst this
     exact own_not hc.1 hrc y hyo q hb' hs h' a ta z hz hk
structure Side (m : Nat) (M : SM) (S : Int → Bool) (r : Int) (l own : List (Int × Int)) : Prop where
 sub : own.Sublist l
 or_ : ∀ y ∈ l, y ∈ own ∨ ∃ q, Below M r q ∧ q ≠ -1 ∧ S q = true ∧ ∃ h' a, Tr m M h' q a ∧ y ∈ a
 not_ : ∀ y ∈ own, ∀ q, Below M r q → q ≠ -1 → S q = true → ∀ h' a, Tr m M h' q a → ∀ z ∈ a, z.1 ≠ y.1
 below : ∀ q, Below M r q → q ≠ -1 → ∃ h' a, Tr m M h' q a ∧ ∀ y ∈ a, y ∈ l
 rises : RisesK l
theorem side_of {m : Nat} {M : SM} {S : Int → Bool} {r : Int} {l : List (Int × Int)} {h : Nat} (t : Tr m M h r l) (hr : RisesK l) : Side m M S r l (ownF M S h r) :=
 ⟨own_sub t, fun y hy => (own_or t y hy).imp id fun ⟨q, h1, h2, h3⟩ => ⟨q, h1, below_neg t h1, h2, h3⟩, fun y hy q h1 _ h2 => own_not t hr y hy q h1 h2, fun q h1 _ => by obtain ⟨h', a, _, h3, h4⟩ := tr_below t h1; exact ⟨h', a, h3, h4⟩, hr⟩
theorem side_none (m : Nat) (M : SM) (S : Int → Bool) : Side m M S (-1) [] [] :=
 ⟨List.Sublist.refl _, (fun y hy => by cases hy), (fun y hy => by cases hy), fun q h1 h2 => absurd (below_none h1) h2, List.Pairwise.nil⟩
theorem findL_mem : ∀ {l : List (Int × Int)}, RisesK l → ∀ {y : Int × Int}, y ∈ l → findL l y.1 = y.2
 | [], _, _, h => by cases h
 | x :: l, hr, y, h => by
  have hr' := List.pairwise_cons.1 hr
  unfold findL
  rcases List.mem_cons.1 h with rfl | h
  ·rw [if_pos rfl]
  ·rw [if_neg (by have := hr'.1 y h; omega)]
   exact findL_mem hr'.2 h
section
variable {m : Nat} {M : SM} {S : Int → Bool} {ra rb : Int} {la lb oa ob : List (Int × Int)}
theorem same_key (A : Side m M S ra la oa) (B : Side m M S rb lb ob) (hS : ∀ q, S q = true → (Below M ra q ∧ q ≠ -1) ∧ (Below M rb q ∧ q ≠ -1)) {k : Int} (ha : ∀ y ∈ oa, y.1 ≠ k) (hb : ∀ y ∈ ob, y.1 ≠ k) : findL la k = findL lb k := by
 by_cases h : ∃ y ∈ la, y.1 = k
 ·obtain ⟨y, hy, rfl⟩ := h
  rcases A.or_ y hy with h | ⟨q, _, hq1, hs, h', a, t, hya⟩
  ·exact absurd rfl (ha y h)
  ·obtain ⟨h2, a2, t2, hsub⟩ := B.below q (hS q hs).2.1 hq1
   rw [tr_unique t t2] at hya
   rw [findL_mem A.rises hy, findL_mem B.rises (hsub y hya)]
 ·rw [findL_none (fun y hy e => h ⟨y, hy, e⟩)]
  by_cases h2 : ∃ y ∈ lb, y.1 = k
  ·obtain ⟨y, hy, rfl⟩ := h2
   rcases B.or_ y hy with h2 | ⟨q, _, hq1, hs, h', a, t, hya⟩
   ·exact absurd rfl (hb y h2)
   ·obtain ⟨h3, a3, t3, hsub⟩ := A.below q (hS q hs).1.1 hq1
    rw [tr_unique t t3] at hya
    exact absurd ⟨y, hsub y hya, rfl⟩ h
  ·rw [findL_none (fun y hy e => h2 ⟨y, hy, e⟩)]
theorem own_find (A : Side m M S ra la oa) {y : Int × Int} (hy : y ∈ oa) : findL la y.1 = y.2 := findL_mem A.rises (A.sub.subset hy)
theorem other_none (A : Side m M S ra la oa) (B : Side m M S rb lb ob) (hS : ∀ q, S q = true → (Below M ra q ∧ q ≠ -1) ∧ (Below M rb q ∧ q ≠ -1)) {y : Int × Int} (hy : y ∈ ob) (ha : ∀ x ∈ oa, x.1 ≠ y.1) : findL la y.1 = -1 := by
 refine findL_none fun x hx e => ?_
 rcases A.or_ x hx with h | ⟨q, _, hq1, hs, h', a, t, hxa⟩
 ·exact ha x h e
 ·exact B.not_ y hy q (hS q hs).2.1 hq1 hs h' a t x hxa e
end
def changesL (la lb : List (Int × Int)) : List (Int × Int) := (List.range 64).filterMap fun (k : Nat) => if findL la (k : Int) = findL lb (k : Int) then none else some ((k : Int), findL lb (k : Int))
section
variable {m : Nat} {M M' : SM}
end
def occSum (M : SM) (c : Nat) (L : List Nat) : Nat := (L.map fun q => occ (M.ents q) c).sum
theorem occSum_append (M : SM) (c : Nat) (a b : List Nat) : occSum M c (a ++ b) = occSum M c a + occSum M c b := by unfold occSum; rw [List.map_append, List.sum_append]
theorem occSum_none {M : SM} {c : Nat} : ∀ {L : List Nat}, (∀ q ∈ L, M.ents q = []) → occSum M c L = 0
 | [], _ => rfl
 | a :: L, h => by
  have h1 := occSum_none (c := c) (fun q hq => h q (List.mem_cons_of_mem (a := q) a hq))
  unfold occSum at h1 ⊢
  rw [List.map_cons, List.sum_cons, h a (List.mem_cons_self ..), h1]
  rfl
theorem occ_append (a b : List (Int × Int)) (c : Nat) : occ (a ++ b) c = occ a c + occ b c := List.countP_append
theorem refs_list {M : SM} {c : Nat} {L : List Nat} (h : ∀ q, M.live q = true → q ∈ L) : M.refs c ≤ occSum M c L := sum_list (f := fun q => occ (M.ents q) c) (b := M.live) L M.pool.size (fun q _ hq => h q hq)
theorem rises_half {a b : List (Int × Int)} (h : RisesK (a ++ b)) {K : Int} (ha : ∃ y ∈ a, y.1 = K) (hb : ∃ y ∈ b, y.1 = K) : False := by
 obtain ⟨y, hy, e1⟩ := ha
 obtain ⟨z, hz, e2⟩ := hb
 have := (List.pairwise_append.1 h).2.2 y hy z hz
 omega
theorem tr_occ {m : Nat} {M : SM} {c : Nat} {K : Int} (hK : ∀ h' a, Tr m M h' (c : Int) a → ∃ y ∈ a, y.1 = K) : ∀ {h : Nat} {p : Int} {l : List (Int × Int)}, Tr m M h p l → RisesK l →
  ((∃ y ∈ l, y.1 = K) → occSum M c (pagesF M h p) + 1 ≤ h + occ l c) ∧ ((¬ ∃ y ∈ l, y.1 = K) → occSum M c (pagesF M h p) ≤ occ l c)
 | 0, _, _, t, _ => t.elim
 | h + 1, p, l, ⟨hp, n, hn, hok, k⟩, hr => by
  have he := ents_of hn
  unfold pagesF
  rcases k with ⟨h0, _, hl⟩ | ⟨h0, _, hT⟩
  ·rw [if_pos h0]
   have : occSum M c [p.toNat] = occ l c := by
    unfold occSum
    rw [List.map_cons, List.map_nil, List.sum_cons, List.sum_nil, he, hl]
    omega
   rw [this]
   exact ⟨fun _ => by omega, fun _ => Nat.le_refl _⟩
  ·rw [if_neg (by omega), he]
   have key : ∀ (es l : List (Int × Int)), Kids (Sub m M h) es l → RisesK l →
     ((∃ y ∈ l, y.1 = K) → occ es c + occSum M c (es.flatMap fun e => pagesF M h e.2) ≤ h + occ l c) ∧ ((¬ ∃ y ∈ l, y.1 = K) → occ es c + occSum M c (es.flatMap fun e => pagesF M h e.2) ≤ occ l c) := by
    intro es
    induction es with
    | nil =>
     intro l hl _
     rw [show l = [] from hl]
     exact ⟨fun ⟨y, hy, _⟩ => (by cases hy), fun _ => Nat.le_refl _⟩
    | cons e es ih =>
     rintro l ⟨a, b, x, h1, h2, h3, h4, h5⟩ hr
     subst h1
     have ra : RisesK a := (List.pairwise_append.1 hr).1
     have rb : RisesK b := (List.pairwise_append.1 hr).2.1
     obtain ⟨i1, i2⟩ := tr_occ hK h2.1 ra
     obtain ⟨j1, j2⟩ := ih b h5 rb
     have hoc : occ (e :: es) c = occ es c + if e.2 = (c : Int) then 1 else 0 := by
      unfold occ
      rw [List.countP_cons]
      simp
     have hec : e.2 = (c : Int) → ∃ y ∈ a, y.1 = K := fun e1 => hK h a (by rw [← e1]; exact h2.1)
     rw [List.flatMap_cons, occSum_append, occ_append, hoc]
     have hmem : (∃ y ∈ a ++ b, y.1 = K) ↔ (∃ y ∈ a, y.1 = K) ∨ (∃ y ∈ b, y.1 = K) := by
      constructor
      ·rintro ⟨y, hy, e⟩
       exact (List.mem_append.1 hy).imp (fun h => ⟨y, h, e⟩) (fun h => ⟨y, h, e⟩)
      ·rintro (⟨y, hy, e⟩ | ⟨y, hy, e⟩)
       ·exact ⟨y, List.mem_append_left _ hy, e⟩
       ·exact ⟨y, List.mem_append_right _ hy, e⟩
     rw [hmem]
     by_cases ha : ∃ y ∈ a, y.1 = K
     ·have hb : ¬ ∃ y ∈ b, y.1 = K := fun hb => rises_half hr ha hb
      have q1 := i1 ha
      have q2 := j2 hb
      refine ⟨fun _ => ?_, fun hn => absurd (.inl ha) hn⟩
      split <;> omega
     ·have hne : ¬ e.2 = (c : Int) := fun e1 => ha (hec e1)
      have q1 := i2 ha
      rw [if_neg hne]
      by_cases hb : ∃ y ∈ b, y.1 = K
      ·have q2 := j1 hb
       exact ⟨fun _ => by omega, fun hn => absurd (.inr hb) hn⟩
      ·have q2 := j2 hb
       exact ⟨fun hn => hn.elim (fun h => absurd h ha) (fun h => absurd h hb), fun _ => by omega⟩
   obtain ⟨k1, k2⟩ := key n.ents l hT hr
   have hs : occSum M c (p.toNat :: n.ents.flatMap fun e => pagesF M h e.2) = occ n.ents c + occSum M c (n.ents.flatMap fun e => pagesF M h e.2) := by
    unfold occSum
    rw [List.map_cons, List.sum_cons, he]
   rw [hs]
   exact ⟨fun hk => by have := k1 hk; omega, fun hk => k2 hk⟩
theorem tr_occ5 {m : Nat} {M : SM} {c h : Nat} {p : Int} {l : List (Int × Int)} (t : Tr m M h p l) (hr : RisesK l) (h5 : h ≤ 6) : occSum M c (pagesF M h p) ≤ 5 + occ l c := by
 by_cases hc : ∃ h' a, Tr m M h' (c : Int) a
 ·obtain ⟨h', a, ta⟩ := hc
  have hge := tr_ge ta
  cases a with
  | nil => simp at hge; omega
  | cons y a =>
   obtain ⟨q1, q2⟩ := tr_occ (K := y.1) (fun h2 b tb => ⟨y, by rw [tr_unique tb ta]; exact List.mem_cons_self .., rfl⟩) t hr
   by_cases hk : ∃ z ∈ l, z.1 = y.1
   ·have := q1 hk; omega
   ·have := q2 hk; omega
 ·obtain ⟨q1, q2⟩ := tr_occ (K := 64) (c := c) (fun h2 b tb => absurd ⟨h2, b, tb⟩ hc) t hr
  by_cases hk : ∃ z ∈ l, z.1 = 64
  ·have := q1 hk; omega
  ·have := q2 hk; omega
theorem forest_pages {m : Nat} {M : SM} {ext : Nat → Nat} (E : Exact M ext) (hl : Loose M []) (is : List IM) (ht : ∀ i ∈ is, TreeIn m M i.root i.l i.P ∧ i.P ≤ 240 ∧ ∀ y ∈ i.l, M.ents y.2.toNat = []) {bl : List Nat} (hb : ∀ q ∈ bl, M.ents q = [])
  (hx : ∀ q, q < M.pool.size → 0 < ext q → q ∈ bl ∨ ∃ i ∈ is, i.root = (q : Int)) (c : Nat) (B : List Nat) (hB : ∀ i ∈ is, ∀ y ∈ i.l, y.2.toNat ∈ B) (hBe : ∀ q ∈ B, M.ents q = []) :
  ∃ L : List Nat, (∀ q, M.live q = true → q ∈ bl ++ B ++ L) ∧ 2 * L.length ≤ (is.map fun i => i.P + 3).sum ∧ occSum M c L ≤ (is.map fun i => 5 + occ i.l c).sum := by
 have all : ∀ js : List IM, (∀ i ∈ js, i ∈ is) → ∃ L : List Nat, (∀ i ∈ js, i.root = -1 ∨ i.root.toNat ∈ L) ∧ (∀ q ∈ L, ∀ x ∈ M.ents q, x.2.toNat ∈ L ∨ x.2.toNat ∈ B) ∧ 2 * L.length ≤ (js.map fun i => i.P + 3).sum ∧ occSum M c L ≤ (js.map fun i => 5 + occ i.l c).sum := by
  intro js
  induction js with
  | nil => intro _; exact ⟨[], fun i hi => (by cases hi), fun q hq => (by cases hq), Nat.le_refl _, Nat.le_refl _⟩
  | cons i js ih =>
   intro hin
   obtain ⟨L, a1, a2, a3, a4⟩ := ih (fun j hj => hin j (List.mem_cons_of_mem _ hj))
   have hi := hin i (List.mem_cons_self ..)
   obtain ⟨T, hP, _⟩ := ht i hi
   rw [List.map_cons, List.sum_cons, List.map_cons, List.sum_cons]
   rcases T.root with ⟨e, el⟩ | ⟨hh, t, j⟩
   ·refine ⟨L, fun q hq => ?_, a2, by omega, by omega⟩
    rcases List.mem_cons.1 hq with rfl | hq
    ·exact .inl e
    ·exact a1 q hq
   ·obtain ⟨p1, _, p3⟩ := led_pages t j hP
    have p4 := tr_occ5 (c := c) t T.keys.1 (by omega)
    refine ⟨pagesF M hh i.root ++ L, fun q hq => ?_, fun q hq x hx => ?_, by rw [List.length_append]; omega, by rw [occSum_append]; omega⟩
    ·rcases List.mem_cons.1 hq with rfl | hq
     ·exact .inr (List.mem_append_left _ (pages_self (tr_pos t)))
     ·exact (a1 q hq).imp id fun e => List.mem_append_right _ e
    ·rcases List.mem_append.1 hq with hq | hq
     ·rcases pages_closed t q hq x hx with e | e
      ·exact .inl (List.mem_append_left _ e)
      ·exact .inr (hB i hi x e)
     ·exact (a2 q hq x hx).imp (fun e => List.mem_append_right _ e) id
 obtain ⟨L, a1, a2, a3, a4⟩ := all is (fun i hi => hi)
 refine ⟨L, reach_all E hl (fun q hq h0 => ?_) (fun q hq x hx => ?_), a3, a4⟩
 ·rcases hx q hq h0 with e | ⟨i, hi, e⟩
  ·exact List.mem_append_left _ (List.mem_append_left _ e)
  ·rcases a1 i hi with e1 | e1
   ·omega
   ·rw [e, Int.toNat_natCast] at e1; exact List.mem_append_right _ e1
 ·rcases List.mem_append.1 hq with hq | hq
  ·have he : M.ents q = [] := (List.mem_append.1 hq).elim (hb q) (hBe q)
   rw [he] at hx; cases hx
  ·rcases a2 q hq x hx with e | e
   ·exact List.mem_append_right _ e
   ·exact List.mem_append_left _ (List.mem_append_right _ e)
theorem forest_refs {m : Nat} {M : SM} {ext : Nat → Nat} (E : Exact M ext) (hl : Loose M []) (is : List IM) (ht : ∀ i ∈ is, TreeIn m M i.root i.l i.P ∧ i.P ≤ 240 ∧ ∀ y ∈ i.l, M.ents y.2.toNat = []) {bl : List Nat} (hb : ∀ q ∈ bl, M.ents q = [])
  (hx : ∀ q, q < M.pool.size → 0 < ext q → q ∈ bl ∨ ∃ i ∈ is, i.root = (q : Int)) (c : Nat) : M.refs c ≤ (is.map fun i => 5 + occ i.l c).sum := by
 have hBe : ∀ q ∈ is.flatMap (fun i => i.l.map fun y => y.2.toNat), M.ents q = [] := fun q hq => by
  obtain ⟨i, hi, hq⟩ := List.mem_flatMap.1 hq
  obtain ⟨y, hy, rfl⟩ := List.mem_map.1 hq
  exact (ht i hi).2.2 y hy
 obtain ⟨L, h1, _, h3⟩ := forest_pages E hl is ht hb hx c (is.flatMap fun i => i.l.map fun y => y.2.toNat) (fun i hi y hy => List.mem_flatMap.2 ⟨i, hi, List.mem_map.2 ⟨y, hy, rfl⟩⟩) hBe
 have := refs_list (c := c) h1
 rw [occSum_append, occSum_append, occSum_none hb, occSum_none hBe] at this
 omega
theorem cnt_cast (ns : List Nat) (p : Nat) : (ns.map fun b => ((b : Nat) : Int)).count (p : Int) = ns.count p := by
 induction ns with
 | nil => rfl
 | cons b ns ih =>
  rw [List.map_cons, List.count_cons, List.count_cons, ih]
  by_cases e : b = p
  ·subst e; simp
  ·have h1 : (b == p) = false := by simp [e]
   have h2 : (((b : Nat) : Int) == (p : Int)) = false := by rw [beq_eq_false_iff_ne]; omega
   rw [h1, h2]
structure Forest (K : SM → Prop) (ns : List Nat) (M : SM) (ts : List IM) : Prop where
 exact : Exact M (extL (ts.map (·.root) ++ ns.map fun b => ((b : Nat) : Int)))
 size : M.pool.size = 240
 kk : K M
 loose : Loose M []
 data : ∀ b ∈ ns, M.live b = true ∧ ∃ d, M.nodeAt b = some d ∧ d.kind = 1 ∧ d.ents = []
 tree : ∀ t ∈ ts, TreeIn 1 M t.root t.l t.P ∧ ∀ y ∈ t.l, ∃ b ∈ ns, y.2 = ((b : Nat) : Int)
section
variable {K : SM → Prop} {c : Nat} {ns : List Nat} {M : SM} {ts : List IM} {t : IM} {k : Nat}
theorem Forest.of_one (h : OneTree K 240 ns M (-1) [] 0) : Forest K ns M [] := by
 refine ⟨exact_congr h.exact fun p _ => ?_, h.size, h.kk, h.loose, h.data, fun t ht => by cases ht⟩
 unfold extB extL
 rw [List.map_nil, List.nil_append, cnt_cast, if_neg (by omega)]
 rfl
theorem Forest.held (h : Forest K ns M ts) {b : Nat} (hb : b ∈ ns) : M.pool.heldB (b : Int) = true := by rw [heldB_nat]; exact (h.data b hb).1
theorem Forest.each (h : Forest K ns M ts) (hP : ∀ t ∈ ts, t.P ≤ 240) : (∀ i ∈ ts, TreeIn 1 M i.root i.l i.P ∧ i.P ≤ 240 ∧ ∀ y ∈ i.l, M.ents y.2.toNat = []) ∧ (∀ q ∈ ns, M.ents q = []) ∧
  ∀ q, q < M.pool.size → 0 < extL (ts.map (·.root) ++ ns.map fun b => ((b : Nat) : Int)) q → q ∈ ns ∨ ∃ i ∈ ts, i.root = (q : Int) := by
 have hd : ∀ q ∈ ns, M.ents q = [] := fun q hq => by
  obtain ⟨_, d, hd, _, he⟩ := h.data q hq
  rw [ents_of hd, he]
 refine ⟨fun i hi => ⟨(h.tree i hi).1, hP i hi, fun y hy => ?_⟩, hd, fun q _ h0 => ?_⟩
 ·obtain ⟨b, hb, e⟩ := (h.tree i hi).2 y hy
  rw [e, Int.toNat_natCast]
  exact hd b hb
 ·unfold extL at h0
  rcases List.mem_append.1 (List.count_pos_iff.1 h0) with hm | hm
  ·obtain ⟨i, hi, e⟩ := List.mem_map.1 hm
   exact .inr ⟨i, hi, e⟩
  ·obtain ⟨b, hb, e⟩ := List.mem_map.1 hm
   have : b = q := by omega
   exact .inl (this ▸ hb)
theorem occ_len2 (l : List (Int × Int)) (q : Nat) : occ l q ≤ l.length := List.countP_le_length
theorem Forest.refs (h : Forest K ns M ts) (hn : ns.Nodup) (h3 : ts.length ≤ 3) (hP : ∀ t ∈ ts, t.P ≤ 240) (q : Nat) : ¬ 255 ≤ M.refs q + 38 + extL (ts.map (·.root) ++ ns.map fun b => ((b : Nat) : Int)) q := fun hq => by
 obtain ⟨a1, a2, a3⟩ := h.each hP
 have h1 := forest_refs h.exact h.loose ts a1 a2 a3 q
 have h2 : (ts.map fun j => 5 + occ j.l q).sum ≤ 69 * ts.length := by
  have key : ∀ js : List IM, (∀ j ∈ js, j ∈ ts) → (js.map fun j => 5 + occ j.l q).sum ≤ 69 * js.length := by
   intro js
   induction js with
   | nil => intro _; exact Nat.le_refl _
   | cons j js ih =>
    intro hj
    have h3 := ih (fun x hx => hj x (List.mem_cons_of_mem _ hx))
    have h4 := (h.tree j (hj j (List.mem_cons_self ..))).1.len
    have h5 := occ_len2 j.l q
    rw [List.map_cons, List.sum_cons, List.length_cons]
    omega
  exact key ts (fun j hj => hj)
 have h4 : extL (ts.map (·.root) ++ ns.map fun b => ((b : Nat) : Int)) q ≤ ts.length + 1 := by
  unfold extL
  rw [List.count_append, cnt_cast]
  have b1 : List.count (q : Int) (ts.map (·.root)) ≤ (ts.map (·.root)).length := List.count_le_length
  have b2 := List.nodup_iff_count.1 hn q
  rw [List.length_map] at b1
  omega
 omega
theorem Forest.room (h : Forest K ns M ts) (hB : Besides K c) (h4 : ns.length ≤ 4) (hP : ∀ t ∈ ts, t.P ≤ 240) (hs : (ts.map fun i => i.P + 3).sum + 2 * c ≤ 438) : 13 ≤ M.pool.freeCount := by
 obtain ⟨a1, a2, a3⟩ := h.each hP
 obtain ⟨L, l1, l2, _⟩ := forest_pages h.exact h.loose ts a1 a2 a3 0 ns (fun i hi y hy => by
  obtain ⟨b, hb, e⟩ := (h.tree i hi).2 y hy
  rw [e, Int.toNat_natCast]; exact hb) a2
 have h1 := liveN_list l1
 have h2 := hB.room M h.kk
 have h3 := h.size
 rw [List.length_append, List.length_append] at h1
 omega
theorem set_app {α : Type} (a b : List α) {k : Nat} (hk : k < a.length) (x : α) : (a ++ b).set k x = a.set k x ++ b := by
 rw [List.set_append, if_pos hk]
theorem Forest.change (h : Forest K ns M ts) (hB : Besides K c) (hn : ns.Nodup) (h4 : ns.length ≤ 4) (h3 : ts.length ≤ 3) (hi : ts[k]? = some t) (hP : ∀ t ∈ ts, t.P + 1 ≤ 240) (hs : (ts.map fun i => i.P + 3).sum + 2 * c ≤ 438) {x : Int × Int} (k0 : 0 ≤ x.1) (k1 : x.1 < 64) (hx : x.2 = -1 ∨ ∃ b ∈ ns, x.2 = ((b : Nat) : Int)) :
  ∃ M' next, M.change t.root x = (M', next, 0) ∧ Changed 1 M (extL (ts.map (·.root) ++ ns.map fun b => ((b : Nat) : Int))) t.root (chgL t.l x) (t.P + 1) M' next ∧ Forest K ns M' (ts.set k ⟨next, chgL t.l x, t.P + 1, t.w⟩) := by
 have ht : t ∈ ts := List.mem_of_getElem? hi
 have hk : k < ts.length := (List.getElem?_eq_some_iff.1 hi).1
 obtain ⟨hT, hpg⟩ := h.tree t ht
 have hmem : t.root ∈ ts.map (·.root) ++ ns.map fun b => ((b : Nat) : Int) := List.mem_append_left _ (List.mem_map.2 ⟨t, ht, rfl⟩)
 have hx' : x.2 = -1 ∨ M.pool.heldB x.2 = true := hx.imp id fun ⟨b, hb, e⟩ => by rw [e]; exact h.held hb
 have hl : Loose M (if x.2 = -1 then [] else [x]) := h.loose.mono fun y hy => by cases hy
 have hclosed := change_closed hB.closed t.root x h.kk
 have hP' : ∀ t ∈ ts, t.P ≤ 240 := fun t ht => by have := hP t ht; omega
 rcases change_ok (by decide) h.exact hT (hP t ht) (extL_root hmem hT.low) (c := x) k0 k1 hx' hl (fun _ => rfl) with ⟨e, C⟩ | ⟨_, ⟨_, hh, hr, hled, hf⟩ | ⟨_, q, hq⟩⟩
 ·obtain ⟨M', hM'⟩ : ∃ M', (M.change t.root x).1 = M' := ⟨_, rfl⟩
  obtain ⟨next, hnext⟩ : ∃ n, (M.change t.root x).2.1 = n := ⟨_, rfl⟩
  rw [hM'] at C hclosed
  rw [hnext] at C
  refine ⟨M', next, by rw [← hM', ← hnext, ← e], C, ?_⟩
  have hr : (ts.map (·.root) ++ ns.map fun b => ((b : Nat) : Int))[k]? = some t.root := by
   rw [List.getElem?_append_left (by rw [List.length_map]; exact hk), List.getElem?_map, hi]; rfl
  have hroots : (ts.set k ⟨next, chgL t.l x, t.P + 1, t.w⟩).map (·.root) ++ (ns.map fun b => ((b : Nat) : Int)) = (ts.map (·.root) ++ ns.map fun b => ((b : Nat) : Int)).set k next := by
   rw [List.map_set, set_app _ _ (by rw [List.length_map]; exact hk)]
  have E' : Exact M' (extL ((ts.set k ⟨next, chgL t.l x, t.P + 1, t.w⟩).map (·.root) ++ ns.map fun b => ((b : Nat) : Int))) := by
   rw [hroots]
   exact exact_congr C.exact fun p _ => extL_set hr p
  refine ⟨E', C.size.trans h.size, hclosed, C.loose, fun b hb => ?_, fun j hj => ?_⟩
  ·obtain ⟨hlv, d, hd, e1, e2⟩ := h.data b hb
   refine ⟨?_, d, by rw [C.node _ hlv]; exact hd, e1, e2⟩
   have := ext_held E' (p := b) (by rw [C.size]; exact live_lt hlv) (by
    unfold extL
    refine List.count_pos_iff.2 (List.mem_append_right _ (List.mem_map.2 ⟨b, hb, rfl⟩)))
   rw [heldB_nat] at this
   exact this
  ·rcases List.mem_or_eq_of_mem_set hj with hj' | rfl
   ·obtain ⟨hJ, hJ2⟩ := h.tree j hj'
    have hin : j.root ∈ (ts.set k ⟨next, chgL t.l x, t.P + 1, t.w⟩).map (·.root) ++ ns.map fun b => ((b : Nat) : Int) := List.mem_append_left _ (List.mem_map.2 ⟨j, hj, rfl⟩)
    refine ⟨C.others 1 j.root j.l j.P hJ ?_, hJ2⟩
    rcases extL_root hin hJ.low with e | e
    ·exact .inl e
    ·exact .inr (by rw [extL_set hr, ← hroots]; exact e)
   ·refine ⟨C.tree, fun y hy => ?_⟩
    have hy : y ∈ chgL t.l x := hy
    unfold chgL at hy
    split at hy
    ·exact hpg y (List.mem_filter.1 hy).1
    ·rename_i hne
     rcases putL_mem hy with rfl | hy
     ·exact hx.resolve_left hne
     ·exact hpg y hy
 ·have := led5 (by have := hP t ht; omega) hr hled
  have := h.room hB h4 hP' hs
  omega
 ·exact absurd hq (h.refs hn h3 hP' q)
theorem sum_set {ts : List IM} : ∀ {k : Nat} {t t' : IM}, ts[k]? = some t → t'.P = t.P + 1 → ((ts.set k t').map fun i => i.P + 3).sum = (ts.map fun i => i.P + 3).sum + 1 := by
 induction ts with
 | nil => intro k t t' h; simp at h
 | cons a ts ih =>
  intro k t t' h e
  cases k with
  | zero =>
   simp only [List.getElem?_cons_zero, Option.some.injEq] at h
   subst h
   rw [List.set_cons_zero, List.map_cons, List.sum_cons, List.map_cons, List.sum_cons, e]
   omega
  | succ k =>
   rw [List.getElem?_cons_succ] at h
   rw [List.set_cons_succ, List.map_cons, List.sum_cons, List.map_cons, List.sum_cons, ih h e]
   omega
theorem set_set2 {α : Type} (l : List α) (k : Nat) (a b : α) : (l.set k a).set k b = l.set k b := by
 refine List.ext_getElem? fun j => ?_
 rw [List.getElem?_set, List.getElem?_set, List.getElem?_set, List.length_set]
 split
 ·rfl
 ·rfl
theorem Forest.changes (hB : Besides K c) (hn : ns.Nodup) (h4 : ns.length ≤ 4) : ∀ (cs : List (Int × Int)) {M : SM} {ts : List IM} {t : IM}, Forest K ns M ts → ts.length ≤ 3 → ts[k]? = some t → (∀ t ∈ ts, t.P + cs.length ≤ 239) → (ts.map fun i => i.P + 3).sum + cs.length + 2 * c ≤ 438 → (∀ x ∈ cs, 0 ≤ x.1 ∧ x.1 < 64 ∧ (x.2 = -1 ∨ ∃ b ∈ ns, x.2 = ((b : Nat) : Int))) →
  ∃ M' t', SM.changes cs M t.root = (M', t'.root, 0) ∧ t'.l = cs.foldl chgL t.l ∧ t'.P = t.P + cs.length ∧ Forest K ns M' (ts.set k t')
 | [], M, ts, t, h, _, hi, _, _, _ => by
  refine ⟨M, t, rfl, rfl, rfl, ?_⟩
  have : ts.set k t = ts := by
   refine List.ext_getElem? fun j => ?_
   rw [List.getElem?_set]
   by_cases e : k = j
   ·subst e
    rw [if_pos rfl, if_pos (List.getElem?_eq_some_iff.1 hi).1, hi]
   ·rw [if_neg e]
  rw [this]
  exact h
 | x :: cs, M, ts, t, h, h3, hi, hP, hs, hx => by
  rw [List.length_cons] at hP hs
  have hk : k < ts.length := (List.getElem?_eq_some_iff.1 hi).1
  obtain ⟨k0, k1, hx0⟩ := hx x (List.mem_cons_self ..)
  obtain ⟨M1, next, e, _, h1⟩ := h.change hB hn h4 h3 hi (fun t ht => by have := hP t ht; omega) (by omega) k0 k1 hx0
  have hi1 : (ts.set k ⟨next, chgL t.l x, t.P + 1, t.w⟩)[k]? = some ⟨next, chgL t.l x, t.P + 1, t.w⟩ := List.getElem?_set_self hk
  obtain ⟨M2, t2, e2, e3, e4, h2⟩ := Forest.changes hB hn h4 cs h1 (by rw [List.length_set]; exact h3) hi1 (fun j hj => by
   rcases List.mem_or_eq_of_mem_set hj with hj | rfl
   ·have := hP j hj; omega
   ·have := hP t (List.mem_of_getElem? hi)
    show t.P + 1 + _ ≤ _; omega) (by rw [sum_set hi rfl]; omega) (fun y hy => hx y (List.mem_cons_of_mem _ hy))
  refine ⟨M2, t2, ?_, by rw [e3]; rfl, by rw [e4, List.length_cons]; show t.P + 1 + cs.length = _; omega, by rw [set_set2] at h2; exact h2⟩
  unfold SM.changes
  rw [e]
  dsimp only
  rw [if_pos rfl]
  exact e2
theorem Forest.none (h : Forest K ns M ts) : Forest K ns M (ts ++ [.none]) := by
 refine ⟨exact_congr h.exact fun p _ => ?_, h.size, h.kk, h.loose, h.data, fun j hj => ?_⟩
 ·unfold extL
  rw [List.map_append, List.count_append, List.count_append, List.count_append]
  have : List.count ((p : Nat) : Int) (List.map (·.root) [IM.none]) = 0 := List.count_eq_zero.2 (fun hm => by
   simp only [List.map_cons, List.map_nil, List.mem_singleton] at hm
   have : ((p : Nat) : Int) = -1 := hm
   omega)
  rw [this]
  rfl
 ·rcases List.mem_append.1 hj with hj | hj
  ·exact h.tree j hj
  ·rw [List.mem_singleton.1 hj]
   exact ⟨TreeIn.none _ _ _, fun y hy => by cases hy⟩
theorem Forest.hold (h : Forest K ns M ts) (hB : Besides K c) (hn : ns.Nodup) (h3 : ts.length ≤ 3) (hP : ∀ t ∈ ts, t.P ≤ 240) (ht : t ∈ ts) : ∃ M', (if t.root = -1 then (M, 0) else M.hold t.root) = (M', 0) ∧ Forest K ns M' (ts ++ [t]) ∧ M'.log = M.log := by
 obtain ⟨hT, hpg⟩ := h.tree t ht
 by_cases e : t.root = -1
 ·rw [if_pos e]
  refine ⟨M, rfl, ⟨exact_congr h.exact fun p _ => ?_, h.size, h.kk, h.loose, h.data, fun j hj => ?_⟩, rfl⟩
  ·unfold extL
   rw [List.map_append, List.count_append, List.count_append, List.count_append]
   have : List.count ((p : Nat) : Int) (List.map (·.root) [t]) = 0 := List.count_eq_zero.2 (fun hm => by
    simp only [List.map_cons, List.map_nil, List.mem_singleton] at hm
    omega)
   rw [this]
   rfl
  ·rcases List.mem_append.1 hj with hj | hj
   ·exact h.tree j hj
   ·rw [List.mem_singleton.1 hj]; exact ⟨hT, hpg⟩
 ·rw [if_neg e]
  rcases hT.root with ⟨e', _⟩ | ⟨hh, tt, _⟩
  ·exact absurd e' e
  ·have hheld := tt.held
   obtain ⟨b, hb⟩ := Int.eq_ofNat_of_zero_le (heldB_int hheld).1
   have hlive : M.live b = true := by have := (heldB_int hheld).2; rw [hb, Int.toNat_natCast] at this; exact this
   have hrefs := h.refs hn h3 hP b
   have hcnt := h.exact.cnt b (live_lt hlive)
   obtain ⟨hhold, E', hlv⟩ := holdE_ok h.exact hlive (by omega)
   have hkk := hB.closed.hold M t.root h.kk
   have e2 : (⟨M.pool.holdTo t.root, M.log⟩ : SM) = (M.hold t.root).1 := rfl
   rw [e2, hb, hhold] at hkk
   rw [hb, hhold]
   have g : Grown M ⟨M.pool.setCnt b (M.pool.cnt b + 1), M.log⟩ := ⟨rfl, fun q hq => by rw [hlv]; exact hq, fun q _ => rfl⟩
   refine ⟨_, rfl, ⟨exact_congr E' fun p _ => ?_, h.size, hkk, fun q hq hq0 => ?_, fun d hd => ?_, fun j hj => ?_⟩, rfl⟩
   ·unfold incE extL
    rw [List.map_append, List.count_append, List.count_append, List.count_append]
    have : List.count ((p : Nat) : Int) (List.map (·.root) [t]) = if p = b then 1 else 0 := by
     simp only [List.map_cons, List.map_nil]
     rw [List.count_singleton, hb]
     by_cases hp : p = b
     ·subst hp; simp
     ·have : ((b : Int) == (p : Int)) = false := by rw [beq_eq_false_iff_ne]; omega
      rw [this, if_neg hp]
      rfl
    rw [this]
    by_cases hp : p = b
    ·simp [hp]; omega
    ·simp [hp]
   ·rw [hlv] at hq
    have : M.pool.cnt q = 0 := by
     have h0 : (if q = b then M.pool.cnt b + 1 else M.pool.cnt q) = 0 := hq0
     split at h0
     ·omega
     ·exact h0
    exact h.loose q hq this
   ·obtain ⟨a1, n, a2, a3⟩ := h.data d hd
    exact ⟨by rw [hlv]; exact a1, n, a2, a3⟩
   ·rcases List.mem_append.1 hj with hj | hj
    ·exact ⟨(h.tree j hj).1.grown g, (h.tree j hj).2⟩
    ·rw [List.mem_singleton.1 hj]; exact ⟨hT.grown g, hpg⟩
end
end Go.Proofs.Ytdcnogjbmdhgaaa
/-
 Two trees held against one another: where they differ (diff's Changes), what they share (Shared).
-/
namespace Go.Proofs.Ytdcnogjbmdhgaaa
open Go.RowKit Go.Maps Go.Sort
set_option maxRecDepth 100000

theorem elemChange : Elem 22 41 2 16 := Elem.of (z := .agg #[.int .i64 0, .int .i64 0]) Try.underlying22 (by kernel_rfl) (by kernel_rfl) (by omega)
theorem out_skip : ∀ {es : List (Int × Int)} {k : Int} (D : DataW Unit), (∀ y ∈ es, y.1 ≠ k) → has (es.foldl (fun m e => m.put (.int .i64 e.1) (.lit (.int .i64 e.2))) D) (.int .i64 k) = has D (.int .i64 k) ∧ ∀ z, (es.foldl (fun m e => m.put (.int .i64 e.1) (.lit (.int .i64 e.2))) D).atKey (.int .i64 k) z = D.atKey (.int .i64 k) z
 | [], _, _, _ => ⟨rfl, fun _ => rfl⟩
 | y :: es, k, D, h => by
  have hne : (Lit.int .i64 k) ≠ .int .i64 y.1 := by intro e; injection e with _ e; exact h y (List.mem_cons_self ..) e.symm
  have ih := out_skip (D.put (.int .i64 y.1) (.lit (.int .i64 y.2))) (fun z hz => h z (List.mem_cons_of_mem _ hz))
  rw [List.foldl_cons]
  exact ⟨by rw [ih.1, has_put_other hne], fun z => by rw [ih.2, atKey_put_other hne]⟩
theorem out_hit : ∀ {es : List (Int × Int)} (D : DataW Unit), IsMap D → RisesK es → ∀ y ∈ es, has (es.foldl (fun m e => m.put (.int .i64 e.1) (.lit (.int .i64 e.2))) D) (.int .i64 y.1) = true ∧ ∀ z, (es.foldl (fun m e => m.put (.int .i64 e.1) (.lit (.int .i64 e.2))) D).atKey (.int .i64 y.1) z = .lit (.int .i64 y.2)
 | [], _, _, _, _, h => by cases h
 | x :: es, D, hD, hr, y, h => by
  have hr' := List.pairwise_cons.1 hr
  rw [List.foldl_cons]
  rcases List.mem_cons.1 h with rfl | h
  ·have := out_skip (k := y.1) (D.put (.int .i64 y.1) (.lit (.int .i64 y.2))) (fun z hz => by have := hr'.1 z hz; omega)
   exact ⟨by rw [this.1, has_put_same hD (int_key _)], fun z => by rw [this.2, atKey_put_same hD (int_key _)]⟩
  ·exact out_hit _ (hD.put _ _) hr'.2 y h
theorem outD_hit {es : List (Int × Int)} (hr : RisesK es) {y : Int × Int} (h : y ∈ es) : has (outD es) (.int .i64 y.1) = true ∧ ∀ z, (outD es).atKey (.int .i64 y.1) z = .lit (.int .i64 y.2) := out_hit _ isMap_empty hr y h
theorem outD_miss {es : List (Int × Int)} {k : Int} (h : ∀ y ∈ es, y.1 ≠ k) : has (outD es) (.int .i64 k) = false ∧ (outD es).atKey (.int .i64 k) (.lit (.int .i64 0)) = .lit (.int .i64 0) := by
 have := out_skip (seenD []) h
 refine ⟨this.1.trans ?_, (this.2 _).trans ?_⟩
 ·rw [seenD_has]; rfl
 ·rw [seenD_at]; rfl
section
variable {w : World} {mx n : Nat} {es : List (Int × Int)}
theorem look_hit (h : w.ownsMap Try.prog 3 (plainElem Try.prog 3) mx n (outD es)) (hr : RisesK es) {y : Int × Int} (hy : y ∈ es) (hb : -9223372036854775808 ≤ y.1 ∧ y.1 ≤ 9223372036854775807) :
  (Instr.lookup 75 (.map (some mx)) (.int .i64 y.1) true).run Try.prog w = .ok (.tuple #[.int .i64 y.2, .bool true]) w := by
 obtain ⟨v, ps, hrun, hv⟩ := h.look_ok (int_keyed Try.underlying3) Try.underlying75 (Try.zeroValue3 w) (plainElem_int (H := Unit) Try.underlying3 (by decide)) (keyOf_int_mk Try.underlying3 (WalkArith.wf_i64 hb))
 obtain ⟨h1, h2⟩ := outD_hit hr hy
 rw [h2] at hv
 obtain ⟨c, rfl, hc, _⟩ := plainElem_int_inv Try.underlying3 hv
 have hce : y.2 = c := by
  have := congrArg Prod.fst hc
  injection this with h; injection h
 rw [hrun, h1, ← hce]
theorem look_miss (h : w.ownsMap Try.prog 3 (plainElem Try.prog 3) mx n (outD es)) {k : Int} (hk : ∀ y ∈ es, y.1 ≠ k) (hb : -9223372036854775808 ≤ k ∧ k ≤ 9223372036854775807) :
  (Instr.lookup 75 (.map (some mx)) (.int .i64 k) true).run Try.prog w = .ok (.tuple #[.int .i64 0, .bool false]) w := by
 obtain ⟨v, ps, hrun, hv⟩ := h.look_ok (int_keyed Try.underlying3) Try.underlying75 (Try.zeroValue3 w) (plainElem_int (H := Unit) Try.underlying3 (by decide)) (keyOf_int_mk Try.underlying3 (WalkArith.wf_i64 hb))
 obtain ⟨h1, h2⟩ := outD_miss hk
 rw [h2] at hv
 obtain ⟨c, rfl, hc, _⟩ := plainElem_int_inv Try.underlying3 hv
 have hce : 0 = c := by
  have := congrArg Prod.fst hc
  injection this with h; injection h
 rw [hrun, h1, ← hce]
end
structure RootIs (m : Nat) (M : SM) (r : Int) (l : List (Int × Int)) : Prop where
 tree : (r = -1 ∧ l = []) ∨ ∃ h, h ≤ 8 ∧ Tr m M h r l
 rises : RisesK l
 keys : ∀ y ∈ l, 0 ≤ y.1 ∧ y.1 < 64
 pages : ∀ y ∈ l, 0 ≤ y.2 ∧ y.2 < 240
section
variable {w : World} {A : SA} {m : Nat} {M : SM} {r : Int} {l : List (Int × Int)}
theorem RootIs.wf (h : RootIs m M r l) (hA : StoreAt w A M) : -9223372036854775808 ≤ r ∧ r ≤ 9223372036854775807 := by
 rcases h.tree with ⟨e, _⟩ | ⟨k, _, t⟩
 ·omega
 ·have := heldB_pos t.held
  have hs := hA.pool.hsize
  omega
theorem RootIs.okay (h : RootIs m M r l) : (∀ x, Below M r x → x = -1 ∨ (M.get x).2 = 0) ∧ ∀ x, Below M r x → (M.get x).1.kind = 3 → (M.get x).1.ents ≠ [] := by
 rcases h.tree with ⟨e, _⟩ | ⟨k, _, t⟩
 ·subst e
  exact ⟨fun x hx => .inl (below_none hx), fun x hx hk => by rw [below_none hx] at hk; exact absurd hk (get_none M)⟩
 ·exact below_ok t
theorem RootIs.own (h : RootIs m M r l) (hA : StoreAt w A M) (S : Int → Bool) : ∃ o, OwnC M S 0 r o ∧ Side m M S r l o := by
 rcases h.tree with ⟨rfl, rfl⟩ | ⟨k, hk, t⟩
 ·exact ⟨[], ownNone (by omega) (.inl rfl), side_none m M S⟩
 ·refine ⟨_, own_ok t (by omega) (h.wf hA) (fun x y hx hy => ?_), side_of t h.rises⟩
  rcases (below_ok t).1 x hx with e | e
  ·exact absurd e (below_neg t hx)
  ·have := get_ents hA e y hy
   omega
end
def chP (la lb : List (Int × Int)) (n : Nat) : List (Int × Int) := (List.range n).filterMap fun (k : Nat) => if findL la (k : Int) = findL lb (k : Int) then none else some ((k : Int), findL lb (k : Int))
theorem chP_same {la lb : List (Int × Int)} {k : Nat} (h : findL la (k : Int) = findL lb (k : Int)) : chP la lb (k + 1) = chP la lb k := by
 unfold chP
 rw [List.range_succ, List.filterMap_append]
 simp [h]
theorem chP_more {la lb : List (Int × Int)} {k : Nat} {p : Int} (h : findL la (k : Int) ≠ findL lb (k : Int)) (hp : findL lb (k : Int) = p) : chP la lb (k + 1) = chP la lb k ++ [((k : Int), p)] := by
 unfold chP
 rw [List.range_succ, List.filterMap_append]
 subst hp
 simp [h]
theorem chP_len (la lb : List (Int × Int)) (k : Nat) : (chP la lb k).length ≤ k := by
 have := List.length_filterMap_le (fun (k : Nat) => if findL la (k : Int) = findL lb (k : Int) then none else some ((k : Int), findL lb (k : Int))) (List.range k)
 rw [List.length_range] at this
 exact this
theorem ownsRow.slice2 {w : World} {base e n sz : Nat} {v : Value} {xs : List Value} (h : w.ownsRow base e sz v n xs) : ∃ A cap, v = .slice A n cap ∧ n ≤ cap ∧ cap ≤ maxLen := by
 rcases h.2 with ⟨rfl, rfl⟩ | ⟨g, cap, cur, rfl, _, _, h3, h4, _⟩
 ·exact ⟨none, 0, rfl, Nat.le_refl _, Nat.zero_le _⟩
 ·exact ⟨_, cap, rfl, h3, h4⟩
structure ChAt (w : World) (mx my base : Nat) (oa ob la lb : List (Int × Int)) (k : Nat) (v : Value) (wr : World) : Prop where
 kept : Kept (fun _ => False) w wr
 x : wr.ownsMap Try.prog 3 (plainElem Try.prog 3) mx oa.length (outD oa)
 y : wr.ownsMap Try.prog 3 (plainElem Try.prog 3) my ob.length (outD ob)
 row : wr.ownsRow base 41 2 v (chP la lb k).length (entCells (chP la lb k))
 size : base ≤ wr.heap.size
theorem ChAt.next {w wr : World} {mx my base : Nat} {oa ob la lb : List (Int × Int)} {k : Nat} {v : Value} (h : ChAt w mx my base oa ob la lb k v wr) (e : findL la (k : Int) = findL lb (k : Int)) : ChAt w mx my base oa ob la lb (k + 1) v wr :=
 ⟨h.kept, h.x, h.y, by rw [chP_same e]; exact h.row, h.size⟩
theorem ChAt.more {w wr w' : World} {mx my base : Nat} {oa ob la lb : List (Int × Int)} {k : Nat} {v v' : Value} {p : Int} {o : Obj} (h : ChAt w mx my base oa ob la lb k v wr) (hne : findL la (k : Int) ≠ findL lb (k : Int)) (hp : findL lb (k : Int) = p) (hb : mx < base ∧ my < base ∧ w.heap.size ≤ base)
  (hown : w'.ownsRow base 41 2 v' ((chP la lb k).length + 1) (entCells (chP la lb k) ++ [.int .i64 (k : Int), .int .i64 p])) (hg : (wr.alloc o).grownBy w' v.ownBlock) : ChAt w mx my base oa ob la lb (k + 1) v' w' := by
 have k1 : Kept (fun _ => False) wr (wr.alloc o) := (Kept.refl _ _).alloc _
 have hlt := fun b (hb : v.ownBlock = some b) => h.row.lt b hb
 have k2 := Kept.of_grown hg
 refine ⟨(h.kept.trans k1).grown hg (fun k e => .inr (by have := (hlt k e).1; omega)), ownsMap_kept (ownsMap_kept h.x k1 id) k2 (fun e => by have := (hlt _ e).1; omega), ownsMap_kept (ownsMap_kept h.y k1 id) k2 (fun e => by have := (hlt _ e).1; omega), ?_, by have := h.size; have := k1.size; have := k2.size; omega⟩
 rw [chP_more hne hp, List.length_append, entCells_append]
 exact hown
set_option maxHeartbeats 16000000 in
theorem diffChanges {w : World} {A : SA} {m : Nat} {M : SM} (h : StoreAt w A M) {ra rb : Int} {la lb : List (Int × Int)} (ha : RootIs m M ra la) (hb : RootIs m M rb lb) :
  Calls Try.prog 10 #[.agg #[.pointer (some ⟨A.sb, 0, none⟩)], .int .i64 ra, .int .i64 rb] w fun e w' => ∃ v, e = .returned (.tuple #[v, .int .i64 0]) ∧ w'.ownsRow w.heap.size 41 2 v (changesL la lb).length (entCells (changesL la lb)) ∧ Kept (fun _ => False) w w' := by
 obtain ⟨db, hdb⟩ : ∃ db, w.heap.size = db := ⟨_, rfl⟩
 obtain ⟨w1, hw1⟩ : ∃ w1, w.alloc (.cells #[.pointer (some ⟨A.sb, 0, none⟩)] 31) = w1 := ⟨_, rfl⟩
 have k1 : Kept (fun _ => False) w w1 := by rw [← hw1]; exact (Kept.refl _ _).alloc _
 have t1 : w1.heap[db]? = some (.cells #[.pointer (some ⟨A.sb, 0, none⟩)] 31 (0, 0)) := by rw [← hw1, ← hdb]; exact heap_alloc_new _ _
 have ld1 := h_ (ptr_load' t1)
 have hSh := h_ (sharedAny (h.fresh k1) (ha.wf h) ha.okay.1 ha.okay.2 (hb.wf h) hb.okay.1 hb.okay.2)
 have hw1' := h_ hw1
 have hdb' := h_ hdb
 have t1' := h_ t1
 have k1' := h_ k1
 have h' := h_ h
 have ha' := h_ ha
 have hb' := h_ hb
 clear h hw1 hdb k1 t1 ha hb
 go_enter Try.func10, Try.ntmps10
 go_wp2_with (first | (refine wpList_box_named 31 rfl rfl _ rfl hw1'.out ?_; rw [hdb'.out]) | (refine wpList_load_agg 31 rfl rfl rfl _ Try.underlying31 rfl [.pointer (some ⟨A.sb, 0, none⟩)] (by kernel_rfl) ld1.out ?_))
 refine hSh.out.mono ?_
 rintro e w2 ⟨ms, n, D, Sa, Sb, rfl, hms, hn240, hown, hset, _, hSa, hSb, hk2⟩
 obtain ⟨oa, hOa, hSideA⟩ := ha'.out.own h'.out (fun x => decide (x ∈ Sa) && decide (x ∈ Sb))
 obtain ⟨ob, hOb, hSideB⟩ := hb'.out.own h'.out (fun x => decide (x ∈ Sa) && decide (x ∈ Sb))
 have hS : Hid (∀ q, (decide (q ∈ Sa) && decide (q ∈ Sb)) = true → (Below M ra q ∧ q ≠ -1) ∧ (Below M rb q ∧ q ≠ -1)) := h_ (fun q hq => by
  rw [Bool.and_eq_true, decide_eq_true_eq, decide_eq_true_eq] at hq
  exact ⟨(hSa q).1 hq.1, (hSb q).1 hq.2⟩)
 have hla : Hid (oa.length ≤ 64) := h_ (Nat.le_trans hSideA.sub.length_le (rises_len ha'.out.rises ha'.out.keys))
 have hlb : Hid (ob.length ≤ 64) := h_ (Nat.le_trans hSideB.sub.length_le (rises_len hb'.out.rises hb'.out.keys))
 obtain ⟨mx, hmx⟩ : ∃ mx, w2.heap.size = mx := ⟨_, rfl⟩
 obtain ⟨w3, hw3⟩ : ∃ w3, w2.alloc (.map #[] 0) = w3 := ⟨_, rfl⟩
 obtain ⟨my, hmy⟩ : ∃ my, w3.heap.size = my := ⟨_, rfl⟩
 obtain ⟨w4, hw4⟩ : ∃ w4, w3.alloc (.map #[] 0) = w4 := ⟨_, rfl⟩
 have k3 : Kept (fun _ => False) w2 w3 := by rw [← hw3]; exact (Kept.refl _ _).alloc _
 have k4 : Kept (fun _ => False) w3 w4 := by rw [← hw4]; exact (Kept.refl _ _).alloc _
 have mx3 : w3.ownsMap Try.prog 3 (plainElem Try.prog 3) mx 0 (outD []) := by rw [← hw3, ← hmx]; exact World.ownsMap_made w2 Try.prog 3 _
 have my4 : w4.ownsMap Try.prog 3 (plainElem Try.prog 3) my 0 (outD []) := by rw [← hw4, ← hmy]; exact World.ownsMap_made w3 Try.prog 3 _
 have mx4 := h_ (ownsMap_kept mx3 k4 id)
 have my4' := h_ my4
 have ks4 := h_ ((hk2.trans k3).trans k4)
 have hs4 := h_ (ownsMap_kept (ownsMap_kept hown k3 id) k4 id)
 have sx : Hid (ms < mx ∧ mx < my ∧ my < w4.heap.size ∧ w1.heap.size ≤ mx) := h_ ⟨by have := hown.lt; omega, by have := mx3.lt; omega, my4.lt, by have := hk2.size; omega⟩
 have ld4 := h_ (ptr_load' (ks4.out.get t1'.out id))
 have hA4 := h_ ((h'.out.fresh k1'.out).fresh ks4.out)
 have hset' := h_ hset
 have hOb' := h_ hOb
 have hCa := h_ (hOa w4 A ms n D mx [] hA4.out hs4.out hset mx4.out (by have := sx.out; omega) (fun e => by have := (h'.out.fresh k1'.out).lt e; have := sx.out; omega) (by have := hla.out; simp; omega))
 have hA' := h_ hSideA
 have hB' := h_ hSideB
 have hw3' := h_ hw3
 have hw4' := h_ hw4
 have hmx' := h_ hmx
 have hmy' := h_ hmy
 clear hown hset hSa hSb hk2 hOa hOb hSideA hSideB hmx hw3 hmy hw4 k3 k4 mx3 my4
 go_wp2_with (first | (simp only [run_makeMap, hw3'.out, hmx'.out, hw4'.out, hmy'.out]) | (refine wpList_load_agg 31 rfl rfl rfl _ Try.underlying31 rfl [.pointer (some ⟨A.sb, 0, none⟩)] (by kernel_rfl) ld4.out ?_))
 refine hCa.out.mono ?_
 rintro e w5 ⟨rfl, hx5, hk5⟩
 have kw5 := h_ (ks4.out.trans_new hk5 (fun i hi e => by have := sx.out; omega))
 have ld5 := h_ (ptr_load' (kw5.out.get t1'.out id))
 have hA5 := h_ ((h'.out.fresh k1'.out).fresh kw5.out)
 have hy5 := h_ (ownsMap_kept my4'.out hk5 (by have := sx.out; omega))
 have hs5 := h_ (ownsMap_kept hs4.out hk5 (by have := sx.out; omega))
 have hCb := h_ (hOb'.out w5 A ms n D my [] hA5.out hs5.out hset'.out hy5.out (by have := sx.out; omega) (fun e => by have := (h'.out.fresh k1'.out).lt e; have := sx.out; omega) (by have := hlb.out; simp; omega))
 have hx5' := h_ hx5
 clear hx5 hk5
 go_wp2_with (first | (refine wpList_load_agg 31 rfl rfl rfl _ Try.underlying31 rfl [.pointer (some ⟨A.sb, 0, none⟩)] (by kernel_rfl) ld5.out ?_))
 refine hCb.out.mono ?_
 rintro e w6 ⟨rfl, hy6, hk6⟩
 obtain ⟨base, hbase⟩ : ∃ base, w6.heap.size = base := ⟨_, rfl⟩
 have I6 := h_ (show ChAt w mx my base oa ob la lb 0 (.slice none 0 0) w6 from ⟨k1'.out.trans (kw5.out.trans_new hk6 (fun i hi e => by have := sx.out; omega)), by simpa using ownsMap_kept hx5'.out hk6 (by have := sx.out; omega), by simpa using hy6, World.ownsRow_nil _ _ _ _, by omega⟩)
 have sb : Hid (mx < base ∧ my < base ∧ w.heap.size ≤ base) := h_ ⟨by have := I6.out.x.lt; omega, by have := I6.out.y.lt; omega, by have := I6.out.kept.size; omega⟩
 clear hy6 hk6 hbase
 go_wp2_with fail
 go_loopw [14, 48] (fun v i wr => ∃ (k : Nat), k ≤ 64 ∧ i = .int .i64 k ∧ Hid (ChAt w mx my base oa ob la lb k v wr)) (fun _ i _ => 64 - (intOf i).toNat)
 case atStart => exact ⟨0, by decide, rfl, I6⟩
 case round =>
  obtain ⟨k, hk, rfl, hI⟩ := hrel
  obtain ⟨Av, cv, rfl, hcv, _⟩ := ownsRow.slice2 hI.out.row
  by_cases hlt : k < 64
  ·have hki : (k : Int) < 64 := by omega
   have hra := hA'.out.rises.sublist hA'.out.sub
   have hrb := hB'.out.rises.sublist hB'.out.sub
   have hkb : -9223372036854775808 ≤ (k : Int) ∧ (k : Int) ≤ 9223372036854775807 := by omega
   have hcl := chP_len la lb k
   have hsz := hI.out.size
   have hrow := h_ hI.out.row
   have hI' := h_ hI.out
   by_cases ey : ∃ p, ((k : Int), p) ∈ ob
   ·obtain ⟨py, hy⟩ := ey
    have ly := look_hit hI.out.y hrb hy hkb
    have fy : findL lb (k : Int) = py := own_find hB'.out hy
    have py0 := (hb'.out.pages _ (hB'.out.sub.subset hy)).1
    by_cases ex : ∃ p, ((k : Int), p) ∈ oa
    ·obtain ⟨px, hx⟩ := ex
     have lx := look_hit hI.out.x hra hx hkb
     have fx : findL la (k : Int) = px := own_find hA'.out hx
     by_cases e : px = py
     ·subst e
      have hee := h_ (fx.trans fy.symm)
      clear hI hx hy hra hrb fx fy py0 hkb hlt
      have fin := h_ (ChAt.next hI'.out hee.out)
      go_wp2_with fail
      go_roundw
      case rel => exact ⟨k + 1, by omega, by go_num, fin⟩
      case measure => simp [intOf]; omega
     ·have hee : Hid (findL la (k : Int) ≠ findL lb (k : Int)) := h_ (by rw [fx, fy]; exact e)
      have heb : (px == py) = false := by simpa using e
      have fy' := h_ fy
      clear hI hx hy hra hrb fx fy py0 e hkb
      go_wp2_with (at_builtin; refine wpList_append_src rfl elemChange (.tmp 74) (.tmp 78) rfl (by rfl) (by rfl) (ownsRow.keptOf hrow.out ((Kept.refl _ _).alloc _) (fun _ _ => id)) (SliceAt.block_new (ys := [.int .i64 (k : Int), .int .i64 py]) (m := 1) (heap_alloc_new _ _) rfl (by decide)) (by intro c hc; simp at hc; rcases hc with rfl | rfl <;> rfl) (by omega) (by omega) (Nat.le_trans hsz ((Kept.refl (fun _ => False) _).alloc _).size) ?_; intro v7 w7 hown7 hg7 hat7)
      have fin := h_ (ChAt.more hI'.out hee.out fy'.out sb.out hown7 hg7)
      clear hown7 hg7 hat7
      go_roundw
      case rel => exact ⟨k + 1, by omega, by go_num, fin⟩
      case measure => simp [intOf]; omega
    ·have hmiss : ∀ y ∈ oa, y.1 ≠ (k : Int) := fun y hy e => ex ⟨y.2, by rw [← e]; exact hy⟩
     have lx := look_miss hI.out.x hmiss hkb
     have fx := other_none hA'.out hB'.out hS.out hy hmiss
     have hee : Hid (findL la (k : Int) ≠ findL lb (k : Int)) := h_ (by rw [fx, fy]; dsimp only at py0; omega)
     have fy' := h_ fy
     clear hI hy hra hrb fx fy py0 ex hmiss hkb
     go_wp2_with (at_builtin; refine wpList_append_src rfl elemChange (.tmp 74) (.tmp 78) rfl (by rfl) (by rfl) (ownsRow.keptOf hrow.out ((Kept.refl _ _).alloc _) (fun _ _ => id)) (SliceAt.block_new (ys := [.int .i64 (k : Int), .int .i64 py]) (m := 1) (heap_alloc_new _ _) rfl (by decide)) (by intro c hc; simp at hc; rcases hc with rfl | rfl <;> rfl) (by omega) (by omega) (Nat.le_trans hsz ((Kept.refl (fun _ => False) _).alloc _).size) ?_; intro v7 w7 hown7 hg7 hat7)
     have fin := h_ (ChAt.more hI'.out hee.out fy'.out sb.out hown7 hg7)
     clear hown7 hg7 hat7
     go_roundw
     case rel => exact ⟨k + 1, by omega, by go_num, fin⟩
     case measure => simp [intOf]; omega
   ·have hmy2 : ∀ y ∈ ob, y.1 ≠ (k : Int) := fun y hy e => ey ⟨y.2, by rw [← e]; exact hy⟩
    have ly := look_miss hI.out.y hmy2 hkb
    by_cases ex : ∃ p, ((k : Int), p) ∈ oa
    ·obtain ⟨px, hx⟩ := ex
     have lx := look_hit hI.out.x hra hx hkb
     have fx : findL la (k : Int) = px := own_find hA'.out hx
     have px0 := (ha'.out.pages _ (hA'.out.sub.subset hx)).1
     have fy := other_none hB'.out hA'.out (fun q hq => (hS.out q hq).symm) hx hmy2
     have hee : Hid (findL la (k : Int) ≠ findL lb (k : Int)) := h_ (by rw [fx, fy]; dsimp only at px0; omega)
     have fy' : Hid (findL lb (k : Int) = -1) := h_ fy
     clear hI hx hra hrb fx fy px0 ey hmy2 hkb
     go_wp2_with (at_builtin; refine wpList_append_src rfl elemChange (.tmp 86) (.tmp 89) rfl (by rfl) (by rfl) (ownsRow.keptOf hrow.out ((Kept.refl _ _).alloc _) (fun _ _ => id)) (SliceAt.block_new (ys := [.int .i64 (k : Int), .int .i64 (-1)]) (m := 1) (heap_alloc_new _ _) rfl (by decide)) (by intro c hc; simp at hc; rcases hc with rfl | rfl <;> rfl) (by omega) (by omega) (Nat.le_trans hsz ((Kept.refl (fun _ => False) _).alloc _).size) ?_; intro v7 w7 hown7 hg7 hat7)
     have fin := h_ (ChAt.more hI'.out hee.out fy'.out sb.out hown7 hg7)
     clear hown7 hg7 hat7
     go_roundw
     case rel => exact ⟨k + 1, by omega, by go_num, fin⟩
     case measure => simp [intOf]; omega
    ·have hmx2 : ∀ y ∈ oa, y.1 ≠ (k : Int) := fun y hy e => ex ⟨y.2, by rw [← e]; exact hy⟩
     have lx := look_miss hI.out.x hmx2 hkb
     have hee := h_ (same_key hA'.out hB'.out hS.out hmx2 hmy2)
     clear hI hra hrb ex ey hmx2 hmy2 hkb
     have fin := h_ (ChAt.next hI'.out hee.out)
     go_wp2_with fail
     go_roundw
     case rel => exact ⟨k + 1, by omega, by go_num, fin⟩
     case measure => simp [intOf]; omega
  ·obtain rfl : k = 64 := by omega
   have hI' := h_ hI.out
   clear hI
   go_wp2_with fail
   go_ret2
   exact ⟨_, rfl, owns_weaken hI'.out.row sb.out.2.2, hI'.out.kept⟩
end Go.Proofs.Ytdcnogjbmdhgaaa
/-
 Two trees held against one another: the chapter's example, plain.
-/
namespace Go.Proofs.Ytdcnogjbmdhgaaa
open Go.RowKit

def exA (p0 p1 : Nat) : List (Int × Int) := [(1, (p0 : Int)), (2, (p1 : Int))]
def exB (p0 p1 p2 : Nat) : List (Int × Int) := [(1, (p0 : Int)), (2, (p1 : Int)), (9, (p2 : Int))]
theorem exB_put (p0 p1 p2 : Nat) : putL (exA p0 p1) (9, (p2 : Int)) = exB p0 p1 p2 := by
 unfold putL exA exB
 simp
theorem exA_build (p0 p1 : Nat) : (exA p0 p1).foldl putL [] = exA p0 p1 := by
 unfold exA putL
 simp
theorem ch_ab (p0 p1 p2 : Nat) : changesL (exA p0 p1) (exB p0 p1 p2) = [(9, (p2 : Int))] := by
 have h : ((-1 : Int) = (p2 : Int)) = False := by simp
 unfold changesL exA exB
 simp [List.range, List.range.loop, findL, h]
theorem ch_ba (p0 p1 p2 : Nat) : changesL (exB p0 p1 p2) (exA p0 p1) = [(9, -1)] := by
 have h : ((p2 : Int) = (-1 : Int)) = False := by simp
 unfold changesL exA exB
 simp [List.range, List.range.loop, findL, h]
section
variable {M : SM} {ns : List Nat}
theorem alive12_build (h : OneTree Clean 240 ns M (-1) [] 0) (h4 : ns.length = 4) {p0 p1 : Nat} (i0 : p0 ∈ ns) (i1 : p1 ∈ ns) :
  ∃ M1 a, SM.build (exA p0 p1) M (-1) = (M1, a, 0) ∧ OneTree Clean 240 ns M1 a (exA p0 p1) 2 ∧ M1.log.length ≤ M.log.length + 44 := by
 obtain ⟨M1, a, e, h1, hl⟩ := build_one clean_besides (by omega) (by decide) (exA p0 p1) h (by show 0 + 2 ≤ 150; omega) (fun y hy => by
  unfold exA at hy
  simp only [List.mem_cons, List.not_mem_nil, or_false] at hy
  rcases hy with rfl | rfl
  ·exact ⟨by simp, by simp, p0, i0, rfl⟩
  ·exact ⟨by simp, by simp, p1, i1, rfl⟩)
 rw [exA_build] at h1
 exact ⟨M1, a, e, h1, hl⟩
theorem alive12_put {M1 : SM} {a : Int} {p0 p1 p2 : Nat} (h1 : OneTree Clean 240 ns M1 a (exA p0 p1) 2) (h4 : ns.length = 4) (i0 : p0 ∈ ns) (i1 : p1 ∈ ns) (i2 : p2 ∈ ns) :
  ∃ M2 b M3, M1.put a 9 (p2 : Int) = (M2, b, 0) ∧ M2.swap (-1) b = (M3, 0) ∧ RootIs 1 M3 a (exA p0 p1) ∧ RootIs 1 M3 b (exB p0 p1 p2) ∧ M3.log.length ≤ M1.log.length + 22 := by
 obtain ⟨k, hr, hk, hled⟩ := h1.rooted (by omega)
 obtain ⟨r1, r2⟩ := h1.room clean_besides (by omega)
 have hx : M1.pool.heldB (p2 : Int) = true := by rw [heldB_nat]; exact (h1.data p2 i2).1
 have hlg := put_log M1 a 9 (p2 : Int)
 have hext : ∀ c, extB ns a c ≤ 5 := fun c => by
  unfold extB
  have : ns.count c ≤ ns.length := List.count_le_length
  split <;> omega
 rcases put_new (by decide) h1.exact hr (by omega) h1.good (fun q hq hc => by obtain ⟨y, hy, _⟩ := h1.loose q hq hc; cases hy) hx (show (0 : Int) ≤ 9 by decide) (by decide) with ⟨e, T⟩ | ⟨_, _, hf⟩ | ⟨_, _, c, hc⟩
 ·obtain ⟨R, hR⟩ : ∃ R, M1.put a 9 (p2 : Int) = R := ⟨_, rfl⟩
  rw [hR] at e T hlg
  obtain ⟨M2, b, er⟩ := R
  dsimp only at e T hlg
  subst e
  obtain ⟨h', tb, hh'⟩ := T.tr
  rw [exB_put] at tb
  have hb0 := heldB_int tb.held
  have hna : a ≠ -1 := fun e => by
   rcases hr with ⟨_, e2, _⟩ | t
   ·exact absurd e2 (by unfold exA; simp)
   ·have := (heldB_int t.held).1; omega
  have ta : Tr 1 M2 k a (exA p0 p1) := by
   rcases hr with ⟨e1, _⟩ | t
   ·exact absurd e1 hna
   ·exact t.grown T.grown
  obtain ⟨s0, E3, hlog, hsz, hlv, _⟩ := swap_ok T.exact (old := -1) (next := b) (.inr ⟨tb.held, by rw [T.zero]; decide⟩) (.inl rfl)
  obtain ⟨S, hS⟩ : ∃ S, M2.swap (-1) b = S := ⟨_, rfl⟩
  rw [hS] at s0 E3 hlog hsz hlv
  obtain ⟨M3, es⟩ := S
  dsimp only at s0 E3 hlog hsz hlv
  subst s0
  have hin : ∀ r : Int, M2.pool.heldB r = true → 0 < swapE (extB ns a) (-1) b r.toNat → M3.pool.heldB r = true := fun r hr hp => by
   obtain ⟨c, hc⟩ := Int.eq_ofNat_of_zero_le (heldB_int hr).1
   have hlt := live_lt (heldB_int hr).2
   rw [hc, Int.toNat_natCast] at hlt hp
   rw [hc]
   exact ext_held E3 (by rw [hsz]; exact hlt) hp
  have ha3 : M3.pool.heldB a = true := hin a ta.held (by
   have e1 : ((a.toNat : Nat) : Int) = a := Int.toNat_of_nonneg (heldB_int ta.held).1
   unfold swapE extB
   simp only [e1, if_true, if_neg hna]
   split <;> omega)
  have hb3 : M3.pool.heldB b = true := hin b tb.held (by
   have e1 : ((b.toNat : Nat) : Int) = b := Int.toNat_of_nonneg hb0.1
   have hnb : b ≠ -1 := by omega
   unfold swapE
   simp only [e1, if_true, if_neg hnb]
   omega)
  have hpg : ∀ y ∈ exB p0 p1 p2, 0 ≤ y.2 ∧ y.2 < 240 := fun y hy => by
   have hp : ∀ p ∈ ns, p < 240 := fun p hp => by have := live_lt (h1.data p hp).1; have := h1.size; omega
   unfold exB at hy
   simp only [List.mem_cons, List.not_mem_nil, or_false] at hy
   have a0 := hp p0 i0
   have a1 := hp p1 i1
   have a2 := hp p2 i2
   rcases hy with rfl | rfl | rfl <;> (dsimp only; omega)
  refine ⟨M2, b, M3, hR, hS, ⟨.inr ⟨k, by omega, Tr.stays E3 hlog ta ha3⟩, h1.keys.1, fun y hy => ⟨(h1.keys.2 y hy).1, (h1.keys.2 y hy).2.1⟩, fun y hy => hpg y (by unfold exA at hy; unfold exB; simp at hy ⊢; rcases hy with rfl | rfl <;> simp)⟩,
   ⟨.inr ⟨h', by omega, Tr.stays E3 hlog tb hb3⟩, by unfold exB RisesK; simp, fun y hy => by unfold exB at hy; simp at hy; rcases hy with rfl | rfl | rfl <;> simp, hpg⟩, by rw [hlog]; exact hlg⟩
 ·omega
 ·have := hext c
  have hrl := M1.refs_le c
  omega
end
section
variable {K : SM → Prop} {c : Nat} {ns : List Nat} {M M' : SM} {ts : List IM} {t : IM} {k : Nat}
theorem Forest.rootis (h : Forest K ns M ts) (ht : t ∈ ts) (hP : t.P ≤ 240) : RootIs 1 M t.root t.l := by
 obtain ⟨T, hp⟩ := h.tree t ht
 refine ⟨?_, T.keys.1, T.keys.2, fun y hy => ?_⟩
 ·obtain ⟨k, hr, hk, _⟩ := T.rooted hP
  rcases hr with ⟨e1, e2, _⟩ | tt
  ·exact .inl ⟨e1, e2⟩
  ·exact .inr ⟨k, by omega, tt⟩
 ·obtain ⟨b, hb, e⟩ := hp y hy
  have := live_lt (h.data b hb).1
  have := h.size
  omega
end
theorem tr_occ0 {m : Nat} {M : SM} {c h : Nat} {p : Int} {l : List (Int × Int)} (hc : Dat M c) (t : Tr m M h p l) (hr : RisesK l) (hk : ∀ y ∈ l, 0 ≤ y.1 ∧ y.1 < 64) : occSum M c (pagesF M h p) ≤ occ l c :=
 (tr_occ (K := 64) (c := c) (fun _ _ tb => (hc.tr tb).elim) t hr).2 fun ⟨y, hy, e⟩ => by have := hk y hy; omega
section
variable {K : SM → Prop} {c : Nat} {ns : List Nat} {M : SM} {ts : List IM} {t : IM} {k : Nat}
theorem Forest.dat (h : Forest K ns M ts) {b : Nat} (hb : b ∈ ns) : Dat M b := by
 obtain ⟨h1, d, h2, h3, _⟩ := h.data b hb
 exact ⟨h1, d, h2, h3⟩
theorem Forest.counts (h : Forest K ns M ts) (hn : ns.Nodup) (hP : ∀ t ∈ ts, t.P ≤ 240) {b : Nat} (hb : b ∈ ns) : M.pool.cnt b ≤ 1 + (ts.map fun i => occ i.l b).sum := by
 have hd := h.dat hb
 obtain ⟨a1, a2, a3⟩ := h.each hP
 have hBe : ∀ q ∈ ts.flatMap (fun i => i.l.map fun y => y.2.toNat), M.ents q = [] := fun q hq => by
  obtain ⟨i, hi, hq⟩ := List.mem_flatMap.1 hq
  obtain ⟨y, hy, rfl⟩ := List.mem_map.1 hq
  exact (a1 i hi).2.2 y hy
 have all : ∀ js : List IM, (∀ i ∈ js, i ∈ ts) → ∃ L : List Nat, (∀ i ∈ js, i.root = -1 ∨ i.root.toNat ∈ L) ∧ (∀ q ∈ L, ∀ x ∈ M.ents q, x.2.toNat ∈ L ∨ x.2.toNat ∈ ts.flatMap (fun i => i.l.map fun y => y.2.toNat)) ∧ occSum M b L ≤ (js.map fun i => occ i.l b).sum := by
  intro js
  induction js with
  | nil => intro _; exact ⟨[], fun i hi => (by cases hi), fun q hq => (by cases hq), Nat.le_refl _⟩
  | cons i js ih =>
   intro hin
   obtain ⟨L, b1, b2, b4⟩ := ih (fun j hj => hin j (List.mem_cons_of_mem _ hj))
   have hi := hin i (List.mem_cons_self ..)
   obtain ⟨T, _, _⟩ := a1 i hi
   rw [List.map_cons, List.sum_cons]
   rcases T.root with ⟨e, el⟩ | ⟨hh, tt, j⟩
   ·refine ⟨L, fun q hq => ?_, b2, by omega⟩
    rcases List.mem_cons.1 hq with rfl | hq
    ·exact .inl e
    ·exact b1 q hq
   ·have p4 := tr_occ0 hd tt T.keys.1 T.keys.2
    refine ⟨pagesF M hh i.root ++ L, fun q hq => ?_, fun q hq x hx => ?_, by rw [occSum_append]; omega⟩
    ·rcases List.mem_cons.1 hq with rfl | hq
     ·exact .inr (List.mem_append_left _ (pages_self (tr_pos tt)))
     ·exact (b1 q hq).imp id fun e => List.mem_append_right _ e
    ·rcases List.mem_append.1 hq with hq | hq
     ·rcases pages_closed tt q hq x hx with e | e
      ·exact .inl (List.mem_append_left _ e)
      ·exact .inr (List.mem_flatMap.2 ⟨i, hi, List.mem_map.2 ⟨x, e, rfl⟩⟩)
     ·exact (b2 q hq x hx).imp (fun e => List.mem_append_right _ e) id
 obtain ⟨L, b1, b2, b3⟩ := all ts (fun i hi => hi)
 have hreach : ∀ q, M.live q = true → q ∈ ns ++ ts.flatMap (fun i => i.l.map fun y => y.2.toNat) ++ L := by
  refine reach_all h.exact h.loose (fun q hq h0 => ?_) (fun q hq x hx => ?_)
  ·rcases a3 q hq h0 with e | ⟨i, hi, e⟩
   ·exact List.mem_append_left _ (List.mem_append_left _ e)
   ·rcases b1 i hi with e1 | e1
    ·omega
    ·rw [e, Int.toNat_natCast] at e1; exact List.mem_append_right _ e1
  ·rcases List.mem_append.1 hq with hq | hq
   ·have he : M.ents q = [] := (List.mem_append.1 hq).elim (a2 q) (hBe q)
    rw [he] at hx; cases hx
   ·rcases b2 q hq x hx with e | e
    ·exact List.mem_append_right _ e
    ·exact List.mem_append_left _ (List.mem_append_right _ e)
 have hrefs := refs_list (c := b) hreach
 rw [occSum_append, occSum_append, occSum_none a2, occSum_none hBe] at hrefs
 have hcnt := h.exact.cnt b (live_lt hd.1)
 have hext : extL (ts.map (·.root) ++ ns.map fun b => ((b : Nat) : Int)) b ≤ 1 := by
  unfold extL
  rw [List.count_append, cnt_cast]
  have b1 : List.count (b : Int) (ts.map (·.root)) = 0 := List.count_eq_zero.2 fun hm => by
   obtain ⟨i, hi, e⟩ := List.mem_map.1 hm
   rcases (h.tree i hi).1.root with ⟨e1, _⟩ | ⟨hh, tt, _⟩
   ·omega
   ·rw [e] at tt; exact hd.tr tt
  have b2 := List.nodup_iff_count.1 hn b
  omega
 omega
theorem Forest.few (h : Forest K ns M ts) (h4 : ts.length ≤ 4) (hP : ∀ t ∈ ts, t.P ≤ 240) {q : Nat} (hq : q ∉ ns) : M.refs q + extL (ts.map (·.root) ++ ns.map fun b => ((b : Nat) : Int)) q ≤ 24 := by
 obtain ⟨a1, a2, a3⟩ := h.each hP
 have h1 := forest_refs h.exact h.loose ts a1 a2 a3 q
 have h2 : (ts.map fun j => 5 + occ j.l q).sum ≤ 5 * ts.length := by
  have key : ∀ js : List IM, (∀ j ∈ js, j ∈ ts) → (js.map fun j => 5 + occ j.l q).sum ≤ 5 * js.length := by
   intro js
   induction js with
   | nil => intro _; exact Nat.le_refl _
   | cons j js ih =>
    intro hj
    have h3 := ih (fun x hx => hj x (List.mem_cons_of_mem _ hx))
    have h5 : occ j.l q = 0 := by
     rcases Nat.eq_zero_or_pos (occ j.l q) with h0 | h0
     ·exact h0
     ·obtain ⟨x, hx, he⟩ := List.countP_pos_iff.1 h0
      obtain ⟨b, hb, e⟩ := (h.tree j (hj j (List.mem_cons_self ..))).2 x hx
      have he : x.2 = (q : Int) := by simpa using he
      have : b = q := by omega
      exact absurd (this ▸ hb) hq
    rw [List.map_cons, List.sum_cons, List.length_cons]
    omega
  exact key ts (fun j hj => hj)
 have h6 : extL (ts.map (·.root) ++ ns.map fun b => ((b : Nat) : Int)) q ≤ ts.length := by
  unfold extL
  rw [List.count_append, cnt_cast, List.count_eq_zero.2 hq]
  have b1 : List.count (q : Int) (ts.map (·.root)) ≤ (ts.map (·.root)).length := List.count_le_length
  rw [List.length_map] at b1
  omega
 omega
theorem Forest.change4 (h : Forest K ns M ts) (hB : Besides K c) (h4 : ns.length ≤ 4) (h3 : ts.length ≤ 4) (hi : ts[k]? = some t) (hP : ∀ t ∈ ts, t.P + 1 ≤ 240) (hs : (ts.map fun i => i.P + 3).sum + 2 * c ≤ 438) (hc : ∀ b ∈ ns, M.pool.cnt b ≤ 248) {x : Int × Int} (k0 : 0 ≤ x.1) (k1 : x.1 < 64) (hx : x.2 = -1 ∨ ∃ b ∈ ns, x.2 = ((b : Nat) : Int)) :
  ∃ M' next, M.change t.root x = (M', next, 0) ∧ Forest K ns M' (ts.set k ⟨next, chgL t.l x, t.P + 1, t.w⟩) ∧ ∀ b ∈ ns, M'.pool.cnt b ≤ M.pool.cnt b + 7 := by
 have ht : t ∈ ts := List.mem_of_getElem? hi
 have hk : k < ts.length := (List.getElem?_eq_some_iff.1 hi).1
 obtain ⟨hT, hpg⟩ := h.tree t ht
 have hmem : t.root ∈ ts.map (·.root) ++ ns.map fun b => ((b : Nat) : Int) := List.mem_append_left _ (List.mem_map.2 ⟨t, ht, rfl⟩)
 have hx' : x.2 = -1 ∨ M.pool.heldB x.2 = true := hx.imp id fun ⟨b, hb, e⟩ => by rw [e]; exact h.held hb
 have hl : Loose M (if x.2 = -1 then [] else [x]) := h.loose.mono fun y hy => (by cases hy)
 have hclosed := change_closed hB.closed t.root x h.kk
 have hP' : ∀ t ∈ ts, t.P ≤ 240 := fun t ht => by have := hP t ht; omega
 obtain ⟨thin1, thin2⟩ := change_thin h.exact h.loose hT (hP t ht) (extL_root hmem hT.low) (c := x) k0 k1 hx'
 rcases change_ok (by decide) h.exact hT (hP t ht) (extL_root hmem hT.low) (c := x) k0 k1 hx' hl (fun _ => rfl) with ⟨e, C⟩ | ⟨_, ⟨_, hh, hr, hled, hf⟩ | ⟨h72, _⟩⟩
 ·obtain ⟨M', hM'⟩ : ∃ M', (M.change t.root x).1 = M' := ⟨_, rfl⟩
  obtain ⟨next, hnext⟩ : ∃ n, (M.change t.root x).2.1 = n := ⟨_, rfl⟩
  have thin1 := thin1 e
  rw [hM'] at C hclosed thin1
  rw [hnext] at C
  refine ⟨M', next, by rw [← hM', ← hnext, ← e], ?_, fun b hb => thin1 b (h.dat hb)⟩
  have hr : (ts.map (·.root) ++ ns.map fun b => ((b : Nat) : Int))[k]? = some t.root := by
   rw [List.getElem?_append_left (by rw [List.length_map]; exact hk), List.getElem?_map, hi]; rfl
  have hroots : (ts.set k ⟨next, chgL t.l x, t.P + 1, t.w⟩).map (·.root) ++ (ns.map fun b => ((b : Nat) : Int)) = (ts.map (·.root) ++ ns.map fun b => ((b : Nat) : Int)).set k next := by
   rw [List.map_set, set_app _ _ (by rw [List.length_map]; exact hk)]
  have E' : Exact M' (extL ((ts.set k ⟨next, chgL t.l x, t.P + 1, t.w⟩).map (·.root) ++ ns.map fun b => ((b : Nat) : Int))) := by
   rw [hroots]
   exact exact_congr C.exact fun p _ => extL_set hr p
  refine ⟨E', C.size.trans h.size, hclosed, C.loose, fun b hb => ?_, fun j hj => ?_⟩
  ·obtain ⟨hlv, d, hd, e1, e2⟩ := h.data b hb
   refine ⟨?_, d, by rw [C.node _ hlv]; exact hd, e1, e2⟩
   have := ext_held E' (p := b) (by rw [C.size]; exact live_lt hlv) (by
    unfold extL
    refine List.count_pos_iff.2 (List.mem_append_right _ (List.mem_map.2 ⟨b, hb, rfl⟩)))
   rw [heldB_nat] at this
   exact this
  ·rcases List.mem_or_eq_of_mem_set hj with hj' | rfl
   ·obtain ⟨hJ, hJ2⟩ := h.tree j hj'
    have hin : j.root ∈ (ts.set k ⟨next, chgL t.l x, t.P + 1, t.w⟩).map (·.root) ++ ns.map fun b => ((b : Nat) : Int) := List.mem_append_left _ (List.mem_map.2 ⟨j, hj, rfl⟩)
    refine ⟨C.others 1 j.root j.l j.P hJ ?_, hJ2⟩
    rcases extL_root hin hJ.low with e | e
    ·exact .inl e
    ·exact .inr (by rw [extL_set hr, ← hroots]; exact e)
   ·refine ⟨C.tree, fun y hy => ?_⟩
    have hy : y ∈ chgL t.l x := hy
    unfold chgL at hy
    split at hy
    ·exact hpg y (List.mem_filter.1 hy).1
    ·rename_i hne
     rcases putL_mem hy with rfl | hy
     ·exact hx.resolve_left hne
     ·exact hpg y hy
 ·have := led5 (by have := hP t ht; omega) hr hled
  have := h.room hB h4 hP' hs
  omega
 ·exfalso
  obtain ⟨q, hq1, hq2⟩ := thin2 h72
  by_cases hq : q ∈ ns
  ·have := hq2 (h.dat hq)
   have := hc q hq
   omega
  ·have := h.few h3 hP' hq
   omega
theorem Forest.changes4 (hB : Besides K c) (hn : ns.Nodup) (h4 : ns.length ≤ 4) {S : Nat → Nat} {l0 : List (Int × Int)} (cs0 : List (Int × Int))
  (hS : ∀ b ∈ ns, ∀ n, n < cs0.length → min (S b + 7 * n) (S b + occ ((cs0.take n).foldl chgL l0) b) ≤ 248) : ∀ (cs : List (Int × Int)) (n : Nat), cs = cs0.drop n → ∀ {M : SM} {ts : List IM} {t : IM}, Forest K ns M ts → ts.length ≤ 4 → ts[k]? = some t → t.l = (cs0.take n).foldl chgL l0 → (∀ b ∈ ns, ((ts.eraseIdx k).map fun i => occ i.l b).sum + 1 ≤ S b) → (∀ b ∈ ns, M.pool.cnt b ≤ S b + 7 * n) → (∀ t ∈ ts, t.P + cs.length ≤ 239) → (ts.map fun i => i.P + 3).sum + cs.length + 2 * c ≤ 438 → (∀ x ∈ cs, 0 ≤ x.1 ∧ x.1 < 64 ∧ (x.2 = -1 ∨ ∃ b ∈ ns, x.2 = ((b : Nat) : Int))) →
  ∃ M' t', SM.changes cs M t.root = (M', t'.root, 0) ∧ t'.l = cs.foldl chgL t.l ∧ t'.P = t.P + cs.length ∧ Forest K ns M' (ts.set k t')
 | [], n, _, M, ts, t, h, _, hi, _, _, _, _, _, _ => by
  refine ⟨M, t, rfl, rfl, rfl, ?_⟩
  have : ts.set k t = ts := by
   refine List.ext_getElem? fun j => ?_
   rw [List.getElem?_set]
   by_cases e : k = j
   ·subst e
    rw [if_pos rfl, if_pos (List.getElem?_eq_some_iff.1 hi).1, hi]
   ·rw [if_neg e]
  rw [this]
  exact h
 | x :: cs, n, hcs, M, ts, t, h, h3, hi, hl, hsum, hcnt, hP, hs, hx => by
  rw [List.length_cons] at hP hs
  have hk : k < ts.length := (List.getElem?_eq_some_iff.1 hi).1
  obtain ⟨k0, k1, hx0⟩ := hx x (List.mem_cons_self ..)
  have hn0 : n < cs0.length := by
   have := congrArg List.length hcs
   rw [List.length_cons, List.length_drop] at this
   omega
  have hxg : cs0[n]? = some x := by
   have := congrArg (·[0]?) hcs
   simp only [List.getElem?_cons_zero, List.getElem?_drop, Nat.add_zero] at this
   exact this.symm
  have hcs' : cs = cs0.drop (n + 1) := by
   have := congrArg List.tail hcs
   rw [List.tail_cons, List.tail_drop] at this
   exact this
  have herase : ∀ b : Nat, (ts.map fun i => occ i.l b).sum = ((ts.eraseIdx k).map fun i => occ i.l b).sum + occ t.l b := fun b => by
   have key : ∀ (us : List IM) (j : Nat), us[j]? = some t → (us.map fun i => occ i.l b).sum = ((us.eraseIdx j).map fun i => occ i.l b).sum + occ t.l b := by
    intro us
    induction us with
    | nil => intro j hj; simp at hj
    | cons u us ih =>
     intro j hj
     cases j with
     | zero =>
      simp only [List.getElem?_cons_zero, Option.some.injEq] at hj
      subst hj
      rw [List.eraseIdx_zero, List.tail_cons, List.map_cons, List.sum_cons]
      omega
     | succ j =>
      rw [List.getElem?_cons_succ] at hj
      rw [List.eraseIdx_cons_succ, List.map_cons, List.sum_cons, List.map_cons, List.sum_cons, ih j hj]
      omega
   exact key ts k hi
  have hc : ∀ b ∈ ns, M.pool.cnt b ≤ 248 := fun b hb => by
   have e1 := h.counts hn (fun t ht => by have := hP t ht; omega) hb
   have e2 := hcnt b hb
   have e3 := hS b hb n hn0
   have e4 := hsum b hb
   rw [herase b, hl] at e1
   omega
  obtain ⟨M1, next, e, h1, h7⟩ := h.change4 hB h4 h3 hi (fun t ht => by have := hP t ht; omega) (by omega) hc k0 k1 hx0
  have hi1 : (ts.set k ⟨next, chgL t.l x, t.P + 1, t.w⟩)[k]? = some ⟨next, chgL t.l x, t.P + 1, t.w⟩ := List.getElem?_set_self hk
  have hset : ∀ (us : List IM) (j : Nat) (u : IM), (us.set j u).eraseIdx j = us.eraseIdx j := by
   intro us
   induction us with
   | nil => intro j u; rfl
   | cons a us ih =>
    intro j u
    cases j with
    | zero => rfl
    | succ j => rw [List.set_cons_succ, List.eraseIdx_cons_succ, List.eraseIdx_cons_succ, ih]
  obtain ⟨M2, t2, e2, e3, e4, h2⟩ := Forest.changes4 hB hn h4 cs0 hS cs (n + 1) hcs' h1 (by rw [List.length_set]; exact h3) hi1 (by
   show chgL t.l x = _
   rw [List.take_add_one, hxg, List.foldl_append, hl]
   rfl) (fun b hb => by rw [hset]; exact hsum b hb) (fun b hb => by have := h7 b hb; have := hcnt b hb; omega) (fun j hj => by
   rcases List.mem_or_eq_of_mem_set hj with hj | rfl
   ·have := hP j hj; omega
   ·have := hP t (List.mem_of_getElem? hi)
    show t.P + 1 + _ ≤ _; omega) (by rw [sum_set hi rfl]; omega) (fun y hy => hx y (List.mem_cons_of_mem _ hy))
  refine ⟨M2, t2, ?_, by rw [e3]; rfl, by rw [e4, List.length_cons]; show t.P + 1 + cs.length = _; omega, by rw [set_set2] at h2; exact h2⟩
  unfold SM.changes
  rw [e]
  dsimp only
  rw [if_pos rfl]
  exact e2
theorem Forest.hold_cnt (h : Forest K ns M ts) (ht : t ∈ ts) {b : Nat} (hb : b ∈ ns) : (if t.root = -1 then (M, 0) else M.hold t.root).1.pool.cnt b = M.pool.cnt b := by
 split
 ·rfl
 ·rename_i hne
  have hd := h.dat hb
  rcases (h.tree t ht).1.root with ⟨e, _⟩ | ⟨hh, tt, _⟩
  ·exact absurd e hne
  ·unfold SM.hold PM.holdTo
   dsimp only
   split
   ·unfold PM.setCnt
    dsimp only
    have h0 := (heldB_int tt.held).1
    rw [if_neg]
    intro e
    have : t.root = (b : Int) := by omega
    rw [this] at tt
    exact hd.tr tt
   ·rfl
end
set_option maxRecDepth 100000

def clampQ (p : Int) : Nat := (max 0 (min p 3)).toNat
def ownC (ns : List Nat) (c : Int × Int) : List (Int × Int) := if 0 ≤ c.1 ∧ c.1 < 64 then [if c.2 = -1 then c else (c.1, ((ns.getD (clampQ c.2) 0 : Nat) : Int))] else []
def ownL (ns : List Nat) (l : List (Int × Int)) : List (Int × Int) := l.flatMap (ownC ns)
theorem ownC_skip {ns : List Nat} {c : Int × Int} (h : ¬ (0 ≤ c.1 ∧ c.1 < 64)) : ownC ns c = [] := by unfold ownC; rw [if_neg h]
theorem ownC_none {ns : List Nat} {k : Int} (h0 : 0 ≤ k) (h1 : k < 64) : ownC ns (k, -1) = [(k, -1)] := by unfold ownC; rw [if_pos ⟨h0, h1⟩, if_pos rfl]
theorem ownC_some {ns : List Nat} {k p : Int} {q : Nat} (h0 : 0 ≤ k) (h1 : k < 64) (hp : ¬ p = -1) (hq : ns[clampQ p]? = some q) : ownC ns (k, p) = [(k, (q : Int))] := by
 unfold ownC
 rw [if_pos ⟨h0, h1⟩, if_neg hp, List.getD_eq_getElem?_getD, hq]
 rfl
theorem ownC_len (ns : List Nat) (c : Int × Int) : (ownC ns c).length ≤ 1 := by unfold ownC; split <;> simp
theorem ownL_len (ns : List Nat) : ∀ l : List (Int × Int), (ownL ns l).length ≤ l.length
 | [] => Nat.le_refl _
 | c :: l => by
  have h1 := ownC_len ns c
  have h2 := ownL_len ns l
  unfold ownL at h2 ⊢
  rw [List.flatMap_cons, List.length_append, List.length_cons]
  omega
theorem ownL_step {ns : List Nat} {l : List (Int × Int)} {k : Nat} {x : Int × Int} (h : l[k]? = some x) : ownL ns (l.take (k + 1)) = ownL ns (l.take k) ++ ownC ns x := by
 unfold ownL
 rw [List.take_add_one, h, List.flatMap_append]
 show _ ++ (ownC ns x ++ []) = _
 rw [List.append_nil]
theorem ownL_good {ns : List Nat} (h4 : ns.length = 4) (l : List (Int × Int)) : ∀ x ∈ ownL ns l, 0 ≤ x.1 ∧ x.1 < 64 ∧ (x.2 = -1 ∨ ∃ b ∈ ns, x.2 = ((b : Nat) : Int)) := fun x hx => by
 unfold ownL at hx
 obtain ⟨c, _, hx⟩ := List.mem_flatMap.1 hx
 unfold ownC at hx
 split at hx
 ·rename_i hc
  rw [List.mem_singleton] at hx
  subst hx
  split
  ·rename_i hp
   exact ⟨hc.1, hc.2, .inl hp⟩
  ·have hq : clampQ c.2 < ns.length := by rw [h4]; unfold clampQ; omega
   refine ⟨hc.1, hc.2, .inr ⟨ns[clampQ c.2], List.getElem_mem hq, ?_⟩⟩
   show ((ns.getD (clampQ c.2) 0 : Nat) : Int) = _
   rw [List.getD_eq_getElem?_getD, List.getElem?_eq_getElem hq]
   rfl
 ·cases hx
structure PagesAt (w : World) (v : Value) (ns : List Nat) (A : SA) : Prop where
 at_ : SliceAt w v 1 ns.length (ns.map fun i => Value.int .i64 (i : Nat))
 off : ns ≠ [] → ∀ b, v.ownBlock = some b → b < w.heap.size ∧ ¬ A.foot b
theorem PagesAt.fresh {w w' : World} {v : Value} {ns : List Nat} {A : SA} (h : PagesAt w v ns A) (k : Kept (fun _ => False) w w') : PagesAt w' v ns A :=
 ⟨SliceAt.fresh h.at_ k, fun hl b hb => ⟨Nat.lt_of_lt_of_le (h.off hl b hb).1 k.size, (h.off hl b hb).2⟩⟩
theorem PagesAt.to {w w' : World} {v : Value} {ns : List Nat} {A A' : SA} {M' : SM} (h : PagesAt w v ns A) (hne : ns ≠ []) (k : StoreTo A A' M' w w') : PagesAt w' v ns A' :=
 ⟨SliceAt.kept h.at_ k.kept fun b hb => (h.off hne b hb).2, fun hl b hb => ⟨Nat.lt_of_lt_of_le (h.off hl b hb).1 k.kept.size, fun e => (k.foot b e).elim (h.off hl b hb).2 fun e => absurd (h.off hl b hb).1 (Nat.not_lt.2 e)⟩⟩
theorem PagesAt.get {w : World} {Av : Option Addr} {n cap : Nat} {ns : List Nat} {A : SA} (h : PagesAt w (.slice Av n cap) ns A) {i : Nat} {x : Nat} (hx : ns[i]? = some x) :
  ∃ b off, Av = some ⟨b, off, none⟩ ∧ b < w.heap.size ∧ w.cell? ⟨b, off + i, none⟩ = some (.int .i64 (x : Int)) := by
 have hi := (List.getElem?_eq_some_iff.1 hx).1
 obtain ⟨b, off, hA, hlt, hc⟩ := SliceAt.elem h.at_ hi (by omega)
 refine ⟨b, off, hA, hlt, ?_⟩
 have := hc 0 (.int .i64 (x : Int)) (by omega) (by simp [hx])
 simpa using this
structure OwnSt (w : World) (ns : List Nat) (l : List (Int × Int)) (k : Nat) (v : Value) (wr : World) : Prop where
 kept : Kept (fun _ => False) w wr
 row : wr.ownsRow w.heap.size 41 2 v (ownL ns (l.take k)).length (entCells (ownL ns (l.take k)))
section
variable {w wr w' : World} {ns : List Nat} {l : List (Int × Int)} {k : Nat} {v : Value}
theorem OwnSt.fresh (h : OwnSt w ns l k v wr) (q : Kept (fun _ => False) wr w') : OwnSt w ns l k v w' := ⟨h.kept.trans q, ownsRow.keptOf h.row q (fun _ _ => id)⟩
theorem OwnSt.skip (h : OwnSt w ns l k v wr) (e : ownL ns (l.take (k + 1)) = ownL ns (l.take k) ++ []) : OwnSt w ns l (k + 1) v wr := by
 rw [List.append_nil] at e
 exact ⟨h.kept, by rw [e]; exact h.row⟩
theorem OwnSt.later (h : OwnSt w ns l k v wr) {w1 : World} {xb : Nat} (k1 : Kept (fun _ => False) wr w1) (k2 : Kept (fun j => j = xb) w1 w') (hx : wr.heap.size ≤ xb) (hn : w.heap.size ≤ xb) : OwnSt w ns l k v w' := by
 have h1 := h.fresh k1
 refine ⟨h1.kept.trans_new k2 (fun i hi e => by omega), ownsRow.keptOf h1.row k2 (fun b hb e => ?_)⟩
 have := (h.row.lt b hb).2
 omega
theorem OwnSt.more (h : OwnSt w ns l k v wr) {w1 : World} (k1 : Kept (fun _ => False) wr w1) {x : Int × Int} (e : ownL ns (l.take (k + 1)) = ownL ns (l.take k) ++ [x]) {v7 : Value}
  (ho : w'.ownsRow w.heap.size 41 2 v7 ((ownL ns (l.take k)).length + 1) (entCells (ownL ns (l.take k)) ++ [.int .i64 x.1, .int .i64 x.2])) (hg : w1.grownBy w' v.ownBlock) : OwnSt w ns l (k + 1) v7 w' := by
 refine ⟨(h.kept.trans k1).trans_new (Kept.of_grown hg) (fun i hi e => ?_), ?_⟩
 ·exact absurd (h.row.lt i e).1 (Nat.not_le.2 hi)
 ·rw [e, List.length_append, entCells_append]
  exact ho
end
theorem EntsOff.apart {w w' : World} {A : SA} {v : Value} {l : List (Int × Int)} {c : Nat} (h : EntsOff w A v l) (k : Kept (fun j => j = c) w w') (hc : l ≠ [] → ∀ b, v.ownBlock = some b → b ≠ c) : EntsOff w' A v l :=
 ⟨by
  by_cases hl : l = []
  ·subst hl; exact EntsAt.nil h.at_
  ·exact SliceAt.kept h.at_ k fun b hb => hc hl b hb, fun hl b hb => ⟨Nat.lt_of_lt_of_le (h.off hl b hb).1 k.size, (h.off hl b hb).2⟩⟩
theorem PagesAt.apart {w w' : World} {A : SA} {v : Value} {ns : List Nat} {c : Nat} (h : PagesAt w v ns A) (k : Kept (fun j => j = c) w w') (hc : ∀ b, v.ownBlock = some b → b ≠ c) : PagesAt w' v ns A :=
 ⟨SliceAt.kept h.at_ k fun b hb => hc b hb, fun hl b hb => ⟨Nat.lt_of_lt_of_le (h.off hl b hb).1 k.size, (h.off hl b hb).2⟩⟩
theorem StoreTo.apart {w wr w' : World} {A0 A : SA} {M : SM} {c : Nat} (h : StoreTo A0 A M w wr) (k : Kept (fun j => j = c) wr w') (hc : ¬ A.own c) (hn : w.heap.size ≤ c) : StoreTo A0 A M w w' :=
 ⟨h.store.kept k (fun i hi e => hc (e ▸ hi)), h.kept.trans_new k (fun i hi e => by omega), h.foot, h.sb, h.fix⟩
structure TwoSt (w : World) (A0 : SA) (sb db lb rr lr rB lB : Nat) (u0 u1 vp : Value) (ns : List Nat) (l0 l1 : List (Int × Int)) (r0 r1 : Int) (L0 L1 : Value) (wr : World) (A : SA) (M : SM) : Prop where
 to_ : StoreTo A0 A M w wr
 cd : wr.heap[db]? = some (.cells #[.pointer (some ⟨sb, 0, none⟩)] 31 (0, 0))
 cl : wr.heap[lb]? = some (.cells #[u0, u1] 23 (0, 0))
 c6 : wr.heap[rr]? = some (.cells #[.int .i64 0, .int .i64 0] 35 (0, 0))
 c7 : wr.heap[lr]? = some (.cells #[.slice none 0 0, .slice none 0 0] 37 (0, 0))
 c9 : wr.heap[rB]? = some (.cells #[.int .i64 r0, .int .i64 r1] 35 (0, 0))
 c10 : wr.heap[lB]? = some (.cells #[L0, L1] 37 (0, 0))
 ap : ∀ b ∈ [db, lb, rr, lr, rB, lB], ApartS wr A b
 e0 : EntsOff wr A u0 l0
 e1 : EntsOff wr A u1 l1
 pg : PagesAt wr vp ns A
structure TwoIn (n0 db lb rr lr rB lB : Nat) (u0 u1 vp : Value) (l0 l1 : List (Int × Int)) : Prop where
 ord : n0 ≤ db ∧ db < lb ∧ lb < rr ∧ rr < lr ∧ lr < rB ∧ rB < lB
 b0 : l0 ≠ [] → ∀ b, u0.ownBlock = some b → b < n0
 b1 : l1 ≠ [] → ∀ b, u1.ownBlock = some b → b < n0
 bp : ∀ b, vp.ownBlock = some b → b < n0
section
variable {w wr w' : World} {A0 A A' : SA} {M M' : SM} {sb db lb rr lr rB lB : Nat} {u0 u1 vp : Value} {ns : List Nat} {l0 l1 : List (Int × Int)} {r0 r1 : Int} {L0 L1 : Value}
theorem TwoSt.fresh (h : TwoSt w A0 sb db lb rr lr rB lB u0 u1 vp ns l0 l1 r0 r1 L0 L1 wr A M) (k : Kept (fun _ => False) wr w') : TwoSt w A0 sb db lb rr lr rB lB u0 u1 vp ns l0 l1 r0 r1 L0 L1 w' A M :=
 ⟨h.to_.fresh k, k.get h.cd id, k.get h.cl id, k.get h.c6 id, k.get h.c7 id, k.get h.c9 id, k.get h.c10 id, fun b hb => (h.ap b hb).fresh k, h.e0.fresh k, h.e1.fresh k, h.pg.fresh k⟩
theorem TwoSt.to (h : TwoSt w A0 sb db lb rr lr rB lB u0 u1 vp ns l0 l1 r0 r1 L0 L1 wr A M) (hn : ns ≠ []) (k : StoreTo A A' M' wr w') : TwoSt w A0 sb db lb rr lr rB lB u0 u1 vp ns l0 l1 r0 r1 L0 L1 w' A' M' := by
 have g : ∀ b ∈ [db, lb, rr, lr, rB, lB], Safe wr A b := fun b hb => (h.ap b hb).safe
 refine ⟨h.to_.trans k, k.get h.cd (g db ?_), k.get h.cl (g lb ?_), k.get h.c6 (g rr ?_), k.get h.c7 (g lr ?_), k.get h.c9 (g rB ?_), k.get h.c10 (g lB ?_), fun b hb => (h.ap b hb).to k, h.e0.to k, h.e1.to k, h.pg.to hn k⟩ <;> simp
theorem TwoSt.load (h : TwoSt w A0 sb db lb rr lr rB lB u0 u1 vp ns l0 l1 r0 r1 L0 L1 wr A M) : ∀ j v, [Value.pointer (some ⟨sb, 0, none⟩)][j]? = some v → wr.cell? ⟨db, 0 + j, none⟩ = some v := ptr_load' h.cd
theorem TwoSt.roots (h : TwoSt w A0 sb db lb rr lr rB lB u0 u1 vp ns l0 l1 r0 r1 L0 L1 wr A M) (I : TwoIn w.heap.size db lb rr lr rB lB u0 u1 vp l0 l1) {o : Nat} {v : Value} {s0 s1 : Int} (e : (#[Value.int .i64 r0, .int .i64 r1] : Array Value).setIfInBounds o v = #[.int .i64 s0, .int .i64 s1]) :
  TwoSt w A0 sb db lb rr lr rB lB u0 u1 vp ns l0 l1 s0 s1 L0 L1 (wr.setCell ⟨rB, o, none⟩ v) A M := by
 obtain ⟨o1, o2, o3, o4, o5, o6⟩ := I.ord
 have k : Kept (fun j => j = rB) wr (wr.setCell ⟨rB, o, none⟩ v) := Kept.setCell (S := fun j => j = rB) (Kept.refl _ _) rfl _
 refine ⟨h.to_.apart k (h.ap rB (by simp)).off (by omega), k.get h.cd (by omega), k.get h.cl (by omega), k.get h.c6 (by omega), k.get h.c7 (by omega), by rw [heap_setCell_same h.c9, e], k.get h.c10 (by omega), fun b hb => ⟨Nat.lt_of_lt_of_le (h.ap b hb).lt k.size, (h.ap b hb).off⟩,
  h.e0.apart k (fun hl b hb => by have := I.b0 hl b hb; omega), h.e1.apart k (fun hl b hb => by have := I.b1 hl b hb; omega), h.pg.apart k (fun b hb => by have := I.bp b hb; omega)⟩
theorem TwoSt.lists (h : TwoSt w A0 sb db lb rr lr rB lB u0 u1 vp ns l0 l1 r0 r1 L0 L1 wr A M) (I : TwoIn w.heap.size db lb rr lr rB lB u0 u1 vp l0 l1) {o : Nat} {v K0 K1 : Value} (e : (#[L0, L1] : Array Value).setIfInBounds o v = #[K0, K1]) :
  TwoSt w A0 sb db lb rr lr rB lB u0 u1 vp ns l0 l1 r0 r1 K0 K1 (wr.setCell ⟨lB, o, none⟩ v) A M := by
 obtain ⟨o1, o2, o3, o4, o5, o6⟩ := I.ord
 have k : Kept (fun j => j = lB) wr (wr.setCell ⟨lB, o, none⟩ v) := Kept.setCell (S := fun j => j = lB) (Kept.refl _ _) rfl _
 refine ⟨h.to_.apart k (h.ap lB (by simp)).off (by omega), k.get h.cd (by omega), k.get h.cl (by omega), k.get h.c6 (by omega), k.get h.c7 (by omega), k.get h.c9 (by omega), by rw [heap_setCell_same h.c10, e], fun b hb => ⟨Nat.lt_of_lt_of_le (h.ap b hb).lt k.size, (h.ap b hb).off⟩,
  h.e0.apart k (fun hl b hb => by have := I.b0 hl b hb; omega), h.e1.apart k (fun hl b hb => by have := I.b1 hl b hb; omega), h.pg.apart k (fun b hb => by have := I.bp b hb; omega)⟩
end
structure ListAt (lB : Nat) (wr : World) (A : SA) (v : Value) (l : List (Int × Int)) : Prop where
 off : EntsOff wr A v l
 far : l ≠ [] → ∀ b, v.ownBlock = some b → lB < b
theorem ListAt.fresh {lB : Nat} {w w' : World} {A : SA} {v : Value} {l : List (Int × Int)} (h : ListAt lB w A v l) (k : Kept (fun _ => False) w w') : ListAt lB w' A v l := ⟨h.off.fresh k, h.far⟩
theorem ListAt.to {lB : Nat} {w w' : World} {A A' : SA} {M' : SM} {v : Value} {l : List (Int × Int)} (h : ListAt lB w A v l) (k : StoreTo A A' M' w w') : ListAt lB w' A' v l := ⟨h.off.to k, h.far⟩
theorem ListAt.apart {lB c : Nat} {w w' : World} {A : SA} {v : Value} {l : List (Int × Int)} (h : ListAt lB w A v l) (k : Kept (fun j => j = c) w w') (hc : c ≤ lB) : ListAt lB w' A v l := ⟨h.off.apart k (fun hl b hb => by have := h.far hl b hb; omega), h.far⟩
theorem list_made {lB : Nat} {w w' : World} {A : SA} {M : SM} {va u : Value} {l cs : List (Int × Int)} (hs : StoreAt w A M) (hb : lB < w.heap.size) (hv : ListAt lB w A va l) (R : RaSt w va l cs cs.length u w') : ListAt lB w' A u (cs.foldl chgL l) := by
 have hE := R.ents
 rw [List.take_length] at hE
 have hne : u = va → cs.foldl chgL l ≠ [] → l ≠ [] := fun e hf hl => by
  obtain ⟨A1, c1, e1, _⟩ := hE.form
  obtain ⟨A2, c2, e2, _⟩ := hv.off.at_.form
  rw [e, e2] at e1
  injection e1 with _ h2 _
  have h3 : l.length = 0 := by rw [hl]; rfl
  exact hf (List.eq_nil_of_length_eq_zero (by omega))
 refine ⟨⟨hE, fun hf b hb' => ?_⟩, fun hf b hb' => ?_⟩
 ·obtain ⟨b', e1, e2⟩ := SliceAt.block hE (by have := List.length_pos_iff.2 hf; omega)
  rw [hb'] at e1
  cases e1
  refine ⟨e2, fun e => ?_⟩
  rcases R.own with e3 | e3
  ·rw [e3] at hb'
   exact (hv.off.off (hne e3 hf) b hb').2 e
  ·have h1 := e3 b hb'
   have h2 := hs.lt (.inl e)
   omega
 ·rcases R.own with e3 | e3
  ·rw [e3] at hb'
   exact hv.far (hne e3 hf) b hb'
  ·have := e3 b hb'
   omega
theorem results_two {P : Program} {fn : Func} {p q u : Tmp} {ty ty' : TypeId} (h : fn.results = #[.cell p ty, .cell q ty', .tmp u]) (tmps : Array Value) (w : World) (g g' : Nat) (t t' : TypeId) (cs cs' : Array Value) (fr fr' : Nat × Nat) (d d' : TypeDesc)
  (hp : tmps.getD p undef = .pointer (some ⟨g, 0, none⟩)) (hg : w.heap[g]? = some (.cells cs t fr)) (hu : P.underlying ty = some d) (hd : (match d with | .struct _ | .array _ _ => true | _ => false) = true) (hi : (P.info? ty).map (·.size) = some cs.size)
  (hp' : tmps.getD q undef = .pointer (some ⟨g', 0, none⟩)) (hg' : w.heap[g']? = some (.cells cs' t' fr')) (hu' : P.underlying ty' = some d') (hd' : (match d' with | .struct _ | .array _ _ => true | _ => false) = true) (hi' : (P.info? ty').map (·.size) = some cs'.size) :
  (results fn tmps).run P w = .ok (.tuple #[.agg cs, .agg cs', tmps.getD u undef]) w := by
 have h1 : tmps[p]?.getD undef = .pointer (some ⟨g, 0, none⟩) := by simpa using hp
 have h2 : tmps[q]?.getD undef = .pointer (some ⟨g', 0, none⟩) := by simpa using hp'
 simp [results, h, h1, h2, asAddr, run_loadVar_row w g t ty cs fr d hg hu hd hi, run_loadVar_row w g' t' ty' cs' fr' d' hg' hu' hd' hi']
set_option maxHeartbeats 16000000 in
theorem two12 {w : World} {A : SA} {M M1 M1h M2 : SM} (h : StoreAt w A M) {ns : List Nat} (hns : ns.length = 4) {vp v0 v1 : Value} {l0 l1 : List (Int × Int)} (hp : PagesAt w vp ns A) (hv0 : EntsOff w A v0 l0) (hv1 : EntsOff w A v1 l1) (hl0 : l0.length ≤ 70) (hl1 : l1.length ≤ 70) {r0 r1 : Int}
  (H0 : SM.changes (ownL ns l0) M (-1) = (M1, r0, 0)) (Hh : (if r0 = -1 then (M1, 0) else M1.hold r0) = (M1h, 0)) (H1 : SM.changes (ownL ns l1) M1h r0 = (M2, r1, 0)) (g0 : M.log.length ≤ 10000) (g1 : M1h.log.length ≤ 10000) :
  Calls Try.prog 7 #[.agg #[.pointer (some ⟨A.sb, 0, none⟩)], vp, .agg #[v0, v1]] w fun e w' => ∃ A' L0 L1, e = .returned (.tuple #[.agg #[.int .i64 r0, .int .i64 r1], .agg #[L0, L1], .bool true]) ∧ StoreTo A A' M2 w w' ∧ EntsOff w' A' L0 ((ownL ns l0).foldl chgL []) ∧ EntsOff w' A' L1 ((ownL ns l1).foldl chgL ((ownL ns l0).foldl chgL [])) := by
 obtain ⟨A0, c0, rfl, ha1, ha2⟩ := hv0.at_.form
 obtain ⟨A1, c1, rfl, hb1, hb2⟩ := hv1.at_.form
 obtain ⟨_, Ap, cp, rfl, hp1, hp2, _⟩ := id hp.at_
 unfold maxLen at ha2 hb2 hp2
 have hne : ns ≠ [] := fun e => by rw [e] at hns; cases hns
 obtain ⟨sb, hsb⟩ : ∃ sb, A.sb = sb := ⟨_, rfl⟩
 obtain ⟨db, hdb⟩ : ∃ b, w.heap.size = b := ⟨_, rfl⟩
 obtain ⟨w1, hw1⟩ : ∃ u, w.alloc (.cells #[.pointer (some ⟨sb, 0, none⟩)] 31) = u := ⟨_, rfl⟩
 obtain ⟨lb, hlb⟩ : ∃ b, w1.heap.size = b := ⟨_, rfl⟩
 obtain ⟨w2, hw2⟩ : ∃ u, w1.alloc (.cells #[.slice A0 l0.length c0, .slice A1 l1.length c1] 23) = u := ⟨_, rfl⟩
 obtain ⟨rr, hrr⟩ : ∃ b, w2.heap.size = b := ⟨_, rfl⟩
 obtain ⟨w3, hw3⟩ : ∃ u, w2.alloc (.cells #[.int .i64 0, .int .i64 0] 35) = u := ⟨_, rfl⟩
 obtain ⟨lr, hlr⟩ : ∃ b, w3.heap.size = b := ⟨_, rfl⟩
 obtain ⟨w4, hw4⟩ : ∃ u, w3.alloc (.cells #[.slice none 0 0, .slice none 0 0] 37) = u := ⟨_, rfl⟩
 obtain ⟨rB, hrB⟩ : ∃ b, w4.heap.size = b := ⟨_, rfl⟩
 obtain ⟨w5, hw5⟩ : ∃ u, (w4.alloc (.cells #[.int .i64 0, .int .i64 0] 35)).setRow rB #[.int .i64 (-1), .int .i64 (-1)] = u := ⟨_, rfl⟩
 obtain ⟨lB, hlB⟩ : ∃ b, w5.heap.size = b := ⟨_, rfl⟩
 obtain ⟨w6, hw6⟩ : ∃ u, (w5.alloc (.cells #[.slice none 0 0, .slice none 0 0] 37)).setRow lB #[.slice none 0 0, .slice none 0 0] = u := ⟨_, rfl⟩
 have k1 : Kept (fun _ => False) w w1 := by rw [← hw1]; exact (Kept.refl _ _).alloc _
 have k2 : Kept (fun _ => False) w1 w2 := by rw [← hw2]; exact (Kept.refl _ _).alloc _
 have k3 : Kept (fun _ => False) w2 w3 := by rw [← hw3]; exact (Kept.refl _ _).alloc _
 have k4 : Kept (fun _ => False) w3 w4 := by rw [← hw4]; exact (Kept.refl _ _).alloc _
 have k5 : Kept (fun _ => False) w4 w5 := by rw [← hw5]; exact ((Kept.refl _ _).alloc _).setRowNew (by omega) _
 have k6 : Kept (fun _ => False) w5 w6 := by rw [← hw6]; exact ((Kept.refl _ _).alloc _).setRowNew (by omega) _
 have q1 : w1.heap[db]? = some (.cells #[.pointer (some ⟨sb, 0, none⟩)] 31 (0, 0)) := by rw [← hw1, ← hdb]; exact heap_alloc_new _ _
 have q2 : w2.heap[lb]? = some (.cells #[.slice A0 l0.length c0, .slice A1 l1.length c1] 23 (0, 0)) := by rw [← hw2, ← hlb]; exact heap_alloc_new _ _
 have q3 : w3.heap[rr]? = some (.cells #[.int .i64 0, .int .i64 0] 35 (0, 0)) := by rw [← hw3, ← hrr]; exact heap_alloc_new _ _
 have q4 : w4.heap[lr]? = some (.cells #[.slice none 0 0, .slice none 0 0] 37 (0, 0)) := by rw [← hw4, ← hlr]; exact heap_alloc_new _ _
 have q5 : w5.heap[rB]? = some (.cells #[.int .i64 (-1), .int .i64 (-1)] 35 (0, 0)) := by rw [← hw5, ← hrB]; exact setRow_heap _ _ _ _ _ _ (heap_alloc_new _ _)
 have q6 : w6.heap[lB]? = some (.cells #[.slice none 0 0, .slice none 0 0] 37 (0, 0)) := by rw [← hw6, ← hlB]; exact setRow_heap _ _ _ _ _ _ (heap_alloc_new _ _)
 have e1 := lt_of_heap q1
 have e2 := lt_of_heap q2
 have e3 := lt_of_heap q3
 have e4 := lt_of_heap q4
 have e5 := lt_of_heap q5
 have e6 := lt_of_heap q6
 have K6 := ((((k1.trans k2).trans k3).trans k4).trans k5).trans k6
 have hord : w.heap.size ≤ db ∧ db < lb ∧ lb < rr ∧ rr < lr ∧ lr < rB ∧ rB < lB := by omega
 have hIn : Hid (TwoIn w.heap.size db lb rr lr rB lB (.slice A0 l0.length c0) (.slice A1 l1.length c1) (.slice Ap ns.length cp) l0 l1) := h_ ⟨hord, fun hl b hb => (hv0.off hl b hb).1, fun hl b hb => (hv1.off hl b hb).1, fun b hb => (hp.off hne b hb).1⟩
 have S0 : Hid (∃ B, TwoSt w A sb db lb rr lr rB lB (.slice A0 l0.length c0) (.slice A1 l1.length c1) (.slice Ap ns.length cp) ns l0 l1 (-1) (-1) (.slice none 0 0) (.slice none 0 0) w6 B M) := h_ ⟨A, (StoreTo.refl h).fresh K6, ((((k2.trans k3).trans k4).trans k5).trans k6).get q1 id, (((k3.trans k4).trans k5).trans k6).get q2 id, ((k4.trans k5).trans k6).get q3 id, (k5.trans k6).get q4 id, k6.get q5 id, q6, fun b hb => ⟨by simp at hb; omega, fun e => by have := h.lt e; simp at hb; omega⟩, hv0.fresh K6, hv1.fresh K6, hp.fresh K6⟩
 have hp4 := h_ hp
 have H0' := h_ H0
 have H1' := h_ H1
 have Hh' := h_ Hh
 have hw1' := h_ hw1
 have hw2' := h_ hw2
 have hw3' := h_ hw3
 have hw4' := h_ hw4
 have hw5' := h_ hw5
 have hw6' := h_ hw6
 have hdb' := h_ hdb
 have hlb' := h_ hlb
 have hrr' := h_ hrr
 have hlr' := h_ hlr
 have hrB' := h_ hrB
 have hlB' := h_ hlB
 have hsb' := h_ hsb
 rw [hsb]
 clear H0 H1 Hh h hp hv0 hv1 hw1 hw2 hw3 hw4 hw5 hw6 hdb hlb hrr hlr hrB hlB k1 k2 k3 k4 k5 k6 q1 q2 q3 q4 q5 q6 e1 e2 e3 e4 e5 e6 K6 hord hsb
 go_enter Try.func7, Try.ntmps7
 go_wp2_with (first | (refine wpList_box_named 31 rfl rfl _ rfl hw1'.out ?_; rw [hdb'.out]) | (refine wpList_box_named 23 rfl rfl _ rfl hw2'.out ?_; rw [hlb'.out]) | (refine wpList_alloc_as 35 rfl rfl #[.int .i64 0, .int .i64 0] (by kernel_rfl) ?_; first | rw [hw3'.out, hrr'.out] | rw [hrB'.out]) | (refine wpList_alloc_as 37 rfl rfl #[.slice none 0 0, .slice none 0 0] (by kernel_rfl) ?_; first | rw [hw4'.out, hlr'.out] | rw [hlB'.out]) | (refine wpList_store_whole 35 rfl rfl rfl [.int .i64 (-1), .int .i64 (-1)] rfl (by kernel_rfl) 35 #[.int .i64 0, .int .i64 0] (by rw [← hrB'.out]; exact heap_alloc_new _ _) rfl (by intro c hc; simp at hc; subst hc; rfl) ?_; rw [hw5'.out]) | (refine wpList_store_whole 37 rfl rfl rfl [.slice none 0 0, .slice none 0 0] rfl (by kernel_rfl) 37 #[.slice none 0 0, .slice none 0 0] (by rw [← hlB'.out]; exact heap_alloc_new _ _) rfl (by intro c hc; simp at hc; subst hc; rfl) ?_; rw [hw6'.out]))
 go_loopw [23] (fun i wr => (i = .int .i64 0 ∧ Hid (∃ B, TwoSt w A sb db lb rr lr rB lB (.slice A0 l0.length c0) (.slice A1 l1.length c1) (.slice Ap ns.length cp) ns l0 l1 (-1) (-1) (.slice none 0 0) (.slice none 0 0) wr B M)) ∨ (i = .int .i64 1 ∧ Hid (∃ B L0, TwoSt w A sb db lb rr lr rB lB (.slice A0 l0.length c0) (.slice A1 l1.length c1) (.slice Ap ns.length cp) ns l0 l1 r0 (-1) L0 (.slice none 0 0) wr B M1 ∧ ListAt lB wr B L0 ((ownL ns l0).foldl chgL []))) ∨ (i = .int .i64 2 ∧ Hid (∃ B L0 L1, TwoSt w A sb db lb rr lr rB lB (.slice A0 l0.length c0) (.slice A1 l1.length c1) (.slice Ap ns.length cp) ns l0 l1 r0 r1 L0 L1 wr B M2 ∧ ListAt lB wr B L0 ((ownL ns l0).foldl chgL []) ∧ ListAt lB wr B L1 ((ownL ns l1).foldl chgL ((ownL ns l0).foldl chgL []))))) (fun i _ => (2 - intOf i).toNat)
 case atStart => exact .inl ⟨rfl, S0⟩
 case round =>
  rcases hrel with ⟨rfl, hI⟩ | ⟨rfl, hI⟩ | ⟨rfl, hI⟩
  ·obtain ⟨B, St⟩ := hI.out
   have hL := h_ (show True from trivial)
   have St0 := h_ St
   have clj := cell_of_heap St.cl 0
   simp at clj
   have dl : decide ((70 : Int) < (l0.length : Int)) = false := decide_eq_false (by omega)
   obtain ⟨wo, hwo⟩ : ∃ wo, wr.alloc (.cells #[] 41) = wo := ⟨_, rfl⟩
   have O0 : Hid (OwnSt wr ns l0 0 (.slice (some ⟨wr.heap.size, 0, none⟩) 0 0) wo) := h_ ⟨by rw [← hwo]; exact (Kept.refl _ _).alloc _, by rw [List.take_zero, ← hwo]; exact owns_empty wr wr.heap.size wr.heap.size 41 2 (Nat.le_refl _) rfl⟩
   have hwo' := h_ hwo
   have clo := cell_of_heap (((Kept.refl (fun _ => False) wr).alloc (.cells #[] 41)).get St.cl id) 0
   simp at clo
   clear hwo St
   go_wp2_with fail
   rw [hwo'.out]
   obtain ⟨wz, hwz⟩ : ∃ u, wr = u := ⟨_, rfl⟩
   rw [hwz] at hI St0 clj O0 hwo' ⊢
   clear hwz hI
   have St' := St0
   go_loopw [12, 38] (fun v i wr => ∃ (k : Nat), k ≤ l0.length ∧ i = .int .i64 k ∧ Hid (OwnSt wz ns l0 k v wr)) (fun _ i _ => l0.length - (intOf i).toNat)
   case atStart => exact ⟨0, Nat.zero_le _, rfl, O0⟩
   case round =>
    obtain ⟨k, hk, rfl, hO⟩ := hrel
    obtain ⟨_, Av, cv, rfl, hv1, hv2, _⟩ := SliceAt.of_owns hO.out.row
    unfold maxLen at hv2
    have hbnd := ownL_len ns (l0.take k)
    have hlk : (l0.take k).length ≤ 70 := by rw [List.length_take]; omega
    by_cases hlt : k < l0.length
    ·obtain ⟨x, hx⟩ : ∃ x, l0[k]? = some x := ⟨_, List.getElem?_eq_getElem hlt⟩
     obtain ⟨xk, xp⟩ := x
     have St := St'.out.fresh hO.out.kept
     obtain ⟨eb, eo, hA0, heb, hx0, hx1⟩ := St.e0.at_.get hx
     have hki : (k : Int) < (l0.length : Int) := by omega
     have hown := ownL_step (ns := ns) hx
     have hlo : Hid (∀ i v, [Value.int .i64 xk, .int .i64 xp][i]? = some v → wr.cell? ⟨eb, eo + k * 2 + i, none⟩ = some v) := h_ (fun i v hi => by
      match i, hi with
      | 0, hi => cases hi; exact hx0
      | 1, hi => cases hi; exact hx1)
     obtain ⟨xb, hxb⟩ : ∃ xb, wr.heap.size = xb := ⟨_, rfl⟩
     obtain ⟨wx, hwx⟩ : ∃ wx, (wr.alloc (.cells #[.int .i64 0, .int .i64 0] 41)).setRow xb #[.int .i64 xk, .int .i64 xp] = wx := ⟨_, rfl⟩
     have kx : Kept (fun _ => False) wr wx := by rw [← hwx]; exact ((Kept.refl _ _).alloc _).setRowNew (by omega) _
     have qx : wx.heap[xb]? = some (.cells #[.int .i64 xk, .int .i64 xp] 41 (0, 0)) := by rw [← hwx, ← hxb]; exact setRow_heap _ _ _ _ _ _ (heap_alloc_new _ _)
     have cx0 := cell_of_heap qx 0
     have cx1 := cell_of_heap qx 1
     simp at cx0 cx1
     have Ox := h_ (hO.out.fresh kx)
     have hxn : Hid (wz.heap.size ≤ xb) := h_ (by have := hO.out.kept.size; omega)
     have hxb' := h_ hxb
     have hwx' := h_ hwx
     by_cases h0 : 0 ≤ xk
     ·have d0 : decide (0 ≤ xk) = true := decide_eq_true h0
      by_cases h1 : xk < 64
      ·have d1 : decide (xk < 64) = true := decide_eq_true h1
       by_cases hm : xp = -1
       ·subst hm
        have hfin : Hid (ownL ns (l0.take (k + 1)) = ownL ns (l0.take k) ++ [(xk, -1)]) := h_ (by rw [hown, ownC_none h0 h1])
        have hlx : Hid (∀ i v, [Value.int .i64 xk, .int .i64 (-1)][i]? = some v → wx.cell? ⟨xb, 0 + i, none⟩ = some v) := h_ (fun i v hi => by rw [cell_of_heap qx, Nat.zero_add]; simpa using hi)
        subst hA0
        clear hx hx0 hx1 hO St hown kx qx hxb hwx heb
        go_wp2_with (first | (refine wpList_load_agg 41 rfl rfl rfl _ Try.underlying41 rfl [.int .i64 xk, .int .i64 (-1)] (by kernel_rfl) hlo.out ?_) | (refine wpList_load_agg 41 rfl rfl rfl _ Try.underlying41 rfl [.int .i64 xk, .int .i64 (-1)] (by kernel_rfl) hlx.out ?_) | (refine wpList_alloc_as 41 rfl rfl #[.int .i64 0, .int .i64 0] (by kernel_rfl) ?_; rw [hxb'.out]) | (refine wpList_store_whole 41 rfl rfl rfl [.int .i64 xk, .int .i64 (-1)] rfl (by kernel_rfl) 41 #[.int .i64 0, .int .i64 0] (by rw [← hxb'.out]; exact heap_alloc_new _ _) rfl (by intro c hc; simp at hc; rcases hc with rfl | rfl <;> rfl) ?_; rw [hwx'.out]) | (at_builtin; refine wpList_append_src rfl elemChange (.tmp 61) (.tmp 63) rfl (by rfl) (by rfl) (ownsRow.keptOf Ox.out.row ((Kept.refl (fun _ => False) wx).alloc _) (fun _ _ => id)) (SliceAt.block_new (ys := [.int .i64 xk, .int .i64 (-1)]) (m := 1) (heap_alloc_new _ _) rfl (by decide)) (by intro c hc; simp at hc; rcases hc with rfl | rfl <;> rfl) (by omega) (by omega) (Nat.le_trans Ox.out.kept.size ((Kept.refl (fun _ => False) _).alloc _).size) ?_; intro v7 w7 hown7 hg7 hat7))
        have fin : Hid (OwnSt wz ns l0 (k + 1) v7 w7) := h_ (Ox.out.more ((Kept.refl (fun _ => False) wx).alloc _) hfin.out hown7 hg7)
        clear hown7 hg7 hat7
        go_wp2_with fail
        go_roundw
        case rel => exact ⟨k + 1, by omega, by go_num, fin⟩
        case measure => simp [intOf] <;> omega
       ·have hb : (xp == -1) = false := by simp [hm]
        have hb2 : (xp != -1) = true := by simp [hm]
        obtain ⟨q, hq⟩ : ∃ q, clampQ xp = q := ⟨_, rfl⟩
        have hq4 : q < ns.length := by rw [hns, ← hq]; unfold clampQ; omega
        have hqc : max 0 (min xp 3) = (q : Int) := by rw [← hq]; unfold clampQ; omega
        obtain ⟨p, hp⟩ : ∃ p, ns[q]? = some p := ⟨_, List.getElem?_eq_getElem hq4⟩
        obtain ⟨pb, po, hAp, hpb, hcp⟩ := PagesAt.get (St.pg.fresh kx) hp
        have hfin : Hid (ownL ns (l0.take (k + 1)) = ownL ns (l0.take k) ++ [(xk, (p : Int))]) := h_ (by rw [hown, ownC_some h0 h1 hm (by rw [hq]; exact hp)])
        have hq3 : (q : Int) < 4 := by omega
        have fx := free_of_heap qx 1
        obtain ⟨wy, hwy⟩ : ∃ wy, wx.setCell ⟨xb, 1, none⟩ (.int .i64 (p : Int)) = wy := ⟨_, rfl⟩
        have ky : Kept (fun j => j = xb) wx wy := by rw [← hwy]; exact Kept.setCell (S := fun j => j = xb) (Kept.refl _ _) rfl _
        have qy : wy.heap[xb]? = some (.cells #[.int .i64 xk, .int .i64 (p : Int)] 41 (0, 0)) := by rw [← hwy, heap_setCell_same qx]; rfl
        have hly : Hid (∀ i v, [Value.int .i64 xk, .int .i64 (p : Int)][i]? = some v → wy.cell? ⟨xb, 0 + i, none⟩ = some v) := h_ (fun i v hi => by rw [cell_of_heap qy, Nat.zero_add]; simpa using hi)
        have Oy := h_ (hO.out.later kx ky (by omega) hxn.out)
        have hwy' := h_ hwy
        subst hA0 hAp
        clear hx hx0 hx1 hO St hown kx qx hxb hwx heb ky qy hwy hp hq hq4 hpb h0 h1 hm
        go_wp2_with (first | (refine wpList_load_agg 41 rfl rfl rfl _ Try.underlying41 rfl [.int .i64 xk, .int .i64 xp] (by kernel_rfl) hlo.out ?_) | (refine wpList_load_agg 41 rfl rfl rfl _ Try.underlying41 rfl [.int .i64 xk, .int .i64 (p : Int)] (by kernel_rfl) hly.out ?_) | (refine wpList_alloc_as 41 rfl rfl #[.int .i64 0, .int .i64 0] (by kernel_rfl) ?_; rw [hxb'.out]) | (refine wpList_store_whole 41 rfl rfl rfl [.int .i64 xk, .int .i64 xp] rfl (by kernel_rfl) 41 #[.int .i64 0, .int .i64 0] (by rw [← hxb'.out]; exact heap_alloc_new _ _) rfl (by intro c hc; simp at hc; rcases hc with rfl | rfl <;> rfl) ?_; rw [hwx'.out]) | (rw [hwy'.out]; refine wpList_load_agg 41 rfl rfl rfl _ Try.underlying41 rfl [.int .i64 xk, .int .i64 (p : Int)] (by kernel_rfl) hly.out ?_) | (at_builtin; refine wpList_append_src rfl elemChange (.tmp 61) (.tmp 63) rfl (by rfl) (by rfl) (ownsRow.keptOf Oy.out.row ((Kept.refl (fun _ => False) wy).alloc _) (fun _ _ => id)) (SliceAt.block_new (ys := [.int .i64 xk, .int .i64 (p : Int)]) (m := 1) (heap_alloc_new _ _) rfl (by decide)) (by intro c hc; simp at hc; rcases hc with rfl | rfl <;> rfl) (by omega) (by omega) (Nat.le_trans Oy.out.kept.size ((Kept.refl (fun _ => False) _).alloc _).size) ?_; intro v7 w7 hown7 hg7 hat7))
        have fin : Hid (OwnSt wz ns l0 (k + 1) v7 w7) := h_ (Oy.out.more ((Kept.refl (fun _ => False) wy).alloc _) hfin.out hown7 hg7)
        clear hown7 hg7 hat7
        go_wp2_with fail
        go_roundw
        case rel => exact ⟨k + 1, by omega, by go_num, fin⟩
        case measure => simp [intOf] <;> omega
      ·have d1 : decide (xk < 64) = false := decide_eq_false h1
       have fin : Hid (OwnSt wz ns l0 (k + 1) (.slice Av (ownL ns (l0.take k)).length cv) wx) := h_ (Ox.out.skip (by rw [hown, ownC_skip (by omega)]))
       subst hA0
       clear hx hx0 hx1 hO St hown kx qx hxb hwx heb
       go_wp2_with (first | (refine wpList_load_agg 41 rfl rfl rfl _ Try.underlying41 rfl [.int .i64 xk, .int .i64 xp] (by kernel_rfl) hlo.out ?_) | (refine wpList_alloc_as 41 rfl rfl #[.int .i64 0, .int .i64 0] (by kernel_rfl) ?_; rw [hxb'.out]) | (refine wpList_store_whole 41 rfl rfl rfl [.int .i64 xk, .int .i64 xp] rfl (by kernel_rfl) 41 #[.int .i64 0, .int .i64 0] (by rw [← hxb'.out]; exact heap_alloc_new _ _) rfl (by intro c hc; simp at hc; rcases hc with rfl | rfl <;> rfl) ?_; rw [hwx'.out]))
       go_roundw
       case rel => exact ⟨k + 1, by omega, by go_num, fin⟩
       case measure => simp [intOf] <;> omega
     ·have d0 : decide (0 ≤ xk) = false := decide_eq_false h0
      have fin : Hid (OwnSt wz ns l0 (k + 1) (.slice Av (ownL ns (l0.take k)).length cv) wx) := h_ (Ox.out.skip (by rw [hown, ownC_skip (by omega)]))
      subst hA0
      clear hx hx0 hx1 hO St hown kx qx hxb hwx heb
      go_wp2_with (first | (refine wpList_load_agg 41 rfl rfl rfl _ Try.underlying41 rfl [.int .i64 xk, .int .i64 xp] (by kernel_rfl) hlo.out ?_) | (refine wpList_alloc_as 41 rfl rfl #[.int .i64 0, .int .i64 0] (by kernel_rfl) ?_; rw [hxb'.out]) | (refine wpList_store_whole 41 rfl rfl rfl [.int .i64 xk, .int .i64 xp] rfl (by kernel_rfl) 41 #[.int .i64 0, .int .i64 0] (by rw [← hxb'.out]; exact heap_alloc_new _ _) rfl (by intro c hc; simp at hc; rcases hc with rfl | rfl <;> rfl) ?_; rw [hwx'.out]))
      go_roundw
      case rel => exact ⟨k + 1, by omega, by go_num, fin⟩
      case measure => simp [intOf] <;> omega
    ·obtain rfl : k = l0.length := by omega
     have hki : decide ((l0.length : Int) < (l0.length : Int)) = false := decide_eq_false (by omega)
     have hrow := hO.out.row
     have hkp := hO.out.kept
     rw [List.take_length] at hrow hbnd hv1 ⊢
     have S1 := h_ (St'.out.fresh hkp)
     obtain ⟨cs, hcs⟩ : ∃ cs, ownL ns l0 = cs := ⟨_, rfl⟩
     have hgood0 := ownL_good hns l0
     rw [hcs] at hrow hbnd hv1 hgood0 ⊢
     have hgood := h_ hgood0
     clear hgood0
     have EC : Hid (EntsOff wr B (.slice Av cs.length cv) cs) := h_ ⟨SliceAt.of_owns hrow, fun _ b hb => ⟨(hrow.lt b hb).2, fun e => by have := (hrow.lt b hb).1; have := St'.out.to_.store.lt (.inl e); omega⟩⟩
     have hH := H0'.out
     rw [hcs] at hH
     have hH' := h_ hH
     clear hH
     obtain ⟨we, hwe⟩ : ∃ we, wr.alloc (.cells #[] 58) = we := ⟨_, rfl⟩
     have ke : Kept (fun _ => False) wr we := by rw [← hwe]; exact (Kept.refl _ _).alloc _
     have S2 := h_ (S1.out.fresh ke)
     have EC2 := h_ (EC.out.fresh ke)
     have hfar : lB < wr.heap.size := (S1.out.ap lB (by simp)).lt
     have EN : Hid (ListAt lB we B (.slice (some ⟨wr.heap.size, 0, none⟩) 0 0) []) := h_ ⟨⟨sliceNil (Nat.zero_le _), fun h => absurd rfl h⟩, fun h => absurd rfl h⟩
     have hsz : lB < we.heap.size := Nat.lt_of_lt_of_le hfar ke.size
     have hwe' := h_ hwe
     have hcs' := h_ hcs
     clear hO hkp hrow ke hwe hcs
     have hLg : Hid (RisesK ([] : List (Int × Int)) ∧ ∀ y ∈ ([] : List (Int × Int)), 0 ≤ y.1 ∧ y.1 < 64) := h_ ⟨List.Pairwise.nil, fun y hy => by cases hy⟩
     have CA := diffApply S2.out.to_.store (-1) EC2.out (by omega) (by omega)
     rw [hH'.out, S2.out.to_.sb, hsb'.out] at CA
     have CA' : Hid (Calls Try.prog 15 #[.agg #[.pointer (some ⟨sb, 0, none⟩)], .int .i64 (-1), .slice Av cs.length cv] _ fun e w' => ∃ A', e = .returned (.tuple #[.int .i64 r0, .int .i64 0]) ∧ StoreTo B A' M1 _ w') := h_ CA
     have hld := h_ S2.out.load
     clear CA
     go_wp2_with (first | (rw [hwe'.out]; (refine wpList_load_agg 31 rfl rfl rfl _ Try.underlying31 rfl [.pointer (some ⟨sb, 0, none⟩)] (by kernel_rfl) hld.out ?_)) | (refine wpList_load_agg 31 rfl rfl rfl _ Try.underlying31 rfl [.pointer (some ⟨sb, 0, none⟩)] (by kernel_rfl) hld.out ?_))
     refine CA'.out.mono ?_
     rintro e wf ⟨B2, rfl, hT⟩
     have S3 := h_ (S2.out.to hne hT)
     have EC3 := h_ (EC2.out.to hT)
     have LI3 := h_ (EN.out.to hT)
     have hs3 : lB < wf.heap.size := (S3.out.ap lB (by simp)).lt
     have CB := h_ (ref12Apply LI3.out.off.at_ EC3.out.at_ hLg.out (by omega) (fun x hx => ⟨(hgood.out x hx).1, (hgood.out x hx).2.1⟩))
     clear hT hld
     go_wp2_with fail
     refine CB.out.mono ?_
     rintro e wg ⟨u, rfl, R⟩
     have S4 := h_ (S3.out.fresh R.kept)
     have LU := h_ (list_made S3.out.to_.store hs3 LI3.out R)
     obtain ⟨Au, cu, rfl, hu1, hu2⟩ := LU.out.off.at_.form
     have g9 := cell_of_heap S4.out.c9 0
     have f9 := free_of_heap S4.out.c9 0
     simp at g9
     have S5 := h_ (S4.out.roots hIn.out (o := 0) (v := .int .i64 r0) (s0 := r0) (s1 := (-1)) rfl)
     have g10 := cell_of_heap S5.out.c10 0
     have f10 := free_of_heap S5.out.c10 0
     simp at g10
     obtain ⟨wh, hwh⟩ : ∃ wh, (wg.setCell ⟨rB, 0, none⟩ (.int .i64 r0)).setCell ⟨lB, 0, none⟩ (.slice Au (cs.foldl chgL []).length cu) = wh := ⟨_, rfl⟩
     have kk1 : Kept (fun i => i = rB) wg (wg.setCell ⟨rB, 0, none⟩ (.int .i64 r0)) := Kept.setCell (S := fun i => i = rB) (Kept.refl _ _) rfl _
     have kk2 : Kept (fun i => i = lB) (wg.setCell ⟨rB, 0, none⟩ (.int .i64 r0)) wh := by rw [← hwh]; exact Kept.setCell (S := fun i => i = lB) (Kept.refl _ _) rfl _
     have hrl : rB ≤ lB := by have := hIn.out.ord; omega
     have fin : Hid (∃ B L0, TwoSt w A sb db lb rr lr rB lB (.slice A0 l0.length c0) (.slice A1 l1.length c1) (.slice Ap ns.length cp) ns l0 l1 r0 (-1) L0 (.slice none 0 0) wh B M1 ∧ ListAt lB wh B L0 ((ownL ns l0).foldl chgL [])) := h_ ⟨B2, _, by rw [← hwh]; exact S5.out.lists hIn.out rfl, by rw [hcs'.out]; exact (LU.out.apart kk1 hrl).apart kk2 (Nat.le_refl _)⟩
     have hwh' := h_ hwh
     clear R kk1 kk2 hwh
     go_wp2_with fail
     rw [hwh'.out]
     go_roundw
     case rel => exact .inr (.inl ⟨by first | rfl | go_num, fin⟩)
     case measure => simp [intOf] <;> omega
  ·obtain ⟨B, L0, St, hL0⟩ := hI.out
   obtain ⟨AL, cL, rfl, hL1, hL2⟩ := hL0.off.at_.form
   obtain ⟨LL, hLL⟩ : ∃ LL, (ownL ns l0).foldl chgL [] = LL := ⟨_, rfl⟩
   rw [hLL] at hL0 St hL1 ⊢
   have hL := h_ hL0
   have hLL' := h_ hLL
   clear hLL
   have St0 := h_ St
   have clj := cell_of_heap St.cl 1
   simp at clj
   have dl : decide ((70 : Int) < (l1.length : Int)) = false := decide_eq_false (by omega)
   obtain ⟨wo, hwo⟩ : ∃ wo, wr.alloc (.cells #[] 41) = wo := ⟨_, rfl⟩
   have O0 : Hid (OwnSt wr ns l1 0 (.slice (some ⟨wr.heap.size, 0, none⟩) 0 0) wo) := h_ ⟨by rw [← hwo]; exact (Kept.refl _ _).alloc _, by rw [List.take_zero, ← hwo]; exact owns_empty wr wr.heap.size wr.heap.size 41 2 (Nat.le_refl _) rfl⟩
   have hwo' := h_ hwo
   have clo := cell_of_heap (((Kept.refl (fun _ => False) wr).alloc (.cells #[] 41)).get St.cl id) 1
   simp at clo
   clear hwo St
   go_wp2_with fail
   rw [hwo'.out]
   obtain ⟨wz, hwz⟩ : ∃ u, wr = u := ⟨_, rfl⟩
   rw [hwz] at hI St0 clj O0 hwo' hL ⊢
   clear hwz hI
   have St' := St0
   go_loopw [12, 38] (fun v i wr => ∃ (k : Nat), k ≤ l1.length ∧ i = .int .i64 k ∧ Hid (OwnSt wz ns l1 k v wr)) (fun _ i _ => l1.length - (intOf i).toNat)
   case atStart => exact ⟨0, Nat.zero_le _, rfl, O0⟩
   case round =>
    obtain ⟨k, hk, rfl, hO⟩ := hrel
    obtain ⟨_, Av, cv, rfl, hv1, hv2, _⟩ := SliceAt.of_owns hO.out.row
    unfold maxLen at hv2
    have hbnd := ownL_len ns (l1.take k)
    have hlk : (l1.take k).length ≤ 70 := by rw [List.length_take]; omega
    by_cases hlt : k < l1.length
    ·obtain ⟨x, hx⟩ : ∃ x, l1[k]? = some x := ⟨_, List.getElem?_eq_getElem hlt⟩
     obtain ⟨xk, xp⟩ := x
     have St := St'.out.fresh hO.out.kept
     obtain ⟨eb, eo, hA1, heb, hx0, hx1⟩ := St.e1.at_.get hx
     have hki : (k : Int) < (l1.length : Int) := by omega
     have hown := ownL_step (ns := ns) hx
     have hlo : Hid (∀ i v, [Value.int .i64 xk, .int .i64 xp][i]? = some v → wr.cell? ⟨eb, eo + k * 2 + i, none⟩ = some v) := h_ (fun i v hi => by
      match i, hi with
      | 0, hi => cases hi; exact hx0
      | 1, hi => cases hi; exact hx1)
     obtain ⟨xb, hxb⟩ : ∃ xb, wr.heap.size = xb := ⟨_, rfl⟩
     obtain ⟨wx, hwx⟩ : ∃ wx, (wr.alloc (.cells #[.int .i64 0, .int .i64 0] 41)).setRow xb #[.int .i64 xk, .int .i64 xp] = wx := ⟨_, rfl⟩
     have kx : Kept (fun _ => False) wr wx := by rw [← hwx]; exact ((Kept.refl _ _).alloc _).setRowNew (by omega) _
     have qx : wx.heap[xb]? = some (.cells #[.int .i64 xk, .int .i64 xp] 41 (0, 0)) := by rw [← hwx, ← hxb]; exact setRow_heap _ _ _ _ _ _ (heap_alloc_new _ _)
     have cx0 := cell_of_heap qx 0
     have cx1 := cell_of_heap qx 1
     simp at cx0 cx1
     have Ox := h_ (hO.out.fresh kx)
     have hxn : Hid (wz.heap.size ≤ xb) := h_ (by have := hO.out.kept.size; omega)
     have hxb' := h_ hxb
     have hwx' := h_ hwx
     by_cases h0 : 0 ≤ xk
     ·have d0 : decide (0 ≤ xk) = true := decide_eq_true h0
      by_cases h1 : xk < 64
      ·have d1 : decide (xk < 64) = true := decide_eq_true h1
       by_cases hm : xp = -1
       ·subst hm
        have hfin : Hid (ownL ns (l1.take (k + 1)) = ownL ns (l1.take k) ++ [(xk, -1)]) := h_ (by rw [hown, ownC_none h0 h1])
        have hlx : Hid (∀ i v, [Value.int .i64 xk, .int .i64 (-1)][i]? = some v → wx.cell? ⟨xb, 0 + i, none⟩ = some v) := h_ (fun i v hi => by rw [cell_of_heap qx, Nat.zero_add]; simpa using hi)
        subst hA1
        clear hx hx0 hx1 hO St hown kx qx hxb hwx heb
        go_wp2_with (first | (refine wpList_load_agg 41 rfl rfl rfl _ Try.underlying41 rfl [.int .i64 xk, .int .i64 (-1)] (by kernel_rfl) hlo.out ?_) | (refine wpList_load_agg 41 rfl rfl rfl _ Try.underlying41 rfl [.int .i64 xk, .int .i64 (-1)] (by kernel_rfl) hlx.out ?_) | (refine wpList_alloc_as 41 rfl rfl #[.int .i64 0, .int .i64 0] (by kernel_rfl) ?_; rw [hxb'.out]) | (refine wpList_store_whole 41 rfl rfl rfl [.int .i64 xk, .int .i64 (-1)] rfl (by kernel_rfl) 41 #[.int .i64 0, .int .i64 0] (by rw [← hxb'.out]; exact heap_alloc_new _ _) rfl (by intro c hc; simp at hc; rcases hc with rfl | rfl <;> rfl) ?_; rw [hwx'.out]) | (at_builtin; refine wpList_append_src rfl elemChange (.tmp 61) (.tmp 63) rfl (by rfl) (by rfl) (ownsRow.keptOf Ox.out.row ((Kept.refl (fun _ => False) wx).alloc _) (fun _ _ => id)) (SliceAt.block_new (ys := [.int .i64 xk, .int .i64 (-1)]) (m := 1) (heap_alloc_new _ _) rfl (by decide)) (by intro c hc; simp at hc; rcases hc with rfl | rfl <;> rfl) (by omega) (by omega) (Nat.le_trans Ox.out.kept.size ((Kept.refl (fun _ => False) _).alloc _).size) ?_; intro v7 w7 hown7 hg7 hat7))
        have fin : Hid (OwnSt wz ns l1 (k + 1) v7 w7) := h_ (Ox.out.more ((Kept.refl (fun _ => False) wx).alloc _) hfin.out hown7 hg7)
        clear hown7 hg7 hat7
        go_wp2_with fail
        go_roundw
        case rel => exact ⟨k + 1, by omega, by go_num, fin⟩
        case measure => simp [intOf] <;> omega
       ·have hb : (xp == -1) = false := by simp [hm]
        have hb2 : (xp != -1) = true := by simp [hm]
        obtain ⟨q, hq⟩ : ∃ q, clampQ xp = q := ⟨_, rfl⟩
        have hq4 : q < ns.length := by rw [hns, ← hq]; unfold clampQ; omega
        have hqc : max 0 (min xp 3) = (q : Int) := by rw [← hq]; unfold clampQ; omega
        obtain ⟨p, hp⟩ : ∃ p, ns[q]? = some p := ⟨_, List.getElem?_eq_getElem hq4⟩
        obtain ⟨pb, po, hAp, hpb, hcp⟩ := PagesAt.get (St.pg.fresh kx) hp
        have hfin : Hid (ownL ns (l1.take (k + 1)) = ownL ns (l1.take k) ++ [(xk, (p : Int))]) := h_ (by rw [hown, ownC_some h0 h1 hm (by rw [hq]; exact hp)])
        have hq3 : (q : Int) < 4 := by omega
        have fx := free_of_heap qx 1
        obtain ⟨wy, hwy⟩ : ∃ wy, wx.setCell ⟨xb, 1, none⟩ (.int .i64 (p : Int)) = wy := ⟨_, rfl⟩
        have ky : Kept (fun j => j = xb) wx wy := by rw [← hwy]; exact Kept.setCell (S := fun j => j = xb) (Kept.refl _ _) rfl _
        have qy : wy.heap[xb]? = some (.cells #[.int .i64 xk, .int .i64 (p : Int)] 41 (0, 0)) := by rw [← hwy, heap_setCell_same qx]; rfl
        have hly : Hid (∀ i v, [Value.int .i64 xk, .int .i64 (p : Int)][i]? = some v → wy.cell? ⟨xb, 0 + i, none⟩ = some v) := h_ (fun i v hi => by rw [cell_of_heap qy, Nat.zero_add]; simpa using hi)
        have Oy := h_ (hO.out.later kx ky (by omega) hxn.out)
        have hwy' := h_ hwy
        subst hA1 hAp
        clear hx hx0 hx1 hO St hown kx qx hxb hwx heb ky qy hwy hp hq hq4 hpb h0 h1 hm
        go_wp2_with (first | (refine wpList_load_agg 41 rfl rfl rfl _ Try.underlying41 rfl [.int .i64 xk, .int .i64 xp] (by kernel_rfl) hlo.out ?_) | (refine wpList_load_agg 41 rfl rfl rfl _ Try.underlying41 rfl [.int .i64 xk, .int .i64 (p : Int)] (by kernel_rfl) hly.out ?_) | (refine wpList_alloc_as 41 rfl rfl #[.int .i64 0, .int .i64 0] (by kernel_rfl) ?_; rw [hxb'.out]) | (refine wpList_store_whole 41 rfl rfl rfl [.int .i64 xk, .int .i64 xp] rfl (by kernel_rfl) 41 #[.int .i64 0, .int .i64 0] (by rw [← hxb'.out]; exact heap_alloc_new _ _) rfl (by intro c hc; simp at hc; rcases hc with rfl | rfl <;> rfl) ?_; rw [hwx'.out]) | (rw [hwy'.out]; refine wpList_load_agg 41 rfl rfl rfl _ Try.underlying41 rfl [.int .i64 xk, .int .i64 (p : Int)] (by kernel_rfl) hly.out ?_) | (at_builtin; refine wpList_append_src rfl elemChange (.tmp 61) (.tmp 63) rfl (by rfl) (by rfl) (ownsRow.keptOf Oy.out.row ((Kept.refl (fun _ => False) wy).alloc _) (fun _ _ => id)) (SliceAt.block_new (ys := [.int .i64 xk, .int .i64 (p : Int)]) (m := 1) (heap_alloc_new _ _) rfl (by decide)) (by intro c hc; simp at hc; rcases hc with rfl | rfl <;> rfl) (by omega) (by omega) (Nat.le_trans Oy.out.kept.size ((Kept.refl (fun _ => False) _).alloc _).size) ?_; intro v7 w7 hown7 hg7 hat7))
        have fin : Hid (OwnSt wz ns l1 (k + 1) v7 w7) := h_ (Oy.out.more ((Kept.refl (fun _ => False) wy).alloc _) hfin.out hown7 hg7)
        clear hown7 hg7 hat7
        go_wp2_with fail
        go_roundw
        case rel => exact ⟨k + 1, by omega, by go_num, fin⟩
        case measure => simp [intOf] <;> omega
      ·have d1 : decide (xk < 64) = false := decide_eq_false h1
       have fin : Hid (OwnSt wz ns l1 (k + 1) (.slice Av (ownL ns (l1.take k)).length cv) wx) := h_ (Ox.out.skip (by rw [hown, ownC_skip (by omega)]))
       subst hA1
       clear hx hx0 hx1 hO St hown kx qx hxb hwx heb
       go_wp2_with (first | (refine wpList_load_agg 41 rfl rfl rfl _ Try.underlying41 rfl [.int .i64 xk, .int .i64 xp] (by kernel_rfl) hlo.out ?_) | (refine wpList_alloc_as 41 rfl rfl #[.int .i64 0, .int .i64 0] (by kernel_rfl) ?_; rw [hxb'.out]) | (refine wpList_store_whole 41 rfl rfl rfl [.int .i64 xk, .int .i64 xp] rfl (by kernel_rfl) 41 #[.int .i64 0, .int .i64 0] (by rw [← hxb'.out]; exact heap_alloc_new _ _) rfl (by intro c hc; simp at hc; rcases hc with rfl | rfl <;> rfl) ?_; rw [hwx'.out]))
       go_roundw
       case rel => exact ⟨k + 1, by omega, by go_num, fin⟩
       case measure => simp [intOf] <;> omega
     ·have d0 : decide (0 ≤ xk) = false := decide_eq_false h0
      have fin : Hid (OwnSt wz ns l1 (k + 1) (.slice Av (ownL ns (l1.take k)).length cv) wx) := h_ (Ox.out.skip (by rw [hown, ownC_skip (by omega)]))
      subst hA1
      clear hx hx0 hx1 hO St hown kx qx hxb hwx heb
      go_wp2_with (first | (refine wpList_load_agg 41 rfl rfl rfl _ Try.underlying41 rfl [.int .i64 xk, .int .i64 xp] (by kernel_rfl) hlo.out ?_) | (refine wpList_alloc_as 41 rfl rfl #[.int .i64 0, .int .i64 0] (by kernel_rfl) ?_; rw [hxb'.out]) | (refine wpList_store_whole 41 rfl rfl rfl [.int .i64 xk, .int .i64 xp] rfl (by kernel_rfl) 41 #[.int .i64 0, .int .i64 0] (by rw [← hxb'.out]; exact heap_alloc_new _ _) rfl (by intro c hc; simp at hc; rcases hc with rfl | rfl <;> rfl) ?_; rw [hwx'.out]))
      go_roundw
      case rel => exact ⟨k + 1, by omega, by go_num, fin⟩
      case measure => simp [intOf] <;> omega
    ·obtain rfl : k = l1.length := by omega
     have hki : decide ((l1.length : Int) < (l1.length : Int)) = false := decide_eq_false (by omega)
     have hrow := hO.out.row
     have hkp := hO.out.kept
     rw [List.take_length] at hrow hbnd hv1 ⊢
     have S1 := h_ (St'.out.fresh hkp)
     obtain ⟨cs, hcs⟩ : ∃ cs, ownL ns l1 = cs := ⟨_, rfl⟩
     have hgood0 := ownL_good hns l1
     rw [hcs] at hrow hbnd hv1 hgood0 ⊢
     have hgood := h_ hgood0
     clear hgood0
     have EC : Hid (EntsOff wr B (.slice Av cs.length cv) cs) := h_ ⟨SliceAt.of_owns hrow, fun _ b hb => ⟨(hrow.lt b hb).2, fun e => by have := (hrow.lt b hb).1; have := St'.out.to_.store.lt (.inl e); omega⟩⟩
     have hH := H1'.out
     rw [hcs] at hH
     have hH' := h_ hH
     clear hH
     obtain ⟨we, hwe⟩ : ∃ we, wr.alloc (.cells #[] 58) = we := ⟨_, rfl⟩
     have ke : Kept (fun _ => False) wr we := by rw [← hwe]; exact (Kept.refl _ _).alloc _
     have S2 := h_ (S1.out.fresh ke)
     have EC2 := h_ (EC.out.fresh ke)
     have hfar : lB < wr.heap.size := (S1.out.ap lB (by simp)).lt
     have EN : Hid (ListAt lB we B (.slice (some ⟨wr.heap.size, 0, none⟩) 0 0) []) := h_ ⟨⟨sliceNil (Nat.zero_le _), fun h => absurd rfl h⟩, fun h => absurd rfl h⟩
     have hsz : lB < we.heap.size := Nat.lt_of_lt_of_le hfar ke.size
     have hwe' := h_ hwe
     have hcs' := h_ hcs
     have hL2' := h_ ((hL.out.fresh hkp).fresh ke)
     clear hO hkp hrow ke hwe hcs
     have hLg0 := chgs_good (ownL ns l0) (l := []) ⟨List.Pairwise.nil, fun y hy => by cases hy⟩ (fun x hx => ⟨(ownL_good hns l0 x hx).1, (ownL_good hns l0 x hx).2.1⟩)
     rw [hLL'.out] at hLg0
     have hLg := h_ hLg0
     clear hLg0
     have c20 := cell_of_heap (((Kept.refl (fun _ => False) wr).alloc (.cells #[] 58)).get S1.out.c9 id) 0
     have c21 := cell_of_heap (((Kept.refl (fun _ => False) wr).alloc (.cells #[] 58)).get S1.out.c10 id) 0
     have c22 := cell_of_heap (((Kept.refl (fun _ => False) wr).alloc (.cells #[] 58)).get S1.out.cd id) 0
     simp at c20 c21 c22
     by_cases hr : r0 = -1
     ·have Hh := Hh'.out
      clear Hh'
      subst hr
      rw [if_pos rfl] at Hh
      have hM : M1 = M1h := congrArg Prod.fst Hh
      subst hM
      clear Hh
      have CA := diffApply S2.out.to_.store (-1) EC2.out (by omega) (by omega)
      rw [hH'.out, S2.out.to_.sb, hsb'.out] at CA
      have CA' : Hid (Calls Try.prog 15 #[.agg #[.pointer (some ⟨sb, 0, none⟩)], .int .i64 (-1), .slice Av cs.length cv] _ fun e w' => ∃ A', e = .returned (.tuple #[.int .i64 r1, .int .i64 0]) ∧ StoreTo B A' M2 _ w') := h_ CA
      have hld := h_ S2.out.load
      clear CA
      go_wp2_with (first | (rw [hwe'.out]; (refine wpList_load_agg 31 rfl rfl rfl _ Try.underlying31 rfl [.pointer (some ⟨sb, 0, none⟩)] (by kernel_rfl) hld.out ?_)) | (refine wpList_load_agg 31 rfl rfl rfl _ Try.underlying31 rfl [.pointer (some ⟨sb, 0, none⟩)] (by kernel_rfl) hld.out ?_))
      refine CA'.out.mono ?_
      rintro e wf ⟨B2, rfl, hT⟩
      have S3 := h_ (S2.out.to hne hT)
      have EC3 := h_ (EC2.out.to hT)
      have LI3 := h_ (hL2'.out.to hT)
      have hs3 : lB < wf.heap.size := (S3.out.ap lB (by simp)).lt
      have CB := h_ (ref12Apply LI3.out.off.at_ EC3.out.at_ hLg.out (by omega) (fun x hx => ⟨(hgood.out x hx).1, (hgood.out x hx).2.1⟩))
      clear hT hld
      go_wp2_with fail
      refine CB.out.mono ?_
      rintro e wg ⟨u, rfl, R⟩
      have S4 := h_ (S3.out.fresh R.kept)
      have LU := h_ (list_made S3.out.to_.store hs3 LI3.out R)
      obtain ⟨Au, cu, rfl, hu1, hu2⟩ := LU.out.off.at_.form
      have LK := h_ (LI3.out.fresh R.kept)
      have g9 := cell_of_heap S4.out.c9 1
      have f9 := free_of_heap S4.out.c9 1
      simp at g9
      have S5 := h_ (S4.out.roots hIn.out (o := 1) (v := .int .i64 r1) (s0 := (-1)) (s1 := r1) rfl)
      have g10 := cell_of_heap S5.out.c10 1
      have f10 := free_of_heap S5.out.c10 1
      simp at g10
      obtain ⟨wh, hwh⟩ : ∃ wh, (wg.setCell ⟨rB, 1, none⟩ (.int .i64 r1)).setCell ⟨lB, 1, none⟩ (.slice Au (cs.foldl chgL LL).length cu) = wh := ⟨_, rfl⟩
      have kk1 : Kept (fun i => i = rB) wg (wg.setCell ⟨rB, 1, none⟩ (.int .i64 r1)) := Kept.setCell (S := fun i => i = rB) (Kept.refl _ _) rfl _
      have kk2 : Kept (fun i => i = lB) (wg.setCell ⟨rB, 1, none⟩ (.int .i64 r1)) wh := by rw [← hwh]; exact Kept.setCell (S := fun i => i = lB) (Kept.refl _ _) rfl _
      have hrl : rB ≤ lB := by have := hIn.out.ord; omega
      have fin : Hid (∃ B L0 L1, TwoSt w A sb db lb rr lr rB lB (.slice A0 l0.length c0) (.slice A1 l1.length c1) (.slice Ap ns.length cp) ns l0 l1 (-1) r1 L0 L1 wh B M2 ∧ ListAt lB wh B L0 LL ∧ ListAt lB wh B L1 ((ownL ns l1).foldl chgL LL)) := h_ ⟨B2, _, _, by rw [← hwh]; exact S5.out.lists hIn.out rfl, (LK.out.apart kk1 hrl).apart kk2 (Nat.le_refl _), by rw [hcs'.out]; exact (LU.out.apart kk1 hrl).apart kk2 (Nat.le_refl _)⟩
      have hwh' := h_ hwh
      clear R kk1 kk2 hwh
      go_wp2_with fail
      rw [hwh'.out]
      go_roundw
      case rel => exact .inr (.inr ⟨by first | rfl | go_num, fin⟩)
      case measure => simp [intOf] <;> omega
     ·have Hh := Hh'.out
      rw [if_neg hr] at Hh
      have hb : (r0 == -1) = false := by simp [hr]
      have hb2 : (r0 != -1) = true := by simp [hr]
      have CH := storeHold S2.out.to_.store r0
      rw [Hh, S2.out.to_.sb, hsb'.out] at CH
      clear Hh
      have CH' : Hid (Calls Try.prog 14 #[.pointer (some ⟨sb, 0, none⟩), .int .i64 r0] we fun e w' => e = .returned (.int .i64 0) ∧ StoreTo B B M1h we w') := h_ CH
      clear CH
      go_wp2_with fail
      rw [hwe'.out]
      refine CH'.out.mono ?_
      rintro e wq ⟨rfl, hTh⟩
      have S2b := h_ (S2.out.to hne hTh)
      have EC2b := h_ (EC2.out.to hTh)
      have LSb := h_ (hL2'.out.to hTh)
      clear hTh
      have CA := diffApply S2b.out.to_.store r0 EC2b.out (by omega) (by omega)
      rw [hH'.out, S2b.out.to_.sb, hsb'.out] at CA
      have CA' : Hid (Calls Try.prog 15 #[.agg #[.pointer (some ⟨sb, 0, none⟩)], .int .i64 r0, .slice Av cs.length cv] _ fun e w' => ∃ A', e = .returned (.tuple #[.int .i64 r1, .int .i64 0]) ∧ StoreTo B A' M2 _ w') := h_ CA
      have hld := h_ S2b.out.load
      clear CA
      go_wp2_with (first | (rw [hwe'.out]; (refine wpList_load_agg 31 rfl rfl rfl _ Try.underlying31 rfl [.pointer (some ⟨sb, 0, none⟩)] (by kernel_rfl) hld.out ?_)) | (refine wpList_load_agg 31 rfl rfl rfl _ Try.underlying31 rfl [.pointer (some ⟨sb, 0, none⟩)] (by kernel_rfl) hld.out ?_))
      refine CA'.out.mono ?_
      rintro e wf ⟨B2, rfl, hT⟩
      have S3 := h_ (S2b.out.to hne hT)
      have EC3 := h_ (EC2b.out.to hT)
      have LI3 := h_ (LSb.out.to hT)
      have hs3 : lB < wf.heap.size := (S3.out.ap lB (by simp)).lt
      have CB := h_ (ref12Apply LI3.out.off.at_ EC3.out.at_ hLg.out (by omega) (fun x hx => ⟨(hgood.out x hx).1, (hgood.out x hx).2.1⟩))
      clear hT hld
      go_wp2_with fail
      refine CB.out.mono ?_
      rintro e wg ⟨u, rfl, R⟩
      have S4 := h_ (S3.out.fresh R.kept)
      have LU := h_ (list_made S3.out.to_.store hs3 LI3.out R)
      obtain ⟨Au, cu, rfl, hu1, hu2⟩ := LU.out.off.at_.form
      have LK := h_ (LI3.out.fresh R.kept)
      have g9 := cell_of_heap S4.out.c9 1
      have f9 := free_of_heap S4.out.c9 1
      simp at g9
      have S5 := h_ (S4.out.roots hIn.out (o := 1) (v := .int .i64 r1) (s0 := r0) (s1 := r1) rfl)
      have g10 := cell_of_heap S5.out.c10 1
      have f10 := free_of_heap S5.out.c10 1
      simp at g10
      obtain ⟨wh, hwh⟩ : ∃ wh, (wg.setCell ⟨rB, 1, none⟩ (.int .i64 r1)).setCell ⟨lB, 1, none⟩ (.slice Au (cs.foldl chgL LL).length cu) = wh := ⟨_, rfl⟩
      have kk1 : Kept (fun i => i = rB) wg (wg.setCell ⟨rB, 1, none⟩ (.int .i64 r1)) := Kept.setCell (S := fun i => i = rB) (Kept.refl _ _) rfl _
      have kk2 : Kept (fun i => i = lB) (wg.setCell ⟨rB, 1, none⟩ (.int .i64 r1)) wh := by rw [← hwh]; exact Kept.setCell (S := fun i => i = lB) (Kept.refl _ _) rfl _
      have hrl : rB ≤ lB := by have := hIn.out.ord; omega
      have fin : Hid (∃ B L0 L1, TwoSt w A sb db lb rr lr rB lB (.slice A0 l0.length c0) (.slice A1 l1.length c1) (.slice Ap ns.length cp) ns l0 l1 r0 r1 L0 L1 wh B M2 ∧ ListAt lB wh B L0 LL ∧ ListAt lB wh B L1 ((ownL ns l1).foldl chgL LL)) := h_ ⟨B2, _, _, by rw [← hwh]; exact S5.out.lists hIn.out rfl, (LK.out.apart kk1 hrl).apart kk2 (Nat.le_refl _), by rw [hcs'.out]; exact (LU.out.apart kk1 hrl).apart kk2 (Nat.le_refl _)⟩
      have hwh' := h_ hwh
      clear R kk1 kk2 hwh
      go_wp2_with fail
      rw [hwh'.out]
      go_roundw
      case rel => exact .inr (.inr ⟨by first | rfl | go_num, fin⟩)
      case measure => simp [intOf] <;> omega
  ·obtain ⟨B, L0, L1, St, E0, E1⟩ := hI.out
   obtain ⟨AL, cL, rfl, hL1, hL2⟩ := E0.off.at_.form
   obtain ⟨AK, cK, rfl, hK1, hK2⟩ := E1.off.at_.form
   have S := h_ St
   have F0 := h_ E0
   have F1 := h_ E1
   obtain ⟨La, hLa⟩ : ∃ z, (ownL ns l0).foldl chgL [] = z := ⟨_, rfl⟩
   obtain ⟨Lb, hLb⟩ : ∃ z, (ownL ns l1).foldl chgL ((ownL ns l0).foldl chgL []) = z := ⟨_, rfl⟩
   rw [hLb] at F1 S ⊢
   rw [hLa] at F0 S ⊢
   have Sd := h_ (S.out.fresh (Kept.refl _ _).drew)
   have G0 := h_ (F0.out.fresh (Kept.refl (fun _ => False) wr).drew)
   have G1 := h_ (F1.out.fresh (Kept.refl (fun _ => False) wr).drew)
   obtain ⟨o1, o2, o3, o4, o5, o6⟩ := hIn.out.ord
   have hLa' := h_ hLa
   have hLb' := h_ hLb
   clear hI St E0 E1 hLa hLb
   go_wp2_with fail
   refine wp_region_held_drew (S := fun W => W.heap[rB]? = some (.cells #[.int .i64 r0, .int .i64 r1] 35 (0, 0)) ∧ W.heap[lB]? = some (.cells #[.slice AL La.length cL, .slice AK Lb.length cK] 37 (0, 0))) (by kernel_rfl) ⟨Sd.out.c9, Sd.out.c10⟩ (fun hS => ?_)
   refine wpAnyH_take (i := 0) (v := .agg #[.int .i64 r0, .int .i64 r1]) rfl (by kernel_rfl) (by kernel_rfl) (by kernel_rfl) (fun _ _ _ h => h) (Or.inl ⟨by rfl, fun W hW => exec_load_agg rfl (by rfl) [.int .i64 r0, .int .i64 r1] Try.underlying35 rfl (by kernel_rfl) (fun j v hj => by rw [Nat.zero_add, cell_of_heap hW.1]; simpa using hj)⟩) (by assumption) ?_
   simp only [Act.put, q1_, q2_, q3_, List.setIfInBounds_toArray, q5_, q6_]
   refine wpAnyH_take (i := 1) (v := .agg #[.slice AL La.length cL, .slice AK Lb.length cK]) rfl (by kernel_rfl) (by kernel_rfl) (by kernel_rfl) (fun _ _ _ h => h) (Or.inl ⟨by rfl, fun W hW => exec_load_agg rfl (by rfl) [.slice AL La.length cL, .slice AK Lb.length cK] Try.underlying37 rfl (by kernel_rfl) (fun j v hj => by rw [Nat.zero_add, cell_of_heap hW.2]; simpa using hj)⟩) (by assumption) ?_
   simp only [Act.put, q1_, q2_, q3_, List.setIfInBounds_toArray, q5_, q6_]
   refine wpAnyH_ready (rs := [2]) (by kernel_rfl) (by simp) ?_
   refine AllReadyH.cons rfl (fun K hK => ?_) AllReadyH.nil
   have k1 : Kept (fun j => j = rr) wr.drew (wr.drew.setRow rr #[.int .i64 r0, .int .i64 r1]) := Kept.setRow (S := fun j => j = rr) (Kept.refl _ _) rfl _
   refine step_store_whole 35 rfl rfl (g := rr) (by rfl) [.int .i64 r0, .int .i64 r1] rfl (by kernel_rfl) 35 #[.int .i64 0, .int .i64 0] Sd.out.c6 rfl (by intro c hc; simp at hc; rcases hc with rfl | rfl <;> rfl) ?_
   refine hK.out _ _ ⟨k1.get hS.1 (by omega), k1.get hS.2 (by omega)⟩ (fun hS2 => ?_)
   clear hK K
   try simp only [Act.put, q1_, q2_, q3_, List.setIfInBounds_toArray, q5_, q6_]
   have h2 := k1.get Sd.out.c7 (by omega)
   have h1 : (wr.drew.setRow rr #[.int .i64 r0, .int .i64 r1]).heap[rr]? = some (.cells #[.int .i64 r0, .int .i64 r1] _ (0, 0)) := setRow_heap _ _ _ _ _ _ Sd.out.c6
   have k2 : Kept (fun j => j = lr) (wr.drew.setRow rr #[.int .i64 r0, .int .i64 r1]) ((wr.drew.setRow rr #[.int .i64 r0, .int .i64 r1]).setRow lr #[.slice AL La.length cL, .slice AK Lb.length cK]) := Kept.setRow (S := fun j => j = lr) (Kept.refl _ _) rfl _
   have g1 := k2.get h1 (by omega)
   have g2 : ((wr.drew.setRow rr #[.int .i64 r0, .int .i64 r1]).setRow lr #[.slice AL La.length cL, .slice AK Lb.length cK]).heap[lr]? = some (.cells #[.slice AL La.length cL, .slice AK Lb.length cK] _ (0, 0)) := setRow_heap _ _ _ _ _ _ h2
   have ap : ∀ c ∈ [db, lb, rr, lr, rB, lB], ¬ B.own c := fun c hc => (Sd.out.ap c hc).off
   have fin : Hid (StoreTo A B M2 w ((wr.drew.setRow rr #[.int .i64 r0, .int .i64 r1]).setRow lr #[.slice AL La.length cL, .slice AK Lb.length cK]) ∧ EntsOff ((wr.drew.setRow rr #[.int .i64 r0, .int .i64 r1]).setRow lr #[.slice AL La.length cL, .slice AK Lb.length cK]) B (.slice AL La.length cL) La ∧ EntsOff ((wr.drew.setRow rr #[.int .i64 r0, .int .i64 r1]).setRow lr #[.slice AL La.length cL, .slice AK Lb.length cK]) B (.slice AK Lb.length cK) Lb) := h_ ⟨(Sd.out.to_.apart k1 (ap rr (by simp)) (by omega)).apart k2 (ap lr (by simp)) (by omega), ((G0.out.apart k1 (by omega)).apart k2 (by omega)).off, ((G1.out.apart k1 (by omega)).apart k2 (by omega)).off⟩
   refine wpAnyH_ready (rs := [3]) (by kernel_rfl) (by simp) ?_
   refine AllReadyH.cons rfl (fun K hK => ?_) ?_
   ·refine step_store_whole 37 rfl rfl (g := lr) (by rfl) [.slice AL La.length cL, .slice AK Lb.length cK] rfl (by kernel_rfl) 37 #[.slice none 0 0, .slice none 0 0] h2 rfl (by intro c hc; simp at hc; rcases hc with rfl | rfl <;> rfl) ?_
    refine hK.out _ _ ⟨k2.get hS2.1 (by omega), k2.get hS2.2 (by omega)⟩ (fun hS3 => ?_)
    clear hK K
    try simp only [Act.put, q1_, q2_, q3_, List.setIfInBounds_toArray, q5_, q6_]
    refine wpAnyH_take (i := 4) (v := .bool true) rfl (by kernel_rfl) (by kernel_rfl) (by kernel_rfl) (fun _ _ _ h => h) (Or.inl ⟨by rfl, fun W hW => by go_simp⟩) (by assumption) ?_
    simp only [Act.put, q1_, q2_, q3_, List.setIfInBounds_toArray, q5_, q6_]
    refine wpAnyH_done (by kernel_rfl) ?_ _
    clear hS hS2 hS3 k1 k2 h1 h2
    go_wp2_with fail
    refine bodyPost_ret (results_two rfl _ _ rr lr 35 37 #[.int .i64 r0, .int .i64 r1] #[.slice AL La.length cL, .slice AK Lb.length cK] (0, 0) (0, 0) _ _ rfl g1 Try.underlying35 rfl (by kernel_rfl) rfl g2 Try.underlying37 rfl (by kernel_rfl)) rfl ?_
    exact ⟨B, _, _, rfl, by rw [hLb'.out, hLa'.out]; exact fin.out⟩
   exact AllReadyH.nil
theorem change_logS (M : SM) (root : Int) (x : Int × Int) : (M.change root x).1.log.length ≤ M.log.length + 22 := by
 have h1 : (M.one root x).1.log.length ≤ M.log.length + 22 := by
  unfold SM.one
  split
  ·have := cut_logZ M root x.1
   show (M.cut root x.1).1.log.length ≤ _
   omega
  ·exact put_log M root x.1 x.2
 unfold SM.change
 dsimp only
 split
 ·split
  ·show ((M.one root x).1.swap root (M.one root x).2.1).1.log.length ≤ _
   rw [swap_log]; exact h1
  ·show ((M.one root x).1.swap root (M.one root x).2.1).1.log.length ≤ _
   rw [swap_log]; exact h1
 ·exact h1
theorem changes_logS : ∀ (cs : List (Int × Int)) (M : SM) (root : Int), (SM.changes cs M root).1.log.length ≤ M.log.length + 22 * cs.length
 | [], _, _ => Nat.le_refl _
 | x :: cs, M, root => by
  have h1 := change_logS M root x
  unfold SM.changes
  rw [List.length_cons]
  split
  ·have h2 := changes_logS cs (M.change root x).1 (M.change root x).2.1
   omega
  ·omega
structure ListOk (l : List (Int × Int)) : Prop where
 rises : RisesK l
 keys : ∀ y ∈ l, 0 ≤ y.1 ∧ y.1 < 64
 pages : ∀ y ∈ l, 0 ≤ y.2
theorem rises_eq : ∀ {a b : List (Int × Int)}, RisesK a → RisesK b → (∀ y, y ∈ a ↔ y ∈ b) → a = b
 | [], [], _, _, _ => rfl
 | [], y :: b, _, _, h => by have := (h y).2 (List.mem_cons_self ..); cases this
 | x :: a, [], _, _, h => by have := (h x).1 (List.mem_cons_self ..); cases this
 | x :: a, y :: b, ha, hb, h => by
  have ha' := List.pairwise_cons.1 ha
  have hb' := List.pairwise_cons.1 hb
  have hxy : x = y := by
   rcases List.mem_cons.1 ((h x).1 (List.mem_cons_self ..)) with e | hx
   ·exact e
   ·rcases List.mem_cons.1 ((h y).2 (List.mem_cons_self ..)) with e | hy
    ·exact e.symm
    ·have h1 := hb'.1 x hx
     have h2 := ha'.1 y hy
     omega
  subst hxy
  have : a = b := rises_eq ha'.2 hb'.2 (fun z => by
   constructor
   ·intro hz
    rcases List.mem_cons.1 ((h z).1 (List.mem_cons_of_mem _ hz)) with e | hz'
    ·have := ha'.1 z hz
     rw [e] at this
     omega
    ·exact hz'
   ·intro hz
    rcases List.mem_cons.1 ((h z).2 (List.mem_cons_of_mem _ hz)) with e | hz'
    ·have := hb'.1 z hz
     rw [e] at this
     omega
    ·exact hz')
  rw [this]
theorem list_ext {a b : List (Int × Int)} (ha : ListOk a) (hb : ListOk b) (h : ∀ k, 0 ≤ k → k < 64 → findL a k = findL b k) : a = b := by
 have sub : ∀ {a b : List (Int × Int)}, ListOk a → ListOk b → (∀ k, 0 ≤ k → k < 64 → findL a k = findL b k) → ∀ y ∈ a, y ∈ b := fun {a b} ha hb h y hy => by
  have h1 := findL_mem ha.rises hy
  have hk := ha.keys y hy
  have hp := ha.pages y hy
  have h2 := h y.1 hk.1 hk.2
  have h3 : findL b y.1 ≠ -1 := by omega
  have h4 := findL_pos h3
  rw [← h2, h1] at h4
  exact h4
 exact rises_eq ha.rises hb.rises (fun y => ⟨sub ha hb h y, sub hb ha (fun k k0 k1 => (h k k0 k1).symm) y⟩)
theorem chgL_mem {l : List (Int × Int)} {c y : Int × Int} : y ∈ chgL l c ↔ (y.1 ≠ c.1 ∧ y ∈ l) ∨ (c.2 ≠ -1 ∧ y = c) := by
 unfold chgL
 split
 ·rename_i h
  unfold cutL
  rw [List.mem_filter]
  simp only [decide_eq_true_eq, ne_eq, h, not_true_eq_false, false_and, or_false]
  exact And.comm
 ·rename_i h
  unfold putL
  simp only [List.mem_append, List.mem_singleton, List.mem_filter, decide_eq_true_eq, ne_eq, h, not_false_eq_true, true_and]
  constructor
  ·rintro ((⟨h1, h2⟩ | h1) | ⟨h1, h2⟩)
   ·exact .inl ⟨by omega, h1⟩
   ·exact .inr h1
   ·exact .inl ⟨by omega, h1⟩
  ·rintro (⟨h1, h2⟩ | h1)
   ·by_cases h3 : y.1 < c.1
    ·exact .inl (.inl ⟨h2, h3⟩)
    ·exact .inr ⟨h2, by omega⟩
   ·exact .inl (.inr h1)
theorem ListOk.chg {l : List (Int × Int)} (h : ListOk l) {c : Int × Int} (k0 : 0 ≤ c.1) (k1 : c.1 < 64) (hp : c.2 = -1 ∨ 0 ≤ c.2) : ListOk (chgL l c) := by
 have h1 := chgL_good ⟨h.rises, h.keys⟩ k0 k1
 refine ⟨h1.1, h1.2, fun y hy => ?_⟩
 rcases chgL_mem.1 hy with ⟨_, hy⟩ | ⟨hn, rfl⟩
 ·exact h.pages y hy
 ·exact hp.resolve_left hn
theorem findL_chg {l : List (Int × Int)} (h : ListOk l) {c : Int × Int} (k0 : 0 ≤ c.1) (k1 : c.1 < 64) (hp : c.2 = -1 ∨ 0 ≤ c.2) (k : Int) : findL (chgL l c) k = if k = c.1 then c.2 else findL l k := by
 have h' := h.chg k0 k1 hp
 by_cases hk : k = c.1
 ·rw [if_pos hk]
  by_cases hc : c.2 = -1
  ·rw [hc]
   refine findL_none fun y hy => ?_
   rcases chgL_mem.1 hy with ⟨hn, _⟩ | ⟨hn, _⟩
   ·rw [hk]; exact hn
   ·exact absurd hc hn
  ·have := findL_mem h'.rises (chgL_mem.2 (.inr ⟨hc, rfl⟩))
   rw [hk]; exact this
 ·rw [if_neg hk]
  by_cases hf : findL l k = -1
  ·rw [hf]
   have hno := findL_neg h.pages hf
   refine findL_none fun y hy => ?_
   rcases chgL_mem.1 hy with ⟨_, hy⟩ | ⟨_, rfl⟩
   ·exact hno y hy
   ·exact fun e => hk e.symm
  ·have hm := findL_pos hf
   have := findL_mem h'.rises (y := (k, findL l k)) (chgL_mem.2 (.inl ⟨hk, hm⟩))
   exact this
theorem findL_chgs {b : List (Int × Int)} : ∀ (cs : List (Int × Int)) {l : List (Int × Int)}, ListOk l → (∀ c ∈ cs, 0 ≤ c.1 ∧ c.1 < 64 ∧ (c.2 = -1 ∨ 0 ≤ c.2) ∧ c.2 = findL b c.1) → ListOk (cs.foldl chgL l) ∧ ∀ k, findL (cs.foldl chgL l) k = if ∃ c ∈ cs, c.1 = k then findL b k else findL l k
 | [], l, h, _ => ⟨h, fun k => by simp⟩
 | c :: cs, l, h, hc => by
  obtain ⟨k0, k1, hp, hb⟩ := hc c (List.mem_cons_self ..)
  obtain ⟨i1, i2⟩ := findL_chgs (b := b) cs (h.chg k0 k1 hp) (fun d hd => hc d (List.mem_cons_of_mem _ hd))
  refine ⟨i1, fun k => ?_⟩
  rw [List.foldl_cons, i2 k, findL_chg h k0 k1 hp k]
  by_cases h1 : ∃ d ∈ cs, d.1 = k
  ·obtain ⟨d, hd, e⟩ := h1
   rw [if_pos ⟨d, hd, e⟩, if_pos ⟨d, List.mem_cons_of_mem _ hd, e⟩]
  ·rw [if_neg h1]
   by_cases h2 : k = c.1
   ·rw [if_pos h2, if_pos ⟨c, List.mem_cons_self .., h2.symm⟩, hb, h2]
   ·rw [if_neg h2, if_neg]
    rintro ⟨d, hd, e⟩
    rcases List.mem_cons.1 hd with rfl | hd
    ·exact h2 e.symm
    ·exact h1 ⟨d, hd, e⟩
theorem mem_changes {la lb : List (Int × Int)} {c : Int × Int} : c ∈ changesL la lb ↔ 0 ≤ c.1 ∧ c.1 < 64 ∧ findL la c.1 ≠ findL lb c.1 ∧ c.2 = findL lb c.1 := by
 unfold changesL
 rw [List.mem_filterMap]
 constructor
 ·rintro ⟨k, hk, e⟩
  have := List.mem_range.1 hk
  split at e
  ·cases e
  ·rename_i hne
   cases e
   exact ⟨by dsimp only; omega, by dsimp only; omega, hne, rfl⟩
 ·rintro ⟨h0, h1, hne, e⟩
  obtain ⟨k, hk⟩ := Int.eq_ofNat_of_zero_le h0
  refine ⟨k, List.mem_range.2 (by omega), ?_⟩
  rw [← hk, if_neg hne, ← e]
theorem find_page {l : List (Int × Int)} (h : ListOk l) (k : Int) : findL l k = -1 ∨ 0 ≤ findL l k := by
 by_cases e : findL l k = -1
 ·exact .inl e
 ·exact .inr (h.pages _ (findL_pos e))
theorem changes_lead {la lb : List (Int × Int)} (ha : ListOk la) (hb : ListOk lb) : (changesL la lb).foldl chgL la = lb := by
 obtain ⟨h1, h2⟩ := findL_chgs (b := lb) (changesL la lb) ha (fun c hc => by
  obtain ⟨k0, k1, _, e⟩ := mem_changes.1 hc
  exact ⟨k0, k1, by rw [e]; exact find_page hb c.1, e⟩)
 refine list_ext h1 hb fun k k0 k1 => ?_
 rw [h2 k]
 split
 ·rfl
 ·rename_i hno
  refine Classical.byContradiction fun hne => hno ⟨(k, findL lb k), mem_changes.2 ⟨k0, k1, hne, rfl⟩, rfl⟩
theorem changes_count (la lb : List (Int × Int)) : (changesL la lb).length = (List.range 64).countP fun (k : Nat) => decide (findL la (k : Int) ≠ findL lb (k : Int)) := by
 unfold changesL
 have key : ∀ L : List Nat, (L.filterMap fun (k : Nat) => if findL la (k : Int) = findL lb (k : Int) then none else some ((k : Int), findL lb (k : Int))).length = L.countP fun (k : Nat) => decide (findL la (k : Int) ≠ findL lb (k : Int)) := by
  intro L
  induction L with
  | nil => rfl
  | cons k L ih =>
   by_cases h : findL la (k : Int) = findL lb (k : Int)
   ·rw [List.filterMap_cons, if_pos h, List.countP_cons_of_neg (by simp [h])]
    exact ih
   ·rw [List.filterMap_cons, if_neg h, List.countP_cons_of_pos (by simp [h]), List.length_cons, ih]
 exact key _
end Go.Proofs.Ytdcnogjbmdhgaaa
