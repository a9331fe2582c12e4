/-
 Two trees held against one another, plain: what is in one, but for what is shared; where they differ.
-/
import Derived.Test.YtidlchciehdefaaGreatK22
import Derived.Test.YtidlchciehdefaaGreatK26
import Derived.Test.YtidlchciehdefaaGreatK27
set_option linter.unusedVariables false
set_option linter.unusedSimpArgs false
namespace Go.Proofs.YtidlchciehdefaaGreat
open Go.RowKit

theorem tr_get {m : Nat} {M : SM} {h : Nat} {p : Int} {l : List (Int × Int)} (t : Tr m M h p l) : ∃ k n, h = k + 1 ∧ M.get p = (n, 0) ∧ n.ok ∧ M.nodeAt p.toNat = some n ∧ NTr (fun q a => Tr m M k q a ∧ m ≤ M.entN q) k n l ∧ p ≠ -1 := by
 cases h with
 | zero => exact t.elim
 | succ k =>
  obtain ⟨hp, n, hn, hok, hk⟩ := t
  refine ⟨k, n, rfl, ?_, hok, hn, hk, by have := (heldB_int hp).1; omega⟩
  unfold SM.get
  rw [if_pos hp, hn]
theorem kids_unique {T U : Int → List (Int × Int) → Prop} : ∀ {es l l' : List (Int × Int)}, (∀ e ∈ es, ∀ a b, T e.2 a → U e.2 b → a = b) → Kids T es l → Kids U es l' → l = l'
 | [], _, _, _, h, k => by rw [show _ = [] from h, show _ = [] from k]
 | e :: es, _, _, hT, ⟨a, b, x, h1, h2, _, _, h5⟩, ⟨a', b', x', k1, k2, _, _, k5⟩ => by
  rw [h1, k1, hT e (List.mem_cons_self ..) a a' h2 k2, kids_unique (fun e he => hT e (List.mem_cons_of_mem _ he)) h5 k5]
theorem tr_unique {m : Nat} {M : SM} : ∀ {h h' : Nat} {p : Int} {l l' : List (Int × Int)}, Tr m M h p l → Tr m M h' p l' → l = l'
 | 0, _, _, _, _, t, _ => t.elim
 | _ + 1, 0, _, _, _, _, t => t.elim
 | h + 1, h' + 1, p, l, l', ⟨_, n, hn, _, k⟩, ⟨_, n', hn', _, k'⟩ => by
  rw [hn] at hn'
  cases hn'
  rcases k with ⟨_, k2, k3⟩ | ⟨_, k2, k3⟩
  ·rcases k' with ⟨_, j2, j3⟩ | ⟨_, j2, j3⟩
   ·rw [← k3, ← j3]
   ·omega
  ·rcases k' with ⟨_, j2, j3⟩ | ⟨_, j2, j3⟩
   ·omega
   ·exact kids_unique (fun e _ a b ha hb => tr_unique ha.1 hb.1) k3 j3
theorem tr_below {m : Nat} {M : SM} {h : Nat} {p : Int} {l : List (Int × Int)} (t : Tr m M h p l) {q : Int} (hb : Below M p q) : ∃ h' a, h' ≤ h ∧ Tr m M h' q a ∧ ∀ y ∈ a, y ∈ l := by
 induction hb with
 | here => exact ⟨h, l, Nat.le_refl _, t, fun y hy => hy⟩
 | @kid x y _ hk hy ih =>
  obtain ⟨h', a, hle, t', hs⟩ := ih
  obtain ⟨k, n, rfl, hg, hok, hn, hN, _⟩ := tr_get t'
  rw [hg] at hk hy
  rcases hN with ⟨_, k2, _⟩ | ⟨_, _, k3⟩
  ·dsimp only at hk; omega
  ·obtain ⟨c, hc, hcs⟩ := k3.each y hy
   exact ⟨k, c, by omega, hc.1, fun z hz => hs z (hcs z hz)⟩
theorem below_ok {m : Nat} {M : SM} {h : Nat} {p : Int} {l : List (Int × Int)} (t : Tr m M h p l) : (∀ x, Below M p x → x = -1 ∨ (M.get x).2 = 0) ∧ ∀ x, Below M p x → (M.get x).1.kind = 3 → (M.get x).1.ents ≠ [] := by
 refine ⟨fun x hx => ?_, fun x hx hk => ?_⟩
 ·obtain ⟨h', a, _, t', _⟩ := tr_below t hx
  obtain ⟨k, n, _, hg, _⟩ := tr_get t'
  exact .inr (by rw [hg])
 ·obtain ⟨h', a, _, t', _⟩ := tr_below t hx
  obtain ⟨k, n, _, hg, hok, _⟩ := tr_get t'
  rw [hg] at hk ⊢
  dsimp only at hk ⊢
  exact List.length_pos_iff.1 (innerOk_of hok (by omega)).pos
theorem below_cases {M : SM} {p q : Int} (h : Below M p q) : q = p ∨ ((M.get p).1.kind = 3 ∧ ∃ y ∈ (M.get p).1.ents, Below M y.2 q) := by
 induction h with
 | here => exact .inl rfl
 | @kid x y _ hk hy ih =>
  rcases ih with e | ⟨k, z, hz, hb⟩
  ·subst e; exact .inr ⟨hk, y, hy, .here⟩
  ·exact .inr ⟨k, z, hz, .kid hb hk hy⟩
theorem below_neg {M : SM} {p : Int} {m h : Nat} {l : List (Int × Int)} (t : Tr m M h p l) {q : Int} (hb : Below M p q) : q ≠ -1 := by
 obtain ⟨_, _, _, t', _⟩ := tr_below t hb
 obtain ⟨_, _, _, _, _, _, _, e⟩ := tr_get t'
 exact e
def ownF (M : SM) (S : Int → Bool) : Nat → Int → List (Int × Int)
 | 0, _ => []
 | h + 1, r => if r = -1 ∨ S r = true then [] else ((M.get r).1.ents.map (fun y => if (M.get r).1.kind = 2 then [y] else ownF M S h y.2)).flatten
theorem own_ok {m : Nat} {M : SM} {S : Int → Bool} : ∀ {h d : Nat} {p : Int} {l : List (Int × Int)}, Tr m M h p l → d + h ≤ 8 → (-9223372036854775808 ≤ p ∧ p ≤ 9223372036854775807) → (∀ x y, Below M p x → y ∈ (M.get x).1.ents → 0 ≤ y.2 ∧ y.2 < 240) → OwnC M S d p (ownF M S h p)
 | 0, _, _, _, t, _, _, _ => t.elim
 | h + 1, d, p, l, t, hd, hp, hb => by
  obtain ⟨k, n, e, hg, hok, hn, hN, hp1⟩ := tr_get t
  obtain rfl : h = k := by omega
  unfold ownF
  by_cases hS : p = -1 ∨ S p = true
  ·rw [if_pos hS]; exact ownNone hp hS
  ·rw [if_neg hS]
   have hSp : S p = false := by
    cases e : S p with
    | false => rfl
    | true => exact absurd (.inr e) hS
   rw [hg]
   dsimp only
   rcases hN with ⟨_, k2, k3⟩ | ⟨_, k2, k3⟩
   ·exact ownNode hg hSp (.inl k2) (by omega) (fun _ y _ => by simp only [k2, if_true]) (fun e => by omega)
   ·refine ownNode hg hSp (.inr k2) (by omega) (fun e => by omega) (fun _ y hy => ?_)
    simp only [k2, show ¬ ((3 : Nat) = 2) by decide, if_false]
    obtain ⟨c, hc, _⟩ := k3.each y hy
    have hyb := hb p y .here (by rw [hg]; exact hy)
    refine own_ok hc.1 (by omega) (by omega) (fun x z hx hz => hb x z ?_ hz)
    have hbelow : Below M p y.2 := .kid .here (by rw [hg]; exact k2) (by rw [hg]; exact hy)
    clear hz
    induction hx with
    | here => exact hbelow
    | kid _ h1 h2 ih => exact .kid ih h1 h2
theorem flat_sub {T : Int → List (Int × Int) → Prop} {f : Int × Int → List (Int × Int)} : ∀ {es l : List (Int × Int)}, Kids T es l → (∀ e ∈ es, ∀ a, T e.2 a → (f e).Sublist a) → ((es.map f).flatten).Sublist l
 | [], _, h, _ => by rw [show _ = [] from h]; exact List.Sublist.refl _
 | e :: es, _, ⟨a, b, x, h1, h2, _, _, h5⟩, hf => by
  rw [h1, List.map_cons, List.flatten_cons]
  exact List.Sublist.append (hf e (List.mem_cons_self ..) a h2) (flat_sub h5 (fun e he => hf e (List.mem_cons_of_mem _ he)))
theorem flat_one : ∀ (l : List (Int × Int)), (l.map fun y => [y]).flatten = l
 | [] => rfl
 | y :: l => by rw [List.map_cons, List.flatten_cons, flat_one l]; rfl
theorem own_sub {m : Nat} {M : SM} {S : Int → Bool} : ∀ {h : Nat} {p : Int} {l : List (Int × Int)}, Tr m M h p l → (ownF M S h p).Sublist l
 | 0, _, _, t => t.elim
 | h + 1, p, l, t => by
  obtain ⟨k, n, e, hg, hok, hn, hN, hp1⟩ := tr_get t
  obtain rfl : h = k := by omega
  unfold ownF
  by_cases hS : p = -1 ∨ S p = true
  ·rw [if_pos hS]; exact List.nil_sublist _
  ·rw [if_neg hS, hg]
   dsimp only
   rcases hN with ⟨_, k2, k3⟩ | ⟨_, k2, k3⟩
   ·simp only [k2, if_true]
    rw [flat_one, k3]
    exact List.Sublist.refl _
   ·simp only [k2, show ¬ ((3 : Nat) = 2) by decide, if_false]
    exact flat_sub k3 (fun e _ a ha => own_sub ha.1)
theorem own_or {m : Nat} {M : SM} {S : Int → Bool} : ∀ {h : Nat} {p : Int} {l : List (Int × Int)}, Tr m M h p l → ∀ y ∈ l, y ∈ ownF M S h p ∨ ∃ q, Below M p q ∧ S q = true ∧ ∃ h' a, Tr m M h' q a ∧ y ∈ a
 | 0, _, _, t, _, _ => t.elim
 | h + 1, p, l, t, y, hy => by
  obtain ⟨k, n, e, hg, hok, hn, hN, hp1⟩ := tr_get t
  obtain rfl : h = k := by omega
  unfold ownF
  by_cases hS : S p = true
  ·exact .inr ⟨p, .here, hS, _, _, t, hy⟩
  ·rw [if_neg (by simp [hp1, hS]), hg]
   dsimp only
   rcases hN with ⟨_, k2, k3⟩ | ⟨_, k2, k3⟩
   ·simp only [k2, if_true]
    rw [flat_one, k3]
    exact .inl hy
   ·simp only [k2, show ¬ ((3 : Nat) = 2) by decide, if_false]
    obtain ⟨e, he, a, ha, hya⟩ := k3.in y hy
    rcases own_or (S := S) ha.1 y hya with h1 | ⟨q, hq, hs, r⟩
    ·exact .inl (List.mem_flatten.2 ⟨_, List.mem_map.2 ⟨e, he, rfl⟩, h1⟩)
    ·refine .inr ⟨q, ?_, hs, r⟩
     have hbelow : Below M p e.2 := .kid .here (by rw [hg]; exact k2) (by rw [hg]; exact he)
     clear hs r
     induction hq with
     | here => exact hbelow
     | kid _ h1 h2 ih => exact .kid ih h1 h2
theorem kids_same {T : Int → List (Int × Int) → Prop} (hT : ∀ q a b, T q a → T q b → a = b) : ∀ {es l : List (Int × Int)}, Kids T es l → RisesK l → ∀ e ∈ es, ∀ e' ∈ es, ∀ a a', T e.2 a → T e'.2 a' → RisesK a ∧ ∀ y ∈ a, ∀ z ∈ a', z.1 = y.1 → e = e'
 | [], _, _, _, e, he, _, _, _, _, _, _ => by cases he
 | f :: es, l, ⟨a0, b0, x, h1, h2, h3, h4, h5⟩, hr, e, he, e', he', a, a', ha, ha' => by
  rw [h1] at hr
  have hr' := List.pairwise_append.1 hr
  have hb : ∀ g ∈ es, ∀ c, T g.2 c → ∀ z ∈ c, z ∈ b0 := fun g hg c hc z hz => by
   obtain ⟨c', hc', hs⟩ := h5.each g hg
   rw [hT _ _ _ hc hc'] at hz
   exact hs z hz
  rcases List.mem_cons.1 he with rfl | he2
  ·rw [hT _ _ _ ha h2]
   refine ⟨hr'.1, fun y hy z hz hk => ?_⟩
   rcases List.mem_cons.1 he' with e2 | he2'
   ·exact e2.symm
   ·have := hr'.2.2 y hy z (hb e' he2' a' ha' z hz)
    omega
  ·rcases List.mem_cons.1 he' with e2 | he2'
   ·subst e2
    obtain ⟨c', hc', hs⟩ := h5.each e he2
    refine ⟨(kids_same hT h5 hr'.2.1 e he2 e he2 a a ha ha).1, fun y hy z hz hk => ?_⟩
    rw [hT _ _ _ ha' h2] at hz
    have := hr'.2.2 z hz y (hb e he2 a ha y hy)
    omega
   ·exact kids_same hT h5 hr'.2.1 e he2 e' he2' a a' ha ha'
theorem own_not {m : Nat} {M : SM} {S : Int → Bool} : ∀ {h : Nat} {p : Int} {l : List (Int × Int)}, Tr m M h p l → RisesK l → ∀ y ∈ ownF M S h p, ∀ q, Below M p q → S q = true → ∀ h' a, Tr m M h' q a → ∀ z ∈ a, z.1 ≠ y.1
 | 0, _, _, t, _, _, _, _, _, _, _, _, _, _, _ => t.elim
 | h + 1, p, l, t, hr, y, hy, q, hq, hs, h', a, ta, z, hz => by
  obtain ⟨k, n, e, hg, hok, hn, hN, hp1⟩ := tr_get t
  obtain rfl : h = k := by omega
  unfold ownF at hy
  by_cases hS : p = -1 ∨ S p = true
  ·rw [if_pos hS] at hy; cases hy
  ·rw [if_neg hS, hg] at hy
   dsimp only at hy
   rcases below_cases hq with e | ⟨hk3, e', he', hb'⟩
   ·exact absurd (.inr (e ▸ hs)) hS
   ·rw [hg] at hk3 he'
    dsimp only at hk3 he'
    rcases hN with ⟨_, k2, k3⟩ | ⟨_, k2, k3⟩
    ·omega
    ·simp only [k2, show ¬ ((3 : Nat) = 2) by decide, if_false] at hy
     obtain ⟨o, ho, hyo⟩ := List.mem_flatten.1 hy
     obtain ⟨e, he, rfl⟩ := List.mem_map.1 ho
     obtain ⟨c, hc, _⟩ := k3.each e he
     obtain ⟨c', hc', _⟩ := k3.each e' he'
     obtain ⟨h2, a2, _, t2, hsub⟩ := tr_below hc'.1 hb'
     have hzc : z ∈ c' := hsub z (by rw [tr_unique t2 ta]; exact hz)
     have hyc : y ∈ c := (own_sub hc.1).subset hyo
     obtain ⟨hrc, hsame⟩ := kids_same (fun q a b ha hb => tr_unique ha.1 hb.1) k3 hr e he e' he' c c' hc hc'
     intro hk
     have := hsame y hyc z hzc hk
     subst this
     exact own_not hc.1 hrc y hyo q hb' hs h' a ta z hz hk
structure Side (m : Nat) (M : SM) (S : Int → Bool) (r : Int) (l own : List (Int × Int)) : Prop where
 sub : own.Sublist l
 or_ : ∀ y ∈ l, y ∈ own ∨ ∃ q, Below M r q ∧ q ≠ -1 ∧ S q = true ∧ ∃ h' a, Tr m M h' q a ∧ y ∈ a
 not_ : ∀ y ∈ own, ∀ q, Below M r q → q ≠ -1 → S q = true → ∀ h' a, Tr m M h' q a → ∀ z ∈ a, z.1 ≠ y.1
 below : ∀ q, Below M r q → q ≠ -1 → ∃ h' a, Tr m M h' q a ∧ ∀ y ∈ a, y ∈ l
 rises : RisesK l
theorem side_of {m : Nat} {M : SM} {S : Int → Bool} {r : Int} {l : List (Int × Int)} {h : Nat} (t : Tr m M h r l) (hr : RisesK l) : Side m M S r l (ownF M S h r) :=
 ⟨own_sub t, fun y hy => (own_or t y hy).imp id fun ⟨q, h1, h2, h3⟩ => ⟨q, h1, below_neg t h1, h2, h3⟩, fun y hy q h1 _ h2 => own_not t hr y hy q h1 h2, fun q h1 _ => by obtain ⟨h', a, _, h3, h4⟩ := tr_below t h1; exact ⟨h', a, h3, h4⟩, hr⟩
theorem side_none (m : Nat) (M : SM) (S : Int → Bool) : Side m M S (-1) [] [] :=
 ⟨List.Sublist.refl _, (fun y hy => by cases hy), (fun y hy => by cases hy), fun q h1 h2 => absurd (below_none h1) h2, List.Pairwise.nil⟩
theorem findL_mem : ∀ {l : List (Int × Int)}, RisesK l → ∀ {y : Int × Int}, y ∈ l → findL l y.1 = y.2
 | [], _, _, h => by cases h
 | x :: l, hr, y, h => by
  have hr' := List.pairwise_cons.1 hr
  unfold findL
  rcases List.mem_cons.1 h with rfl | h
  ·rw [if_pos rfl]
  ·rw [if_neg (by have := hr'.1 y h; omega)]
   exact findL_mem hr'.2 h
section
variable {m : Nat} {M : SM} {S : Int → Bool} {ra rb : Int} {la lb oa ob : List (Int × Int)}
theorem same_key (A : Side m M S ra la oa) (B : Side m M S rb lb ob) (hS : ∀ q, S q = true → (Below M ra q ∧ q ≠ -1) ∧ (Below M rb q ∧ q ≠ -1)) {k : Int} (ha : ∀ y ∈ oa, y.1 ≠ k) (hb : ∀ y ∈ ob, y.1 ≠ k) : findL la k = findL lb k := by
 by_cases h : ∃ y ∈ la, y.1 = k
 ·obtain ⟨y, hy, rfl⟩ := h
  rcases A.or_ y hy with h | ⟨q, _, hq1, hs, h', a, t, hya⟩
  ·exact absurd rfl (ha y h)
  ·obtain ⟨h2, a2, t2, hsub⟩ := B.below q (hS q hs).2.1 hq1
   rw [tr_unique t t2] at hya
   rw [findL_mem A.rises hy, findL_mem B.rises (hsub y hya)]
 ·rw [findL_none (fun y hy e => h ⟨y, hy, e⟩)]
  by_cases h2 : ∃ y ∈ lb, y.1 = k
  ·obtain ⟨y, hy, rfl⟩ := h2
   rcases B.or_ y hy with h2 | ⟨q, _, hq1, hs, h', a, t, hya⟩
   ·exact absurd rfl (hb y h2)
   ·obtain ⟨h3, a3, t3, hsub⟩ := A.below q (hS q hs).1.1 hq1
    rw [tr_unique t t3] at hya
    exact absurd ⟨y, hsub y hya, rfl⟩ h
  ·rw [findL_none (fun y hy e => h2 ⟨y, hy, e⟩)]
theorem own_find (A : Side m M S ra la oa) {y : Int × Int} (hy : y ∈ oa) : findL la y.1 = y.2 := findL_mem A.rises (A.sub.subset hy)
theorem other_none (A : Side m M S ra la oa) (B : Side m M S rb lb ob) (hS : ∀ q, S q = true → (Below M ra q ∧ q ≠ -1) ∧ (Below M rb q ∧ q ≠ -1)) {y : Int × Int} (hy : y ∈ ob) (ha : ∀ x ∈ oa, x.1 ≠ y.1) : findL la y.1 = -1 := by
 refine findL_none fun x hx e => ?_
 rcases A.or_ x hx with h | ⟨q, _, hq1, hs, h', a, t, hxa⟩
 ·exact ha x h e
 ·exact B.not_ y hy q (hS q hs).2.1 hq1 hs h' a t x hxa e
end
def changesL (la lb : List (Int × Int)) : List (Int × Int) := (List.range 64).filterMap fun (k : Nat) => if findL la (k : Int) = findL lb (k : Int) then none else some ((k : Int), findL lb (k : Int))
def occSum (M : SM) (c : Nat) (L : List Nat) : Nat := (L.map fun q => occ (M.ents q) c).sum
theorem occSum_append (M : SM) (c : Nat) (a b : List Nat) : occSum M c (a ++ b) = occSum M c a + occSum M c b := by unfold occSum; rw [List.map_append, List.sum_append]
theorem occSum_none {M : SM} {c : Nat} : ∀ {L : List Nat}, (∀ q ∈ L, M.ents q = []) → occSum M c L = 0
 | [], _ => rfl
 | a :: L, h => by
  have h1 := occSum_none (c := c) (fun q hq => h q (List.mem_cons_of_mem (a := q) a hq))
  unfold occSum at h1 ⊢
  rw [List.map_cons, List.sum_cons, h a (List.mem_cons_self ..), h1]
  rfl
theorem occ_append (a b : List (Int × Int)) (c : Nat) : occ (a ++ b) c = occ a c + occ b c := List.countP_append
theorem refs_list {M : SM} {c : Nat} {L : List Nat} (h : ∀ q, M.live q = true → q ∈ L) : M.refs c ≤ occSum M c L := sum_list (f := fun q => occ (M.ents q) c) (b := M.live) L M.pool.size (fun q _ hq => h q hq)
theorem rises_half {a b : List (Int × Int)} (h : RisesK (a ++ b)) {K : Int} (ha : ∃ y ∈ a, y.1 = K) (hb : ∃ y ∈ b, y.1 = K) : False := by
 obtain ⟨y, hy, e1⟩ := ha
 obtain ⟨z, hz, e2⟩ := hb
 have := (List.pairwise_append.1 h).2.2 y hy z hz
 omega
theorem tr_occ {m : Nat} {M : SM} {c : Nat} {K : Int} (hK : ∀ h' a, Tr m M h' (c : Int) a → ∃ y ∈ a, y.1 = K) : ∀ {h : Nat} {p : Int} {l : List (Int × Int)}, Tr m M h p l → RisesK l →
  ((∃ y ∈ l, y.1 = K) → occSum M c (pagesF M h p) + 1 ≤ h + occ l c) ∧ ((¬ ∃ y ∈ l, y.1 = K) → occSum M c (pagesF M h p) ≤ occ l c)
 | 0, _, _, t, _ => t.elim
 | h + 1, p, l, ⟨hp, n, hn, hok, k⟩, hr => by
  have he := ents_of hn
  unfold pagesF
  rcases k with ⟨h0, _, hl⟩ | ⟨h0, _, hT⟩
  ·rw [if_pos h0]
   have : occSum M c [p.toNat] = occ l c := by
    unfold occSum
    rw [List.map_cons, List.map_nil, List.sum_cons, List.sum_nil, he, hl]
    omega
   rw [this]
   exact ⟨fun _ => by omega, fun _ => Nat.le_refl _⟩
  ·rw [if_neg (by omega), he]
   have key : ∀ (es l : List (Int × Int)), Kids (Sub m M h) es l → RisesK l →
     ((∃ y ∈ l, y.1 = K) → occ es c + occSum M c (es.flatMap fun e => pagesF M h e.2) ≤ h + occ l c) ∧ ((¬ ∃ y ∈ l, y.1 = K) → occ es c + occSum M c (es.flatMap fun e => pagesF M h e.2) ≤ occ l c) := by
    intro es
    induction es with
    | nil =>
     intro l hl _
     rw [show l = [] from hl]
     exact ⟨fun ⟨y, hy, _⟩ => (by cases hy), fun _ => Nat.le_refl _⟩
    | cons e es ih =>
     rintro l ⟨a, b, x, h1, h2, h3, h4, h5⟩ hr
     subst h1
     have ra : RisesK a := (List.pairwise_append.1 hr).1
     have rb : RisesK b := (List.pairwise_append.1 hr).2.1
     obtain ⟨i1, i2⟩ := tr_occ hK h2.1 ra
     obtain ⟨j1, j2⟩ := ih b h5 rb
     have hoc : occ (e :: es) c = occ es c + if e.2 = (c : Int) then 1 else 0 := by
      unfold occ
      rw [List.countP_cons]
      simp
     have hec : e.2 = (c : Int) → ∃ y ∈ a, y.1 = K := fun e1 => hK h a (by rw [← e1]; exact h2.1)
     rw [List.flatMap_cons, occSum_append, occ_append, hoc]
     have hmem : (∃ y ∈ a ++ b, y.1 = K) ↔ (∃ y ∈ a, y.1 = K) ∨ (∃ y ∈ b, y.1 = K) := by
      constructor
      ·rintro ⟨y, hy, e⟩
       exact (List.mem_append.1 hy).imp (fun h => ⟨y, h, e⟩) (fun h => ⟨y, h, e⟩)
      ·rintro (⟨y, hy, e⟩ | ⟨y, hy, e⟩)
       ·exact ⟨y, List.mem_append_left _ hy, e⟩
       ·exact ⟨y, List.mem_append_right _ hy, e⟩
     rw [hmem]
     by_cases ha : ∃ y ∈ a, y.1 = K
     ·have hb : ¬ ∃ y ∈ b, y.1 = K := fun hb => rises_half hr ha hb
      have q1 := i1 ha
      have q2 := j2 hb
      refine ⟨fun _ => ?_, fun hn => absurd (.inl ha) hn⟩
      split <;> omega
     ·have hne : ¬ e.2 = (c : Int) := fun e1 => ha (hec e1)
      have q1 := i2 ha
      rw [if_neg hne]
      by_cases hb : ∃ y ∈ b, y.1 = K
      ·have q2 := j1 hb
       exact ⟨fun _ => by omega, fun hn => absurd (.inr hb) hn⟩
      ·have q2 := j2 hb
       exact ⟨fun hn => hn.elim (fun h => absurd h ha) (fun h => absurd h hb), fun _ => by omega⟩
   obtain ⟨k1, k2⟩ := key n.ents l hT hr
   have hs : occSum M c (p.toNat :: n.ents.flatMap fun e => pagesF M h e.2) = occ n.ents c + occSum M c (n.ents.flatMap fun e => pagesF M h e.2) := by
    unfold occSum
    rw [List.map_cons, List.sum_cons, he]
   rw [hs]
   exact ⟨fun hk => by have := k1 hk; omega, fun hk => k2 hk⟩
theorem tr_occ5 {m : Nat} {M : SM} {c h : Nat} {p : Int} {l : List (Int × Int)} (t : Tr m M h p l) (hr : RisesK l) (h5 : h ≤ 6) : occSum M c (pagesF M h p) ≤ 5 + occ l c := by
 by_cases hc : ∃ h' a, Tr m M h' (c : Int) a
 ·obtain ⟨h', a, ta⟩ := hc
  have hge := tr_ge ta
  cases a with
  | nil => simp at hge; omega
  | cons y a =>
   obtain ⟨q1, q2⟩ := tr_occ (K := y.1) (fun h2 b tb => ⟨y, by rw [tr_unique tb ta]; exact List.mem_cons_self .., rfl⟩) t hr
   by_cases hk : ∃ z ∈ l, z.1 = y.1
   ·have := q1 hk; omega
   ·have := q2 hk; omega
 ·obtain ⟨q1, q2⟩ := tr_occ (K := 64) (c := c) (fun h2 b tb => absurd ⟨h2, b, tb⟩ hc) t hr
  by_cases hk : ∃ z ∈ l, z.1 = 64
  ·have := q1 hk; omega
  ·have := q2 hk; omega
theorem forest_pages {m : Nat} {M : SM} {ext : Nat → Nat} (E : Exact M ext) (hl : Loose M []) (is : List IM) (ht : ∀ i ∈ is, TreeIn m M i.root i.l i.P ∧ i.P ≤ 240 ∧ ∀ y ∈ i.l, M.ents y.2.toNat = []) {bl : List Nat} (hb : ∀ q ∈ bl, M.ents q = [])
  (hx : ∀ q, q < M.pool.size → 0 < ext q → q ∈ bl ∨ ∃ i ∈ is, i.root = (q : Int)) (c : Nat) (B : List Nat) (hB : ∀ i ∈ is, ∀ y ∈ i.l, y.2.toNat ∈ B) (hBe : ∀ q ∈ B, M.ents q = []) :
  ∃ L : List Nat, (∀ q, M.live q = true → q ∈ bl ++ B ++ L) ∧ 2 * L.length ≤ (is.map fun i => i.P + 3).sum ∧ occSum M c L ≤ (is.map fun i => 5 + occ i.l c).sum := by
 have all : ∀ js : List IM, (∀ i ∈ js, i ∈ is) → ∃ L : List Nat, (∀ i ∈ js, i.root = -1 ∨ i.root.toNat ∈ L) ∧ (∀ q ∈ L, ∀ x ∈ M.ents q, x.2.toNat ∈ L ∨ x.2.toNat ∈ B) ∧ 2 * L.length ≤ (js.map fun i => i.P + 3).sum ∧ occSum M c L ≤ (js.map fun i => 5 + occ i.l c).sum := by
  intro js
  induction js with
  | nil => intro _; exact ⟨[], fun i hi => (by cases hi), fun q hq => (by cases hq), Nat.le_refl _, Nat.le_refl _⟩
  | cons i js ih =>
   intro hin
   obtain ⟨L, a1, a2, a3, a4⟩ := ih (fun j hj => hin j (List.mem_cons_of_mem _ hj))
   have hi := hin i (List.mem_cons_self ..)
   obtain ⟨T, hP, _⟩ := ht i hi
   rw [List.map_cons, List.sum_cons, List.map_cons, List.sum_cons]
   rcases T.root with ⟨e, el⟩ | ⟨hh, t, j⟩
   ·refine ⟨L, fun q hq => ?_, a2, by omega, by omega⟩
    rcases List.mem_cons.1 hq with rfl | hq
    ·exact .inl e
    ·exact a1 q hq
   ·obtain ⟨p1, _, p3⟩ := led_pages t j hP
    have p4 := tr_occ5 (c := c) t T.keys.1 (by omega)
    refine ⟨pagesF M hh i.root ++ L, fun q hq => ?_, fun q hq x hx => ?_, by rw [List.length_append]; omega, by rw [occSum_append]; omega⟩
    ·rcases List.mem_cons.1 hq with rfl | hq
     ·exact .inr (List.mem_append_left _ (pages_self (tr_pos t)))
     ·exact (a1 q hq).imp id fun e => List.mem_append_right _ e
    ·rcases List.mem_append.1 hq with hq | hq
     ·rcases pages_closed t q hq x hx with e | e
      ·exact .inl (List.mem_append_left _ e)
      ·exact .inr (hB i hi x e)
     ·exact (a2 q hq x hx).imp (fun e => List.mem_append_right _ e) id
 obtain ⟨L, a1, a2, a3, a4⟩ := all is (fun i hi => hi)
 refine ⟨L, reach_all E hl (fun q hq h0 => ?_) (fun q hq x hx => ?_), a3, a4⟩
 ·rcases hx q hq h0 with e | ⟨i, hi, e⟩
  ·exact List.mem_append_left _ (List.mem_append_left _ e)
  ·rcases a1 i hi with e1 | e1
   ·omega
   ·rw [e, Int.toNat_natCast] at e1; exact List.mem_append_right _ e1
 ·rcases List.mem_append.1 hq with hq | hq
  ·have he : M.ents q = [] := (List.mem_append.1 hq).elim (hb q) (hBe q)
   rw [he] at hx; cases hx
  ·rcases a2 q hq x hx with e | e
   ·exact List.mem_append_right _ e
   ·exact List.mem_append_left _ (List.mem_append_right _ e)
theorem forest_refs {m : Nat} {M : SM} {ext : Nat → Nat} (E : Exact M ext) (hl : Loose M []) (is : List IM) (ht : ∀ i ∈ is, TreeIn m M i.root i.l i.P ∧ i.P ≤ 240 ∧ ∀ y ∈ i.l, M.ents y.2.toNat = []) {bl : List Nat} (hb : ∀ q ∈ bl, M.ents q = [])
  (hx : ∀ q, q < M.pool.size → 0 < ext q → q ∈ bl ∨ ∃ i ∈ is, i.root = (q : Int)) (c : Nat) : M.refs c ≤ (is.map fun i => 5 + occ i.l c).sum := by
 have hBe : ∀ q ∈ is.flatMap (fun i => i.l.map fun y => y.2.toNat), M.ents q = [] := fun q hq => by
  obtain ⟨i, hi, hq⟩ := List.mem_flatMap.1 hq
  obtain ⟨y, hy, rfl⟩ := List.mem_map.1 hq
  exact (ht i hi).2.2 y hy
 obtain ⟨L, h1, _, h3⟩ := forest_pages E hl is ht hb hx c (is.flatMap fun i => i.l.map fun y => y.2.toNat) (fun i hi y hy => List.mem_flatMap.2 ⟨i, hi, List.mem_map.2 ⟨y, hy, rfl⟩⟩) hBe
 have := refs_list (c := c) h1
 rw [occSum_append, occSum_append, occSum_none hb, occSum_none hBe] at this
 omega
theorem imgs_refs {m : Nat} {M : SM} {is : List IM} (h : Imgs m M is) (hP : ∀ i ∈ is, i.P ≤ 240) (c : Nat) : M.refs c ≤ (is.map fun i => 5 + occ i.l c).sum := by
 refine forest_refs (bl := []) h.exact h.loose is (fun i hi => ⟨(h.img i hi).tree, hP i hi, fun y hy => ?_⟩) (fun q hq => (by cases hq)) (fun q _ h0 => .inr ?_) c
 ·obtain ⟨d, hd, _, _, he⟩ := (h.img i hi).data y hy
  rw [ents_of hd, he]
 ·unfold extL at h0
  obtain ⟨i, hi, e⟩ := List.mem_map.1 (List.count_pos_iff.1 h0)
  exact ⟨i, hi, e⟩
end Go.Proofs.YtidlchciehdefaaGreat
/-
 Two trees held against one another: where they differ (diff's Changes), what they share (Shared).
-/
namespace Go.Proofs.YtidlchciehdefaaGreat
open Go.RowKit Go.Maps Go.Sort
set_option maxRecDepth 100000

theorem elemChange : Elem 87 92 2 16 := Elem.of (z := .agg #[.int .i64 0, .int .i64 0]) Tryz.underlying87 (by kernel_rfl) (by kernel_rfl) (by omega)
theorem out_skip : ∀ {es : List (Int × Int)} {k : Int} (D : DataW Unit), (∀ y ∈ es, y.1 ≠ k) → has (es.foldl (fun m e => m.put (.int .i64 e.1) (.lit (.int .i64 e.2))) D) (.int .i64 k) = has D (.int .i64 k) ∧ ∀ z, (es.foldl (fun m e => m.put (.int .i64 e.1) (.lit (.int .i64 e.2))) D).atKey (.int .i64 k) z = D.atKey (.int .i64 k) z
 | [], _, _, _ => ⟨rfl, fun _ => rfl⟩
 | y :: es, k, D, h => by
  have hne : (Lit.int .i64 k) ≠ .int .i64 y.1 := by intro e; injection e with _ e; exact h y (List.mem_cons_self ..) e.symm
  have ih := out_skip (D.put (.int .i64 y.1) (.lit (.int .i64 y.2))) (fun z hz => h z (List.mem_cons_of_mem _ hz))
  rw [List.foldl_cons]
  exact ⟨by rw [ih.1, has_put_other hne], fun z => by rw [ih.2, atKey_put_other hne]⟩
theorem out_hit : ∀ {es : List (Int × Int)} (D : DataW Unit), IsMap D → RisesK es → ∀ y ∈ es, has (es.foldl (fun m e => m.put (.int .i64 e.1) (.lit (.int .i64 e.2))) D) (.int .i64 y.1) = true ∧ ∀ z, (es.foldl (fun m e => m.put (.int .i64 e.1) (.lit (.int .i64 e.2))) D).atKey (.int .i64 y.1) z = .lit (.int .i64 y.2)
 | [], _, _, _, _, h => by cases h
 | x :: es, D, hD, hr, y, h => by
  have hr' := List.pairwise_cons.1 hr
  rw [List.foldl_cons]
  rcases List.mem_cons.1 h with rfl | h
  ·have := out_skip (k := y.1) (D.put (.int .i64 y.1) (.lit (.int .i64 y.2))) (fun z hz => by have := hr'.1 z hz; omega)
   exact ⟨by rw [this.1, has_put_same hD (int_key _)], fun z => by rw [this.2, atKey_put_same hD (int_key _)]⟩
  ·exact out_hit _ (hD.put _ _) hr'.2 y h
theorem outD_hit {es : List (Int × Int)} (hr : RisesK es) {y : Int × Int} (h : y ∈ es) : has (outD es) (.int .i64 y.1) = true ∧ ∀ z, (outD es).atKey (.int .i64 y.1) z = .lit (.int .i64 y.2) := out_hit _ isMap_empty hr y h
theorem outD_miss {es : List (Int × Int)} {k : Int} (h : ∀ y ∈ es, y.1 ≠ k) : has (outD es) (.int .i64 k) = false ∧ (outD es).atKey (.int .i64 k) (.lit (.int .i64 0)) = .lit (.int .i64 0) := by
 have := out_skip (seenD []) h
 refine ⟨this.1.trans ?_, (this.2 _).trans ?_⟩
 ·rw [seenD_has]; rfl
 ·rw [seenD_at]; rfl
section
variable {w : World} {mx n : Nat} {es : List (Int × Int)}
theorem look_hit (h : w.ownsMap Tryz.prog 3 (plainElem Tryz.prog 3) mx n (outD es)) (hr : RisesK es) {y : Int × Int} (hy : y ∈ es) (hb : -9223372036854775808 ≤ y.1 ∧ y.1 ≤ 9223372036854775807) :
  (Instr.lookup 145 (.map (some mx)) (.int .i64 y.1) true).run Tryz.prog w = .ok (.tuple #[.int .i64 y.2, .bool true]) w := by
 obtain ⟨v, ps, hrun, hv⟩ := h.look_ok (int_keyed Tryz.underlying3) Tryz.underlying145 (Tryz.zeroValue3 w) (plainElem_int (H := Unit) Tryz.underlying3 (by decide)) (keyOf_int_mk Tryz.underlying3 (WalkArith.wf_i64 hb))
 obtain ⟨h1, h2⟩ := outD_hit hr hy
 rw [h2] at hv
 obtain ⟨c, rfl, hc, _⟩ := plainElem_int_inv Tryz.underlying3 hv
 have hce : y.2 = c := by
  have := congrArg Prod.fst hc
  injection this with h; injection h
 rw [hrun, h1, ← hce]
theorem look_miss (h : w.ownsMap Tryz.prog 3 (plainElem Tryz.prog 3) mx n (outD es)) {k : Int} (hk : ∀ y ∈ es, y.1 ≠ k) (hb : -9223372036854775808 ≤ k ∧ k ≤ 9223372036854775807) :
  (Instr.lookup 145 (.map (some mx)) (.int .i64 k) true).run Tryz.prog w = .ok (.tuple #[.int .i64 0, .bool false]) w := by
 obtain ⟨v, ps, hrun, hv⟩ := h.look_ok (int_keyed Tryz.underlying3) Tryz.underlying145 (Tryz.zeroValue3 w) (plainElem_int (H := Unit) Tryz.underlying3 (by decide)) (keyOf_int_mk Tryz.underlying3 (WalkArith.wf_i64 hb))
 obtain ⟨h1, h2⟩ := outD_miss hk
 rw [h2] at hv
 obtain ⟨c, rfl, hc, _⟩ := plainElem_int_inv Tryz.underlying3 hv
 have hce : 0 = c := by
  have := congrArg Prod.fst hc
  injection this with h; injection h
 rw [hrun, h1, ← hce]
end
structure RootIs (m : Nat) (M : SM) (r : Int) (l : List (Int × Int)) : Prop where
 tree : (r = -1 ∧ l = []) ∨ ∃ h, h ≤ 8 ∧ Tr m M h r l
 rises : RisesK l
 keys : ∀ y ∈ l, 0 ≤ y.1 ∧ y.1 < 64
 pages : ∀ y ∈ l, 0 ≤ y.2 ∧ y.2 < 240
section
variable {w : World} {A : SA} {m : Nat} {M : SM} {r : Int} {l : List (Int × Int)}
theorem RootIs.wf (h : RootIs m M r l) (hA : StoreAt w A M) : -9223372036854775808 ≤ r ∧ r ≤ 9223372036854775807 := by
 rcases h.tree with ⟨e, _⟩ | ⟨k, _, t⟩
 ·omega
 ·have := heldB_pos t.held
  have hs := hA.pool.hsize
  omega
theorem RootIs.okay (h : RootIs m M r l) : (∀ x, Below M r x → x = -1 ∨ (M.get x).2 = 0) ∧ ∀ x, Below M r x → (M.get x).1.kind = 3 → (M.get x).1.ents ≠ [] := by
 rcases h.tree with ⟨e, _⟩ | ⟨k, _, t⟩
 ·subst e
  exact ⟨fun x hx => .inl (below_none hx), fun x hx hk => by rw [below_none hx] at hk; exact absurd hk (get_none M)⟩
 ·exact below_ok t
theorem RootIs.own (h : RootIs m M r l) (hA : StoreAt w A M) (S : Int → Bool) : ∃ o, OwnC M S 0 r o ∧ Side m M S r l o := by
 rcases h.tree with ⟨rfl, rfl⟩ | ⟨k, hk, t⟩
 ·exact ⟨[], ownNone (by omega) (.inl rfl), side_none m M S⟩
 ·refine ⟨_, own_ok t (by omega) (h.wf hA) (fun x y hx hy => ?_), side_of t h.rises⟩
  rcases (below_ok t).1 x hx with e | e
  ·exact absurd e (below_neg t hx)
  ·have := get_ents hA e y hy
   omega
end
def chP (la lb : List (Int × Int)) (n : Nat) : List (Int × Int) := (List.range n).filterMap fun (k : Nat) => if findL la (k : Int) = findL lb (k : Int) then none else some ((k : Int), findL lb (k : Int))
theorem chP_same {la lb : List (Int × Int)} {k : Nat} (h : findL la (k : Int) = findL lb (k : Int)) : chP la lb (k + 1) = chP la lb k := by
 unfold chP
 rw [List.range_succ, List.filterMap_append]
 simp [h]
theorem chP_more {la lb : List (Int × Int)} {k : Nat} {p : Int} (h : findL la (k : Int) ≠ findL lb (k : Int)) (hp : findL lb (k : Int) = p) : chP la lb (k + 1) = chP la lb k ++ [((k : Int), p)] := by
 unfold chP
 rw [List.range_succ, List.filterMap_append]
 subst hp
 simp [h]
theorem chP_len (la lb : List (Int × Int)) (k : Nat) : (chP la lb k).length ≤ k := by
 have := List.length_filterMap_le (fun (k : Nat) => if findL la (k : Int) = findL lb (k : Int) then none else some ((k : Int), findL lb (k : Int))) (List.range k)
 rw [List.length_range] at this
 exact this
theorem ownsRow.slice2 {w : World} {base e n sz : Nat} {v : Value} {xs : List Value} (h : w.ownsRow base e sz v n xs) : ∃ A cap, v = .slice A n cap ∧ n ≤ cap ∧ cap ≤ maxLen := by
 rcases h.2 with ⟨rfl, rfl⟩ | ⟨g, cap, cur, rfl, _, _, h3, h4, _⟩
 ·exact ⟨none, 0, rfl, Nat.le_refl _, Nat.zero_le _⟩
 ·exact ⟨_, cap, rfl, h3, h4⟩
structure ChAt (w : World) (mx my base : Nat) (oa ob la lb : List (Int × Int)) (k : Nat) (v : Value) (wr : World) : Prop where
 kept : Kept (fun _ => False) w wr
 x : wr.ownsMap Tryz.prog 3 (plainElem Tryz.prog 3) mx oa.length (outD oa)
 y : wr.ownsMap Tryz.prog 3 (plainElem Tryz.prog 3) my ob.length (outD ob)
 row : wr.ownsRow base 92 2 v (chP la lb k).length (entCells (chP la lb k))
 size : base ≤ wr.heap.size
theorem ChAt.next {w wr : World} {mx my base : Nat} {oa ob la lb : List (Int × Int)} {k : Nat} {v : Value} (h : ChAt w mx my base oa ob la lb k v wr) (e : findL la (k : Int) = findL lb (k : Int)) : ChAt w mx my base oa ob la lb (k + 1) v wr :=
 ⟨h.kept, h.x, h.y, by rw [chP_same e]; exact h.row, h.size⟩
theorem ChAt.more {w wr w' : World} {mx my base : Nat} {oa ob la lb : List (Int × Int)} {k : Nat} {v v' : Value} {p : Int} {o : Obj} (h : ChAt w mx my base oa ob la lb k v wr) (hne : findL la (k : Int) ≠ findL lb (k : Int)) (hp : findL lb (k : Int) = p) (hb : mx < base ∧ my < base ∧ w.heap.size ≤ base)
  (hown : w'.ownsRow base 92 2 v' ((chP la lb k).length + 1) (entCells (chP la lb k) ++ [.int .i64 (k : Int), .int .i64 p])) (hg : (wr.alloc o).grownBy w' v.ownBlock) : ChAt w mx my base oa ob la lb (k + 1) v' w' := by
 have k1 : Kept (fun _ => False) wr (wr.alloc o) := (Kept.refl _ _).alloc _
 have hlt := fun b (hb : v.ownBlock = some b) => h.row.lt b hb
 have k2 := Kept.of_grown hg
 refine ⟨(h.kept.trans k1).grown hg (fun k e => .inr (by have := (hlt k e).1; omega)), ownsMap_kept (ownsMap_kept h.x k1 id) k2 (fun e => by have := (hlt _ e).1; omega), ownsMap_kept (ownsMap_kept h.y k1 id) k2 (fun e => by have := (hlt _ e).1; omega), ?_, by have := h.size; have := k1.size; have := k2.size; omega⟩
 rw [chP_more hne hp, List.length_append, entCells_append]
 exact hown
set_option maxHeartbeats 16000000 in
theorem diffChanges {w : World} {A : SA} {m : Nat} {M : SM} (h : StoreAt w A M) {ra rb : Int} {la lb : List (Int × Int)} (ha : RootIs m M ra la) (hb : RootIs m M rb lb) :
  Calls Tryz.prog 50 #[.agg #[.pointer (some ⟨A.sb, 0, none⟩)], .int .i64 ra, .int .i64 rb] w fun e w' => ∃ v, e = .returned (.tuple #[v, .int .i64 0]) ∧ w'.ownsRow w.heap.size 92 2 v (changesL la lb).length (entCells (changesL la lb)) ∧ Kept (fun _ => False) w w' := by
 obtain ⟨db, hdb⟩ : ∃ db, w.heap.size = db := ⟨_, rfl⟩
 obtain ⟨w1, hw1⟩ : ∃ w1, w.alloc (.cells #[.pointer (some ⟨A.sb, 0, none⟩)] 30) = w1 := ⟨_, rfl⟩
 have k1 : Kept (fun _ => False) w w1 := by rw [← hw1]; exact (Kept.refl _ _).alloc _
 have t1 : w1.heap[db]? = some (.cells #[.pointer (some ⟨A.sb, 0, none⟩)] 30 (0, 0)) := by rw [← hw1, ← hdb]; exact heap_alloc_new _ _
 have ld1 := h_ (ptr_load' t1)
 have hSh := h_ (sharedAny (h.fresh k1) (ha.wf h) ha.okay.1 ha.okay.2 (hb.wf h) hb.okay.1 hb.okay.2)
 have hw1' := h_ hw1
 have hdb' := h_ hdb
 have t1' := h_ t1
 have k1' := h_ k1
 have h' := h_ h
 have ha' := h_ ha
 have hb' := h_ hb
 clear h hw1 hdb k1 t1 ha hb
 go_enter Tryz.func50, Tryz.ntmps50
 go_wp2_with (first | (refine wpList_box_named 30 rfl rfl _ rfl hw1'.out ?_; rw [hdb'.out]) | (refine wpList_load_agg 30 rfl rfl rfl _ Tryz.underlying30 rfl [.pointer (some ⟨A.sb, 0, none⟩)] (by kernel_rfl) ld1.out ?_))
 refine hSh.out.mono ?_
 rintro e w2 ⟨ms, n, D, Sa, Sb, rfl, hms, hn240, hown, hset, _, hSa, hSb, hk2⟩
 obtain ⟨oa, hOa, hSideA⟩ := ha'.out.own h'.out (fun x => decide (x ∈ Sa) && decide (x ∈ Sb))
 obtain ⟨ob, hOb, hSideB⟩ := hb'.out.own h'.out (fun x => decide (x ∈ Sa) && decide (x ∈ Sb))
 have hS : Hid (∀ q, (decide (q ∈ Sa) && decide (q ∈ Sb)) = true → (Below M ra q ∧ q ≠ -1) ∧ (Below M rb q ∧ q ≠ -1)) := h_ (fun q hq => by
  rw [Bool.and_eq_true, decide_eq_true_eq, decide_eq_true_eq] at hq
  exact ⟨(hSa q).1 hq.1, (hSb q).1 hq.2⟩)
 have hla : Hid (oa.length ≤ 64) := h_ (Nat.le_trans hSideA.sub.length_le (rises_len ha'.out.rises ha'.out.keys))
 have hlb : Hid (ob.length ≤ 64) := h_ (Nat.le_trans hSideB.sub.length_le (rises_len hb'.out.rises hb'.out.keys))
 obtain ⟨mx, hmx⟩ : ∃ mx, w2.heap.size = mx := ⟨_, rfl⟩
 obtain ⟨w3, hw3⟩ : ∃ w3, w2.alloc (.map #[] 0) = w3 := ⟨_, rfl⟩
 obtain ⟨my, hmy⟩ : ∃ my, w3.heap.size = my := ⟨_, rfl⟩
 obtain ⟨w4, hw4⟩ : ∃ w4, w3.alloc (.map #[] 0) = w4 := ⟨_, rfl⟩
 have k3 : Kept (fun _ => False) w2 w3 := by rw [← hw3]; exact (Kept.refl _ _).alloc _
 have k4 : Kept (fun _ => False) w3 w4 := by rw [← hw4]; exact (Kept.refl _ _).alloc _
 have mx3 : w3.ownsMap Tryz.prog 3 (plainElem Tryz.prog 3) mx 0 (outD []) := by rw [← hw3, ← hmx]; exact World.ownsMap_made w2 Tryz.prog 3 _
 have my4 : w4.ownsMap Tryz.prog 3 (plainElem Tryz.prog 3) my 0 (outD []) := by rw [← hw4, ← hmy]; exact World.ownsMap_made w3 Tryz.prog 3 _
 have mx4 := h_ (ownsMap_kept mx3 k4 id)
 have my4' := h_ my4
 have ks4 := h_ ((hk2.trans k3).trans k4)
 have hs4 := h_ (ownsMap_kept (ownsMap_kept hown k3 id) k4 id)
 have sx : Hid (ms < mx ∧ mx < my ∧ my < w4.heap.size ∧ w1.heap.size ≤ mx) := h_ ⟨by have := hown.lt; omega, by have := mx3.lt; omega, my4.lt, by have := hk2.size; omega⟩
 have ld4 := h_ (ptr_load' (ks4.out.get t1'.out id))
 have hA4 := h_ ((h'.out.fresh k1'.out).fresh ks4.out)
 have hset' := h_ hset
 have hOb' := h_ hOb
 have hCa := h_ (hOa w4 A ms n D mx [] hA4.out hs4.out hset mx4.out (by have := sx.out; omega) (fun e => by have := (h'.out.fresh k1'.out).lt e; have := sx.out; omega) (by have := hla.out; simp; omega))
 have hA' := h_ hSideA
 have hB' := h_ hSideB
 have hw3' := h_ hw3
 have hw4' := h_ hw4
 have hmx' := h_ hmx
 have hmy' := h_ hmy
 clear hown hset hSa hSb hk2 hOa hOb hSideA hSideB hmx hw3 hmy hw4 k3 k4 mx3 my4
 go_wp2_with (first | (simp only [run_makeMap, hw3'.out, hmx'.out, hw4'.out, hmy'.out]) | (refine wpList_load_agg 30 rfl rfl rfl _ Tryz.underlying30 rfl [.pointer (some ⟨A.sb, 0, none⟩)] (by kernel_rfl) ld4.out ?_))
 refine hCa.out.mono ?_
 rintro e w5 ⟨rfl, hx5, hk5⟩
 have kw5 := h_ (ks4.out.trans_new hk5 (fun i hi e => by have := sx.out; omega))
 have ld5 := h_ (ptr_load' (kw5.out.get t1'.out id))
 have hA5 := h_ ((h'.out.fresh k1'.out).fresh kw5.out)
 have hy5 := h_ (ownsMap_kept my4'.out hk5 (by have := sx.out; omega))
 have hs5 := h_ (ownsMap_kept hs4.out hk5 (by have := sx.out; omega))
 have hCb := h_ (hOb'.out w5 A ms n D my [] hA5.out hs5.out hset'.out hy5.out (by have := sx.out; omega) (fun e => by have := (h'.out.fresh k1'.out).lt e; have := sx.out; omega) (by have := hlb.out; simp; omega))
 have hx5' := h_ hx5
 clear hx5 hk5
 go_wp2_with (first | (refine wpList_load_agg 30 rfl rfl rfl _ Tryz.underlying30 rfl [.pointer (some ⟨A.sb, 0, none⟩)] (by kernel_rfl) ld5.out ?_))
 refine hCb.out.mono ?_
 rintro e w6 ⟨rfl, hy6, hk6⟩
 obtain ⟨base, hbase⟩ : ∃ base, w6.heap.size = base := ⟨_, rfl⟩
 have I6 := h_ (show ChAt w mx my base oa ob la lb 0 (.slice none 0 0) w6 from ⟨k1'.out.trans (kw5.out.trans_new hk6 (fun i hi e => by have := sx.out; omega)), by simpa using ownsMap_kept hx5'.out hk6 (by have := sx.out; omega), by simpa using hy6, World.ownsRow_nil _ _ _ _, by omega⟩)
 have sb : Hid (mx < base ∧ my < base ∧ w.heap.size ≤ base) := h_ ⟨by have := I6.out.x.lt; omega, by have := I6.out.y.lt; omega, by have := I6.out.kept.size; omega⟩
 clear hy6 hk6 hbase
 go_wp2_with fail
 go_loopw [14, 48] (fun v i wr => ∃ (k : Nat), k ≤ 64 ∧ i = .int .i64 k ∧ Hid (ChAt w mx my base oa ob la lb k v wr)) (fun _ i _ => 64 - (intOf i).toNat)
 case atStart => exact ⟨0, by decide, rfl, I6⟩
 case round =>
  obtain ⟨k, hk, rfl, hI⟩ := hrel
  obtain ⟨Av, cv, rfl, hcv, _⟩ := ownsRow.slice2 hI.out.row
  by_cases hlt : k < 64
  ·have hki : (k : Int) < 64 := by omega
   have hra := hA'.out.rises.sublist hA'.out.sub
   have hrb := hB'.out.rises.sublist hB'.out.sub
   have hkb : -9223372036854775808 ≤ (k : Int) ∧ (k : Int) ≤ 9223372036854775807 := by omega
   have hcl := chP_len la lb k
   have hsz := hI.out.size
   have hrow := h_ hI.out.row
   have hI' := h_ hI.out
   by_cases ey : ∃ p, ((k : Int), p) ∈ ob
   ·obtain ⟨py, hy⟩ := ey
    have ly := look_hit hI.out.y hrb hy hkb
    have fy : findL lb (k : Int) = py := own_find hB'.out hy
    have py0 := (hb'.out.pages _ (hB'.out.sub.subset hy)).1
    by_cases ex : ∃ p, ((k : Int), p) ∈ oa
    ·obtain ⟨px, hx⟩ := ex
     have lx := look_hit hI.out.x hra hx hkb
     have fx : findL la (k : Int) = px := own_find hA'.out hx
     by_cases e : px = py
     ·subst e
      have hee := h_ (fx.trans fy.symm)
      clear hI hx hy hra hrb fx fy py0 hkb hlt
      have fin := h_ (ChAt.next hI'.out hee.out)
      go_wp2_with fail
      go_roundw
      case rel => exact ⟨k + 1, by omega, by go_num, fin⟩
      case measure => simp [intOf]; omega
     ·have hee : Hid (findL la (k : Int) ≠ findL lb (k : Int)) := h_ (by rw [fx, fy]; exact e)
      have heb : (px == py) = false := by simpa using e
      have fy' := h_ fy
      clear hI hx hy hra hrb fx fy py0 e hkb
      go_wp2_with (at_builtin; refine wpList_append_src rfl elemChange (.tmp 74) (.tmp 78) rfl (by rfl) (by rfl) (ownsRow.keptOf hrow.out ((Kept.refl _ _).alloc _) (fun _ _ => id)) (SliceAt.block_new (ys := [.int .i64 (k : Int), .int .i64 py]) (m := 1) (heap_alloc_new _ _) rfl (by decide)) (by intro c hc; simp at hc; rcases hc with rfl | rfl <;> rfl) (by omega) (by omega) (Nat.le_trans hsz ((Kept.refl (fun _ => False) _).alloc _).size) ?_; intro v7 w7 hown7 hg7 hat7)
      have fin := h_ (ChAt.more hI'.out hee.out fy'.out sb.out hown7 hg7)
      clear hown7 hg7 hat7
      go_roundw
      case rel => exact ⟨k + 1, by omega, by go_num, fin⟩
      case measure => simp [intOf]; omega
    ·have hmiss : ∀ y ∈ oa, y.1 ≠ (k : Int) := fun y hy e => ex ⟨y.2, by rw [← e]; exact hy⟩
     have lx := look_miss hI.out.x hmiss hkb
     have fx := other_none hA'.out hB'.out hS.out hy hmiss
     have hee : Hid (findL la (k : Int) ≠ findL lb (k : Int)) := h_ (by rw [fx, fy]; dsimp only at py0; omega)
     have fy' := h_ fy
     clear hI hy hra hrb fx fy py0 ex hmiss hkb
     go_wp2_with (at_builtin; refine wpList_append_src rfl elemChange (.tmp 74) (.tmp 78) rfl (by rfl) (by rfl) (ownsRow.keptOf hrow.out ((Kept.refl _ _).alloc _) (fun _ _ => id)) (SliceAt.block_new (ys := [.int .i64 (k : Int), .int .i64 py]) (m := 1) (heap_alloc_new _ _) rfl (by decide)) (by intro c hc; simp at hc; rcases hc with rfl | rfl <;> rfl) (by omega) (by omega) (Nat.le_trans hsz ((Kept.refl (fun _ => False) _).alloc _).size) ?_; intro v7 w7 hown7 hg7 hat7)
     have fin := h_ (ChAt.more hI'.out hee.out fy'.out sb.out hown7 hg7)
     clear hown7 hg7 hat7
     go_roundw
     case rel => exact ⟨k + 1, by omega, by go_num, fin⟩
     case measure => simp [intOf]; omega
   ·have hmy2 : ∀ y ∈ ob, y.1 ≠ (k : Int) := fun y hy e => ey ⟨y.2, by rw [← e]; exact hy⟩
    have ly := look_miss hI.out.y hmy2 hkb
    by_cases ex : ∃ p, ((k : Int), p) ∈ oa
    ·obtain ⟨px, hx⟩ := ex
     have lx := look_hit hI.out.x hra hx hkb
     have fx : findL la (k : Int) = px := own_find hA'.out hx
     have px0 := (ha'.out.pages _ (hA'.out.sub.subset hx)).1
     have fy := other_none hB'.out hA'.out (fun q hq => (hS.out q hq).symm) hx hmy2
     have hee : Hid (findL la (k : Int) ≠ findL lb (k : Int)) := h_ (by rw [fx, fy]; dsimp only at px0; omega)
     have fy' : Hid (findL lb (k : Int) = -1) := h_ fy
     clear hI hx hra hrb fx fy px0 ey hmy2 hkb
     go_wp2_with (at_builtin; refine wpList_append_src rfl elemChange (.tmp 86) (.tmp 89) rfl (by rfl) (by rfl) (ownsRow.keptOf hrow.out ((Kept.refl _ _).alloc _) (fun _ _ => id)) (SliceAt.block_new (ys := [.int .i64 (k : Int), .int .i64 (-1)]) (m := 1) (heap_alloc_new _ _) rfl (by decide)) (by intro c hc; simp at hc; rcases hc with rfl | rfl <;> rfl) (by omega) (by omega) (Nat.le_trans hsz ((Kept.refl (fun _ => False) _).alloc _).size) ?_; intro v7 w7 hown7 hg7 hat7)
     have fin := h_ (ChAt.more hI'.out hee.out fy'.out sb.out hown7 hg7)
     clear hown7 hg7 hat7
     go_roundw
     case rel => exact ⟨k + 1, by omega, by go_num, fin⟩
     case measure => simp [intOf]; omega
    ·have hmx2 : ∀ y ∈ oa, y.1 ≠ (k : Int) := fun y hy e => ex ⟨y.2, by rw [← e]; exact hy⟩
     have lx := look_miss hI.out.x hmx2 hkb
     have hee := h_ (same_key hA'.out hB'.out hS.out hmx2 hmy2)
     clear hI hra hrb ex ey hmx2 hmy2 hkb
     have fin := h_ (ChAt.next hI'.out hee.out)
     go_wp2_with fail
     go_roundw
     case rel => exact ⟨k + 1, by omega, by go_num, fin⟩
     case measure => simp [intOf]; omega
  ·obtain rfl : k = 64 := by omega
   have hI' := h_ hI.out
   clear hI
   go_wp2_with fail
   go_ret2
   exact ⟨_, rfl, owns_weaken hI'.out.row sb.out.2.2, hI'.out.kept⟩
end Go.Proofs.YtidlchciehdefaaGreat
/-
 Two trees held against one another: the chapter's example, plain.
-/
namespace Go.Proofs.YtidlchciehdefaaGreat
open Go.RowKit

section
variable {M : SM} {ns : List Nat}
end
end Go.Proofs.YtidlchciehdefaaGreat
