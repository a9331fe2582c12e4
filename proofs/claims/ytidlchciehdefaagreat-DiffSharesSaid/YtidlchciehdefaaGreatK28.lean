/-
 Two trees held against one another, plain: what is in one, but for what is shared; where they differ.
-/
import Derived.Test.YtidlchciehdefaaGreatK19
import Derived.Test.YtidlchciehdefaaGreatK22
import Derived.Test.YtidlchciehdefaaGreatK26
import Derived.Test.YtidlchciehdefaaGreatK27
set_option linter.unusedVariables false
set_option linter.unusedSimpArgs false
namespace Go.Proofs.YtidlchciehdefaaGreat
open Go.RowKit

theorem tr_get {m : Nat} {M : SM} {h : Nat} {p : Int} {l : List (Int × Int)} (t : Tr m M h p l) : ∃ k n, h = k + 1 ∧ M.get p = (n, 0) ∧ n.ok ∧ M.nodeAt p.toNat = some n ∧ NTr (fun q a => Tr m M k q a ∧ m ≤ M.entN q) k n l ∧ p ≠ -1 := by
 cases h with
 | zero => exact t.elim
 | succ k =>
  obtain ⟨hp, n, hn, hok, hk⟩ := t
  refine ⟨k, n, rfl, ?_, hok, hn, hk, by have := (heldB_int hp).1; omega⟩
  unfold SM.get
  rw [if_pos hp, hn]
theorem kids_unique {T U : Int → List (Int × Int) → Prop} : ∀ {es l l' : List (Int × Int)}, (∀ e ∈ es, ∀ a b, T e.2 a → U e.2 b → a = b) → Kids T es l → Kids U es l' → l = l'
 | [], _, _, _, h, k => by rw [show _ = [] from h, show _ = [] from k]
 | e :: es, _, _, hT, ⟨a, b, x, h1, h2, _, _, h5⟩, ⟨a', b', x', k1, k2, _, _, k5⟩ => by
  rw [h1, k1, hT e (List.mem_cons_self ..) a a' h2 k2, kids_unique (fun e he => hT e (List.mem_cons_of_mem _ he)) h5 k5]
theorem tr_unique {m : Nat} {M : SM} : ∀ {h h' : Nat} {p : Int} {l l' : List (Int × Int)}, Tr m M h p l → Tr m M h' p l' → l = l'
 | 0, _, _, _, _, t, _ => t.elim
 | _ + 1, 0, _, _, _, _, t => t.elim
 | h + 1, h' + 1, p, l, l', ⟨_, n, hn, _, k⟩, ⟨_, n', hn', _, k'⟩ => by
  rw [hn] at hn'
  cases hn'
  rcases k with ⟨_, k2, k3⟩ | ⟨_, k2, k3⟩
  ·rcases k' with ⟨_, j2, j3⟩ | ⟨_, j2, j3⟩
   ·rw [← k3, ← j3]
   ·omega
  ·rcases k' with ⟨_, j2, j3⟩ | ⟨_, j2, j3⟩
   ·omega
   ·exact kids_unique (fun e _ a b ha hb => tr_unique ha.1 hb.1) k3 j3
theorem tr_below {m : Nat} {M : SM} {h : Nat} {p : Int} {l : List (Int × Int)} (t : Tr m M h p l) {q : Int} (hb : Below M p q) : ∃ h' a, h' ≤ h ∧ Tr m M h' q a ∧ ∀ y ∈ a, y ∈ l := by
 induction hb with
 | here => exact ⟨h, l, Nat.le_refl _, t, fun y hy => hy⟩
 | @kid x y _ hk hy ih =>
  obtain ⟨h', a, hle, t', hs⟩ := ih
  obtain ⟨k, n, rfl, hg, hok, hn, hN, _⟩ := tr_get t'
  rw [hg] at hk hy
  rcases hN with ⟨_, k2, _⟩ | ⟨_, _, k3⟩
  ·dsimp only at hk; omega
  ·obtain ⟨c, hc, hcs⟩ := k3.each y hy
   exact ⟨k, c, by omega, hc.1, fun z hz => hs z (hcs z hz)⟩
theorem below_ok {m : Nat} {M : SM} {h : Nat} {p : Int} {l : List (Int × Int)} (t : Tr m M h p l) : (∀ x, Below M p x → x = -1 ∨ (M.get x).2 = 0) ∧ ∀ x, Below M p x → (M.get x).1.kind = 3 → (M.get x).1.ents ≠ [] := by
 refine ⟨fun x hx => ?_, fun x hx hk => ?_⟩
 ·obtain ⟨h', a, _, t', _⟩ := tr_below t hx
  obtain ⟨k, n, _, hg, _⟩ := tr_get t'
  exact .inr (by rw [hg])
 ·obtain ⟨h', a, _, t', _⟩ := tr_below t hx
  obtain ⟨k, n, _, hg, hok, _⟩ := tr_get t'
  rw [hg] at hk ⊢
  dsimp only at hk ⊢
  exact List.length_pos_iff.1 (innerOk_of hok (by omega)).pos
theorem below_cases {M : SM} {p q : Int} (h : Below M p q) : q = p ∨ ((M.get p).1.kind = 3 ∧ ∃ y ∈ (M.get p).1.ents, Below M y.2 q) := by
 induction h with
 | here => exact .inl rfl
 | @kid x y _ hk hy ih =>
  rcases ih with e | ⟨k, z, hz, hb⟩
  ·subst e; exact .inr ⟨hk, y, hy, .here⟩
  ·exact .inr ⟨k, z, hz, .kid hb hk hy⟩
theorem below_neg {M : SM} {p : Int} {m h : Nat} {l : List (Int × Int)} (t : Tr m M h p l) {q : Int} (hb : Below M p q) : q ≠ -1 := by
 obtain ⟨_, _, _, t', _⟩ := tr_below t hb
 obtain ⟨_, _, _, _, _, _, _, e⟩ := tr_get t'
 exact e
def ownF (M : SM) (S : Int → Bool) : Nat → Int → List (Int × Int)
 | 0, _ => []
 | h + 1, r => if r = -1 ∨ S r = true then [] else ((M.get r).1.ents.map (fun y => if (M.get r).1.kind = 2 then [y] else ownF M S h y.2)).flatten
theorem own_ok {m : Nat} {M : SM} {S : Int → Bool} : ∀ {h d : Nat} {p : Int} {l : List (Int × Int)}, Tr m M h p l → d + h ≤ 8 → (-9223372036854775808 ≤ p ∧ p ≤ 9223372036854775807) → (∀ x y, Below M p x → y ∈ (M.get x).1.ents → 0 ≤ y.2 ∧ y.2 < 240) → OwnC M S d p (ownF M S h p)
 | 0, _, _, _, t, _, _, _ => t.elim
 | h + 1, d, p, l, t, hd, hp, hb => by
  obtain ⟨k, n, e, hg, hok, hn, hN, hp1⟩ := tr_get t
  obtain rfl : h = k := by omega
  unfold ownF
  by_cases hS : p = -1 ∨ S p = true
  ·rw [if_pos hS]; exact ownNone hp hS
  ·rw [if_neg hS]
   have hSp : S p = false := by
    cases e : S p with
    | false => rfl
    | true => exact absurd (.inr e) hS
   rw [hg]
   dsimp only
   rcases hN with ⟨_, k2, k3⟩ | ⟨_, k2, k3⟩
   ·exact ownNode hg hSp (.inl k2) (by omega) (fun _ y _ => by simp only [k2, if_true]) (fun e => by omega)
   ·refine ownNode hg hSp (.inr k2) (by omega) (fun e => by omega) (fun _ y hy => ?_)
    simp only [k2, show ¬ ((3 : Nat) = 2) by decide, if_false]
    obtain ⟨c, hc, _⟩ := k3.each y hy
    have hyb := hb p y .here (by rw [hg]; exact hy)
    refine own_ok hc.1 (by omega) (by omega) (fun x z hx hz => hb x z ?_ hz)
    have hbelow : Below M p y.2 := .kid .here (by rw [hg]; exact k2) (by rw [hg]; exact hy)
    clear hz
    induction hx with
    | here => exact hbelow
    | kid _ h1 h2 ih => exact .kid ih h1 h2
theorem flat_sub {T : Int → List (Int × Int) → Prop} {f : Int × Int → List (Int × Int)} : ∀ {es l : List (Int × Int)}, Kids T es l → (∀ e ∈ es, ∀ a, T e.2 a → (f e).Sublist a) → ((es.map f).flatten).Sublist l
 | [], _, h, _ => by rw [show _ = [] from h]; exact List.Sublist.refl _
 | e :: es, _, ⟨a, b, x, h1, h2, _, _, h5⟩, hf => by
  rw [h1, List.map_cons, List.flatten_cons]
  exact List.Sublist.append (hf e (List.mem_cons_self ..) a h2) (flat_sub h5 (fun e he => hf e (List.mem_cons_of_mem _ he)))
theorem flat_one : ∀ (l : List (Int × Int)), (l.map fun y => [y]).flatten = l
 | [] => rfl
 | y :: l => by rw [List.map_cons, List.flatten_cons, flat_one l]; rfl
theorem own_sub {m : Nat} {M : SM} {S : Int → Bool} : ∀ {h : Nat} {p : Int} {l : List (Int × Int)}, Tr m M h p l → (ownF M S h p).Sublist l
 | 0, _, _, t => t.elim
 | h + 1, p, l, t => by
  obtain ⟨k, n, e, hg, hok, hn, hN, hp1⟩ := tr_get t
  obtain rfl : h = k := by omega
  unfold ownF
  by_cases hS : p = -1 ∨ S p = true
  ·rw [if_pos hS]; exact List.nil_sublist _
  ·rw [if_neg hS, hg]
   dsimp only
   rcases hN with ⟨_, k2, k3⟩ | ⟨_, k2, k3⟩
   ·simp only [k2, if_true]
    rw [flat_one, k3]
    exact List.Sublist.refl _
   ·simp only [k2, show ¬ ((3 : Nat) = 2) by decide, if_false]
    exact flat_sub k3 (fun e _ a ha => own_sub ha.1)
theorem own_or {m : Nat} {M : SM} {S : Int → Bool} : ∀ {h : Nat} {p : Int} {l : List (Int × Int)}, Tr m M h p l → ∀ y ∈ l, y ∈ ownF M S h p ∨ ∃ q, Below M p q ∧ S q = true ∧ ∃ h' a, Tr m M h' q a ∧ y ∈ a
 | 0, _, _, t, _, _ => t.elim
 | h + 1, p, l, t, y, hy => by
  obtain ⟨k, n, e, hg, hok, hn, hN, hp1⟩ := tr_get t
  obtain rfl : h = k := by omega
  unfold ownF
  by_cases hS : S p = true
  ·exact .inr ⟨p, .here, hS, _, _, t, hy⟩
  ·rw [if_neg (by simp [hp1, hS]), hg]
   dsimp only
   rcases hN with ⟨_, k2, k3⟩ | ⟨_, k2, k3⟩
   ·simp only [k2, if_true]
    rw [flat_one, k3]
    exact .inl hy
   ·simp only [k2, show ¬ ((3 : Nat) = 2) by decide, if_false]
    obtain ⟨e, he, a, ha, hya⟩ := k3.in y hy
    rcases own_or (S := S) ha.1 y hya with h1 | ⟨q, hq, hs, r⟩
    ·exact .inl (List.mem_flatten.2 ⟨_, List.mem_map.2 ⟨e, he, rfl⟩, h1⟩)
    ·refine .inr ⟨q, ?_, hs, r⟩
     have hbelow : Below M p e.2 := .kid .here (by rw [hg]; exact k2) (by rw [hg]; exact he)
     clear hs r
     induction hq with
     | here => exact hbelow
     | kid _ h1 h2 ih => exact .kid ih h1 h2
theorem kids_same {T : Int → List (Int × Int) → Prop} (hT : ∀ q a b, T q a → T q b → a = b) : ∀ {es l : List (Int × Int)}, Kids T es l → RisesK l → ∀ e ∈ es, ∀ e' ∈ es, ∀ a a', T e.2 a → T e'.2 a' → RisesK a ∧ ∀ y ∈ a, ∀ z ∈ a', z.1 = y.1 → e = e'
 | [], _, _, _, e, he, _, _, _, _, _, _ => by cases he
 | f :: es, l, ⟨a0, b0, x, h1, h2, h3, h4, h5⟩, hr, e, he, e', he', a, a', ha, ha' => by
  rw [h1] at hr
  have hr' := List.pairwise_append.1 hr
  have hb : ∀ g ∈ es, ∀ c, T g.2 c → ∀ z ∈ c, z ∈ b0 := fun g hg c hc z hz => by
   obtain ⟨c', hc', hs⟩ := h5.each g hg
   rw [hT _ _ _ hc hc'] at hz
   exact hs z hz
  rcases List.mem_cons.1 he with rfl | he2
  ·rw [hT _ _ _ ha h2]
   refine ⟨hr'.1, fun y hy z hz hk => ?_⟩
   rcases List.mem_cons.1 he' with e2 | he2'
   ·exact e2.symm
   ·have := hr'.2.2 y hy z (hb e' he2' a' ha' z hz)
    omega
  ·rcases List.mem_cons.1 he' with e2 | he2'
   ·subst e2
    obtain ⟨c', hc', hs⟩ := h5.each e he2
    refine ⟨(kids_same hT h5 hr'.2.1 e he2 e he2 a a ha ha).1, fun y hy z hz hk => ?_⟩
    rw [hT _ _ _ ha' h2] at hz
    have := hr'.2.2 z hz y (hb e he2 a ha y hy)
    omega
   ·exact kids_same hT h5 hr'.2.1 e he2 e' he2' a a' ha ha'
theorem own_not {m : Nat} {M : SM} {S : Int → Bool} : ∀ {h : Nat} {p : Int} {l : List (Int × Int)}, Tr m M h p l → RisesK l → ∀ y ∈ ownF M S h p, ∀ q, Below M p q → S q = true → ∀ h' a, Tr m M h' q a → ∀ z ∈ a, z.1 ≠ y.1
 | 0, _, _, t, _, _, _, _, _, _, _, _, _, _, _ => t.elim
 | h + 1, p, l, t, hr, y, hy, q, hq, hs, h', a, ta, z, hz => by
  obtain ⟨k, n, e, hg, hok, hn, hN, hp1⟩ := tr_get t
  obtain rfl : h = k := by omega
  unfold ownF at hy
  by_cases hS : p = -1 ∨ S p = true
  ·rw [if_pos hS] at hy; cases hy
  ·rw [if_neg hS, hg] at hy
   dsimp only at hy
   rcases below_cases hq with e | ⟨hk3, e', he', hb'⟩
   ·exact absurd (.inr (e ▸ hs)) hS
   ·rw [hg] at hk3 he'
    dsimp only at hk3 he'
    rcases hN with ⟨_, k2, k3⟩ | ⟨_, k2, k3⟩
    ·omega
    ·simp only [k2, show ¬ ((3 : Nat) = 2) by decide, if_false] at hy
     obtain ⟨o, ho, hyo⟩ := List.mem_flatten.1 hy
     obtain ⟨e, he, rfl⟩ := List.mem_map.1 ho
     obtain ⟨c, hc, _⟩ := k3.each e he
     obtain ⟨c', hc', _⟩ := k3.each e' he'
     obtain ⟨h2, a2, _, t2, hsub⟩ := tr_below hc'.1 hb'
     have hzc : z ∈ c' := hsub z (by rw [tr_unique t2 ta]; exact hz)
     have hyc : y ∈ c := (own_sub hc.1).subset hyo
     obtain ⟨hrc, hsame⟩ := kids_same (fun q a b ha hb => tr_unique ha.1 hb.1) k3 hr e he e' he' c c' hc hc'
     intro hk
     have := hsame y hyc z hzc hk
     subst this
     exact own_not hc.1 hrc y hyo q hb' hs h' a ta z hz hk
structure Side (m : Nat) (M : SM) (S : Int → Bool) (r : Int) (l own : List (Int × Int)) : Prop where
 sub : own.Sublist l
 or_ : ∀ y ∈ l, y ∈ own ∨ ∃ q, Below M r q ∧ q ≠ -1 ∧ S q = true ∧ ∃ h' a, Tr m M h' q a ∧ y ∈ a
 not_ : ∀ y ∈ own, ∀ q, Below M r q → q ≠ -1 → S q = true → ∀ h' a, Tr m M h' q a → ∀ z ∈ a, z.1 ≠ y.1
 below : ∀ q, Below M r q → q ≠ -1 → ∃ h' a, Tr m M h' q a ∧ ∀ y ∈ a, y ∈ l
 rises : RisesK l
theorem side_of {m : Nat} {M : SM} {S : Int → Bool} {r : Int} {l : List (Int × Int)} {h : Nat} (t : Tr m M h r l) (hr : RisesK l) : Side m M S r l (ownF M S h r) :=
 ⟨own_sub t, fun y hy => (own_or t y hy).imp id fun ⟨q, h1, h2, h3⟩ => ⟨q, h1, below_neg t h1, h2, h3⟩, fun y hy q h1 _ h2 => own_not t hr y hy q h1 h2, fun q h1 _ => by obtain ⟨h', a, _, h3, h4⟩ := tr_below t h1; exact ⟨h', a, h3, h4⟩, hr⟩
theorem side_none (m : Nat) (M : SM) (S : Int → Bool) : Side m M S (-1) [] [] :=
 ⟨List.Sublist.refl _, (fun y hy => by cases hy), (fun y hy => by cases hy), fun q h1 h2 => absurd (below_none h1) h2, List.Pairwise.nil⟩
theorem findL_mem : ∀ {l : List (Int × Int)}, RisesK l → ∀ {y : Int × Int}, y ∈ l → findL l y.1 = y.2
 | [], _, _, h => by cases h
 | x :: l, hr, y, h => by
  have hr' := List.pairwise_cons.1 hr
  unfold findL
  rcases List.mem_cons.1 h with rfl | h
  ·rw [if_pos rfl]
  ·rw [if_neg (by have := hr'.1 y h; omega)]
   exact findL_mem hr'.2 h
section
variable {m : Nat} {M : SM} {S : Int → Bool} {ra rb : Int} {la lb oa ob : List (Int × Int)}
theorem same_key (A : Side m M S ra la oa) (B : Side m M S rb lb ob) (hS : ∀ q, S q = true → (Below M ra q ∧ q ≠ -1) ∧ (Below M rb q ∧ q ≠ -1)) {k : Int} (ha : ∀ y ∈ oa, y.1 ≠ k) (hb : ∀ y ∈ ob, y.1 ≠ k) : findL la k = findL lb k := by
 by_cases h : ∃ y ∈ la, y.1 = k
 ·obtain ⟨y, hy, rfl⟩ := h
  rcases A.or_ y hy with h | ⟨q, _, hq1, hs, h', a, t, hya⟩
  ·exact absurd rfl (ha y h)
  ·obtain ⟨h2, a2, t2, hsub⟩ := B.below q (hS q hs).2.1 hq1
   rw [tr_unique t t2] at hya
   rw [findL_mem A.rises hy, findL_mem B.rises (hsub y hya)]
 ·rw [findL_none (fun y hy e => h ⟨y, hy, e⟩)]
  by_cases h2 : ∃ y ∈ lb, y.1 = k
  ·obtain ⟨y, hy, rfl⟩ := h2
   rcases B.or_ y hy with h2 | ⟨q, _, hq1, hs, h', a, t, hya⟩
   ·exact absurd rfl (hb y h2)
   ·obtain ⟨h3, a3, t3, hsub⟩ := A.below q (hS q hs).1.1 hq1
    rw [tr_unique t t3] at hya
    exact absurd ⟨y, hsub y hya, rfl⟩ h
  ·rw [findL_none (fun y hy e => h2 ⟨y, hy, e⟩)]
theorem own_find (A : Side m M S ra la oa) {y : Int × Int} (hy : y ∈ oa) : findL la y.1 = y.2 := findL_mem A.rises (A.sub.subset hy)
theorem other_none (A : Side m M S ra la oa) (B : Side m M S rb lb ob) (hS : ∀ q, S q = true → (Below M ra q ∧ q ≠ -1) ∧ (Below M rb q ∧ q ≠ -1)) {y : Int × Int} (hy : y ∈ ob) (ha : ∀ x ∈ oa, x.1 ≠ y.1) : findL la y.1 = -1 := by
 refine findL_none fun x hx e => ?_
 rcases A.or_ x hx with h | ⟨q, _, hq1, hs, h', a, t, hxa⟩
 ·exact ha x h e
 ·exact B.not_ y hy q (hS q hs).2.1 hq1 hs h' a t x hxa e
end
def changesL (la lb : List (Int × Int)) : List (Int × Int) := (List.range 64).filterMap fun (k : Nat) => if findL la (k : Int) = findL lb (k : Int) then none else some ((k : Int), findL lb (k : Int))
section
variable {m : Nat} {M M' : SM}
theorem get_grown (g : Grown M M') {x : Int} (hx : M.pool.heldB x = true) : M'.get x = M.get x := by
 unfold SM.get
 rw [if_pos hx, if_pos (g.held hx), g.node _ (heldB_int hx).2]
theorem below_grown (g : Grown M M') {h : Nat} {p : Int} {l : List (Int × Int)} (t : Tr m M h p l) (q : Int) : Below M' p q ↔ Below M p q := by
 constructor
 ·intro hb
  induction hb with
  | here => exact .here
  | @kid x y _ hk hy ih =>
   obtain ⟨_, _, _, t', _⟩ := tr_below t ih
   rw [get_grown g t'.held] at hk hy
   exact .kid ih hk hy
 ·intro hb
  induction hb with
  | here => exact .here
  | @kid x y hx hk hy ih =>
   obtain ⟨_, _, _, t', _⟩ := tr_below t hx
   rw [← get_grown g t'.held] at hk hy
   exact .kid ih hk hy
theorem below_trans {p q r : Int} (h : Below M p q) (k : Below M q r) : Below M p r := by
 induction k with
 | here => exact h
 | kid _ hk hy ih => exact .kid ih hk hy
theorem get_node {p : Int} {n : NM} (hp : M.pool.heldB p = true) (hn : M.nodeAt p.toNat = some n) : M.get p = (n, 0) := by
 unfold SM.get
 rw [if_pos hp, hn]
theorem made_below {n : NM} {ext : Nat → Nat} {i : Nat} (H : Made M n ext M' i) (hkids : n.kind = 3 → ∀ e ∈ n.ents, ∃ h a, Tr m M h e.2 a) (q : Int) : Below M' (i : Int) q ↔ q = (i : Int) ∨ (n.kind = 3 ∧ ∃ e ∈ n.ents, Below M e.2 q) := by
 have hg : M'.get (i : Int) = (n, 0) := get_node (by rw [heldB_nat]; exact H.live) (by rw [Int.toNat_natCast]; exact H.node)
 constructor
 ·intro hb
  rcases below_cases hb with e | ⟨hk, y, hy, hb⟩
  ·exact .inl e
  ·rw [hg] at hk hy
   obtain ⟨h, a, t⟩ := hkids hk y hy
   exact .inr ⟨hk, y, hy, (below_grown H.grown t q).1 hb⟩
 ·rintro (e | ⟨hk, y, hy, hb⟩)
  ·rw [e]; exact .here
  ·obtain ⟨h, a, t⟩ := hkids hk y hy
   exact below_trans (.kid .here (by rw [hg]; exact hk) (by rw [hg]; exact hy)) ((below_grown H.grown t q).2 hb)
structure Parts (M : SM) (n : NM) (M' : SM) (out : List (Int × Int)) : Prop where
 new : ∀ o ∈ out, ∀ q, Below M' o.2 q → M.live q.toNat = false ∨ (n.kind = 3 ∧ ∃ e ∈ n.ents, Below M e.2 q)
 old : n.kind = 3 → ∀ e ∈ n.ents, ∀ q, Below M e.2 q → ∃ o ∈ out, Below M' o.2 q
theorem NTr.kids {h : Nat} {n : NM} {l : List (Int × Int)} (t : NTr (Sub m M h) h n l) (hk : n.kind = 3) : ∀ e ∈ n.ents, ∃ h a, Tr m M h e.2 a := fun e he => by
 rcases t with ⟨_, k2, _⟩ | ⟨_, _, K⟩
 ·omega
 ·obtain ⟨a, ha, _⟩ := K.each e he
  exact ⟨h, a, ha.1⟩
theorem not_live (g : Grown M M') {i : Nat} (h : M'.live i = false) : M.live i = false := by
 cases e : M.live i with
 | false => rfl
 | true => rw [g.live i e] at h; cases h
theorem split_parts {ext : Nat → Nat} (E : Exact M ext) {h : Nat} {n : NM} {l : List (Int × Int)} (t : NTr (Sub m M h) h n l) (g : Good M l) (h1 : 1 ≤ n.ents.length) (h12 : n.ents.length ≤ 12) (he : (M.split n).2.2 = 0) : Parts M n (M.split n).1 (M.split n).2.1 := by
 unfold SM.split at he ⊢
 rw [if_neg (by omega)] at he ⊢
 by_cases h6 : n.ents.length ≤ 6
 ·have hp : partsOf n.ents = [n.ents] := by unfold partsOf; rw [if_neg (by omega), if_neg (by omega)]
  rw [hp, makes_cons] at he ⊢
  have t' : NTr (Sub m M h) h ⟨n.kind, zeros16, n.ents⟩ l := by
   rcases t with ⟨a, b, c⟩ | ⟨a, b, c⟩
   ·exact .inl ⟨a, b, c⟩
   ·exact .inr ⟨a, b, c⟩
  rcases make_tr E t' g h1 h6 with ⟨i, e, H, hT, hN⟩ | ⟨e, hf⟩ | ⟨e, hc⟩
  ·obtain ⟨M', hM'⟩ : ∃ M', (M.make ⟨n.kind, zeros16, n.ents⟩).1 = M' := ⟨_, rfl⟩
   rw [hM'] at H hT hN he ⊢
   rw [e] at he ⊢
   dsimp only at he ⊢
   rw [if_pos rfl, makes_nil] at he ⊢
   have hB := made_below H t'.kids
   refine ⟨fun o ho q hq => ?_, fun hk e' he' q hq => ⟨_, List.mem_singleton.2 rfl, (hB q).2 (.inr ⟨hk, e', he', hq⟩)⟩⟩
   rw [List.mem_singleton.1 ho] at hq
   rcases (hB q).1 hq with e | e
   ·left; rw [e, Int.toNat_natCast]; exact H.new
   ·exact .inr e
  ·rw [e] at he
   dsimp only at he
   rw [if_neg (by decide)] at he
   cases he
  ·rw [e] at he
   dsimp only at he
   rw [if_neg (by decide)] at he
   cases he
 ·have hp : partsOf n.ents = [n.ents.take (n.ents.length / 2), n.ents.drop (n.ents.length / 2)] := by unfold partsOf; rw [if_neg (by omega), if_pos (by omega)]
  rw [hp, makes_cons] at he ⊢
  obtain ⟨e1, he1⟩ : ∃ e1, n.ents.take (n.ents.length / 2) = e1 := ⟨_, rfl⟩
  obtain ⟨e2, he2⟩ : ∃ e2, n.ents.drop (n.ents.length / 2) = e2 := ⟨_, rfl⟩
  have hee : n.ents = e1 ++ e2 := by rw [← he1, ← he2, List.take_append_drop]
  have hl1 : e1.length = n.ents.length / 2 := by rw [← he1, List.length_take]; omega
  have hl2 : e2.length = n.ents.length - n.ents.length / 2 := by rw [← he2, List.length_drop]
  rw [he1, he2] at he ⊢
  obtain ⟨l1, l2, hll, t1, t2⟩ := t.parts hee
  have g1 : Good M l1 := Good.left (b := l2) (by rw [← hll]; exact g)
  have g2 : Good M l2 := Good.right (a := l1) (by rw [← hll]; exact g)
  rcases make_tr E t1 g1 (by omega) (by omega) with ⟨i, e, H, hT, hN⟩ | ⟨e, hf⟩ | ⟨e, hc⟩
  ·obtain ⟨M', hM'⟩ : ∃ M', (M.make ⟨n.kind, zeros16, e1⟩).1 = M' := ⟨_, rfl⟩
   rw [hM'] at H hT hN he ⊢
   rw [e] at he ⊢
   dsimp only at he ⊢
   rw [if_pos rfl, makes_cons] at he ⊢
   have t2' : NTr (Sub m M' h) h ⟨n.kind, zeros16, e2⟩ l2 := t2.mono fun e _ a ha => Sub.grown H.grown ha
   have g2' := g2.grown H.grown
   rcases make_tr H.exact t2' g2' (by omega) (by omega) with ⟨j, f, K, kT, kN⟩ | ⟨f, hf⟩ | ⟨f, hc⟩
   ·obtain ⟨M2, hM2⟩ : ∃ M2, (M'.make ⟨n.kind, zeros16, e2⟩).1 = M2 := ⟨_, rfl⟩
    rw [hM2] at K kT kN he ⊢
    rw [f] at he ⊢
    dsimp only at he ⊢
    rw [if_pos rfl, makes_nil] at he ⊢
    have hB1 := made_below H t1.kids
    have hB2 := made_below K t2'.kids
    have hI := below_grown K.grown hT
    refine ⟨fun o ho q hq => ?_, fun hk e' he' q hq => ?_⟩
    ·rcases List.mem_cons.1 ho with rfl | ho
     ·rcases (hB1 q).1 ((hI q).1 hq) with e | ⟨hk, y, hy, hb⟩
      ·left; rw [e, Int.toNat_natCast]; exact H.new
      ·exact .inr ⟨hk, y, by rw [hee]; exact List.mem_append_left _ hy, hb⟩
     ·rw [List.mem_singleton.1 ho] at hq
      rcases (hB2 q).1 hq with e | ⟨hk, y, hy, hb⟩
      ·left; rw [e, Int.toNat_natCast]; exact not_live H.grown K.new
      ·obtain ⟨hh, a, ht⟩ := t2.kids hk y hy
       exact .inr ⟨hk, y, by rw [hee]; exact List.mem_append_right _ hy, (below_grown H.grown ht q).1 hb⟩
    ·rw [hee] at he'
     rcases List.mem_append.1 he' with hy | hy
     ·exact ⟨_, List.mem_cons_self .., (hI q).2 ((hB1 q).2 (.inr ⟨hk, e', hy, hq⟩))⟩
     ·obtain ⟨hh, a, ht⟩ := t2.kids hk e' hy
      exact ⟨_, List.mem_cons_of_mem _ (List.mem_cons_self ..), (hB2 q).2 (.inr ⟨hk, e', hy, (below_grown H.grown ht q).2 hq⟩)⟩
   ·rw [f] at he
    dsimp only at he
    rw [if_neg (by decide)] at he
    cases he
   ·rw [f] at he
    dsimp only at he
    rw [if_neg (by decide)] at he
    cases he
  ·rw [e] at he
   dsimp only at he
   rw [if_neg (by decide)] at he
   cases he
  ·rw [e] at he
   dsimp only at he
   rw [if_neg (by decide)] at he
   cases he
end
theorem putF_below {m : Nat} (hm : m ≤ 3) {ext : Nat → Nat} {x : Int × Int} (x0 : 0 ≤ x.1) (x1 : x.1 < 64) : ∀ (h d : Nat) (M : SM) (l : List (Int × Int)) (root : Int), h + 1 + d ≤ 8 → Exact M ext → Tr m M (h + 1) root l → Good M l → M.pool.heldB x.2 = true → (SM.putF (9 - d) M root x).2.2 = 0 →
  (0 < h → ∀ e ∈ (SM.putF (9 - d) M root x).2.1.ents, ∀ q, Below (SM.putF (9 - d) M root x).1 e.2 q → Below M root q ∨ M.live q.toNat = false) ∧
   ∃ L : List Int, L.length ≤ h + 1 ∧ ∀ q, Below M root q → q ∈ L ∨ (0 < h ∧ ∃ e ∈ (SM.putF (9 - d) M root x).2.1.ents, Below (SM.putF (9 - d) M root x).1 e.2 q) := by
 intro h
 induction h with
 | zero =>
  intro d M l root hd E t g hx _
  refine ⟨fun h0 => absurd h0 (Nat.lt_irrefl 0), [root], Nat.le_refl _, fun q hq => .inl (List.mem_singleton.2 ?_)⟩
  obtain ⟨hp, n, hn, _, k⟩ := t
  rcases below_cases hq with e | ⟨hk, _⟩
  ·exact e
  ·rw [get_node hp hn] at hk
   rcases k with ⟨_, k2, _⟩ | ⟨h0, _⟩
   ·dsimp only at hk; omega
   ·exact absurd h0 (Nat.lt_irrefl _)
 | succ h ih =>
  intro d M l root hd E t g hx
  obtain ⟨n, hn, hna, hok, k⟩ := tnode_tr t (d := d) (by omega)
  have hin := innerOk_of hok (by have := k.kind; omega)
  have ge := k.good g
  rw [show 9 - d = (8 - d) + 1 by omega, putF_succ, show 8 - (8 - d) = d by omega, hn]
  dsimp only
  have hroot : M.get root = (n, 0) := get_node t.held hna
  rcases k with ⟨h0, _⟩ | ⟨_, hk, hK⟩
  ·omega
  ·rw [if_pos rfl, if_pos hk]
   have hb := atI_bound (l := n.ents) x.1
   obtain ⟨c, hc⟩ := Int.eq_ofNat_of_zero_le (show 0 ≤ atI n.ents x.1 + 1 by omega)
   obtain ⟨hcl, hc1, hc2⟩ := atI_cut ge.1 x.1 hc.symm
   obtain ⟨i, hi⟩ : ∃ i, (atI n.ents x.1).toNat = i := ⟨_, rfl⟩
   have hic : i = c - 1 := by omega
   have hil : i < n.ents.length := by have := hin.pos; omega
   rw [hi]
   have hg : n.ents.getD i (0, 0) = n.ents[i] := by simp [List.getD, List.getElem?_eq_getElem hil]
   have hes : n.ents = n.ents.take i ++ n.ents[i] :: n.ents.drop (i + 1) := by rw [← List.drop_eq_getElem_cons hil, List.take_append_drop]
   rw [hg]
   obtain ⟨e, he⟩ : ∃ e, n.ents[i] = e := ⟨_, rfl⟩
   obtain ⟨es1, he1⟩ : ∃ es1, n.ents.take i = es1 := ⟨_, rfl⟩
   obtain ⟨es2, he2⟩ : ∃ es2, n.ents.drop (i + 1) = es2 := ⟨_, rfl⟩
   have hl1 : es1.length = i := by rw [← he1, List.length_take]; omega
   have hl2 : es2.length = n.ents.length - (i + 1) := by rw [← he2, List.length_drop]
   have hee1 : 0 < c → e.1 ≤ x.1 := fun h0 => hc1 e (by rw [← he, List.mem_take_iff_getElem]; exact ⟨i, by omega, rfl⟩)
   have hee2 : ∀ f ∈ es2, x.1 < f.1 := fun f hf => hc2 f (by
    rw [← he2] at hf
    by_cases h0 : c = 0
    ·rw [h0, List.drop_zero]; exact List.mem_of_mem_drop hf
    ·rw [show c = i + 1 by omega]; exact hf)
   rw [he, he1, he2] at hes ⊢
   rw [hes] at hK
   obtain ⟨a, b, hab, hK1, s, tt, y, hst, hT, hy, hye, hK2⟩ := hK.cut
   subst hab hst
   have ga : ∀ z ∈ a, z.1 < x.1 := fun z hz => by
    by_cases h0 : c = 0
    ·have : es1 = [] := List.eq_nil_of_length_eq_zero (by omega)
     rw [this] at hK1
     rw [show a = [] from hK1] at hz
     cases hz
    ·have h1 := hee1 (by omega)
     have hys : y ∈ s ++ tt := List.mem_append_left _ (List.mem_of_mem_head? (by rw [hy]; rfl))
     have := (List.pairwise_append.1 g.1).2.2 z hz y hys
     omega
   have gt : ∀ z ∈ tt, x.1 < z.1 := fun z hz => by
    cases es2 with
    | nil => rw [show tt = [] from hK2] at hz; cases hz
    | cons f es2 =>
     obtain ⟨u, hu, hue⟩ := hK2.head
     have h1 := hee2 f (List.mem_cons_self ..)
     have h2 := head_le g.right.right.1 hu z hz
     omega
   have gs : Good M s := g.right.left
   have hr := putF_ok hm x0 x1 h (d + 1) M s e.2 (by omega) E hT.1 gs hx
   have hq := ih (d + 1) M s e.2 (by omega) E hT.1 gs hx
   rw [show 9 - (d + 1) = 8 - d by omega] at hr hq
   obtain ⟨R, hR⟩ : ∃ R, SM.putF (8 - d) M e.2 x = R := ⟨_, rfl⟩
   rw [hR] at hr hq ⊢
   obtain ⟨M1, n1, er⟩ := R
   dsimp only at hr hq ⊢
   rcases hr with ⟨rfl, P⟩ | ⟨rfl, hf⟩ | ⟨rfl, hf⟩
   ·obtain ⟨q1, L1, q2, q3⟩ := hq rfl
    rw [if_pos rfl]
    have hen := P.entN
    have hlo := P.lo
    have hhi := P.hi
    have gs' : Good M1 (putL s x) := (gs.put x0 x1 hx).grown P.grown
    have hsp := split_ok P.exact P.tr gs' (by omega) (by omega)
    have hpt := split_parts P.exact P.tr gs' (by omega) (by omega)
    obtain ⟨R, hR2⟩ : ∃ R, M1.split n1 = R := ⟨_, rfl⟩
    rw [hR2] at hsp hpt ⊢
    obtain ⟨M2, out, er⟩ := R
    dsimp only at hsp hpt ⊢
    rcases hsp with ⟨rfl, S⟩ | ⟨rfl, hf⟩ | ⟨rfl, hf⟩
    ·rw [if_pos rfl]
     intro _
     have G := P.grown.trans S.grown
     have Q := hpt rfl
     have hk1 : n1.kind = 3 → 0 < h := fun hk1 => by
      rcases P.tr with ⟨_, k2, _⟩ | ⟨h0, _⟩
      ·omega
      ·exact h0
     have hside : ∀ f, f ∈ es1 ∨ f ∈ es2 → ∀ q, Below M2 f.2 q ↔ Below M f.2 q := fun f hf q => by
      rcases hf with hf | hf
      ·obtain ⟨z, hz, _⟩ := hK1.each f hf
       exact below_grown G hz.1 q
      ·obtain ⟨z, hz, _⟩ := hK2.each f hf
       exact below_grown G hz.1 q
     have hup : ∀ f ∈ n.ents, ∀ q, Below M f.2 q → Below M root q := fun f hf q hb => below_trans (.kid .here (by rw [hroot]; exact hk) (by rw [hroot]; exact hf)) hb
     refine ⟨fun _ f hf q hb => ?_, root :: L1, by rw [List.length_cons]; omega, fun q hb => ?_⟩
     ·have hf : f ∈ es1 ++ out ++ es2 := hf
      rcases List.mem_append.1 hf with hf | hf
      ·rcases List.mem_append.1 hf with hf | hf
       ·exact .inl (hup f (by rw [hes]; exact List.mem_append_left _ hf) q ((hside f (.inl hf) q).1 hb))
       ·rcases Q.new f hf q hb with h0 | ⟨k1, e', he', hb⟩
        ·exact .inr (not_live P.grown h0)
        ·rcases q1 (hk1 k1) e' he' q hb with hb | h0
         ·exact .inl (hup e (by rw [hes]; exact List.mem_append_right _ (List.mem_cons_self ..)) q hb)
         ·exact .inr h0
      ·exact .inl (hup f (by rw [hes]; exact List.mem_append_right _ (List.mem_cons_of_mem _ hf)) q ((hside f (.inr hf) q).1 hb))
     ·show _ ∨ (_ ∧ ∃ f ∈ es1 ++ out ++ es2, Below M2 f.2 q)
      rcases below_cases hb with e0 | ⟨_, f, hf, hb⟩
      ·exact .inl (by rw [e0]; exact List.mem_cons_self ..)
      ·rw [hroot] at hf
       have hf : f ∈ n.ents := hf
       rw [hes] at hf
       rcases List.mem_append.1 hf with hf | hf
       ·exact .inr ⟨by omega, f, List.mem_append_left _ (List.mem_append_left _ hf), (hside f (.inl hf) q).2 hb⟩
       ·rcases List.mem_cons.1 hf with rfl | hf
        ·rcases q3 q hb with h0 | ⟨h0, e', he', hb⟩
         ·exact .inl (List.mem_cons_of_mem _ h0)
         ·have k3 : n1.kind = 3 := by
           rcases P.tr with ⟨h1, _⟩ | ⟨_, k3, _⟩
           ·omega
           ·exact k3
          obtain ⟨o, ho, hb⟩ := Q.old k3 e' he' q hb
          exact .inr ⟨by omega, o, List.mem_append_left _ (List.mem_append_right _ ho), hb⟩
        ·exact .inr ⟨by omega, f, List.mem_append_right _ hf, (hside f (.inr hf) q).2 hb⟩
    ·rw [if_neg (by decide)]
     intro h0; cases h0
    ·rw [if_neg (by decide)]
     intro h0; cases h0
   ·rw [if_neg (by decide)]
    intro h0; cases h0
   ·rw [if_neg (by decide)]
    intro h0; cases h0
theorem top_below {m : Nat} (hm : m ≤ 3) {M : SM} {ext : Nat → Nat} (E : Exact M ext) {h : Nat} {n : NM} {l : List (Int × Int)} (t : NTr (Sub m M h) h n l) (g : Good M l) (h1 : 1 ≤ n.ents.length) (h12 : n.ents.length ≤ 12) (he : (M.top n).2.2 = 0) :
  (∀ q, Below (M.top n).1 (M.top n).2.1 q → M.live q.toNat = false ∨ (n.kind = 3 ∧ ∃ e ∈ n.ents, Below M e.2 q)) ∧ (n.kind = 3 → ∀ e ∈ n.ents, ∀ q, Below M e.2 q → Below (M.top n).1 (M.top n).2.1 q) := by
 unfold SM.top at he ⊢
 dsimp only at he ⊢
 have hsp := split_ok E t g h1 h12
 have hpt := split_parts E t g h1 h12
 obtain ⟨R, hR⟩ : ∃ R, M.split n = R := ⟨_, rfl⟩
 rw [hR] at hsp hpt he ⊢
 obtain ⟨M1, out, er⟩ := R
 dsimp only at hsp hpt he ⊢
 rcases hsp with ⟨rfl, S⟩ | ⟨rfl, hf⟩ | ⟨rfl, hf⟩
 ·rw [if_pos rfl] at he ⊢
  have Q := hpt rfl
  have b3 := S.len
  by_cases h6 : n.ents.length ≤ 6
  ·rw [if_neg (by omega)] at b3
   rw [if_neg (by omega), if_neg (by omega)]
   obtain ⟨k, i, ho, _⟩ := S.one h6
   rw [ho] at Q ⊢
   refine ⟨fun q hq => Q.new _ (List.mem_singleton.2 rfl) q hq, fun hk e he q hq => ?_⟩
   obtain ⟨o, hom, hb⟩ := Q.old hk e he q hq
   rw [List.mem_singleton.1 hom] at hb
   exact hb
  ·rw [if_pos (by omega)] at b3
   rw [if_pos (by omega)] at he ⊢
   have hK := S.kids hm (by omega)
   have g1 := g.grown S.grown
   have t2 : NTr (Sub m M1 (h + 1)) (h + 1) ⟨3, List.replicate 16 0, out⟩ l := .inr ⟨by omega, rfl, hK⟩
   have hsp2 := split_ok S.exact t2 g1 (by show 1 ≤ out.length; omega) (by show out.length ≤ 12; omega)
   have hpt2 := split_parts S.exact t2 g1 (by show 1 ≤ out.length; omega) (by show out.length ≤ 12; omega)
   obtain ⟨R, hR⟩ : ∃ R, M1.split ⟨3, List.replicate 16 0, out⟩ = R := ⟨_, rfl⟩
   rw [hR] at hsp2 hpt2 he ⊢
   obtain ⟨M2, out2, er⟩ := R
   dsimp only at hsp2 hpt2 he ⊢
   rcases hsp2 with ⟨rfl, S2⟩ | ⟨rfl, hf⟩ | ⟨rfl, hf⟩
   ·rw [if_pos rfl]
    have Q2 := hpt2 rfl
    have c3 := S2.len
    dsimp only at c3
    rw [if_neg (by omega)] at c3
    rw [if_neg (by omega)]
    obtain ⟨k, i, ho, _⟩ := S2.one (by show out.length ≤ 6; omega)
    rw [ho] at Q2 ⊢
    refine ⟨fun q hq => ?_, fun hk e he q hq => ?_⟩
    ·rcases Q2.new _ (List.mem_singleton.2 rfl) q hq with h0 | ⟨_, o, hom, hb⟩
     ·exact .inl (not_live S.grown h0)
     ·exact Q.new o hom q hb
    ·obtain ⟨o, hom, hb⟩ := Q.old hk e he q hq
     obtain ⟨o2, hom2, hb2⟩ := Q2.old rfl o hom q hb
     rw [List.mem_singleton.1 hom2] at hb2
     exact hb2
   ·rw [if_neg (by decide)] at he
    cases he
   ·rw [if_neg (by decide)] at he
    cases he
 ·rw [if_neg (by decide)] at he
  cases he
 ·rw [if_neg (by decide)] at he
  cases he
theorem put_below {m : Nat} (hm : m ≤ 3) {M : SM} {ext : Nat → Nat} (E : Exact M ext) {h : Nat} {root key page : Int} {l : List (Int × Int)} (t : Tr m M h root l) (h8 : h ≤ 8) (g : Good M l) (hx : M.pool.heldB page = true) (k0 : 0 ≤ key) (k1 : key < 64) (he : (M.put root key page).2.2 = 0) :
  (∀ q, Below (M.put root key page).1 (M.put root key page).2.1 q → Below M root q ∨ M.live q.toNat = false) ∧ ∃ L : List Int, L.length ≤ h ∧ ∀ q, Below M root q → q ∈ L ∨ Below (M.put root key page).1 (M.put root key page).2.1 q := by
 have hne : root ≠ -1 := fun e => by have := (heldB_int t.held).1; omega
 unfold SM.put at he ⊢
 rw [if_neg (by omega), if_neg hne] at he ⊢
 cases h with
 | zero => exact t.elim
 | succ h =>
  have hp := putF_ok hm (x := (key, page)) k0 k1 h 0 M l root (by omega) E t g hx
  have hq := putF_below hm (x := (key, page)) k0 k1 h 0 M l root (by omega) E t g hx
  rw [Nat.sub_zero] at hp hq
  obtain ⟨R, hR⟩ : ∃ R, SM.putF 9 M root (key, page) = R := ⟨_, rfl⟩
  rw [hR] at hp hq he ⊢
  obtain ⟨M1, n1, er⟩ := R
  dsimp only at hp hq he ⊢
  rcases hp with ⟨rfl, P⟩ | ⟨rfl, hf⟩ | ⟨rfl, hf⟩
  ·obtain ⟨q1, L, q2, q3⟩ := hq rfl
   rw [if_pos rfl] at he ⊢
   have hen := P.entN
   have hlo := P.lo
   have hhi := P.hi
   have k3 : n1.kind = 3 → 0 < h := fun hk1 => by
    rcases P.tr with ⟨_, k2, _⟩ | ⟨h0, _⟩
    ·omega
    ·exact h0
   have k3' : 0 < h → n1.kind = 3 := fun h0 => by
    rcases P.tr with ⟨h1, _⟩ | ⟨_, k3, _⟩
    ·omega
    ·exact k3
   obtain ⟨t1, t2⟩ := top_below hm P.exact P.tr ((g.put k0 k1 hx).grown P.grown) (by omega) (by omega) he
   refine ⟨fun q hb => ?_, L, q2, fun q hb => ?_⟩
   ·rcases t1 q hb with h0 | ⟨hk, e, hee, hb⟩
    ·exact .inr (not_live P.grown h0)
    ·exact q1 (k3 hk) e hee q hb
   ·rcases q3 q hb with h0 | ⟨h0, e, hee, hb⟩
    ·exact .inl h0
    ·exact .inr (t2 (k3' h0) e hee q hb)
  ·rw [if_neg (by decide)] at he
   cases he
  ·rw [if_neg (by decide)] at he
   cases he
theorem put_below_none {M : SM} {ext : Nat → Nat} (E : Exact M ext) {key page : Int} (hx : M.pool.heldB page = true) (k0 : 0 ≤ key) (k1 : key < 64) (he : (M.put (-1) key page).2.2 = 0) : ∀ q, Below (M.put (-1) key page).1 (M.put (-1) key page).2.1 q → M.live q.toNat = false := by
 unfold SM.put at he ⊢
 rw [if_neg (by omega), if_pos rfl] at he ⊢
 have t0 : NTr (Sub 1 M 0) 0 ⟨2, List.replicate 16 0, [(key, page)]⟩ (putL [] (key, page)) := .inl ⟨rfl, rfl, rfl⟩
 have g : Good M [] := ⟨List.Pairwise.nil, fun y hy => by cases hy⟩
 obtain ⟨t1, _⟩ := top_below (by decide) E t0 (g.put k0 k1 hx) (by show 1 ≤ 1; omega) (by show 1 ≤ 12; omega) he
 intro q hb
 rcases t1 q hb with h0 | ⟨hk, _⟩
 ·exact h0
 ·cases hk
theorem below_log {m m' : Nat} {M M' : SM} {h h' : Nat} {p : Int} {l l' : List (Int × Int)} (t : Tr m M h p l) (t' : Tr m' M' h' p l') (hn : ∀ q, M.live q = true → M'.nodeAt q = M.nodeAt q) (q : Int) : Below M' p q ↔ Below M p q := by
 have hg : ∀ x, M.pool.heldB x = true → M'.pool.heldB x = true → M'.get x = M.get x := fun x hx hx' => by
  unfold SM.get
  rw [if_pos hx, if_pos hx', hn _ (heldB_int hx).2]
 constructor
 ·intro hb
  have : Below M p q ∧ Below M' p q := by
   induction hb with
   | here => exact ⟨.here, .here⟩
   | @kid x y hx hk hy ih =>
    obtain ⟨_, _, _, t1, _⟩ := tr_below t ih.1
    obtain ⟨_, _, _, t2, _⟩ := tr_below t' ih.2
    refine ⟨?_, .kid hx hk hy⟩
    rw [hg x t1.held t2.held] at hk hy
    exact .kid ih.1 hk hy
  exact this.1
 ·intro hb
  have : Below M p q ∧ Below M' p q := by
   induction hb with
   | here => exact ⟨.here, .here⟩
   | @kid x y hx hk hy ih =>
    obtain ⟨_, _, _, t1, _⟩ := tr_below t ih.1
    obtain ⟨_, _, _, t2, _⟩ := tr_below t' ih.2
    refine ⟨.kid hx hk hy, ?_⟩
    rw [← hg x t1.held t2.held] at hk hy
    exact .kid ih.2 hk hy
  exact this.2
theorem tr_high_same {m m' : Nat} {M M' : SM} (hn : ∀ q, M.live q = true → M'.nodeAt q = M.nodeAt q) : ∀ {h h' : Nat} {p : Int} {l l' : List (Int × Int)}, Tr m M h p l → Tr m' M' h' p l' → h = h'
 | 0, _, _, _, _, t, _ => t.elim
 | _ + 1, 0, _, _, _, _, t => t.elim
 | h + 1, h' + 1, p, l, l', ⟨hp, n, hna, hok, k⟩, ⟨_, n', hna', _, k'⟩ => by
  rw [hn _ (heldB_int hp).2, hna] at hna'
  cases hna'
  rcases k with ⟨h0, k2, _⟩ | ⟨h0, k2, K⟩
  ·rcases k' with ⟨h0', _⟩ | ⟨_, k3, _⟩
   ·omega
   ·omega
  ·rcases k' with ⟨_, k3, _⟩ | ⟨_, _, K'⟩
   ·omega
   ·have hpos := (innerOk_of hok (by omega)).pos
    obtain ⟨e, he⟩ := List.exists_mem_of_length_pos hpos
    obtain ⟨a, ha, _⟩ := K.each e he
    obtain ⟨b, hb, _⟩ := K'.each e he
    have := tr_high_same hn ha.1 hb.1
    omega
def occSum (M : SM) (c : Nat) (L : List Nat) : Nat := (L.map fun q => occ (M.ents q) c).sum
theorem occSum_append (M : SM) (c : Nat) (a b : List Nat) : occSum M c (a ++ b) = occSum M c a + occSum M c b := by unfold occSum; rw [List.map_append, List.sum_append]
theorem occSum_none {M : SM} {c : Nat} : ∀ {L : List Nat}, (∀ q ∈ L, M.ents q = []) → occSum M c L = 0
 | [], _ => rfl
 | a :: L, h => by
  have h1 := occSum_none (c := c) (fun q hq => h q (List.mem_cons_of_mem (a := q) a hq))
  unfold occSum at h1 ⊢
  rw [List.map_cons, List.sum_cons, h a (List.mem_cons_self ..), h1]
  rfl
theorem occ_append (a b : List (Int × Int)) (c : Nat) : occ (a ++ b) c = occ a c + occ b c := List.countP_append
theorem refs_list {M : SM} {c : Nat} {L : List Nat} (h : ∀ q, M.live q = true → q ∈ L) : M.refs c ≤ occSum M c L := sum_list (f := fun q => occ (M.ents q) c) (b := M.live) L M.pool.size (fun q _ hq => h q hq)
theorem rises_half {a b : List (Int × Int)} (h : RisesK (a ++ b)) {K : Int} (ha : ∃ y ∈ a, y.1 = K) (hb : ∃ y ∈ b, y.1 = K) : False := by
 obtain ⟨y, hy, e1⟩ := ha
 obtain ⟨z, hz, e2⟩ := hb
 have := (List.pairwise_append.1 h).2.2 y hy z hz
 omega
theorem tr_occ {m : Nat} {M : SM} {c : Nat} {K : Int} (hK : ∀ h' a, Tr m M h' (c : Int) a → ∃ y ∈ a, y.1 = K) : ∀ {h : Nat} {p : Int} {l : List (Int × Int)}, Tr m M h p l → RisesK l →
  ((∃ y ∈ l, y.1 = K) → occSum M c (pagesF M h p) + 1 ≤ h + occ l c) ∧ ((¬ ∃ y ∈ l, y.1 = K) → occSum M c (pagesF M h p) ≤ occ l c)
 | 0, _, _, t, _ => t.elim
 | h + 1, p, l, ⟨hp, n, hn, hok, k⟩, hr => by
  have he := ents_of hn
  unfold pagesF
  rcases k with ⟨h0, _, hl⟩ | ⟨h0, _, hT⟩
  ·rw [if_pos h0]
   have : occSum M c [p.toNat] = occ l c := by
    unfold occSum
    rw [List.map_cons, List.map_nil, List.sum_cons, List.sum_nil, he, hl]
    omega
   rw [this]
   exact ⟨fun _ => by omega, fun _ => Nat.le_refl _⟩
  ·rw [if_neg (by omega), he]
   have key : ∀ (es l : List (Int × Int)), Kids (Sub m M h) es l → RisesK l →
     ((∃ y ∈ l, y.1 = K) → occ es c + occSum M c (es.flatMap fun e => pagesF M h e.2) ≤ h + occ l c) ∧ ((¬ ∃ y ∈ l, y.1 = K) → occ es c + occSum M c (es.flatMap fun e => pagesF M h e.2) ≤ occ l c) := by
    intro es
    induction es with
    | nil =>
     intro l hl _
     rw [show l = [] from hl]
     exact ⟨fun ⟨y, hy, _⟩ => (by cases hy), fun _ => Nat.le_refl _⟩
    | cons e es ih =>
     rintro l ⟨a, b, x, h1, h2, h3, h4, h5⟩ hr
     subst h1
     have ra : RisesK a := (List.pairwise_append.1 hr).1
     have rb : RisesK b := (List.pairwise_append.1 hr).2.1
     obtain ⟨i1, i2⟩ := tr_occ hK h2.1 ra
     obtain ⟨j1, j2⟩ := ih b h5 rb
     have hoc : occ (e :: es) c = occ es c + if e.2 = (c : Int) then 1 else 0 := by
      unfold occ
      rw [List.countP_cons]
      simp
     have hec : e.2 = (c : Int) → ∃ y ∈ a, y.1 = K := fun e1 => hK h a (by rw [← e1]; exact h2.1)
     rw [List.flatMap_cons, occSum_append, occ_append, hoc]
     have hmem : (∃ y ∈ a ++ b, y.1 = K) ↔ (∃ y ∈ a, y.1 = K) ∨ (∃ y ∈ b, y.1 = K) := by
      constructor
      ·rintro ⟨y, hy, e⟩
       exact (List.mem_append.1 hy).imp (fun h => ⟨y, h, e⟩) (fun h => ⟨y, h, e⟩)
      ·rintro (⟨y, hy, e⟩ | ⟨y, hy, e⟩)
       ·exact ⟨y, List.mem_append_left _ hy, e⟩
       ·exact ⟨y, List.mem_append_right _ hy, e⟩
     rw [hmem]
     by_cases ha : ∃ y ∈ a, y.1 = K
     ·have hb : ¬ ∃ y ∈ b, y.1 = K := fun hb => rises_half hr ha hb
      have q1 := i1 ha
      have q2 := j2 hb
      refine ⟨fun _ => ?_, fun hn => absurd (.inl ha) hn⟩
      split <;> omega
     ·have hne : ¬ e.2 = (c : Int) := fun e1 => ha (hec e1)
      have q1 := i2 ha
      rw [if_neg hne]
      by_cases hb : ∃ y ∈ b, y.1 = K
      ·have q2 := j1 hb
       exact ⟨fun _ => by omega, fun hn => absurd (.inr hb) hn⟩
      ·have q2 := j2 hb
       exact ⟨fun hn => hn.elim (fun h => absurd h ha) (fun h => absurd h hb), fun _ => by omega⟩
   obtain ⟨k1, k2⟩ := key n.ents l hT hr
   have hs : occSum M c (p.toNat :: n.ents.flatMap fun e => pagesF M h e.2) = occ n.ents c + occSum M c (n.ents.flatMap fun e => pagesF M h e.2) := by
    unfold occSum
    rw [List.map_cons, List.sum_cons, he]
   rw [hs]
   exact ⟨fun hk => by have := k1 hk; omega, fun hk => k2 hk⟩
theorem tr_occ5 {m : Nat} {M : SM} {c h : Nat} {p : Int} {l : List (Int × Int)} (t : Tr m M h p l) (hr : RisesK l) (h5 : h ≤ 6) : occSum M c (pagesF M h p) ≤ 5 + occ l c := by
 by_cases hc : ∃ h' a, Tr m M h' (c : Int) a
 ·obtain ⟨h', a, ta⟩ := hc
  have hge := tr_ge ta
  cases a with
  | nil => simp at hge; omega
  | cons y a =>
   obtain ⟨q1, q2⟩ := tr_occ (K := y.1) (fun h2 b tb => ⟨y, by rw [tr_unique tb ta]; exact List.mem_cons_self .., rfl⟩) t hr
   by_cases hk : ∃ z ∈ l, z.1 = y.1
   ·have := q1 hk; omega
   ·have := q2 hk; omega
 ·obtain ⟨q1, q2⟩ := tr_occ (K := 64) (c := c) (fun h2 b tb => absurd ⟨h2, b, tb⟩ hc) t hr
  by_cases hk : ∃ z ∈ l, z.1 = 64
  ·have := q1 hk; omega
  ·have := q2 hk; omega
theorem forest_pages {m : Nat} {M : SM} {ext : Nat → Nat} (E : Exact M ext) (hl : Loose M []) (is : List IM) (ht : ∀ i ∈ is, TreeIn m M i.root i.l i.P ∧ i.P ≤ 240 ∧ ∀ y ∈ i.l, M.ents y.2.toNat = []) {bl : List Nat} (hb : ∀ q ∈ bl, M.ents q = [])
  (hx : ∀ q, q < M.pool.size → 0 < ext q → q ∈ bl ∨ ∃ i ∈ is, i.root = (q : Int)) (c : Nat) (B : List Nat) (hB : ∀ i ∈ is, ∀ y ∈ i.l, y.2.toNat ∈ B) (hBe : ∀ q ∈ B, M.ents q = []) :
  ∃ L : List Nat, (∀ q, M.live q = true → q ∈ bl ++ B ++ L) ∧ 2 * L.length ≤ (is.map fun i => i.P + 3).sum ∧ occSum M c L ≤ (is.map fun i => 5 + occ i.l c).sum := by
 have all : ∀ js : List IM, (∀ i ∈ js, i ∈ is) → ∃ L : List Nat, (∀ i ∈ js, i.root = -1 ∨ i.root.toNat ∈ L) ∧ (∀ q ∈ L, ∀ x ∈ M.ents q, x.2.toNat ∈ L ∨ x.2.toNat ∈ B) ∧ 2 * L.length ≤ (js.map fun i => i.P + 3).sum ∧ occSum M c L ≤ (js.map fun i => 5 + occ i.l c).sum := by
  intro js
  induction js with
  | nil => intro _; exact ⟨[], fun i hi => (by cases hi), fun q hq => (by cases hq), Nat.le_refl _, Nat.le_refl _⟩
  | cons i js ih =>
   intro hin
   obtain ⟨L, a1, a2, a3, a4⟩ := ih (fun j hj => hin j (List.mem_cons_of_mem _ hj))
   have hi := hin i (List.mem_cons_self ..)
   obtain ⟨T, hP, _⟩ := ht i hi
   rw [List.map_cons, List.sum_cons, List.map_cons, List.sum_cons]
   rcases T.root with ⟨e, el⟩ | ⟨hh, t, j⟩
   ·refine ⟨L, fun q hq => ?_, a2, by omega, by omega⟩
    rcases List.mem_cons.1 hq with rfl | hq
    ·exact .inl e
    ·exact a1 q hq
   ·obtain ⟨p1, _, p3⟩ := led_pages t j hP
    have p4 := tr_occ5 (c := c) t T.keys.1 (by omega)
    refine ⟨pagesF M hh i.root ++ L, fun q hq => ?_, fun q hq x hx => ?_, by rw [List.length_append]; omega, by rw [occSum_append]; omega⟩
    ·rcases List.mem_cons.1 hq with rfl | hq
     ·exact .inr (List.mem_append_left _ (pages_self (tr_pos t)))
     ·exact (a1 q hq).imp id fun e => List.mem_append_right _ e
    ·rcases List.mem_append.1 hq with hq | hq
     ·rcases pages_closed t q hq x hx with e | e
      ·exact .inl (List.mem_append_left _ e)
      ·exact .inr (hB i hi x e)
     ·exact (a2 q hq x hx).imp (fun e => List.mem_append_right _ e) id
 obtain ⟨L, a1, a2, a3, a4⟩ := all is (fun i hi => hi)
 refine ⟨L, reach_all E hl (fun q hq h0 => ?_) (fun q hq x hx => ?_), a3, a4⟩
 ·rcases hx q hq h0 with e | ⟨i, hi, e⟩
  ·exact List.mem_append_left _ (List.mem_append_left _ e)
  ·rcases a1 i hi with e1 | e1
   ·omega
   ·rw [e, Int.toNat_natCast] at e1; exact List.mem_append_right _ e1
 ·rcases List.mem_append.1 hq with hq | hq
  ·have he : M.ents q = [] := (List.mem_append.1 hq).elim (hb q) (hBe q)
   rw [he] at hx; cases hx
  ·rcases a2 q hq x hx with e | e
   ·exact List.mem_append_right _ e
   ·exact List.mem_append_left _ (List.mem_append_right _ e)
theorem forest_refs {m : Nat} {M : SM} {ext : Nat → Nat} (E : Exact M ext) (hl : Loose M []) (is : List IM) (ht : ∀ i ∈ is, TreeIn m M i.root i.l i.P ∧ i.P ≤ 240 ∧ ∀ y ∈ i.l, M.ents y.2.toNat = []) {bl : List Nat} (hb : ∀ q ∈ bl, M.ents q = [])
  (hx : ∀ q, q < M.pool.size → 0 < ext q → q ∈ bl ∨ ∃ i ∈ is, i.root = (q : Int)) (c : Nat) : M.refs c ≤ (is.map fun i => 5 + occ i.l c).sum := by
 have hBe : ∀ q ∈ is.flatMap (fun i => i.l.map fun y => y.2.toNat), M.ents q = [] := fun q hq => by
  obtain ⟨i, hi, hq⟩ := List.mem_flatMap.1 hq
  obtain ⟨y, hy, rfl⟩ := List.mem_map.1 hq
  exact (ht i hi).2.2 y hy
 obtain ⟨L, h1, _, h3⟩ := forest_pages E hl is ht hb hx c (is.flatMap fun i => i.l.map fun y => y.2.toNat) (fun i hi y hy => List.mem_flatMap.2 ⟨i, hi, List.mem_map.2 ⟨y, hy, rfl⟩⟩) hBe
 have := refs_list (c := c) h1
 rw [occSum_append, occSum_append, occSum_none hb, occSum_none hBe] at this
 omega
theorem cnt_cast (ns : List Nat) (p : Nat) : (ns.map fun b => ((b : Nat) : Int)).count (p : Int) = ns.count p := by
 induction ns with
 | nil => rfl
 | cons b ns ih =>
  rw [List.map_cons, List.count_cons, List.count_cons, ih]
  by_cases e : b = p
  ·subst e; simp
  ·have h1 : (b == p) = false := by simp [e]
   have h2 : (((b : Nat) : Int) == (p : Int)) = false := by rw [beq_eq_false_iff_ne]; omega
   rw [h1, h2]
structure Forest (K : SM → Prop) (ns : List Nat) (M : SM) (ts : List IM) : Prop where
 exact : Exact M (extL (ts.map (·.root) ++ ns.map fun b => ((b : Nat) : Int)))
 size : M.pool.size = 240
 kk : K M
 loose : Loose M []
 data : ∀ b ∈ ns, M.live b = true ∧ ∃ d, M.nodeAt b = some d ∧ d.kind = 1 ∧ d.ents = []
 tree : ∀ t ∈ ts, TreeIn 1 M t.root t.l t.P ∧ ∀ y ∈ t.l, ∃ b ∈ ns, y.2 = ((b : Nat) : Int)
section
variable {K : SM → Prop} {c : Nat} {ns : List Nat} {M : SM} {ts : List IM} {t : IM} {k : Nat}
theorem Forest.of_one (h : OneTree K 240 ns M (-1) [] 0) : Forest K ns M [] := by
 refine ⟨exact_congr h.exact fun p _ => ?_, h.size, h.kk, h.loose, h.data, fun t ht => by cases ht⟩
 unfold extB extL
 rw [List.map_nil, List.nil_append, cnt_cast, if_neg (by omega)]
 rfl
theorem Forest.held (h : Forest K ns M ts) {b : Nat} (hb : b ∈ ns) : M.pool.heldB (b : Int) = true := by rw [heldB_nat]; exact (h.data b hb).1
theorem Forest.each (h : Forest K ns M ts) (hP : ∀ t ∈ ts, t.P ≤ 240) : (∀ i ∈ ts, TreeIn 1 M i.root i.l i.P ∧ i.P ≤ 240 ∧ ∀ y ∈ i.l, M.ents y.2.toNat = []) ∧ (∀ q ∈ ns, M.ents q = []) ∧
  ∀ q, q < M.pool.size → 0 < extL (ts.map (·.root) ++ ns.map fun b => ((b : Nat) : Int)) q → q ∈ ns ∨ ∃ i ∈ ts, i.root = (q : Int) := by
 have hd : ∀ q ∈ ns, M.ents q = [] := fun q hq => by
  obtain ⟨_, d, hd, _, he⟩ := h.data q hq
  rw [ents_of hd, he]
 refine ⟨fun i hi => ⟨(h.tree i hi).1, hP i hi, fun y hy => ?_⟩, hd, fun q _ h0 => ?_⟩
 ·obtain ⟨b, hb, e⟩ := (h.tree i hi).2 y hy
  rw [e, Int.toNat_natCast]
  exact hd b hb
 ·unfold extL at h0
  rcases List.mem_append.1 (List.count_pos_iff.1 h0) with hm | hm
  ·obtain ⟨i, hi, e⟩ := List.mem_map.1 hm
   exact .inr ⟨i, hi, e⟩
  ·obtain ⟨b, hb, e⟩ := List.mem_map.1 hm
   have : b = q := by omega
   exact .inl (this ▸ hb)
theorem occ_len2 (l : List (Int × Int)) (q : Nat) : occ l q ≤ l.length := List.countP_le_length
theorem Forest.refs (h : Forest K ns M ts) (hn : ns.Nodup) (h3 : ts.length ≤ 3) (hP : ∀ t ∈ ts, t.P ≤ 240) (q : Nat) : ¬ 255 ≤ M.refs q + 38 + extL (ts.map (·.root) ++ ns.map fun b => ((b : Nat) : Int)) q := fun hq => by
 obtain ⟨a1, a2, a3⟩ := h.each hP
 have h1 := forest_refs h.exact h.loose ts a1 a2 a3 q
 have h2 : (ts.map fun j => 5 + occ j.l q).sum ≤ 69 * ts.length := by
  have key : ∀ js : List IM, (∀ j ∈ js, j ∈ ts) → (js.map fun j => 5 + occ j.l q).sum ≤ 69 * js.length := by
   intro js
   induction js with
   | nil => intro _; exact Nat.le_refl _
   | cons j js ih =>
    intro hj
    have h3 := ih (fun x hx => hj x (List.mem_cons_of_mem _ hx))
    have h4 := (h.tree j (hj j (List.mem_cons_self ..))).1.len
    have h5 := occ_len2 j.l q
    rw [List.map_cons, List.sum_cons, List.length_cons]
    omega
  exact key ts (fun j hj => hj)
 have h4 : extL (ts.map (·.root) ++ ns.map fun b => ((b : Nat) : Int)) q ≤ ts.length + 1 := by
  unfold extL
  rw [List.count_append, cnt_cast]
  have b1 : List.count (q : Int) (ts.map (·.root)) ≤ (ts.map (·.root)).length := List.count_le_length
  have b2 := List.nodup_iff_count.1 hn q
  rw [List.length_map] at b1
  omega
 omega
theorem Forest.room (h : Forest K ns M ts) (hB : Besides K c) (h4 : ns.length ≤ 4) (hP : ∀ t ∈ ts, t.P ≤ 240) (hs : (ts.map fun i => i.P + 3).sum + 2 * c ≤ 438) : 13 ≤ M.pool.freeCount := by
 obtain ⟨a1, a2, a3⟩ := h.each hP
 obtain ⟨L, l1, l2, _⟩ := forest_pages h.exact h.loose ts a1 a2 a3 0 ns (fun i hi y hy => by
  obtain ⟨b, hb, e⟩ := (h.tree i hi).2 y hy
  rw [e, Int.toNat_natCast]; exact hb) a2
 have h1 := liveN_list l1
 have h2 := hB.room M h.kk
 have h3 := h.size
 rw [List.length_append, List.length_append] at h1
 omega
theorem set_app {α : Type} (a b : List α) {k : Nat} (hk : k < a.length) (x : α) : (a ++ b).set k x = a.set k x ++ b := by
 rw [List.set_append, if_pos hk]
theorem Forest.change (h : Forest K ns M ts) (hB : Besides K c) (hn : ns.Nodup) (h4 : ns.length ≤ 4) (h3 : ts.length ≤ 3) (hi : ts[k]? = some t) (hP : ∀ t ∈ ts, t.P + 1 ≤ 240) (hs : (ts.map fun i => i.P + 3).sum + 2 * c ≤ 438) {x : Int × Int} (k0 : 0 ≤ x.1) (k1 : x.1 < 64) (hx : x.2 = -1 ∨ ∃ b ∈ ns, x.2 = ((b : Nat) : Int)) :
  ∃ M' next, M.change t.root x = (M', next, 0) ∧ Changed 1 M (extL (ts.map (·.root) ++ ns.map fun b => ((b : Nat) : Int))) t.root (chgL t.l x) (t.P + 1) M' next ∧ Forest K ns M' (ts.set k ⟨next, chgL t.l x, t.P + 1, t.w⟩) := by
 have ht : t ∈ ts := List.mem_of_getElem? hi
 have hk : k < ts.length := (List.getElem?_eq_some_iff.1 hi).1
 obtain ⟨hT, hpg⟩ := h.tree t ht
 have hmem : t.root ∈ ts.map (·.root) ++ ns.map fun b => ((b : Nat) : Int) := List.mem_append_left _ (List.mem_map.2 ⟨t, ht, rfl⟩)
 have hx' : x.2 = -1 ∨ M.pool.heldB x.2 = true := hx.imp id fun ⟨b, hb, e⟩ => by rw [e]; exact h.held hb
 have hl : Loose M (if x.2 = -1 then [] else [x]) := h.loose.mono fun y hy => by cases hy
 have hclosed := change_closed hB.closed t.root x h.kk
 have hP' : ∀ t ∈ ts, t.P ≤ 240 := fun t ht => by have := hP t ht; omega
 rcases change_ok (by decide) h.exact hT (hP t ht) (extL_root hmem hT.low) (c := x) k0 k1 hx' hl (fun _ => rfl) with ⟨e, C⟩ | ⟨_, ⟨_, hh, hr, hled, hf⟩ | ⟨_, q, hq⟩⟩
 ·obtain ⟨M', hM'⟩ : ∃ M', (M.change t.root x).1 = M' := ⟨_, rfl⟩
  obtain ⟨next, hnext⟩ : ∃ n, (M.change t.root x).2.1 = n := ⟨_, rfl⟩
  rw [hM'] at C hclosed
  rw [hnext] at C
  refine ⟨M', next, by rw [← hM', ← hnext, ← e], C, ?_⟩
  have hr : (ts.map (·.root) ++ ns.map fun b => ((b : Nat) : Int))[k]? = some t.root := by
   rw [List.getElem?_append_left (by rw [List.length_map]; exact hk), List.getElem?_map, hi]; rfl
  have hroots : (ts.set k ⟨next, chgL t.l x, t.P + 1, t.w⟩).map (·.root) ++ (ns.map fun b => ((b : Nat) : Int)) = (ts.map (·.root) ++ ns.map fun b => ((b : Nat) : Int)).set k next := by
   rw [List.map_set, set_app _ _ (by rw [List.length_map]; exact hk)]
  have E' : Exact M' (extL ((ts.set k ⟨next, chgL t.l x, t.P + 1, t.w⟩).map (·.root) ++ ns.map fun b => ((b : Nat) : Int))) := by
   rw [hroots]
   exact exact_congr C.exact fun p _ => extL_set hr p
  refine ⟨E', C.size.trans h.size, hclosed, C.loose, fun b hb => ?_, fun j hj => ?_⟩
  ·obtain ⟨hlv, d, hd, e1, e2⟩ := h.data b hb
   refine ⟨?_, d, by rw [C.node _ hlv]; exact hd, e1, e2⟩
   have := ext_held E' (p := b) (by rw [C.size]; exact live_lt hlv) (by
    unfold extL
    refine List.count_pos_iff.2 (List.mem_append_right _ (List.mem_map.2 ⟨b, hb, rfl⟩)))
   rw [heldB_nat] at this
   exact this
  ·rcases List.mem_or_eq_of_mem_set hj with hj' | rfl
   ·obtain ⟨hJ, hJ2⟩ := h.tree j hj'
    have hin : j.root ∈ (ts.set k ⟨next, chgL t.l x, t.P + 1, t.w⟩).map (·.root) ++ ns.map fun b => ((b : Nat) : Int) := List.mem_append_left _ (List.mem_map.2 ⟨j, hj, rfl⟩)
    refine ⟨C.others 1 j.root j.l j.P hJ ?_, hJ2⟩
    rcases extL_root hin hJ.low with e | e
    ·exact .inl e
    ·exact .inr (by rw [extL_set hr, ← hroots]; exact e)
   ·refine ⟨C.tree, fun y hy => ?_⟩
    have hy : y ∈ chgL t.l x := hy
    unfold chgL at hy
    split at hy
    ·exact hpg y (List.mem_filter.1 hy).1
    ·rename_i hne
     rcases putL_mem hy with rfl | hy
     ·exact hx.resolve_left hne
     ·exact hpg y hy
 ·have := led5 (by have := hP t ht; omega) hr hled
  have := h.room hB h4 hP' hs
  omega
 ·exact absurd hq (h.refs hn h3 hP' q)
theorem sum_set {ts : List IM} : ∀ {k : Nat} {t t' : IM}, ts[k]? = some t → t'.P = t.P + 1 → ((ts.set k t').map fun i => i.P + 3).sum = (ts.map fun i => i.P + 3).sum + 1 := by
 induction ts with
 | nil => intro k t t' h; simp at h
 | cons a ts ih =>
  intro k t t' h e
  cases k with
  | zero =>
   simp only [List.getElem?_cons_zero, Option.some.injEq] at h
   subst h
   rw [List.set_cons_zero, List.map_cons, List.sum_cons, List.map_cons, List.sum_cons, e]
   omega
  | succ k =>
   rw [List.getElem?_cons_succ] at h
   rw [List.set_cons_succ, List.map_cons, List.sum_cons, List.map_cons, List.sum_cons, ih h e]
   omega
theorem set_set2 {α : Type} (l : List α) (k : Nat) (a b : α) : (l.set k a).set k b = l.set k b := by
 refine List.ext_getElem? fun j => ?_
 rw [List.getElem?_set, List.getElem?_set, List.getElem?_set, List.length_set]
 split
 ·rfl
 ·rfl
theorem Forest.changes (hB : Besides K c) (hn : ns.Nodup) (h4 : ns.length ≤ 4) : ∀ (cs : List (Int × Int)) {M : SM} {ts : List IM} {t : IM}, Forest K ns M ts → ts.length ≤ 3 → ts[k]? = some t → (∀ t ∈ ts, t.P + cs.length ≤ 239) → (ts.map fun i => i.P + 3).sum + cs.length + 2 * c ≤ 438 → (∀ x ∈ cs, 0 ≤ x.1 ∧ x.1 < 64 ∧ (x.2 = -1 ∨ ∃ b ∈ ns, x.2 = ((b : Nat) : Int))) →
  ∃ M' t', SM.changes cs M t.root = (M', t'.root, 0) ∧ t'.l = cs.foldl chgL t.l ∧ t'.P = t.P + cs.length ∧ Forest K ns M' (ts.set k t')
 | [], M, ts, t, h, _, hi, _, _, _ => by
  refine ⟨M, t, rfl, rfl, rfl, ?_⟩
  have : ts.set k t = ts := by
   refine List.ext_getElem? fun j => ?_
   rw [List.getElem?_set]
   by_cases e : k = j
   ·subst e
    rw [if_pos rfl, if_pos (List.getElem?_eq_some_iff.1 hi).1, hi]
   ·rw [if_neg e]
  rw [this]
  exact h
 | x :: cs, M, ts, t, h, h3, hi, hP, hs, hx => by
  rw [List.length_cons] at hP hs
  have hk : k < ts.length := (List.getElem?_eq_some_iff.1 hi).1
  obtain ⟨k0, k1, hx0⟩ := hx x (List.mem_cons_self ..)
  obtain ⟨M1, next, e, _, h1⟩ := h.change hB hn h4 h3 hi (fun t ht => by have := hP t ht; omega) (by omega) k0 k1 hx0
  have hi1 : (ts.set k ⟨next, chgL t.l x, t.P + 1, t.w⟩)[k]? = some ⟨next, chgL t.l x, t.P + 1, t.w⟩ := List.getElem?_set_self hk
  obtain ⟨M2, t2, e2, e3, e4, h2⟩ := Forest.changes hB hn h4 cs h1 (by rw [List.length_set]; exact h3) hi1 (fun j hj => by
   rcases List.mem_or_eq_of_mem_set hj with hj | rfl
   ·have := hP j hj; omega
   ·have := hP t (List.mem_of_getElem? hi)
    show t.P + 1 + _ ≤ _; omega) (by rw [sum_set hi rfl]; omega) (fun y hy => hx y (List.mem_cons_of_mem _ hy))
  refine ⟨M2, t2, ?_, by rw [e3]; rfl, by rw [e4, List.length_cons]; show t.P + 1 + cs.length = _; omega, by rw [set_set2] at h2; exact h2⟩
  unfold SM.changes
  rw [e]
  dsimp only
  rw [if_pos rfl]
  exact e2
theorem Forest.none (h : Forest K ns M ts) : Forest K ns M (ts ++ [.none]) := by
 refine ⟨exact_congr h.exact fun p _ => ?_, h.size, h.kk, h.loose, h.data, fun j hj => ?_⟩
 ·unfold extL
  rw [List.map_append, List.count_append, List.count_append, List.count_append]
  have : List.count ((p : Nat) : Int) (List.map (·.root) [IM.none]) = 0 := List.count_eq_zero.2 (fun hm => by
   simp only [List.map_cons, List.map_nil, List.mem_singleton] at hm
   have : ((p : Nat) : Int) = -1 := hm
   omega)
  rw [this]
  rfl
 ·rcases List.mem_append.1 hj with hj | hj
  ·exact h.tree j hj
  ·rw [List.mem_singleton.1 hj]
   exact ⟨TreeIn.none _ _ _, fun y hy => by cases hy⟩
theorem Forest.hold (h : Forest K ns M ts) (hB : Besides K c) (hn : ns.Nodup) (h3 : ts.length ≤ 3) (hP : ∀ t ∈ ts, t.P ≤ 240) (ht : t ∈ ts) : ∃ M', (if t.root = -1 then (M, 0) else M.hold t.root) = (M', 0) ∧ Forest K ns M' (ts ++ [t]) ∧ M'.log = M.log := by
 obtain ⟨hT, hpg⟩ := h.tree t ht
 by_cases e : t.root = -1
 ·rw [if_pos e]
  refine ⟨M, rfl, ⟨exact_congr h.exact fun p _ => ?_, h.size, h.kk, h.loose, h.data, fun j hj => ?_⟩, rfl⟩
  ·unfold extL
   rw [List.map_append, List.count_append, List.count_append, List.count_append]
   have : List.count ((p : Nat) : Int) (List.map (·.root) [t]) = 0 := List.count_eq_zero.2 (fun hm => by
    simp only [List.map_cons, List.map_nil, List.mem_singleton] at hm
    omega)
   rw [this]
   rfl
  ·rcases List.mem_append.1 hj with hj | hj
   ·exact h.tree j hj
   ·rw [List.mem_singleton.1 hj]; exact ⟨hT, hpg⟩
 ·rw [if_neg e]
  rcases hT.root with ⟨e', _⟩ | ⟨hh, tt, _⟩
  ·exact absurd e' e
  ·have hheld := tt.held
   obtain ⟨b, hb⟩ := Int.eq_ofNat_of_zero_le (heldB_int hheld).1
   have hlive : M.live b = true := by have := (heldB_int hheld).2; rw [hb, Int.toNat_natCast] at this; exact this
   have hrefs := h.refs hn h3 hP b
   have hcnt := h.exact.cnt b (live_lt hlive)
   obtain ⟨hhold, E', hlv⟩ := holdE_ok h.exact hlive (by omega)
   have hkk := hB.closed.hold M t.root h.kk
   have e2 : (⟨M.pool.holdTo t.root, M.log⟩ : SM) = (M.hold t.root).1 := rfl
   rw [e2, hb, hhold] at hkk
   rw [hb, hhold]
   have g : Grown M ⟨M.pool.setCnt b (M.pool.cnt b + 1), M.log⟩ := ⟨rfl, fun q hq => by rw [hlv]; exact hq, fun q _ => rfl⟩
   refine ⟨_, rfl, ⟨exact_congr E' fun p _ => ?_, h.size, hkk, fun q hq hq0 => ?_, fun d hd => ?_, fun j hj => ?_⟩, rfl⟩
   ·unfold incE extL
    rw [List.map_append, List.count_append, List.count_append, List.count_append]
    have : List.count ((p : Nat) : Int) (List.map (·.root) [t]) = if p = b then 1 else 0 := by
     simp only [List.map_cons, List.map_nil]
     rw [List.count_singleton, hb]
     by_cases hp : p = b
     ·subst hp; simp
     ·have : ((b : Int) == (p : Int)) = false := by rw [beq_eq_false_iff_ne]; omega
      rw [this, if_neg hp]
      rfl
    rw [this]
    by_cases hp : p = b
    ·simp [hp]; omega
    ·simp [hp]
   ·rw [hlv] at hq
    have : M.pool.cnt q = 0 := by
     have h0 : (if q = b then M.pool.cnt b + 1 else M.pool.cnt q) = 0 := hq0
     split at h0
     ·omega
     ·exact h0
    exact h.loose q hq this
   ·obtain ⟨a1, n, a2, a3⟩ := h.data d hd
    exact ⟨by rw [hlv]; exact a1, n, a2, a3⟩
   ·rcases List.mem_append.1 hj with hj | hj
    ·exact ⟨(h.tree j hj).1.grown g, (h.tree j hj).2⟩
    ·rw [List.mem_singleton.1 hj]; exact ⟨hT.grown g, hpg⟩
end
end Go.Proofs.YtidlchciehdefaaGreat
/-
 Two trees held against one another: where they differ (diff's Changes), what they share (Shared).
-/
namespace Go.Proofs.YtidlchciehdefaaGreat
open Go.RowKit Go.Maps Go.Sort
set_option maxRecDepth 100000

theorem elemChange : Elem 87 92 2 16 := Elem.of (z := .agg #[.int .i64 0, .int .i64 0]) Tryz.underlying87 (by kernel_rfl) (by kernel_rfl) (by omega)
theorem out_skip : ∀ {es : List (Int × Int)} {k : Int} (D : DataW Unit), (∀ y ∈ es, y.1 ≠ k) → has (es.foldl (fun m e => m.put (.int .i64 e.1) (.lit (.int .i64 e.2))) D) (.int .i64 k) = has D (.int .i64 k) ∧ ∀ z, (es.foldl (fun m e => m.put (.int .i64 e.1) (.lit (.int .i64 e.2))) D).atKey (.int .i64 k) z = D.atKey (.int .i64 k) z
 | [], _, _, _ => ⟨rfl, fun _ => rfl⟩
 | y :: es, k, D, h => by
  have hne : (Lit.int .i64 k) ≠ .int .i64 y.1 := by intro e; injection e with _ e; exact h y (List.mem_cons_self ..) e.symm
  have ih := out_skip (D.put (.int .i64 y.1) (.lit (.int .i64 y.2))) (fun z hz => h z (List.mem_cons_of_mem _ hz))
  rw [List.foldl_cons]
  exact ⟨by rw [ih.1, has_put_other hne], fun z => by rw [ih.2, atKey_put_other hne]⟩
theorem out_hit : ∀ {es : List (Int × Int)} (D : DataW Unit), IsMap D → RisesK es → ∀ y ∈ es, has (es.foldl (fun m e => m.put (.int .i64 e.1) (.lit (.int .i64 e.2))) D) (.int .i64 y.1) = true ∧ ∀ z, (es.foldl (fun m e => m.put (.int .i64 e.1) (.lit (.int .i64 e.2))) D).atKey (.int .i64 y.1) z = .lit (.int .i64 y.2)
 | [], _, _, _, _, h => by cases h
 | x :: es, D, hD, hr, y, h => by
  have hr' := List.pairwise_cons.1 hr
  rw [List.foldl_cons]
  rcases List.mem_cons.1 h with rfl | h
  ·have := out_skip (k := y.1) (D.put (.int .i64 y.1) (.lit (.int .i64 y.2))) (fun z hz => by have := hr'.1 z hz; omega)
   exact ⟨by rw [this.1, has_put_same hD (int_key _)], fun z => by rw [this.2, atKey_put_same hD (int_key _)]⟩
  ·exact out_hit _ (hD.put _ _) hr'.2 y h
theorem outD_hit {es : List (Int × Int)} (hr : RisesK es) {y : Int × Int} (h : y ∈ es) : has (outD es) (.int .i64 y.1) = true ∧ ∀ z, (outD es).atKey (.int .i64 y.1) z = .lit (.int .i64 y.2) := out_hit _ isMap_empty hr y h
theorem outD_miss {es : List (Int × Int)} {k : Int} (h : ∀ y ∈ es, y.1 ≠ k) : has (outD es) (.int .i64 k) = false ∧ (outD es).atKey (.int .i64 k) (.lit (.int .i64 0)) = .lit (.int .i64 0) := by
 have := out_skip (seenD []) h
 refine ⟨this.1.trans ?_, (this.2 _).trans ?_⟩
 ·rw [seenD_has]; rfl
 ·rw [seenD_at]; rfl
section
variable {w : World} {mx n : Nat} {es : List (Int × Int)}
theorem look_hit (h : w.ownsMap Tryz.prog 3 (plainElem Tryz.prog 3) mx n (outD es)) (hr : RisesK es) {y : Int × Int} (hy : y ∈ es) (hb : -9223372036854775808 ≤ y.1 ∧ y.1 ≤ 9223372036854775807) :
  (Instr.lookup 145 (.map (some mx)) (.int .i64 y.1) true).run Tryz.prog w = .ok (.tuple #[.int .i64 y.2, .bool true]) w := by
 obtain ⟨v, ps, hrun, hv⟩ := h.look_ok (int_keyed Tryz.underlying3) Tryz.underlying145 (Tryz.zeroValue3 w) (plainElem_int (H := Unit) Tryz.underlying3 (by decide)) (keyOf_int_mk Tryz.underlying3 (WalkArith.wf_i64 hb))
 obtain ⟨h1, h2⟩ := outD_hit hr hy
 rw [h2] at hv
 obtain ⟨c, rfl, hc, _⟩ := plainElem_int_inv Tryz.underlying3 hv
 have hce : y.2 = c := by
  have := congrArg Prod.fst hc
  injection this with h; injection h
 rw [hrun, h1, ← hce]
theorem look_miss (h : w.ownsMap Tryz.prog 3 (plainElem Tryz.prog 3) mx n (outD es)) {k : Int} (hk : ∀ y ∈ es, y.1 ≠ k) (hb : -9223372036854775808 ≤ k ∧ k ≤ 9223372036854775807) :
  (Instr.lookup 145 (.map (some mx)) (.int .i64 k) true).run Tryz.prog w = .ok (.tuple #[.int .i64 0, .bool false]) w := by
 obtain ⟨v, ps, hrun, hv⟩ := h.look_ok (int_keyed Tryz.underlying3) Tryz.underlying145 (Tryz.zeroValue3 w) (plainElem_int (H := Unit) Tryz.underlying3 (by decide)) (keyOf_int_mk Tryz.underlying3 (WalkArith.wf_i64 hb))
 obtain ⟨h1, h2⟩ := outD_miss hk
 rw [h2] at hv
 obtain ⟨c, rfl, hc, _⟩ := plainElem_int_inv Tryz.underlying3 hv
 have hce : 0 = c := by
  have := congrArg Prod.fst hc
  injection this with h; injection h
 rw [hrun, h1, ← hce]
end
structure RootIs (m : Nat) (M : SM) (r : Int) (l : List (Int × Int)) : Prop where
 tree : (r = -1 ∧ l = []) ∨ ∃ h, h ≤ 8 ∧ Tr m M h r l
 rises : RisesK l
 keys : ∀ y ∈ l, 0 ≤ y.1 ∧ y.1 < 64
 pages : ∀ y ∈ l, 0 ≤ y.2 ∧ y.2 < 240
section
variable {w : World} {A : SA} {m : Nat} {M : SM} {r : Int} {l : List (Int × Int)}
theorem RootIs.wf (h : RootIs m M r l) (hA : StoreAt w A M) : -9223372036854775808 ≤ r ∧ r ≤ 9223372036854775807 := by
 rcases h.tree with ⟨e, _⟩ | ⟨k, _, t⟩
 ·omega
 ·have := heldB_pos t.held
  have hs := hA.pool.hsize
  omega
theorem RootIs.okay (h : RootIs m M r l) : (∀ x, Below M r x → x = -1 ∨ (M.get x).2 = 0) ∧ ∀ x, Below M r x → (M.get x).1.kind = 3 → (M.get x).1.ents ≠ [] := by
 rcases h.tree with ⟨e, _⟩ | ⟨k, _, t⟩
 ·subst e
  exact ⟨fun x hx => .inl (below_none hx), fun x hx hk => by rw [below_none hx] at hk; exact absurd hk (get_none M)⟩
 ·exact below_ok t
theorem RootIs.own (h : RootIs m M r l) (hA : StoreAt w A M) (S : Int → Bool) : ∃ o, OwnC M S 0 r o ∧ Side m M S r l o := by
 rcases h.tree with ⟨rfl, rfl⟩ | ⟨k, hk, t⟩
 ·exact ⟨[], ownNone (by omega) (.inl rfl), side_none m M S⟩
 ·refine ⟨_, own_ok t (by omega) (h.wf hA) (fun x y hx hy => ?_), side_of t h.rises⟩
  rcases (below_ok t).1 x hx with e | e
  ·exact absurd e (below_neg t hx)
  ·have := get_ents hA e y hy
   omega
end
def chP (la lb : List (Int × Int)) (n : Nat) : List (Int × Int) := (List.range n).filterMap fun (k : Nat) => if findL la (k : Int) = findL lb (k : Int) then none else some ((k : Int), findL lb (k : Int))
theorem chP_same {la lb : List (Int × Int)} {k : Nat} (h : findL la (k : Int) = findL lb (k : Int)) : chP la lb (k + 1) = chP la lb k := by
 unfold chP
 rw [List.range_succ, List.filterMap_append]
 simp [h]
theorem chP_more {la lb : List (Int × Int)} {k : Nat} {p : Int} (h : findL la (k : Int) ≠ findL lb (k : Int)) (hp : findL lb (k : Int) = p) : chP la lb (k + 1) = chP la lb k ++ [((k : Int), p)] := by
 unfold chP
 rw [List.range_succ, List.filterMap_append]
 subst hp
 simp [h]
theorem chP_len (la lb : List (Int × Int)) (k : Nat) : (chP la lb k).length ≤ k := by
 have := List.length_filterMap_le (fun (k : Nat) => if findL la (k : Int) = findL lb (k : Int) then none else some ((k : Int), findL lb (k : Int))) (List.range k)
 rw [List.length_range] at this
 exact this
theorem ownsRow.slice2 {w : World} {base e n sz : Nat} {v : Value} {xs : List Value} (h : w.ownsRow base e sz v n xs) : ∃ A cap, v = .slice A n cap ∧ n ≤ cap ∧ cap ≤ maxLen := by
 rcases h.2 with ⟨rfl, rfl⟩ | ⟨g, cap, cur, rfl, _, _, h3, h4, _⟩
 ·exact ⟨none, 0, rfl, Nat.le_refl _, Nat.zero_le _⟩
 ·exact ⟨_, cap, rfl, h3, h4⟩
structure ChAt (w : World) (mx my base : Nat) (oa ob la lb : List (Int × Int)) (k : Nat) (v : Value) (wr : World) : Prop where
 kept : Kept (fun _ => False) w wr
 x : wr.ownsMap Tryz.prog 3 (plainElem Tryz.prog 3) mx oa.length (outD oa)
 y : wr.ownsMap Tryz.prog 3 (plainElem Tryz.prog 3) my ob.length (outD ob)
 row : wr.ownsRow base 92 2 v (chP la lb k).length (entCells (chP la lb k))
 size : base ≤ wr.heap.size
theorem ChAt.next {w wr : World} {mx my base : Nat} {oa ob la lb : List (Int × Int)} {k : Nat} {v : Value} (h : ChAt w mx my base oa ob la lb k v wr) (e : findL la (k : Int) = findL lb (k : Int)) : ChAt w mx my base oa ob la lb (k + 1) v wr :=
 ⟨h.kept, h.x, h.y, by rw [chP_same e]; exact h.row, h.size⟩
theorem ChAt.more {w wr w' : World} {mx my base : Nat} {oa ob la lb : List (Int × Int)} {k : Nat} {v v' : Value} {p : Int} {o : Obj} (h : ChAt w mx my base oa ob la lb k v wr) (hne : findL la (k : Int) ≠ findL lb (k : Int)) (hp : findL lb (k : Int) = p) (hb : mx < base ∧ my < base ∧ w.heap.size ≤ base)
  (hown : w'.ownsRow base 92 2 v' ((chP la lb k).length + 1) (entCells (chP la lb k) ++ [.int .i64 (k : Int), .int .i64 p])) (hg : (wr.alloc o).grownBy w' v.ownBlock) : ChAt w mx my base oa ob la lb (k + 1) v' w' := by
 have k1 : Kept (fun _ => False) wr (wr.alloc o) := (Kept.refl _ _).alloc _
 have hlt := fun b (hb : v.ownBlock = some b) => h.row.lt b hb
 have k2 := Kept.of_grown hg
 refine ⟨(h.kept.trans k1).grown hg (fun k e => .inr (by have := (hlt k e).1; omega)), ownsMap_kept (ownsMap_kept h.x k1 id) k2 (fun e => by have := (hlt _ e).1; omega), ownsMap_kept (ownsMap_kept h.y k1 id) k2 (fun e => by have := (hlt _ e).1; omega), ?_, by have := h.size; have := k1.size; have := k2.size; omega⟩
 rw [chP_more hne hp, List.length_append, entCells_append]
 exact hown
set_option maxHeartbeats 16000000 in
theorem diffChanges {w : World} {A : SA} {m : Nat} {M : SM} (h : StoreAt w A M) {ra rb : Int} {la lb : List (Int × Int)} (ha : RootIs m M ra la) (hb : RootIs m M rb lb) :
  Calls Tryz.prog 50 #[.agg #[.pointer (some ⟨A.sb, 0, none⟩)], .int .i64 ra, .int .i64 rb] w fun e w' => ∃ v, e = .returned (.tuple #[v, .int .i64 0]) ∧ w'.ownsRow w.heap.size 92 2 v (changesL la lb).length (entCells (changesL la lb)) ∧ Kept (fun _ => False) w w' := by
 obtain ⟨db, hdb⟩ : ∃ db, w.heap.size = db := ⟨_, rfl⟩
 obtain ⟨w1, hw1⟩ : ∃ w1, w.alloc (.cells #[.pointer (some ⟨A.sb, 0, none⟩)] 30) = w1 := ⟨_, rfl⟩
 have k1 : Kept (fun _ => False) w w1 := by rw [← hw1]; exact (Kept.refl _ _).alloc _
 have t1 : w1.heap[db]? = some (.cells #[.pointer (some ⟨A.sb, 0, none⟩)] 30 (0, 0)) := by rw [← hw1, ← hdb]; exact heap_alloc_new _ _
 have ld1 := h_ (ptr_load' t1)
 have hSh := h_ (sharedAny (h.fresh k1) (ha.wf h) ha.okay.1 ha.okay.2 (hb.wf h) hb.okay.1 hb.okay.2)
 have hw1' := h_ hw1
 have hdb' := h_ hdb
 have t1' := h_ t1
 have k1' := h_ k1
 have h' := h_ h
 have ha' := h_ ha
 have hb' := h_ hb
 clear h hw1 hdb k1 t1 ha hb
 go_enter Tryz.func50, Tryz.ntmps50
 go_wp2_with (first | (refine wpList_box_named 30 rfl rfl _ rfl hw1'.out ?_; rw [hdb'.out]) | (refine wpList_load_agg 30 rfl rfl rfl _ Tryz.underlying30 rfl [.pointer (some ⟨A.sb, 0, none⟩)] (by kernel_rfl) ld1.out ?_))
 refine hSh.out.mono ?_
 rintro e w2 ⟨ms, n, D, Sa, Sb, rfl, hms, hn240, hown, hset, _, hSa, hSb, hk2⟩
 obtain ⟨oa, hOa, hSideA⟩ := ha'.out.own h'.out (fun x => decide (x ∈ Sa) && decide (x ∈ Sb))
 obtain ⟨ob, hOb, hSideB⟩ := hb'.out.own h'.out (fun x => decide (x ∈ Sa) && decide (x ∈ Sb))
 have hS : Hid (∀ q, (decide (q ∈ Sa) && decide (q ∈ Sb)) = true → (Below M ra q ∧ q ≠ -1) ∧ (Below M rb q ∧ q ≠ -1)) := h_ (fun q hq => by
  rw [Bool.and_eq_true, decide_eq_true_eq, decide_eq_true_eq] at hq
  exact ⟨(hSa q).1 hq.1, (hSb q).1 hq.2⟩)
 have hla : Hid (oa.length ≤ 64) := h_ (Nat.le_trans hSideA.sub.length_le (rises_len ha'.out.rises ha'.out.keys))
 have hlb : Hid (ob.length ≤ 64) := h_ (Nat.le_trans hSideB.sub.length_le (rises_len hb'.out.rises hb'.out.keys))
 obtain ⟨mx, hmx⟩ : ∃ mx, w2.heap.size = mx := ⟨_, rfl⟩
 obtain ⟨w3, hw3⟩ : ∃ w3, w2.alloc (.map #[] 0) = w3 := ⟨_, rfl⟩
 obtain ⟨my, hmy⟩ : ∃ my, w3.heap.size = my := ⟨_, rfl⟩
 obtain ⟨w4, hw4⟩ : ∃ w4, w3.alloc (.map #[] 0) = w4 := ⟨_, rfl⟩
 have k3 : Kept (fun _ => False) w2 w3 := by rw [← hw3]; exact (Kept.refl _ _).alloc _
 have k4 : Kept (fun _ => False) w3 w4 := by rw [← hw4]; exact (Kept.refl _ _).alloc _
 have mx3 : w3.ownsMap Tryz.prog 3 (plainElem Tryz.prog 3) mx 0 (outD []) := by rw [← hw3, ← hmx]; exact World.ownsMap_made w2 Tryz.prog 3 _
 have my4 : w4.ownsMap Tryz.prog 3 (plainElem Tryz.prog 3) my 0 (outD []) := by rw [← hw4, ← hmy]; exact World.ownsMap_made w3 Tryz.prog 3 _
 have mx4 := h_ (ownsMap_kept mx3 k4 id)
 have my4' := h_ my4
 have ks4 := h_ ((hk2.trans k3).trans k4)
 have hs4 := h_ (ownsMap_kept (ownsMap_kept hown k3 id) k4 id)
 have sx : Hid (ms < mx ∧ mx < my ∧ my < w4.heap.size ∧ w1.heap.size ≤ mx) := h_ ⟨by have := hown.lt; omega, by have := mx3.lt; omega, my4.lt, by have := hk2.size; omega⟩
 have ld4 := h_ (ptr_load' (ks4.out.get t1'.out id))
 have hA4 := h_ ((h'.out.fresh k1'.out).fresh ks4.out)
 have hset' := h_ hset
 have hOb' := h_ hOb
 have hCa := h_ (hOa w4 A ms n D mx [] hA4.out hs4.out hset mx4.out (by have := sx.out; omega) (fun e => by have := (h'.out.fresh k1'.out).lt e; have := sx.out; omega) (by have := hla.out; simp; omega))
 have hA' := h_ hSideA
 have hB' := h_ hSideB
 have hw3' := h_ hw3
 have hw4' := h_ hw4
 have hmx' := h_ hmx
 have hmy' := h_ hmy
 clear hown hset hSa hSb hk2 hOa hOb hSideA hSideB hmx hw3 hmy hw4 k3 k4 mx3 my4
 go_wp2_with (first | (simp only [run_makeMap, hw3'.out, hmx'.out, hw4'.out, hmy'.out]) | (refine wpList_load_agg 30 rfl rfl rfl _ Tryz.underlying30 rfl [.pointer (some ⟨A.sb, 0, none⟩)] (by kernel_rfl) ld4.out ?_))
 refine hCa.out.mono ?_
 rintro e w5 ⟨rfl, hx5, hk5⟩
 have kw5 := h_ (ks4.out.trans_new hk5 (fun i hi e => by have := sx.out; omega))
 have ld5 := h_ (ptr_load' (kw5.out.get t1'.out id))
 have hA5 := h_ ((h'.out.fresh k1'.out).fresh kw5.out)
 have hy5 := h_ (ownsMap_kept my4'.out hk5 (by have := sx.out; omega))
 have hs5 := h_ (ownsMap_kept hs4.out hk5 (by have := sx.out; omega))
 have hCb := h_ (hOb'.out w5 A ms n D my [] hA5.out hs5.out hset'.out hy5.out (by have := sx.out; omega) (fun e => by have := (h'.out.fresh k1'.out).lt e; have := sx.out; omega) (by have := hlb.out; simp; omega))
 have hx5' := h_ hx5
 clear hx5 hk5
 go_wp2_with (first | (refine wpList_load_agg 30 rfl rfl rfl _ Tryz.underlying30 rfl [.pointer (some ⟨A.sb, 0, none⟩)] (by kernel_rfl) ld5.out ?_))
 refine hCb.out.mono ?_
 rintro e w6 ⟨rfl, hy6, hk6⟩
 obtain ⟨base, hbase⟩ : ∃ base, w6.heap.size = base := ⟨_, rfl⟩
 have I6 := h_ (show ChAt w mx my base oa ob la lb 0 (.slice none 0 0) w6 from ⟨k1'.out.trans (kw5.out.trans_new hk6 (fun i hi e => by have := sx.out; omega)), by simpa using ownsMap_kept hx5'.out hk6 (by have := sx.out; omega), by simpa using hy6, World.ownsRow_nil _ _ _ _, by omega⟩)
 have sb : Hid (mx < base ∧ my < base ∧ w.heap.size ≤ base) := h_ ⟨by have := I6.out.x.lt; omega, by have := I6.out.y.lt; omega, by have := I6.out.kept.size; omega⟩
 clear hy6 hk6 hbase
 go_wp2_with fail
 go_loopw [14, 48] (fun v i wr => ∃ (k : Nat), k ≤ 64 ∧ i = .int .i64 k ∧ Hid (ChAt w mx my base oa ob la lb k v wr)) (fun _ i _ => 64 - (intOf i).toNat)
 case atStart => exact ⟨0, by decide, rfl, I6⟩
 case round =>
  obtain ⟨k, hk, rfl, hI⟩ := hrel
  obtain ⟨Av, cv, rfl, hcv, _⟩ := ownsRow.slice2 hI.out.row
  by_cases hlt : k < 64
  ·have hki : (k : Int) < 64 := by omega
   have hra := hA'.out.rises.sublist hA'.out.sub
   have hrb := hB'.out.rises.sublist hB'.out.sub
   have hkb : -9223372036854775808 ≤ (k : Int) ∧ (k : Int) ≤ 9223372036854775807 := by omega
   have hcl := chP_len la lb k
   have hsz := hI.out.size
   have hrow := h_ hI.out.row
   have hI' := h_ hI.out
   by_cases ey : ∃ p, ((k : Int), p) ∈ ob
   ·obtain ⟨py, hy⟩ := ey
    have ly := look_hit hI.out.y hrb hy hkb
    have fy : findL lb (k : Int) = py := own_find hB'.out hy
    have py0 := (hb'.out.pages _ (hB'.out.sub.subset hy)).1
    by_cases ex : ∃ p, ((k : Int), p) ∈ oa
    ·obtain ⟨px, hx⟩ := ex
     have lx := look_hit hI.out.x hra hx hkb
     have fx : findL la (k : Int) = px := own_find hA'.out hx
     by_cases e : px = py
     ·subst e
      have hee := h_ (fx.trans fy.symm)
      clear hI hx hy hra hrb fx fy py0 hkb hlt
      have fin := h_ (ChAt.next hI'.out hee.out)
      go_wp2_with fail
      go_roundw
      case rel => exact ⟨k + 1, by omega, by go_num, fin⟩
      case measure => simp [intOf]; omega
     ·have hee : Hid (findL la (k : Int) ≠ findL lb (k : Int)) := h_ (by rw [fx, fy]; exact e)
      have heb : (px == py) = false := by simpa using e
      have fy' := h_ fy
      clear hI hx hy hra hrb fx fy py0 e hkb
      go_wp2_with (at_builtin; refine wpList_append_src rfl elemChange (.tmp 74) (.tmp 78) rfl (by rfl) (by rfl) (ownsRow.keptOf hrow.out ((Kept.refl _ _).alloc _) (fun _ _ => id)) (SliceAt.block_new (ys := [.int .i64 (k : Int), .int .i64 py]) (m := 1) (heap_alloc_new _ _) rfl (by decide)) (by intro c hc; simp at hc; rcases hc with rfl | rfl <;> rfl) (by omega) (by omega) (Nat.le_trans hsz ((Kept.refl (fun _ => False) _).alloc _).size) ?_; intro v7 w7 hown7 hg7 hat7)
      have fin := h_ (ChAt.more hI'.out hee.out fy'.out sb.out hown7 hg7)
      clear hown7 hg7 hat7
      go_roundw
      case rel => exact ⟨k + 1, by omega, by go_num, fin⟩
      case measure => simp [intOf]; omega
    ·have hmiss : ∀ y ∈ oa, y.1 ≠ (k : Int) := fun y hy e => ex ⟨y.2, by rw [← e]; exact hy⟩
     have lx := look_miss hI.out.x hmiss hkb
     have fx := other_none hA'.out hB'.out hS.out hy hmiss
     have hee : Hid (findL la (k : Int) ≠ findL lb (k : Int)) := h_ (by rw [fx, fy]; dsimp only at py0; omega)
     have fy' := h_ fy
     clear hI hy hra hrb fx fy py0 ex hmiss hkb
     go_wp2_with (at_builtin; refine wpList_append_src rfl elemChange (.tmp 74) (.tmp 78) rfl (by rfl) (by rfl) (ownsRow.keptOf hrow.out ((Kept.refl _ _).alloc _) (fun _ _ => id)) (SliceAt.block_new (ys := [.int .i64 (k : Int), .int .i64 py]) (m := 1) (heap_alloc_new _ _) rfl (by decide)) (by intro c hc; simp at hc; rcases hc with rfl | rfl <;> rfl) (by omega) (by omega) (Nat.le_trans hsz ((Kept.refl (fun _ => False) _).alloc _).size) ?_; intro v7 w7 hown7 hg7 hat7)
     have fin := h_ (ChAt.more hI'.out hee.out fy'.out sb.out hown7 hg7)
     clear hown7 hg7 hat7
     go_roundw
     case rel => exact ⟨k + 1, by omega, by go_num, fin⟩
     case measure => simp [intOf]; omega
   ·have hmy2 : ∀ y ∈ ob, y.1 ≠ (k : Int) := fun y hy e => ey ⟨y.2, by rw [← e]; exact hy⟩
    have ly := look_miss hI.out.y hmy2 hkb
    by_cases ex : ∃ p, ((k : Int), p) ∈ oa
    ·obtain ⟨px, hx⟩ := ex
     have lx := look_hit hI.out.x hra hx hkb
     have fx : findL la (k : Int) = px := own_find hA'.out hx
     have px0 := (ha'.out.pages _ (hA'.out.sub.subset hx)).1
     have fy := other_none hB'.out hA'.out (fun q hq => (hS.out q hq).symm) hx hmy2
     have hee : Hid (findL la (k : Int) ≠ findL lb (k : Int)) := h_ (by rw [fx, fy]; dsimp only at px0; omega)
     have fy' : Hid (findL lb (k : Int) = -1) := h_ fy
     clear hI hx hra hrb fx fy px0 ey hmy2 hkb
     go_wp2_with (at_builtin; refine wpList_append_src rfl elemChange (.tmp 86) (.tmp 89) rfl (by rfl) (by rfl) (ownsRow.keptOf hrow.out ((Kept.refl _ _).alloc _) (fun _ _ => id)) (SliceAt.block_new (ys := [.int .i64 (k : Int), .int .i64 (-1)]) (m := 1) (heap_alloc_new _ _) rfl (by decide)) (by intro c hc; simp at hc; rcases hc with rfl | rfl <;> rfl) (by omega) (by omega) (Nat.le_trans hsz ((Kept.refl (fun _ => False) _).alloc _).size) ?_; intro v7 w7 hown7 hg7 hat7)
     have fin := h_ (ChAt.more hI'.out hee.out fy'.out sb.out hown7 hg7)
     clear hown7 hg7 hat7
     go_roundw
     case rel => exact ⟨k + 1, by omega, by go_num, fin⟩
     case measure => simp [intOf]; omega
    ·have hmx2 : ∀ y ∈ oa, y.1 ≠ (k : Int) := fun y hy e => ex ⟨y.2, by rw [← e]; exact hy⟩
     have lx := look_miss hI.out.x hmx2 hkb
     have hee := h_ (same_key hA'.out hB'.out hS.out hmx2 hmy2)
     clear hI hra hrb ex ey hmx2 hmy2 hkb
     have fin := h_ (ChAt.next hI'.out hee.out)
     go_wp2_with fail
     go_roundw
     case rel => exact ⟨k + 1, by omega, by go_num, fin⟩
     case measure => simp [intOf]; omega
  ·obtain rfl : k = 64 := by omega
   have hI' := h_ hI.out
   clear hI
   go_wp2_with fail
   go_ret2
   exact ⟨_, rfl, owns_weaken hI'.out.row sb.out.2.2, hI'.out.kept⟩
theorem set_keys {w : World} {b n : Nat} {D : DataW Unit} {S : List Int} {R : Value → Option (DataW Unit × List MemPlace)} (hown : w.ownsMap Tryz.prog 3 R b n D) (hn : S.Nodup) (hh : ∀ x, has D (.int .i64 x) = decide (x ∈ S)) : S.Perm (intKeys D) := by
 have K : Keyed Tryz.prog 3 := int_keyed Tryz.underlying3
 obtain ⟨es, hD, hpw, _⟩ := hown.entries K
 obtain ⟨es', hD', hko⟩ := hown.keysOf
 obtain rfl : es = es' := by rw [hD] at hD'; simpa using hD'
 have hh' : ∀ x, x ∈ S ↔ has D (.int .i64 x) = true := fun x => by rw [hh x, decide_eq_true_eq]
 rw [hD] at hh' ⊢
 exact perm_intKeys hpw (fun p hp => by obtain ⟨v, hv⟩ := hko p hp; obtain ⟨x, _, hx, _⟩ := Maps.keyOf_i64 Tryz.underlying3 hv; exact ⟨x, hx⟩) hn hh'
set_option maxHeartbeats 8000000 in
theorem diffShared {w : World} {A : SA} {m : Nat} {M : SM} (h : StoreAt w A M) {ra rb : Int} {la lb : List (Int × Int)} (ha : RootIs m M ra la) (hb : RootIs m M rb lb) :
  Calls Tryz.prog 51 #[.agg #[.pointer (some ⟨A.sb, 0, none⟩)], .int .i64 ra, .int .i64 rb] w fun e w' => ∃ (v : Value) (S : List Int), e = .returned (.tuple #[v, .int .i64 0]) ∧ w'.ownsRow w.heap.size 3 1 v S.length (S.map (Value.int .i64)) ∧ S.Nodup ∧ (∀ x, x ∈ S ↔ (Below M ra x ∧ x ≠ -1) ∧ (Below M rb x ∧ x ≠ -1)) ∧ Kept (fun _ => False) w w' := by
 obtain ⟨db, hdb⟩ : ∃ db, w.heap.size = db := ⟨_, rfl⟩
 obtain ⟨w1, hw1⟩ : ∃ w1, w.alloc (.cells #[.pointer (some ⟨A.sb, 0, none⟩)] 30) = w1 := ⟨_, rfl⟩
 have k1 : Kept (fun _ => False) w w1 := by rw [← hw1]; exact (Kept.refl _ _).alloc _
 have t1 : w1.heap[db]? = some (.cells #[.pointer (some ⟨A.sb, 0, none⟩)] 30 (0, 0)) := by rw [← hw1, ← hdb]; exact heap_alloc_new _ _
 have ld1 := h_ (ptr_load' t1)
 have hSh := h_ (sharedAny (h.fresh k1) (ha.wf h) ha.okay.1 ha.okay.2 (hb.wf h) hb.okay.1 hb.okay.2)
 have hw1' := h_ hw1
 have hdb' := h_ hdb
 have k1' := h_ k1
 clear h hw1 hdb k1 t1 ha hb
 go_enter Tryz.func51, Tryz.ntmps51
 go_wp2_with (first | (refine wpList_box_named 30 rfl rfl _ rfl hw1'.out ?_; rw [hdb'.out]) | (refine wpList_load_agg 30 rfl rfl rfl _ Tryz.underlying30 rfl [.pointer (some ⟨A.sb, 0, none⟩)] (by kernel_rfl) ld1.out ?_))
 refine hSh.out.mono ?_
 rintro e w2 ⟨ms, n, D, Sa, Sb, rfl, hms, hn240, hown, hset, hnd, hSa, hSb, hk2⟩
 have hperm := h_ (set_keys (S := Sa.filter fun x => decide (x ∈ Sb)) hown (hnd.filter _) (fun x => by
  rw [(hset x).1]
  by_cases e1 : x ∈ Sa <;> by_cases e2 : x ∈ Sb <;> simp [e1, e2]))
 have hmem : Hid (∀ x, x ∈ Sa.filter (fun x => decide (x ∈ Sb)) ↔ (Below M ra x ∧ x ≠ -1) ∧ (Below M rb x ∧ x ≠ -1)) := h_ (fun x => by rw [List.mem_filter, decide_eq_true_eq, hSa, hSb])
 have hsz := World.ownsMap.size_le hown
 have hsc := h_ (sortedCall ms n D _ w2 hown (by unfold maxLen; omega) (by omega))
 have hkc := h_ (keysCall (some ms) w2)
 have hnd' := h_ (hnd.filter fun x => decide (x ∈ Sb))
 have hk := h_ (k1'.out.trans hk2)
 clear hown hset hnd hSa hSb hk2 hms hsz
 go_wp2_with fail
 refine hkc.out.mono ?_
 rintro e w3 ⟨rfl, rfl⟩
 go_wp2_with fail
 refine hsc.out.mono ?_
 rintro e w4 ⟨v4, ss, rfl, hS, hrow, hk4⟩
 have hs4 := hk.out.size
 have hp := hS.trans hperm.out.symm
 have hk4' := h_ hk4
 have hrow' := h_ hrow
 have hp' := h_ hp
 clear hk4 hrow hS hp
 go_wp2_with fail
 go_ret2
 have hpp : (ss.mergeSort fun x y => decide (x ≤ y)).Perm (Sa.filter fun x => decide (x ∈ Sb)) := (List.mergeSort_perm _ _).trans hp'.out
 refine ⟨v4, ss.mergeSort fun x y => decide (x ≤ y), rfl, ?_, hpp.nodup_iff.2 hnd'.out, fun x => by rw [hpp.mem_iff]; exact hmem.out x, hk.out.trans hk4'.out⟩
 rw [List.length_mergeSort]
 exact owns_weaken hrow'.out (by omega)
end Go.Proofs.YtidlchciehdefaaGreat
/-
 Two trees held against one another: the chapter's example, plain.
-/
namespace Go.Proofs.YtidlchciehdefaaGreat
open Go.RowKit

def exA (p0 p1 : Nat) : List (Int × Int) := [(1, (p0 : Int)), (2, (p1 : Int))]
def exB (p0 p1 p2 : Nat) : List (Int × Int) := [(1, (p0 : Int)), (2, (p1 : Int)), (9, (p2 : Int))]
theorem exB_put (p0 p1 p2 : Nat) : putL (exA p0 p1) (9, (p2 : Int)) = exB p0 p1 p2 := by
 unfold putL exA exB
 simp
theorem exA_build (p0 p1 : Nat) : (exA p0 p1).foldl putL [] = exA p0 p1 := by
 unfold exA putL
 simp
theorem ch_ab (p0 p1 p2 : Nat) : changesL (exA p0 p1) (exB p0 p1 p2) = [(9, (p2 : Int))] := by
 have h : ((-1 : Int) = (p2 : Int)) = False := by simp
 unfold changesL exA exB
 simp [List.range, List.range.loop, findL, h]
theorem ch_ba (p0 p1 p2 : Nat) : changesL (exB p0 p1 p2) (exA p0 p1) = [(9, -1)] := by
 have h : ((p2 : Int) = (-1 : Int)) = False := by simp
 unfold changesL exA exB
 simp [List.range, List.range.loop, findL, h]
section
variable {M : SM} {ns : List Nat}
theorem alive12_build (h : OneTree Clean 240 ns M (-1) [] 0) (h4 : ns.length = 4) {p0 p1 : Nat} (i0 : p0 ∈ ns) (i1 : p1 ∈ ns) :
  ∃ M1 a, SM.build (exA p0 p1) M (-1) = (M1, a, 0) ∧ OneTree Clean 240 ns M1 a (exA p0 p1) 2 ∧ M1.log.length ≤ M.log.length + 44 := by
 obtain ⟨M1, a, e, h1, hl⟩ := build_one clean_besides (by omega) (by decide) (exA p0 p1) h (by show 0 + 2 ≤ 150; omega) (fun y hy => by
  unfold exA at hy
  simp only [List.mem_cons, List.not_mem_nil, or_false] at hy
  rcases hy with rfl | rfl
  ·exact ⟨by simp, by simp, p0, i0, rfl⟩
  ·exact ⟨by simp, by simp, p1, i1, rfl⟩)
 rw [exA_build] at h1
 exact ⟨M1, a, e, h1, hl⟩
theorem alive12_put {M1 : SM} {a : Int} {p0 p1 p2 : Nat} (h1 : OneTree Clean 240 ns M1 a (exA p0 p1) 2) (h4 : ns.length = 4) (i0 : p0 ∈ ns) (i1 : p1 ∈ ns) (i2 : p2 ∈ ns) :
  ∃ M2 b M3, M1.put a 9 (p2 : Int) = (M2, b, 0) ∧ M2.swap (-1) b = (M3, 0) ∧ RootIs 1 M3 a (exA p0 p1) ∧ RootIs 1 M3 b (exB p0 p1 p2) ∧ M3.log.length ≤ M1.log.length + 22 := by
 obtain ⟨k, hr, hk, hled⟩ := h1.rooted (by omega)
 obtain ⟨r1, r2⟩ := h1.room clean_besides (by omega)
 have hx : M1.pool.heldB (p2 : Int) = true := by rw [heldB_nat]; exact (h1.data p2 i2).1
 have hlg := put_log M1 a 9 (p2 : Int)
 have hext : ∀ c, extB ns a c ≤ 5 := fun c => by
  unfold extB
  have : ns.count c ≤ ns.length := List.count_le_length
  split <;> omega
 rcases put_new (by decide) h1.exact hr (by omega) h1.good (fun q hq hc => by obtain ⟨y, hy, _⟩ := h1.loose q hq hc; cases hy) hx (show (0 : Int) ≤ 9 by decide) (by decide) with ⟨e, T⟩ | ⟨_, _, hf⟩ | ⟨_, _, c, hc⟩
 ·obtain ⟨R, hR⟩ : ∃ R, M1.put a 9 (p2 : Int) = R := ⟨_, rfl⟩
  rw [hR] at e T hlg
  obtain ⟨M2, b, er⟩ := R
  dsimp only at e T hlg
  subst e
  obtain ⟨h', tb, hh'⟩ := T.tr
  rw [exB_put] at tb
  have hb0 := heldB_int tb.held
  have hna : a ≠ -1 := fun e => by
   rcases hr with ⟨_, e2, _⟩ | t
   ·exact absurd e2 (by unfold exA; simp)
   ·have := (heldB_int t.held).1; omega
  have ta : Tr 1 M2 k a (exA p0 p1) := by
   rcases hr with ⟨e1, _⟩ | t
   ·exact absurd e1 hna
   ·exact t.grown T.grown
  obtain ⟨s0, E3, hlog, hsz, hlv, _⟩ := swap_ok T.exact (old := -1) (next := b) (.inr ⟨tb.held, by rw [T.zero]; decide⟩) (.inl rfl)
  obtain ⟨S, hS⟩ : ∃ S, M2.swap (-1) b = S := ⟨_, rfl⟩
  rw [hS] at s0 E3 hlog hsz hlv
  obtain ⟨M3, es⟩ := S
  dsimp only at s0 E3 hlog hsz hlv
  subst s0
  have hin : ∀ r : Int, M2.pool.heldB r = true → 0 < swapE (extB ns a) (-1) b r.toNat → M3.pool.heldB r = true := fun r hr hp => by
   obtain ⟨c, hc⟩ := Int.eq_ofNat_of_zero_le (heldB_int hr).1
   have hlt := live_lt (heldB_int hr).2
   rw [hc, Int.toNat_natCast] at hlt hp
   rw [hc]
   exact ext_held E3 (by rw [hsz]; exact hlt) hp
  have ha3 : M3.pool.heldB a = true := hin a ta.held (by
   have e1 : ((a.toNat : Nat) : Int) = a := Int.toNat_of_nonneg (heldB_int ta.held).1
   unfold swapE extB
   simp only [e1, if_true, if_neg hna]
   split <;> omega)
  have hb3 : M3.pool.heldB b = true := hin b tb.held (by
   have e1 : ((b.toNat : Nat) : Int) = b := Int.toNat_of_nonneg hb0.1
   have hnb : b ≠ -1 := by omega
   unfold swapE
   simp only [e1, if_true, if_neg hnb]
   omega)
  have hpg : ∀ y ∈ exB p0 p1 p2, 0 ≤ y.2 ∧ y.2 < 240 := fun y hy => by
   have hp : ∀ p ∈ ns, p < 240 := fun p hp => by have := live_lt (h1.data p hp).1; have := h1.size; omega
   unfold exB at hy
   simp only [List.mem_cons, List.not_mem_nil, or_false] at hy
   have a0 := hp p0 i0
   have a1 := hp p1 i1
   have a2 := hp p2 i2
   rcases hy with rfl | rfl | rfl <;> (dsimp only; omega)
  refine ⟨M2, b, M3, hR, hS, ⟨.inr ⟨k, by omega, Tr.stays E3 hlog ta ha3⟩, h1.keys.1, fun y hy => ⟨(h1.keys.2 y hy).1, (h1.keys.2 y hy).2.1⟩, fun y hy => hpg y (by unfold exA at hy; unfold exB; simp at hy ⊢; rcases hy with rfl | rfl <;> simp)⟩,
   ⟨.inr ⟨h', by omega, Tr.stays E3 hlog tb hb3⟩, by unfold exB RisesK; simp, fun y hy => by unfold exB at hy; simp at hy; rcases hy with rfl | rfl | rfl <;> simp, hpg⟩, by rw [hlog]; exact hlg⟩
 ·omega
 ·have := hext c
  have hrl := M1.refs_le c
  omega
end
theorem nodup_len : ∀ {S L : List Int}, S.Nodup → (∀ x ∈ S, x ∈ L) → S.length ≤ L.length
 | [], _, _, _ => Nat.zero_le _
 | x :: S, L, h, hs => by
  rw [List.nodup_cons] at h
  have hx := hs x (List.mem_cons_self ..)
  have ih := nodup_len (L := L.erase x) h.2 (fun y hy => by
   have hne : y ≠ x := fun e => h.1 (e ▸ hy)
   exact (List.mem_erase_of_ne hne).2 (hs y (List.mem_cons_of_mem _ hy)))
  have hl := List.length_erase_of_mem hx
  have hp : 0 < L.length := List.length_pos_of_mem hx
  rw [List.length_cons]
  omega
theorem same_len {S T : List Int} (hS : S.Nodup) (hT : T.Nodup) (h : ∀ x, x ∈ S ↔ x ∈ T) : S.length = T.length :=
 Nat.le_antisymm (nodup_len hS fun x hx => (h x).1 hx) (nodup_len hT fun x hx => (h x).2 hx)
section
variable {K : SM → Prop} {c : Nat} {ns : List Nat} {M M' : SM} {ts : List IM} {t : IM} {k : Nat}
theorem Forest.rootis (h : Forest K ns M ts) (ht : t ∈ ts) (hP : t.P ≤ 240) : RootIs 1 M t.root t.l := by
 obtain ⟨T, hp⟩ := h.tree t ht
 refine ⟨?_, T.keys.1, T.keys.2, fun y hy => ?_⟩
 ·obtain ⟨k, hr, hk, _⟩ := T.rooted hP
  rcases hr with ⟨e1, e2, _⟩ | tt
  ·exact .inl ⟨e1, e2⟩
  ·exact .inr ⟨k, by omega, tt⟩
 ·obtain ⟨b, hb, e⟩ := hp y hy
  have := live_lt (h.data b hb).1
  have := h.size
  omega
theorem Forest.put_below (h : Forest K ns M ts) (hi : ts[k]? = some t) (hP : t.P + 1 ≤ 240) {x : Int × Int} (k0 : 0 ≤ x.1) (k1 : x.1 < 64) {b : Nat} (hb : b ∈ ns) (hx : x.2 = (b : Int)) {next : Int} {ext : Nat → Nat} (he : M.change t.root x = (M', next, 0)) (C : Changed 1 M ext t.root (chgL t.l x) (t.P + 1) M' next) :
  (∀ q, Below M' next q → (t.root ≠ -1 ∧ Below M t.root q) ∨ M.live q.toNat = false) ∧ ∀ hh, Tr 1 M hh t.root t.l → ∃ L : List Int, L.length ≤ hh ∧ ∀ q, Below M t.root q → q ∈ L ∨ Below M' next q := by
 have ht : t ∈ ts := List.mem_of_getElem? hi
 obtain ⟨hT, _⟩ := h.tree t ht
 have hne : ¬ x.2 = -1 := by omega
 have hheld : M.pool.heldB x.2 = true := by rw [hx]; exact h.held hb
 have hl : Loose M [(x.1, x.2)] := h.loose.mono fun y hy => by cases hy
 obtain ⟨kk, hro, hk, hled⟩ := hT.rooted (by omega)
 have hone : M.one t.root x = M.put t.root x.1 x.2 := by unfold SM.one; rw [if_neg hne]
 unfold SM.change at he
 dsimp only at he
 rw [hone] at he
 have hpn := put_new (by decide) h.exact hro (by omega) (hT.good h.exact) (key := x.1) (page := x.2) hl hheld k0 k1
 obtain ⟨R, hR⟩ : ∃ R, M.put t.root x.1 x.2 = R := ⟨_, rfl⟩
 have hp1 := fun (hh : Nat) (tt : Tr 1 M hh t.root t.l) (h8 : hh ≤ 8) => _root_.Go.Proofs.YtidlchciehdefaaGreat.put_below (by decide) h.exact tt h8 (hT.good h.exact) (key := x.1) hheld k0 k1
 have hp2 := fun (e : t.root = -1) => put_below_none h.exact (key := x.1) hheld k0 k1
 rw [hR] at he hpn hp1
 obtain ⟨M1, n1, er⟩ := R
 dsimp only at he hpn hp1
 by_cases h0 : er = 0
 ·subst h0
  rw [if_pos rfl] at he
  by_cases h1 : (M1.swap t.root n1).2 = 0
  ·rw [if_pos h1] at he
   injection he with e1 e2
   injection e2 with e2 _
   subst e1 e2
   have hlog : (M1.swap t.root n1).1.log = M1.log := swap_log M1 t.root n1
   rcases hpn with ⟨_, T⟩ | ⟨_, e, _⟩ | ⟨_, e, _⟩
   ·obtain ⟨h', tr1, _⟩ := T.tr
    have hn1 : n1 ≠ -1 := fun e => by have := (heldB_int tr1.held).1; omega
    rcases C.tree.root with ⟨e, _⟩ | ⟨h2, tr2, _⟩
    ·exact absurd e hn1
    ·have hB := below_log tr1 tr2 (fun q _ => by unfold SM.nodeAt; rw [hlog])
     refine ⟨fun q hq => ?_, fun hh tt => ?_⟩
     ·have hq := (hB q).1 hq
      rcases hro with ⟨e, _⟩ | tt
      ·have h2 := hp2 e
       rw [← e, hR] at h2
       exact .inr (h2 rfl q hq)
      ·have hne1 : t.root ≠ -1 := fun e => by have := (heldB_int tt.held).1; omega
       exact (((hp1 kk tt (by omega)) rfl).1 q hq).imp (fun h => ⟨hne1, h⟩) id
     ·have h8 : hh ≤ 8 := by
       rcases hro with ⟨e, _⟩ | tt'
       ·have := (heldB_int tt.held).1; omega
       ·have := tr_high_same (fun _ _ => rfl) tt tt'
        omega
      obtain ⟨L, q2, q3⟩ := ((hp1 hh tt h8) rfl).2
      exact ⟨L, q2, fun q hq => (q3 q hq).imp id (hB q).2⟩
   ·cases e
   ·cases e
  ·rw [if_neg h1] at he
   injection he with _ he
   injection he with _ he
   exact absurd he h1
 ·rw [if_neg h0] at he
  injection he with _ he
  injection he with _ he
  exact absurd he h0
theorem tree_stays {ext : Nat → Nat} {root next : Int} {l : List (Int × Int)} {P : Nat} (C : Changed 1 M ext root l P M' next) {r : Int} {a : List (Int × Int)} {Pa Pb : Nat} (t : TreeIn 1 M r a Pa) (t' : TreeIn 1 M' r a Pb) (q : Int) (hq : q ≠ -1) : Below M' r q ↔ Below M r q := by
 rcases t.root with ⟨e, _⟩ | ⟨h, tt, _⟩
 ·rw [e]
  exact ⟨fun hb => absurd (below_none hb) hq, fun hb => absurd (below_none hb) hq⟩
 ·rcases t'.root with ⟨e, _⟩ | ⟨h', tt', _⟩
  ·have := (heldB_int tt.held).1; omega
  ·exact below_log tt tt' C.node q
def Disj (M : SM) (r s : Int) : Prop := ∀ q, q ≠ -1 → Below M r q → ¬ Below M s q
theorem build_apart (hB : Besides K c) (hn : ns.Nodup) (h4 : ns.length ≤ 4) {j : Nat} (hjk : j ≠ k) : ∀ (cs : List (Int × Int)) {M : SM} {ts : List IM} {t a : IM}, Forest K ns M ts → ts.length ≤ 3 → ts[k]? = some t → ts[j]? = some a → (∀ t ∈ ts, t.P + cs.length ≤ 239) → (ts.map fun i => i.P + 3).sum + cs.length + 2 * c ≤ 438 → (∀ x ∈ cs, 0 ≤ x.1 ∧ x.1 < 64 ∧ ∃ b ∈ ns, x.2 = ((b : Nat) : Int)) → Disj M t.root a.root →
  ∃ M' t', SM.build cs M t.root = (M', t'.root, 0) ∧ Forest K ns M' (ts.set k t') ∧ t'.P = t.P + cs.length ∧ Disj M' t'.root a.root
 | [], M, ts, t, a, h, _, hi, _, _, _, _, hd => by
  refine ⟨M, t, rfl, ?_, rfl, hd⟩
  have : ts.set k t = ts := by
   refine List.ext_getElem? fun j => ?_
   rw [List.getElem?_set]
   by_cases e : k = j
   ·subst e
    rw [if_pos rfl, if_pos (List.getElem?_eq_some_iff.1 hi).1, hi]
   ·rw [if_neg e]
  rw [this]
  exact h
 | x :: cs, M, ts, t, a, h, h3, hi, hj, hP, hs, hx, hd => by
  rw [List.length_cons] at hP hs
  have hk : k < ts.length := (List.getElem?_eq_some_iff.1 hi).1
  obtain ⟨k0, k1, b, hb, hxb⟩ := hx x (List.mem_cons_self ..)
  have hm : t ∈ ts := List.mem_of_getElem? hi
  have hma : a ∈ ts := List.mem_of_getElem? hj
  obtain ⟨M1, next, e, C, h1⟩ := h.change hB hn h4 h3 hi (fun t ht => by have := hP t ht; omega) (by omega) k0 k1 (.inr ⟨b, hb, hxb⟩)
  obtain ⟨p1, _⟩ := h.put_below hi (by have := hP t hm; omega) k0 k1 hb hxb e C
  have hi1 : (ts.set k ⟨next, chgL t.l x, t.P + 1, t.w⟩)[k]? = some ⟨next, chgL t.l x, t.P + 1, t.w⟩ := List.getElem?_set_self hk
  have hj1 : (ts.set k ⟨next, chgL t.l x, t.P + 1, t.w⟩)[j]? = some a := by rw [List.getElem?_set, if_neg (fun e => hjk e.symm)]; exact hj
  have ta := (h.tree a hma).1
  have ta' := (h1.tree a (List.mem_of_getElem? hj1)).1
  have hd1 : Disj M1 next a.root := fun q hq hb1 hb2 => by
   have hb2 := (tree_stays C ta ta' q hq).1 hb2
   rcases p1 q hb1 with ⟨_, hb3⟩ | hl
   ·exact hd q hq hb3 hb2
   ·rcases ta.root with ⟨e, _⟩ | ⟨hh, tt, _⟩
    ·rw [e] at hb2
     exact hq (below_none hb2)
    ·obtain ⟨_, _, _, t2, _⟩ := tr_below tt hb2
     rw [show M.live q.toNat = true from (heldB_int t2.held).2] at hl
     cases hl
  obtain ⟨M2, t2, e2, h2, e4, d2⟩ := build_apart hB hn h4 hjk cs h1 (by rw [List.length_set]; exact h3) hi1 hj1 (fun i hi' => by
   rcases List.mem_or_eq_of_mem_set hi' with hi' | rfl
   ·have := hP i hi'; omega
   ·have := hP t hm
    show t.P + 1 + _ ≤ _; omega) (by rw [sum_set hi rfl]; omega) (fun y hy => hx y (List.mem_cons_of_mem _ hy)) hd1
  refine ⟨M2, t2, ?_, by rw [set_set2] at h2; exact h2, by rw [e4, List.length_cons]; show t.P + 1 + cs.length = _; omega, d2⟩
  have hne : ¬ x.2 = -1 := by omega
  have hone : M.one t.root x = M.put t.root x.1 x.2 := by unfold SM.one; rw [if_neg hne]
  unfold SM.change at e
  dsimp only at e
  rw [hone] at e
  rw [build_cons]
  by_cases h0 : (M.put t.root x.1 x.2).2.2 = 0
  ·rw [if_pos h0] at e ⊢
   by_cases h5 : ((M.put t.root x.1 x.2).1.swap t.root (M.put t.root x.1 x.2).2.1).2 = 0
   ·rw [if_pos h5] at e ⊢
    injection e with e6 e7
    injection e7 with e7 _
    rw [e6, e7]
    exact e2
   ·rw [if_neg h5] at e
    injection e with _ e
    injection e with _ e
    exact absurd e h5
  ·rw [if_neg h0] at e
   injection e with _ e
   injection e with _ e
   exact absurd e h0
end
end Go.Proofs.YtidlchciehdefaaGreat
