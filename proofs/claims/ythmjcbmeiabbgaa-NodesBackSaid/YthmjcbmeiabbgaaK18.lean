/-
  Trees in a store, plain: what a tree of a height is; entries with one more.
-/
import Derived.Test.YthmjcbmeiabbgaaK14
import Derived.Test.YthmjcbmeiabbgaaK15
import Derived.Test.YthmjcbmeiabbgaaK17
set_option linter.unusedVariables false
set_option linter.unusedSimpArgs false
namespace Go.Proofs.Ythmjcbmeiabbgaa
open Go.RowKit

/-- The entries with one for a key. -/
def putL (l : List (Int × Int)) (x : Int × Int) : List (Int × Int) := l.filter (fun y => decide (y.1 < x.1)) ++ [x] ++ l.filter (fun y => decide (x.1 < y.1))
theorem filter_all {l : List (Int × Int)} {p : Int × Int → Bool} (h : ∀ y ∈ l, p y = true) : l.filter p = l := List.filter_eq_self.2 h
theorem filter_none {l : List (Int × Int)} {p : Int × Int → Bool} (h : ∀ y ∈ l, p y = false) : l.filter p = [] := List.filter_eq_nil_iff.2 fun y hy => by rw [h y hy]; decide
theorem putL_mid {a b c : List (Int × Int)} {x : Int × Int} (ha : ∀ y ∈ a, y.1 < x.1) (hc : ∀ y ∈ c, x.1 < y.1) : putL (a ++ b ++ c) x = a ++ putL b x ++ c := by
  unfold putL
  simp only [List.filter_append]
  rw [filter_all (l := a) (p := fun y => decide (y.1 < x.1)) (fun y hy => by simpa using ha y hy), filter_none (l := a) (p := fun y => decide (x.1 < y.1)) (fun y hy => by have := ha y hy; simp; omega),
    filter_none (l := c) (p := fun y => decide (y.1 < x.1)) (fun y hy => by have := hc y hy; simp; omega), filter_all (l := c) (p := fun y => decide (x.1 < y.1)) (fun y hy => by simpa using hc y hy)]
  simp
theorem putL_rises {l : List (Int × Int)} (h : RisesK l) (x : Int × Int) : RisesK (putL l x) := by
  unfold putL RisesK
  rw [List.append_assoc]
  refine List.pairwise_append.2 ⟨List.Pairwise.filter _ h, List.pairwise_append.2 ⟨List.pairwise_singleton _ _, List.Pairwise.filter _ h, fun a ha b hb => ?_⟩, fun a ha b hb => ?_⟩
  · rw [List.mem_singleton.1 ha]
    simp at hb; exact hb.2
  · simp at ha
    rcases List.mem_append.1 hb with hb | hb
    · rw [List.mem_singleton.1 hb]; exact ha.2
    · simp at hb; omega
theorem putL_mem {l : List (Int × Int)} {x y : Int × Int} (h : y ∈ putL l x) : y = x ∨ y ∈ l := by
  unfold putL at h
  simp only [List.mem_append, List.mem_singleton, List.mem_filter] at h
  rcases h with (h | h) | h
  · exact .inr h.1
  · exact .inl h
  · exact .inr h.1
theorem rises_cut {l : List (Int × Int)} (h : RisesK l) (i : Nat) : (∀ y ∈ l.take i, ∀ z ∈ l.drop i, y.1 < z.1) := by
  have : RisesK (l.take i ++ l.drop i) := by rw [List.take_append_drop]; exact h
  exact fun y hy z hz => (List.pairwise_append.1 this).2.2 y hy z hz
theorem putL_take {l : List (Int × Int)} {x : Int × Int} {i j : Nat} (hij : i ≤ j) (h1 : ∀ y ∈ l.take i, y.1 < x.1) (h2 : ∀ y ∈ l.drop j, x.1 < y.1) (h3 : ∀ y ∈ (l.drop i).take (j - i), y.1 = x.1) :
    l.take i ++ [x] ++ l.drop j = putL l x := by
  have e : l = l.take i ++ (l.drop i).take (j - i) ++ l.drop j := by
    rw [List.append_assoc]
    have : (l.drop i).take (j - i) ++ l.drop j = l.drop i := by
      have := List.take_append_drop (j - i) (l.drop i)
      rw [List.drop_drop, show i + (j - i) = j by omega] at this
      exact this
    rw [this, List.take_append_drop]
  have hm : putL ((l.drop i).take (j - i)) x = [x] := by
    unfold putL
    rw [filter_none (fun y hy => by have := h3 y hy; simp; omega), filter_none (fun y hy => by have := h3 y hy; simp; omega)]
    rfl
  conv => rhs; rw [e]
  rw [putL_mid h1 h2, hm]

/-- Where a key belongs: what is ahead of it and what isn't. -/
theorem atI_cut {l : List (Int × Int)} (h : RisesK l) (key : Int) {c : Nat} (hc : (c : Int) = atI l key + 1) : c ≤ l.length ∧ (∀ y ∈ l.take c, y.1 ≤ key) ∧ (∀ y ∈ l.drop c, key < y.1) := by
  have hlen : c = (l.filter fun x => decide (x.1 ≤ key)).length := by unfold atI at hc; omega
  clear hc
  subst hlen
  have key' : ∀ {l : List (Int × Int)}, RisesK l → l.take (l.filter fun x => decide (x.1 ≤ key)).length = l.filter (fun x => decide (x.1 ≤ key)) ∧ l.drop (l.filter fun x => decide (x.1 ≤ key)).length = l.filter (fun x => decide (key < x.1)) := by
    intro l
    induction l with
    | nil => intro _; exact ⟨rfl, rfl⟩
    | cons y l ih =>
      intro hr
      have hr' := List.pairwise_cons.1 hr
      by_cases hy : y.1 ≤ key
      · rw [List.filter_cons_of_pos (by simpa using hy), List.length_cons, List.take_succ_cons, List.drop_succ_cons, (ih hr'.2).1, (ih hr'.2).2, List.filter_cons_of_neg (by simp; omega)]
        exact ⟨rfl, rfl⟩
      · have hall : l.filter (fun x => decide (x.1 ≤ key)) = [] := List.filter_eq_nil_iff.2 fun z hz => by have := hr'.1 z hz; simp; omega
        have hall2 : l.filter (fun x => decide (key < x.1)) = l := filter_all fun z hz => by have := hr'.1 z hz; simp; omega
        rw [List.filter_cons_of_neg (by simpa using hy), hall, List.filter_cons_of_pos (by simp; omega), hall2]
        exact ⟨rfl, rfl⟩
  refine ⟨List.length_filter_le _ _, fun y hy => ?_, fun y hy => ?_⟩
  · rw [(key' h).1] at hy; simp at hy; exact hy.2
  · rw [(key' h).2] at hy; simp at hy; exact hy.2

/-- Children, each with its own part of the entries. -/
def Kids (T : Int → List (Int × Int) → Prop) : List (Int × Int) → List (Int × Int) → Prop
  | [], l => l = []
  | e :: es, l => ∃ a b x, l = a ++ b ∧ T e.2 a ∧ a.head? = some x ∧ x.1 = e.1 ∧ Kids T es b
theorem Kids.append {T : Int → List (Int × Int) → Prop} : ∀ {es fs l m : List (Int × Int)}, Kids T es l → Kids T fs m → Kids T (es ++ fs) (l ++ m)
  | [], _, _, _, h, k => by rw [show _ = [] from h]; exact k
  | _ :: _, _, _, _, ⟨a, b, x, h1, h2, h3, h4, h5⟩, k => ⟨a, b ++ _, x, by rw [h1, List.append_assoc], h2, h3, h4, Kids.append h5 k⟩
theorem Kids.cut {T : Int → List (Int × Int) → Prop} : ∀ {es fs l : List (Int × Int)}, Kids T (es ++ fs) l → ∃ a b, l = a ++ b ∧ Kids T es a ∧ Kids T fs b
  | [], _, l, h => ⟨[], l, rfl, rfl, h⟩
  | _ :: _, _, _, ⟨a, b, x, h1, h2, h3, h4, h5⟩ => by
    obtain ⟨c, d, e1, e2, e3⟩ := Kids.cut h5
    exact ⟨a ++ c, d, by rw [h1, e1, List.append_assoc], ⟨a, c, x, rfl, h2, h3, h4, e2⟩, e3⟩
theorem Kids.mono {T U : Int → List (Int × Int) → Prop} : ∀ {es l : List (Int × Int)}, (∀ e ∈ es, ∀ a, T e.2 a → U e.2 a) → Kids T es l → Kids U es l
  | [], _, _, h => h
  | _ :: _, _, h, ⟨a, b, x, h1, h2, h3, h4, h5⟩ => ⟨a, b, x, h1, h _ (List.mem_cons_self ..) _ h2, h3, h4, Kids.mono (fun e he => h e (List.mem_cons_of_mem _ he)) h5⟩
/-- The first key is the first entry's. -/
theorem Kids.head {T : Int → List (Int × Int) → Prop} {e : Int × Int} {es l : List (Int × Int)} (h : Kids T (e :: es) l) : ∃ x, l.head? = some x ∧ x.1 = e.1 := by
  obtain ⟨a, b, x, h1, h2, h3, h4, h5⟩ := h
  refine ⟨x, ?_, h4⟩
  cases a with
  | nil => cases h3
  | cons y a => rw [h1]; exact h3
theorem Kids.each {T : Int → List (Int × Int) → Prop} : ∀ {es l : List (Int × Int)}, Kids T es l → ∀ e ∈ es, ∃ a, T e.2 a ∧ ∀ y ∈ a, y ∈ l
  | [], _, _, _, he => by cases he
  | _ :: _, _, ⟨a, b, x, h1, h2, h3, h4, h5⟩, e, he => by
    rcases List.mem_cons.1 he with rfl | he
    · exact ⟨a, h2, fun y hy => by rw [h1]; exact List.mem_append_left _ hy⟩
    · obtain ⟨c, hc, hm⟩ := Kids.each h5 e he
      exact ⟨c, hc, fun y hy => by rw [h1]; exact List.mem_append_right _ (hm y hy)⟩
theorem head_le {l : List (Int × Int)} (h : RisesK l) {x : Int × Int} (hx : l.head? = some x) : ∀ y ∈ l, x.1 ≤ y.1 := by
  cases l with
  | nil => cases hx
  | cons z l =>
    cases hx
    intro y hy
    rcases List.mem_cons.1 hy with rfl | hy
    · exact Int.le_refl _
    · exact Int.le_of_lt ((List.pairwise_cons.1 h).1 y hy)

/-- A node that stands for entries: a leaf (h = 0), or children of height h. -/
def NTr (T : Int → List (Int × Int) → Prop) (h : Nat) (n : NM) (l : List (Int × Int)) : Prop := (h = 0 ∧ n.kind = 2 ∧ n.ents = l) ∨ (0 < h ∧ n.kind = 3 ∧ Kids T n.ents l)
def SM.entN (M : SM) (p : Int) : Nat := (M.ents p.toNat).length
/-- A tree of a height at a page, with entries; each node but the root has m entries at least. -/
def Tr (m : Nat) (M : SM) : Nat → Int → List (Int × Int) → Prop
  | 0, _, _ => False
  | h + 1, p, l => M.pool.heldB p = true ∧ ∃ n, M.nodeAt p.toNat = some n ∧ n.ok ∧ NTr (fun q a => Tr m M h q a ∧ m ≤ M.entN q) h n l
/-- A tree that stands below another one. -/
def Sub (m : Nat) (M : SM) (h : Nat) (q : Int) (a : List (Int × Int)) : Prop := Tr m M h q a ∧ m ≤ M.entN q
theorem entN_of {M : SM} {p : Int} {n : NM} (h : M.nodeAt p.toNat = some n) : M.entN p = n.ents.length := by unfold SM.entN SM.ents; rw [h]
theorem NTr.mono {T U : Int → List (Int × Int) → Prop} {h : Nat} {n : NM} {l : List (Int × Int)} (k : NTr T h n l) (f : ∀ e ∈ n.ents, ∀ a, T e.2 a → U e.2 a) : NTr U h n l := by
  rcases k with k | ⟨h0, hk, k⟩
  · exact .inl k
  · exact .inr ⟨h0, hk, Kids.mono f k⟩
theorem Tr.held {m : Nat} {M : SM} {h : Nat} {p : Int} {l : List (Int × Int)} (t : Tr m M h p l) : M.pool.heldB p = true := by
  cases h with
  | zero => exact t.elim
  | succ h => exact t.1
theorem Tr.grown {m : Nat} {M M' : SM} (g : Grown M M') : ∀ {h : Nat} {p : Int} {l : List (Int × Int)}, Tr m M h p l → Tr m M' h p l
  | 0, _, _, t => t
  | h + 1, p, l, ⟨hp, n, hn, hok, k⟩ => by
    have hl := (heldB_int hp).2
    refine ⟨g.held hp, n, by rw [g.node _ hl]; exact hn, hok, k.mono fun e _ a ha => ⟨Tr.grown g ha.1, ?_⟩⟩
    have h2 := (heldB_int ha.1.held).2
    unfold SM.entN SM.ents
    rw [g.node _ h2]
    exact ha.2
theorem Sub.grown {m : Nat} {M M' : SM} (g : Grown M M') {h : Nat} {p : Int} {l : List (Int × Int)} (t : Sub m M h p l) : Sub m M' h p l := by
  refine ⟨Tr.grown g t.1, ?_⟩
  have h2 := (heldB_int t.1.held).2
  unfold SM.entN SM.ents
  rw [g.node _ h2]
  exact t.2
/-- What is held still is the tree that it was. -/
theorem Tr.stays {m : Nat} {M M' : SM} {ext : Nat → Nat} (E : Exact M' ext) (hlog : M'.log = M.log) : ∀ {h : Nat} {p : Int} {l : List (Int × Int)}, Tr m M h p l → M'.pool.heldB p = true → Tr m M' h p l
  | 0, _, _, t, _ => t
  | h + 1, p, l, ⟨hp, n, hn, hok, k⟩, hp' => by
    have hn' : M'.nodeAt p.toNat = some n := by unfold SM.nodeAt; rw [hlog]; exact hn
    have hl := (heldB_int hp').2
    have hents : M'.ents p.toNat = n.ents := by unfold SM.ents; rw [hn']
    refine ⟨hp', n, hn', hok, k.mono fun e he a ha => ?_⟩
    have hc : M'.pool.heldB e.2 = true := by
      have h0 := (heldB_int ha.1.held).1
      have h1 := E.kids _ hl e (by rw [hents]; exact he)
      obtain ⟨c, hc⟩ := Int.eq_ofNat_of_zero_le h0
      rw [hc] at h1 ⊢
      rw [heldB_nat]
      exact h1
    refine ⟨Tr.stays E hlog ha.1 hc, ?_⟩
    have : M'.entN e.2 = M.entN e.2 := by unfold SM.entN SM.ents SM.nodeAt; rw [hlog]
    rw [this]; exact ha.2
theorem Sub.stays {m : Nat} {M M' : SM} {ext : Nat → Nat} (E : Exact M' ext) (hlog : M'.log = M.log) {h : Nat} {p : Int} {l : List (Int × Int)} (t : Sub m M h p l) (hp : M'.pool.heldB p = true) : Sub m M' h p l := by
  refine ⟨Tr.stays E hlog t.1 hp, ?_⟩
  have : M'.entN p = M.entN p := by unfold SM.entN SM.ents SM.nodeAt; rw [hlog]
  rw [this]; exact t.2

/-- Is a list of entries one that a node can have? -/
theorem rises_right {l : List (Int × Int)} (hr : RisesK l) (h1 : 1 ≤ l.length) (h6 : l.length ≤ 6) (hb : ∀ x ∈ l, 0 ≤ x.1 ∧ x.1 < 64 ∧ 0 ≤ x.2 ∧ x.2 < 240) : risesB l = true := by
  rw [risesB_all]
  · simp [h1, h6]
  · intro i hi
    have hm := hb l[i] (List.getElem_mem hi)
    simp only [entB, List.getElem?_eq_getElem hi, Bool.and_eq_true, decide_eq_true_eq, Bool.or_eq_true, beq_iff_eq]
    refine ⟨⟨⟨⟨hm.1, hm.2.1⟩, hm.2.2.1⟩, hm.2.2.2⟩, ?_⟩
    by_cases h0 : i = 0
    · exact .inl h0
    · refine .inr ?_
      have : (l.getD (i - 1) (0, 0)) = l[i - 1] := by simp [List.getD, List.getElem?_eq_getElem (show i - 1 < l.length by omega)]
      rw [this]
      exact List.pairwise_iff_getElem.1 hr (i - 1) i (by omega) hi (by omega)
theorem zeros_ok : zeros16.length = 16 ∧ (∀ b ∈ zeros16, b < 256) ∧ zeros16.all (· == 0) = true := by
  unfold zeros16
  refine ⟨by decide, ?_, by decide⟩
  intro b hb
  rw [List.eq_of_mem_replicate hb]; decide
theorem node_ok {k : Int} (hk : k = 2 ∨ k = 3) {l : List (Int × Int)} (hr : RisesK l) (h1 : 1 ≤ l.length) (h6 : l.length ≤ 6) (hb : ∀ x ∈ l, 0 ≤ x.1 ∧ x.1 < 64 ∧ 0 ≤ x.2 ∧ x.2 < 240) : NM.ok ⟨k, zeros16, l⟩ := by
  refine ⟨?_, zeros_ok.1, zeros_ok.2.1⟩
  unfold NM.rightB
  rw [if_neg (by dsimp only; omega), if_pos hk]
  simp only [zeros_ok.2.2, rises_right hr h1 h6 hb, Bool.and_self]
end Go.Proofs.Ythmjcbmeiabbgaa
/-
  Trees in a store, plain: nodes are made of entries; splitting.
-/
namespace Go.Proofs.Ythmjcbmeiabbgaa
open Go.RowKit

/-- Entries that a tree can have: keys that rise, pages that are there. -/
def Good (M : SM) (l : List (Int × Int)) : Prop := RisesK l ∧ ∀ y ∈ l, 0 ≤ y.1 ∧ y.1 < 64 ∧ M.pool.heldB y.2 = true
theorem Good.grown {M M' : SM} (g : Grown M M') {l : List (Int × Int)} (h : Good M l) : Good M' l := ⟨h.1, fun y hy => ⟨(h.2 y hy).1, (h.2 y hy).2.1, g.held (h.2 y hy).2.2⟩⟩
theorem Good.left {M : SM} {a b : List (Int × Int)} (h : Good M (a ++ b)) : Good M a := ⟨(List.pairwise_append.1 h.1).1, fun y hy => h.2 y (List.mem_append_left _ hy)⟩
theorem Good.right {M : SM} {a b : List (Int × Int)} (h : Good M (a ++ b)) : Good M b := ⟨(List.pairwise_append.1 h.1).2.1, fun y hy => h.2 y (List.mem_append_right _ hy)⟩
theorem Good.put {M : SM} {l : List (Int × Int)} (h : Good M l) {x : Int × Int} (h0 : 0 ≤ x.1) (h1 : x.1 < 64) (hx : M.pool.heldB x.2 = true) : Good M (putL l x) :=
  ⟨putL_rises h.1 x, fun y hy => by rcases putL_mem hy with rfl | hy; exact ⟨h0, h1, hx⟩; exact h.2 y hy⟩
theorem Kids.good {M : SM} {T : Int → List (Int × Int) → Prop} (hT : ∀ q a, T q a → M.pool.heldB q = true) : ∀ {es l : List (Int × Int)}, Kids T es l → Good M l → Good M es ∧ (∀ e ∈ es, ∃ y ∈ l, y.1 = e.1)
  | [], _, _, _ => ⟨⟨List.Pairwise.nil, fun y hy => by cases hy⟩, fun y hy => by cases hy⟩
  | e :: es, l, ⟨a, b, x, h1, h2, h3, h4, h5⟩, g => by
    subst h1
    obtain ⟨⟨r1, r2⟩, r3⟩ := Kids.good hT h5 g.right
    have hxa : x ∈ a := List.mem_of_mem_head? (by rw [h3]; rfl)
    refine ⟨⟨List.pairwise_cons.2 ⟨fun f hf => ?_, r1⟩, fun f hf => ?_⟩, fun f hf => ?_⟩
    · obtain ⟨y, hy, he⟩ := r3 f hf
      rw [← he, ← h4]
      exact (List.pairwise_append.1 g.1).2.2 x hxa y hy
    · rcases List.mem_cons.1 hf with rfl | hf
      · have := g.2 x (List.mem_append_left _ hxa)
        rw [h4] at this
        exact ⟨this.1, this.2.1, hT _ _ h2⟩
      · exact r2 f hf
    · rcases List.mem_cons.1 hf with rfl | hf
      · exact ⟨x, List.mem_append_left _ hxa, h4⟩
      · obtain ⟨y, hy, he⟩ := r3 f hf
        exact ⟨y, List.mem_append_right _ hy, he⟩
theorem NTr.good {m : Nat} {M : SM} {h : Nat} {n : NM} {l : List (Int × Int)} (k : NTr (Sub m M h) h n l) (g : Good M l) : Good M n.ents := by
  rcases k with ⟨_, _, k⟩ | ⟨_, _, k⟩
  · rw [k]; exact g
  · exact (k.good (fun q a hq => hq.1.held) g).1
theorem NTr.kind {T : Int → List (Int × Int) → Prop} {h : Nat} {n : NM} {l : List (Int × Int)} (k : NTr T h n l) : n.kind = 2 ∨ n.kind = 3 := by
  rcases k with ⟨_, k, _⟩ | ⟨_, k, _⟩
  · exact .inl k
  · exact .inr k
theorem NTr.head {T : Int → List (Int × Int) → Prop} {h : Nat} {n : NM} {l : List (Int × Int)} (k : NTr T h n l) (h1 : 1 ≤ n.ents.length) : ∃ x, l.head? = some x ∧ x.1 = (n.ents.getD 0 (0, 0)).1 := by
  rcases k with ⟨_, _, k⟩ | ⟨_, _, k⟩
  · rw [k] at h1 ⊢
    cases l with
    | nil => simp at h1
    | cons y l => exact ⟨y, rfl, rfl⟩
  · cases he : n.ents with
    | nil => rw [he] at h1; simp at h1
    | cons e es => rw [he] at k; exact k.head
theorem NTr.parts {T : Int → List (Int × Int) → Prop} {h : Nat} {n : NM} {l : List (Int × Int)} (k : NTr T h n l) {e1 e2 : List (Int × Int)} (he : n.ents = e1 ++ e2) :
    ∃ l1 l2, l = l1 ++ l2 ∧ NTr T h ⟨n.kind, zeros16, e1⟩ l1 ∧ NTr T h ⟨n.kind, zeros16, e2⟩ l2 := by
  rcases k with ⟨h0, hk, k⟩ | ⟨h0, hk, k⟩
  · exact ⟨e1, e2, by rw [← k, he], .inl ⟨h0, hk, rfl⟩, .inl ⟨h0, hk, rfl⟩⟩
  · rw [he] at k
    obtain ⟨a, b, h1, h2, h3⟩ := k.cut
    exact ⟨a, b, h1, .inr ⟨h0, hk, h2⟩, .inr ⟨h0, hk, h3⟩⟩
theorem held_bound {M : SM} {ext : Nat → Nat} (h : Exact M ext) {i : Int} (hi : M.pool.heldB i = true) : 0 ≤ i ∧ i < 240 := by
  have := heldB_pos hi
  have := h.size
  omega

/-- A node made of entries is a tree, a level higher. -/
theorem make_tr {m : Nat} {M : SM} {ext : Nat → Nat} (E : Exact M ext) {h : Nat} {k : Int} {es l : List (Int × Int)} (t : NTr (Sub m M h) h ⟨k, zeros16, es⟩ l) (g : Good M l) (h1 : 1 ≤ es.length) (h6 : es.length ≤ 6) :
    (∃ i : Nat, (M.make ⟨k, zeros16, es⟩).2 = ((i : Int), 0) ∧ Made M ⟨k, zeros16, es⟩ ext (M.make ⟨k, zeros16, es⟩).1 i ∧ Tr m (M.make ⟨k, zeros16, es⟩).1 (h + 1) i l ∧ (M.make ⟨k, zeros16, es⟩).1.entN i = es.length) ∨
      ((M.make ⟨k, zeros16, es⟩).2 = (-1, 71) ∧ M.pool.freeCount = 0) ∨ ((M.make ⟨k, zeros16, es⟩).2 = (-1, 72) ∧ ∃ c, 255 < M.sum + es.length + ext c) := by
  have ge := t.good g
  have hok : NM.ok ⟨k, zeros16, es⟩ := node_ok t.kind ge.1 h1 h6 (fun x hx => by
    have := ge.2 x hx
    have := held_bound E this.2.2
    exact ⟨(ge.2 x hx).1, (ge.2 x hx).2.1, this.1, this.2⟩)
  rcases make_ok E hok (fun x hx => (ge.2 x hx).2.2) with ⟨i, e, H⟩ | e | e
  · refine .inl ⟨i, e, H, ⟨?_, _, by rw [Int.toNat_natCast]; exact H.node, hok, t.mono fun e _ a ha => Sub.grown H.grown ha⟩, ?_⟩
    · rw [heldB_nat]; exact H.live
    · rw [entN_of (by rw [Int.toNat_natCast]; exact H.node)]
  · exact .inr (.inl e)
  · exact .inr (.inr e)

/-- What splitting a node's entries leaves. -/
structure SplitOk (m : Nat) (M : SM) (ext : Nat → Nat) (h : Nat) (n : NM) (l : List (Int × Int)) (M' : SM) (out : List (Int × Int)) : Prop where
  exact : Exact M' ext
  grown : Grown M M'
  len : out.length = if 6 < n.ents.length then 2 else 1
  free : M.pool.freeCount = M'.pool.freeCount + out.length
  sum : M'.sum = M.sum + n.ents.length
  loose : ∀ E, Loose M (n.ents ++ E) → Loose M' (E ++ out)
  one : n.ents.length ≤ 6 → ∃ (k : Int) (i : Nat), out = [(k, (i : Int))] ∧ Tr m M' (h + 1) i l ∧ M'.pool.cnt i = 0 ∧ M.live i = false
  kids : m ≤ 3 → m ≤ n.ents.length → Kids (Sub m M' (h + 1)) out l

theorem Made.zero {M M' : SM} {n : NM} {ext : Nat → Nat} {i : Nat} (h : Made M n ext M' i) (E : Exact M ext) (hk : ∀ x ∈ n.ents, M.pool.heldB x.2 = true) : M'.pool.cnt i = 0 := by
  have hl := live_lt h.live
  rw [show M'.pool.size = M.pool.size from h.grown.size] at hl
  rw [h.cnt]
  have h1 : M.pool.cnt i = 0 := by
    have := h.new
    simp only [SM.live, PM.live, hl, decide_true, Bool.true_and, Bool.or_eq_false_iff, decide_eq_false_iff_not] at this
    omega
  have h2 : occ n.ents i = 0 := by
    rcases Nat.eq_zero_or_pos (occ n.ents i) with h0 | h0
    · exact h0
    · obtain ⟨x, hx, he⟩ := List.countP_pos_iff.1 h0
      have := (heldB_int (hk x hx)).2
      rw [show x.2 = (i : Int) by simpa using he, Int.toNat_natCast] at this
      have h3 := h.new
      rw [show M.live i = M.pool.live i from rfl, this] at h3
      cases h3
  omega

theorem makes_nil (k : Int) (M : SM) (out : List (Int × Int)) : SM.makes k [] M out = (M, out, 0) := rfl
theorem split_ok {m : Nat} {M : SM} {ext : Nat → Nat} (E : Exact M ext) {h : Nat} {n : NM} {l : List (Int × Int)} (t : NTr (Sub m M h) h n l) (g : Good M l) (h1 : 1 ≤ n.ents.length) (h12 : n.ents.length ≤ 12) :
    ((M.split n).2.2 = 0 ∧ SplitOk m M ext h n l (M.split n).1 (M.split n).2.1) ∨ ((M.split n).2.2 = 71 ∧ M.pool.freeCount < if 6 < n.ents.length then 2 else 1) ∨ ((M.split n).2.2 = 72 ∧ ∃ c, 255 < M.sum + n.ents.length + ext c) := by
  unfold SM.split
  rw [if_neg (by omega)]
  by_cases h6 : n.ents.length ≤ 6
  · have hp : partsOf n.ents = [n.ents] := by unfold partsOf; rw [if_neg (by omega), if_neg (by omega)]
    rw [hp, makes_cons]
    have t' : NTr (Sub m M h) h ⟨n.kind, zeros16, n.ents⟩ l := by
      rcases t with ⟨a, b, c⟩ | ⟨a, b, c⟩
      · exact .inl ⟨a, b, c⟩
      · exact .inr ⟨a, b, c⟩
    have ge := t'.good g
    rcases make_tr E t' g h1 h6 with ⟨i, e, H, hT, hN⟩ | ⟨e, hf⟩ | ⟨e, hc⟩
    · obtain ⟨M', hM'⟩ : ∃ M', (M.make ⟨n.kind, zeros16, n.ents⟩).1 = M' := ⟨_, rfl⟩
      rw [hM'] at H hT hN ⊢
      rw [e]
      dsimp only
      rw [if_pos rfl, makes_nil]
      refine .inl ⟨rfl, ⟨H.exact, H.grown, ?_, H.free, H.sum, fun F hF => H.loose (fun x hx => (ge.2 x hx).2.2) hF _, fun _ => ⟨_, i, rfl, hT, H.zero E (fun x hx => (ge.2 x hx).2.2), H.new⟩, fun _ hm => ?_⟩⟩
      · rw [if_neg (by omega)]; rfl
      · obtain ⟨x, hx, hxe⟩ := t'.head h1
        exact ⟨l, [], x, (List.append_nil l).symm, ⟨hT, by rw [hN]; exact hm⟩, hx, hxe, rfl⟩
    · rw [e]
      dsimp only
      rw [if_neg (by decide)]
      exact .inr (.inl ⟨rfl, by split <;> omega⟩)
    · rw [e]
      dsimp only
      rw [if_neg (by decide)]
      exact .inr (.inr ⟨rfl, hc⟩)
  · have hp : partsOf n.ents = [n.ents.take (n.ents.length / 2), n.ents.drop (n.ents.length / 2)] := by unfold partsOf; rw [if_neg (by omega), if_pos (by omega)]
    rw [hp, makes_cons]
    obtain ⟨e1, he1⟩ : ∃ e1, n.ents.take (n.ents.length / 2) = e1 := ⟨_, rfl⟩
    obtain ⟨e2, he2⟩ : ∃ e2, n.ents.drop (n.ents.length / 2) = e2 := ⟨_, rfl⟩
    have hee : n.ents = e1 ++ e2 := by rw [← he1, ← he2, List.take_append_drop]
    have hl1 : e1.length = n.ents.length / 2 := by rw [← he1, List.length_take]; omega
    have hl2 : e2.length = n.ents.length - n.ents.length / 2 := by rw [← he2, List.length_drop]
    rw [he1, he2]
    obtain ⟨l1, l2, hll, t1, t2⟩ := t.parts hee
    have g1 : Good M l1 := Good.left (b := l2) (by rw [← hll]; exact g)
    have g2 : Good M l2 := Good.right (a := l1) (by rw [← hll]; exact g)
    have ge1 := t1.good g1
    rcases make_tr E t1 g1 (by omega) (by omega) with ⟨i, e, H, hT, hN⟩ | ⟨e, hf⟩ | ⟨e, hc⟩
    · obtain ⟨M', hM'⟩ : ∃ M', (M.make ⟨n.kind, zeros16, e1⟩).1 = M' := ⟨_, rfl⟩
      rw [hM'] at H hT hN ⊢
      rw [e]
      dsimp only
      rw [if_pos rfl, makes_cons]
      have t2' : NTr (Sub m M' h) h ⟨n.kind, zeros16, e2⟩ l2 := t2.mono fun e _ a ha => Sub.grown H.grown ha
      have g2' := g2.grown H.grown
      have ge2 := t2'.good g2'
      rcases make_tr H.exact t2' g2' (by omega) (by omega) with ⟨j, f, K, kT, kN⟩ | ⟨f, hf⟩ | ⟨f, hc⟩
      · obtain ⟨M2, hM2⟩ : ∃ M2, (M'.make ⟨n.kind, zeros16, e2⟩).1 = M2 := ⟨_, rfl⟩
        rw [hM2] at K kT kN ⊢
        rw [f]
        dsimp only
        rw [if_pos rfl, makes_nil]
        have hH : Sub m M' (h + 1) i l1 → Sub m M2 (h + 1) i l1 := Sub.grown K.grown
        refine .inl ⟨rfl, ⟨K.exact, H.grown.trans K.grown, ?_, ?_, ?_, fun F hF => ?_, fun hh => absurd hh h6, fun hm hm2 => ?_⟩⟩
        · rw [if_pos (by omega)]; rfl
        · have a1 := H.free
          have a2 := K.free
          show _ = M2.pool.freeCount + 2
          omega
        · have a1 := H.sum
          have a2 := K.sum
          dsimp only at a1 a2
          show M2.sum = _
          omega
        · have a1 := H.loose (fun x hx => (ge1.2 x hx).2.2) (E := e2 ++ F) (by rw [← List.append_assoc, ← hee]; exact hF) ((e1.getD 0 (0, 0)).1)
          rw [List.append_assoc] at a1
          have a2 := K.loose (fun x hx => (ge2.2 x hx).2.2) a1 ((e2.getD 0 (0, 0)).1)
          rw [List.append_assoc] at a2
          exact a2
        · obtain ⟨x, hx, hxe⟩ := t1.head (by show 1 ≤ e1.length; omega)
          obtain ⟨y, hy, hye⟩ := t2.head (by show 1 ≤ e2.length; omega)
          exact ⟨l1, l2, x, hll, hH ⟨hT, by rw [hN]; omega⟩, hx, hxe, l2, [], y, (List.append_nil _).symm, ⟨kT, by rw [kN]; omega⟩, hy, hye, rfl⟩
      · rw [f]
        dsimp only
        rw [if_neg (by decide)]
        have a1 := H.free
        exact .inr (.inl ⟨rfl, by split <;> omega⟩)
      · rw [f]
        dsimp only
        rw [if_neg (by decide)]
        have a1 := H.sum
        dsimp only at a1
        obtain ⟨c, hc⟩ := hc
        exact .inr (.inr ⟨rfl, c, by omega⟩)
    · rw [e]
      dsimp only
      rw [if_neg (by decide)]
      exact .inr (.inl ⟨rfl, by split <;> omega⟩)
    · rw [e]
      dsimp only
      rw [if_neg (by decide)]
      obtain ⟨c, hc⟩ := hc
      exact .inr (.inr ⟨rfl, c, by omega⟩)
end Go.Proofs.Ythmjcbmeiabbgaa
/-
  Trees in a store, plain: putting a page for a key.
-/
namespace Go.Proofs.Ythmjcbmeiabbgaa
open Go.RowKit

/-- The step of put. -/
theorem putF_succ (f : Nat) (M : SM) (root : Int) (x : Int × Int) : SM.putF (f + 1) M root x =
    (if (M.tnode root (8 - f)).2 = 0 then
      (if (M.tnode root (8 - f)).1.kind = 3 then
        (if (SM.putF f M ((M.tnode root (8 - f)).1.ents.getD (atI (M.tnode root (8 - f)).1.ents x.1).toNat (0, 0)).2 x).2.2 = 0 then
          (if ((SM.putF f M ((M.tnode root (8 - f)).1.ents.getD (atI (M.tnode root (8 - f)).1.ents x.1).toNat (0, 0)).2 x).1.split (SM.putF f M ((M.tnode root (8 - f)).1.ents.getD (atI (M.tnode root (8 - f)).1.ents x.1).toNat (0, 0)).2 x).2.1).2.2 = 0 then
            (((SM.putF f M ((M.tnode root (8 - f)).1.ents.getD (atI (M.tnode root (8 - f)).1.ents x.1).toNat (0, 0)).2 x).1.split (SM.putF f M ((M.tnode root (8 - f)).1.ents.getD (atI (M.tnode root (8 - f)).1.ents x.1).toNat (0, 0)).2 x).2.1).1,
              { (M.tnode root (8 - f)).1 with ents := (M.tnode root (8 - f)).1.ents.take (atI (M.tnode root (8 - f)).1.ents x.1).toNat ++ ((SM.putF f M ((M.tnode root (8 - f)).1.ents.getD (atI (M.tnode root (8 - f)).1.ents x.1).toNat (0, 0)).2 x).1.split (SM.putF f M ((M.tnode root (8 - f)).1.ents.getD (atI (M.tnode root (8 - f)).1.ents x.1).toNat (0, 0)).2 x).2.1).2.1 ++ (M.tnode root (8 - f)).1.ents.drop ((atI (M.tnode root (8 - f)).1.ents x.1).toNat + 1) }, 0)
          else (((SM.putF f M ((M.tnode root (8 - f)).1.ents.getD (atI (M.tnode root (8 - f)).1.ents x.1).toNat (0, 0)).2 x).1.split (SM.putF f M ((M.tnode root (8 - f)).1.ents.getD (atI (M.tnode root (8 - f)).1.ents x.1).toNat (0, 0)).2 x).2.1).1, (M.tnode root (8 - f)).1,
            ((SM.putF f M ((M.tnode root (8 - f)).1.ents.getD (atI (M.tnode root (8 - f)).1.ents x.1).toNat (0, 0)).2 x).1.split (SM.putF f M ((M.tnode root (8 - f)).1.ents.getD (atI (M.tnode root (8 - f)).1.ents x.1).toNat (0, 0)).2 x).2.1).2.2))
        else ((SM.putF f M ((M.tnode root (8 - f)).1.ents.getD (atI (M.tnode root (8 - f)).1.ents x.1).toNat (0, 0)).2 x).1, (M.tnode root (8 - f)).1, (SM.putF f M ((M.tnode root (8 - f)).1.ents.getD (atI (M.tnode root (8 - f)).1.ents x.1).toNat (0, 0)).2 x).2.2))
      else if 0 ≤ atI (M.tnode root (8 - f)).1.ents x.1 ∧ ((M.tnode root (8 - f)).1.ents.getD (atI (M.tnode root (8 - f)).1.ents x.1).toNat (0, 0)).1 = x.1 then
        (M, { (M.tnode root (8 - f)).1 with ents := (M.tnode root (8 - f)).1.ents.take (atI (M.tnode root (8 - f)).1.ents x.1).toNat ++ [x] ++ (M.tnode root (8 - f)).1.ents.drop ((atI (M.tnode root (8 - f)).1.ents x.1).toNat + 1) }, 0)
      else (M, { (M.tnode root (8 - f)).1 with ents := (M.tnode root (8 - f)).1.ents.take (atI (M.tnode root (8 - f)).1.ents x.1 + 1).toNat ++ [x] ++ (M.tnode root (8 - f)).1.ents.drop (atI (M.tnode root (8 - f)).1.ents x.1 + 1).toNat }, 0))
    else (M, (M.tnode root (8 - f)).1, (M.tnode root (8 - f)).2)) := rfl

theorem tnode_tr {m : Nat} {M : SM} {h : Nat} {p : Int} {l : List (Int × Int)} (t : Tr m M (h + 1) p l) {d : Nat} (hd : d < 8) :
    ∃ n, M.tnode p d = (n, 0) ∧ M.nodeAt p.toNat = some n ∧ n.ok ∧ NTr (Sub m M h) h n l := by
  obtain ⟨hp, n, hn, hok, k⟩ := t
  refine ⟨n, ?_, hn, hok, k⟩
  have hk := NTr.kind k
  unfold SM.tnode SM.get
  rw [if_pos hp, hn]
  dsimp only
  rw [if_pos rfl, if_neg (by omega)]

/-- The leaf's own way. -/
theorem leaf_put {l : List (Int × Int)} (h : RisesK l) (x : Int × Int) :
    (if 0 ≤ atI l x.1 ∧ (l.getD (atI l x.1).toNat (0, 0)).1 = x.1 then l.take (atI l x.1).toNat ++ [x] ++ l.drop ((atI l x.1).toNat + 1) else l.take (atI l x.1 + 1).toNat ++ [x] ++ l.drop (atI l x.1 + 1).toNat) = putL l x := by
  have hb := (atI_bound (l := l) x.1).1
  obtain ⟨c, hc⟩ := Int.eq_ofNat_of_zero_le (show 0 ≤ atI l x.1 + 1 by omega)
  obtain ⟨hcl, hc1, hc2⟩ := atI_cut h x.1 hc.symm
  by_cases hy : 0 ≤ atI l x.1 ∧ (l.getD (atI l x.1).toNat (0, 0)).1 = x.1
  · rw [if_pos hy]
    have e1 : (atI l x.1).toNat = c - 1 := by omega
    rw [e1] at hy ⊢
    have hlt : c - 1 < l.length := by omega
    have hg : l.getD (c - 1) (0, 0) = l[c - 1] := by simp [List.getD, List.getElem?_eq_getElem hlt]
    rw [hg] at hy
    have hd : l.drop (c - 1) = l[c - 1] :: l.drop c := by rw [List.drop_eq_getElem_cons hlt, show c - 1 + 1 = c by omega]
    refine putL_take (by omega) (fun y hyy => ?_) (fun y hyy => hc2 y (by rw [show c = c - 1 + 1 by omega]; exact hyy)) (fun y hyy => ?_)
    · have := rises_cut h (c - 1) y hyy l[c - 1] (by rw [hd]; exact List.mem_cons_self ..)
      omega
    · rw [show c - 1 + 1 - (c - 1) = 1 by omega, hd] at hyy
      simp at hyy
      rw [hyy]; exact hy.2
  · rw [if_neg hy]
    have e1 : (atI l x.1 + 1).toNat = c := by omega
    rw [e1]
    refine putL_take (Nat.le_refl _) (fun y hyy => ?_) hc2 (fun y hyy => by rw [Nat.sub_self] at hyy; cases hyy)
    have h1 := hc1 y hyy
    refine (Int.lt_or_eq_of_le h1).resolve_right fun he => hy ?_
    obtain ⟨j, hj, rfl⟩ := List.getElem_of_mem hyy
    rw [List.length_take] at hj
    rw [List.getElem_take] at he
    have hc0 : 0 < c := by omega
    refine ⟨by omega, ?_⟩
    rw [show (atI l x.1).toNat = c - 1 by omega]
    have hlt : c - 1 < l.length := by omega
    have hg : l.getD (c - 1) (0, 0) = l[c - 1] := by simp [List.getD, List.getElem?_eq_getElem hlt]
    rw [hg]
    have h2 : l[c - 1].1 ≤ x.1 := hc1 _ (by
      rw [List.mem_take_iff_getElem]
      exact ⟨c - 1, by omega, rfl⟩)
    by_cases hjc : j = c - 1
    · subst hjc; exact he
    · have := List.pairwise_iff_getElem.1 h j (c - 1) (by omega) hlt (by omega)
      omega

structure PutOk (m : Nat) (M : SM) (ext : Nat → Nat) (h : Nat) (root : Int) (l : List (Int × Int)) (M' : SM) (n' : NM) : Prop where
  exact : Exact M' ext
  grown : Grown M M'
  tr : NTr (Sub m M' h) h n' l
  lo : M.entN root ≤ n'.ents.length
  hi : n'.ents.length ≤ M.entN root + 1
  entN : 1 ≤ M.entN root ∧ M.entN root ≤ 6
  free : M.pool.freeCount ≤ M'.pool.freeCount + 2 * h
  sum : M'.sum + n'.ents.length ≤ M.sum + 7 * (h + 1)
  loose : ∀ E, Loose M E → Loose M' (n'.ents ++ E)

theorem putF_ok {m : Nat} (hm : m ≤ 3) {ext : Nat → Nat} {x : Int × Int} (x0 : 0 ≤ x.1) (x1 : x.1 < 64) : ∀ (h d : Nat) (M : SM) (l : List (Int × Int)) (root : Int), h + 1 + d ≤ 8 → Exact M ext → Tr m M (h + 1) root l → Good M l → M.pool.heldB x.2 = true →
    ((SM.putF (9 - d) M root x).2.2 = 0 ∧ PutOk m M ext h root (putL l x) (SM.putF (9 - d) M root x).1 (SM.putF (9 - d) M root x).2.1) ∨
      ((SM.putF (9 - d) M root x).2.2 = 71 ∧ M.pool.freeCount < 2 * h) ∨ ((SM.putF (9 - d) M root x).2.2 = 72 ∧ ∃ c, 255 < M.sum + 7 * h + ext c) := by
  intro h
  induction h with
  | zero =>
    intro d M l root hd E t g hx
    obtain ⟨n, hn, hna, hok, k⟩ := tnode_tr t (d := d) (by omega)
    have hin := innerOk_of hok (by have := k.kind; omega)
    rw [show 9 - d = (8 - d) + 1 by omega, putF_succ, show 8 - (8 - d) = d by omega, hn]
    dsimp only
    rcases k with ⟨_, hk, hl⟩ | ⟨h0, _⟩
    · rw [if_pos rfl, if_neg (by omega)]
      have hp := leaf_put (l := n.ents) (by rw [hl]; exact g.1) x
      have hlen : ∀ c i j, c = n.ents.take i ++ [x] ++ n.ents.drop j → i ≤ n.ents.length → (j = i ∨ j = i + 1) → n.ents.length ≤ c.length ∧ c.length ≤ n.ents.length + 1 := by
        intro c i j hc hi hj
        rw [hc]
        simp only [List.length_append, List.length_take, List.length_drop, List.length_singleton]
        omega
      have hb := atI_bound (l := n.ents) x.1
      have hen := entN_of hna
      have fin : ∀ c : List (Int × Int), c = putL n.ents x → n.ents.length ≤ c.length ∧ c.length ≤ n.ents.length + 1 → PutOk m M ext 0 root (putL l x) M { n with ents := c } := by
        intro c hc hlc
        refine ⟨E, Grown.refl _, .inl ⟨rfl, hk, by rw [← hl]; exact hc⟩, by rw [hen]; exact hlc.1, by rw [hen]; exact hlc.2, by rw [hen]; exact ⟨hin.pos, hin.le⟩, by omega, ?_, fun F hF q hq hc => ?_⟩
        · have := hin.le
          show M.sum + c.length ≤ _
          omega
        · obtain ⟨y, hy, he⟩ := hF q hq hc
          exact ⟨y, List.mem_append_right _ hy, he⟩
      by_cases hy : 0 ≤ atI n.ents x.1 ∧ (n.ents.getD (atI n.ents x.1).toNat (0, 0)).1 = x.1
      · rw [if_pos hy] at hp ⊢
        exact .inl ⟨rfl, fin _ hp (hlen _ _ _ rfl (by omega) (.inr rfl))⟩
      · rw [if_neg hy] at hp ⊢
        exact .inl ⟨rfl, fin _ hp (hlen _ _ _ rfl (by omega) (.inl rfl))⟩
    · omega
  | succ h ih =>
    intro d M l root hd E t g hx
    obtain ⟨n, hn, hna, hok, k⟩ := tnode_tr t (d := d) (by omega)
    have hin := innerOk_of hok (by have := k.kind; omega)
    have ge := k.good g
    rw [show 9 - d = (8 - d) + 1 by omega, putF_succ, show 8 - (8 - d) = d by omega, hn]
    dsimp only
    rcases k with ⟨h0, _⟩ | ⟨_, hk, hK⟩
    · omega
    · rw [if_pos rfl, if_pos hk]
      have hb := atI_bound (l := n.ents) x.1
      obtain ⟨c, hc⟩ := Int.eq_ofNat_of_zero_le (show 0 ≤ atI n.ents x.1 + 1 by omega)
      obtain ⟨hcl, hc1, hc2⟩ := atI_cut ge.1 x.1 hc.symm
      obtain ⟨i, hi⟩ : ∃ i, (atI n.ents x.1).toNat = i := ⟨_, rfl⟩
      have hic : i = c - 1 := by omega
      have hil : i < n.ents.length := by have := hin.pos; omega
      rw [hi]
      have hg : n.ents.getD i (0, 0) = n.ents[i] := by simp [List.getD, List.getElem?_eq_getElem hil]
      have hes : n.ents = n.ents.take i ++ n.ents[i] :: n.ents.drop (i + 1) := by rw [← List.drop_eq_getElem_cons hil, List.take_append_drop]
      rw [hg]
      obtain ⟨e, he⟩ : ∃ e, n.ents[i] = e := ⟨_, rfl⟩
      obtain ⟨es1, he1⟩ : ∃ es1, n.ents.take i = es1 := ⟨_, rfl⟩
      obtain ⟨es2, he2⟩ : ∃ es2, n.ents.drop (i + 1) = es2 := ⟨_, rfl⟩
      have hl1 : es1.length = i := by rw [← he1, List.length_take]; omega
      have hl2 : es2.length = n.ents.length - (i + 1) := by rw [← he2, List.length_drop]
      have hee1 : 0 < c → e.1 ≤ x.1 := fun h0 => hc1 e (by rw [← he, List.mem_take_iff_getElem]; exact ⟨i, by omega, rfl⟩)
      have hee2 : ∀ f ∈ es2, x.1 < f.1 := fun f hf => hc2 f (by
        rw [← he2] at hf
        by_cases h0 : c = 0
        · rw [h0, List.drop_zero]; exact List.mem_of_mem_drop hf
        · rw [show c = i + 1 by omega]; exact hf)
      rw [he, he1, he2] at hes ⊢
      rw [hes] at hK
      obtain ⟨a, b, hab, hK1, s, tt, y, hst, hT, hy, hye, hK2⟩ := hK.cut
      subst hab hst
      have ga : ∀ z ∈ a, z.1 < x.1 := fun z hz => by
        by_cases h0 : c = 0
        · have : es1 = [] := List.eq_nil_of_length_eq_zero (by omega)
          rw [this] at hK1
          rw [show a = [] from hK1] at hz
          cases hz
        · have h1 := hee1 (by omega)
          have hys : y ∈ s ++ tt := List.mem_append_left _ (List.mem_of_mem_head? (by rw [hy]; rfl))
          have := (List.pairwise_append.1 g.1).2.2 z hz y hys
          omega
      have gt : ∀ z ∈ tt, x.1 < z.1 := fun z hz => by
        cases es2 with
        | nil => rw [show tt = [] from hK2] at hz; cases hz
        | cons f es2 =>
          obtain ⟨u, hu, hue⟩ := hK2.head
          have h1 := hee2 f (List.mem_cons_self ..)
          have h2 := head_le g.right.right.1 hu z hz
          omega
      have hput : putL (a ++ (s ++ tt)) x = a ++ putL s x ++ tt := by rw [← List.append_assoc]; exact putL_mid ga gt
      rw [hput]
      have gs : Good M s := g.right.left
      have hr := ih (d + 1) M s e.2 (by omega) E hT.1 gs hx
      rw [show 9 - (d + 1) = 8 - d by omega] at hr
      obtain ⟨R, hR⟩ : ∃ R, SM.putF (8 - d) M e.2 x = R := ⟨_, rfl⟩
      rw [hR] at hr ⊢
      obtain ⟨M1, n1, er⟩ := R
      dsimp only at hr ⊢
      rcases hr with ⟨rfl, P⟩ | ⟨rfl, hf⟩ | ⟨rfl, hf⟩
      · rw [if_pos rfl]
        have hen := P.entN
        have hlo := P.lo
        have hhi := P.hi
        have gs' : Good M1 (putL s x) := (gs.put x0 x1 hx).grown P.grown
        have hsp := split_ok P.exact P.tr gs' (by omega) (by omega)
        obtain ⟨R, hR2⟩ : ∃ R, M1.split n1 = R := ⟨_, rfl⟩
        rw [hR2] at hsp ⊢
        obtain ⟨M2, out, er⟩ := R
        dsimp only at hsp ⊢
        have a1 := P.free
        have a2 := P.sum
        rcases hsp with ⟨rfl, S⟩ | ⟨rfl, hf⟩ | ⟨rfl, hf⟩
        · rw [if_pos rfl]
          have G := P.grown.trans S.grown
          have b1 := S.free
          have b2 := S.sum
          have b3 := S.len
          have hen2 := entN_of hna
          have hn6 := hin.le
          have hn1 := hin.pos
          have hlen : (es1 ++ out ++ es2).length + 1 = n.ents.length + out.length := by simp only [List.length_append]; omega
          have ho : 1 ≤ out.length ∧ out.length ≤ 2 := by split at b3 <;> omega
          refine .inl ⟨rfl, ⟨S.exact, G, .inr ⟨by omega, hk, ?_⟩, ?_, ?_, ?_, ?_, ?_, fun F hF => ?_⟩⟩
          · refine Kids.append (Kids.append (hK1.mono fun f _ z hz => Sub.grown G hz) (S.kids hm ?_)) (hK2.mono fun f _ z hz => Sub.grown G hz)
            have := hT.2
            omega
          · rw [hen2]; show _ ≤ (es1 ++ out ++ es2).length; omega
          · rw [hen2]; show (es1 ++ out ++ es2).length ≤ _; omega
          · rw [hen2]; exact ⟨hn1, hn6⟩
          · show _ ≤ M2.pool.freeCount + _; omega
          · show M2.sum + (es1 ++ out ++ es2).length ≤ _; omega
          · have := S.loose _ (P.loose _ hF)
            intro q hq hc
            obtain ⟨z, hz, hze⟩ := this q hq hc
            refine ⟨z, ?_, hze⟩
            show z ∈ es1 ++ out ++ es2 ++ F
            rcases List.mem_append.1 hz with hz | hz
            · exact List.mem_append_right _ hz
            · exact List.mem_append_left _ (List.mem_append_left _ (List.mem_append_right _ hz))
        · rw [if_neg (by decide)]
          exact .inr (.inl ⟨rfl, by split at hf <;> omega⟩)
        · rw [if_neg (by decide)]
          obtain ⟨c, hf⟩ := hf
          exact .inr (.inr ⟨rfl, c, by omega⟩)
      · rw [if_neg (by decide)]
        exact .inr (.inl ⟨rfl, by omega⟩)
      · rw [if_neg (by decide)]
        obtain ⟨c, hf⟩ := hf
        exact .inr (.inr ⟨rfl, c, by omega⟩)

/-- What a tree's new root leaves. -/
structure TopOk (m : Nat) (M : SM) (ext : Nat → Nat) (h : Nat) (l : List (Int × Int)) (a b : Nat) (M' : SM) (p : Int) : Prop where
  exact : Exact M' ext
  grown : Grown M M'
  tr : ∃ h', Tr m M' h' p l ∧ h' ≤ h + 2
  free : M.pool.freeCount ≤ M'.pool.freeCount + a
  sum : M'.sum ≤ M.sum + b
  zero : M'.pool.cnt p.toNat = 0
  loose : ∀ F, F = [] → Loose M' (F ++ [((0 : Int), p)])

theorem top_ok {m : Nat} (hm : m ≤ 3) {M : SM} {ext : Nat → Nat} (E : Exact M ext) {h : Nat} {n : NM} {l : List (Int × Int)} (t : NTr (Sub m M h) h n l) (g : Good M l) (h1 : 1 ≤ n.ents.length) (h12 : n.ents.length ≤ 12) (hl : Loose M n.ents) :
    ((M.top n).2.2 = 0 ∧ TopOk m M ext h l 3 (n.ents.length + 2) (M.top n).1 (M.top n).2.1) ∨ ((M.top n).2.1 = -1 ∧ (M.top n).2.2 = 71 ∧ M.pool.freeCount < 3) ∨ ((M.top n).2.1 = -1 ∧ (M.top n).2.2 = 72 ∧ ∃ c, 255 < M.sum + n.ents.length + 2 + ext c) := by
  unfold SM.top
  dsimp only
  have hsp := split_ok E t g h1 h12
  obtain ⟨R, hR⟩ : ∃ R, M.split n = R := ⟨_, rfl⟩
  rw [hR] at hsp ⊢
  obtain ⟨M1, out, er⟩ := R
  dsimp only at hsp ⊢
  rcases hsp with ⟨rfl, S⟩ | ⟨rfl, hf⟩ | ⟨rfl, hf⟩
  · rw [if_pos rfl]
    have b1 := S.free
    have b2 := S.sum
    have b3 := S.len
    by_cases h6 : n.ents.length ≤ 6
    · rw [if_neg (by omega)] at b3
      rw [if_neg (by omega), if_neg (by omega)]
      obtain ⟨k, i, ho, hT, hz, _⟩ := S.one h6
      rw [ho]
      refine .inl ⟨rfl, ⟨S.exact, S.grown, ⟨h + 1, hT, by omega⟩, by show _ ≤ M1.pool.freeCount + _; omega, by show M1.sum ≤ _; omega, ?_, fun F hF => ?_⟩⟩
      · show M1.pool.cnt (Int.toNat (i : Int)) = 0
        rw [Int.toNat_natCast]; exact hz
      · subst hF
        have := S.loose [] (by rw [List.append_nil]; exact hl)
        rw [ho] at this
        intro q hq hc
        obtain ⟨y, hy, he⟩ := this q hq hc
        simp at hy
        exact ⟨_, List.mem_singleton.2 rfl, by rw [hy] at he; exact he⟩
    · rw [if_pos (by omega)] at b3
      rw [if_pos (by omega)]
      have hK := S.kids hm (by omega)
      have g1 := g.grown S.grown
      have t2 : NTr (Sub m M1 (h + 1)) (h + 1) ⟨3, List.replicate 16 0, out⟩ l := .inr ⟨by omega, rfl, hK⟩
      have hsp2 := split_ok S.exact t2 g1 (by show 1 ≤ out.length; omega) (by show out.length ≤ 12; omega)
      obtain ⟨R, hR⟩ : ∃ R, M1.split ⟨3, List.replicate 16 0, out⟩ = R := ⟨_, rfl⟩
      rw [hR] at hsp2 ⊢
      obtain ⟨M2, out2, er⟩ := R
      dsimp only at hsp2 ⊢
      rcases hsp2 with ⟨rfl, S2⟩ | ⟨rfl, hf⟩ | ⟨rfl, hf⟩
      · rw [if_pos rfl]
        have c1 := S2.free
        have c2 := S2.sum
        have c3 := S2.len
        dsimp only at c2 c3
        rw [if_neg (by omega)] at c3
        rw [if_neg (by omega)]
        obtain ⟨k, i, ho, hT, hz, _⟩ := S2.one (by show out.length ≤ 6; omega)
        rw [ho]
        refine .inl ⟨rfl, ⟨S2.exact, S.grown.trans S2.grown, ⟨h + 2, hT, Nat.le_refl _⟩, by show _ ≤ M2.pool.freeCount + _; omega, by show M2.sum ≤ _; omega, ?_, fun F hF => ?_⟩⟩
        · show M2.pool.cnt (Int.toNat (i : Int)) = 0
          rw [Int.toNat_natCast]; exact hz
        · subst hF
          have h3 := S.loose [] (by rw [List.append_nil]; exact hl)
          have := S2.loose [] (by rw [List.append_nil]; exact h3)
          rw [ho] at this
          intro q hq hc
          obtain ⟨y, hy, he⟩ := this q hq hc
          simp at hy
          exact ⟨_, List.mem_singleton.2 rfl, by rw [hy] at he; exact he⟩
      · rw [if_neg (by decide)]
        exact .inr (.inl ⟨rfl, rfl, by rw [if_neg (by show ¬ 6 < out.length; omega)] at hf; omega⟩)
      · rw [if_neg (by decide)]
        obtain ⟨c, hc⟩ := hf
        exact .inr (.inr ⟨rfl, rfl, c, by omega⟩)
  · rw [if_neg (by decide)]
    exact .inr (.inl ⟨rfl, rfl, by split at hf <;> omega⟩)
  · rw [if_neg (by decide)]
    obtain ⟨c, hc⟩ := hf
    exact .inr (.inr ⟨rfl, rfl, c, by omega⟩)

/-- A tree, or none. -/
def Rooted (m : Nat) (M : SM) (root : Int) (l : List (Int × Int)) (h : Nat) : Prop := (root = -1 ∧ l = [] ∧ h = 0) ∨ Tr m M h root l
theorem put_ok {m : Nat} (hm : m ≤ 3) {M : SM} {ext : Nat → Nat} (E : Exact M ext) {h : Nat} {root key page : Int} {l : List (Int × Int)} (t : Rooted m M root l h) (h8 : h ≤ 8) (g : Good M l) (hl : Loose M []) (hx : M.pool.heldB page = true) (k0 : 0 ≤ key) (k1 : key < 64) :
    ((M.put root key page).2.2 = 0 ∧ TopOk m M ext (h - 1) (putL l (key, page)) (2 * h + 3) (7 * h + 3) (M.put root key page).1 (M.put root key page).2.1) ∨
      ((M.put root key page).2.1 = -1 ∧ (M.put root key page).2.2 = 71 ∧ M.pool.freeCount < 2 * h + 3) ∨ ((M.put root key page).2.1 = -1 ∧ (M.put root key page).2.2 = 72 ∧ ∃ c, 255 < M.sum + 7 * h + 3 + ext c) := by
  unfold SM.put
  rw [if_neg (by omega)]
  rcases t with ⟨rfl, rfl, rfl⟩ | t
  · rw [if_pos rfl]
    have t0 : NTr (Sub m M 0) 0 ⟨2, List.replicate 16 0, [(key, page)]⟩ (putL [] (key, page)) := .inl ⟨rfl, rfl, rfl⟩
    rcases top_ok hm E t0 (g.put k0 k1 hx) (by show 1 ≤ 1; omega) (by show 1 ≤ 12; omega) (fun q hq hc => by obtain ⟨y, hy, _⟩ := hl q hq hc; cases hy) with ⟨e, T⟩ | ⟨e1, e, hf⟩ | ⟨e1, e, c, hc⟩
    · have b1 := T.free
      have b2 := T.sum
      dsimp only [List.length_cons, List.length_nil] at b2
      exact .inl ⟨e, ⟨T.exact, T.grown, T.tr, by omega, by omega, T.zero, T.loose⟩⟩
    · exact .inr (.inl ⟨e1, e, by omega⟩)
    · exact .inr (.inr ⟨e1, e, c, by dsimp only [List.length_cons, List.length_nil] at hc; omega⟩)
  · have hne : root ≠ -1 := fun e => by have := (heldB_int t.held).1; omega
    rw [if_neg hne]
    cases h with
    | zero => exact t.elim
    | succ h =>
      have hp := putF_ok hm (x := (key, page)) k0 k1 h 0 M l root (by omega) E t g hx
      rw [Nat.sub_zero] at hp
      obtain ⟨R, hR⟩ : ∃ R, SM.putF 9 M root (key, page) = R := ⟨_, rfl⟩
      rw [hR] at hp ⊢
      obtain ⟨M1, n1, er⟩ := R
      dsimp only at hp ⊢
      rcases hp with ⟨rfl, P⟩ | ⟨rfl, hf⟩ | ⟨rfl, hf⟩
      · rw [if_pos rfl]
        have a1 := P.free
        have a2 := P.sum
        have hen := P.entN
        have hlo := P.lo
        have hhi := P.hi
        have hL := P.loose [] hl
        rw [List.append_nil] at hL
        rcases top_ok hm P.exact P.tr ((g.put k0 k1 hx).grown P.grown) (by omega) (by omega) hL with ⟨e, T⟩ | ⟨e1, e, hf⟩ | ⟨e1, e, c, hc⟩
        · have b1 := T.free
          have b2 := T.sum
          exact .inl ⟨e, ⟨T.exact, P.grown.trans T.grown, T.tr, by omega, by omega, T.zero, T.loose⟩⟩
        · exact .inr (.inl ⟨e1, e, by omega⟩)
        · exact .inr (.inr ⟨e1, e, c, by omega⟩)
      · rw [if_neg (by decide)]
        exact .inr (.inl ⟨rfl, rfl, by omega⟩)
      · rw [if_neg (by decide)]
        obtain ⟨c, hc⟩ := hf
        exact .inr (.inr ⟨rfl, rfl, c, by omega⟩)
end Go.Proofs.Ythmjcbmeiabbgaa
/-
  Trees (package tree): put, whole.
-/
namespace Go.Proofs.Ythmjcbmeiabbgaa
open Go.RowKit
set_option maxRecDepth 100000

theorem putF_log : ∀ (f : Nat) (M : SM) (r : Int) (x : Int × Int), (SM.putF f M r x).1.log.length ≤ M.log.length + 2 * f
  | 0, _, _, _ => by simp [SM.putF]
  | f + 1, M, r, x => by
    rw [putF_succ]
    split
    · split
      · have h1 := putF_log f M ((M.tnode r (8 - f)).1.ents.getD (atI (M.tnode r (8 - f)).1.ents x.1).toNat (0, 0)).2 x
        have h2 := (split_bound (SM.putF f M ((M.tnode r (8 - f)).1.ents.getD (atI (M.tnode r (8 - f)).1.ents x.1).toNat (0, 0)).2 x).1 (SM.putF f M ((M.tnode r (8 - f)).1.ents.getD (atI (M.tnode r (8 - f)).1.ents x.1).toNat (0, 0)).2 x).2.1).1
        split
        · split <;> (dsimp only; omega)
        · dsimp only; omega
      · split <;> (dsimp only; omega)
    · dsimp only; omega
theorem putF_inner {f : Nat} {M : SM} {root : Int} {x : Int × Int} {n : NM} (hR : M.tnode root (8 - f) = (n, 0)) (hk : n.kind = 3) :
    SM.putF (f + 1) M root x = putRes n (atI n.ents x.1).toNat (SM.putF f M (n.ents.getD (atI n.ents x.1).toNat (0, 0)).2 x).1 (SM.putF f M (n.ents.getD (atI n.ents x.1).toNat (0, 0)).2 x).2.1 (SM.putF f M (n.ents.getD (atI n.ents x.1).toNat (0, 0)).2 x).2.2 := by
  rw [putF_succ, hR]
  dsimp only
  rw [if_pos rfl, if_pos hk]
  rfl

theorem treePutF : ∀ (f : Nat), 0 < f → f ≤ 9 → ∀ {w : World} {A : SA} {M : SM} (root : Int) (x : Int × Int), StoreAt w A M → M.log.length + 2 * f + 2 < 100000000 →
    Calls Try.prog 53 #[.agg #[.pointer (some ⟨A.sb, 0, none⟩)], .int .i64 root, .int .i64 ((9 - f : Nat) : Int), .agg #[.int .i64 x.1, .int .i64 x.2]] w fun e w' =>
      ∃ A' v, e = .returned (.tuple #[.agg (nodeCells (SM.putF f M root x).2.1 v).toArray, .int .i64 (SM.putF f M root x).2.2]) ∧ StoreTo A A' (SM.putF f M root x).1 w w' ∧ OutAt w' A' w.heap.size v (SM.putF f M root x).2.1.ents
  | 0, h0, _, _, _, _, _, _, _, _ => by omega
  | f + 1, _, hf, w, A, M, root, x, h, hfew => by
    have ht := fun h0 => tnode_ok h (i := root) (d := 8 - f) h0
    have still : ∀ {n : NM} {er : Nat} {w' : World} {v : Value}, w'.ownsRow w.heap.size 35 2 v n.ents.length (entCells n.ents) → Kept (fun _ => False) w w' → SM.putF (f + 1) M root x = (M, n, er) →
        StoreTo A A (SM.putF (f + 1) M root x).1 w w' ∧ OutAt w' A w.heap.size v (SM.putF (f + 1) M root x).2.1.ents := fun ho hk e => by
      rw [e]
      exact ⟨(StoreTo.refl h).fresh hk, ho, fun b hb e => by have := (ho.lt b hb).1; have := h.lt (.inl e); omega⟩
    have e9 : 9 - (f + 1) = 8 - f := by omega
    rw [e9]
    obtain ⟨R, hR⟩ : ∃ R, M.tnode root (8 - f) = R := ⟨_, rfl⟩
    rw [hR] at ht
    obtain ⟨n, er⟩ := R
    dsimp only at ht
    by_cases h0 : er = 0
    · subst h0
      obtain ⟨hin, hd⟩ := ht rfl
      rcases hin.kind with hk | hk
      · have hs : SM.putF (f + 1) M root x = if 0 ≤ atI n.ents x.1 ∧ (n.ents.getD (atI n.ents x.1).toNat (0, 0)).1 = x.1 then
            (M, { n with ents := n.ents.take (atI n.ents x.1).toNat ++ [x] ++ n.ents.drop ((atI n.ents x.1).toNat + 1) }, 0)
          else (M, { n with ents := n.ents.take (atI n.ents x.1 + 1).toNat ++ [x] ++ n.ents.drop (atI n.ents x.1 + 1).toNat }, 0) := by
          rw [putF_succ, hR]
          dsimp only
          rw [if_pos rfl, if_neg (by omega)]
        have hb := (atI_bound (l := n.ents) x.1).1
        by_cases hneg : atI n.ents x.1 = -1
        · have e : SM.putF (f + 1) M root x = (M, { n with ents := n.ents.take 0 ++ [x] ++ n.ents.drop 0 }, 0) := by
            rw [hs, if_neg (by omega), hneg]
            rfl
          refine (putLess h root (8 - f) (by omega) x hR hin hk hneg rfl).mono ?_
          rintro e' w' ⟨v, he, ho, hk⟩
          have hst := still (n := { n with ents := n.ents.take 0 ++ [x] ++ n.ents.drop 0 }) ho hk e
          exact ⟨A, v, by rw [he, e]; rfl, hst.1, hst.2⟩
        · obtain ⟨i, hi⟩ := Int.eq_ofNat_of_zero_le (show 0 ≤ atI n.ents x.1 by omega)
          rw [hi] at hs
          simp only [Int.toNat_natCast] at hs
          by_cases hy : (n.ents.getD i (0, 0)).1 = x.1
          · have e : SM.putF (f + 1) M root x = (M, { n with ents := n.ents.take i ++ [x] ++ n.ents.drop (i + 1) }, 0) := by
              rw [hs, if_pos ⟨by omega, hy⟩]
            refine (putSame h root (8 - f) (by omega) x hR hin hk hi hy rfl).mono ?_
            rintro e' w' ⟨v, he, ho, hk⟩
            have hst := still (n := { n with ents := n.ents.take i ++ [x] ++ n.ents.drop (i + 1) }) ho hk e
            exact ⟨A, v, by rw [he, e]; rfl, hst.1, hst.2⟩
          · have e : SM.putF (f + 1) M root x = (M, { n with ents := n.ents.take (i + 1) ++ [x] ++ n.ents.drop (i + 1) }, 0) := by
              rw [hs, if_neg (fun h => hy h.2), show ((i : Int) + 1).toNat = i + 1 by omega]
            refine (putMore h root (8 - f) (by omega) x hR hin hk hi hy rfl).mono ?_
            rintro e' w' ⟨v, he, ho, hk⟩
            have hst := still (n := { n with ents := n.ents.take (i + 1) ++ [x] ++ n.ents.drop (i + 1) }) ho hk e
            exact ⟨A, v, by rw [he, e]; rfl, hst.1, hst.2⟩
      · rw [putF_inner hR hk]
        have hlog := putF_log f M (n.ents.getD (atI n.ents x.1).toNat (0, 0)).2 x
        refine putInner h root (8 - f) (by omega) x hR hin hk rfl (by omega) fun W hW => ?_
        have := treePutF f (by omega) (by omega) (n.ents.getD (atI n.ents x.1).toNat (0, 0)).2 x hW (by omega)
        rw [show 9 - f = 8 - f + 1 by omega, Int.natCast_add, Int.natCast_one] at this
        exact this
    · have e : SM.putF (f + 1) M root x = (M, n, er) := by
        rw [putF_succ, hR]
        dsimp only
        rw [if_neg h0]
      refine (putErr h root (8 - f) (by omega) x hR h0).mono ?_
      rintro e' w' ⟨v, he, ho, hk⟩
      have hst := still (n := n) (er := er) ho hk e
      exact ⟨A, v, by rw [he, e], hst.1, hst.2⟩
end Go.Proofs.Ythmjcbmeiabbgaa
/-
  Trees (package tree): Put.
-/
namespace Go.Proofs.Ythmjcbmeiabbgaa
open Go.RowKit
set_option maxRecDepth 100000

theorem entry_zero : (Try.prog.info? 35).map (·.zero) = some (some (.agg #[.int .i64 0, .int .i64 0])) := by kernel_rfl
theorem entry_size : (Try.prog.info? 35).map (·.size) = some 2 := by kernel_rfl

set_option maxHeartbeats 4000000 in
theorem treePut {w : World} {A : SA} {M : SM} (h : StoreAt w A M) (root key page : Int) (hfew : M.log.length + 30 < 100000000) :
    Calls Try.prog 20 #[.agg #[.pointer (some ⟨A.sb, 0, none⟩)], .int .i64 root, .int .i64 key, .int .i64 page] w fun e w' => ∃ A', e = .returned (.tuple #[.int .i64 (M.put root key page).2.1, .int .i64 (M.put root key page).2.2]) ∧ StoreTo A A' (M.put root key page).1 w w' := by
  obtain ⟨w1, hw1⟩ : ∃ w1, w.alloc (.cells #[.pointer (some ⟨A.sb, 0, none⟩)] 26) = w1 := ⟨_, rfl⟩
  have k1 : Kept (fun _ => False) w w1 := by rw [← hw1]; exact (Kept.refl _ _).alloc _
  have s1 : w1.heap.size = w.heap.size + 1 := by rw [← hw1]; simp
  have t1 : w1.heap[w.heap.size]? = some (.cells #[.pointer (some ⟨A.sb, 0, none⟩)] 26 (0, 0)) := by rw [← hw1]; exact heap_alloc_new _ _
  have k1' := Lib.hid k1
  have hw1' := Lib.hid hw1
  have h' := Lib.hid h
  by_cases hk0 : key < 0
  · have e : Hid (M.put root key page = (M, -1, 101)) := Lib.hid (by unfold SM.put; rw [if_pos (.inl hk0)])
    clear hw1 k1 s1 t1 h
    go_enter Try.func20, Try.ntmps20
    go_wp2_with (first | (refine wpList_box_named 26 rfl rfl _ rfl hw1'.out ?_))
    go_ret2
    first | exact ⟨A, by rw [e.out]; rfl, by rw [e.out]; exact (StoreTo.refl h'.out).fresh k1'.out⟩ | exact ⟨by rw [e.out]; rfl, A, by rw [e.out]; exact (StoreTo.refl h'.out).fresh k1'.out⟩
  by_cases hk1 : 64 ≤ key
  · have e : Hid (M.put root key page = (M, -1, 101)) := Lib.hid (by unfold SM.put; rw [if_pos (.inr hk1)])
    clear hw1 k1 s1 t1 h
    go_enter Try.func20, Try.ntmps20
    go_wp2_with (first | (refine wpList_box_named 26 rfl rfl _ rfl hw1'.out ?_))
    go_ret2
    first | exact ⟨A, by rw [e.out]; rfl, by rw [e.out]; exact (StoreTo.refl h'.out).fresh k1'.out⟩ | exact ⟨by rw [e.out]; rfl, A, by rw [e.out]; exact (StoreTo.refl h'.out).fresh k1'.out⟩
  have hput : Hid (M.put root key page = if root = -1 then M.top ⟨2, zeros16, [(key, page)]⟩ else (if (SM.putF 9 M root (key, page)).2.2 = 0 then (SM.putF 9 M root (key, page)).1.top (SM.putF 9 M root (key, page)).2.1 else ((SM.putF 9 M root (key, page)).1, -1, (SM.putF 9 M root (key, page)).2.2))) := Lib.hid (by unfold SM.put; rw [if_neg (by omega)]; rfl)
  obtain ⟨xb, hxb⟩ : ∃ xb, w1.heap.size = xb := ⟨_, rfl⟩
  obtain ⟨w2, hw2⟩ : ∃ w2, (w1.alloc (.cells #[.int .i64 0, .int .i64 0] 35)).setRow xb #[.int .i64 key, .int .i64 page] = w2 := ⟨_, rfl⟩
  have k2 : Kept (fun _ => False) w1 w2 := by rw [← hw2]; exact ((Kept.refl _ _).alloc _).setRowNew (by omega) _
  have x2 : w2.heap[xb]? = some (.cells #[.int .i64 key, .int .i64 page] 35 (0, 0)) := by rw [← hw2, ← hxb]; exact setRow_heap _ _ _ _ _ _ (heap_alloc_new _ _)
  have s2 : w2.heap.size = w.heap.size + 2 := by rw [← hw2]; simp [World.setRow, s1]
  have t2 := k2.get t1 id
  have hloadt : Hid (∀ j v, [Value.pointer (some ⟨A.sb, 0, none⟩)][j]? = some v → w2.cell? ⟨w.heap.size, 0 + j, none⟩ = some v) := Lib.hid (fun j v hj => by rw [Nat.zero_add, cell_of_heap t2]; simpa using hj)
  have hloadx : Hid (∀ j v, [Value.int .i64 key, .int .i64 page][j]? = some v → w2.cell? ⟨xb, 0 + j, none⟩ = some v) := Lib.hid (fun j v hj => by rw [Nat.zero_add, cell_of_heap x2]; simpa using hj)
  have st2 := Lib.hid (StoreTo.refl h |>.fresh (k1.trans k2))
  have hw2' := Lib.hid hw2
  have hxb' := Lib.hid hxb
  have s2' := Lib.hid s2
  by_cases hr : root = -1
  · subst hr
    have e : Hid (M.put (-1) key page = M.top ⟨2, zeros16, [(key, page)]⟩) := Lib.hid (by rw [hput.out, if_pos rfl])
    obtain ⟨w3, hw3⟩ : ∃ w3, w2.alloc (.cells #[.int .i64 key, .int .i64 page] 35) = w3 := ⟨_, rfl⟩
    have k3 : Kept (fun _ => False) w2 w3 := by rw [← hw3]; exact (Kept.refl _ _).alloc _
    have g3 : w3.heap[w2.heap.size]? = some (.cells #[.int .i64 key, .int .i64 page] 35 (0, 0)) := by rw [← hw3]; exact heap_alloc_new _ _
    have hs3 : w3.heap.size = w2.heap.size + 1 := by rw [← hw3]; simp
    have hv : EntsOff w3 A (.slice (some ⟨w2.heap.size, 0, none⟩) 1 1) [(key, page)] := ⟨SliceAt.block_new (ys := [.int .i64 key, .int .i64 page]) (m := 1) g3 rfl (by decide), fun _ b hb => by
      simp [Value.ownBlock] at hb
      subst hb
      exact ⟨by omega, fun e => by have := h.lt (.inl e); omega⟩⟩
    have hT := treeTop (n := ⟨2, zeros16, [(key, page)]⟩) (h.fresh ((k1.trans k2).trans k3)) hv (by omega)
    rw [← hw3] at hT
    have hT' := Lib.hid hT
    have k3' := Lib.hid (show Kept (fun _ => False) w (w2.alloc (.cells #[.int .i64 key, .int .i64 page] 35)) by rw [hw3]; exact (k1.trans k2).trans k3)
    clear hw1 k1 s1 t1 hw2 k2 x2 s2 t2 hxb h hw3 k3 g3 hs3 hv hT hput
    go_enter Try.func20, Try.ntmps20
    go_wp2_with (first | (refine wpList_box_named 26 rfl rfl _ rfl hw1'.out ?_) | (refine wpList_alloc_as 35 rfl rfl #[.int .i64 0, .int .i64 0] entry_zero ?_; rw [hxb'.out]) | (refine wpList_store_whole 35 rfl rfl rfl [.int .i64 key, .int .i64 page] rfl entry_size 35 #[.int .i64 0, .int .i64 0] (by rw [← hxb'.out]; exact heap_alloc_new _ _) rfl (by intro c hc; simp at hc; rcases hc with rfl | rfl <;> rfl) ?_; rw [hw2'.out]) | (refine wpList_load_agg 26 rfl rfl rfl _ Try.underlying26 rfl [.pointer (some ⟨A.sb, 0, none⟩)] (by kernel_rfl) hloadt.out ?_) | (refine wpList_load_agg 35 rfl rfl rfl _ Try.underlying35 rfl [.int .i64 key, .int .i64 page] (by kernel_rfl) hloadx.out ?_) | (refine wpList_exec rfl (exec_build 33 #[(0, .const (.int .i64 2)), (2, .tmp 26)] _ rfl (by simp [Act.eval]) (run_build_part _ _ [(key, page)] _ _ _)) ?_))
    refine hT'.out.mono ?_
    rintro e' w4 ⟨A4, rfl, hT4⟩
    have hT4' := Lib.hid hT4
    clear hT4
    go_wp2_with fail
    go_ret2
    exact ⟨A4, by rw [e.out]; rfl, by rw [e.out]; exact StoreTo.before k3'.out hT4'.out⟩
  · have hrb : (root == -1) = false := by simpa using hr
    have hP := treePutF 9 (by omega) (Nat.le_refl _) root (key, page) (h.fresh (k1.trans k2)) (by omega)
    have hlog := putF_log 9 M root (key, page)
    rw [if_neg hr] at hput
    obtain ⟨R, hR⟩ : ∃ R, SM.putF 9 M root (key, page) = R := ⟨_, rfl⟩
    rw [hR] at hP hlog hput
    obtain ⟨M1, n1, er⟩ := R
    dsimp only at hP hlog hput
    have hP' := Lib.hid hP
    obtain ⟨Z, hZ⟩ : ∃ Z, nodeCells NM.zero (.slice none 0 0) = Z := ⟨_, rfl⟩
    have hZz : Hid ((Try.prog.info? 33).map (·.zero) = some (some (.agg Z.toArray))) := Lib.hid (by rw [← hZ]; exact node_zero)
    have hZl : Hid (Z.length = 18) := Lib.hid (by rw [← hZ]; exact nodeCells_len _ _)
    have t2' := Lib.hid t2
    have sf2 : Hid (Safe w2 A w.heap.size) := Lib.hid (Safe.new h (Nat.le_refl _) (by omega))
    have hsz2 : Hid (w.heap.size ≤ w2.heap.size) := Lib.hid (by omega)
    clear hw1 k1 s1 t1 hw2 k2 x2 s2 t2 hxb h hP hR hr hZ
    go_enter Try.func20, Try.ntmps20
    go_wp2_with (first | (refine wpList_box_named 26 rfl rfl _ rfl hw1'.out ?_) | (refine wpList_alloc_as 35 rfl rfl #[.int .i64 0, .int .i64 0] entry_zero ?_; rw [hxb'.out]) | (refine wpList_store_whole 35 rfl rfl rfl [.int .i64 key, .int .i64 page] rfl entry_size 35 #[.int .i64 0, .int .i64 0] (by rw [← hxb'.out]; exact heap_alloc_new _ _) rfl (by intro c hc; simp at hc; rcases hc with rfl | rfl <;> rfl) ?_; rw [hw2'.out]) | (refine wpList_load_agg 26 rfl rfl rfl _ Try.underlying26 rfl [.pointer (some ⟨A.sb, 0, none⟩)] (by kernel_rfl) hloadt.out ?_) | (refine wpList_load_agg 35 rfl rfl rfl _ Try.underlying35 rfl [.int .i64 key, .int .i64 page] (by kernel_rfl) hloadx.out ?_))
    refine hP'.out.mono ?_
    rintro e' w3 ⟨A3, v, rfl, hT3, hO3⟩
    obtain ⟨Av, cap, rfl, _⟩ := EntsAt.form hO3.ents.at_
    obtain ⟨F, hF⟩ : ∃ F, nodeCells n1 (.slice Av n1.ents.length cap) = F := ⟨_, rfl⟩
    have hFl : Hid (F.length = 18) := Lib.hid (by rw [← hF]; exact nodeCells_len _ _)
    have hF1 : Hid (∀ v ∈ F, v.oneCell' = true) := Lib.hid (by rw [← hF]; exact nodeCells_one _ _ _ _)
    obtain ⟨nb, hnb⟩ : ∃ nb, w3.heap.size = nb := ⟨_, rfl⟩
    obtain ⟨w5, hw5⟩ : ∃ w5, (w3.alloc (.cells Z.toArray 33)).setRow nb F.toArray = w5 := ⟨_, rfl⟩
    have k5 : Kept (fun _ => False) w3 w5 := by rw [← hw5]; exact ((Kept.refl _ _).alloc _).setRowNew (by omega) _
    have q5 := Lib.hid (show w5.heap[nb]? = some (.cells F.toArray 33 (0, 0)) by rw [← hw5, ← hnb]; exact setRow_heap _ _ _ _ _ _ (heap_alloc_new _ _))
    have t5 := Lib.hid (k5.get (hT3.get t2'.out sf2.out) id)
    have hT5 := Lib.hid ((st2.out.trans hT3).fresh k5)
    have hsb := hT3.sb
    have hTop := treeTop hT5.out.store (hO3.ents.fresh k5) (by omega)
    rw [hF, hsb] at hTop
    have hTop' := Lib.hid hTop
    have hnb' := Lib.hid hnb
    have hw5' := Lib.hid hw5
    rw [hF]
    clear hT3 hO3 hF hnb hw5 k5 hTop hsb
    by_cases h0 : er = 0
    · subst h0
      rw [if_pos rfl] at hput
      go_wp2_with (first | (refine wpList_alloc_as 33 rfl rfl Z.toArray hZz.out ?_; rw [hnb'.out]) | (refine wpList_store_whole 33 rfl rfl rfl F rfl (by rw [hFl.out]; exact node_size) 33 _ (by rw [← hnb'.out]; exact heap_alloc_new _ _) (by simp [hFl.out, hZl.out]) hF1.out ?_; rw [hw5'.out]) | (refine wpList_load_agg 26 rfl rfl rfl _ Try.underlying26 rfl [.pointer (some ⟨A.sb, 0, none⟩)] (by kernel_rfl) (fun j v hv => by rw [Nat.zero_add, cell_of_heap t5.out]; simpa using hv) ?_) | (refine wpList_load_agg 33 rfl rfl rfl _ Try.underlying33 rfl F (by rw [hFl.out]; exact node_size) (fun j v hv => by rw [cell_of_heap q5.out, Nat.zero_add]; simpa using hv) ?_))
      refine hTop'.out.mono ?_
      rintro e' w6 ⟨A6, rfl, hT6⟩
      have hT6' := Lib.hid hT6
      clear hT6
      go_wp2_with fail
      go_ret2
      exact ⟨A6, by rw [hput.out]; rfl, by rw [hput.out]; exact hT5.out.trans hT6'.out⟩
    · rw [if_neg h0] at hput
      have h0' : ((er : Int) == 0) = false := by simp; omega
      clear h0
      go_wp2_with (first | (refine wpList_alloc_as 33 rfl rfl Z.toArray hZz.out ?_; rw [hnb'.out]) | (refine wpList_store_whole 33 rfl rfl rfl F rfl (by rw [hFl.out]; exact node_size) 33 _ (by rw [← hnb'.out]; exact heap_alloc_new _ _) (by simp [hFl.out, hZl.out]) hF1.out ?_; rw [hw5'.out]))
      go_ret2
      exact ⟨A3, by rw [hput.out]; rfl, by rw [hput.out]; exact hT5.out⟩
end Go.Proofs.Ythmjcbmeiabbgaa
/-
  Trees (package tree): Build.
-/
namespace Go.Proofs.Ythmjcbmeiabbgaa
open Go.RowKit
set_option maxRecDepth 100000

theorem put_log (M : SM) (root key page : Int) : (M.put root key page).1.log.length ≤ M.log.length + 22 := by
  unfold SM.put
  dsimp only
  split
  · dsimp only; omega
  · split
    · have := top_bound M ⟨2, List.replicate 16 0, [(key, page)]⟩
      omega
    · have h1 := putF_log 9 M root (key, page)
      split
      · have := top_bound (SM.putF 9 M root (key, page)).1 (SM.putF 9 M root (key, page)).2.1
        omega
      · dsimp only; omega
theorem swap_log (M : SM) (a b : Int) : (M.swap a b).1.log = M.log := by
  unfold SM.swap
  dsimp only
  have h1 : (if b = -1 then (M, 0) else M.hold b).1.log = M.log := by split <;> rfl
  obtain ⟨R, hR⟩ : ∃ R, (if b = -1 then (M, 0) else M.hold b) = R := ⟨_, rfl⟩
  rw [hR] at h1 ⊢
  split
  · split
    · exact h1
    · unfold SM.drop
      rw [(dropF_live 241 R.1 a).2.1]; exact h1
  · exact h1
/-- Build from somewhere in the list on. -/
theorem build_cons (x : Int × Int) (l : List (Int × Int)) (M : SM) (root : Int) : SM.build (x :: l) M root =
    if (M.put root x.1 x.2).2.2 = 0 then (if ((M.put root x.1 x.2).1.swap root (M.put root x.1 x.2).2.1).2 = 0 then SM.build l ((M.put root x.1 x.2).1.swap root (M.put root x.1 x.2).2.1).1 (M.put root x.1 x.2).2.1 else (((M.put root x.1 x.2).1.swap root (M.put root x.1 x.2).2.1).1, -1, ((M.put root x.1 x.2).1.swap root (M.put root x.1 x.2).2.1).2)) else ((M.put root x.1 x.2).1, -1, (M.put root x.1 x.2).2.2) := rfl

set_option maxHeartbeats 4000000 in
theorem treeBuild {w : World} {A : SA} {M : SM} (h : StoreAt w A M) {v : Value} {l : List (Int × Int)} (hv : EntsOff w A v l) (hl : l.length ≤ 1000) (hfew : M.log.length + 100000 < 100000000) :
    Calls Try.prog 18 #[.agg #[.pointer (some ⟨A.sb, 0, none⟩)], v] w fun e w' => ∃ A', e = .returned (.tuple #[.int .i64 (SM.build l M (-1)).2.1, .int .i64 (SM.build l M (-1)).2.2]) ∧ StoreTo A A' (SM.build l M (-1)).1 w w' := by
  obtain ⟨Av, cap, rfl, hf1, hf2⟩ := hv.at_.form
  unfold maxLen at hf2
  obtain ⟨w1, hw1⟩ : ∃ w1, w.alloc (.cells #[.pointer (some ⟨A.sb, 0, none⟩)] 26) = w1 := ⟨_, rfl⟩
  have k1 : Kept (fun _ => False) w w1 := by rw [← hw1]; exact (Kept.refl _ _).alloc _
  have s1 : w1.heap.size = w.heap.size + 1 := by rw [← hw1]; simp
  have t1 : w1.heap[w.heap.size]? = some (.cells #[.pointer (some ⟨A.sb, 0, none⟩)] 26 (0, 0)) := by rw [← hw1]; exact heap_alloc_new _ _
  have hw1' := Lib.hid hw1
  have st1 : Safe w1 A w.heap.size := Safe.new h (Nat.le_refl _) (by omega)
  have I0 : Hid (StoreTo A A M w w1 ∧ w1.heap[w.heap.size]? = some (.cells #[.pointer (some ⟨A.sb, 0, none⟩)] 26 (0, 0)) ∧ Safe w1 A w.heap.size ∧ EntsOff w1 A (.slice Av l.length cap) l ∧ M.log.length ≤ M.log.length + 22 * 0) := Lib.hid ⟨(StoreTo.refl h).fresh k1, t1, st1, hv.fresh k1, Nat.le_refl _⟩
  have h' := Lib.hid h
  clear hw1 k1 s1 t1 st1 h hv
  go_enter Try.func18, Try.ntmps18
  go_wp2_with (first | (refine wpList_box_named 26 rfl rfl _ rfl hw1'.out ?_))
  go_loopw [6, 13] (fun r x wr => ∃ (k : Nat) (A' : SA) (M' : SM) (root : Int), k ≤ l.length ∧ x = .int .i64 k ∧ r = .int .i64 root ∧ Hid (SM.build (l.drop k) M' root = SM.build l M (-1)) ∧ Hid (StoreTo A A' M' w wr ∧ wr.heap[w.heap.size]? = some (.cells #[.pointer (some ⟨A.sb, 0, none⟩)] 26 (0, 0)) ∧ Safe wr A' w.heap.size ∧ EntsOff wr A' (.slice Av l.length cap) l ∧ M'.log.length ≤ M.log.length + 22 * k)) (fun _ x _ => l.length - (intOf x).toNat)
  case atStart => exact ⟨0, A, M, -1, Nat.zero_le _, rfl, rfl, Lib.hid rfl, I0⟩
  case round =>
    obtain ⟨k, A', M', root, hk, rfl, rfl, hq, hI⟩ := hrel
    by_cases hlt : k < l.length
    · obtain ⟨x, hx⟩ : ∃ x, l[k]? = some x := ⟨_, List.getElem?_eq_getElem hlt⟩
      have hd : Hid (l.drop k = x :: l.drop (k + 1)) := Lib.hid (by
        obtain ⟨hkl, hxe⟩ := List.getElem?_eq_some_iff.1 hx
        rw [List.drop_eq_getElem_cons hkl, hxe])
      have hstep := hq.out
      rw [hd.out, build_cons] at hstep
      obtain ⟨hT, htb, hsafe, hents, hlog⟩ := hI.out
      obtain ⟨b, off, hAv, hbl, hx1, hx2⟩ := EntsAt.get hents.at_ hx
      cases hAv
      obtain ⟨xb, hxb⟩ : ∃ xb, wr.heap.size = xb := ⟨_, rfl⟩
      obtain ⟨w2, hw2⟩ : ∃ w2, (wr.alloc (.cells #[.int .i64 0, .int .i64 0] 35)).setRow xb #[.int .i64 x.1, .int .i64 x.2] = w2 := ⟨_, rfl⟩
      have k2 : Kept (fun _ => False) wr w2 := by rw [← hw2]; exact ((Kept.refl _ _).alloc _).setRowNew (by omega) _
      have x2 : w2.heap[xb]? = some (.cells #[.int .i64 x.1, .int .i64 x.2] 35 (0, 0)) := by rw [← hw2, ← hxb]; exact setRow_heap _ _ _ _ _ _ (heap_alloc_new _ _)
      have t2 := k2.get htb id
      have c1 := cell_of_heap x2 0
      have c2 := cell_of_heap x2 1
      simp at c1 c2
      have hT2 := hT.fresh k2
      have hP := treePut hT2.store root x.1 x.2 (by omega)
      rw [hT.sb] at hP
      have hlogP := put_log M' root x.1 x.2
      obtain ⟨R, hR⟩ : ∃ R, M'.put root x.1 x.2 = R := ⟨_, rfl⟩
      rw [hR] at hP hstep hlogP
      obtain ⟨M2, next, er⟩ := R
      dsimp only at hP hstep hlogP
      have hloade : Hid (∀ j v, [Value.int .i64 x.1, .int .i64 x.2][j]? = some v → (wr.alloc (.cells #[.int .i64 0, .int .i64 0] 35)).cell? ⟨b, off + k * 2 + j, none⟩ = some v ∧ wr.cell? ⟨b, off + k * 2 + j, none⟩ = some v) := Lib.hid (fun j v hj => by
        have kA := (Kept.refl (fun _ => False) wr).alloc (.cells #[.int .i64 0, .int .i64 0] 35)
        match j, hj with
        | 0, hj => cases hj; exact ⟨kA.cell hx1 id, hx1⟩
        | 1, hj => cases hj; exact ⟨kA.cell hx2 id, hx2⟩)
      have hloadt : Hid (∀ j v, [Value.pointer (some ⟨A.sb, 0, none⟩)][j]? = some v → w2.cell? ⟨w.heap.size, 0 + j, none⟩ = some v) := Lib.hid (fun j v hj => by rw [Nat.zero_add, cell_of_heap t2]; simpa using hj)
      have hP' := Lib.hid hP
      have hstep' := Lib.hid hstep
      have hxb' := Lib.hid hxb
      have hw2' := Lib.hid hw2
      have hT2' := Lib.hid hT2
      have sf2 := Lib.hid (hsafe.fresh k2)
      have t2' := Lib.hid t2
      have he2 := Lib.hid (hents.fresh k2)
      have hki : (k : Int) < (l.length : Int) := by omega
      clear hx hR hP hstep hT htb hsafe hents hxb hw2 k2 x2 t2 hT2 hx1 hx2 hI hq
      go_wp2_with (first | (refine wpList_alloc_as 35 rfl rfl #[.int .i64 0, .int .i64 0] entry_zero ?_; rw [hxb'.out]) | (refine wpList_store_whole 35 rfl rfl rfl [.int .i64 x.1, .int .i64 x.2] rfl entry_size 35 #[.int .i64 0, .int .i64 0] (by rw [← hxb'.out]; exact heap_alloc_new _ _) rfl (by intro c hc; simp at hc; rcases hc with rfl | rfl <;> rfl) ?_; rw [hw2'.out]) | (refine wpList_load_agg 26 rfl rfl rfl _ Try.underlying26 rfl [.pointer (some ⟨A.sb, 0, none⟩)] (by kernel_rfl) hloadt.out ?_) | (refine wpList_load_agg 35 rfl rfl rfl _ Try.underlying35 rfl [.int .i64 x.1, .int .i64 x.2] (by kernel_rfl) (fun j v hj => (hloade.out j v hj).2) ?_))
      refine hP'.out.mono ?_
      rintro e w3 ⟨A3, rfl, hT3⟩
      have hT23 := hT2'.out.trans hT3
      have t3 := hT3.get t2'.out sf2.out
      have sf3 := Lib.hid (sf2.out.to hT3)
      have he3 := Lib.hid (he2.out.to hT3)
      have t3' := Lib.hid t3
      have hT23' := Lib.hid hT23
      have hsb3 := hT23.sb
      have hloadt3 : Hid (∀ j v, [Value.pointer (some ⟨A.sb, 0, none⟩)][j]? = some v → w3.cell? ⟨w.heap.size, 0 + j, none⟩ = some v) := Lib.hid (fun j v hj => by rw [Nat.zero_add, cell_of_heap t3]; simpa using hj)
      clear hT3 t3 hT23
      by_cases h0 : er = 0
      · subst h0
        rw [if_pos rfl] at hstep'
        have hS := treeSwap hT23'.out.store root next
        rw [hsb3] at hS
        have hlogS := swap_log M2 root next
        obtain ⟨R, hR⟩ : ∃ R, M2.swap root next = R := ⟨_, rfl⟩
        rw [hR] at hS hstep' hlogS
        obtain ⟨M3, es⟩ := R
        dsimp only at hS hstep' hlogS
        have hS' := Lib.hid hS
        have hlogS' := Lib.hid hlogS
        clear hR hS hsb3 hlogS
        go_wp2_with (first | (refine wpList_load_agg 26 rfl rfl rfl _ Try.underlying26 rfl [.pointer (some ⟨A.sb, 0, none⟩)] (by kernel_rfl) hloadt3.out ?_))
        refine hS'.out.mono ?_
        rintro e w4 ⟨rfl, hT4⟩
        have hT34 := Lib.hid (hT23'.out.trans hT4)
        have t4 := Lib.hid (hT4.get t3'.out sf3.out)
        have sf4 := Lib.hid (sf3.out.to hT4)
        have he4 := Lib.hid (he3.out.to hT4)
        clear hT4
        by_cases h1 : es = 0
        · subst h1
          rw [if_pos rfl] at hstep'
          go_wp2_with fail
          go_roundw
          case rel => exact ⟨k + 1, A3, M3, next, by omega, by go_num, rfl, hstep', Lib.hid ⟨hT34.out, t4.out, sf4.out, he4.out, by rw [hlogS'.out]; omega⟩⟩
          case measure => simp [intOf]; omega
        · rw [if_neg h1] at hstep'
          have h1' : ((es : Int) == 0) = false := by simp; omega
          clear h1
          go_wp2_with fail
          go_ret2
          exact ⟨A3, by rw [← hstep'.out]; rfl, by rw [← hstep'.out]; exact hT34.out⟩
      · rw [if_neg h0] at hstep'
        have h0' : ((er : Int) == 0) = false := by simp; omega
        clear h0 hsb3
        go_wp2_with fail
        go_ret2
        exact ⟨A3, by rw [← hstep'.out]; rfl, by rw [← hstep'.out]; exact hT23'.out⟩
    · obtain rfl : k = l.length := by omega
      have hend : Hid (SM.build l M (-1) = (M', root, 0)) := Lib.hid (by rw [← hq.out, List.drop_length]; rfl)
      have hT := Lib.hid hI.out.1
      clear hI hq
      go_wp2_with fail
      go_ret2
      exact ⟨A', by rw [hend.out]; rfl, by rw [hend.out]; exact hT.out⟩
end Go.Proofs.Ythmjcbmeiabbgaa
/-
  Trees in a store, plain: holding, dropping, one root in the place of another.
-/
namespace Go.Proofs.Ythmjcbmeiabbgaa
open Go.RowKit

def incE (ext : Nat → Nat) (i : Nat) : Nat → Nat := fun p => if p = i then ext p + 1 else ext p
theorem exact_congr {M : SM} {e f : Nat → Nat} (h : Exact M e) (hf : ∀ p, p < M.pool.size → e p = f p) : Exact M f :=
  ⟨h.size, h.cntLe, fun p hp => by rw [h.cnt p hp, hf p hp], h.node, h.kids, h.rank⟩

/-- A page that is there, held once more. -/
theorem holdE_ok {M : SM} {ext : Nat → Nat} (h : Exact M ext) {i : Nat} (hi : M.live i = true) (hc : M.pool.cnt i < 255) :
    M.hold (i : Int) = (⟨M.pool.setCnt i (M.pool.cnt i + 1), M.log⟩, 0) ∧ Exact ⟨M.pool.setCnt i (M.pool.cnt i + 1), M.log⟩ (incE ext i) ∧ (∀ p, SM.live ⟨M.pool.setCnt i (M.pool.cnt i + 1), M.log⟩ p = M.live p) := by
  have hh : M.pool.heldB (i : Int) = true := by rw [heldB_nat]; exact hi
  have hl : ∀ p, SM.live ⟨M.pool.setCnt i (M.pool.cnt i + 1), M.log⟩ p = M.live p := by
    intro p
    have H : Held M.pool [(i : Int)] (M.pool.setCnt i (M.pool.cnt i + 1)) := ⟨rfl, rfl, fun j => by
      unfold PM.setCnt
      by_cases hj : j = i
      · subst hj; simp
      · simp [hj]; omega⟩
    exact H.live (fun x hx => by rw [List.mem_singleton.1 hx]; exact hh) p
  have hr : ∀ p, SM.refs ⟨M.pool.setCnt i (M.pool.cnt i + 1), M.log⟩ p = M.refs p := fun p => by
    unfold SM.refs
    refine sumN_congr fun q _ => ?_
    rw [hl q]; rfl
  refine ⟨by simp [SM.hold, PM.holdTo, PM.holdErr, hh, hc], ⟨h.size, fun p => ?_, fun p hp => ?_, fun q hq => h.node q (by rw [hl] at hq; exact hq), fun q hq x hx => ?_, ?_⟩, hl⟩
  · have := h.cntLe p
    unfold PM.setCnt
    dsimp only
    split <;> omega
  · have h2 := h.cnt p hp
    rw [hr]
    unfold PM.setCnt incE
    dsimp only
    split
    · subst_vars; omega
    · exact h2
  · rw [hl] at hq ⊢
    exact h.kids q hq x hx
  · obtain ⟨r, hr⟩ := h.rank
    exact ⟨r, fun q hq => hr q (by rw [hl] at hq; exact hq)⟩

/-- What dropping leaves. -/
structure Dropped (M : SM) (ext : Nat → Nat) (M' : SM) : Prop where
  exact : Exact M' ext
  log : M'.log = M.log
  size : M'.pool.size = M.pool.size
  live : ∀ p, M'.live p = true → M.live p = true
  loose : ∀ p, M'.live p = true → M'.pool.cnt p = 0 → M.pool.cnt p = 0
theorem Dropped.refl {M : SM} {ext : Nat → Nat} (h : Exact M ext) : Dropped M ext M := ⟨h, rfl, rfl, fun _ h => h, fun _ _ h => h⟩
theorem Dropped.trans {A B C : SM} {e f : Nat → Nat} (h : Dropped A e B) (k : Dropped B f C) : Dropped A f C :=
  ⟨k.exact, k.log.trans h.log, k.size.trans h.size, fun p hp => h.live p (k.live p hp), fun p hp hc => h.loose p (k.live p hp) (k.loose p hp hc)⟩
theorem Dropped.loose' {M M' : SM} {ext : Nat → Nat} (h : Dropped M ext M') {E : List (Int × Int)} (hl : Loose M E) : Loose M' E := fun q hq hc => hl q (h.live q hq) (h.loose q hq hc)

theorem dropF_ok : ∀ (f : Nat) (M : SM) (ext : Nat → Nat) (i : Nat), Exact M ext → M.live i = true → 0 < ext i → M.liveN < f → (SM.dropF f M (i : Int)).2 = 0 ∧ Dropped M (decE ext i) (SM.dropF f M (i : Int)).1
  | 0, _, _, _, _, _, _, hf => by omega
  | f + 1, M, ext, i, h, hi, he, hf => by
    have hh : M.pool.heldB (i : Int) = true := by rw [heldB_nat]; exact hi
    rw [dropF_succ, if_pos hh]
    simp only [Int.toNat_natCast]
    by_cases hc : M.pool.cnt i ≤ 1
    · rw [if_pos hc]
      obtain ⟨E1, hl1, hn1⟩ := exact_gone h hi (.inl he) hc
      obtain ⟨n, hn, hok⟩ := h.node i hi
      rw [hn]
      dsimp only
      obtain ⟨M1, hM1⟩ : ∃ M1 : SM, { M with pool := M.pool.dropTo i } = M1 := ⟨_, rfl⟩
      have hlog1 : M1.log = M.log := by rw [← hM1]
      have hsz1 : M1.pool.size = M.pool.size := by rw [← hM1]; exact dropTo_size _ _
      have hcnt1 : ∀ p, M1.live p = true → M1.pool.cnt p = M.pool.cnt p := fun p hp => by
        rw [← hM1] at hp ⊢
        rw [hl1] at hp
        simp only [Bool.and_eq_true, decide_eq_true_eq] at hp
        show (M.pool.dropTo i).cnt p = _
        unfold PM.dropTo
        rw [if_neg (by omega)]
        simp [PM.setCnt, PM.setSt, hp.2]
      have hents : M.ents i = n.ents := by unfold SM.ents; rw [hn]
      rw [hents] at E1
      rw [hM1] at E1 hl1 hn1 ⊢
      have D1 : Dropped M (fun p => decE ext i p + occ n.ents p) M1 := ⟨E1, hlog1, hsz1, fun p hp => by rw [hl1] at hp; simp at hp; exact hp.1, fun p hp hc => by rw [← hcnt1 p hp]; exact hc⟩
      have key : ∀ (l : List (Int × Int)) (N : SM), (∀ x ∈ l, 0 ≤ x.2) → Dropped M (fun p => decE ext i p + occ l p) N → N.liveN < f → (∀ x ∈ l, N.live x.2.toNat = true) →
          (dropAllF f (N, 0) (l.map (·.2))).2 = 0 ∧ Dropped M (decE ext i) (dropAllF f (N, 0) (l.map (·.2))).1 := by
        intro l
        induction l with
        | nil => intro N _ D _ _; exact ⟨rfl, D⟩
        | cons x l ih =>
          intro N hx D hN hlv
          have hx0 := hx x (List.mem_cons_self ..)
          obtain ⟨c, hc⟩ := Int.eq_ofNat_of_zero_le hx0
          have hcl := hlv x (List.mem_cons_self ..)
          rw [hc, Int.toNat_natCast] at hcl
          have hocc : ∀ p, occ (x :: l) p = occ l p + (if p = c then 1 else 0) := fun p => by
            unfold occ
            rw [List.countP_cons, hc]
            by_cases e : p = c
            · subst e; simp
            · have : ¬ ((c : Int) == (p : Int)) = true := by simp; omega
              rw [if_neg this, if_neg e]
          have hext : 0 < decE ext i c + occ (x :: l) c := by rw [hocc, if_pos rfl]; omega
          obtain ⟨r1, r2⟩ := dropF_ok f N _ c D.exact hcl hext hN
          have hfold : dropAllF f (N, 0) ((x :: l).map (·.2)) = dropAllF f (SM.dropF f N (c : Int)) (l.map (·.2)) := by
            unfold dropAllF
            rw [List.map_cons, List.foldl_cons, hc, if_pos rfl]
          rw [hfold]
          obtain ⟨R, hR⟩ : ∃ R, SM.dropF f N (c : Int) = R := ⟨_, rfl⟩
          rw [hR] at r1 r2 ⊢
          obtain ⟨N2, er⟩ := R
          dsimp only at r1 r2
          subst r1
          have D2 : Dropped M (fun p => decE ext i p + occ l p) N2 := by
            have := D.trans r2
            exact ⟨exact_congr this.exact (fun p _ => by
              have h2 := hocc p
              show (if p = c then decE ext i p + occ (x :: l) p - 1 else decE ext i p + occ (x :: l) p) = decE ext i p + occ l p
              by_cases e : p = c
              · rw [if_pos e] at h2 ⊢; omega
              · rw [if_neg e] at h2 ⊢; omega), this.log, this.size, this.live, this.loose⟩
          refine ih N2 (fun y hy => hx y (List.mem_cons_of_mem _ hy)) D2 (Nat.lt_of_le_of_lt (liveN_mono r2.size r2.live) hN) (fun y hy => ?_)
          have hy0 := hx y (List.mem_cons_of_mem _ hy)
          have hp : 0 < N2.pool.cnt y.2.toNat := by
            have hlt : y.2.toNat < N2.pool.size := by
              have := live_lt (hlv y (List.mem_cons_of_mem _ hy))
              have := r2.size
              omega
            rw [D2.exact.cnt _ hlt]
            have := occ_pos hy hy0
            omega
          have hlt : y.2.toNat < N2.pool.size := by
            have := live_lt (hlv y (List.mem_cons_of_mem _ hy))
            have := r2.size
            omega
          unfold SM.live PM.live
          simp [hlt, hp]
      refine key n.ents M1 (fun x hx => (hok.entry hx).2.2.1) D1 (by omega) (fun x hx => ?_)
      rw [hl1]
      have hx' : x ∈ M.ents i := by rw [hents]; exact hx
      have h1 := h.kids i hi x hx'
      obtain ⟨r, hr⟩ := h.rank
      have h2 := hr i hi x hx'
      have h3 : x.2.toNat ≠ i := fun e => by rw [e] at h2; omega
      simp [h1, h3]
    · rw [if_neg hc]
      obtain ⟨E1, hl1⟩ := exact_less h hi he (by omega)
      refine ⟨rfl, E1, rfl, dropTo_size _ _, fun p hp => by rw [hl1] at hp; exact hp, fun p hp h0 => ?_⟩
      have : (M.pool.dropTo i).cnt p = 0 := h0
      unfold PM.dropTo at this
      rw [if_pos (by omega)] at this
      unfold PM.setCnt at this
      dsimp only at this
      split at this
      · omega
      · exact this

/-- What one root's being held in another's place leaves. -/
def swapE (ext : Nat → Nat) (old next : Int) : Nat → Nat := fun p => ext p + (if (p : Int) = next then 1 else 0) - (if (p : Int) = old then 1 else 0)
theorem drop_ok {M : SM} {ext : Nat → Nat} (h : Exact M ext) {i : Nat} (hi : M.live i = true) (he : 0 < ext i) : (M.drop (i : Int)).2 = 0 ∧ Dropped M (decE ext i) (M.drop (i : Int)).1 :=
  dropF_ok 241 M ext i h hi he (by have := M.liveN_le; have := h.size; omega)
theorem swap_ok {M : SM} {ext : Nat → Nat} (h : Exact M ext) {old next : Int} (hn : next = -1 ∨ (M.pool.heldB next = true ∧ M.pool.cnt next.toNat < 255)) (ho : old = -1 ∨ (M.pool.heldB old = true ∧ 0 < ext old.toNat)) :
    (M.swap old next).2 = 0 ∧ Exact (M.swap old next).1 (swapE ext old next) ∧ (M.swap old next).1.log = M.log ∧ (M.swap old next).1.pool.size = M.pool.size ∧ (∀ p, (M.swap old next).1.live p = true → M.live p = true) ∧
      (∀ p, (M.swap old next).1.live p = true → (M.swap old next).1.pool.cnt p = 0 → M.pool.cnt p = 0 ∧ (p : Int) ≠ next) := by
  have h1 : ∃ M1 : SM, (if next = -1 then (M, 0) else M.hold next) = (M1, 0) ∧ Exact M1 (fun p => ext p + if (p : Int) = next then 1 else 0) ∧ M1.log = M.log ∧ M1.pool.size = M.pool.size ∧ (∀ p, M1.live p = M.live p) ∧ (∀ p, M1.pool.cnt p = 0 → M.pool.cnt p = 0 ∧ (p : Int) ≠ next) := by
    rcases hn with rfl | ⟨hh, hc⟩
    · exact ⟨M, rfl, exact_congr h (fun p _ => by rw [if_neg (by omega)]; rfl), rfl, rfl, fun _ => rfl, fun p hp => ⟨hp, by omega⟩⟩
    · obtain ⟨h0, hl⟩ := heldB_int hh
      obtain ⟨k, rfl⟩ := Int.eq_ofNat_of_zero_le h0
      simp only [Int.toNat_natCast] at hl hc
      obtain ⟨e1, e2, e3⟩ := holdE_ok h hl hc
      refine ⟨_, by rw [if_neg (by omega)]; exact e1, exact_congr e2 (fun p _ => ?_), rfl, rfl, e3, fun p hp => ?_⟩
      · unfold incE
        by_cases e : p = k
        · subst e; simp
        · rw [if_neg e, if_neg (by omega)]; rfl
      · have hp' : (if p = k then M.pool.cnt k + 1 else M.pool.cnt p) = 0 := hp
        split at hp'
        · omega
        · exact ⟨hp', by omega⟩
  obtain ⟨M1, e1, E1, hlog, hsz, hlv, hlo⟩ := h1
  have hs : M.swap old next = if old = -1 then (M1, 0) else M1.drop old := by
    unfold SM.swap
    rw [e1]
    dsimp only
    rw [if_pos rfl]
  rw [hs]
  rcases ho with rfl | ⟨hh, he⟩
  · rw [if_pos rfl]
    exact ⟨rfl, exact_congr E1 (fun p _ => by unfold swapE; rw [if_neg (show ¬ (p : Int) = -1 by omega)]; rfl), hlog, hsz, fun p hp => by rw [← hlv]; exact hp, fun p _ hc => hlo p hc⟩
  · obtain ⟨h0, hl⟩ := heldB_int hh
    obtain ⟨k, rfl⟩ := Int.eq_ofNat_of_zero_le h0
    simp only [Int.toNat_natCast] at hl he
    rw [if_neg (by omega)]
    obtain ⟨r1, D⟩ := drop_ok E1 (i := k) (by rw [hlv]; exact hl) (by omega)
    refine ⟨r1, exact_congr D.exact (fun p _ => ?_), D.log.trans hlog, D.size.trans hsz, fun p hp => by rw [← hlv]; exact D.live p hp, fun p hp hc => hlo p (D.loose p hp hc)⟩
    unfold decE swapE
    by_cases e : p = k
    · subst e; rw [if_pos rfl, if_pos rfl]
    · rw [if_neg e, if_neg (show ¬ (p : Int) = (k : Int) by omega)]; rfl
end Go.Proofs.Ythmjcbmeiabbgaa
/-
  Layer 10's laws: an empty store with a page of a block.
-/
namespace Go.Proofs.Ythmjcbmeiabbgaa
open Go.RowKit
set_option maxRecDepth 100000

/-- A block's node. -/
def dataN (b : Nat) : NM := ⟨1, b :: List.replicate 15 0, []⟩
theorem dataN_ok (b : Nat) (hb : b < 256) : (dataN b).ok := by
  refine ⟨rfl, rfl, ?_⟩
  intro c hc
  simp only [dataN, List.mem_cons] at hc
  rcases hc with rfl | hc
  · exact hb
  · rw [List.eq_of_mem_replicate hc]; decide
/-- A store with a page of a block, held once. -/
def madeM (s b : Nat) : SM := ⟨((PM.fresh0 s).setSt 0 1).setCnt 0 1, [(0, dataN b)]⟩
theorem fresh0_take (s : Nat) (hs : 0 < s) : (PM.fresh0 s).takeIx = some 0 := by
  have : ∀ n, (PM.fresh0 s).takeN (n + 1) = some 0 := by
    intro n
    induction n with
    | zero => rfl
    | succ n ih => rw [PM.takeN, ih]
  obtain ⟨k, rfl⟩ : ∃ k, s = k + 1 := ⟨s - 1, by omega⟩
  exact this k
theorem make_first (s b : Nat) (hs : 0 < s) : SM.make ⟨PM.fresh0 s, []⟩ (dataN b) = (⟨(PM.fresh0 s).setSt 0 1, [(0, dataN b)]⟩, 0, 0) := by
  unfold SM.make
  rw [if_pos (by rfl), if_neg (by simp [dataN])]
  rw [show (SM.mk (PM.fresh0 s) []).pool.takeIx = some 0 from fresh0_take s hs]
  rfl
theorem hold_first (s b : Nat) (hs : 0 < s) : SM.hold ⟨(PM.fresh0 s).setSt 0 1, [(0, dataN b)]⟩ 0 = (madeM s b, 0) := by
  have hh : ((PM.fresh0 s).setSt 0 1).heldB ((0 : Nat) : Int) = true := by
    rw [heldB_nat]
    simp [PM.live, PM.setSt, PM.fresh0, hs]
  have hh' : ((PM.fresh0 s).setSt 0 1).heldB 0 = true := hh
  unfold SM.hold PM.holdTo PM.holdErr
  dsimp only
  rw [hh']
  rfl

theorem tree_zero : (Try.prog.info? 26).map (·.zero) = some (some (.agg #[.pointer none])) := by kernel_rfl
set_option maxHeartbeats 4000000 in
theorem made10 (x : Int) (h0 : 5 ≤ x) (h1 : x ≤ 1000) (w : World) :
    Calls Try.prog 14 #[.int .i64 x] w fun e w' => ∃ A, e = .returned (.tuple #[.agg #[.pointer (some ⟨A.sb, 0, none⟩)], .int .i64 0]) ∧ StoreAt w' A (madeM (min x 244 - 4).toNat 9) ∧ Kept (fun _ => False) w w' ∧ ∀ k, A.own k → w.heap.size ≤ k := by
  obtain ⟨s, hs⟩ : ∃ s, (min x 244 - 4).toNat = s := ⟨_, rfl⟩
  have hsz : Hid (clampN (max 0 (min x 244 - 4)) = s) := Lib.hid (by unfold clampN; omega)
  have hdn : Hid (max 0 (min x 244) = ((s + 4 : Nat) : Int)) := Lib.hid (by omega)
  have hs0 : 0 < s := by omega
  have hs1 : s ≤ 240 := by omega
  obtain ⟨w1, hw1⟩ : ∃ w1, w.alloc (.cells #[.pointer none] 26) = w1 := ⟨_, rfl⟩
  have k1 := Lib.hid (show Kept (fun _ => False) w w1 by rw [← hw1]; exact (Kept.refl _ _).alloc _)
  have t1 := Lib.hid (show w1.heap[w.heap.size]? = some (.cells #[.pointer none] 26 (0, 0)) by rw [← hw1]; exact heap_alloc_new _ _)
  have z1 : Hid (w1.heap.size = w.heap.size + 1) := Lib.hid (by rw [← hw1]; simp)
  have hw1' := Lib.hid hw1
  have hb1 : Hid (∀ w, (Instr.build 30 #[(0, .int .u8 9)]).run Try.prog w = .ok (.agg (blockCells (dataN 9).block).toArray) w) := Lib.hid (fun w => run_build _ _ _ _ (by kernel_rfl))
  have hb2 : Hid (∀ w, (Instr.build 33 #[(0, .int .i64 1), (1, .agg (blockCells (dataN 9).block).toArray)]).run Try.prog w = .ok (.agg (nodeCells (dataN 9) (.slice none 0 0)).toArray) w) := Lib.hid (fun w => run_build _ _ _ _ (by kernel_rfl))
  obtain ⟨B, hB⟩ : ∃ B, blockCells (dataN 9).block = B := ⟨_, rfl⟩
  obtain ⟨C, hC⟩ : ∃ C, nodeCells (dataN 9) (.slice none 0 0) = C := ⟨_, rfl⟩
  rw [hB] at hb1 hb2
  rw [hC] at hb2
  have hC' := Lib.hid hC
  rw [hs]
  clear hw1 hB hC hs
  go_enter Try.func14, Try.ntmps14
  go_wp2_with (first | (refine wpList_alloc_as 26 rfl rfl #[.pointer none] tree_zero ?_; rw [hw1'.out]))
  refine (diskNew (s + 4) (by omega) x hdn.out _).mono ?_
  rintro e w2 ⟨D, rfl, hD, hDn, hDp, hDo, hk2⟩
  have hD' := Lib.hid hD
  have hDn' := Lib.hid hDn
  have hDp' := Lib.hid hDp
  have hDo' := Lib.hid hDo
  have hk2' := Lib.hid hk2
  clear hD hDn hDp hDo hk2
  go_wp2_with fail
  refine (nodesSize x _ (by omega) h1).mono ?_
  rintro e w3 ⟨rfl, rfl⟩
  go_wp2_with fail
  refine (new_any _ _).mono ?_
  rintro e w3 ⟨c, rfl, hnew⟩
  have hP := hnew.pool
  rw [hsz.out] at hP
  have hP' := Lib.hid hP
  have hck := hnew.new
  have hk3 := Lib.hid hnew.kept
  clear hnew hP
  go_wp2_with fail
  refine (nodesNew (hD'.out.fresh hk3.out) hP'.out hDp'.out (fun e => by have := hD'.out.lt _ e; omega) (.inr (by rw [hDn'.out]; exact Nat.le_refl _))).mono ?_
  rintro e w4 ⟨A, rfl, hA, hk4, hAo⟩
  have hA' := Lib.hid hA
  have hk14 := Lib.hid (((hk2'.out.trans hk3.out).trans hk4))
  have hAo' : Hid (∀ k, A.own k → w1.heap.size ≤ k) := Lib.hid (fun k hk => by
    rcases hAo k hk with rfl | h | h
    · have := hk2'.out.size; omega
    · exact hDo'.out _ h
    · have := hk2'.out.size; have := hk3.out.size; omega)
  have hmk := storeMake (n := dataN 9) (sv := .slice none 0 0) hA ⟨sliceNil (by decide), fun _ b hb => by simp [Value.ownBlock] at hb⟩ rfl (dataN_ok 9 (by decide)).2.2 (by show 0 < 100000000; omega)
  rw [make_first s 9 hs0, hC'.out] at hmk
  have hmk' := Lib.hid hmk
  clear hA hk4 hAo hmk
  go_wp2_with (first | (refine wpList_exec rfl (exec_build 30 #[(0, .const (.int .u8 9))] _ rfl (by simp [Act.eval]) (hb1.out _)) ?_) | (refine wpList_exec rfl (exec_build 33 #[(0, .const (.int .i64 1)), (1, .tmp 18)] _ rfl (by simp [Act.eval, Act.put]) (hb2.out _)) ?_))
  refine hmk'.out.mono ?_
  rintro e w5 ⟨A5, rfl, hT5⟩
  have hsb5 := hT5.sb
  have hh := storeHold hT5.store 0
  rw [hold_first s 9 hs0, hsb5] at hh
  have hh' := Lib.hid hh
  have hT5' := Lib.hid hT5
  clear hh hT5 hsb5
  go_wp2_with fail
  refine hh'.out.mono ?_
  rintro e w6 ⟨rfl, hT6⟩
  have hT := Lib.hid (hT5'.out.trans hT6)
  have t6 := Lib.hid (hT.out.kept.get (hk14.out.get t1.out id) (fun e => by have := hAo'.out _ (.inl e); have := z1.out; omega))
  have hk6 : Hid (Kept (fun _ => False) w w6) := Lib.hid ((k1.out.trans hk14.out).trans_new hT.out.kept (fun i hi e => by have := hAo'.out _ (.inl e); have := z1.out; omega))
  have c6 := cell_of_heap t6.out 0
  have f6 := free_of_heap t6.out 0
  simp at c6
  have hk46 : Hid (∀ k, A5.own k → w.heap.size + 1 ≤ k) := Lib.hid (fun k hk => by
    have hz := z1.out
    have hsz4 := hk14.out.size
    rcases hk with hk | hk | hk
    · rcases hT.out.foot k hk with h | h
      · have := hAo'.out _ (.inl h); omega
      · omega
    · rw [hT.out.fix.2] at hk
      have := hAo'.out _ (.inr (.inl hk)); omega
    · rw [hT.out.fix.1] at hk
      have := hAo'.out _ (.inr (.inr hk)); omega)
  have hsb : A5.sb = A.sb := hT.out.sb
  have hbt : Hid (∀ w, (Instr.build 26 #[(0, .pointer (some ⟨A.sb, 0, none⟩))]).run Try.prog w = .ok (.agg [Value.pointer (some ⟨A.sb, 0, none⟩)].toArray) w) := Lib.hid (fun w => run_build _ _ _ _ (by kernel_rfl))
  clear hT6
  go_wp2_with (first | (refine wpList_exec rfl (exec_build 26 #[(0, .tmp 32)] _ rfl (by simp [Act.eval, Act.put]) (hbt.out _)) ?_) | (refine wpList_store_whole 26 rfl rfl rfl [.pointer (some ⟨A.sb, 0, none⟩)] rfl (by kernel_rfl) 26 #[.pointer none] t6.out rfl (by intro c hc; simp at hc; subst hc; rfl) ?_))
  refine bodyPost_ret (results_row_tmp rfl _ _ w.heap.size 26 #[.pointer (some ⟨A.sb, 0, none⟩)] (0, 0) _ rfl (setRow_heap _ _ _ _ 26 (0, 0) t6.out) Try.underlying26 rfl (by kernel_rfl)) rfl ?_
  have kS := (Kept.refl (fun i => i = w.heap.size) w6).setRow rfl #[.pointer (some ⟨A.sb, 0, none⟩)]
  exact ⟨A5, by rw [hsb]; rfl, hT.out.store.kept kS (fun i hi e => by have := hk46.out i hi; omega), hk6.out.setRowNew (Nat.le_refl _) _, fun k hk => by have := hk46.out k hk; omega⟩
end Go.Proofs.Ythmjcbmeiabbgaa
/-
  Layer 10's laws: the chapter's example.
-/
namespace Go.Proofs.Ythmjcbmeiabbgaa
open Go.RowKit
set_option maxRecDepth 100000

theorem alive10_facts : ∃ M1 M2 : SM, (madeM 16 9).put (-1) 5 0 = (M1, 1, 0) ∧ M1.swap (-1) 1 = (M2, 0) ∧ M2.find 1 5 = (0, 0) ∧ M2.find 1 6 = (-1, 0) :=
  ⟨((madeM 16 9).put (-1) 5 0).1, (((madeM 16 9).put (-1) 5 0).1.swap (-1) 1).1, Prod.ext rfl (by kernel_rfl), Prod.ext rfl (by kernel_rfl), by kernel_rfl, by kernel_rfl⟩
/-- A store that is a call's own. -/
structure OwnStore (w : World) (A : SA) (M : SM) (wr : World) : Prop where
  store : StoreAt wr A M
  kept : Kept (fun _ => False) w wr
  new : ∀ k, A.own k → w.heap.size ≤ k
theorem OwnStore.fresh {w wr w' : World} {A : SA} {M : SM} (h : OwnStore w A M wr) (k : Kept (fun _ => False) wr w') : OwnStore w A M w' := ⟨h.store.fresh k, h.kept.trans k, h.new⟩
theorem OwnStore.to {w wr w' : World} {A A' : SA} {M M' : SM} (h : OwnStore w A M wr) (k : StoreTo A A' M' wr w') : OwnStore w A' M' w' := by
  refine ⟨k.store, h.kept.trans_new k.kept (fun i hi e => by have := h.new _ (.inl e); omega), fun j hj => ?_⟩
  have hsz := h.kept.size
  rcases hj with hj | hj | hj
  · rcases k.foot j hj with e | e
    · exact h.new _ (.inl e)
    · omega
  · rw [k.fix.2] at hj; exact h.new _ (.inr (.inl hj))
  · rw [k.fix.1] at hj; exact h.new _ (.inr (.inr hj))
/-- A tree's variable: a box with its store's address. -/
structure TreeVar (wr : World) (A : SA) (b sb : Nat) : Prop where
  heap : wr.heap[b]? = some (.cells #[.pointer (some ⟨sb, 0, none⟩)] 26 (0, 0))
  safe : Safe wr A b
  eq : A.sb = sb
theorem TreeVar.fresh {wr w' : World} {A : SA} {b sb : Nat} (h : TreeVar wr A b sb) (k : Kept (fun _ => False) wr w') : TreeVar w' A b sb := ⟨k.get h.heap id, h.safe.fresh k, h.eq⟩
theorem TreeVar.to {wr w' : World} {A A' : SA} {M' : SM} {b sb : Nat} (h : TreeVar wr A b sb) (k : StoreTo A A' M' wr w') : TreeVar w' A' b sb := ⟨k.get h.heap h.safe, h.safe.to k, k.sb.trans h.eq⟩
theorem TreeVar.load {wr : World} {A : SA} {b sb : Nat} (h : TreeVar wr A b sb) : ∀ j v, [Value.pointer (some ⟨sb, 0, none⟩)][j]? = some v → wr.cell? ⟨b, 0 + j, none⟩ = some v := fun j v hj => by rw [Nat.zero_add, cell_of_heap h.heap]; simpa using hj
/-- The variable is made, and filled. -/
theorem TreeVar.made {w wr : World} {A : SA} {M : SM} (h : OwnStore w A M wr) {b : Nat} (hb : wr.heap.size = b) :
    OwnStore w A M ((wr.alloc (.cells #[.pointer none] 26)).setRow b #[.pointer (some ⟨A.sb, 0, none⟩)]) ∧ TreeVar ((wr.alloc (.cells #[.pointer none] 26)).setRow b #[.pointer (some ⟨A.sb, 0, none⟩)]) A b A.sb := by
  have k : Kept (fun _ => False) wr ((wr.alloc (.cells #[.pointer none] 26)).setRow b #[.pointer (some ⟨A.sb, 0, none⟩)]) := ((Kept.refl _ _).alloc _).setRowNew (by omega) _
  refine ⟨h.fresh k, ⟨by rw [← hb]; exact setRow_heap _ _ _ _ _ _ (heap_alloc_new _ _), Safe.new h.store (by omega) (by simp [World.setRow]; omega), rfl⟩⟩

set_option maxHeartbeats 4000000 in
theorem alive10 (w : World) : Calls Try.prog 13 #[] w fun e w' => e = .returned (.bool true) ∧ Kept (fun _ => False) w w' := by
  obtain ⟨M1, M2, e1, e2, e3, e4⟩ := alive10_facts
  have hlog : M1.log.length ≤ 23 := by have := put_log (madeM 16 9) (-1) 5 0; rw [e1] at this; exact this
  have hlog2 : M2.log.length ≤ 23 := by have := swap_log M1 (-1) 1; rw [e2] at this; simp only at this; rw [this]; exact hlog
  have hm := made10 20 (by decide) (by decide) w
  rw [show (min (20 : Int) 244 - 4).toNat = 16 from by decide] at hm
  have hm' := Lib.hid hm
  have e1' := Lib.hid e1
  have e2' := Lib.hid e2
  have e3' := Lib.hid e3
  have e4' := Lib.hid e4
  clear e1 e2 e3 e4 hm
  go_enter Try.func13, Try.ntmps13
  go_wp2_with fail
  refine hm'.out.mono ?_
  rintro e w2 ⟨A, rfl, hA, hk, hn⟩
  obtain ⟨b, hb⟩ : ∃ b, w2.heap.size = b := ⟨_, rfl⟩
  have hO := TreeVar.made (b := b) ⟨hA, hk, hn⟩ hb
  obtain ⟨w3, hw3⟩ : ∃ w3, (w2.alloc (.cells #[.pointer none] 26)).setRow b #[.pointer (some ⟨A.sb, 0, none⟩)] = w3 := ⟨_, rfl⟩
  rw [hw3] at hO
  obtain ⟨hO3, hT3⟩ := hO
  have hO3 := Lib.hid hO3
  have hT3 := Lib.hid hT3
  have hw3' := Lib.hid hw3
  have hb' := Lib.hid hb
  obtain ⟨sb, hsb⟩ : ∃ sb, A.sb = sb := ⟨_, rfl⟩
  have c3 := cell_of_heap hT3.out.heap 0
  have hP := treePut hO3.out.store (-1) 5 0 (by show 1 + 30 < 100000000; omega)
  rw [e1'.out, hsb] at hP
  have hP' := Lib.hid hP
  rw [hsb] at hw3' hT3 c3 ⊢
  simp at c3
  clear hA hk hn hw3 hb hP
  go_wp2_with (first | (refine wpList_alloc_as 26 rfl rfl #[.pointer none] tree_zero ?_; rw [hb'.out]) | (refine wpList_store_whole 26 rfl rfl rfl [.pointer (some ⟨sb, 0, none⟩)] rfl (by kernel_rfl) 26 #[.pointer none] (by rw [← hb'.out]; exact heap_alloc_new _ _) rfl (by intro c hc; simp at hc; subst hc; rfl) ?_; rw [hw3'.out]) | (refine wpList_load_agg 26 rfl rfl rfl _ Try.underlying26 rfl [.pointer (some ⟨sb, 0, none⟩)] (by kernel_rfl) hT3.out.load ?_))
  refine hP'.out.mono ?_
  rintro e w4 ⟨A4, rfl, hT4⟩
  have hO4 := Lib.hid (hO3.out.to hT4)
  have hV4 := Lib.hid (hT3.out.to hT4)
  have hS := treeSwap hO4.out.store (-1) 1
  rw [e2'.out, hV4.out.eq] at hS
  have hS' := Lib.hid hS
  clear hT4 hS c3
  go_wp2_with (first | (refine wpList_load_agg 26 rfl rfl rfl _ Try.underlying26 rfl [.pointer (some ⟨sb, 0, none⟩)] (by kernel_rfl) hV4.out.load ?_))
  refine hS'.out.mono ?_
  rintro e w5 ⟨rfl, hT5⟩
  have hO5 := Lib.hid (hO4.out.to hT5)
  have hV5 := Lib.hid (hV4.out.to hT5)
  have hF := treeFind hO5.out.store 1 5
  rw [e3'.out, hV5.out.eq] at hF
  have hF' := Lib.hid hF
  clear hT5 hF
  go_wp2_with (first | (refine wpList_load_agg 26 rfl rfl rfl _ Try.underlying26 rfl [.pointer (some ⟨sb, 0, none⟩)] (by kernel_rfl) hV5.out.load ?_))
  refine hF'.out.mono ?_
  rintro e w6 ⟨rfl, hk6⟩
  have hO6 := Lib.hid (hO5.out.fresh hk6)
  have hV6 := Lib.hid (hV5.out.fresh hk6)
  have hF := treeFind hO6.out.store 1 6
  rw [e4'.out, hV6.out.eq] at hF
  have hF' := Lib.hid hF
  clear hk6 hF
  go_wp2_with (first | (refine wpList_load_agg 26 rfl rfl rfl _ Try.underlying26 rfl [.pointer (some ⟨sb, 0, none⟩)] (by kernel_rfl) hV6.out.load ?_))
  refine hF'.out.mono ?_
  rintro e w7 ⟨rfl, hk7⟩
  have hO7 := Lib.hid (hO6.out.fresh hk7)
  clear hk7
  go_wp2_with fail
  go_ret
  exact ⟨rfl, hO7.out.kept⟩
end Go.Proofs.Ythmjcbmeiabbgaa
/-
  Layer 9's laws: an empty store.
-/
namespace Go.Proofs.Ythmjcbmeiabbgaa
open Go.RowKit
set_option maxRecDepth 100000

/-- An empty store of so many pages. -/
def emptyM (s : Nat) : SM := ⟨PM.fresh0 s, []⟩
set_option maxHeartbeats 4000000 in
theorem made09 (x : Int) (h0 : 4 ≤ x) (h1 : x ≤ 1000) (w : World) :
    Calls Try.prog 31 #[.int .i64 x] w fun e w' => ∃ A, e = .returned (.pointer (some ⟨A.sb, 0, none⟩)) ∧ OwnStore w A (emptyM (min x 244 - 4).toNat) w' := by
  obtain ⟨s, hs⟩ : ∃ s, (min x 244 - 4).toNat = s := ⟨_, rfl⟩
  have hsz : Hid (clampN (max 0 (min x 244 - 4)) = s) := Lib.hid (by unfold clampN; omega)
  have hdn : Hid (max 0 (min x 244) = ((s + 4 : Nat) : Int)) := Lib.hid (by omega)
  have hs1 : s ≤ 240 := by omega
  rw [hs]
  clear hs
  go_enter Try.func31, Try.ntmps31
  go_wp2_with fail
  refine (diskNew (s + 4) (by omega) x hdn.out _).mono ?_
  rintro e w2 ⟨D, rfl, hD, hDn, hDp, hDo, hk2⟩
  have hD' := Lib.hid hD
  have hDn' := Lib.hid hDn
  have hDp' := Lib.hid hDp
  have hDo' := Lib.hid hDo
  have hk2' := Lib.hid hk2
  clear hD hDn hDp hDo hk2
  go_wp2_with fail
  refine (nodesSize x _ (by omega) h1).mono ?_
  rintro e w3 ⟨rfl, rfl⟩
  go_wp2_with fail
  refine (new_any _ _).mono ?_
  rintro e w3 ⟨c, rfl, hnew⟩
  have hP := hnew.pool
  rw [hsz.out] at hP
  have hP' := Lib.hid hP
  have hck := hnew.new
  have hk3 := Lib.hid hnew.kept
  clear hnew hP
  go_wp2_with fail
  refine (nodesNew (hD'.out.fresh hk3.out) hP'.out hDp'.out (fun e => by have := hD'.out.lt _ e; omega) (.inr (by rw [hDn'.out]; exact Nat.le_refl _))).mono ?_
  rintro e w4 ⟨A, rfl, hA, hk4, hAo⟩
  go_wp2_with fail
  go_ret
  refine ⟨A, rfl, hA, (hk2'.out.trans hk3.out).trans hk4, fun k hk => ?_⟩
  rcases hAo k hk with rfl | h | h
  · have := hk2'.out.size; omega
  · exact hDo'.out _ h
  · have := hk2'.out.size; have := hk3.out.size; omega
end Go.Proofs.Ythmjcbmeiabbgaa
/-
  Entries that are written out.
-/
namespace Go.Proofs.Ythmjcbmeiabbgaa
open Go.RowKit
set_option maxRecDepth 100000

/-- Entries that are written out. -/
theorem ents_new {w : World} {A : SA} {M : SM} (h : StoreAt w A M) (l : List (Int × Int)) (hl : l.length ≤ 1000) : StoreAt (w.alloc (.cells (entCells l).toArray 35)) A M ∧ EntsOff (w.alloc (.cells (entCells l).toArray 35)) A (.slice (some ⟨w.heap.size, 0, none⟩) l.length l.length) l := by
  refine ⟨h.fresh ((Kept.refl _ _).alloc _), SliceAt.block_new (heap_alloc_new _ _) (entCells_len _) (by unfold maxLen; omega), fun _ b hb => ?_⟩
  simp [Value.ownBlock] at hb
  subst hb
  exact ⟨by simp, fun e => Nat.lt_irrefl _ (h.lt (.inl e))⟩
end Go.Proofs.Ythmjcbmeiabbgaa
/-
  Layer 9's laws: the chapter's example.
-/
namespace Go.Proofs.Ythmjcbmeiabbgaa
open Go.RowKit
set_option maxRecDepth 100000

theorem exec_eql_block {o : Oper} {a : Act} {w : World} {x y : Operand} {u : TypeId} (ho : o.op = .binOp .eql 30 x y u) (l m : List Nat) (hx : a.eval x = .agg (blockCells l).toArray) (hy : a.eval y = .agg (blockCells m).toArray) :
    (execOp a.eval o).run Try.prog w = .ok (.value (.bool ((List.range 16).all fun i => ((l.getD i 0 : Nat) : Int) == ((m.getD i 0 : Nat) : Int)))) w :=
  exec_eql_arr ho (fun i => ((l.getD i 0 : Nat) : Int)) (fun i => ((m.getD i 0 : Nat) : Int)) hx hy (by kernel_rfl) Try.underlying30 Try.underlying5 (by kernel_rfl)
theorem block_self (l : List Nat) : ((List.range 16).all fun i => ((l.getD i 0 : Nat) : Int) == ((l.getD i 0 : Nat) : Int)) = true := by
  rw [List.all_eq_true]
  intro i _
  exact beq_self_eq_true _
theorem exec_same_block {o : Oper} {a : Act} {w : World} {x y : Operand} {u : TypeId} (ho : o.op = .binOp .eql 30 x y u) (l : List Nat) (hx : a.eval x = .agg (blockCells l).toArray) (hy : a.eval y = .agg (blockCells l).toArray) :
    (execOp a.eval o).run Try.prog w = .ok (.value (.bool true)) w := by rw [exec_eql_block ho l l hx hy, block_self]

def leaf9 : NM := ⟨2, List.replicate 16 0, [(3, 0)]⟩
def m9a : SM := ((emptyM 6).make (dataN 7)).1
def m9b : SM := (m9a.make leaf9).1
def m9c : SM := (m9b.hold 1).1
def m9d : SM := (m9c.drop 1).1
theorem m9_a : (emptyM 6).make (dataN 7) = (m9a, 0, 0) := Prod.ext rfl (by kernel_rfl)
theorem m9_b : m9a.make leaf9 = (m9b, 1, 0) := Prod.ext rfl (by kernel_rfl)
theorem m9_c : m9b.hold 1 = (m9c, 0) := Prod.ext rfl (by kernel_rfl)
theorem m9_r : ∃ l : List Int, m9c.reach [1] = (l, 0) ∧ l.length = 2 := by
  have h : m9c.reachF (1700 + 1) [] [1] = ([1, 0], 0) := by kernel_rfl
  refine ⟨[1, 0].mergeSort leB, ?_, by rw [List.length_mergeSort]; rfl⟩
  unfold SM.reach
  rw [show [(1 : Int)].length = 1 from rfl, h]
  rfl
theorem m9_g : m9c.get 0 = (dataN 7, 0) := by kernel_rfl
theorem m9_d : m9c.drop 1 = (m9d, 0) := Prod.ext rfl (by kernel_rfl)
theorem m9_f : m9d.pool.freeCount = 6 := by kernel_rfl
theorem m9_log : m9a.log.length ≤ 100 := of_decide_eq_true (by kernel_rfl)
set_option maxHeartbeats 4000000 in
theorem alive09 (w : World) : Calls Try.prog 35 #[] w fun e w' => e = .returned (.bool true) ∧ Kept (fun _ => False) w w' := by
  have e1 := m9_a
  have e2 := m9_b
  have e3 := m9_c
  obtain ⟨lr, e4, hlr⟩ := m9_r
  have e5 := m9_g
  have e6 := m9_d
  have e7 := m9_f
  have hl := m9_log
  generalize m9a = M1 at *
  generalize m9b = M2 at *
  generalize m9c = M3 at *
  generalize m9d = M4 at *
  have e1' := Lib.hid e1
  have e2' := Lib.hid e2
  have e3' := Lib.hid e3
  have e4' := Lib.hid e4
  have e5' := Lib.hid e5
  have e6' := Lib.hid e6
  have e7' := Lib.hid e7
  have hm := made09 10 (by decide) (by decide) w
  rw [show (min (10 : Int) 244 - 4).toNat = 6 from by decide] at hm
  have hm' := Lib.hid hm
  have hb1 : Hid (∀ w, (Instr.build 30 #[(0, .int .u8 7)]).run Try.prog w = .ok (.agg (blockCells (dataN 7).block).toArray) w) := Lib.hid (fun w => run_build _ _ _ _ (by kernel_rfl))
  have hb2 : Hid (∀ w, (Instr.build 33 #[(0, .int .i64 1), (1, .agg (blockCells (dataN 7).block).toArray)]).run Try.prog w = .ok (.agg (nodeCells (dataN 7) (.slice none 0 0)).toArray) w) := Lib.hid (fun w => run_build _ _ _ _ (by kernel_rfl))
  obtain ⟨B, hB⟩ : ∃ B, blockCells (dataN 7).block = B := ⟨_, rfl⟩
  obtain ⟨C, hC⟩ : ∃ C, nodeCells (dataN 7) (.slice none 0 0) = C := ⟨_, rfl⟩
  rw [hB] at hb1 hb2
  rw [hC] at hb2
  have hC' := Lib.hid hC
  have hB' := Lib.hid hB
  clear e1 e2 e3 e4 e5 e6 e7 hm hB hC
  go_enter Try.func35, Try.ntmps35
  go_wp2_with fail
  refine hm'.out.mono ?_
  rintro e w2 ⟨A, rfl, hO⟩
  have hO2 := Lib.hid hO
  obtain ⟨sb, hsb⟩ : ∃ sb, A.sb = sb := ⟨_, rfl⟩
  have hmk := storeMake (n := dataN 7) (sv := .slice none 0 0) hO.store ⟨sliceNil (by decide), fun _ b hb => by simp [Value.ownBlock] at hb⟩ rfl (dataN_ok 7 (by decide)).2.2 (by show 0 < 100000000; omega)
  rw [e1'.out, hC'.out, hsb] at hmk
  have hmk' := Lib.hid hmk
  have hpl := storePool hO.store
  rw [hsb] at hpl
  have hpl' := Lib.hid hpl
  have hsb' := Lib.hid hsb
  rw [hsb]
  clear hmk hO hpl hsb
  go_wp2_with fail
  refine hpl'.out.mono ?_
  rintro e w3 ⟨rfl, rfl⟩
  go_wp2_with (first | (refine wpList_exec rfl (exec_build 30 #[(0, .const (.int .u8 7))] _ rfl (by simp [Act.eval]) (hb1.out _)) ?_) | (refine wpList_exec rfl (exec_build 33 #[(0, .const (.int .i64 1)), (1, .tmp 22)] _ rfl (by simp [Act.eval, Act.put]) (hb2.out _)) ?_))
  refine hmk'.out.mono ?_
  rintro e w4 ⟨A4, rfl, hT4⟩
  have hO4 := Lib.hid (hO2.out.to hT4)
  have hsb4 := Lib.hid (hT4.sb.trans hsb'.out)
  clear hT4
  obtain ⟨hS5, hE5⟩ := ents_new hO4.out.store [(3, 0)] (by decide)
  have hmk := storeMake (n := leaf9) hS5 hE5 rfl (fun b hb => by rw [List.eq_of_mem_replicate hb]; decide) (by show M1.log.length < 100000000; omega)
  rw [e2'.out, hsb4.out] at hmk
  obtain ⟨L, hL⟩ : ∃ L, nodeCells leaf9 (.slice (some ⟨w4.heap.size, 0, none⟩) 1 1) = L := ⟨_, rfl⟩
  have hbl : Hid (∀ w, (Instr.build 33 #[(0, .int .i64 2), (2, .slice (some ⟨w4.heap.size, 0, none⟩) 1 1)]).run Try.prog w = .ok (.agg L.toArray) w) := Lib.hid (fun w => by rw [← hL]; exact run_build_part _ _ [(3, 0)] _ _ _)
  have hmk2 : Hid (Calls Try.prog 32 #[.pointer (some ⟨sb, 0, none⟩), .agg L.toArray] (w4.alloc (.cells #[.int .i64 3, .int .i64 0] 35)) fun e w' => ∃ A', e = .returned (.tuple #[.int .i64 1, .int .i64 0]) ∧ StoreTo A4 A' M2 (w4.alloc (.cells #[.int .i64 3, .int .i64 0] 35)) w') := Lib.hid (by rw [← hL]; exact hmk)
  have k4 : Kept (fun _ => False) w4 (w4.alloc (.cells #[.int .i64 3, .int .i64 0] 35)) := (Kept.refl _ _).alloc _
  have k4' := Lib.hid k4
  clear hmk hL hS5 hE5 k4
  go_wp2_with (first | (refine wpList_exec rfl (exec_build 33 #[(0, .const (.int .i64 2)), (2, .tmp 31)] _ rfl (by simp [Act.eval, Act.put]) (hbl.out _)) ?_))
  refine hmk2.out.mono ?_
  rintro e w6 ⟨A6, rfl, hT6⟩
  have hO6 := Lib.hid ((hO4.out.fresh k4'.out).to hT6)
  have hsb6 := Lib.hid (hT6.sb.trans hsb4.out)
  have hh := storeHold hO6.out.store 1
  rw [e3'.out, hsb6.out] at hh
  have hh' := Lib.hid hh
  clear hT6 hh
  go_wp2_with fail
  refine hh'.out.mono ?_
  rintro e w7 ⟨rfl, hT7⟩
  have hO7 := Lib.hid (hO6.out.to hT7)
  have k7 : Kept (fun _ => False) w7 (w7.alloc (.cells #[.int .i64 1] 3)) := (Kept.refl _ _).alloc _
  have hr := reachAny (hO7.out.fresh k7).store (l := [1]) (SliceAt.block_new (heap_alloc_new _ _) rfl (by decide)) (by decide) (by intro x hx; rw [List.mem_singleton] at hx; omega)
  rw [e4'.out, hsb6.out] at hr
  have hr' := Lib.hid hr
  have k7' := Lib.hid k7
  clear hT7 hr k7
  go_wp2_with fail
  refine hr'.out.mono ?_
  rintro e w8 ⟨u8, rfl, hown8, hk8⟩
  obtain ⟨A8, c8, rfl, _⟩ := ownsRow.slice hown8
  have hO8 := Lib.hid ((hO7.out.fresh k7'.out).fresh hk8)
  have hg := get_any hO8.out.store 0
  rw [e5'.out, hsb6.out] at hg
  have hg' := Lib.hid hg
  clear hown8 hk8 hg
  rw [hlr]
  go_wp2_with fail
  refine hg'.out.mono ?_
  rintro e w9 ⟨v9, rfl, hown9, hk9⟩
  obtain ⟨A9, c9, rfl, _⟩ := EntsAt.form (show EntsAt w9 v9 [] from SliceAt.of_owns hown9)
  obtain ⟨Z, hZ⟩ : ∃ Z, nodeCells NM.zero (.slice none 0 0) = Z := ⟨_, rfl⟩
  have hZz : Hid ((Try.prog.info? 33).map (·.zero) = some (some (.agg Z.toArray))) := Lib.hid (by rw [← hZ]; exact node_zero)
  have hZl : Hid (Z.length = 18) := Lib.hid (by rw [← hZ]; exact nodeCells_len _ _)
  obtain ⟨F, hF⟩ : ∃ F, nodeCells (dataN 7) (.slice A9 0 c9) = F := ⟨_, rfl⟩
  have hFl : Hid (F.length = 18) := Lib.hid (by rw [← hF]; exact nodeCells_len _ _)
  have hF1 : Hid (∀ v ∈ F, v.oneCell' = true) := Lib.hid (by rw [← hF]; exact nodeCells_one _ _ _ _)
  obtain ⟨nb, hnb⟩ : ∃ nb, w9.heap.size = nb := ⟨_, rfl⟩
  obtain ⟨w10, hw10⟩ : ∃ w10, (w9.alloc (.cells Z.toArray 33)).setRow nb F.toArray = w10 := ⟨_, rfl⟩
  have k10 : Kept (fun _ => False) w9 w10 := by rw [← hw10]; exact ((Kept.refl _ _).alloc _).setRowNew (by omega) _
  have bx10 : NodeBox w10 nb (dataN 7) (.slice A9 0 c9) := ⟨by rw [hF, ← hw10, ← hnb]; exact setRow_heap _ _ _ _ _ _ (heap_alloc_new _ _)⟩
  have s10 : w10.heap.size = nb + 1 := by rw [← hw10, ← hnb]; simp [World.setRow]
  have hO10 := Lib.hid ((hO8.out.fresh hk9).fresh k10)
  have sf10 := Lib.hid (Safe.new (hO8.out.fresh hk9).store (b := nb) (by omega) (by omega) : Safe w10 A6 nb)
  have hdr := storeDrop hO10.out.store 1
  rw [e6'.out, hsb6.out] at hdr
  have hdr' := Lib.hid hdr
  have bx10' := Lib.hid bx10
  have hnb' := Lib.hid hnb
  have hw10' := Lib.hid hw10
  rw [show nodeCells (dataN 7) (.slice A9 ([] : List (Int × Int)).length c9) = F from hF]
  clear hown9 hk9 hZ hF hnb hw10 k10 bx10 s10 hdr
  go_wp2_with (first | (refine wpList_alloc_as 33 rfl rfl Z.toArray hZz.out ?_; rw [hnb'.out]) | (refine wpList_store_whole 33 rfl rfl rfl F rfl (by rw [hFl.out]; exact node_size) 33 _ (by rw [← hnb'.out]; exact heap_alloc_new _ _) (by simp [hFl.out, hZl.out]) hF1.out ?_; rw [hw10'.out]))
  refine hdr'.out.mono ?_
  rintro e w11 ⟨rfl, hT11⟩
  have hO11 := Lib.hid (hO10.out.to hT11)
  have bx11 : NodeBox w11 nb (dataN 7) (.slice A9 0 c9) := ⟨hT11.get bx10'.out.heap sf10.out⟩
  have hcb := bx11.cb
  rw [hB'.out] at hcb
  have hcb' := Lib.hid hcb
  have hBl : Hid (B.length = 16) := Lib.hid (by rw [← hB'.out]; exact blockCells_len _)
  have hpl := storePool hO11.out.store
  rw [hsb6.out] at hpl
  have hpl' := Lib.hid hpl
  clear hT11 bx11 hcb hpl
  go_wp2_with (first | (refine wpList_exec_g (by rfl) (exec_load_agg rfl (by rfl) B Try.underlying30 rfl (by rw [hBl.out]; exact block_size) hcb'.out) ?_) | (refine wpList_exec_g (by rfl) (exec_build 30 #[(0, .const (.int .u8 7))] _ rfl (by simp [Act.eval]) (hb1.out _)) ?_) | (refine wpList_exec_g (by rfl) (exec_same_block rfl (dataN 7).block (by rw [hB'.out]; rfl) (by rw [hB'.out]; rfl)) ?_))
  refine hpl'.out.mono ?_
  rintro e w12 ⟨rfl, rfl⟩
  go_wp2_with fail
  refine (freeCount_any hO11.out.store.pool).mono ?_
  rintro e w12 ⟨rfl, rfl⟩
  rw [e7'.out]
  go_wp2_with fail
  go_ret
  exact ⟨rfl, hO11.out.kept⟩
end Go.Proofs.Ythmjcbmeiabbgaa
/-
  The document's answer: are two lists of entries the same?
-/
namespace Go.Proofs.Ythmjcbmeiabbgaa
open Go.RowKit
set_option maxRecDepth 100000

theorem run_equalIn_entry (d : Nat) (p q : Int × Int) (w : World) : (Op.equalIn (d + 2) 35 (.agg #[.int .i64 p.1, .int .i64 p.2]) (.agg #[.int .i64 q.1, .int .i64 q.2])).run Try.prog w = .ok (decide (p = q)) w := by
  obtain ⟨p1, p2⟩ := p
  obtain ⟨q1, q2⟩ := q
  have hi : ∀ w, (isAgg 3).run Try.prog w = .ok false w := fun w => by
    unfold isAgg
    rw [Sem.run_bind, run_underlying Try.underlying3 w]
    rfl
  have hS : Try.prog.underlying 35 = some (.struct (Try.prog.fieldsOf 35)) := by kernel_rfl
  have hp : Try.prog.stoodInHeld 35 = false := by kernel_rfl
  have hq : ∀ (a b : Int) w, (Op.equalIn (d + 1) 3 (.int .i64 a) (.int .i64 b)).run Try.prog w = .ok (a == b) w := fun a b w => run_equalIn_int w d 3 .i64 .i64 a b Try.underlying3
  rw [run_equalIn_struct w (d + 1) 35 _ _ hS hp]
  simp only [Program.fieldsOf, Try.underlying35]
  by_cases h1 : p1 = q1
  · by_cases h2 : p2 = q2
    · simp [Op.eqFields, part, hi, hq, h1, h2]
    · simp [Op.eqFields, part, hi, hq, h1, h2]
  · simp [Op.eqFields, part, hi, hq, h1]
theorem exec_neq_entry {o : Oper} {a : Act} {x y : Operand} {u : TypeId} (ho : o.op = .binOp .neq 35 x y u) (p q : Int × Int) (hx : a.eval x = .agg #[.int .i64 p.1, .int .i64 p.2]) (hy : a.eval y = .agg #[.int .i64 q.1, .int .i64 q.2]) (w : World) :
    (execOp a.eval o).run Try.prog w = .ok (.value (.bool (!decide (p = q)))) w := by
  unfold execOp
  have hm : Try.prog.eqGuardType Try.prog.depth 35 = false := by kernel_rfl
  have he := run_equalIn_entry 9998 p q w
  simp only [ho, hx, hy, Sem.run_bind, run_eqGuard_agg (hm := hm), Result.andThen_ok, run_neq_struct, he]
  rfl

set_option maxHeartbeats 4000000 in
theorem same10 {w : World} {va vb : Value} {a b : List (Int × Int)} (ha : EntsAt w va a) (hb : EntsAt w vb b) (hla : a.length ≤ 1000000) :
    Calls Try.prog 17 #[va, vb] w fun e w' => e = .returned (.bool (decide (a = b))) ∧ Kept (fun _ => False) w w' := by
  obtain ⟨Aa, ca, rfl, ha1, ha2⟩ := ha.form
  obtain ⟨Ab, cb, rfl, hb1, hb2⟩ := hb.form
  unfold maxLen at ha2 hb2
  by_cases hlen : a.length = b.length
  · have hb' : EntsAt w (.slice Ab a.length cb) b := by rw [hlen]; exact hb
    have hr : Hid ((∀ k, k < a.length → a[k]? = b[k]?) → a = b) := Lib.hid (fun h => List.ext_getElem? fun k => by
      by_cases hk : k < a.length
      · exact h k hk
      · rw [List.getElem?_eq_none (by omega), List.getElem?_eq_none (by omega)])
    have hn : Hid (∀ (k : Nat) (x y : Int × Int), a[k]? = some x → b[k]? = some y → x ≠ y → a ≠ b) := Lib.hid (fun k x y hx hy hne e => by subst e; rw [hx] at hy; cases hy; exact hne rfl)
    have hlb : Hid (∀ k, k < a.length → ∃ y, b[k]? = some y) := Lib.hid (fun k hk => ⟨_, List.getElem?_eq_getElem (by omega)⟩)
    rw [← hlen] at hb1 ⊢
    have ha' := Lib.hid ha
    have hb'' := Lib.hid hb'
    clear ha hb hb' hlen
    go_enter Try.func17, Try.ntmps17
    go_wp2_with fail
    go_loopw [13] (fun i wr => ∃ k : Nat, k ≤ a.length ∧ i = .int .i64 k ∧ Hid (∀ j, j < k → a[j]? = b[j]?) ∧ Kept (fun _ => False) w wr) (fun i _ => a.length - (intOf i).toNat)
    case atStart => exact ⟨0, Nat.zero_le _, rfl, Lib.hid (fun j hj => by omega), Kept.refl _ _⟩
    case round =>
      obtain ⟨k, hk, rfl, hpre, hkk⟩ := hrel
      by_cases hlt : k < a.length
      · obtain ⟨x, hx⟩ : ∃ x, a[k]? = some x := ⟨_, List.getElem?_eq_getElem hlt⟩
        obtain ⟨y, hy⟩ := hlb.out k hlt
        obtain ⟨ba, oa, rfl, hba, hx1, hx2⟩ := EntsAt.get (SliceAt.fresh ha'.out hkk) hx
        obtain ⟨bb, ob, rfl, hbb, hy1, hy2⟩ := EntsAt.get (SliceAt.fresh hb''.out hkk) hy
        have hki : (k : Int) < (a.length : Int) := by omega
        have lx : Hid (∀ W, Kept (fun _ => False) wr W → ∀ j v, [Value.int .i64 x.1, .int .i64 x.2][j]? = some v → W.cell? ⟨ba, oa + k * 2 + j, none⟩ = some v) := Lib.hid (fun W hW j v hj => by
          match j, hj with
          | 0, hj => cases hj; exact hW.cell hx1 id
          | 1, hj => cases hj; exact hW.cell hx2 id)
        have ly : Hid (∀ W, Kept (fun _ => False) wr W → ∀ j v, [Value.int .i64 y.1, .int .i64 y.2][j]? = some v → W.cell? ⟨bb, ob + k * 2 + j, none⟩ = some v) := Lib.hid (fun W hW j v hj => by
          match j, hj with
          | 0, hj => cases hj; exact hW.cell hy1 id
          | 1, hj => cases hj; exact hW.cell hy2 id)
        have hx' := Lib.hid hx
        have hy' := Lib.hid hy
        have hkk' := Lib.hid hkk
        clear hx hy hx1 hx2 hy1 hy2 hkk
        go_wp2_with fail
        refine wp_region_quiet (C := fun w' => Kept (fun _ => False) wr w') (by kernel_rfl) (by kernel_rfl) (Kept.refl _ _).drew ?_
        refine wpQuiet_step (fun K hK => ?_); go_simp; refine ⟨_, fun _ _ => rfl, hK _ ?_⟩; clear hK K
        refine wpQuiet_step (fun K hK => ?_); go_simp; refine ⟨_, fun _ _ => rfl, hK _ ?_⟩; clear hK K
        refine wpQuiet_step (fun K hK => ?_); go_simp; refine ⟨_, fun _ _ => rfl, hK _ ?_⟩; clear hK K
        refine wpQuiet_step (fun K hK => ?_); refine q_on rfl (q_val (.agg [Value.int .i64 x.1, .int .i64 x.2].toArray) (fun W hW => exec_load_agg (g := ba) (off := oa + k * 2) rfl rfl [.int .i64 x.1, .int .i64 x.2] Try.underlying35 rfl (by kernel_rfl) (lx.out W hW)) (hK _ ?_)); clear hK K
        refine wpQuiet_step (fun K hK => ?_); go_simp; refine ⟨_, fun _ _ => rfl, hK _ ?_⟩; clear hK K
        refine wpQuiet_step (fun K hK => ?_); go_simp; refine ⟨_, fun _ _ => rfl, hK _ ?_⟩; clear hK K
        refine wpQuiet_step (fun K hK => ?_); go_simp; refine ⟨_, fun _ _ => rfl, hK _ ?_⟩; clear hK K
        refine wpQuiet_step (fun K hK => ?_); refine q_on rfl (q_val (.agg [Value.int .i64 y.1, .int .i64 y.2].toArray) (fun W hW => exec_load_agg (g := bb) (off := ob + k * 2) rfl rfl [.int .i64 y.1, .int .i64 y.2] Try.underlying35 rfl (by kernel_rfl) (ly.out W hW)) (hK _ ?_)); clear hK K
        obtain ⟨z, hz⟩ : ∃ z, decide (x = y) = z := ⟨_, rfl⟩
        refine wpQuiet_step (fun K hK => ?_); refine q_on rfl (q_val (.bool (!z)) (fun W hW => by rw [← hz]; exact exec_neq_entry rfl x y rfl rfl W) (hK _ ?_)); clear hK K
        refine wpQuiet_nil ?_
        intro w9 hw9
        have hw9' := Lib.hid hw9
        clear hw9 lx ly
        cases z with
        | true =>
          have hxy := of_decide_eq_true hz
          clear hz
          go_wp2_with fail
          go_roundw
          case rel => exact ⟨k + 1, by omega, by go_num, Lib.hid (fun j hj => by
            by_cases e : j = k
            · rw [e, hx'.out, hy'.out, hxy]
            · exact hpre.out j (by omega)), hkk'.out.trans hw9'.out⟩
          case measure => simp [intOf]; omega
        | false =>
          have he : Hid (decide (a = b) = false) := Lib.hid (by rw [decide_eq_false_iff_not]; exact hn.out k x y hx'.out hy'.out (of_decide_eq_false hz))
          clear hz
          go_wp2_with fail
          go_ret
          exact ⟨by rw [he.out]; rfl, hkk'.out.trans hw9'.out⟩
      · obtain rfl : k = a.length := by omega
        have he : Hid (decide (a = b) = true) := Lib.hid (by simpa using hr.out hpre.out)
        go_wp2_with fail
        go_ret
        exact ⟨by rw [he.out]; rfl, hkk⟩
  · have he : Hid (decide (a = b) = false) := Lib.hid (by rw [decide_eq_false_iff_not]; exact fun e => hlen (by rw [e]))
    clear ha hb
    go_enter Try.func17, Try.ntmps17
    go_wp2_with fail
    go_ret
    exact ⟨by rw [he.out]; rfl, Kept.refl _ _⟩
end Go.Proofs.Ythmjcbmeiabbgaa
/-
  The document's answer for nodes: which can be, which are the same.
-/
namespace Go.Proofs.Ythmjcbmeiabbgaa
open Go.RowKit
set_option maxRecDepth 100000

theorem exec_neq_block {o : Oper} {a : Act} {w : World} {x y : Operand} {u : TypeId} (ho : o.op = .binOp .neq 30 x y u) (l m : List Nat) (hx : a.eval x = .agg (blockCells l).toArray) (hy : a.eval y = .agg (blockCells m).toArray) :
    (execOp a.eval o).run Try.prog w = .ok (.value (.bool (!((List.range 16).all fun i => ((l.getD i 0 : Nat) : Int) == ((m.getD i 0 : Nat) : Int))))) w := by
  have hm : Try.prog.eqGuardType Try.prog.depth 30 = false := by kernel_rfl
  have h := run_neq_arr (P := Try.prog) (t := 30) (e := 5) (k := .u8) (len := 16) Try.underlying30 Try.underlying5 (by kernel_rfl) (fun i => ((l.getD i 0 : Nat) : Int)) (fun i => ((m.getD i 0 : Nat) : Int)) w
  unfold execOp
  simp only [ho, hx, hy, Sem.run_bind, run_eqGuard_agg (hm := hm), Result.andThen_ok, blockCells, h]
  rfl
theorem exec_neq_zero {o : Oper} {a : Act} {w : World} {x y : Operand} {u : TypeId} (ho : o.op = .binOp .neq 30 x y u) (l : List Nat) (hx : a.eval x = .agg (blockCells l).toArray) (hy : a.eval y = .agg (blockCells []).toArray) {z : Bool} (hz : zeroB l = z) :
    (execOp a.eval o).run Try.prog w = .ok (.value (.bool (!z))) w := by
  rw [exec_neq_block ho l [] hx hy]
  unfold zeroB at hz
  have : (List.range 16).all (fun i => ((l.getD i 0 : Nat) : Int) == ((([] : List Nat).getD i 0 : Nat) : Int)) = (List.range 16).all (fun i => ((l.getD i 0 : Nat) : Int) == 0) := by
    congr 1
  rw [this, hz]
theorem exec_neq_same {o : Oper} {a : Act} {w : World} {x y : Operand} {u : TypeId} (ho : o.op = .binOp .neq 30 x y u) (l : List Nat) (hx : a.eval x = .agg (blockCells l).toArray) (hy : a.eval y = .agg (blockCells l).toArray) :
    (execOp a.eval o).run Try.prog w = .ok (.value (.bool false)) w := by rw [exec_neq_block ho l l hx hy, block_self]; rfl
/-- The key ahead of an entry, or -1. -/
def lastK (l : List (Int × Int)) (k : Nat) : Int := if k = 0 then -1 else (l.getD (k - 1) (0, 0)).1
theorem entB_last {l : List (Int × Int)} {k : Nat} {x : Int × Int} (hx : l[k]? = some x) (hpre : ∀ j, j < k → entB l j = true) :
    entB l k = !(decide (x.1 ≤ lastK l k) || decide (63 < x.1) || decide (x.2 < 0) || decide (239 < x.2)) := by
  have hl : 0 < k → 0 ≤ lastK l k := fun h0 => by
    have := hpre (k - 1) (by omega)
    have hk := (List.getElem?_eq_some_iff.1 hx).1
    unfold entB at this
    rw [List.getElem?_eq_getElem (by omega : k - 1 < l.length)] at this
    simp only [Bool.and_eq_true, decide_eq_true_eq] at this
    unfold lastK
    rw [if_neg (by omega)]
    have e : l.getD (k - 1) (0, 0) = l[k - 1] := by simp [List.getD, List.getElem?_eq_getElem (by omega : k - 1 < l.length)]
    rw [e]; exact this.1.1.1.1
  unfold entB
  rw [hx, Bool.eq_iff_iff]
  by_cases h0 : k = 0
  · subst h0
    have : lastK l 0 = -1 := rfl
    simp [this]
    omega
  · have h1 := hl (by omega)
    have h2 : lastK l k = (l.getD (k - 1) (0, 0)).1 := by unfold lastK; rw [if_neg h0]
    have h3 : (k == 0) = false := by simpa using h0
    rw [h3, ← h2]
    simp
    omega

set_option maxHeartbeats 4000000 in
theorem right08 {w : World} {n : NM} {sv : Value} (h : EntsAt w sv n.ents) (hb : n.block.length = 16) (hlen : n.ents.length ≤ 1000) :
    Calls Try.prog 37 #[.agg (nodeCells n sv).toArray] w fun e w' => e = .returned (.bool n.rightB) ∧ Kept (fun _ => False) w w' := by
  obtain ⟨A, cap, rfl, hc1, hc2⟩ := h.form
  unfold maxLen at hc2
  obtain ⟨w1, hw1⟩ : ∃ w1, w.alloc (.cells (nodeCells n (.slice A n.ents.length cap)).toArray 33) = w1 := ⟨_, rfl⟩
  have hk1 : Hid (Kept (fun _ => False) w w1) := Lib.hid (by rw [← hw1]; exact (Kept.refl _ _).alloc _)
  have hbx : NodeBox w1 w.heap.size n (.slice A n.ents.length cap) := ⟨by rw [← hw1]; exact heap_alloc_new _ _⟩
  have c0 := hbx.c0
  have c17 := hbx.c17
  have cb := Lib.hid hbx.cb
  have hbx' := Lib.hid hbx
  have h1 := Lib.hid (SliceAt.fresh h hk1.out)
  have hw1' := Lib.hid hw1
  have hbz : Hid (∀ w, (Instr.build 30 #[]).run Try.prog w = .ok (.agg (blockCells []).toArray) w) := Lib.hid (fun w => run_build _ _ _ _ (by kernel_rfl))
  clear hw1 hbx h
  by_cases k1 : n.kind = 1
  · have hR : Hid (n.rightB = (n.ents.length == 0)) := Lib.hid (by unfold NM.rightB; rw [if_pos k1])
    rw [k1] at c0
    clear k1
    go_enter Try.func37, Try.ntmps37
    go_wp2_with (refine wpList_box_named 33 rfl rfl _ rfl hw1'.out ?_)
    go_ret
    refine ⟨?_, hk1.out⟩
    rw [hR.out]
    exact ret_bool (by rw [Bool.eq_iff_iff]; simp)
  · by_cases k2 : n.kind = 2 ∨ n.kind = 3
    · have hR : Hid (n.rightB = (zeroB n.block && risesB n.ents)) := Lib.hid (by unfold NM.rightB; rw [if_neg k1, if_pos k2, zeroB_all _ hb])
      obtain ⟨z, hz⟩ : ∃ z, zeroB n.block = z := ⟨_, rfl⟩
      rw [hz] at hR
      have hz' := Lib.hid hz; clear hz
      by_cases h6 : 1 ≤ n.ents.length ∧ n.ents.length ≤ 6
      · obtain ⟨h61, h66⟩ := h6
        cases z with
        | false =>
          rcases k2 with k2 | k2
          all_goals
            rw [k2] at c0
            clear k1 k2
            go_enter Try.func37, Try.ntmps37
            go_wp2_with (first | (refine wpList_box_named 33 rfl rfl _ rfl hw1'.out ?_) | (refine wpList_exec_g (by rfl) (exec_load_agg rfl (by rfl) (blockCells n.block) Try.underlying30 rfl (by rw [blockCells_len]; exact block_size) cb.out) ?_) | (refine wpList_exec_g (by rfl) (exec_build 30 #[] _ rfl (by simp) (hbz.out _)) ?_) | (refine wpList_exec_g (by rfl) (exec_neq_zero rfl n.block (by rfl) (by rfl) hz'.out) ?_))
            go_ret
            exact ⟨by rw [hR.out]; rfl, hk1.out⟩
        | true =>
          have hl1 : ¬ ((n.ents.length : Int) < 1) := by omega
          have hl6 : ¬ ((6 : Int) < (n.ents.length : Int)) := by omega
          have hl1b : decide ((n.ents.length : Int) < 1) = false := decide_eq_false hl1
          have hl6b : decide ((6 : Int) < (n.ents.length : Int)) = false := decide_eq_false hl6
          rcases k2 with k2 | k2
          all_goals
            rw [k2] at c0
            clear k1 k2
            go_enter Try.func37, Try.ntmps37
            go_wp2_with (first | (refine wpList_box_named 33 rfl rfl _ rfl hw1'.out ?_) | (refine wpList_exec_g (by rfl) (exec_load_agg rfl (by rfl) (blockCells n.block) Try.underlying30 rfl (by rw [blockCells_len]; exact block_size) cb.out) ?_) | (refine wpList_exec_g (by rfl) (exec_build 30 #[] _ rfl (by simp) (hbz.out _)) ?_) | (refine wpList_exec_g (by rfl) (exec_neq_zero rfl n.block (by rfl) (by rfl) hz'.out) ?_))
            go_loopw [3, 42] (fun v x wr => ∃ k : Nat, k ≤ n.ents.length ∧ v = .int .i64 (lastK n.ents k) ∧ x = .int .i64 k ∧ Hid (∀ j, j < k → entB n.ents j = true) ∧ Hid (Kept (fun _ => False) w1 wr)) (fun _ x _ => n.ents.length - (intOf x).toNat)
            case atStart => exact ⟨0, Nat.zero_le _, rfl, rfl, Lib.hid (fun j hj => by omega), Lib.hid (Kept.refl _ _)⟩
            case round =>
              obtain ⟨k, hk, rfl, rfl, hpre, hkr⟩ := hrel
              obtain ⟨la, hla⟩ : ∃ la, lastK n.ents k = la := ⟨_, rfl⟩
              rw [hla]
              have hla' := Lib.hid hla
              clear hla
              by_cases hlt : k < n.ents.length
              · obtain ⟨x, hx⟩ : ∃ x, n.ents[k]? = some x := ⟨_, List.getElem?_eq_getElem hlt⟩
                obtain ⟨b, off, rfl, hbl, hx1, hx2⟩ := EntsAt.get (SliceAt.fresh h1.out hkr.out) hx
                have hki : (k : Int) < (n.ents.length : Int) := by omega
                have lx : Hid (∀ j v, [Value.int .i64 x.1, .int .i64 x.2][j]? = some v → wr.cell? ⟨b, off + k * 2 + j, none⟩ = some v) := Lib.hid (fun j v hj => by
                  match j, hj with
                  | 0, hj => cases hj; exact hx1
                  | 1, hj => cases hj; exact hx2)
                obtain ⟨eb, heb⟩ : ∃ eb, wr.heap.size = eb := ⟨_, rfl⟩
                obtain ⟨w2, hw2⟩ : ∃ w2, (wr.alloc (.cells #[.int .i64 0, .int .i64 0] 35)).setRow eb #[.int .i64 x.1, .int .i64 x.2] = w2 := ⟨_, rfl⟩
                have k2 : Kept (fun _ => False) wr w2 := by rw [← hw2]; exact ((Kept.refl _ _).alloc _).setRowNew (by omega) _
                have x2 : w2.heap[eb]? = some (.cells #[.int .i64 x.1, .int .i64 x.2] 35 (0, 0)) := by rw [← hw2, ← heb]; exact setRow_heap _ _ _ _ _ _ (heap_alloc_new _ _)
                have ce0 := cell_of_heap x2 0
                have ce1 := cell_of_heap x2 1
                simp at ce0 ce1
                have hb := entB_last hx hpre.out
                rw [hla'.out] at hb
                have hb' := Lib.hid hb
                have hw2' := Lib.hid hw2
                have heb' := Lib.hid heb
                have hk2 := Lib.hid (hkr.out.trans k2)
                have hx' := Lib.hid hx
                have hnext : Hid (lastK n.ents (k + 1) = x.1) := Lib.hid (by unfold lastK; rw [if_neg (by omega), Nat.add_sub_cancel]; simp [hx])
                obtain ⟨x0, x1⟩ := x
                dsimp only at *
                clear hx hx1 hx2 hw2 heb k2 x2 hb
                by_cases q1 : x0 ≤ la
                · have hbad : Hid (n.rightB = false) := Lib.hid (by rw [hR.out, risesB_bad (k := k) hlt (by rw [hb'.out]; simp [q1]), Bool.and_false])
                  go_wp2_with (first | (refine wpList_alloc_as 35 rfl rfl #[.int .i64 0, .int .i64 0] entry_zero ?_; rw [heb'.out]) | (refine wpList_load_agg 35 rfl rfl rfl _ Try.underlying35 rfl [.int .i64 x0, .int .i64 x1] (by kernel_rfl) lx.out ?_) | (refine wpList_store_whole 35 rfl rfl rfl [.int .i64 x0, .int .i64 x1] rfl entry_size 35 #[.int .i64 0, .int .i64 0] (by rw [← heb'.out]; exact heap_alloc_new _ _) rfl (by intro c hc; simp at hc; rcases hc with rfl | rfl <;> rfl) ?_; rw [hw2'.out]))
                  go_ret
                  exact ⟨by rw [hbad.out]; rfl, hk1.out.trans hk2.out⟩
                by_cases q2 : 63 < x0
                · have hbad : Hid (n.rightB = false) := Lib.hid (by rw [hR.out, risesB_bad (k := k) hlt (by rw [hb'.out]; simp [q2]), Bool.and_false])
                  go_wp2_with (first | (refine wpList_alloc_as 35 rfl rfl #[.int .i64 0, .int .i64 0] entry_zero ?_; rw [heb'.out]) | (refine wpList_load_agg 35 rfl rfl rfl _ Try.underlying35 rfl [.int .i64 x0, .int .i64 x1] (by kernel_rfl) lx.out ?_) | (refine wpList_store_whole 35 rfl rfl rfl [.int .i64 x0, .int .i64 x1] rfl entry_size 35 #[.int .i64 0, .int .i64 0] (by rw [← heb'.out]; exact heap_alloc_new _ _) rfl (by intro c hc; simp at hc; rcases hc with rfl | rfl <;> rfl) ?_; rw [hw2'.out]))
                  go_ret
                  exact ⟨by rw [hbad.out]; rfl, hk1.out.trans hk2.out⟩
                by_cases q3 : x1 < 0
                · have hbad : Hid (n.rightB = false) := Lib.hid (by rw [hR.out, risesB_bad (k := k) hlt (by rw [hb'.out]; simp [q3]), Bool.and_false])
                  go_wp2_with (first | (refine wpList_alloc_as 35 rfl rfl #[.int .i64 0, .int .i64 0] entry_zero ?_; rw [heb'.out]) | (refine wpList_load_agg 35 rfl rfl rfl _ Try.underlying35 rfl [.int .i64 x0, .int .i64 x1] (by kernel_rfl) lx.out ?_) | (refine wpList_store_whole 35 rfl rfl rfl [.int .i64 x0, .int .i64 x1] rfl entry_size 35 #[.int .i64 0, .int .i64 0] (by rw [← heb'.out]; exact heap_alloc_new _ _) rfl (by intro c hc; simp at hc; rcases hc with rfl | rfl <;> rfl) ?_; rw [hw2'.out]))
                  go_ret
                  exact ⟨by rw [hbad.out]; rfl, hk1.out.trans hk2.out⟩
                by_cases q4 : 239 < x1
                · have hbad : Hid (n.rightB = false) := Lib.hid (by rw [hR.out, risesB_bad (k := k) hlt (by rw [hb'.out]; simp [q4]), Bool.and_false])
                  go_wp2_with (first | (refine wpList_alloc_as 35 rfl rfl #[.int .i64 0, .int .i64 0] entry_zero ?_; rw [heb'.out]) | (refine wpList_load_agg 35 rfl rfl rfl _ Try.underlying35 rfl [.int .i64 x0, .int .i64 x1] (by kernel_rfl) lx.out ?_) | (refine wpList_store_whole 35 rfl rfl rfl [.int .i64 x0, .int .i64 x1] rfl entry_size 35 #[.int .i64 0, .int .i64 0] (by rw [← heb'.out]; exact heap_alloc_new _ _) rfl (by intro c hc; simp at hc; rcases hc with rfl | rfl <;> rfl) ?_; rw [hw2'.out]))
                  go_ret
                  exact ⟨by rw [hbad.out]; rfl, hk1.out.trans hk2.out⟩
                · have hgood : Hid (∀ j, j < k + 1 → entB n.ents j = true) := Lib.hid (fun j hj => by
                    by_cases e : j = k
                    · rw [e, hb'.out]; simp [q1, q2, q3, q4]
                    · exact hpre.out j (by omega))
                  go_wp2_with (first | (refine wpList_alloc_as 35 rfl rfl #[.int .i64 0, .int .i64 0] entry_zero ?_; rw [heb'.out]) | (refine wpList_load_agg 35 rfl rfl rfl _ Try.underlying35 rfl [.int .i64 x0, .int .i64 x1] (by kernel_rfl) lx.out ?_) | (refine wpList_store_whole 35 rfl rfl rfl [.int .i64 x0, .int .i64 x1] rfl entry_size 35 #[.int .i64 0, .int .i64 0] (by rw [← heb'.out]; exact heap_alloc_new _ _) rfl (by intro c hc; simp at hc; rcases hc with rfl | rfl <;> rfl) ?_; rw [hw2'.out]))
                  go_roundw
                  case rel => exact ⟨k + 1, by omega, by rw [hnext.out], by go_num, hgood, hk2⟩
                  case measure => simp [intOf]; omega
              · obtain rfl : k = n.ents.length := by omega
                have hgood : Hid (n.rightB = true) := Lib.hid (by
                  rw [hR.out, risesB_all (fun i hi => hpre.out i hi)]
                  simp [h61, h66])
                go_wp2_with fail
                go_ret
                exact ⟨by rw [hgood.out]; rfl, hk1.out.trans hkr.out⟩
      · have hR2 : Hid (n.rightB = false) := Lib.hid (by
          rw [hR.out]
          have : risesB n.ents = false := by unfold risesB; simp only [Bool.and_eq_false_iff, decide_eq_false_iff_not]; omega
          rw [this, Bool.and_false])
        by_cases h61 : n.ents.length < 1
        · have hl1 : (n.ents.length : Int) < 1 := by omega
          have hl1b : decide ((n.ents.length : Int) < 1) = true := decide_eq_true hl1
          have hl0 : n.ents.length = 0 := by omega
          clear h6
          rw [hl0] at c17
          cases z
          all_goals
            rcases k2 with k2 | k2
            all_goals
              rw [k2] at c0
              clear k1 k2
              go_enter Try.func37, Try.ntmps37
              go_wp2_with (first | (refine wpList_box_named 33 rfl rfl _ rfl hw1'.out ?_) | (refine wpList_exec_g (by rfl) (exec_load_agg rfl (by rfl) (blockCells n.block) Try.underlying30 rfl (by rw [blockCells_len]; exact block_size) cb.out) ?_) | (refine wpList_exec_g (by rfl) (exec_build 30 #[] _ rfl (by simp) (hbz.out _)) ?_) | (refine wpList_exec_g (by rfl) (exec_neq_zero rfl n.block (by rfl) (by rfl) hz'.out) ?_))
              go_ret
              exact ⟨by rw [hR2.out]; rfl, hk1.out⟩
        · have hl1 : ¬ ((n.ents.length : Int) < 1) := by omega
          have hl6 : (6 : Int) < (n.ents.length : Int) := by omega
          have hl1b : decide ((n.ents.length : Int) < 1) = false := decide_eq_false hl1
          have hl6b : decide ((6 : Int) < (n.ents.length : Int)) = true := decide_eq_true hl6
          clear h6
          cases z
          all_goals
            rcases k2 with k2 | k2
            all_goals
              rw [k2] at c0
              clear k1 k2
              go_enter Try.func37, Try.ntmps37
              go_wp2_with (first | (refine wpList_box_named 33 rfl rfl _ rfl hw1'.out ?_) | (refine wpList_exec_g (by rfl) (exec_load_agg rfl (by rfl) (blockCells n.block) Try.underlying30 rfl (by rw [blockCells_len]; exact block_size) cb.out) ?_) | (refine wpList_exec_g (by rfl) (exec_build 30 #[] _ rfl (by simp) (hbz.out _)) ?_) | (refine wpList_exec_g (by rfl) (exec_neq_zero rfl n.block (by rfl) (by rfl) hz'.out) ?_))
              go_ret
              exact ⟨by rw [hR2.out]; rfl, hk1.out⟩
    · have hR : Hid (n.rightB = false) := Lib.hid (by unfold NM.rightB; rw [if_neg k1, if_neg k2])
      have n1 : (n.kind == 1) = false := by simpa using k1
      have n2 : (n.kind == 2) = false := by simp; omega
      have n3 : (n.kind == 3) = false := by simp; omega
      have m2 : (n.kind != 2) = true := by rw [bne, n2]; rfl
      have m3 : (n.kind != 3) = true := by rw [bne, n3]; rfl
      clear k1 k2
      go_enter Try.func37, Try.ntmps37
      go_wp2_with (refine wpList_box_named 33 rfl rfl _ rfl hw1'.out ?_)
      go_ret
      exact ⟨by rw [hR.out]; rfl, hk1.out⟩
end Go.Proofs.Ythmjcbmeiabbgaa
/-
  The document's answer for nodes: one that is as it was made is the same.
-/
namespace Go.Proofs.Ythmjcbmeiabbgaa
open Go.RowKit
set_option maxRecDepth 100000

theorem exec_neq_entry_same {o : Oper} {a : Act} {x y : Operand} {u : TypeId} (ho : o.op = .binOp .neq 35 x y u) (p : Int × Int) (hx : a.eval x = .agg #[.int .i64 p.1, .int .i64 p.2]) (hy : a.eval y = .agg #[.int .i64 p.1, .int .i64 p.2]) (w : World) :
    (execOp a.eval o).run Try.prog w = .ok (.value (.bool false)) w := by rw [exec_neq_entry ho p p hx hy w]; simp
set_option maxHeartbeats 4000000 in
theorem same08 {w : World} {n : NM} {va vb : Value} (ha : EntsAt w va n.ents) (hb : EntsAt w vb n.ents) (hlen : n.ents.length ≤ 1000) :
    Calls Try.prog 38 #[.agg (nodeCells n va).toArray, .agg (nodeCells n vb).toArray] w fun e w' => e = .returned (.bool true) ∧ Kept (fun _ => False) w w' := by
  obtain ⟨Aa, ca, rfl, ha1, ha2⟩ := ha.form
  obtain ⟨Ab, cb, rfl, hb1, hb2⟩ := hb.form
  unfold maxLen at ha2 hb2
  obtain ⟨F, hF⟩ : ∃ F, nodeCells n (.slice Aa n.ents.length ca) = F := ⟨_, rfl⟩
  obtain ⟨G, hG⟩ : ∃ G, nodeCells n (.slice Ab n.ents.length cb) = G := ⟨_, rfl⟩
  obtain ⟨w1, hw1⟩ : ∃ w1, w.alloc (.cells F.toArray 33) = w1 := ⟨_, rfl⟩
  obtain ⟨w2, hw2⟩ : ∃ w2, w1.alloc (.cells G.toArray 33) = w2 := ⟨_, rfl⟩
  have k1 : Kept (fun _ => False) w w1 := by rw [← hw1]; exact (Kept.refl _ _).alloc _
  have k2 : Kept (fun _ => False) w1 w2 := by rw [← hw2]; exact (Kept.refl _ _).alloc _
  have s1 : w1.heap.size = w.heap.size + 1 := by rw [← hw1]; simp
  have b1 : NodeBox w2 w.heap.size n (.slice Aa n.ents.length ca) := ⟨by rw [hF]; exact k2.get (by rw [← hw1]; exact heap_alloc_new _ _) id⟩
  have b2 : NodeBox w2 (w.heap.size + 1) n (.slice Ab n.ents.length cb) := ⟨by rw [hG, ← hw2, ← s1]; exact heap_alloc_new _ _⟩
  have c1 := b1.c17
  have c2 := b2.c17
  have d1 := b1.c0
  have d2 := b2.c0
  have e1 := Lib.hid b1.cb
  have e2 := Lib.hid b2.cb
  have hw1' := Lib.hid hw1
  have hw2' := Lib.hid hw2
  have s1' := Lib.hid s1
  have k12 := Lib.hid (k1.trans k2)
  have ha' := Lib.hid (SliceAt.fresh ha (k1.trans k2))
  have hb' := Lib.hid (SliceAt.fresh hb (k1.trans k2))
  have b1' := Lib.hid b1
  have b2' := Lib.hid b2
  rw [hF, hG]
  clear hw1 hw2 s1 k1 k2 b1 b2 hF hG ha hb
  go_enter Try.func38, Try.ntmps38
  go_wp2_with (first | (refine wpList_box_named 33 rfl rfl _ rfl hw1'.out ?_) | (refine wpList_box_named 33 rfl rfl _ rfl hw2'.out ?_; rw [s1'.out]) | (refine wpList_exec_g (by rfl) (exec_load_agg rfl (by rfl) (blockCells n.block) Try.underlying30 rfl (by rw [blockCells_len]; exact block_size) e1.out) ?_) | (refine wpList_exec_g (by rfl) (exec_load_agg rfl (by rfl) (blockCells n.block) Try.underlying30 rfl (by rw [blockCells_len]; exact block_size) e2.out) ?_) | (refine wpList_exec_g (by rfl) (exec_neq_same rfl n.block (by rfl) (by rfl)) ?_))
  go_loopw [30] (fun i wr => ∃ k : Nat, k ≤ n.ents.length ∧ i = .int .i64 k ∧ Kept (fun _ => False) w2 wr) (fun i _ => n.ents.length - (intOf i).toNat)
  case atStart => exact ⟨0, Nat.zero_le _, rfl, Kept.refl _ _⟩
  case round =>
    obtain ⟨k, hk, rfl, hkk⟩ := hrel
    by_cases hlt : k < n.ents.length
    · obtain ⟨x, hx⟩ : ∃ x, n.ents[k]? = some x := ⟨_, List.getElem?_eq_getElem hlt⟩
      obtain ⟨ba, oa, rfl, hba, hx1, hx2⟩ := EntsAt.get (SliceAt.fresh ha'.out hkk) hx
      obtain ⟨bb, ob, rfl, hbb, hy1, hy2⟩ := EntsAt.get (SliceAt.fresh hb'.out hkk) hx
      have hki : (k : Int) < (n.ents.length : Int) := by omega
      have lx : Hid (∀ W, Kept (fun _ => False) wr W → ∀ j v, [Value.int .i64 x.1, .int .i64 x.2][j]? = some v → W.cell? ⟨ba, oa + k * 2 + j, none⟩ = some v) := Lib.hid (fun W hW j v hj => by
        match j, hj with
        | 0, hj => cases hj; exact hW.cell hx1 id
        | 1, hj => cases hj; exact hW.cell hx2 id)
      have ly : Hid (∀ W, Kept (fun _ => False) wr W → ∀ j v, [Value.int .i64 x.1, .int .i64 x.2][j]? = some v → W.cell? ⟨bb, ob + k * 2 + j, none⟩ = some v) := Lib.hid (fun W hW j v hj => by
        match j, hj with
        | 0, hj => cases hj; exact hW.cell hy1 id
        | 1, hj => cases hj; exact hW.cell hy2 id)
      have ca' : Hid (∀ W, Kept (fun _ => False) wr W → W.cell? ⟨w.heap.size, 17, none⟩ = some (.slice (some ⟨ba, oa, none⟩) n.ents.length ca)) := Lib.hid (fun W hW => hW.cell (hkk.cell b1'.out.c17 id) id)
      have cb' : Hid (∀ W, Kept (fun _ => False) wr W → W.cell? ⟨w.heap.size + 1, 17, none⟩ = some (.slice (some ⟨bb, ob, none⟩) n.ents.length cb)) := Lib.hid (fun W hW => hW.cell (hkk.cell b2'.out.c17 id) id)
      have hkk' := Lib.hid hkk
      clear hx hx1 hx2 hy1 hy2 hkk
      go_wp2_with fail
      refine wp_region_quiet (C := fun w' => Kept (fun _ => False) wr w') (by kernel_rfl) (by kernel_rfl) (Kept.refl _ _).drew ?_
      refine wpQuiet_step (fun K hK => ?_); go_simp; refine ⟨_, fun _ _ => rfl, hK _ ?_⟩; clear hK K
      refine wpQuiet_step (fun K hK => ?_); refine q_on rfl (q_val (.slice (some ⟨ba, oa, none⟩) n.ents.length ca) (fun W hW => by have hc := ca'.out W hW; clear hW; go_simp) (hK _ ?_)); clear hK K
      refine wpQuiet_step (fun K hK => ?_); go_simp; refine ⟨_, fun _ _ => rfl, hK _ ?_⟩; clear hK K
      refine wpQuiet_step (fun K hK => ?_); go_simp; refine ⟨_, fun _ _ => rfl, hK _ ?_⟩; clear hK K
      refine wpQuiet_step (fun K hK => ?_); refine q_on rfl (q_val (.agg [Value.int .i64 x.1, .int .i64 x.2].toArray) (fun W hW => exec_load_agg (g := ba) (off := oa + k * 2) rfl rfl [.int .i64 x.1, .int .i64 x.2] Try.underlying35 rfl (by kernel_rfl) (lx.out W hW)) (hK _ ?_)); clear hK K
      refine wpQuiet_step (fun K hK => ?_); go_simp; refine ⟨_, fun _ _ => rfl, hK _ ?_⟩; clear hK K
      refine wpQuiet_step (fun K hK => ?_); refine q_on rfl (q_val (.slice (some ⟨bb, ob, none⟩) n.ents.length cb) (fun W hW => by have hc := cb'.out W hW; clear hW; go_simp) (hK _ ?_)); clear hK K
      refine wpQuiet_step (fun K hK => ?_); go_simp; refine ⟨_, fun _ _ => rfl, hK _ ?_⟩; clear hK K
      refine wpQuiet_step (fun K hK => ?_); go_simp; refine ⟨_, fun _ _ => rfl, hK _ ?_⟩; clear hK K
      refine wpQuiet_step (fun K hK => ?_); refine q_on rfl (q_val (.agg [Value.int .i64 x.1, .int .i64 x.2].toArray) (fun W hW => exec_load_agg (g := bb) (off := ob + k * 2) rfl rfl [.int .i64 x.1, .int .i64 x.2] Try.underlying35 rfl (by kernel_rfl) (ly.out W hW)) (hK _ ?_)); clear hK K
      refine wpQuiet_step (fun K hK => ?_); refine q_on rfl (q_val (.bool false) (fun W hW => exec_neq_entry_same rfl x rfl rfl W) (hK _ ?_)); clear hK K
      refine wpQuiet_nil ?_
      intro w9 hw9
      have hw9' := Lib.hid hw9
      clear hw9 lx ly ca' cb'
      go_wp2_with fail
      go_roundw
      case rel => exact ⟨k + 1, by omega, by go_num, hkk'.out.trans hw9'.out⟩
      case measure => simp [intOf]; omega
    · obtain rfl : k = n.ents.length := by omega
      go_wp2_with fail
      go_ret
      exact ⟨rfl, k12.out.trans hkk⟩
end Go.Proofs.Ythmjcbmeiabbgaa
