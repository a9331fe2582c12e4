/-
 Two trees held against one another: the nodes that are in both (diff's shared).
-/
import Derived.Test.YtidlchciehdefaaGreatK15
import Derived.Test.YtidlchciehdefaaGreatK17
import Derived.Test.YtidlchciehdefaaGreatK18
import Derived.Test.YtidlchciehdefaaGreatK19
import Derived.Test.YtidlchciehdefaaGreatK22
import Derived.Maps.RangeWalk
set_option linter.unusedVariables false
set_option linter.unusedSimpArgs false
namespace Go.Proofs.YtidlchciehdefaaGreat
open Go.RowKit Go.Maps Go.Sort
set_option maxRecDepth 100000

end Go.Proofs.YtidlchciehdefaaGreat
/-
 Two trees held against one another: what is in one, but for what is shared (diff's own).
-/
namespace Go.Proofs.YtidlchciehdefaaGreat
open Go.RowKit Go.Maps Go.Sort
set_option maxRecDepth 100000

end Go.Proofs.YtidlchciehdefaaGreat
/-
 Two trees held against one another, plain: what is in one, but for what is shared; where they differ.
-/
namespace Go.Proofs.YtidlchciehdefaaGreat
open Go.RowKit

theorem tr_get {m : Nat} {M : SM} {h : Nat} {p : Int} {l : List (Int × Int)} (t : Tr m M h p l) : ∃ k n, h = k + 1 ∧ M.get p = (n, 0) ∧ n.ok ∧ M.nodeAt p.toNat = some n ∧ NTr (fun q a => Tr m M k q a ∧ m ≤ M.entN q) k n l ∧ p ≠ -1 := by
 cases h with
 | zero => exact t.elim
 | succ k =>
  obtain ⟨hp, n, hn, hok, hk⟩ := t
  refine ⟨k, n, rfl, ?_, hok, hn, hk, by have := (heldB_int hp).1; omega⟩
  unfold SM.get
  rw [if_pos hp, hn]
theorem kids_unique {T U : Int → List (Int × Int) → Prop} : ∀ {es l l' : List (Int × Int)}, (∀ e ∈ es, ∀ a b, T e.2 a → U e.2 b → a = b) → Kids T es l → Kids U es l' → l = l'
 | [], _, _, _, h, k => by rw [show _ = [] from h, show _ = [] from k]
 | e :: es, _, _, hT, ⟨a, b, x, h1, h2, _, _, h5⟩, ⟨a', b', x', k1, k2, _, _, k5⟩ => by
  rw [h1, k1, hT e (List.mem_cons_self ..) a a' h2 k2, kids_unique (fun e he => hT e (List.mem_cons_of_mem _ he)) h5 k5]
theorem tr_unique {m : Nat} {M : SM} : ∀ {h h' : Nat} {p : Int} {l l' : List (Int × Int)}, Tr m M h p l → Tr m M h' p l' → l = l'
 | 0, _, _, _, _, t, _ => t.elim
 | _ + 1, 0, _, _, _, _, t => t.elim
 | h + 1, h' + 1, p, l, l', ⟨_, n, hn, _, k⟩, ⟨_, n', hn', _, k'⟩ => by
  rw [hn] at hn'
  cases hn'
  rcases k with ⟨_, k2, k3⟩ | ⟨_, k2, k3⟩
  ·rcases k' with ⟨_, j2, j3⟩ | ⟨_, j2, j3⟩
   ·rw [← k3, ← j3]
   ·omega
  ·rcases k' with ⟨_, j2, j3⟩ | ⟨_, j2, j3⟩
   ·omega
   ·exact kids_unique (fun e _ a b ha hb => tr_unique ha.1 hb.1) k3 j3
section
variable {m : Nat} {M : SM} {S : Int → Bool} {ra rb : Int} {la lb oa ob : List (Int × Int)}
end
def occSum (M : SM) (c : Nat) (L : List Nat) : Nat := (L.map fun q => occ (M.ents q) c).sum
theorem occSum_append (M : SM) (c : Nat) (a b : List Nat) : occSum M c (a ++ b) = occSum M c a + occSum M c b := by unfold occSum; rw [List.map_append, List.sum_append]
theorem occSum_none {M : SM} {c : Nat} : ∀ {L : List Nat}, (∀ q ∈ L, M.ents q = []) → occSum M c L = 0
 | [], _ => rfl
 | a :: L, h => by
  have h1 := occSum_none (c := c) (fun q hq => h q (List.mem_cons_of_mem (a := q) a hq))
  unfold occSum at h1 ⊢
  rw [List.map_cons, List.sum_cons, h a (List.mem_cons_self ..), h1]
  rfl
theorem occ_append (a b : List (Int × Int)) (c : Nat) : occ (a ++ b) c = occ a c + occ b c := List.countP_append
theorem refs_list {M : SM} {c : Nat} {L : List Nat} (h : ∀ q, M.live q = true → q ∈ L) : M.refs c ≤ occSum M c L := sum_list (f := fun q => occ (M.ents q) c) (b := M.live) L M.pool.size (fun q _ hq => h q hq)
theorem rises_half {a b : List (Int × Int)} (h : RisesK (a ++ b)) {K : Int} (ha : ∃ y ∈ a, y.1 = K) (hb : ∃ y ∈ b, y.1 = K) : False := by
 obtain ⟨y, hy, e1⟩ := ha
 obtain ⟨z, hz, e2⟩ := hb
 have := (List.pairwise_append.1 h).2.2 y hy z hz
 omega
theorem tr_occ {m : Nat} {M : SM} {c : Nat} {K : Int} (hK : ∀ h' a, Tr m M h' (c : Int) a → ∃ y ∈ a, y.1 = K) : ∀ {h : Nat} {p : Int} {l : List (Int × Int)}, Tr m M h p l → RisesK l →
  ((∃ y ∈ l, y.1 = K) → occSum M c (pagesF M h p) + 1 ≤ h + occ l c) ∧ ((¬ ∃ y ∈ l, y.1 = K) → occSum M c (pagesF M h p) ≤ occ l c)
 | 0, _, _, t, _ => t.elim
 | h + 1, p, l, ⟨hp, n, hn, hok, k⟩, hr => by
  have he := ents_of hn
  unfold pagesF
  rcases k with ⟨h0, _, hl⟩ | ⟨h0, _, hT⟩
  ·rw [if_pos h0]
   have : occSum M c [p.toNat] = occ l c := by
    unfold occSum
    rw [List.map_cons, List.map_nil, List.sum_cons, List.sum_nil, he, hl]
    omega
   rw [this]
   exact ⟨fun _ => by omega, fun _ => Nat.le_refl _⟩
  ·rw [if_neg (by omega), he]
   have key : ∀ (es l : List (Int × Int)), Kids (Sub m M h) es l → RisesK l →
     ((∃ y ∈ l, y.1 = K) → occ es c + occSum M c (es.flatMap fun e => pagesF M h e.2) ≤ h + occ l c) ∧ ((¬ ∃ y ∈ l, y.1 = K) → occ es c + occSum M c (es.flatMap fun e => pagesF M h e.2) ≤ occ l c) := by
    intro es
    induction es with
    | nil =>
     intro l hl _
     rw [show l = [] from hl]
     exact ⟨fun ⟨y, hy, _⟩ => (by cases hy), fun _ => Nat.le_refl _⟩
    | cons e es ih =>
     rintro l ⟨a, b, x, h1, h2, h3, h4, h5⟩ hr
     subst h1
     have ra : RisesK a := (List.pairwise_append.1 hr).1
     have rb : RisesK b := (List.pairwise_append.1 hr).2.1
     obtain ⟨i1, i2⟩ := tr_occ hK h2.1 ra
     obtain ⟨j1, j2⟩ := ih b h5 rb
     have hoc : occ (e :: es) c = occ es c + if e.2 = (c : Int) then 1 else 0 := by
      unfold occ
      rw [List.countP_cons]
      simp
     have hec : e.2 = (c : Int) → ∃ y ∈ a, y.1 = K := fun e1 => hK h a (by rw [← e1]; exact h2.1)
     rw [List.flatMap_cons, occSum_append, occ_append, hoc]
     have hmem : (∃ y ∈ a ++ b, y.1 = K) ↔ (∃ y ∈ a, y.1 = K) ∨ (∃ y ∈ b, y.1 = K) := by
      constructor
      ·rintro ⟨y, hy, e⟩
       exact (List.mem_append.1 hy).imp (fun h => ⟨y, h, e⟩) (fun h => ⟨y, h, e⟩)
      ·rintro (⟨y, hy, e⟩ | ⟨y, hy, e⟩)
       ·exact ⟨y, List.mem_append_left _ hy, e⟩
       ·exact ⟨y, List.mem_append_right _ hy, e⟩
     rw [hmem]
     by_cases ha : ∃ y ∈ a, y.1 = K
     ·have hb : ¬ ∃ y ∈ b, y.1 = K := fun hb => rises_half hr ha hb
      have q1 := i1 ha
      have q2 := j2 hb
      refine ⟨fun _ => ?_, fun hn => absurd (.inl ha) hn⟩
      split <;> omega
     ·have hne : ¬ e.2 = (c : Int) := fun e1 => ha (hec e1)
      have q1 := i2 ha
      rw [if_neg hne]
      by_cases hb : ∃ y ∈ b, y.1 = K
      ·have q2 := j1 hb
       exact ⟨fun _ => by omega, fun hn => absurd (.inr hb) hn⟩
      ·have q2 := j2 hb
       exact ⟨fun hn => hn.elim (fun h => absurd h ha) (fun h => absurd h hb), fun _ => by omega⟩
   obtain ⟨k1, k2⟩ := key n.ents l hT hr
   have hs : occSum M c (p.toNat :: n.ents.flatMap fun e => pagesF M h e.2) = occ n.ents c + occSum M c (n.ents.flatMap fun e => pagesF M h e.2) := by
    unfold occSum
    rw [List.map_cons, List.sum_cons, he]
   rw [hs]
   exact ⟨fun hk => by have := k1 hk; omega, fun hk => k2 hk⟩
theorem tr_occ5 {m : Nat} {M : SM} {c h : Nat} {p : Int} {l : List (Int × Int)} (t : Tr m M h p l) (hr : RisesK l) (h5 : h ≤ 6) : occSum M c (pagesF M h p) ≤ 5 + occ l c := by
 by_cases hc : ∃ h' a, Tr m M h' (c : Int) a
 ·obtain ⟨h', a, ta⟩ := hc
  have hge := tr_ge ta
  cases a with
  | nil => simp at hge; omega
  | cons y a =>
   obtain ⟨q1, q2⟩ := tr_occ (K := y.1) (fun h2 b tb => ⟨y, by rw [tr_unique tb ta]; exact List.mem_cons_self .., rfl⟩) t hr
   by_cases hk : ∃ z ∈ l, z.1 = y.1
   ·have := q1 hk; omega
   ·have := q2 hk; omega
 ·obtain ⟨q1, q2⟩ := tr_occ (K := 64) (c := c) (fun h2 b tb => absurd ⟨h2, b, tb⟩ hc) t hr
  by_cases hk : ∃ z ∈ l, z.1 = 64
  ·have := q1 hk; omega
  ·have := q2 hk; omega
theorem forest_pages {m : Nat} {M : SM} {ext : Nat → Nat} (E : Exact M ext) (hl : Loose M []) (is : List IM) (ht : ∀ i ∈ is, TreeIn m M i.root i.l i.P ∧ i.P ≤ 240 ∧ ∀ y ∈ i.l, M.ents y.2.toNat = []) {bl : List Nat} (hb : ∀ q ∈ bl, M.ents q = [])
  (hx : ∀ q, q < M.pool.size → 0 < ext q → q ∈ bl ∨ ∃ i ∈ is, i.root = (q : Int)) (c : Nat) (B : List Nat) (hB : ∀ i ∈ is, ∀ y ∈ i.l, y.2.toNat ∈ B) (hBe : ∀ q ∈ B, M.ents q = []) :
  ∃ L : List Nat, (∀ q, M.live q = true → q ∈ bl ++ B ++ L) ∧ 2 * L.length ≤ (is.map fun i => i.P + 3).sum ∧ occSum M c L ≤ (is.map fun i => 5 + occ i.l c).sum := by
 have all : ∀ js : List IM, (∀ i ∈ js, i ∈ is) → ∃ L : List Nat, (∀ i ∈ js, i.root = -1 ∨ i.root.toNat ∈ L) ∧ (∀ q ∈ L, ∀ x ∈ M.ents q, x.2.toNat ∈ L ∨ x.2.toNat ∈ B) ∧ 2 * L.length ≤ (js.map fun i => i.P + 3).sum ∧ occSum M c L ≤ (js.map fun i => 5 + occ i.l c).sum := by
  intro js
  induction js with
  | nil => intro _; exact ⟨[], fun i hi => (by cases hi), fun q hq => (by cases hq), Nat.le_refl _, Nat.le_refl _⟩
  | cons i js ih =>
   intro hin
   obtain ⟨L, a1, a2, a3, a4⟩ := ih (fun j hj => hin j (List.mem_cons_of_mem _ hj))
   have hi := hin i (List.mem_cons_self ..)
   obtain ⟨T, hP, _⟩ := ht i hi
   rw [List.map_cons, List.sum_cons, List.map_cons, List.sum_cons]
   rcases T.root with ⟨e, el⟩ | ⟨hh, t, j⟩
   ·refine ⟨L, fun q hq => ?_, a2, by omega, by omega⟩
    rcases List.mem_cons.1 hq with rfl | hq
    ·exact .inl e
    ·exact a1 q hq
   ·obtain ⟨p1, _, p3⟩ := led_pages t j hP
    have p4 := tr_occ5 (c := c) t T.keys.1 (by omega)
    refine ⟨pagesF M hh i.root ++ L, fun q hq => ?_, fun q hq x hx => ?_, by rw [List.length_append]; omega, by rw [occSum_append]; omega⟩
    ·rcases List.mem_cons.1 hq with rfl | hq
     ·exact .inr (List.mem_append_left _ (pages_self (tr_pos t)))
     ·exact (a1 q hq).imp id fun e => List.mem_append_right _ e
    ·rcases List.mem_append.1 hq with hq | hq
     ·rcases pages_closed t q hq x hx with e | e
      ·exact .inl (List.mem_append_left _ e)
      ·exact .inr (hB i hi x e)
     ·exact (a2 q hq x hx).imp (fun e => List.mem_append_right _ e) id
 obtain ⟨L, a1, a2, a3, a4⟩ := all is (fun i hi => hi)
 refine ⟨L, reach_all E hl (fun q hq h0 => ?_) (fun q hq x hx => ?_), a3, a4⟩
 ·rcases hx q hq h0 with e | ⟨i, hi, e⟩
  ·exact List.mem_append_left _ (List.mem_append_left _ e)
  ·rcases a1 i hi with e1 | e1
   ·omega
   ·rw [e, Int.toNat_natCast] at e1; exact List.mem_append_right _ e1
 ·rcases List.mem_append.1 hq with hq | hq
  ·have he : M.ents q = [] := (List.mem_append.1 hq).elim (hb q) (hBe q)
   rw [he] at hx; cases hx
  ·rcases a2 q hq x hx with e | e
   ·exact List.mem_append_right _ e
   ·exact List.mem_append_left _ (List.mem_append_right _ e)
theorem forest_refs {m : Nat} {M : SM} {ext : Nat → Nat} (E : Exact M ext) (hl : Loose M []) (is : List IM) (ht : ∀ i ∈ is, TreeIn m M i.root i.l i.P ∧ i.P ≤ 240 ∧ ∀ y ∈ i.l, M.ents y.2.toNat = []) {bl : List Nat} (hb : ∀ q ∈ bl, M.ents q = [])
  (hx : ∀ q, q < M.pool.size → 0 < ext q → q ∈ bl ∨ ∃ i ∈ is, i.root = (q : Int)) (c : Nat) : M.refs c ≤ (is.map fun i => 5 + occ i.l c).sum := by
 have hBe : ∀ q ∈ is.flatMap (fun i => i.l.map fun y => y.2.toNat), M.ents q = [] := fun q hq => by
  obtain ⟨i, hi, hq⟩ := List.mem_flatMap.1 hq
  obtain ⟨y, hy, rfl⟩ := List.mem_map.1 hq
  exact (ht i hi).2.2 y hy
 obtain ⟨L, h1, _, h3⟩ := forest_pages E hl is ht hb hx c (is.flatMap fun i => i.l.map fun y => y.2.toNat) (fun i hi y hy => List.mem_flatMap.2 ⟨i, hi, List.mem_map.2 ⟨y, hy, rfl⟩⟩) hBe
 have := refs_list (c := c) h1
 rw [occSum_append, occSum_append, occSum_none hb, occSum_none hBe] at this
 omega
theorem imgs_refs {m : Nat} {M : SM} {is : List IM} (h : Imgs m M is) (hP : ∀ i ∈ is, i.P ≤ 240) (c : Nat) : M.refs c ≤ (is.map fun i => 5 + occ i.l c).sum := by
 refine forest_refs (bl := []) h.exact h.loose is (fun i hi => ⟨(h.img i hi).tree, hP i hi, fun y hy => ?_⟩) (fun q hq => (by cases hq)) (fun q _ h0 => .inr ?_) c
 ·obtain ⟨d, hd, _, _, he⟩ := (h.img i hi).data y hy
  rw [ents_of hd, he]
 ·unfold extL at h0
  obtain ⟨i, hi, e⟩ := List.mem_map.1 (List.count_pos_iff.1 h0)
  exact ⟨i, hi, e⟩
theorem cutF_logA (M : SM) (key : Int) : ∀ (f : Nat) (r : Int), (SM.cutF f M r key).1.log.length ≤ M.log.length + 2 * f
 | 0, _ => by simp [SM.cutF]
 | f + 1, r => by
  have ih := cutF_logA M key f ((M.tnode r (8 - f)).1.ents.getD (atI (M.tnode r (8 - f)).1.ents key).toNat (0, 0)).2
  unfold SM.cutF
  dsimp only
  split
  ·dsimp only; omega
  ·split
   ·split <;> (dsimp only; omega)
   ·obtain ⟨C, hC⟩ : ∃ C, SM.cutF f M ((M.tnode r (8 - f)).1.ents.getD (atI (M.tnode r (8 - f)).1.ents key).toNat (0, 0)).2 key = C := ⟨_, rfl⟩
    rw [hC] at ih ⊢
    have h := (split_bound C.1 (C.1.join (M.tnode r (8 - f)).1 C.2.1 (atI (M.tnode r (8 - f)).1.ents key).toNat (8 - f)).1).1
    split
    ·dsimp only; omega
    ·split
     ·split <;> (dsimp only; omega)
     ·dsimp only; omega
theorem cut_logA (M : SM) (root key : Int) : (M.cut root key).1.log.length ≤ M.log.length + 20 := by
 have h1 := cutF_logA M key 9 root
 have h2 := (split_bound (SM.cutF 9 M root key).1 (SM.cutF 9 M root key).2.1).1
 unfold SM.cut
 split
 ·dsimp only; omega
 ·split
  ·dsimp only; omega
  ·dsimp only
   split
   ·dsimp only; omega
   ·split
    ·dsimp only; omega
    ·split
     ·dsimp only; omega
     ·split <;> (dsimp only; omega)
theorem trim_logA : ∀ (ks : List Int) (M : SM) (root : Int), (SM.trim ks M root).1.log.length ≤ M.log.length + 20 * ks.length
 | [], M, root => Nat.le_refl _
 | x :: ks, M, root => by
  have h1 := cut_logA M root x
  have h2 := swap_log (M.cut root x).1 root (M.cut root x).2.1
  have h3 := congrArg List.length h2
  rw [trim_cons, List.length_cons]
  split
  ·split
   ·split
    ·have := trim_logA ks ((M.cut root x).1.swap root (M.cut root x).2.1).1 (M.cut root x).2.1
     rw [h2] at this
     omega
    ·dsimp only; omega
   ·have := trim_logA ks (M.cut root x).1 (M.cut root x).2.1
    omega
  ·dsimp only; omega
theorem clear_logA (M : SM) (root : Int) (ks : List Int) : (M.clear root ks).1.log.length ≤ M.log.length + 20 * ks.length := by
 have := trim_logA ks M.marked root
 rw [show M.marked.log = M.log from rfl] at this
 unfold SM.clear
 split
 ·dsimp only; omega
 ·unfold SM.safely
  split
  ·exact this
  ·exact this
theorem clear_size (M : SM) (root : Int) (ks : List Int) : (M.clear root ks).1.pool.size = M.pool.size := by
 have := trim_size ks M.marked root
 rw [show M.marked.pool.size = M.pool.size from rfl] at this
 unfold SM.clear
 split
 ·rfl
 ·unfold SM.safely
  split
  ·exact this
  ·rfl
theorem write_size (M : SM) (root key : Int) (b : List Nat) : (M.write root key b).1.pool.size = M.pool.size := by
 have := write1_size M.marked root key b
 rw [show M.marked.pool.size = M.pool.size from rfl] at this
 unfold SM.write
 split
 ·rfl
 ·unfold SM.safely
  split
  ·exact this
  ·rfl
theorem tidy_tidy (M : SM) : M.tidy.tidy = M.tidy := by
 unfold SM.tidy PM.turned
 congr 1
 congr 1
 funext j
 dsimp only
 by_cases h : M.pool.st j = 3
 ·simp [h]
 ·simp [h]
structure RunP (k : Nat) (M : SM) (is : List IM) : Prop where
 imgs : Imgs 1 M is
 bytes : ∀ i ∈ is, Bytes i.w
 puts : ∀ i ∈ is, i.P ≤ k
 pos : 0 < is.length
 six : is.length ≤ 6
 log : M.log.length ≤ 1500 * k
section
variable {k n : Nat} {M : SM} {is : List IM} {i : IM}
theorem RunP.tidy (h : RunP k M is) : RunP k M.tidy is := ⟨h.imgs.tidy, h.bytes, h.puts, h.pos, h.six, h.log⟩
theorem RunP.more (h : RunP k M is) : RunP (k + 1) M is := ⟨h.imgs, h.bytes, fun i hi => Nat.le_succ_of_le (h.puts i hi), h.pos, h.six, by have := h.log; omega⟩
theorem RunP.set (h : RunP k M is) {M' : SM} {i' : IM} (hI : Imgs 1 M' (is.set n i')) (hb : Bytes i'.w) (hP : i'.P ≤ k + 1) (hl : M'.log.length ≤ M.log.length + 1500) : RunP (k + 1) M' (is.set n i') :=
 ⟨hI, fun j hj => (List.mem_or_eq_of_mem_set hj).elim (h.bytes j) (fun e => e ▸ hb), fun j hj => (List.mem_or_eq_of_mem_set hj).elim (fun hj => Nat.le_succ_of_le (h.puts j hj)) (fun e => e ▸ hP), by rw [List.length_set]; exact h.pos, by rw [List.length_set]; exact h.six, by have := h.log; omega⟩
theorem RunP.err (h : RunP k M is) {M' : SM} (hI : Imgs 1 M' is) (hl : M'.log.length ≤ M.log.length + 1500) : RunP (k + 1) M' is :=
 ⟨hI, h.bytes, fun i hi => Nat.le_succ_of_le (h.puts i hi), h.pos, h.six, by have := h.log; omega⟩
theorem runs_write (h : RunP k M is) (hk : k ≤ 60) (hi : is[n]? = some i) {key : Int} (k0 : 0 ≤ key) (k1 : key < 64) {b : List Nat} (hb : b.length = 16) (h256 : ∀ x ∈ b, x < 256) :
  (∃ M' next i', M.tidy.write i.root key b = (M', next, 0) ∧ RunP (k + 1) M' (is.set n i') ∧ i'.root = next ∧ i'.w = upd i.w key b ∧ M'.pool.size = M.pool.size) ∨
   (∃ M' er, M.tidy.write i.root key b = (M', -1, er) ∧ (er = 71 ∨ er = 72) ∧ RunP (k + 1) M' is ∧ M'.pool.freeCount = M.tidy.pool.freeCount ∧ M'.pool.size = M.pool.size) := by
 have hr : i ∈ is := List.mem_of_getElem? hi
 have hP := h.puts i hr
 have hlg := write_log M.tidy i.root key b
 have hsz := write_size M.tidy i.root key b
 have hw := write_ok (M := M.tidy) (by decide) h.imgs.tidy hi (by omega) k0 k1 hb h256
 obtain ⟨W, hW⟩ : ∃ W, M.tidy.write i.root key b = W := ⟨_, rfl⟩
 rw [hW] at hw hlg hsz ⊢
 obtain ⟨M', next, er⟩ := W
 dsimp only at hw hlg hsz
 rcases hw with ⟨rfl, pg, hI⟩ | ⟨rfl, hI, hp, he⟩
 ·exact .inl ⟨M', next, _, rfl, h.set hI ((h.bytes i hr).upd key hb h256) (by show i.P + 1 ≤ _; omega) (by show _ ≤ M.log.length + 1500; exact Nat.le_trans hlg (by show M.log.length + 23 ≤ _; omega)), rfl, rfl, hsz⟩
 ·refine .inr ⟨M', er, rfl, he.imp (fun e => e.1) (fun e => e.1), h.err hI (Nat.le_trans hlg (by show M.log.length + 23 ≤ _; omega)), ?_, hsz⟩
  rw [hp, marked_free, tidy_tidy]
theorem runs_write_bad (M : SM) (root : Int) {key : Int} (hk : ¬ (0 ≤ key ∧ key < 64)) (b : List Nat) : M.write root key b = (M, -1, 101) := by
 unfold SM.write
 rw [if_pos (by omega)]
theorem runs_clear (h : RunP k M is) (hk : k ≤ 60) (hi : is[n]? = some i) {ks : List Int} (hks : ∀ x ∈ ks, 0 ≤ x ∧ x ≤ 63) (hl70 : ks.length ≤ 70) :
  (∃ M' next i', M.tidy.clear i.root ks = (M', next, 0) ∧ RunP (k + 1) M' (is.set n i') ∧ i'.root = next ∧ i'.w = ks.foldl wipe i.w ∧ M'.pool.size = M.pool.size) ∨
   (∃ M' er, M.tidy.clear i.root ks = (M', -1, er) ∧ (er = 71 ∨ er = 72) ∧ RunP (k + 1) M' is ∧ M'.pool.freeCount = M.tidy.pool.freeCount ∧ M'.pool.size = M.pool.size) := by
 have hr : i ∈ is := List.mem_of_getElem? hi
 have hP := h.puts i hr
 have hlg := clear_logA M.tidy i.root ks
 have hsz := clear_size M.tidy i.root ks
 have hw := clear_ok (M := M.tidy) h.imgs.tidy hi (by omega) hks
 have hlt : M.tidy.log.length = M.log.length := rfl
 have hby : Bytes (ks.foldl wipe i.w) := by
  have key : ∀ (ks : List Int) (f : Int → List Nat), Bytes f → Bytes (ks.foldl wipe f) := by
   intro ks
   induction ks with
   | nil => intro f hf; exact hf
   | cons x ks ih => intro f hf; exact ih _ (Bytes.wipe hf x)
  exact key ks _ (h.bytes i hr)
 obtain ⟨W, hW⟩ : ∃ W, M.tidy.clear i.root ks = W := ⟨_, rfl⟩
 rw [hW] at hw hlg hsz ⊢
 obtain ⟨M', next, er⟩ := W
 dsimp only at hw hlg hsz
 rcases hw with ⟨rfl, hI⟩ | ⟨rfl, hI, hp, he⟩
 ·exact .inl ⟨M', next, _, rfl, h.set hI hby (by show i.P ≤ _; omega) (by omega), rfl, rfl, hsz⟩
 ·refine .inr ⟨M', er, rfl, he, h.err hI (by omega), ?_, hsz⟩
  rw [hp, marked_free, tidy_tidy]
theorem runs_clear_bad (M : SM) (root : Int) {ks : List Int} (hk : ∃ x ∈ ks, x < 0 ∨ 63 < x) : M.clear root ks = (M, -1, 101) := by
 unfold SM.clear
 rw [if_pos hk]
theorem runs_copy (h : RunP k M is) (hk : k ≤ 60) (hi : is[n]? = some i) (h5 : is.length ≤ 5) :
  (if i.root = -1 then 0 else (M.hold i.root).2) = 0 ∧ RunP (k + 1) (if i.root = -1 then M else (M.hold i.root).1) (is ++ [i]) ∧ (if i.root = -1 then M else (M.hold i.root).1).pool.size = M.pool.size := by
 have hr : i ∈ is := List.mem_of_getElem? hi
 have hI := h.imgs.img i hr
 have rest : ∀ M', Imgs 1 M' (is ++ [i]) → M'.log.length ≤ M.log.length → RunP (k + 1) M' (is ++ [i]) := fun M' hI' hl => by
  refine ⟨hI', fun j hj => ?_, fun j hj => ?_, by rw [List.length_append]; have := h.pos; omega, by rw [List.length_append]; show is.length + 1 ≤ 6; omega, by have := h.log; omega⟩
  ·rcases List.mem_append.1 hj with hj | hj
   ·exact h.bytes j hj
   ·rw [List.mem_singleton.1 hj]; exact h.bytes i hr
  ·rcases List.mem_append.1 hj with hj | hj
   ·exact Nat.le_succ_of_le (h.puts j hj)
   ·rw [List.mem_singleton.1 hj]; exact Nat.le_succ_of_le (h.puts i hr)
 by_cases e : i.root = -1
 ·rw [if_pos e, if_pos e]
  refine ⟨rfl, rest M ⟨?_, h.imgs.loose, fun j hj => ?_⟩ (Nat.le_refl _), rfl⟩
  ·refine exact_congr h.imgs.exact fun p _ => ?_
   unfold extL
   rw [List.map_append, List.count_append]
   have : List.count ((p : Nat) : Int) (List.map (·.root) [i]) = 0 := List.count_eq_zero.2 (fun hm => by
    simp only [List.map_cons, List.map_nil, List.mem_singleton] at hm
    omega)
   rw [this]
   rfl
  ·rcases List.mem_append.1 hj with hj | hj
   ·exact h.imgs.img j hj
   ·rw [List.mem_singleton.1 hj]; exact hI
 ·rw [if_neg e, if_neg e]
  rcases hI.tree.root with ⟨e', _⟩ | ⟨hh, t, _⟩
  ·exact absurd e' e
  ·have hheld := t.held
   obtain ⟨c, hc⟩ := Int.eq_ofNat_of_zero_le (heldB_int hheld).1
   have hlive : M.live c = true := by have := (heldB_int hheld).2; rw [hc, Int.toNat_natCast] at this; exact this
   obtain ⟨_, nn, _, _, hok, hnode, hN, _⟩ := tr_get t
   rw [hc, Int.toNat_natCast] at hnode
   have hkind : nn.kind ≠ 1 := by rcases hN with ⟨_, k2, _⟩ | ⟨_, k3, _⟩ <;> omega
   have hocc : ∀ j ∈ is, occ j.l c = 0 := fun j hj => by
    unfold occ
    rw [List.countP_eq_zero]
    intro y hy hye
    obtain ⟨d, hd, hd1, _⟩ := (h.imgs.img j hj).data y hy
    have : y.2 = (c : Int) := by simpa using hye
    rw [this, Int.toNat_natCast, hnode] at hd
    cases hd
    exact hkind hd1
   have hrefs := imgs_refs h.imgs (fun j hj => by have := h.puts j hj; omega) c
   have hsum : (is.map fun j => 5 + occ j.l c).sum ≤ 5 * is.length := by
    have key : ∀ js : List IM, (∀ j ∈ js, j ∈ is) → (js.map fun j => 5 + occ j.l c).sum ≤ 5 * js.length := by
     intro js
     induction js with
     | nil => intro _; exact Nat.le_refl _
     | cons j js ih =>
      intro hj
      have := ih (fun x hx => hj x (List.mem_cons_of_mem _ hx))
      rw [List.map_cons, List.sum_cons, hocc j (hj j (List.mem_cons_self ..)), List.length_cons]
      omega
    exact key is (fun j hj => hj)
   have hcnt := h.imgs.exact.cnt c (live_lt hlive)
   have hext : extL (is.map (·.root)) c ≤ is.length := by
    unfold extL
    have : List.count (c : Int) (is.map (·.root)) ≤ (is.map (·.root)).length := List.count_le_length
    rw [List.length_map] at this
    exact this
   obtain ⟨hhold, E', hlv⟩ := holdE_ok h.imgs.exact hlive (by omega)
   rw [hc, hhold]
   have g : Grown M ⟨M.pool.setCnt c (M.pool.cnt c + 1), M.log⟩ := ⟨rfl, fun q hq => by rw [hlv]; exact hq, fun q _ => rfl⟩
   have all : ∀ j, Img 1 M j → Img 1 ⟨M.pool.setCnt c (M.pool.cnt c + 1), M.log⟩ j := fun j hJ => ⟨hJ.tree.grown g, hJ.data, hJ.zero⟩
   refine ⟨rfl, rest _ ⟨?_, fun q hq hq0 => ?_, fun j hj => ?_⟩ (Nat.le_refl _), rfl⟩
   ·refine exact_congr E' fun p _ => ?_
    unfold incE extL
    rw [List.map_append, List.count_append]
    have : List.count ((p : Nat) : Int) (List.map (·.root) [i]) = if p = c then 1 else 0 := by
     simp only [List.map_cons, List.map_nil]
     rw [List.count_singleton, hc]
     by_cases hp : p = c
     ·subst hp; simp
     ·have : ((c : Int) == (p : Int)) = false := by rw [beq_eq_false_iff_ne]; omega
      rw [this, if_neg hp]
      rfl
    rw [this]
    by_cases hp : p = c
    ·simp [hp]
    ·simp [hp]
   ·rw [hlv] at hq
    have : M.pool.cnt q = 0 := by
     have h0 : (if q = c then M.pool.cnt c + 1 else M.pool.cnt q) = 0 := hq0
     split at h0
     ·omega
     ·exact h0
    exact h.imgs.loose q hq this
   ·rcases List.mem_append.1 hj with hj | hj
    ·exact all j (h.imgs.img j hj)
    ·rw [List.mem_singleton.1 hj]; exact all i hI
theorem runs_drop (h : RunP k M is) (hi : is[n]? = some i) :
  (if i.root = -1 then 0 else (M.drop i.root).2) = 0 ∧ RunP (k + 1) (if i.root = -1 then M else (M.drop i.root).1) (is.set n .none) ∧ (if i.root = -1 then M else (M.drop i.root).1).pool.size = M.pool.size := by
 have hr : i ∈ is := List.mem_of_getElem? hi
 have hI := h.imgs.img i hr
 have hsw : M.swap i.root (-1) = (if i.root = -1 then M else (M.drop i.root).1, if i.root = -1 then 0 else (M.drop i.root).2) := by
  unfold SM.swap
  simp only [if_true]
  by_cases e : i.root = -1
  ·rw [if_pos e, if_pos e, if_pos e]
  ·rw [if_neg e, if_neg e, if_neg e]
 have hroot : i.root = -1 ∨ (M.pool.heldB i.root = true ∧ 0 < extL (is.map (·.root)) i.root.toNat) := by
  rcases hI.tree.root with ⟨e, _⟩ | ⟨_, t, _⟩
  ·exact .inl e
  ·rcases extL_root (List.mem_map.2 ⟨i, hr, rfl⟩) hI.tree.low with e | e
   ·exact .inl e
   ·exact .inr ⟨t.held, e⟩
 have hlg := swap_log M i.root (-1)
 rcases changed_of (m := 1) (l' := []) (P' := 0) (next := -1) h.imgs.exact (Grown.refl M) (fun q hq hc => by obtain ⟨y, hy, _⟩ := h.imgs.loose q hq hc; cases hy) hroot (TreeIn.none 1 M 0) with ⟨e, C⟩ | ⟨e, hf⟩
 ·have hI' := imgs_changed (i' := .none) h.imgs.exact h.imgs.img hi C (fun y hy => by cases hy) (fun _ _ _ _ => rfl)
  rw [hsw] at e hI' hlg C
  dsimp only at e hI' hlg C
  exact ⟨e, h.set hI' Bytes.zero (Nat.zero_le _) (by rw [hlg]; omega), C.size⟩
 ·exfalso
  have h0 : (M.swap i.root (-1)).2 ≠ 72 := by
   intro e2
   rcases hroot with e1 | ⟨h1, h2⟩
   ·rw [hsw, if_pos e1, if_pos e1] at e2
    cases e2
   ·have := (swap_ok h.imgs.exact (old := i.root) (next := -1) (.inl rfl) (.inr ⟨h1, h2⟩)).1
    omega
  exact h0 e
end
set_option maxRecDepth 100000

theorem step_store_agg {ops : Array Oper} {o : Oper} {a : Act} {w : World} {K : Act → World → Prop} {Q : Exit → Act → World → Prop} {E : Prop} (ty : TypeId) {x y : Operand} (ho : o.op = .store ty x y) (hgd : o.guard = none)
  {g off : Nat} (hx : a.eval x = .pointer (some ⟨g, off, none⟩)) (vs : List Value) (hy : a.eval y = .agg vs.toArray) (hi : (Tryz.prog.info? ty).map (·.size) = some vs.length)
  (t : TypeId) (cur : List Value) (hg : w.heap[g]? = some (.cells cur.toArray t (0, 0))) (hfit : off + vs.length ≤ cur.length) (h1 : ∀ v ∈ vs, v.oneCell' = true)
  (h : K (a.put o.dst undef) (w.setRow g (cur.take off ++ (vs ++ cur.drop (off + vs.length))).toArray)) : if Region.wanted o (yielded ops a.tmps) = true then Oper.wp Tryz.prog o a w K Q else E := by
 rw [if_pos (by simp [Region.wanted, hgd])]
 have hr := run_storeVar_agg (P := Tryz.prog) (w := w) g off t cur.toArray vs hg hi (by simpa using hfit) h1
 rw [List.append_assoc] at hr
 unfold Oper.wp execOp
 simp only [ho, hx, hy, Instr.storeAt, Instr.sureAddr, Sem.run_bind, Sem.run_pure, Result.andThen_ok, hr]
 exact h
def atR (k : Int) (n : Nat) : Nat := (max 0 (min k ((n : Int) - 1))).toNat
theorem atR_lt {k : Int} {n : Nat} (h : 0 < n) : atR k n < n := by unfold atR; omega
structure DoSt (w0 : World) (wb sb : Nat) (rs : List Int) (ws : List (Int → List Nat)) (rb rc vb vc xb tb : Nat) (D : List Value) (f : Int → List Nat) (wr : World) (A : SA) (M : SM) : Prop where
 run : RunSt w0 wb sb rs ws rb rc vb vc wr A M
 act : wr.heap[xb]? = some (.cells D.toArray 40 (0, 0))
 xap : Apart wr A xb
 tbox : wr.heap[tb]? = some (.cells (imgCells f).toArray 37 (0, 0))
 tap : Apart wr A tb
 base : w0.heap.size ≤ xb ∧ w0.heap.size ≤ tb
 ne : xb ≠ tb ∧ xb ≠ rb ∧ tb ≠ wb ∧ tb ≠ rb ∧ tb ≠ vb
section
variable {w0 wr w' : World} {wb sb rb rc vb vc xb tb : Nat} {rs : List Int} {ws : List (Int → List Nat)} {D : List Value} {f : Int → List Nat} {A A' : SA} {M M' : SM}
theorem DoSt.fresh (h : DoSt w0 wb sb rs ws rb rc vb vc xb tb D f wr A M) (k : Kept (fun _ => False) wr w') : DoSt w0 wb sb rs ws rb rc vb vc xb tb D f w' A M :=
 ⟨h.run.fresh k, k.get h.act id, h.xap.fresh k, k.get h.tbox id, h.tap.fresh k, h.base, h.ne⟩
theorem DoSt.to (h : DoSt w0 wb sb rs ws rb rc vb vc xb tb D f wr A M) (k : StoreTo A A' M' wr w') : DoSt w0 wb sb rs ws rb rc vb vc xb tb D f w' A' M' :=
 ⟨h.run.to k, k.get h.act h.xap.safe, h.xap.to k, k.get h.tbox h.tap.safe, h.tap.to k, h.base, h.ne⟩
theorem DoSt.setT (h : DoSt w0 wb sb rs ws rb rc vb vc xb tb D f wr A M) (g : Int → List Nat) : DoSt w0 wb sb rs ws rb rc vb vc xb tb D g (wr.setRow tb (imgCells g).toArray) A M := by
 have k := Kept.setRow (S := fun i => i = tb) (Kept.refl _ wr) rfl (imgCells g).toArray
 obtain ⟨n1, n2, n3, n4, n5⟩ := h.ne
 obtain ⟨b1, b2⟩ := h.base
 exact ⟨h.run.kept k (fun i hi e => h.tap.off (e ▸ hi)) (fun e => n3 e.symm) (fun e => n4 e.symm) (fun e => n5 e.symm) (fun i hi e => by omega), k.get h.act n1, h.xap.kept k, setRow_heap _ _ _ _ _ _ h.tbox, h.tap.kept k, h.base, h.ne⟩
theorem DoSt.root (h : DoSt w0 wb sb rs ws rb rc vb vc xb tb D f wr A M) {n : Nat} (hn : n < rs.length) (x : Int) : DoSt w0 wb sb (rs.set n x) ws rb rc vb vc xb tb D f (wr.setCell ⟨rb, n, none⟩ (.int .i64 x)) A M := by
 have k := (Kept.refl (fun i => i = rb) wr).setCell (p := ⟨rb, n, none⟩) rfl (.int .i64 x)
 obtain ⟨n1, n2, n3, n4, n5⟩ := h.ne
 exact ⟨h.run.setRoot hn x, k.get h.act n2, h.xap.kept k, k.get h.tbox n4, h.tap.kept k, h.base, h.ne⟩
theorem DoSt.tload (h : DoSt w0 wb sb rs ws rb rc vb vc xb tb D f wr A M) : ∀ j v, (imgCells f)[j]? = some v → wr.cell? ⟨tb, 0 + j, none⟩ = some v := fun j v hj => by rw [Nat.zero_add, cell_of_heap h.tbox]; simpa using hj
end
abbrev RunTo (w0 : World) (wb sb k : Nat) (M : SM) (w' : World) : Prop := ∃ A' M' is' rb' rc' vb' vc', RunSt w0 wb sb (is'.map IM.root) (is'.map IM.w) rb' rc' vb' vc' w' A' M' ∧ RunP (k + 1) M' is' ∧ M'.pool.size = M.pool.size
theorem maps_set (is : List IM) (n : Nat) (i : IM) : (is.set n i).map (·.root) = (is.map (·.root)).set n i.root ∧ (is.set n i).map (·.w) = (is.map (·.w)).set n i.w := ⟨List.map_set .., List.map_set ..⟩
theorem set_same {α : Type} {l : List α} {n : Nat} {a : α} (h : l[n]? = some a) : l.set n a = l := by
 refine List.ext_getElem? fun j => ?_
 rw [List.getElem?_set]
 by_cases e : n = j
 ·subst e
  rw [if_pos rfl, if_pos (List.getElem?_eq_some_iff.1 h).1, h]
 ·rw [if_neg e]
end Go.Proofs.YtidlchciehdefaaGreat
