/-
 One tree in a store, plain: a tree that is built; how dense one is that was built in order, and cut.
-/
import Derived.Test.YtdcnogjbmdhgaaaK09
import Derived.Test.YtdcnogjbmdhgaaaK12
import Derived.Test.YtdcnogjbmdhgaaaK16
import Derived.Test.YtdcnogjbmdhgaaaK22
import Derived.Test.YtdcnogjbmdhgaaaK23
import Derived.Test.YtdcnogjbmdhgaaaK24
set_option linter.unusedVariables false
set_option linter.unusedSimpArgs false
namespace Go.Proofs.Ytdcnogjbmdhgaaa
open Go.RowKit

section
variable {K : SM → Prop} {s c : Nat} {bl : List Nat} {M : SM} {root : Int} {l : List (Int × Int)} {P : Nat}
theorem build_one (hB : Besides K c) (hbl : bl.length ≤ 5) (hs : 5 + 73 + c + 20 ≤ s) : ∀ (ks : List (Int × Int)) {M : SM} {root : Int} {l : List (Int × Int)} {P : Nat}, OneTree K s bl M root l P → P + ks.length ≤ 150 →
  (∀ y ∈ ks, 0 ≤ y.1 ∧ y.1 < 64 ∧ ∃ b ∈ bl, y.2 = ((b : Nat) : Int)) →
  ∃ M' root', SM.build ks M root = (M', root', 0) ∧ OneTree K s bl M' root' (ks.foldl putL l) (P + ks.length) ∧ M'.log.length ≤ M.log.length + 22 * ks.length
 | [], M, root, _, _, h, _, _ => ⟨M, root, rfl, h, Nat.le_refl _⟩
 | x :: ks, M, root, l, P, h, hP, hks => by
  obtain ⟨hx0, hx1, hx2⟩ := hks x (List.mem_cons_self ..)
  obtain ⟨x1, x2⟩ := x
  dsimp only at hx0 hx1 hx2
  rw [List.length_cons] at hP
  obtain ⟨e1, e2, hI, _⟩ := one_put h hB (by omega) hbl hs hx0 hx1 hx2
  have hl1 := put_log M root x1 x2
  have hl2 := swap_log (M.put root x1 x2).1 root (M.put root x1 x2).2.1
  obtain ⟨M', root', e3, hI', hl⟩ := build_one hB hbl hs ks hI (by omega) (fun y hy => hks y (List.mem_cons_of_mem _ hy))
  refine ⟨M', root', ?_, by rw [List.length_cons, show P + (ks.length + 1) = P + 1 + ks.length by omega]; exact hI', by rw [hl2] at hl; rw [List.length_cons]; omega⟩
  rw [build_cons]
  dsimp only
  rw [if_pos e1, if_pos e2, e3]
end

theorem kids_len {T : Int → List (Int × Int) → Prop} {f : Int → Nat} (hT : ∀ q a, T q a → f q ≤ a.length) : ∀ {es l : List (Int × Int)}, Kids T es l → (es.map fun e => f e.2).sum ≤ l.length
 | [], _, _ => Nat.zero_le _
 | e :: es, _, ⟨a, b, x, h1, h2, _, _, h5⟩ => by
  have i1 := hT _ _ h2
  have i2 := kids_len hT h5
  rw [List.map_cons, List.sum_cons, h1, List.length_append]
  omega
theorem tr_ge {m : Nat} {M : SM} : ∀ {h : Nat} {p : Int} {l : List (Int × Int)}, Tr m M h p l → M.entN p ≤ l.length ∧ 1 ≤ M.entN p
 | 0, _, _, t => t.elim
 | h + 1, p, l, ⟨hp, n, hn, hok, k⟩ => by
  have hin := innerOk_of hok (by have := k.kind; omega)
  rw [entN_of hn]
  refine ⟨?_, hin.pos⟩
  rcases k with ⟨_, _, hl⟩ | ⟨_, _, hK⟩
  ·rw [hl]; exact Nat.le_refl _
  ·have := kids_len (f := fun _ => 1) (fun q a ha => Nat.le_trans (tr_ge ha.1).2 (tr_ge ha.1).1) hK
   have e : ∀ es : List (Int × Int), (es.map fun _ => 1).sum = es.length := fun es => by
    induction es with
    | nil => rfl
    | cons e es ih => rw [List.map_cons, List.sum_cons, ih, List.length_cons]; omega
   rw [e] at this
   exact this
def SM.tidy (M : SM) : SM := ⟨M.pool.turned 3 0, M.log⟩
def Mild (M : SM) : Prop := ∀ q, M.pool.st q ≤ 3
theorem tidy_live (M : SM) (q : Nat) : M.tidy.live q = M.live q := by
 unfold SM.tidy SM.live PM.live PM.turned
 dsimp only
 by_cases h : M.pool.st q = 3
 ·simp [h]
 ·simp [h]
theorem tidy_grown (M : SM) : Grown M M.tidy := ⟨rfl, fun q h => by rw [tidy_live]; exact h, fun _ _ => rfl⟩
theorem OneTree.tidy {K : SM → Prop} {s : Nat} {bl : List Nat} {M : SM} {root : Int} {l : List (Int × Int)} {P : Nat} (h : OneTree K s bl M root l P) : OneTree (fun _ => True) s bl M.tidy root l P := by
 refine ⟨exact_same h.exact rfl (fun _ => rfl) (tidy_live M) (fun _ _ => rfl), h.size, trivial, fun b hb => ?_, h.keys, ?_, fun q hq hc => h.loose q (by rw [← tidy_live]; exact hq) hc⟩
 ·obtain ⟨a, d⟩ := h.data b hb
  exact ⟨by rw [tidy_live]; exact a, d⟩
 ·rcases h.root with e | ⟨k, t, j⟩
  ·exact .inl e
  ·exact .inr ⟨k, Tr.grown (tidy_grown M) t, Led.grown (tidy_grown M) t j⟩
structure IM where
 root : Int
 l : List (Int × Int)
 P : Nat
 w : Int → List Nat
def IM.none : IM := ⟨-1, [], 0, fun _ => zeros16⟩
def extL (rs : List Int) : Nat → Nat := fun p => rs.count (p : Int)
section
variable {m : Nat} {M N : SM} {is : List IM} {i : IM} {k : Nat}
def SM.commit (M : SM) : SM := ⟨{ M.pool with st := fun _ => 0 }, M.log⟩
theorem extL_pos {rs : List Int} {r : Int} (h : r ∈ rs) (h0 : 0 ≤ r) : 0 < extL rs r.toNat := by
 unfold extL
 rw [Int.toNat_of_nonneg h0]
 exact List.count_pos_iff.2 h
theorem extL_root {rs : List Int} {r : Int} (h : r ∈ rs) (h0 : -1 ≤ r) : r = -1 ∨ 0 < extL rs r.toNat := by
 by_cases e : r = -1
 ·exact .inl e
 ·exact .inr (extL_pos h (by omega))
theorem extL_set {rs : List Int} {r next : Int} {k : Nat} (h : rs[k]? = some r) (p : Nat) : swapE (extL rs) r next p = extL (rs.set k next) p := by
 have hk : k < rs.length := (List.getElem?_eq_some_iff.1 h).1
 have hr := (List.getElem?_eq_some_iff.1 h).2
 unfold swapE extL
 rw [List.count_set hk, hr]
 by_cases e1 : (p : Int) = r <;> by_cases e2 : (p : Int) = next
 ·rw [if_pos e1, if_pos e2]
  have a1 : (r == (p : Int)) = true := by simp [e1]
  have a2 : (next == (p : Int)) = true := by simp [e2]
  simp only [a1, a2, if_true]
  have : 0 < List.count (p : Int) rs := List.count_pos_iff.2 (by rw [e1, ← hr]; exact List.getElem_mem hk)
  omega
 ·rw [if_pos e1, if_neg e2]
  have a1 : (r == (p : Int)) = true := by simp [e1]
  have a2 : (next == (p : Int)) = false := by simp; omega
  simp only [a1, a2, if_true]
  simp
 ·rw [if_neg e1, if_pos e2]
  have a1 : (r == (p : Int)) = false := by simp; omega
  have a2 : (next == (p : Int)) = true := by simp [e2]
  simp only [a1, a2, if_true]
  simp
 ·rw [if_neg e1, if_neg e2]
  have a1 : (r == (p : Int)) = false := by simp; omega
  have a2 : (next == (p : Int)) = false := by simp; omega
  simp only [a1, a2]
  simp
theorem TreeIn.low {m : Nat} {M : SM} {root : Int} {l : List (Int × Int)} {P : Nat} (t : TreeIn m M root l P) : -1 ≤ root := by
 rcases t.root with ⟨e, _⟩ | ⟨_, t, _⟩
 ·omega
 ·have := (heldB_int t.held).1; omega
end
def SM.marked (M : SM) : SM := markM M.tidy
def SM.safely (M : SM) (r : SM × Int × Nat) : SM × Int × Nat := if r.2.2 = 0 then r else (⟨M.marked.pool, r.1.log⟩, -1, r.2.2)
def SM.write1 (M : SM) (root key : Int) (b : List Nat) : SM × Int × Nat := let m := M.make ⟨1, b, []⟩; if m.2.2 = 0 then m.1.changes [(key, m.2.1)] root else (m.1, -1, m.2.2)
def SM.write (M : SM) (root key : Int) (b : List Nat) : SM × Int × Nat := if key < 0 ∨ 63 < key then (M, -1, 101) else M.safely (M.marked.write1 root key b)
section
variable {m : Nat} {M : SM} {is : List IM} {i : IM} {k : Nat}
end
def findL : List (Int × Int) → Int → Int
 | [], _ => -1
 | y :: l, key => if y.1 = key then y.2 else findL l key
theorem findL_none : ∀ {l : List (Int × Int)} {key : Int}, (∀ y ∈ l, y.1 ≠ key) → findL l key = -1
 | [], _, _ => rfl
 | y :: l, key, h => by
  unfold findL
  rw [if_neg (h y (List.mem_cons_self ..)), findL_none fun z hz => h z (List.mem_cons_of_mem _ hz)]
theorem heightF_succ (f : Nat) (M : SM) (root : Int) : SM.heightF (f + 1) M root = if root = -1 then (8 - f, 0) else
   if (M.tnode root (8 - f)).2 = 0 then
    if (M.tnode root (8 - f)).1.kind = 2 then (8 - f + 1, 0) else SM.heightF f M ((M.tnode root (8 - f)).1.ents.getD 0 (0, 0)).2
   else (0, (M.tnode root (8 - f)).2) := rfl
theorem height_ok {m : Nat} {M : SM} : ∀ (h d : Nat) (p : Int) (l : List (Int × Int)), h + d ≤ 8 → Tr m M h p l → SM.heightF (9 - d) M p = (d + h, 0)
 | 0, _, _, _, _, t => t.elim
 | h + 1, d, p, l, hd, t => by
  obtain ⟨n, hn, hna, hok, k⟩ := tnode_tr t (d := d) (by omega)
  have hp0 := (heldB_int t.held).1
  rw [show 9 - d = (8 - d) + 1 by omega, heightF_succ, show 8 - (8 - d) = d by omega, hn]
  dsimp only
  rw [if_neg (by omega), if_pos rfl]
  rcases k with ⟨h0, hk, hl⟩ | ⟨h0, hk, hK⟩
  ·rw [if_pos hk, h0]
  ·rw [if_neg (by omega)]
   have hin := innerOk_of hok (by omega)
   have hpos := hin.pos
   cases hes : n.ents with
   | nil => rw [hes] at hpos; exact absurd hpos (by decide)
   | cons e es =>
    rw [hes] at hK
    obtain ⟨a, b, x, _, hT, _⟩ := hK
    have := height_ok h (d + 1) e.2 a (by omega) hT.1
    rw [show 9 - (d + 1) = 8 - d by omega] at this
    show SM.heightF (8 - d) M e.2 = _
    rw [this]
    congr 1
    omega
section
variable {K : SM → Prop} {s : Nat} {bl : List Nat} {M : SM} {root : Int} {l : List (Int × Int)} {P : Nat}
theorem OneTree.height (h : OneTree K s bl M root l P) (hP : P ≤ 150) : ∃ k, M.height root = (k, 0) ∧ k ≤ 5 ∧ (l ≠ [] → 1 ≤ k) := by
 rcases h.root with ⟨e, el⟩ | ⟨k, t, j⟩
 ·subst e el
  exact ⟨0, rfl, by omega, fun e => absurd rfl e⟩
 ·refine ⟨k, ?_, (led_pages t j (by omega)).1, fun _ => tr_pos t⟩
  have := height_ok k 0 root l (by have := (led_pages t j (by omega)).1; omega) t
  rw [Nat.zero_add] at this
  exact this
end
def putStep (x : Int × Int) (s : List (Int × Int) × Bool) (y : Int × Int) : List (Int × Int) × Bool :=
 let s1 := if s.2 = false ∧ x.1 ≤ y.1 then (s.1 ++ [x], true) else s
 (if y.1 ≠ x.1 then s1.1 ++ [y] else s1.1, s1.2)
def refPut (l : List (Int × Int)) (x : Int × Int) : List (Int × Int) :=
 let s := l.foldl (putStep x) ([], false)
 if s.2 then s.1 else s.1 ++ [x]
theorem put_true (x : Int × Int) : ∀ (l a : List (Int × Int)), l.foldl (putStep x) (a, true) = (a ++ l.filter fun y => decide (y.1 ≠ x.1), true)
 | [], a => by simp
 | y :: l, a => by
  rw [List.foldl_cons]
  have : putStep x (a, true) y = (a ++ [y].filter (fun y => decide (y.1 ≠ x.1)), true) := by
   unfold putStep
   by_cases e : y.1 = x.1 <;> simp [e]
  rw [this, put_true x l, List.append_assoc, ← List.filter_append, List.singleton_append]
theorem refPut_eq {l : List (Int × Int)} (hr : RisesK l) (x : Int × Int) : refPut l x = putL l x := by
 have key : ∀ (l a : List (Int × Int)), RisesK l → (let s := l.foldl (putStep x) (a, false); if s.2 then s.1 else s.1 ++ [x]) = a ++ putL l x := by
  intro l
  induction l with
  | nil => intro a _; rfl
  | cons y l ih =>
   intro a hr
   have hr' := List.pairwise_cons.1 hr
   rw [List.foldl_cons]
   by_cases hy : x.1 ≤ y.1
   ·have hst : putStep x (a, false) y = (a ++ [x] ++ [y].filter (fun y => decide (y.1 ≠ x.1)), true) := by
     unfold putStep
     by_cases e : y.1 = x.1
     ·have : x.1 ≤ x.1 := Int.le_refl _
      simp [e]
     ·simp [e, hy]
    have hall : l.filter (fun y => decide (y.1 ≠ x.1)) = l := filter_all fun z hz => by have := hr'.1 z hz; simp; omega
    have h1 : (y :: l).filter (fun z => decide (z.1 < x.1)) = [] := filter_none fun z hz => by
     rcases List.mem_cons.1 hz with rfl | hz
     ·simp; omega
     ·have := hr'.1 z hz; simp; omega
    have h2 : l.filter (fun z => decide (x.1 < z.1)) = l := filter_all fun z hz => by have := hr'.1 z hz; simp; omega
    rw [hst, put_true]
    dsimp only
    rw [if_pos rfl, hall]
    unfold putL
    rw [h1, List.nil_append, List.append_assoc, List.append_assoc]
    congr 2
    by_cases e : y.1 = x.1
    ·have h3 : (y :: l).filter (fun z => decide (x.1 < z.1)) = l := by rw [List.filter_cons_of_neg (by simp; omega), h2]
     rw [h3]
     simp [e]
    ·have h3 : (y :: l).filter (fun z => decide (x.1 < z.1)) = y :: l := by rw [List.filter_cons_of_pos (by simp; omega), h2]
     rw [h3]
     simp [e]
   ·have hst : putStep x (a, false) y = (a ++ [y], false) := by
     unfold putStep
     have : y.1 ≠ x.1 := by omega
     simp [hy, this]
    rw [hst, ih _ hr'.2]
    unfold putL
    rw [List.filter_cons_of_pos (by simp; omega), List.filter_cons_of_neg (by simp; omega)]
    simp
 have := key l [] hr
 rw [List.nil_append] at this
 exact this
section
variable {K : SM → Prop} {s c : Nat} {bl : List Nat} {M : SM} {root : Int} {l : List (Int × Int)} {P : Nat}
theorem OneTree.none (h : OneTree K s bl M root l P) : (root = -1 ↔ l = []) := by
 rcases h.root with ⟨e, el⟩ | ⟨k, t, _⟩
 ·exact ⟨fun _ => el, fun _ => e⟩
 ·have h0 := (heldB_int t.held).1
  have h1 := tr_ge t
  refine ⟨fun e => ?_, fun e => ?_⟩
  ·omega
  ·rw [e] at h1
   simp at h1
   omega
theorem OneTree.range (h : OneTree K s bl M root l P) : -1 ≤ root ∧ root < 240 := by
 rcases h.root with ⟨e, _⟩ | ⟨k, t, _⟩
 ·omega
 ·obtain ⟨h0, h1⟩ := heldB_int t.held
  have := live_lt (M := M) h1
  have := h.exact.size
  omega
theorem OneTree.out (h : OneTree K s bl M root l P) {key : Int} (hk : key < 0 ∨ 63 < key) : cutL l key = l := cutL_none fun y hy => by
 have := h.keys.2 y hy
 omega
end
set_option maxRecDepth 100000

theorem cut_log {w : World} {A : SA} {M : SM} (h : StoreAt w A M) (root key : Int) : (M.cut root key).1.log.length ≤ M.log.length + 20 := by
 have h1 := (cutF_log h 9 root key).1
 have h2 := (split_bound (SM.cutF 9 M root key).1 (SM.cutF 9 M root key).2.1).1
 unfold SM.cut
 split
 ·dsimp only; omega
 ·split
  ·dsimp only; omega
  ·dsimp only
   split
   ·dsimp only; omega
   ·split
    ·dsimp only; omega
    ·split
     ·dsimp only; omega
     ·split <;> (dsimp only; omega)
set_option maxHeartbeats 8000000 in
theorem pruneCut {w : World} {A : SA} {M : SM} (h : StoreAt w A M) (root key : Int) (hfew : M.log.length + 30 < 100000000) :
  Calls Try.prog 44 #[.agg #[.pointer (some ⟨A.sb, 0, none⟩)], .int .i64 root, .int .i64 key] w fun e w' => ∃ A', e = .returned (.tuple #[.int .i64 (M.cut root key).2.1, .bool (M.cut root key).2.2.1, .int .i64 (M.cut root key).2.2.2]) ∧ StoreTo A A' (M.cut root key).1 w w' := by
 obtain ⟨w1, hw1⟩ : ∃ w1, w.alloc (.cells #[.pointer (some ⟨A.sb, 0, none⟩)] 29) = w1 := ⟨_, rfl⟩
 have k1 : Kept (fun _ => False) w w1 := by rw [← hw1]; exact (Kept.refl _ _).alloc _
 have s1 : w1.heap.size = w.heap.size + 1 := by rw [← hw1]; simp
 have t1 : w1.heap[w.heap.size]? = some (.cells #[.pointer (some ⟨A.sb, 0, none⟩)] 29 (0, 0)) := by rw [← hw1]; exact heap_alloc_new _ _
 have k1' := h_ k1
 have hw1' := h_ hw1
 have h' := h_ h
 by_cases hk0 : key < 0
 ·have e : Hid (M.cut root key = (M, -1, false, 101)) := h_ (by unfold SM.cut; rw [if_pos (.inl hk0)])
  clear hw1 k1 s1 t1 h
  go_enter Try.func44, Try.ntmps44
  go_wp2_with (first | (refine wpList_box_named 29 rfl rfl _ rfl hw1'.out ?_))
  go_ret3
  first | exact ⟨A, by rw [e.out]; rfl, by rw [e.out]; exact (StoreTo.refl h'.out).fresh k1'.out⟩ | exact ⟨by rw [e.out]; rfl, A, by rw [e.out]; exact (StoreTo.refl h'.out).fresh k1'.out⟩
 by_cases hk1 : 64 ≤ key
 ·have e : Hid (M.cut root key = (M, -1, false, 101)) := h_ (by unfold SM.cut; rw [if_pos (.inr hk1)])
  clear hw1 k1 s1 t1 h
  go_enter Try.func44, Try.ntmps44
  go_wp2_with (first | (refine wpList_box_named 29 rfl rfl _ rfl hw1'.out ?_))
  go_ret3
  first | exact ⟨A, by rw [e.out]; rfl, by rw [e.out]; exact (StoreTo.refl h'.out).fresh k1'.out⟩ | exact ⟨by rw [e.out]; rfl, A, by rw [e.out]; exact (StoreTo.refl h'.out).fresh k1'.out⟩
 by_cases hr : root = -1
 ·subst hr
  have e : Hid (M.cut (-1) key = (M, -1, false, 0)) := h_ (by unfold SM.cut; rw [if_neg (by omega), if_pos rfl])
  clear hw1 k1 s1 t1 h
  go_enter Try.func44, Try.ntmps44
  go_wp2_with (first | (refine wpList_box_named 29 rfl rfl _ rfl hw1'.out ?_))
  go_ret3
  first | exact ⟨A, by rw [e.out]; rfl, by rw [e.out]; exact (StoreTo.refl h'.out).fresh k1'.out⟩ | exact ⟨by rw [e.out]; rfl, A, by rw [e.out]; exact (StoreTo.refl h'.out).fresh k1'.out⟩
 have hrb : (root == -1) = false := by simpa using hr
 have hP := pruneCutF 9 (by omega) (Nat.le_refl _) root key (h.fresh k1) (by omega)
 have hlog := (cutF_log h 9 root key).1
 have hcut : Hid (M.cut root key = if (SM.cutF 9 M root key).2.2.2 ≠ 0 then ((SM.cutF 9 M root key).1, -1, false, (SM.cutF 9 M root key).2.2.2)
   else if (SM.cutF 9 M root key).2.2.1 = false then ((SM.cutF 9 M root key).1, root, false, 0)
   else if (SM.cutF 9 M root key).2.1.kind = 3 ∧ (SM.cutF 9 M root key).2.1.ents.length = 1 then ((SM.cutF 9 M root key).1, ((SM.cutF 9 M root key).2.1.ents.getD 0 (0, 0)).2, true, 0)
   else if ((SM.cutF 9 M root key).1.split (SM.cutF 9 M root key).2.1).2.2 ≠ 0 ∨ ((SM.cutF 9 M root key).1.split (SM.cutF 9 M root key).2.1).2.1.length = 0 then (((SM.cutF 9 M root key).1.split (SM.cutF 9 M root key).2.1).1, -1, ((SM.cutF 9 M root key).1.split (SM.cutF 9 M root key).2.1).2.2 == 0, ((SM.cutF 9 M root key).1.split (SM.cutF 9 M root key).2.1).2.2)
   else (((SM.cutF 9 M root key).1.split (SM.cutF 9 M root key).2.1).1, (((SM.cutF 9 M root key).1.split (SM.cutF 9 M root key).2.1).2.1.getD 0 (0, 0)).2, true, 0)) := h_ (by unfold SM.cut; rw [if_neg (by omega), if_neg hr])
 obtain ⟨R, hR⟩ : ∃ R, SM.cutF 9 M root key = R := ⟨_, rfl⟩
 rw [hR] at hP hlog
 simp only [hR] at hcut
 obtain ⟨M1, n1, was, er⟩ := R
 dsimp only at hP hlog hcut
 have hP' := h_ hP
 obtain ⟨Z, hZ⟩ : ∃ Z, nodeCells NM.zero (.slice none 0 0) = Z := ⟨_, rfl⟩
 have hZz : Hid ((Try.prog.info? 71).map (·.zero) = some (some (.agg Z.toArray))) := h_ (by rw [← hZ]; exact node_zero)
 have hZl : Hid (Z.length = 18) := h_ (by rw [← hZ]; exact nodeCells_len _ _)
 have t1' := h_ t1
 have sf1 : Hid (Safe w1 A w.heap.size) := h_ (Safe.new h (Nat.le_refl _) (by omega))
 have hload1 : Hid (∀ j v, [Value.pointer (some ⟨A.sb, 0, none⟩)][j]? = some v → w1.cell? ⟨w.heap.size, 0 + j, none⟩ = some v) := h_ (fun j v hj => by rw [Nat.zero_add, cell_of_heap t1]; simpa using hj)
 have st1 := h_ ((StoreTo.refl h).fresh k1)
 have hsz1 := s1
 clear hw1 k1 s1 t1 h hP hR hr hZ
 go_enter Try.func44, Try.ntmps44
 go_wp2_with (first | (refine wpList_box_named 29 rfl rfl _ rfl hw1'.out ?_) | (refine wpList_load_agg 29 rfl rfl rfl _ Try.underlying29 rfl [.pointer (some ⟨A.sb, 0, none⟩)] (by kernel_rfl) hload1.out ?_))
 refine hP'.out.mono ?_
 rintro e' w3 ⟨A3, v, rfl, hT3, hO3⟩
 obtain ⟨Av, cap, rfl, hf1, hf2⟩ := EntsAt.form hO3.ents.at_
 unfold maxLen at hf2
 obtain ⟨F, hF⟩ : ∃ F, nodeCells n1 (.slice Av n1.ents.length cap) = F := ⟨_, rfl⟩
 have hFl : Hid (F.length = 18) := h_ (by rw [← hF]; exact nodeCells_len _ _)
 have hF1 : Hid (∀ v ∈ F, v.oneCell' = true) := h_ (by rw [← hF]; exact nodeCells_one _ _ _ _)
 obtain ⟨nb, hnb⟩ : ∃ nb, w3.heap.size = nb := ⟨_, rfl⟩
 obtain ⟨w5, hw5⟩ : ∃ w5, (w3.alloc (.cells Z.toArray 71)).setRow nb F.toArray = w5 := ⟨_, rfl⟩
 have k5 : Kept (fun _ => False) w3 w5 := by rw [← hw5]; exact ((Kept.refl _ _).alloc _).setRowNew (by omega) _
 have q5 := h_ (show w5.heap[nb]? = some (.cells F.toArray 71 (0, 0)) by rw [← hw5, ← hnb]; exact setRow_heap _ _ _ _ _ _ (heap_alloc_new _ _))
 have bx5 : NodeBox w5 nb n1 (.slice Av n1.ents.length cap) := ⟨by rw [hF]; exact q5.out⟩
 have c0 := bx5.c0
 have c17 := bx5.c17
 have t5 := h_ (k5.get (hT3.get t1'.out sf1.out) id)
 have ct5 := cell_of_heap t5.out 0
 simp at ct5
 have hT5 := h_ ((st1.out.trans hT3).fresh k5)
 have hsb := hT3.sb
 have hO5 := h_ (hO3.ents.fresh k5)
 have hSp := treeSplit hT5.out.store hO5.out (by omega)
 rw [hF, hsb] at hSp
 have hSp' := h_ hSp
 have hnb' := h_ hnb
 have hw5' := h_ hw5
 rw [hF]
 clear hT3 hO3 hF hnb hw5 k5 hSp hsb bx5
 by_cases h0 : er = 0
 ·subst h0
  rw [if_neg (by simp)] at hcut
  cases was with
  | false =>
   rw [if_pos rfl] at hcut
   go_wp2_with (first | (refine wpList_alloc_as 71 rfl rfl Z.toArray hZz.out ?_; rw [hnb'.out]) | (refine wpList_store_whole 71 rfl rfl rfl F rfl (by rw [hFl.out]; exact node_size) 71 _ (by rw [← hnb'.out]; exact heap_alloc_new _ _) (by simp [hFl.out, hZl.out]) hF1.out ?_; rw [hw5'.out]))
   go_ret3
   first | exact ⟨A3, by rw [hcut.out]; rfl, by rw [hcut.out]; exact hT5.out⟩ | exact ⟨by rw [hcut.out]; rfl, A3, by rw [hcut.out]; exact hT5.out⟩
  | true =>
   rw [if_neg (by simp)] at hcut
   by_cases hone : n1.kind = 3 ∧ n1.ents.length = 1
   ·obtain ⟨hk3, hl1⟩ := hone
    rw [if_pos ⟨hk3, hl1⟩] at hcut
    obtain ⟨x, hx⟩ : ∃ x, n1.ents[0]? = some x := ⟨_, List.getElem?_eq_getElem (by omega)⟩
    obtain ⟨b, off, rfl, _, hx1, hx2⟩ := EntsAt.get hO5.out.at_ hx
    have hxd : n1.ents.getD 0 (0, 0) = x := by simp [hx]
    rw [hxd] at hcut
    rw [Nat.zero_mul, Nat.add_zero] at hx1 hx2
    rw [hk3] at c0
    rw [hl1] at c17
    clear hx hxd hk3 hl1 hf1
    go_wp2_with (first | (refine wpList_alloc_as 71 rfl rfl Z.toArray hZz.out ?_; rw [hnb'.out]) | (refine wpList_store_whole 71 rfl rfl rfl F rfl (by rw [hFl.out]; exact node_size) 71 _ (by rw [← hnb'.out]; exact heap_alloc_new _ _) (by simp [hFl.out, hZl.out]) hF1.out ?_; rw [hw5'.out]))
    go_ret3
    first | exact ⟨A3, by rw [hcut.out]; rfl, by rw [hcut.out]; exact hT5.out⟩ | exact ⟨by rw [hcut.out]; rfl, A3, by rw [hcut.out]; exact hT5.out⟩
   ·rw [if_neg hone] at hcut
    obtain ⟨R, hR⟩ : ∃ R, M1.split n1 = R := ⟨_, rfl⟩
    rw [hR] at hSp'
    simp only [hR] at hcut
    obtain ⟨M2, out, er2⟩ := R
    dsimp only at hSp' hcut
    clear hR
    have fin : Hid (∀ w6 A6, StoreTo A3 A6 M2 w5 w6 → StoreTo A A6 M2 w w6) := h_ (fun w6 A6 k => hT5.out.trans k)
    by_cases hk3 : n1.kind = 3
    ·have hl1 : ((n1.ents.length : Int) == 1) = false := by rw [beq_eq_false_iff_ne]; intro e; exact hone ⟨hk3, by omega⟩
     rw [hk3] at c0
     clear hk3 hone
     go_wp2_with (first | (refine wpList_alloc_as 71 rfl rfl Z.toArray hZz.out ?_; rw [hnb'.out]) | (refine wpList_store_whole 71 rfl rfl rfl F rfl (by rw [hFl.out]; exact node_size) 71 _ (by rw [← hnb'.out]; exact heap_alloc_new _ _) (by simp [hFl.out, hZl.out]) hF1.out ?_; rw [hw5'.out]) | (refine wpList_load_agg 27 rfl rfl rfl _ Try.underlying27 rfl [.pointer (some ⟨A.sb, 0, none⟩)] (by kernel_rfl) (fun j v hj => by rw [Nat.zero_add, cell_of_heap t5.out]; simpa using hj) ?_) | (refine wpList_load_agg 71 rfl rfl rfl _ Try.underlying71 rfl F (by rw [hFl.out]; exact node_size) (fun j v hv => by rw [cell_of_heap q5.out, Nat.zero_add]; simpa using hv) ?_))
     refine hSp'.out.mono ?_
     rintro e w6 ⟨A6, v6, rfl, hT6, hO6⟩
     obtain ⟨Av6, cap6, rfl, hg1, hg2⟩ := hO6.ents.at_.form
     unfold maxLen at hg2
     have hTT := h_ (fin.out _ _ hT6)
     have hO6' := h_ hO6
     clear hT6 hO6
     by_cases h2 : er2 = 0
     ·subst h2
      by_cases hl2 : out.length = 0
      ·rw [if_pos (Or.inr hl2)] at hcut
       have hlb2 : ((out.length : Int) == 0) = true := by simp [hl2]
       clear hl2
       go_wp2_with fail
       go_ret3
       first | exact ⟨A6, by rw [hcut.out]; rfl, by rw [hcut.out]; exact hTT.out⟩ | exact ⟨by rw [hcut.out]; rfl, A6, by rw [hcut.out]; exact hTT.out⟩
      ·rw [if_neg (by simp only [ne_eq, not_true_eq_false, false_or]; exact hl2)] at hcut
       obtain ⟨x, hx⟩ : ∃ x, out[0]? = some x := ⟨_, List.getElem?_eq_getElem (by omega)⟩
       obtain ⟨b, off, rfl, _, hx1, hx2⟩ := EntsAt.get hO6'.out.ents.at_ hx
       have hxd : out.getD 0 (0, 0) = x := by simp [hx]
       rw [hxd] at hcut
       rw [Nat.zero_mul, Nat.add_zero] at hx1 hx2
       have hlb2 : ((out.length : Int) == 0) = false := by rw [beq_eq_false_iff_ne]; omega
       have hpos : 0 < out.length := by omega
       clear hx hxd hl2
       go_wp2_with fail
       go_ret3
       first | exact ⟨A6, by rw [hcut.out]; rfl, by rw [hcut.out]; exact hTT.out⟩ | exact ⟨by rw [hcut.out]; rfl, A6, by rw [hcut.out]; exact hTT.out⟩
     ·rw [if_pos (Or.inl h2)] at hcut
      have h2' : ((er2 : Int) == 0) = false := by rw [beq_eq_false_iff_ne]; omega
      have h2b : ((er2 : Int) != 0) = true := by rw [bne, h2']; rfl
      have h2c : (er2 == 0) = false := by rw [beq_eq_false_iff_ne]; exact h2
      rw [h2c] at hcut
      clear h2
      go_wp2_with fail
      go_ret3
      first | exact ⟨A6, by rw [hcut.out]; rfl, by rw [hcut.out]; exact hTT.out⟩ | exact ⟨by rw [hcut.out]; rfl, A6, by rw [hcut.out]; exact hTT.out⟩
    ·have hkb : (n1.kind == 3) = false := by simpa using hk3
     clear hk3 hone
     go_wp2_with (first | (refine wpList_alloc_as 71 rfl rfl Z.toArray hZz.out ?_; rw [hnb'.out]) | (refine wpList_store_whole 71 rfl rfl rfl F rfl (by rw [hFl.out]; exact node_size) 71 _ (by rw [← hnb'.out]; exact heap_alloc_new _ _) (by simp [hFl.out, hZl.out]) hF1.out ?_; rw [hw5'.out]) | (refine wpList_load_agg 27 rfl rfl rfl _ Try.underlying27 rfl [.pointer (some ⟨A.sb, 0, none⟩)] (by kernel_rfl) (fun j v hj => by rw [Nat.zero_add, cell_of_heap t5.out]; simpa using hj) ?_) | (refine wpList_load_agg 71 rfl rfl rfl _ Try.underlying71 rfl F (by rw [hFl.out]; exact node_size) (fun j v hv => by rw [cell_of_heap q5.out, Nat.zero_add]; simpa using hv) ?_))
     refine hSp'.out.mono ?_
     rintro e w6 ⟨A6, v6, rfl, hT6, hO6⟩
     obtain ⟨Av6, cap6, rfl, hg1, hg2⟩ := hO6.ents.at_.form
     unfold maxLen at hg2
     have hTT := h_ (fin.out _ _ hT6)
     have hO6' := h_ hO6
     clear hT6 hO6
     by_cases h2 : er2 = 0
     ·subst h2
      by_cases hl2 : out.length = 0
      ·rw [if_pos (Or.inr hl2)] at hcut
       have hlb2 : ((out.length : Int) == 0) = true := by simp [hl2]
       clear hl2
       go_wp2_with fail
       go_ret3
       first | exact ⟨A6, by rw [hcut.out]; rfl, by rw [hcut.out]; exact hTT.out⟩ | exact ⟨by rw [hcut.out]; rfl, A6, by rw [hcut.out]; exact hTT.out⟩
      ·rw [if_neg (by simp only [ne_eq, not_true_eq_false, false_or]; exact hl2)] at hcut
       obtain ⟨x, hx⟩ : ∃ x, out[0]? = some x := ⟨_, List.getElem?_eq_getElem (by omega)⟩
       obtain ⟨b, off, rfl, _, hx1, hx2⟩ := EntsAt.get hO6'.out.ents.at_ hx
       have hxd : out.getD 0 (0, 0) = x := by simp [hx]
       rw [hxd] at hcut
       rw [Nat.zero_mul, Nat.add_zero] at hx1 hx2
       have hlb2 : ((out.length : Int) == 0) = false := by rw [beq_eq_false_iff_ne]; omega
       have hpos : 0 < out.length := by omega
       clear hx hxd hl2
       go_wp2_with fail
       go_ret3
       first | exact ⟨A6, by rw [hcut.out]; rfl, by rw [hcut.out]; exact hTT.out⟩ | exact ⟨by rw [hcut.out]; rfl, A6, by rw [hcut.out]; exact hTT.out⟩
     ·rw [if_pos (Or.inl h2)] at hcut
      have h2' : ((er2 : Int) == 0) = false := by rw [beq_eq_false_iff_ne]; omega
      have h2b : ((er2 : Int) != 0) = true := by rw [bne, h2']; rfl
      have h2c : (er2 == 0) = false := by rw [beq_eq_false_iff_ne]; exact h2
      rw [h2c] at hcut
      clear h2
      go_wp2_with fail
      go_ret3
      first | exact ⟨A6, by rw [hcut.out]; rfl, by rw [hcut.out]; exact hTT.out⟩ | exact ⟨by rw [hcut.out]; rfl, A6, by rw [hcut.out]; exact hTT.out⟩
 ·rw [if_pos h0] at hcut
  have h0' : ((er : Int) == 0) = false := by rw [beq_eq_false_iff_ne]; omega
  clear h0
  go_wp2_with (first | (refine wpList_alloc_as 71 rfl rfl Z.toArray hZz.out ?_; rw [hnb'.out]) | (refine wpList_store_whole 71 rfl rfl rfl F rfl (by rw [hFl.out]; exact node_size) 71 _ (by rw [← hnb'.out]; exact heap_alloc_new _ _) (by simp [hFl.out, hZl.out]) hF1.out ?_; rw [hw5'.out]))
  go_ret3
  first | exact ⟨A3, by rw [hcut.out]; rfl, by rw [hcut.out]; exact hT5.out⟩ | exact ⟨by rw [hcut.out]; rfl, A3, by rw [hcut.out]; exact hT5.out⟩

theorem findL_neg : ∀ {l : List (Int × Int)} {k : Int}, (∀ y ∈ l, 0 ≤ y.2) → findL l k = -1 → ∀ y ∈ l, y.1 ≠ k
 | [], _, _, _, y, hy => by cases hy
 | z :: l, k, h0, hf, y, hy => by
  unfold findL at hf
  have hz := h0 z (List.mem_cons_self ..)
  by_cases e : z.1 = k
  ·rw [if_pos e] at hf
   omega
  ·rw [if_neg e] at hf
   rcases List.mem_cons.1 hy with rfl | hy
   ·exact e
   ·exact findL_neg (fun y hy => h0 y (List.mem_cons_of_mem _ hy)) hf y hy
theorem findL_pos : ∀ {l : List (Int × Int)} {k : Int}, findL l k ≠ -1 → (k, findL l k) ∈ l
 | [], _, h => absurd rfl h
 | z :: l, k, h => by
  unfold findL at h ⊢
  by_cases e : z.1 = k
  ·rw [if_pos e]
   rw [← e]
   exact List.mem_cons_self ..
  ·rw [if_neg e] at h ⊢
   exact List.mem_cons_of_mem _ (findL_pos h)
section
variable {K : SM → Prop} {s c : Nat} {bl : List Nat} {M : SM} {root : Int} {l : List (Int × Int)} {P : Nat}
end
def Spent (M0 M : SM) : Prop := ∀ q, M.pool.st q ≤ 3 ∧ (2 ≤ M.pool.st q → q < M0.pool.size → M0.live q = true) ∧ (0 < M.pool.cnt q → M.pool.st q = 1 ∨ M.pool.st q = 2)
def Since (M0 M : SM) : Prop := Marked M0 M ∧ Spent M0 M
theorem since_mild {M0 M : SM} (h : Since M0 M) : Mild M := fun q => (h.2 q).1
theorem OneTree.same {K K' : SM → Prop} {s : Nat} {bl : List Nat} {M N : SM} {root : Int} {l : List (Int × Int)} {P : Nat} (h : OneTree K s bl M root l P) (hk : K' N) (hs : N.pool.size = M.pool.size)
  (hc : ∀ q, N.pool.cnt q = M.pool.cnt q) (hl : ∀ q, N.live q = M.live q) (hn : ∀ q, M.live q = true → N.nodeAt q = M.nodeAt q) : OneTree K' s bl N root l P := by
 have g := grown_same hs hl hn
 refine ⟨exact_same h.exact hs hc hl hn, hs.trans h.size, hk, fun b hb => ?_, h.keys, ?_, fun q hq hq0 => h.loose q (by rw [← hl]; exact hq) (by rw [← hc]; exact hq0)⟩
 ·obtain ⟨a, d⟩ := h.data b hb
  exact ⟨by rw [hl]; exact a, by rw [hn b a]; exact d⟩
 ·rcases h.root with e | ⟨k, t, j⟩
  ·exact .inl e
  ·exact .inr ⟨k, Tr.grown g t, Led.grown g t j⟩
section
variable {s : Nat} {bl : List Nat} {M : SM} {root : Int} {l : List (Int × Int)} {P : Nat}
theorem OneTree.marked (h : OneTree Clean s bl M root l P) : OneTree (Since (markM M)) s bl (markM M) root l P := by
 refine h.same ⟨mark_start M, fun q => ?_⟩ rfl (fun _ => rfl) (mark_live M) (fun _ _ => rfl)
 have hk := h.kk q
 have e : (markM M).pool.st q = if M.pool.st q = 1 then 2 else M.pool.st q := rfl
 refine ⟨by rw [e]; split <;> omega, fun h2 hq => ?_, fun h2 => ?_⟩
 ·rw [e] at h2
  have h1 : M.pool.st q = 1 := by
   by_cases h1 : M.pool.st q = 1
   ·exact h1
   ·rw [if_neg h1] at h2; omega
  rw [mark_live]
  unfold SM.live PM.live
  rw [h1]
  have hq' : q < M.pool.size := hq
  simp [hq']
 ·rw [e, if_pos (hk.2 h2)]
  exact .inr rfl
theorem OneTree.undone {N : SM} (h : OneTree (Since M) s bl M root l P) (hn : Since M N) : OneTree Mild s bl ⟨M.pool, N.log⟩ root l P :=
 h.same (fun q => since_mild h.kk q) rfl (fun _ => rfl) (fun _ => rfl) (fun q hq => hn.1.node q hq)
theorem OneTree.few {K : SM → Prop} (h : OneTree K s bl M root l P) (hP : P ≤ 150) : 2 * M.liveN ≤ 2 * bl.length + P + 3 := by
 obtain ⟨L, _, a2, _, _, a5, _⟩ := h.pages hP
 have := liveN_list a2
 rw [List.length_append] at this
 omega
end
section
variable {m : Nat} {M : SM} {is : List IM} {i : IM} {k : Nat}
end
def SM.clear (M : SM) (root : Int) (keys : List Int) : SM × Int × Nat := if (∃ x ∈ keys, x < 0 ∨ 63 < x) then (M, -1, 101) else M.safely (SM.trim keys M.marked root)
section
variable {M : SM} {is : List IM} {i : IM} {k : Nat}
theorem TreeIn.nil {m : Nat} {root : Int} {P : Nat} (t : TreeIn m M root [] P) : root = -1 := by
 rcases t.root with ⟨e, _⟩ | ⟨hh, t, _⟩
 ·exact e
 ·have := tr_ge t
  simp at this
  omega
end
def Two (M : SM) (root : Int) : Prop := ∀ n, M.nodeAt root.toNat = some n → n.kind = 3 → 2 ≤ n.ents.length
theorem led5 {m : Nat} {M : SM} {root : Int} {l : List (Int × Int)} {P hh : Nat} (hP : P ≤ 240) (hr : Rooted m M root l hh) (hl : root = -1 ∨ Led M hh root P) : hh ≤ 5 := by
 rcases hr with ⟨_, _, e⟩ | t
 ·omega
 ·rcases hl with e | j
  ·have := (heldB_int t.held).1; omega
  ·exact (led_pages t j hP).1

theorem cutL_take {l : List (Int × Int)} {k : Nat} {y : Int × Int} (h : l[k]? = some y) (key : Int) : cutL (l.take (k + 1)) key = cutL (l.take k) key ++ (if y.1 = key then [] else [y]) := by
 rw [List.take_add_one, h]
 unfold cutL
 rw [List.filter_append]
 congr 1
 by_cases e : y.1 = key <;> simp [e]
theorem owns_le' {w : World} {base base' : Nat} {e : TypeId} {sz : Nat} {v : Value} {n : Nat} {xs : List Value} (h : w.ownsRow base e sz v n xs) (hb : base' ≤ base) : w.ownsRow base' e sz v n xs :=
 ⟨h.1, h.2.imp id fun ⟨g, cap, cur, h1, h2, h3⟩ => ⟨g, cap, cur, h1, Nat.le_trans hb h2, h3⟩⟩
structure RfSt (w0 : World) (u : Value) (out : List (Int × Int)) (wr : World) : Prop where
 kept : Kept (fun _ => False) w0 wr
 row : wr.ownsRow w0.heap.size 58 2 u out.length (entCells out)
theorem RfSt.fresh {w0 wr w' : World} {u : Value} {out : List (Int × Int)} (h : RfSt w0 u out wr) (k : Kept (fun _ => False) wr w') : RfSt w0 u out w' := ⟨h.kept.trans k, ownsRow.keptOf h.row k (fun _ _ => id)⟩

set_option maxHeartbeats 4000000 in
theorem refCut10 {w : World} {va : Value} {l : List (Int × Int)} (hv : EntsAt w va l) (hl : l.length ≤ 1000) (key : Int) :
  Calls Try.prog 24 #[va, .int .i64 key] w fun e w' => ∃ u, e = .returned (.tuple #[u, .bool (decide ((cutL l key).length < l.length))]) ∧
   w'.ownsRow w.heap.size 58 2 u (cutL l key).length (entCells (cutL l key)) ∧ Kept (fun _ => False) w w' := by
 obtain ⟨Av, cap, rfl, hf1, hf2⟩ := hv.form
 unfold maxLen at hf2
 have hv' := h_ hv
 clear hv
 go_enter Try.func24, Try.ntmps24
 go_wp2_with fail
 have I0 : Hid (RfSt w (.slice (some ⟨w.heap.size, 0, none⟩) 0 0) (cutL (l.take 0) key) (w.alloc (.cells #[] 58))) := h_ ⟨(Kept.refl _ _).alloc _, owns_empty w w.heap.size w.heap.size 58 2 (Nat.le_refl _) rfl⟩
 go_loopw [6, 12] (fun u i wr => ∃ (k : Nat), k ≤ l.length ∧ i = .int .i64 k ∧ Hid (RfSt w u (cutL (l.take k) key) wr)) (fun _ i _ => l.length - (intOf i).toNat)
 case atStart => exact ⟨0, Nat.zero_le _, rfl, I0⟩
 case round =>
  obtain ⟨k, hk, rfl, hI⟩ := hrel
  obtain ⟨Au, cu, rfl, hu1, hu2⟩ := EntsAt.form (show EntsAt wr _ (cutL (l.take k) key) from SliceAt.of_owns hI.out.row)
  unfold maxLen at hu2
  by_cases hlt : k < l.length
  ·obtain ⟨y, hy⟩ : ∃ y, l[k]? = some y := ⟨_, List.getElem?_eq_getElem hlt⟩
   obtain ⟨eb, eo, rfl, heb, hy1c, hy2c⟩ := EntsAt.get (SliceAt.fresh hv'.out (hI.out.kept)) hy
   have hki : (k : Int) < (l.length : Int) := by omega
   have hlo : Hid (∀ i v, [Value.int .i64 y.1, .int .i64 y.2][i]? = some v → wr.cell? ⟨eb, eo + k * 2 + i, none⟩ = some v) := h_ (fun i v hi => by
    match i, hi with
    | 0, hi => cases hi; exact hy1c
    | 1, hi => cases hi; exact hy2c)
   obtain ⟨xb, hxb⟩ : ∃ xb, wr.heap.size = xb := ⟨_, rfl⟩
   obtain ⟨wx, hwx⟩ : ∃ wx, (wr.alloc (.cells #[.int .i64 0, .int .i64 0] 58)).setRow xb #[.int .i64 y.1, .int .i64 y.2] = wx := ⟨_, rfl⟩
   have kx : Kept (fun _ => False) wr wx := by rw [← hwx]; exact ((Kept.refl _ _).alloc _).setRowNew (by omega) _
   have qx : wx.heap[xb]? = some (.cells #[.int .i64 y.1, .int .i64 y.2] 58 (0, 0)) := by rw [← hwx, ← hxb]; exact setRow_heap _ _ _ _ _ _ (heap_alloc_new _ _)
   have cx0 : wx.cell? ⟨xb, 0, none⟩ = some (.int .i64 y.1) := by rw [cell_of_heap qx]; rfl
   have cx1 : wx.cell? ⟨xb, 1, none⟩ = some (.int .i64 y.2) := by rw [cell_of_heap qx]; rfl
   have hlx : Hid (∀ i v, [Value.int .i64 y.1, .int .i64 y.2][i]? = some v → wx.cell? ⟨xb, 0 + i, none⟩ = some v) := h_ (fun i v hi => by rw [cell_of_heap qx, Nat.zero_add]; simpa using hi)
   have Ix := h_ (hI.out.fresh kx)
   have hxb' := h_ hxb
   have hwx' := h_ hwx
   have hy' := h_ hy
   clear hy hy1c hy2c kx qx hxb hwx hI
   have hnext := cutL_take hy'.out key
   by_cases he : y.1 = key
   ·have hbe : (y.1 == key) = true := by simp [he]
    rw [if_pos he, List.append_nil] at hnext
    have fin : Hid (RfSt w (.slice Au (cutL (l.take k) key).length cu) (cutL (l.take (k + 1)) key) wx) := h_ (by rw [hnext]; exact Ix.out)
    clear he hnext
    go_wp2_with (first | (refine wpList_load_agg 58 rfl rfl rfl _ Try.underlying58 rfl [.int .i64 y.1, .int .i64 y.2] (by kernel_rfl) hlo.out ?_) | (refine wpList_load_agg 58 rfl rfl rfl _ Try.underlying58 rfl [.int .i64 y.1, .int .i64 y.2] (by kernel_rfl) hlx.out ?_) | (refine wpList_alloc_as 58 rfl rfl #[.int .i64 0, .int .i64 0] (by kernel_rfl) ?_; rw [hxb'.out]) | (refine wpList_store_whole 58 rfl rfl rfl [.int .i64 y.1, .int .i64 y.2] rfl (by kernel_rfl) 58 #[.int .i64 0, .int .i64 0] (by rw [← hxb'.out]; exact heap_alloc_new _ _) rfl (by intro c hc; simp at hc; rcases hc with rfl | rfl <;> rfl) ?_; rw [hwx'.out]))
    go_roundw
    case rel => exact ⟨k + 1, by omega, by go_num, fin⟩
    case measure => simp [intOf]; omega
   ·have hbe : (y.1 == key) = false := by simp [he]
    rw [if_neg he] at hnext
    have hnext' := h_ hnext
    have hcl : (cutL (l.take k) key).length ≤ 1000 := by have h1 : (cutL (l.take k) key).length ≤ (l.take k).length := List.length_filter_le _ _; rw [List.length_take] at h1; omega
    have R5 := h_ (ownsRow.keptOf Ix.out.row ((Kept.refl (fun _ => False) wx).alloc (.cells #[.int .i64 y.1, .int .i64 y.2] 58)) (fun _ _ => id))
    have K5 := h_ (Ix.out.kept.trans ((Kept.refl (fun _ => False) wx).alloc (.cells #[.int .i64 y.1, .int .i64 y.2] 58)))
    clear he hnext
    go_wp2_with (first | (refine wpList_load_agg 58 rfl rfl rfl _ Try.underlying58 rfl [.int .i64 y.1, .int .i64 y.2] (by kernel_rfl) hlo.out ?_) | (refine wpList_load_agg 58 rfl rfl rfl _ Try.underlying58 rfl [.int .i64 y.1, .int .i64 y.2] (by kernel_rfl) hlx.out ?_) | (refine wpList_alloc_as 58 rfl rfl #[.int .i64 0, .int .i64 0] (by kernel_rfl) ?_; rw [hxb'.out]) | (refine wpList_store_whole 58 rfl rfl rfl [.int .i64 y.1, .int .i64 y.2] rfl (by kernel_rfl) 58 #[.int .i64 0, .int .i64 0] (by rw [← hxb'.out]; exact heap_alloc_new _ _) rfl (by intro c hc; simp at hc; rcases hc with rfl | rfl <;> rfl) ?_; rw [hwx'.out]) | (at_builtin; refine wpList_append_src rfl elemEntry (.tmp 20) (.tmp 22) rfl (by rfl) (by rfl) R5.out (SliceAt.block_new (ys := [.int .i64 y.1, .int .i64 y.2]) (m := 1) (heap_alloc_new _ _) (by rfl) (by decide)) (by intro c hc; simp at hc; rcases hc with rfl | rfl <;> rfl) (by omega) (by omega) K5.out.size ?_; intro v2 w10 hown10 hg10 hat10))
    have fin : Hid (RfSt w v2 (cutL (l.take (k + 1)) key) w10) := h_ (by rw [hnext'.out]; exact ⟨K5.out.trans_new (Kept.of_grown hg10) (fun i hi e => absurd hi (Nat.not_lt.2 (R5.out.lt i e).1)), by rw [entCells_append, List.length_append]; exact hown10⟩)
    clear hown10 hg10 hat10
    go_wp2_with fail
    go_roundw
    case rel => exact ⟨k + 1, by omega, by go_num, fin⟩
    case measure => simp [intOf]; omega
  ·obtain rfl : k = l.length := by omega
   rw [List.take_length] at hI
   rw [List.take_length] at hu1
   go_wp2_with fail
   go_ret2
   exact ⟨.slice Au (cutL l key).length cu, by simp, hI.out.row, hI.out.kept⟩
theorem RfSt.app {w1 wx w10 : World} {u v2 : Value} {o : List (Int × Int)} {x : Int × Int} (I : RfSt w1 u o wx)
  (R : (wx.alloc (.cells #[.int .i64 x.1, .int .i64 x.2] 58)).ownsRow w1.heap.size 58 2 u o.length (entCells o))
  (hown : w10.ownsRow w1.heap.size 58 2 v2 (o.length + 1) (entCells o ++ [.int .i64 x.1, .int .i64 x.2]))
  (hg : (wx.alloc (.cells #[.int .i64 x.1, .int .i64 x.2] 58)).grownBy w10 u.ownBlock) :
  RfSt w1 v2 (o ++ [x]) w10 ∧ ∀ c v, wx.cell? c = some v → u.ownBlock ≠ some c.block → w10.cell? c = some v :=
 ⟨⟨(I.kept.trans ((Kept.refl (fun _ => False) wx).alloc _)).trans_new (Kept.of_grown hg) (fun i hi e => absurd hi (Nat.not_lt.2 (R.lt i e).1)), by rw [entCells_append, List.length_append]; exact hown⟩,
  fun _ _ hc hne => (Kept.of_grown hg).cell (((Kept.refl (fun _ => False) wx).alloc _).cell hc id) hne⟩
theorem pair_load {w : World} {b : Nat} {y : Int × Int} (h0 : w.cell? ⟨b, 0, none⟩ = some (.int .i64 y.1)) (h1 : w.cell? ⟨b, 1, none⟩ = some (.int .i64 y.2)) : ∀ i v, [Value.int .i64 y.1, .int .i64 y.2][i]? = some v → w.cell? ⟨b, 0 + i, none⟩ = some v := fun i v hi => by
 match i, hi with
 | 0, hi => cases hi; exact h0
 | 1, hi => cases hi; exact h1
theorem putStep_fst (x y : Int × Int) (s : List (Int × Int) × Bool) : (putStep x s y).1.length ≤ s.1.length + 2 := by
 unfold putStep
 dsimp only
 split <;> split <;> simp
theorem putTake_len (x : Int × Int) (l : List (Int × Int)) : (l.foldl (putStep x) ([], false)).1.length ≤ 2 * l.length := by
 have key : ∀ (l : List (Int × Int)) (s : List (Int × Int) × Bool), (l.foldl (putStep x) s).1.length ≤ s.1.length + 2 * l.length := by
  intro l
  induction l with
  | nil => intro s; simp
  | cons y l ih =>
   intro s
   rw [List.foldl_cons, List.length_cons]
   have h1 := ih (putStep x s y)
   have h2 := putStep_fst x y s
   omega
 simpa using key l ([], false)
theorem putTake_succ {l : List (Int × Int)} {k : Nat} {y : Int × Int} (h : l[k]? = some y) (x : Int × Int) : (l.take (k + 1)).foldl (putStep x) ([], false) = putStep x ((l.take k).foldl (putStep x) ([], false)) y := by
 rw [List.take_add_one, h, List.foldl_append]
 rfl
set_option maxHeartbeats 8000000 in
theorem refPut10 {w : World} {va : Value} {l : List (Int × Int)} (hv : EntsAt w va l) (hl : l.length ≤ 1000) (x : Int × Int) (hx : 0 ≤ x.1 ∧ x.1 ≤ 63) :
  Calls Try.prog 25 #[va, .agg #[.int .i64 x.1, .int .i64 x.2]] w fun e w' => ∃ u, e = .returned (.tuple #[u, .int .i64 0]) ∧
   w'.ownsRow w.heap.size 58 2 u (refPut l x).length (entCells (refPut l x)) ∧ Kept (fun _ => False) w w' := by
 obtain ⟨Av, cap, rfl, hf1, hf2⟩ := hv.form
 unfold maxLen at hf2
 obtain ⟨cb, hcb⟩ : ∃ cb, w.heap.size = cb := ⟨_, rfl⟩
 obtain ⟨w1, hw1⟩ : ∃ w1, w.alloc (.cells #[.int .i64 x.1, .int .i64 x.2] 58) = w1 := ⟨_, rfl⟩
 have k1 := h_ (show Kept (fun _ => False) w w1 by rw [← hw1]; exact (Kept.refl _ _).alloc _)
 have t1 := h_ (show w1.heap[cb]? = some (.cells #[.int .i64 x.1, .int .i64 x.2] 58 (0, 0)) by rw [← hw1, ← hcb]; exact heap_alloc_new _ _)
 have hw1' := h_ hw1
 have hcb' := h_ hcb
 have hv' := h_ hv
 have c10 := cell_of_heap t1.out 0
 have c11 := cell_of_heap t1.out 1
 simp at c10 c11
 have hb0 : decide (x.1 < 0) = false := by rw [decide_eq_false_iff_not]; omega
 have hb1 : decide (63 < x.1) = false := by rw [decide_eq_false_iff_not]; omega
 have hX : Hid (∀ W, Kept (fun _ => False) w1 W → ∀ i v, [Value.int .i64 x.1, .int .i64 x.2][i]? = some v → W.cell? ⟨cb, 0 + i, none⟩ = some v) := h_ (fun W hW i v hi => by rw [cell_of_heap (hW.get t1.out id), Nat.zero_add]; simpa using hi)
 clear hv hw1 hx hcb
 go_enter Try.func25, Try.ntmps25
 go_wp2_with (first | (refine wpList_box_named 58 rfl rfl _ rfl hw1'.out ?_; rw [hcb'.out]))
 have I0 : Hid (RfSt w1 (.slice (some ⟨w1.heap.size, 0, none⟩) 0 0) ((l.take 0).foldl (putStep x) ([], false)).1 (w1.alloc (.cells #[] 58))) := h_ ⟨(Kept.refl _ _).alloc _, owns_empty w1 w1.heap.size w1.heap.size 58 2 (Nat.le_refl _) rfl⟩
 go_loopw [6, 7, 22] (fun u b i wr => ∃ (k : Nat), k ≤ l.length ∧ i = .int .i64 k ∧ b = .bool ((l.take k).foldl (putStep x) ([], false)).2 ∧ Hid (RfSt w1 u ((l.take k).foldl (putStep x) ([], false)).1 wr)) (fun _ _ i _ => l.length - (intOf i).toNat)
 case atStart => exact ⟨0, Nat.zero_le _, rfl, rfl, I0⟩
 case round =>
  obtain ⟨k, hk, rfl, rfl, hI⟩ := hrel
  by_cases hlt : k < l.length
  ·obtain ⟨y, hy⟩ : ∃ y, l[k]? = some y := ⟨_, List.getElem?_eq_getElem hlt⟩
   obtain ⟨eb, eo, rfl, heb, hy1c, hy2c⟩ := EntsAt.get (SliceAt.fresh hv'.out (k1.out.trans hI.out.kept)) hy
   have hki : (k : Int) < (l.length : Int) := by omega
   have hlo : Hid (∀ i v, [Value.int .i64 y.1, .int .i64 y.2][i]? = some v → wr.cell? ⟨eb, eo + k * 2 + i, none⟩ = some v) := h_ (fun i v hi => by
    match i, hi with
    | 0, hi => cases hi; exact hy1c
    | 1, hi => cases hi; exact hy2c)
   obtain ⟨xb, hxb⟩ : ∃ xb, wr.heap.size = xb := ⟨_, rfl⟩
   obtain ⟨wx, hwx⟩ : ∃ wx, (wr.alloc (.cells #[.int .i64 0, .int .i64 0] 58)).setRow xb #[.int .i64 y.1, .int .i64 y.2] = wx := ⟨_, rfl⟩
   have kx : Kept (fun _ => False) wr wx := by rw [← hwx]; exact ((Kept.refl _ _).alloc _).setRowNew (by omega) _
   have qx : wx.heap[xb]? = some (.cells #[.int .i64 y.1, .int .i64 y.2] 58 (0, 0)) := by rw [← hwx, ← hxb]; exact setRow_heap _ _ _ _ _ _ (heap_alloc_new _ _)
   have cx0 : wx.cell? ⟨xb, 0, none⟩ = some (.int .i64 y.1) := by rw [cell_of_heap qx]; rfl
   have cx1 : wx.cell? ⟨xb, 1, none⟩ = some (.int .i64 y.2) := by rw [cell_of_heap qx]; rfl
   have hlx : Hid (∀ i v, [Value.int .i64 y.1, .int .i64 y.2][i]? = some v → wx.cell? ⟨xb, 0 + i, none⟩ = some v) := h_ (fun i v hi => by rw [cell_of_heap qx, Nat.zero_add]; simpa using hi)
   have Ix := h_ (hI.out.fresh kx)
   have hxb' := h_ hxb
   have hwx' := h_ hwx
   have hy' := h_ hy
   have hstep := putTake_succ hy x
   have hlen := putTake_len x (l.take k)
   rw [List.length_take] at hlen
   obtain ⟨S, hS⟩ : ∃ S, (l.take k).foldl (putStep x) ([], false) = S := ⟨_, rfl⟩
   rw [hS] at hstep Ix hlen hI
   simp only [hS]
   obtain ⟨o, d⟩ := S
   dsimp only at Ix hlen hI ⊢
   obtain ⟨Au, cu, rfl, hu1, hu2⟩ := EntsAt.form (show EntsAt wr _ o from SliceAt.of_owns hI.out.row)
   unfold maxLen at hu2
   have hrl : Hid (∀ b, (Value.slice Au o.length cu).ownBlock = some b → b < xb) := h_ (fun b hb => by rw [← hxb]; exact (hI.out.row.lt b hb).2)
   have ho : o.length ≤ 2000 := by omega
   have hxl := h_ (hX.out wx Ix.out.kept)
   have cX0 := hxl.out 0 _ rfl
   simp at cX0
   have hstep' := h_ hstep
   clear hy hy1c hy2c kx qx hxb hwx hI hS hstep hlen
   have RX := h_ (ownsRow.keptOf Ix.out.row ((Kept.refl (fun _ => False) wx).alloc (.cells #[.int .i64 x.1, .int .i64 x.2] 58)) (fun _ _ => id))
   have KX := h_ (Ix.out.kept.trans ((Kept.refl (fun _ => False) wx).alloc (.cells #[.int .i64 x.1, .int .i64 x.2] 58)))
   have R5 := h_ (ownsRow.keptOf Ix.out.row ((Kept.refl (fun _ => False) wx).alloc (.cells #[.int .i64 y.1, .int .i64 y.2] 58)) (fun _ _ => id))
   have K5 := h_ (Ix.out.kept.trans ((Kept.refl (fun _ => False) wx).alloc (.cells #[.int .i64 y.1, .int .i64 y.2] 58)))
   by_cases he : y.1 = x.1
   ·have hbe : (y.1 == x.1) = true := by simp [he]
    cases d with
    | false =>
     have hge : decide (x.1 ≤ y.1) = true := by rw [decide_eq_true_eq]; omega
     have hn : Hid (putStep x (o, false) y = (o ++ [x], true)) := h_ (by unfold putStep; have : x.1 ≤ x.1 := Int.le_refl _; simp [he])
     clear he
     go_wp2_with (first | (refine wpList_load_agg 58 rfl rfl rfl _ Try.underlying58 rfl [.int .i64 y.1, .int .i64 y.2] (by kernel_rfl) hlo.out ?_) | (refine wpList_load_agg 58 rfl rfl rfl _ Try.underlying58 rfl [.int .i64 y.1, .int .i64 y.2] (by kernel_rfl) hlx.out ?_) | (refine wpList_alloc_as 58 rfl rfl #[.int .i64 0, .int .i64 0] (by kernel_rfl) ?_; rw [hxb'.out]) | (refine wpList_store_whole 58 rfl rfl rfl [.int .i64 y.1, .int .i64 y.2] rfl (by kernel_rfl) 58 #[.int .i64 0, .int .i64 0] (by rw [← hxb'.out]; exact heap_alloc_new _ _) rfl (by intro c hc; simp at hc; rcases hc with rfl | rfl <;> rfl) ?_; rw [hwx'.out]) | (refine wpList_load_agg 58 rfl rfl rfl _ Try.underlying58 rfl [.int .i64 x.1, .int .i64 x.2] (by kernel_rfl) hxl.out ?_) | (at_builtin; refine wpList_append_src rfl elemEntry (.tmp 35) (.tmp 37) rfl (by rfl) (by rfl) RX.out (SliceAt.block_new (ys := [.int .i64 x.1, .int .i64 x.2]) (m := 1) (heap_alloc_new _ _) (by rfl) (by decide)) (by intro c hc; simp at hc; rcases hc with rfl | rfl <;> rfl) (by omega) (by omega) KX.out.size ?_; intro v2 w10 hown10 hg10 hat10; have hap := RfSt.app Ix.out RX.out hown10 hg10; obtain ⟨IA0, hcl⟩ := hap; have IA := h_ IA0; clear IA0; have ca0 := hcl _ _ cx0 (fun e => Nat.lt_irrefl _ (hrl.out _ e)); have ca1 := hcl _ _ cx1 (fun e => Nat.lt_irrefl _ (hrl.out _ e)); have hla := h_ (pair_load ca0 ca1); have cXa := hX.out w10 IA.out.kept 0 _ rfl; simp at cXa; have hoa : (o ++ [x]).length ≤ 2001 := (by rw [List.length_append]; simp; omega); obtain ⟨o2, ho2⟩ : ∃ o2, o ++ [x] = o2 := ⟨_, rfl⟩; rw [ho2] at IA hoa; have RZ := h_ (ownsRow.keptOf IA.out.row ((Kept.refl (fun _ => False) w10).alloc (.cells #[.int .i64 y.1, .int .i64 y.2] 58)) (fun _ _ => id)); have KZ := h_ (IA.out.kept.trans ((Kept.refl (fun _ => False) w10).alloc (.cells #[.int .i64 y.1, .int .i64 y.2] 58))); clear hown10 hg10 hat10 hcl))
     have fin : Hid (RfSt w1 v2 (o ++ [x]) w10) := h_ (by rw [ho2]; exact IA.out)
     go_wp2_with fail
     go_roundw
     case rel => exact ⟨k + 1, by omega, by go_num, by rw [hstep'.out, hn.out], by rw [hstep'.out, hn.out]; exact fin⟩
     case measure => simp [intOf]; omega
    | true =>
     have hn : Hid (putStep x (o, true) y = (o, true)) := h_ (by unfold putStep; simp [he])
     clear he
     go_wp2_with (first | (refine wpList_load_agg 58 rfl rfl rfl _ Try.underlying58 rfl [.int .i64 y.1, .int .i64 y.2] (by kernel_rfl) hlo.out ?_) | (refine wpList_load_agg 58 rfl rfl rfl _ Try.underlying58 rfl [.int .i64 y.1, .int .i64 y.2] (by kernel_rfl) hlx.out ?_) | (refine wpList_alloc_as 58 rfl rfl #[.int .i64 0, .int .i64 0] (by kernel_rfl) ?_; rw [hxb'.out]) | (refine wpList_store_whole 58 rfl rfl rfl [.int .i64 y.1, .int .i64 y.2] rfl (by kernel_rfl) 58 #[.int .i64 0, .int .i64 0] (by rw [← hxb'.out]; exact heap_alloc_new _ _) rfl (by intro c hc; simp at hc; rcases hc with rfl | rfl <;> rfl) ?_; rw [hwx'.out]) | (refine wpList_load_agg 58 rfl rfl rfl _ Try.underlying58 rfl [.int .i64 x.1, .int .i64 x.2] (by kernel_rfl) hxl.out ?_))
     have fin := Ix
     go_roundw
     case rel => exact ⟨k + 1, by omega, by go_num, by rw [hstep'.out, hn.out], by rw [hstep'.out, hn.out]; exact fin⟩
     case measure => simp [intOf]; omega
   ·have hbe : (y.1 == x.1) = false := by simp [he]
    cases d with
    | false =>
     by_cases hge0 : x.1 ≤ y.1
     ·have hge : decide (x.1 ≤ y.1) = true := by rw [decide_eq_true_eq]; exact hge0
      have hn : Hid (putStep x (o, false) y = (o ++ [x] ++ [y], true)) := h_ (by unfold putStep; simp [he, hge0])
      clear he hge0
      go_wp2_with (first | (refine wpList_load_agg 58 rfl rfl rfl _ Try.underlying58 rfl [.int .i64 y.1, .int .i64 y.2] (by kernel_rfl) hlo.out ?_) | (refine wpList_load_agg 58 rfl rfl rfl _ Try.underlying58 rfl [.int .i64 y.1, .int .i64 y.2] (by kernel_rfl) hlx.out ?_) | (refine wpList_alloc_as 58 rfl rfl #[.int .i64 0, .int .i64 0] (by kernel_rfl) ?_; rw [hxb'.out]) | (refine wpList_store_whole 58 rfl rfl rfl [.int .i64 y.1, .int .i64 y.2] rfl (by kernel_rfl) 58 #[.int .i64 0, .int .i64 0] (by rw [← hxb'.out]; exact heap_alloc_new _ _) rfl (by intro c hc; simp at hc; rcases hc with rfl | rfl <;> rfl) ?_; rw [hwx'.out]) | (refine wpList_load_agg 58 rfl rfl rfl _ Try.underlying58 rfl [.int .i64 x.1, .int .i64 x.2] (by kernel_rfl) hxl.out ?_) | (at_builtin; refine wpList_append_src rfl elemEntry (.tmp 35) (.tmp 37) rfl (by rfl) (by rfl) RX.out (SliceAt.block_new (ys := [.int .i64 x.1, .int .i64 x.2]) (m := 1) (heap_alloc_new _ _) (by rfl) (by decide)) (by intro c hc; simp at hc; rcases hc with rfl | rfl <;> rfl) (by omega) (by omega) KX.out.size ?_; intro v2 w10 hown10 hg10 hat10; have hap := RfSt.app Ix.out RX.out hown10 hg10; obtain ⟨IA0, hcl⟩ := hap; have IA := h_ IA0; clear IA0; have ca0 := hcl _ _ cx0 (fun e => Nat.lt_irrefl _ (hrl.out _ e)); have ca1 := hcl _ _ cx1 (fun e => Nat.lt_irrefl _ (hrl.out _ e)); have hla := h_ (pair_load ca0 ca1); have cXa := hX.out w10 IA.out.kept 0 _ rfl; simp at cXa; have hoa : (o ++ [x]).length ≤ 2001 := (by rw [List.length_append]; simp; omega); obtain ⟨o2, ho2⟩ : ∃ o2, o ++ [x] = o2 := ⟨_, rfl⟩; rw [ho2] at IA hoa; have RZ := h_ (ownsRow.keptOf IA.out.row ((Kept.refl (fun _ => False) w10).alloc (.cells #[.int .i64 y.1, .int .i64 y.2] 58)) (fun _ _ => id)); have KZ := h_ (IA.out.kept.trans ((Kept.refl (fun _ => False) w10).alloc (.cells #[.int .i64 y.1, .int .i64 y.2] 58))); clear hown10 hg10 hat10 hcl) | (at_builtin; refine wpList_append_src rfl elemEntry (.tmp 44) (.tmp 46) rfl (by rfl) (by rfl) RZ.out (SliceAt.block_new (ys := [.int .i64 y.1, .int .i64 y.2]) (m := 1) (heap_alloc_new _ _) (by rfl) (by decide)) (by intro c hc; simp at hc; rcases hc with rfl | rfl <;> rfl) (by omega) (by omega) KZ.out.size ?_; intro v3 w11 hown11 hg11 hat11) | (refine wpList_load_agg 58 rfl rfl rfl _ Try.underlying58 rfl [.int .i64 y.1, .int .i64 y.2] (by kernel_rfl) hla.out ?_))
      have fin : Hid (RfSt w1 v3 (o ++ [x] ++ [y]) w11) := h_ (by rw [ho2]; exact ⟨KZ.out.trans_new (Kept.of_grown hg11) (fun i hi e => absurd hi (Nat.not_lt.2 (RZ.out.lt i e).1)), by rw [entCells_append, List.length_append]; exact hown11⟩)
      clear hown11 hg11 hat11
      go_wp2_with fail
      go_roundw
      case rel => exact ⟨k + 1, by omega, by go_num, by rw [hstep'.out, hn.out], by rw [hstep'.out, hn.out]; exact fin⟩
      case measure => simp [intOf]; omega
     ·have hge : decide (x.1 ≤ y.1) = false := by rw [decide_eq_false_iff_not]; exact hge0
      have hn : Hid (putStep x (o, false) y = (o ++ [y], false)) := h_ (by unfold putStep; simp [he, hge0])
      clear he hge0
      go_wp2_with (first | (refine wpList_load_agg 58 rfl rfl rfl _ Try.underlying58 rfl [.int .i64 y.1, .int .i64 y.2] (by kernel_rfl) hlo.out ?_) | (refine wpList_load_agg 58 rfl rfl rfl _ Try.underlying58 rfl [.int .i64 y.1, .int .i64 y.2] (by kernel_rfl) hlx.out ?_) | (refine wpList_alloc_as 58 rfl rfl #[.int .i64 0, .int .i64 0] (by kernel_rfl) ?_; rw [hxb'.out]) | (refine wpList_store_whole 58 rfl rfl rfl [.int .i64 y.1, .int .i64 y.2] rfl (by kernel_rfl) 58 #[.int .i64 0, .int .i64 0] (by rw [← hxb'.out]; exact heap_alloc_new _ _) rfl (by intro c hc; simp at hc; rcases hc with rfl | rfl <;> rfl) ?_; rw [hwx'.out]) | (refine wpList_load_agg 58 rfl rfl rfl _ Try.underlying58 rfl [.int .i64 x.1, .int .i64 x.2] (by kernel_rfl) hxl.out ?_) | (at_builtin; refine wpList_append_src rfl elemEntry (.tmp 44) (.tmp 46) rfl (by rfl) (by rfl) R5.out (SliceAt.block_new (ys := [.int .i64 y.1, .int .i64 y.2]) (m := 1) (heap_alloc_new _ _) (by rfl) (by decide)) (by intro c hc; simp at hc; rcases hc with rfl | rfl <;> rfl) (by omega) (by omega) K5.out.size ?_; intro v2 w10 hown10 hg10 hat10))
      have fin : Hid (RfSt w1 v2 (o ++ [y]) w10) := h_ ⟨K5.out.trans_new (Kept.of_grown hg10) (fun i hi e => absurd hi (Nat.not_lt.2 (R5.out.lt i e).1)), by rw [entCells_append, List.length_append]; exact hown10⟩
      clear hown10 hg10 hat10
      go_wp2_with fail
      go_roundw
      case rel => exact ⟨k + 1, by omega, by go_num, by rw [hstep'.out, hn.out], by rw [hstep'.out, hn.out]; exact fin⟩
      case measure => simp [intOf]; omega
    | true =>
     have hn : Hid (putStep x (o, true) y = (o ++ [y], true)) := h_ (by unfold putStep; simp [he])
     clear he
     go_wp2_with (first | (refine wpList_load_agg 58 rfl rfl rfl _ Try.underlying58 rfl [.int .i64 y.1, .int .i64 y.2] (by kernel_rfl) hlo.out ?_) | (refine wpList_load_agg 58 rfl rfl rfl _ Try.underlying58 rfl [.int .i64 y.1, .int .i64 y.2] (by kernel_rfl) hlx.out ?_) | (refine wpList_alloc_as 58 rfl rfl #[.int .i64 0, .int .i64 0] (by kernel_rfl) ?_; rw [hxb'.out]) | (refine wpList_store_whole 58 rfl rfl rfl [.int .i64 y.1, .int .i64 y.2] rfl (by kernel_rfl) 58 #[.int .i64 0, .int .i64 0] (by rw [← hxb'.out]; exact heap_alloc_new _ _) rfl (by intro c hc; simp at hc; rcases hc with rfl | rfl <;> rfl) ?_; rw [hwx'.out]) | (refine wpList_load_agg 58 rfl rfl rfl _ Try.underlying58 rfl [.int .i64 x.1, .int .i64 x.2] (by kernel_rfl) hxl.out ?_) | (at_builtin; refine wpList_append_src rfl elemEntry (.tmp 44) (.tmp 46) rfl (by rfl) (by rfl) R5.out (SliceAt.block_new (ys := [.int .i64 y.1, .int .i64 y.2]) (m := 1) (heap_alloc_new _ _) (by rfl) (by decide)) (by intro c hc; simp at hc; rcases hc with rfl | rfl <;> rfl) (by omega) (by omega) K5.out.size ?_; intro v2 w10 hown10 hg10 hat10))
     have fin : Hid (RfSt w1 v2 (o ++ [y]) w10) := h_ ⟨K5.out.trans_new (Kept.of_grown hg10) (fun i hi e => absurd hi (Nat.not_lt.2 (R5.out.lt i e).1)), by rw [entCells_append, List.length_append]; exact hown10⟩
     clear hown10 hg10 hat10
     go_wp2_with fail
     go_roundw
     case rel => exact ⟨k + 1, by omega, by go_num, by rw [hstep'.out, hn.out], by rw [hstep'.out, hn.out]; exact fin⟩
     case measure => simp [intOf]; omega
  ·obtain rfl : k = l.length := by omega
   rw [List.take_length] at hI ⊢
   have hlen := putTake_len x l
   have href : Hid (refPut l x = if (l.foldl (putStep x) ([], false)).2 then (l.foldl (putStep x) ([], false)).1 else (l.foldl (putStep x) ([], false)).1 ++ [x]) := h_ rfl
   obtain ⟨S, hS⟩ : ∃ S, l.foldl (putStep x) ([], false) = S := ⟨_, rfl⟩
   rw [hS] at hI hlen href ⊢
   obtain ⟨o, d⟩ := S
   dsimp only at hI hlen href ⊢
   obtain ⟨Au, cu, rfl, hu1, hu2⟩ := EntsAt.form (show EntsAt wr _ o from SliceAt.of_owns hI.out.row)
   unfold maxLen at hu2
   have hsz1 := h_ k1.out.size
   clear hS
   cases d with
   | true =>
    have hn : Hid (refPut l x = o) := h_ (by rw [href.out]; rfl)
    go_wp2_with fail
    go_ret2
    rw [hn.out]
    exact ⟨.slice Au o.length cu, by rfl, owns_le' hI.out.row hsz1.out, k1.out.trans hI.out.kept⟩
   | false =>
    have hn : Hid (refPut l x = o ++ [x]) := h_ (by rw [href.out]; rfl)
    have hxl := h_ (hX.out wr hI.out.kept)
    have RX := h_ (ownsRow.keptOf hI.out.row ((Kept.refl (fun _ => False) wr).alloc (.cells #[.int .i64 x.1, .int .i64 x.2] 58)) (fun _ _ => id))
    have KX := h_ (hI.out.kept.trans ((Kept.refl (fun _ => False) wr).alloc (.cells #[.int .i64 x.1, .int .i64 x.2] 58)))
    go_wp2_with (first | (refine wpList_load_agg 58 rfl rfl rfl _ Try.underlying58 rfl [.int .i64 x.1, .int .i64 x.2] (by kernel_rfl) hxl.out ?_) | (at_builtin; refine wpList_append_src rfl elemEntry (.tmp 51) (.tmp 53) rfl (by rfl) (by rfl) RX.out (SliceAt.block_new (ys := [.int .i64 x.1, .int .i64 x.2]) (m := 1) (heap_alloc_new _ _) (by rfl) (by decide)) (by intro c hc; simp at hc; rcases hc with rfl | rfl <;> rfl) (by omega) (by omega) KX.out.size ?_; intro v2 w10 hown10 hg10 hat10))
    go_ret2
    rw [hn.out, entCells_append, List.length_append]
    exact ⟨v2, by rfl, owns_le' hown10 hsz1.out, k1.out.trans (KX.out.trans_new (Kept.of_grown hg10) (fun i hi e => absurd hi (Nat.not_lt.2 (RX.out.lt i e).1)))⟩


set_option maxHeartbeats 4000000 in
theorem diffOne {w : World} {A : SA} {M : SM} (h : StoreAt w A M) (root : Int) (c : Int × Int) (hfew : M.log.length + 30 < 100000000) :
  Calls Try.prog 30 #[.agg #[.pointer (some ⟨A.sb, 0, none⟩)], .int .i64 root, .agg #[.int .i64 c.1, .int .i64 c.2]] w fun e w' => ∃ A', e = .returned (.tuple #[.int .i64 (M.one root c).2.1, .int .i64 (M.one root c).2.2]) ∧ StoreTo A A' (M.one root c).1 w w' := by
 obtain ⟨db, hdb⟩ : ∃ db, w.heap.size = db := ⟨_, rfl⟩
 obtain ⟨w1, hw1⟩ : ∃ w1, w.alloc (.cells #[.pointer (some ⟨A.sb, 0, none⟩)] 31) = w1 := ⟨_, rfl⟩
 obtain ⟨cb, hcb⟩ : ∃ cb, w1.heap.size = cb := ⟨_, rfl⟩
 obtain ⟨w2, hw2⟩ : ∃ w2, w1.alloc (.cells #[.int .i64 c.1, .int .i64 c.2] 41) = w2 := ⟨_, rfl⟩
 have k1 : Kept (fun _ => False) w w1 := by rw [← hw1]; exact (Kept.refl _ _).alloc _
 have k12 : Kept (fun _ => False) w1 w2 := by rw [← hw2]; exact (Kept.refl _ _).alloc _
 have t1 : w1.heap[db]? = some (.cells #[.pointer (some ⟨A.sb, 0, none⟩)] 31 (0, 0)) := by rw [← hw1, ← hdb]; exact heap_alloc_new _ _
 have t2 := k12.get t1 id
 have tc : w2.heap[cb]? = some (.cells #[.int .i64 c.1, .int .i64 c.2] 41 (0, 0)) := by rw [← hw2, ← hcb]; exact heap_alloc_new _ _
 have c0 := cell_of_heap tc 0
 have c1 := cell_of_heap tc 1
 simp at c0 c1
 have hload : Hid (∀ j v, [Value.pointer (some ⟨A.sb, 0, none⟩)][j]? = some v → w2.cell? ⟨db, 0 + j, none⟩ = some v) := h_ (fun j v hj => by rw [Nat.zero_add, cell_of_heap t2]; simpa using hj)
 have k2 := h_ (k1.trans k12)
 have h2 := h_ (h.fresh (k1.trans k12))
 have hw1' := h_ hw1
 have hw2' := h_ hw2
 have hdb' := h_ hdb
 have hcb' := h_ hcb
 clear hw1 hw2 hdb hcb k1 k12 t1 t2 tc h
 by_cases hc : c.2 = -1
 ·have hb : (c.2 == -1) = true := by simp [hc]
  have hone : Hid (M.one root c = ((M.cut root c.1).1, (M.cut root c.1).2.1, (M.cut root c.1).2.2.2)) := h_ (by unfold SM.one; rw [if_pos hc])
  have hP := pruneCut h2.out root c.1 (by omega)
  obtain ⟨R, hR⟩ : ∃ R, M.cut root c.1 = R := ⟨_, rfl⟩
  rw [hR] at hP hone
  obtain ⟨M1, next, was, er⟩ := R
  dsimp only at hP hone
  rw [hone.out]
  dsimp only
  have hP' := h_ hP
  clear hP hR hc hone
  go_enter Try.func30, Try.ntmps30
  go_wp2_with (first | (refine wpList_box_named 31 rfl rfl _ rfl hw1'.out ?_; rw [hdb'.out]) | (refine wpList_box_named 41 rfl rfl _ rfl hw2'.out ?_; rw [hcb'.out]) | (refine wpList_load_agg 29 rfl rfl rfl _ Try.underlying29 rfl [.pointer (some ⟨A.sb, 0, none⟩)] (by kernel_rfl) hload.out ?_))
  refine hP'.out.mono ?_
  rintro e w3 ⟨A3, rfl, hT⟩
  have T := h_ (StoreTo.before k2.out hT)
  clear hT
  go_wp2_with fail
  go_ret2
  exact ⟨A3, rfl, T.out⟩
 ·have hb : (c.2 == -1) = false := by simp [hc]
  have hone : Hid (M.one root c = M.put root c.1 c.2) := h_ (by unfold SM.one; rw [if_neg hc])
  have hP := treePut h2.out root c.1 c.2 (by omega)
  rw [hone.out]
  obtain ⟨R, hR⟩ : ∃ R, M.put root c.1 c.2 = R := ⟨_, rfl⟩
  rw [hR] at hP ⊢
  obtain ⟨M1, next, er⟩ := R
  dsimp only at hP ⊢
  have hP' := h_ hP
  clear hP hR hc hone
  go_enter Try.func30, Try.ntmps30
  go_wp2_with (first | (refine wpList_box_named 31 rfl rfl _ rfl hw1'.out ?_; rw [hdb'.out]) | (refine wpList_box_named 41 rfl rfl _ rfl hw2'.out ?_; rw [hcb'.out]) | (refine wpList_load_agg 27 rfl rfl rfl _ Try.underlying27 rfl [.pointer (some ⟨A.sb, 0, none⟩)] (by kernel_rfl) hload.out ?_))
  refine hP'.out.mono ?_
  rintro e w3 ⟨A3, rfl, hT⟩
  have T := h_ (StoreTo.before k2.out hT)
  clear hT
  go_wp2_with fail
  go_ret2
  exact ⟨A3, rfl, T.out⟩
theorem one_log {w : World} {A : SA} {M : SM} (h : StoreAt w A M) (root : Int) (c : Int × Int) : (M.one root c).1.log.length ≤ M.log.length + 22 := by
 unfold SM.one
 split
 ·have := cut_log h root c.1; dsimp only; omega
 ·exact put_log M root c.1 c.2
theorem changes_cons (c : Int × Int) (cs : List (Int × Int)) (M : SM) (root : Int) : SM.changes (c :: cs) M root = if (M.change root c).2.2 = 0 then SM.changes cs (M.change root c).1 (M.change root c).2.1 else M.change root c := rfl
structure ApSt (w : World) (A : SA) (M : SM) (cs : List (Int × Int)) (root : Int) (v : Value) (k : Nat) (root' : Int) (A' : SA) (M' : SM) (wr : World) : Prop where
 to_ : StoreTo A A' M' w wr
 db : wr.heap[w.heap.size]? = some (.cells #[.pointer (some ⟨A.sb, 0, none⟩)] 31 (0, 0))
 sp : Safe wr A' w.heap.size
 ents : EntsOff wr A' v cs
 rest : SM.changes (cs.drop k) M' root' = SM.changes cs M root
 log : M'.log.length ≤ M.log.length + 22 * k
theorem ApSt.load {w wr : World} {A A' : SA} {M M' : SM} {cs : List (Int × Int)} {root root' : Int} {v : Value} {k : Nat} (h : ApSt w A M cs root v k root' A' M' wr) : ∀ j u, [Value.pointer (some ⟨A.sb, 0, none⟩)][j]? = some u → wr.cell? ⟨w.heap.size, 0 + j, none⟩ = some u := fun j u hj => by rw [Nat.zero_add, cell_of_heap h.db]; simpa using hj
theorem ApSt.fresh {w wr w' : World} {A A' : SA} {M M' : SM} {cs : List (Int × Int)} {root root' : Int} {v : Value} {k : Nat} (h : ApSt w A M cs root v k root' A' M' wr) (q : Kept (fun _ => False) wr w') : ApSt w A M cs root v k root' A' M' w' :=
 ⟨h.to_.fresh q, q.get h.db id, h.sp.fresh q, h.ents.fresh q, h.rest, h.log⟩
set_option maxHeartbeats 8000000 in
theorem diffApply {w : World} {A : SA} {M : SM} (h : StoreAt w A M) (root : Int) {v : Value} {cs : List (Int × Int)} (hv : EntsOff w A v cs) (hcs : cs.length ≤ 1000) (hfew : M.log.length + 100000 < 100000000) :
  Calls Try.prog 15 #[.agg #[.pointer (some ⟨A.sb, 0, none⟩)], .int .i64 root, v] w fun e w' => ∃ A', e = .returned (.tuple #[.int .i64 (SM.changes cs M root).2.1, .int .i64 (SM.changes cs M root).2.2]) ∧ StoreTo A A' (SM.changes cs M root).1 w w' := by
 obtain ⟨Av, cap, rfl, hc1, hc2⟩ := hv.at_.form
 unfold maxLen at hc2
 obtain ⟨w1, hw1⟩ : ∃ w1, w.alloc (.cells #[.pointer (some ⟨A.sb, 0, none⟩)] 31) = w1 := ⟨_, rfl⟩
 have k1 : Kept (fun _ => False) w w1 := by rw [← hw1]; exact (Kept.refl _ _).alloc _
 have I1 : Hid (∃ A' M', ApSt w A M cs root (.slice Av cs.length cap) 0 root A' M' w1) := h_ ⟨A, M, (StoreTo.refl h).fresh k1, by rw [← hw1]; exact heap_alloc_new _ _, Safe.new h (Nat.le_refl _) (by rw [← hw1]; simp), hv.fresh k1, rfl, Nat.le_refl _⟩
 have hw1' := h_ hw1
 clear hw1 k1 h hv
 go_enter Try.func15, Try.ntmps15
 go_wp2_with (first | (refine wpList_box_named 31 rfl rfl _ rfl hw1'.out ?_))
 go_loopw [1, 14] (fun r i wr => ∃ (k : Nat) (root' : Int), k ≤ cs.length ∧ i = .int .i64 k ∧ r = .int .i64 root' ∧ Hid (∃ A' M', ApSt w A M cs root (.slice Av cs.length cap) k root' A' M' wr)) (fun _ i _ => cs.length - (intOf i).toNat)
 case atStart => exact ⟨0, root, Nat.zero_le _, rfl, rfl, I1⟩
 case round =>
  obtain ⟨k, root', hk, rfl, rfl, hI⟩ := hrel
  obtain ⟨A', M', St⟩ := hI.out
  by_cases hlt : k < cs.length
  ·obtain ⟨x, hx⟩ : ∃ x, cs[k]? = some x := ⟨_, List.getElem?_eq_getElem hlt⟩
   obtain ⟨eb, eo, rfl, heb, hx0, hx1⟩ := St.ents.at_.get hx
   have hd : cs.drop k = x :: cs.drop (k + 1) := by rw [List.drop_eq_getElem_cons hlt, (List.getElem?_eq_some_iff.1 hx).2]
   have hrest := St.rest
   rw [hd] at hrest
   have hki : (k : Int) < (cs.length : Int) := by omega
   have hlo : Hid (∀ i v, [Value.int .i64 x.1, .int .i64 x.2][i]? = some v → wr.cell? ⟨eb, eo + k * 2 + i, none⟩ = some v) := h_ (fun i v hi => by
    match i, hi with
    | 0, hi => cases hi; exact hx0
    | 1, hi => cases hi; exact hx1)
   obtain ⟨xb, hxb⟩ : ∃ xb, wr.heap.size = xb := ⟨_, rfl⟩
   obtain ⟨wx, hwx⟩ : ∃ wx, (wr.alloc (.cells #[.int .i64 0, .int .i64 0] 41)).setRow xb #[.int .i64 x.1, .int .i64 x.2] = wx := ⟨_, rfl⟩
   have kx : Kept (fun _ => False) wr wx := by rw [← hwx]; exact ((Kept.refl _ _).alloc _).setRowNew (by omega) _
   have qx : wx.heap[xb]? = some (.cells #[.int .i64 x.1, .int .i64 x.2] 41 (0, 0)) := by rw [← hwx, ← hxb]; exact setRow_heap _ _ _ _ _ _ (heap_alloc_new _ _)
   have hlx : Hid (∀ i v, [Value.int .i64 x.1, .int .i64 x.2][i]? = some v → wx.cell? ⟨xb, 0 + i, none⟩ = some v) := h_ (fun i v hi => by rw [cell_of_heap qx, Nat.zero_add]; simpa using hi)
   have Sx := h_ (St.fresh kx)
   have hld := h_ Sx.out.load
   have hone := diffOne Sx.out.to_.store root' x (by have := St.log; omega)
   rw [St.to_.sb] at hone
   have hlog := one_log Sx.out.to_.store root' x
   rw [changes_cons] at hrest
   unfold SM.change at hrest
   obtain ⟨R, hR⟩ : ∃ R, M'.one root' x = R := ⟨_, rfl⟩
   simp only [hR] at hrest hone hlog
   obtain ⟨M1, next, er⟩ := R
   dsimp only at hrest hone hlog
   have hone' := h_ hone
   have hrest' := h_ hrest
   have hlog' := h_ hlog
   have hxb' := h_ hxb
   have hwx' := h_ hwx
   clear hone hR hx hx0 hx1 hd hI St hrest hlog kx qx hxb hwx I1
   go_wp2_with (first | (refine wpList_load_agg 41 rfl rfl rfl _ Try.underlying41 rfl [.int .i64 x.1, .int .i64 x.2] (by kernel_rfl) hlo.out ?_) | (refine wpList_load_agg 41 rfl rfl rfl _ Try.underlying41 rfl [.int .i64 x.1, .int .i64 x.2] (by kernel_rfl) hlx.out ?_) | (refine wpList_alloc_as 41 rfl rfl #[.int .i64 0, .int .i64 0] (by kernel_rfl) ?_; rw [hxb'.out]) | (refine wpList_store_whole 41 rfl rfl rfl [.int .i64 x.1, .int .i64 x.2] rfl (by kernel_rfl) 41 #[.int .i64 0, .int .i64 0] (by rw [← hxb'.out]; exact heap_alloc_new _ _) rfl (by intro c hc; simp at hc; rcases hc with rfl | rfl <;> rfl) ?_; rw [hwx'.out]) | (refine wpList_load_agg 31 rfl rfl rfl _ Try.underlying31 rfl [.pointer (some ⟨A.sb, 0, none⟩)] (by kernel_rfl) hld.out ?_))
   refine hone'.out.mono ?_
   rintro e w3 ⟨A3, rfl, hT3⟩
   have T3 := h_ (Sx.out.to_.trans hT3)
   have p3 := h_ (hT3.get Sx.out.db Sx.out.sp)
   have s3 := h_ (Sx.out.sp.to hT3)
   have K3 := h_ (Sx.out.ents.to hT3)
   clear hT3
   by_cases h0 : er = 0
   ·subst h0
    have hr2 := hrest'.out
    rw [if_pos rfl] at hr2
    have hS := treeSwap T3.out.store root' next
    rw [T3.out.sb] at hS
    have hlogS := swap_log M1 root' next
    obtain ⟨R, hRe⟩ : ∃ R, M1.swap root' next = R := ⟨_, rfl⟩
    rw [hRe] at hS hlogS
    simp only [hRe] at hr2
    obtain ⟨M2, es⟩ := R
    dsimp only at hS hr2 hlogS
    have hS' := h_ hS
    have hr2' := h_ hr2
    have hload3 : Hid (∀ j u, [Value.pointer (some ⟨A.sb, 0, none⟩)][j]? = some u → w3.cell? ⟨w.heap.size, 0 + j, none⟩ = some u) := h_ (fun j u hj => by rw [Nat.zero_add, cell_of_heap p3.out]; simpa using hj)
    have hlogS' := h_ hlogS
    clear hS hRe hr2 hlogS
    go_wp2_with (first | (refine wpList_load_agg 27 rfl rfl rfl _ Try.underlying27 rfl [.pointer (some ⟨A.sb, 0, none⟩)] (by kernel_rfl) hload3.out ?_))
    refine hS'.out.mono ?_
    rintro e w4 ⟨rfl, hT4⟩
    have T4 := h_ (T3.out.trans hT4)
    have p4 := h_ (hT4.get p3.out s3.out)
    have s4 := h_ (s3.out.to hT4)
    have K4 := h_ (K3.out.to hT4)
    clear hT4
    by_cases h1 : es = 0
    ·subst h1
     have hr3 := hr2'.out
     rw [if_pos rfl] at hr3
     dsimp only at hr3
     rw [if_pos rfl] at hr3
     have fin : Hid (∃ A' M', ApSt w A M cs root (.slice (some ⟨eb, eo, none⟩) cs.length cap) (k + 1) next A' M' w4) := h_ ⟨_, M2, T4.out, p4.out, s4.out, K4.out, hr3, by have := hlog'.out; have := Sx.out.log; have := hlogS'.out; rw [this]; omega⟩
     clear hr3
     go_wp2_with fail
     go_roundw
     case rel => exact ⟨k + 1, next, by omega, by go_num, rfl, fin⟩
     case measure => simp [intOf]; omega
    ·have h1' : ((es : Int) == 0) = false := by simp; omega
     have hr3 := hr2'.out
     rw [if_neg h1] at hr3
     dsimp only at hr3
     rw [if_neg h1] at hr3
     have hr3' := h_ hr3
     clear hr3 h1
     go_wp2_with fail
     go_ret2
     exact ⟨_, by rw [← hr3'.out]; rfl, by rw [← hr3'.out]; exact T4.out⟩
   ·have h0' : ((er : Int) == 0) = false := by simp; omega
    have hr2 := hrest'.out
    rw [if_neg h0] at hr2
    dsimp only at hr2
    rw [if_neg h0] at hr2
    have hr2' := h_ hr2
    clear hr2 h0
    go_wp2_with fail
    go_ret2
    exact ⟨_, by rw [← hr2'.out]; rfl, by rw [← hr2'.out]; exact T3.out⟩
  ·obtain rfl : k = cs.length := by omega
   have hr := St.rest
   rw [List.drop_length] at hr
   have hr' : Hid ((M', root', 0) = SM.changes cs M root) := h_ hr
   have St' := h_ St
   clear hI St hr
   go_wp2_with fail
   go_ret2
   exact ⟨A', by rw [← hr'.out]; rfl, by rw [← hr'.out]; exact St'.out.to_⟩

theorem chgL_good {l : List (Int × Int)} (h : RisesK l ∧ ∀ y ∈ l, 0 ≤ y.1 ∧ y.1 < 64) {x : Int × Int} (k0 : 0 ≤ x.1) (k1 : x.1 < 64) : RisesK (chgL l x) ∧ ∀ y ∈ chgL l x, 0 ≤ y.1 ∧ y.1 < 64 := by
 unfold chgL
 split
 ·exact ⟨cutL_rises h.1 _, fun y hy => h.2 y (List.mem_filter.1 hy).1⟩
 ·refine ⟨putL_rises h.1 _, fun y hy => ?_⟩
  rcases putL_mem hy with rfl | hy
  ·exact ⟨k0, k1⟩
  ·exact h.2 y hy
theorem chgs_good : ∀ (cs : List (Int × Int)) {l : List (Int × Int)}, (RisesK l ∧ ∀ y ∈ l, 0 ≤ y.1 ∧ y.1 < 64) → (∀ x ∈ cs, 0 ≤ x.1 ∧ x.1 < 64) → RisesK (cs.foldl chgL l) ∧ ∀ y ∈ cs.foldl chgL l, 0 ≤ y.1 ∧ y.1 < 64
 | [], _, h, _ => h
 | x :: cs, _, h, hx => chgs_good cs (chgL_good h (hx x (List.mem_cons_self ..)).1 (hx x (List.mem_cons_self ..)).2) (fun y hy => hx y (List.mem_cons_of_mem _ hy))
structure RaSt (w : World) (va : Value) (l cs : List (Int × Int)) (k : Nat) (v : Value) (wr : World) : Prop where
 kept : Kept (fun _ => False) w wr
 ents : EntsAt wr v ((cs.take k).foldl chgL l)
 own : v = va ∨ ∀ b, v.ownBlock = some b → w.heap.size ≤ b
theorem fold_take {l cs : List (Int × Int)} {k : Nat} {x : Int × Int} (h : cs[k]? = some x) : (cs.take (k + 1)).foldl chgL l = chgL ((cs.take k).foldl chgL l) x := by
 obtain ⟨hk, rfl⟩ := List.getElem?_eq_some_iff.1 h
 rw [List.take_add_one, List.getElem?_eq_getElem hk, List.foldl_append]
 rfl
set_option maxHeartbeats 4000000 in
theorem ref12Apply {w : World} {va vc : Value} {l cs : List (Int × Int)} (hv : EntsAt w va l) (hc : EntsAt w vc cs) (hl : RisesK l ∧ ∀ y ∈ l, 0 ≤ y.1 ∧ y.1 < 64) (hcs : cs.length ≤ 1000) (hok : ∀ x ∈ cs, 0 ≤ x.1 ∧ x.1 < 64) :
  Calls Try.prog 8 #[va, vc] w fun e w' => ∃ u, e = .returned (.tuple #[u, .int .i64 0]) ∧ RaSt w va l cs cs.length u w' := by
 obtain ⟨Ac, cc, rfl, hc1, hc2⟩ := hc.form
 unfold maxLen at hc2
 have I0 : Hid (RaSt w va l cs 0 va w) := h_ ⟨Kept.refl _ _, hv, .inl rfl⟩
 have hc' := h_ hc
 have hl' := h_ hl
 have hok' := h_ hok
 obtain ⟨Aa, ca, rfl, ha1, ha2⟩ := hv.form
 clear hv hc hl hok
 go_enter Try.func8, Try.ntmps8
 go_wp2_with fail
 go_loopw [0, 10] (fun v i wr => ∃ (k : Nat), k ≤ cs.length ∧ i = .int .i64 k ∧ Hid (RaSt w (.slice Aa l.length ca) l cs k v wr)) (fun _ i _ => cs.length - (intOf i).toNat)
 case atStart => exact ⟨0, Nat.zero_le _, rfl, I0⟩
 case round =>
  obtain ⟨k, hk, rfl, hI⟩ := hrel
  obtain ⟨Av, cap, rfl, hv1, hv2⟩ := hI.out.ents.form
  unfold maxLen at hv2
  by_cases hlt : k < cs.length
  ·obtain ⟨x, hx⟩ : ∃ x, cs[k]? = some x := ⟨_, List.getElem?_eq_getElem hlt⟩
   obtain ⟨eb, eo, rfl, heb, hx0, hx1⟩ := (show EntsAt wr _ cs from SliceAt.fresh hc'.out hI.out.kept).get hx
   obtain ⟨k0, k1⟩ := hok'.out x (List.mem_of_getElem? hx)
   have hgood := chgs_good (cs.take k) hl'.out (fun y hy => hok'.out y (List.mem_of_mem_take hy))
   have hfin := fold_take (l := l) hx
   obtain ⟨L, hL⟩ : ∃ L, (cs.take k).foldl chgL l = L := ⟨_, rfl⟩
   have hE := hI.out.ents
   rw [hL] at hgood hfin hE hv1 ⊢
   have h64 := rises_len hgood.1 hgood.2
   have hki : (k : Int) < (cs.length : Int) := by omega
   have d0 : decide (x.1 < 0) = false := decide_eq_false (by omega)
   have d1 : decide ((63 : Int) < x.1) = false := decide_eq_false (by omega)
   have hlo : Hid (∀ i v, [Value.int .i64 x.1, .int .i64 x.2][i]? = some v → wr.cell? ⟨eb, eo + k * 2 + i, none⟩ = some v) := h_ (fun i v hi => by
    match i, hi with
    | 0, hi => cases hi; exact hx0
    | 1, hi => cases hi; exact hx1)
   obtain ⟨xb, hxb⟩ : ∃ xb, wr.heap.size = xb := ⟨_, rfl⟩
   obtain ⟨wx, hwx⟩ : ∃ wx, (wr.alloc (.cells #[.int .i64 0, .int .i64 0] 41)).setRow xb #[.int .i64 x.1, .int .i64 x.2] = wx := ⟨_, rfl⟩
   have kx : Kept (fun _ => False) wr wx := by rw [← hwx]; exact ((Kept.refl _ _).alloc _).setRowNew (by omega) _
   have qx : wx.heap[xb]? = some (.cells #[.int .i64 x.1, .int .i64 x.2] 41 (0, 0)) := by rw [← hwx, ← hxb]; exact setRow_heap _ _ _ _ _ _ (heap_alloc_new _ _)
   have cx0 := cell_of_heap qx 0
   have cx1 := cell_of_heap qx 1
   simp at cx0 cx1
   have Kx := h_ (hI.out.kept.trans kx)
   have Ex := h_ (show EntsAt wx _ L from SliceAt.fresh hE kx)
   have hxb' := h_ hxb
   have hwx' := h_ hwx
   have hfin' := h_ hfin
   have hgood' := h_ hgood
   by_cases hm : x.2 = -1
   ·have hb : (x.2 == -1) = true := by simp [hm]
    have hch : Hid (chgL L x = cutL L x.1) := h_ (by unfold chgL; rw [if_pos hm])
    have hC := h_ (refCut10 Ex.out (by omega) x.1)
    clear hx hx0 hx1 hI hL hE kx qx hxb hwx hfin hgood heb k0 k1 hm
    go_wp2_with (first | (refine wpList_load_agg 41 rfl rfl rfl _ Try.underlying41 rfl [.int .i64 x.1, .int .i64 x.2] (by kernel_rfl) hlo.out ?_) | (refine wpList_alloc_as 41 rfl rfl #[.int .i64 0, .int .i64 0] (by kernel_rfl) ?_; rw [hxb'.out]) | (refine wpList_store_whole 41 rfl rfl rfl [.int .i64 x.1, .int .i64 x.2] rfl (by kernel_rfl) 41 #[.int .i64 0, .int .i64 0] (by rw [← hxb'.out]; exact heap_alloc_new _ _) rfl (by intro c hc; simp at hc; rcases hc with rfl | rfl <;> rfl) ?_; rw [hwx'.out]))
    refine hC.out.mono ?_
    rintro e w3 ⟨u, rfl, hu, ku⟩
    have fin : Hid (RaSt w (.slice Aa l.length ca) l cs (k + 1) u w3) := h_ ⟨Kx.out.trans ku, by rw [hfin'.out, hch.out]; exact SliceAt.of_owns hu, .inr fun b hb => by have := (hu.lt b hb).1; have := Kx.out.size; omega⟩
    obtain ⟨_, Au, cu, rfl, _⟩ := SliceAt.of_owns hu
    clear hu ku
    go_wp2_with fail
    go_roundw
    case rel => exact ⟨k + 1, by omega, by go_num, fin⟩
    case measure => simp [intOf]; omega
   ·have hb : (x.2 == -1) = false := by simp [hm]
    have hch : Hid (chgL L x = refPut L x) := h_ (by unfold chgL; rw [if_neg hm, refPut_eq hgood.1])
    have hC := h_ (refPut10 Ex.out (by omega) x ⟨k0, by omega⟩)
    clear hx hx0 hx1 hI hL hE kx qx hxb hwx hfin hgood heb k0 k1 hm
    go_wp2_with (first | (refine wpList_load_agg 41 rfl rfl rfl _ Try.underlying41 rfl [.int .i64 x.1, .int .i64 x.2] (by kernel_rfl) hlo.out ?_) | (refine wpList_alloc_as 41 rfl rfl #[.int .i64 0, .int .i64 0] (by kernel_rfl) ?_; rw [hxb'.out]) | (refine wpList_store_whole 41 rfl rfl rfl [.int .i64 x.1, .int .i64 x.2] rfl (by kernel_rfl) 41 #[.int .i64 0, .int .i64 0] (by rw [← hxb'.out]; exact heap_alloc_new _ _) rfl (by intro c hc; simp at hc; rcases hc with rfl | rfl <;> rfl) ?_; rw [hwx'.out]))
    refine hC.out.mono ?_
    rintro e w3 ⟨u, rfl, hu, ku⟩
    have fin : Hid (RaSt w (.slice Aa l.length ca) l cs (k + 1) u w3) := h_ ⟨Kx.out.trans ku, by rw [hfin'.out, hch.out]; exact SliceAt.of_owns hu, .inr fun b hb => by have := (hu.lt b hb).1; have := Kx.out.size; omega⟩
    obtain ⟨_, Au, cu, rfl, _⟩ := SliceAt.of_owns hu
    clear hu ku
    go_wp2_with fail
    go_roundw
    case rel => exact ⟨k + 1, by omega, by go_num, fin⟩
    case measure => simp [intOf]; omega
  ·obtain rfl : k = cs.length := by omega
   have hki : ¬ ((cs.length : Int) < (cs.length : Int)) := by omega
   have hI2 := hI.out
   rw [List.take_length] at hI2
   have hI3 := h_ hI2
   clear hI hI2
   go_wp2_with fail
   go_ret2
   exact ⟨_, rfl, hI3.out⟩
theorem page_more {s : Nat} {bl : List Nat} {M : SM} {P : Nat} (h : OneTree Clean s bl M (-1) [] P) (hs : bl.length < s) (hbn : bl.Nodup) (b : Nat) (hb : b < 256) (h5 : bl.length ≤ 200) :
  ∃ (M1 M2 : SM) (i : Nat), M.make (dataN b) = (M1, (i : Int), 0) ∧ M1.hold (i : Int) = (M2, 0) ∧ OneTree Clean s (bl ++ [i]) M2 (-1) [] P ∧ i ∉ bl ∧ M2.log.length ≤ M.log.length + 1 := by
 have hfree := clean_free h.kk
 have hlive : M.liveN ≤ bl.length := liveN_list (fun q hq => reach_all h.exact h.loose (L := bl) (fun q _ hq => by
  unfold extB at hq
  rw [if_neg (by omega), Nat.add_zero] at hq
  exact List.count_pos_iff.1 hq) (fun q hq x hx => by
  obtain ⟨_, d, hd, _, hde⟩ := h.data q hq
  rw [ents_of hd, hde] at hx
  cases hx) q hq)
 have hsz := h.size
 rcases make_ok h.exact (n := dataN b) (dataN_ok b hb) (fun x hx => by cases hx) with ⟨i, e, mk⟩ | ⟨_, e⟩ | ⟨_, c, e⟩
 ·obtain ⟨M1, hM1⟩ : ∃ M1, (M.make (dataN b)).1 = M1 := ⟨_, rfl⟩
  have hmk : M.make (dataN b) = (M1, (i : Int), 0) := by rw [← hM1]; exact Prod.ext rfl e
  have hK1 : Clean M1 := by rw [← hM1]; exact clean_closed.make (dataN b) h.kk
  rw [hM1] at mk
  have hc0 : M.pool.cnt i = 0 := by
   have hn := mk.new
   have hlt : i < M.pool.size := by have := live_lt mk.live; rw [mk.grown.size] at this; exact this
   unfold SM.live PM.live at hn
   by_cases hz : 0 < M.pool.cnt i
   ·simp [hlt, hz] at hn
   ·omega
  have hc1 : M1.pool.cnt i = 0 := by rw [mk.cnt i, hc0]; rfl
  obtain ⟨h1, E2, hl2⟩ := holdE_ok mk.exact mk.live (by omega)
  have hnot : i ∉ bl := fun hi => by
   have := (h.data i hi).1
   rw [mk.new] at this
   cases this
  have hlog1 : M1.log.length ≤ M.log.length + 1 := by rw [← hM1]; exact make_log M _
  refine ⟨M1, _, i, hmk, h1, ⟨exact_congr E2 (fun p _ => ?_), ?_, ?_, fun q hq => ?_, ⟨h.keys.1, fun y hy => by cases hy⟩, .inl ⟨rfl, rfl⟩, fun q hq hc => ?_⟩, hnot, hlog1⟩
  ·unfold incE extB
   have hz : (if ((p : Nat) : Int) = -1 then 1 else 0) = 0 := if_neg (by omega)
   rw [hz, Nat.add_zero, Nat.add_zero, List.count_append, List.count_singleton]
   by_cases e : p = i
   ·subst e; simp
   ·have e' : ¬ (i == p) = true := by simp; exact fun z => e z.symm
    rw [if_neg e, if_neg e']
  ·show M1.pool.size = s
   rw [mk.grown.size, hsz]
  ·have := clean_closed.hold M1 (i : Int) hK1
   have e : M1.hold (i : Int) = (⟨M1.pool.holdTo (i : Int), M1.log⟩, M1.pool.holdErr (i : Int)) := rfl
   rw [e] at h1
   have e2 := (Prod.mk.inj h1).1
   rw [← e2]
   exact this
  ·rcases List.mem_append.1 hq with hq | hq
   ·obtain ⟨a, d, hd, hk⟩ := h.data q hq
    exact ⟨by rw [hl2]; exact mk.grown.live q a, d, by show M1.nodeAt q = _; rw [mk.grown.node q a]; exact hd, hk⟩
   ·rw [List.mem_singleton] at hq
    subst hq
    exact ⟨by rw [hl2]; exact mk.live, _, mk.node, rfl, rfl⟩
  ·rw [hl2] at hq
   by_cases e : q = i
   ·subst e
    simp [PM.setCnt] at hc
   ·have hc' : M1.pool.cnt q = 0 := by simpa [PM.setCnt, e] using hc
    rw [mk.cnt q] at hc'
    exact h.loose q ((mk.only q hq).resolve_left e) (by omega)
 ·omega
 ·exfalso
  have hsum : M.sum = 0 := by
   have := sumE_list (M := M) (L := bl) (fun q hq => reach_all h.exact h.loose (L := bl) (fun q _ hq => by
    unfold extB at hq
    rw [if_neg (by omega), Nat.add_zero] at hq
    exact List.count_pos_iff.1 hq) (fun q hq x hx => by
    obtain ⟨_, d, hd, _, hde⟩ := h.data q hq
    rw [ents_of hd, hde] at hx
    cases hx) q hq)
   rw [data_sum (fun b hb => by obtain ⟨_, d, hd, _, he⟩ := h.data b hb; exact ⟨d, hd, he⟩)] at this
   omega
  have hext : extB bl (-1) c ≤ 200 := by
   unfold extB
   rw [if_neg (by omega)]
   have : bl.count c ≤ bl.length := List.count_le_length
   omega
  have hrl := M.refs_le c
  rw [hsum] at hrl
  have : (dataN b).ents.length = 0 := rfl
  omega

theorem own_to12 {A A' : SA} {M' : SM} {W w' : World} (k : StoreTo A A' M' W w') {j : Nat} (hj : A'.own j) : A.own j ∨ W.heap.size ≤ j := by
 rcases hj with hj | hj | hj
 ·exact (k.foot j hj).imp .inl id
 ·rw [k.fix.2] at hj; exact .inl (.inr (.inl hj))
 ·rw [k.fix.1] at hj; exact .inl (.inr (.inr hj))
def emptyM (s : Nat) : SM := ⟨PM.fresh0 s, []⟩
theorem empty_live (s q : Nat) : (emptyM s).live q = false := by
 unfold emptyM SM.live PM.live PM.fresh0
 simp
theorem one_empty {s : Nat} (h : s ≤ 240) : OneTree Clean s [] (emptyM s) (-1) [] 0 := by
 refine ⟨⟨h, fun p => Nat.zero_le _, fun p hp => ?_, fun q hq => ?_, fun q hq => ?_, fun _ => 0, fun q hq => ?_⟩, rfl, fun q => ?_, (fun b hb => by cases hb), ⟨List.Pairwise.nil, (fun y hy => by cases hy)⟩, .inl ⟨rfl, rfl⟩, fun q hq => ?_⟩
 ·have hr : (emptyM s).refs p = 0 := sumN_zero fun q _ => by rw [empty_live]; rfl
  rw [hr]
  unfold extB
  rw [if_neg (by omega)]
  rfl
 ·rw [empty_live] at hq; cases hq
 ·rw [empty_live] at hq; cases hq
 ·rw [empty_live] at hq; cases hq
 ·unfold emptyM PM.fresh0
  simp
 ·rw [empty_live] at hq; cases hq
theorem differ_zero : (Try.prog.info? 31).map (·.zero) = some (some (.agg #[.pointer none])) := by kernel_rfl
theorem differ_size : (Try.prog.info? 31).map (·.size) = some 1 := by kernel_rfl
structure MadeSt (w0 : World) (A0 A : SA) (M : SM) (bl ns : List Nat) (s n0 : Nat) (v : Value) (pb : Nat) (wr : World) : Prop where
 to : StoreTo A0 A M w0 wr
 one : OneTree Clean s (bl ++ ns) M (-1) [] 0
 nodup : (bl ++ ns).Nodup
 row : wr.ownsRow w0.heap.size 3 1 v ns.length (ns.map fun i => Value.int .i64 (i : Nat))
 off : ∀ b, v.ownBlock = some b → ¬ A.own b
 log : M.log.length ≤ n0 + ns.length
 box : wr.heap[pb]? = some (.cells #[.pointer none] 31 (0, 0))
 safe : Safe wr A pb
theorem MadeSt.fresh {w0 wr w' : World} {A0 A : SA} {M : SM} {bl ns : List Nat} {s n0 : Nat} {v : Value} {pb : Nat} (h : MadeSt w0 A0 A M bl ns s n0 v pb wr) (k : Kept (fun _ => False) wr w') : MadeSt w0 A0 A M bl ns s n0 v pb w' :=
 ⟨h.to.fresh k, h.one, h.nodup, ownsRow.keptOf h.row k (fun _ _ => id), h.off, h.log, k.get h.box id, h.safe.fresh k⟩
theorem page_builds12 : ∀ k : Nat, k < 4 → (∀ w, (Instr.build 69 #[(0, .int .u8 (k : Int))]).run Try.prog w = .ok (.agg (blockCells (dataN k).block).toArray) w) ∧
  (∀ w, (Instr.build 71 #[(0, .int .i64 1), (1, .agg (blockCells (dataN k).block).toArray)]).run Try.prog w = .ok (.agg (nodeCells (dataN k) (.slice none 0 0)).toArray) w)
 | 0, _ => ⟨fun w => run_build _ _ _ _ (by kernel_rfl), fun w => run_build _ _ _ _ (by kernel_rfl)⟩
 | 1, _ => ⟨fun w => run_build _ _ _ _ (by kernel_rfl), fun w => run_build _ _ _ _ (by kernel_rfl)⟩
 | 2, _ => ⟨fun w => run_build _ _ _ _ (by kernel_rfl), fun w => run_build _ _ _ _ (by kernel_rfl)⟩
 | 3, _ => ⟨fun w => run_build _ _ _ _ (by kernel_rfl), fun w => run_build _ _ _ _ (by kernel_rfl)⟩
 | _ + 4, h => by omega
set_option maxHeartbeats 8000000 in
theorem made12 (w : World) :
  Calls Try.prog 6 #[] w fun e w' => ∃ A M ns v, e = .returned (.tuple #[.agg #[.pointer (some ⟨A.sb, 0, none⟩)], v, .bool true]) ∧ StoreAt w' A M ∧ ns.length = 4 ∧ OneTree Clean 240 ns M (-1) [] 0 ∧ ns.Nodup ∧ w'.ownsRow w.heap.size 3 1 v 4 (ns.map fun i => Value.int .i64 (i : Nat)) ∧ (∀ b, v.ownBlock = some b → ¬ A.own b) ∧ M.log.length ≤ 4 ∧ Kept (fun _ => False) w w' ∧ ∀ k, A.own k → w.heap.size ≤ k := by
 obtain ⟨rb, hrb⟩ : ∃ rb, w.heap.size = rb := ⟨_, rfl⟩
 obtain ⟨w1, hw1⟩ : ∃ w1, w.alloc (.cells #[.pointer none] 31) = w1 := ⟨_, rfl⟩
 have k1 := h_ (show Kept (fun _ => False) w w1 by rw [← hw1]; exact (Kept.refl _ _).alloc _)
 have q1 := h_ (show w1.heap[rb]? = some (.cells #[.pointer none] 31 (0, 0)) by rw [← hw1, ← hrb]; exact heap_alloc_new _ _)
 have hrbw : Hid (w.heap.size = rb ∧ w1.heap.size = rb + 1) := h_ ⟨hrb, by rw [← hw1, ← hrb]; simp⟩
 have hw1' := h_ hw1
 have hrb' := h_ hrb
 clear hw1 hrb
 go_enter Try.func6, Try.ntmps6
 go_wp2_with (first | (refine wpList_alloc_as 31 rfl rfl #[.pointer none] differ_zero ?_; rw [hw1'.out, hrb'.out]))
 refine (diskNew (240 + 4) (by omega) 244 (by decide) _).mono ?_
 rintro e w2 ⟨D, rfl, hD, hDn, hDp, hDo, hk2⟩
 have hD' := h_ hD
 have hDn' := h_ hDn
 have hDp' := h_ hDp
 have hDo' := h_ hDo
 have hk2' := h_ hk2
 clear hD hDn hDp hDo hk2
 go_wp2_with fail
 refine (nodesSize 244 _ (by omega) (by omega)).mono ?_
 rintro e w3 ⟨rfl, rfl⟩
 go_wp2_with fail
 refine (new_any _ _).mono ?_
 rintro e w3 ⟨c, rfl, hnew⟩
 have hP := hnew.pool
 rw [show clampN (max 0 240) = 240 from by decide] at hP
 have hP' := h_ hP
 have hck := hnew.new
 have hk3 := h_ hnew.kept
 clear hnew hP
 go_wp2_with fail
 refine (nodesNew (hD'.out.fresh hk3.out) hP'.out hDp'.out (fun e => by have := hD'.out.lt _ e; omega) (.inr (by rw [hDn'.out]; exact Nat.le_refl _))).mono ?_
 rintro e w4 ⟨A, rfl, hA, hk4, hAo⟩
 have hA' := h_ hA
 have hk14 := h_ (((hk2'.out.trans hk3.out).trans hk4))
 have hAo' : Hid (∀ k, A.own k → w1.heap.size ≤ k) := h_ (fun k hk => by
  rcases hAo k hk with rfl | h | h
  ·have := hk2'.out.size; omega
  ·exact hDo'.out _ h
  ·have := hk2'.out.size; have := hk3.out.size; omega)
 have q4 := h_ (hk14.out.get q1.out id)
 have hsafe : Hid (Safe w4 A rb) := h_ ⟨lt_of_heap q4.out, fun e => by have := hAo'.out rb (.inl e); have := hrbw.out; omega⟩
 clear hA hk4 hAo
 go_wp2_with fail
 have kq : Kept (fun _ => False) w4 (w4.alloc (.cells #[] 3)) := (Kept.refl _ _).alloc _
 have I0 : Hid (∃ A1 M1 ns, ns.length = 0 ∧ MadeSt w4 A A1 M1 [] ns 240 0 (.slice (some ⟨w4.heap.size, 0, none⟩) 0 0) rb (w4.alloc (.cells #[] 3))) := h_ ⟨A, emptyM 240, [], rfl, (StoreTo.refl hA'.out).fresh kq, one_empty (by decide), List.nodup_nil, ?row, ?off, Nat.le_refl _, kq.get q4.out id, hsafe.out.fresh kq⟩
 case row => exact owns_empty w4 w4.heap.size w4.heap.size 3 1 (Nat.le_refl _) rfl
 case off =>
  intro b hb
  simp [Value.ownBlock] at hb
  subst hb
  exact fun e => Nat.lt_irrefl _ (hA'.out.lt e)
 clear kq
 go_loopw [4, 5] (fun v i wr => ∃ (k : Nat), k ≤ 4 ∧ i = .int .i64 k ∧ Hid (∃ A1 M1 ns, ns.length = k ∧ MadeSt w4 A A1 M1 [] ns 240 0 v rb wr)) (fun _ i _ => 4 - (intOf i).toNat)
 case atStart => exact ⟨0, by omega, rfl, I0⟩
 case round =>
  obtain ⟨k, hk, rfl, hI⟩ := hrel
  obtain ⟨A1, M1, ns, hns, St⟩ := hI.out
  obtain ⟨_, Av, cv, rfl, hv1, hv2, _⟩ := SliceAt.of_owns St.row
  unfold maxLen at hv2
  by_cases hlt : k < 4
  ·have hki : (k : Int) < 4 := by omega
   obtain ⟨M2, M3, i, e1, e2, one', hni, hlg⟩ := page_more St.one (by simp; omega) St.nodup k (by omega) (by simp; omega)
   have hmk := storeMake (n := dataN k) (sv := .slice none 0 0) St.to.store ⟨sliceNil (by decide), fun _ b hb => by simp [Value.ownBlock] at hb⟩ rfl (dataN_ok k (by omega)).2.2 (by have := St.log; omega)
   rw [e1, St.to.sb] at hmk
   dsimp only at hmk
   obtain ⟨hb1, hb2⟩ := page_builds12 k hlt
   obtain ⟨B, hB⟩ : ∃ B, blockCells (dataN k).block = B := ⟨_, rfl⟩
   obtain ⟨C, hC⟩ : ∃ C, nodeCells (dataN k) (.slice none 0 0) = C := ⟨_, rfl⟩
   rw [hB] at hb1 hb2
   rw [hC] at hb2 hmk
   have hmk' := h_ hmk
   have hb1' := h_ hb1
   have hb2' := h_ hb2
   have hu8 : IntKind.u8.wrap (k : Int) = (k : Int) := by rw [IntKind.wrap_u8]; omega
   have St' := h_ St
   have one2 := h_ one'
   have hns' := h_ hns
   have hlg' := h_ hlg
   have hni' := h_ hni
   have e2' := h_ e2
   clear hmk hb1 hb2 hB hC St one' hns hlg hni e1 e2 hI
   go_wp2_with (first | (refine wpList_exec rfl (exec_build 69 #[(0, .tmp 23)] _ rfl (by simp [Act.eval, Act.put]) (hb1'.out _)) ?_) | (refine wpList_exec rfl (exec_build 71 #[(0, .const (.int .i64 1)), (1, .tmp 24)] _ rfl (by simp [Act.eval, Act.put]) (hb2'.out _)) ?_))
   refine hmk'.out.mono ?_
   rintro e w5 ⟨A5, rfl, hT5⟩
   have T5 := h_ hT5
   have hh := storeHold hT5.store (i : Int)
   rw [e2'.out, hT5.sb, St'.out.to.sb] at hh
   dsimp only at hh
   have hh' := h_ hh
   clear hT5 hh
   go_wp2_with fail
   refine hh'.out.mono ?_
   rintro e w6 ⟨rfl, hT6⟩
   have T56 := h_ (T5.out.trans hT6)
   have row6 := h_ (ownsRow.keptOf St'.out.row T56.out.kept (fun b hb e => St'.out.off b hb (.inl e)))
   have kA : Hid (Kept (fun _ => False) w6 (w6.alloc (.cells #[.int .i64 (i : Int)] 3))) := h_ ((Kept.refl _ _).alloc _)
   have R5 := h_ (ownsRow.keptOf row6.out kA.out (fun _ _ => id))
   have hsz5 : Hid (w4.heap.size ≤ (w6.alloc (.cells #[.int .i64 (i : Int)] 3)).heap.size) := h_ (Nat.le_trans (Nat.le_trans St'.out.to.kept.size T56.out.kept.size) kA.out.size)
   have hnl : ns.length ≤ 4 := by have := hns'.out; omega
   clear hT6
   go_wp2_with (at_builtin; refine wpList_append_src rfl elemInt (.tmp 38) (.tmp 40) rfl (by rfl) (by rfl) R5.out (SliceAt.block_new (ys := [.int .i64 (i : Int)]) (m := 1) (heap_alloc_new _ _) (by rfl) (by decide)) (by intro c hc; simp at hc; subst hc; rfl) (by omega) (by omega) hsz5.out ?_; intro v2 w10 hown10 hg10 hat10)
   have fin : Hid (∃ A1 M1 ns, ns.length = k + 1 ∧ MadeSt w4 A A1 M1 [] ns 240 0 v2 rb w10) := h_ (by
    have hoff5 : ∀ b, (Value.slice Av ns.length cv).ownBlock = some b → ¬ A5.own b := fun b hb e => (own_to12 T56.out e).elim (St'.out.off b hb) fun h1 => by
     have := (St'.out.row.lt b hb).2
     omega
    have kg := Kept.of_grown hg10
    have S10 : StoreAt w10 A5 M3 := (T56.out.store.fresh kA.out).kept kg (fun j hj e => hoff5 j e hj)
    have T := St'.out.to.trans T56.out
    have k610 := (kA.out.mono (S' := fun j => (Value.slice Av ns.length cv).ownBlock = some j) (fun _ => False.elim)).trans kg
    have hrb1 : rb < w4.heap.size := hsafe.out.lt
    refine ⟨A5, M3, ns ++ [i], by rw [List.length_append, hns'.out]; rfl, ⟨S10, T.kept.trans_new k610 (fun j hj e => absurd hj (Nat.not_lt.2 (St'.out.row.lt j e).1)), fun j hj => (T.foot j hj), T.sb, T.fix⟩, by rw [← List.append_assoc]; exact one2.out, ?_, ?_, fun b hb => ?_, ?_, ?_, ?_⟩
    ·rw [← List.append_assoc, List.nodup_append]
     exact ⟨St'.out.nodup, (by simp), fun a ha b hb e => by rw [List.mem_singleton.1 hb] at e; exact hni'.out (e ▸ ha)⟩
    ·rw [List.length_append, List.map_append]
     exact hown10
    ·rcases hat10 with e | e
     ·exact hoff5 b (e ▸ hb)
     ·rw [hb] at e
      have e' := Option.some.inj e
      exact fun h1 => by have := (T56.out.store.fresh kA.out).lt h1; omega
    ·have h1 := St'.out.log
     have h2 := hlg'.out
     rw [List.length_append, List.length_singleton]
     omega
    ·exact k610.get (T56.out.get St'.out.box St'.out.safe) (fun e => absurd hrb1 (Nat.not_lt.2 (St'.out.row.lt rb e).1))
    ·exact ⟨Nat.lt_of_lt_of_le (St'.out.safe.to T56.out).lt k610.size, (St'.out.safe.to T56.out).off⟩)
   clear hown10 hg10 hat10
   go_wp2_with fail
   go_roundw
   case rel => exact ⟨k + 1, by omega, by go_num, fin⟩
   case measure => simp [intOf]; omega
  ·obtain rfl : k = 4 := by omega
   obtain ⟨v, hv⟩ : ∃ v, (Value.slice Av ns.length cv) = v := ⟨_, rfl⟩
   have hk4 := h_ ((k1.out.trans hk14.out).trans_new St.to.kept (fun i hi e => by have h1 := hAo'.out i (.inl e); have := hrbw.out; omega))
   have hrbn : ¬ A1.own rb := fun e => (own_to12 St.to e).elim (fun e => by have := hAo'.out rb e; have := hrbw.out; omega) (fun e => by have := lt_of_heap q4.out; omega)
   have hgt : w1.heap.size ≤ w4.heap.size := hk14.out.size
   have fin : Hid (StoreAt wr A1 M1 ∧ ns.length = 4 ∧ OneTree Clean 240 ns M1 (-1) [] 0 ∧ ns.Nodup ∧ wr.ownsRow w.heap.size 3 1 v 4 (ns.map fun i => Value.int .i64 (i : Nat)) ∧ (∀ b, v.ownBlock = some b → ¬ A1.own b ∧ b ≠ rb) ∧ M1.log.length ≤ 4 ∧ ∀ k, A1.own k → w1.heap.size ≤ k) := h_ ⟨St.to.store, hns, St.one, St.nodup, by
    have h1 := owns_weaken St.row (show w.heap.size ≤ w4.heap.size by have := hrbw.out; omega)
    rw [hns] at h1
    rw [← hv, hns]
    exact h1, fun b hb => ⟨by rw [← hv] at hb; exact St.off b hb, fun e => by rw [← hv] at hb; have := (St.row.lt b hb).1; have := lt_of_heap q4.out; omega⟩, by have := St.log; omega, fun k hk => (own_to12 St.to hk).elim (hAo'.out k) (fun e => by omega)⟩
   have hsb := St.to.sb
   have qr := h_ St.box
   have hrbn' := h_ hrbn
   rw [hv, ← hsb]
   clear St hI hrbn hsb hv
   go_wp2_with (first | (refine wpList_exec rfl (exec_build 27 #[(0, .tmp 42)] _ rfl (by simp [Act.eval, Act.put]) (run_build _ _ _ _ (by kernel_rfl))) ?_) | (refine wpList_exec rfl (exec_build 29 #[(0, .tmp 43)] _ rfl (by simp [Act.eval, Act.put]) (run_build _ _ _ _ (by kernel_rfl))) ?_) | (refine wpList_exec rfl (exec_build 31 #[(0, .tmp 44)] _ rfl (by simp [Act.eval, Act.put]) (run_build _ _ _ _ (by kernel_rfl))) ?_) | (refine wpList_store_whole 31 rfl rfl rfl [.pointer (some ⟨A1.sb, 0, none⟩)] rfl differ_size 31 #[.pointer none] qr.out rfl (by intro c hc; simp at hc; subst hc; rfl) ?_))
   refine bodyPost_ret (results_row_tmp2 rfl _ _ rb 31 #[.pointer (some ⟨A1.sb, 0, none⟩)] (0, 0) _ rfl (setRow_heap _ _ _ _ 31 (0, 0) qr.out) Try.underlying31 rfl differ_size) rfl ?_
   obtain ⟨f1, f2, f3, f4, f5, f6, f7, f8⟩ := fin.out
   have kS := Kept.setRow (S := fun i => i = rb) (Kept.refl _ wr) rfl #[.pointer (some ⟨A1.sb, 0, none⟩)]
   exact ⟨A1, M1, ns, v, rfl, f1.kept kS (fun i hi e => hrbn'.out (e ▸ hi)), f2, f3, f4, ownsRow.keptOf f5 kS (fun b hb e => (f6 b hb).2 e), fun b hb => (f6 b hb).1, f7, hk4.out.setRowNew (by have := hrbw.out; omega) _, fun k hk => by have h1 := f8 k hk; have := hrbw.out; omega⟩

structure ApartS (wr : World) (A : SA) (b : Nat) : Prop where
 lt : b < wr.heap.size
 off : ¬ A.own b
theorem own_toS {A A' : SA} {M' : SM} {W w' : World} (k : StoreTo A A' M' W w') {j : Nat} (hj : A'.own j) : A.own j ∨ W.heap.size ≤ j := by
 rcases hj with hj | hj | hj
 ·exact (k.foot j hj).imp .inl id
 ·rw [k.fix.2] at hj; exact .inl (.inr (.inl hj))
 ·rw [k.fix.1] at hj; exact .inl (.inr (.inr hj))
theorem ApartS.fresh {wr w' : World} {A : SA} {b : Nat} (h : ApartS wr A b) (k : Kept (fun _ => False) wr w') : ApartS w' A b := ⟨Nat.lt_of_lt_of_le h.lt k.size, h.off⟩
theorem ApartS.to {wr w' : World} {A A' : SA} {M' : SM} {b : Nat} (h : ApartS wr A b) (k : StoreTo A A' M' wr w') : ApartS w' A' b := ⟨Nat.lt_of_lt_of_le h.lt k.kept.size, fun e => (own_toS k e).elim h.off (fun e => by have := h.lt; omega)⟩
theorem ApartS.safe {wr : World} {A : SA} {b : Nat} (h : ApartS wr A b) : Safe wr A b := ⟨h.lt, fun e => h.off (.inl e)⟩
theorem ApartS.new {wr w' : World} {A : SA} {M : SM} {b : Nat} (h : StoreAt wr A M) (hb : wr.heap.size ≤ b) (hl : b < w'.heap.size) : ApartS w' A b := ⟨hl, fun e => absurd (h.lt e) (Nat.not_lt.2 hb)⟩
theorem ApartS.kept {S : Nat → Prop} {wr w' : World} {A : SA} {b : Nat} (h : ApartS wr A b) (k : Kept S wr w') : ApartS w' A b := ⟨Nat.lt_of_lt_of_le h.lt k.size, h.off⟩
theorem cutF_logZ (M : SM) (key : Int) : ∀ (f : Nat) (r : Int), (SM.cutF f M r key).1.log.length ≤ M.log.length + 2 * f
 | 0, _ => by simp [SM.cutF]
 | f + 1, r => by
  have ih := cutF_logZ M key f ((M.tnode r (8 - f)).1.ents.getD (atI (M.tnode r (8 - f)).1.ents key).toNat (0, 0)).2
  unfold SM.cutF
  dsimp only
  split
  ·dsimp only; omega
  ·split
   ·split <;> (dsimp only; omega)
   ·obtain ⟨C, hC⟩ : ∃ C, SM.cutF f M ((M.tnode r (8 - f)).1.ents.getD (atI (M.tnode r (8 - f)).1.ents key).toNat (0, 0)).2 key = C := ⟨_, rfl⟩
    rw [hC] at ih ⊢
    have h := (split_bound C.1 (C.1.join (M.tnode r (8 - f)).1 C.2.1 (atI (M.tnode r (8 - f)).1.ents key).toNat (8 - f)).1).1
    split
    ·dsimp only; omega
    ·split
     ·split <;> (dsimp only; omega)
     ·dsimp only; omega
theorem cut_logZ (M : SM) (root key : Int) : (M.cut root key).1.log.length ≤ M.log.length + 20 := by
 have h1 := cutF_logZ M key 9 root
 have h2 := (split_bound (SM.cutF 9 M root key).1 (SM.cutF 9 M root key).2.1).1
 unfold SM.cut
 split
 ·dsimp only; omega
 ·split
  ·dsimp only; omega
  ·dsimp only
   split
   ·dsimp only; omega
   ·split
    ·dsimp only; omega
    ·split
     ·dsimp only; omega
     ·split <;> (dsimp only; omega)

structure OwnStore (w : World) (A : SA) (M : SM) (wr : World) : Prop where
 store : StoreAt wr A M
 kept : Kept (fun _ => False) w wr
 new : ∀ k, A.own k → w.heap.size ≤ k
theorem OwnStore.fresh {w wr w' : World} {A : SA} {M : SM} (h : OwnStore w A M wr) (k : Kept (fun _ => False) wr w') : OwnStore w A M w' := ⟨h.store.fresh k, h.kept.trans k, h.new⟩
theorem OwnStore.to {w wr w' : World} {A A' : SA} {M M' : SM} (h : OwnStore w A M wr) (k : StoreTo A A' M' wr w') : OwnStore w A' M' w' := by
 refine ⟨k.store, h.kept.trans_new k.kept (fun i hi e => by have := h.new _ (.inl e); omega), fun j hj => ?_⟩
 have hsz := h.kept.size
 rcases hj with hj | hj | hj
 ·rcases k.foot j hj with e | e
  ·exact h.new _ (.inl e)
  ·omega
 ·rw [k.fix.2] at hj; exact h.new _ (.inr (.inl hj))
 ·rw [k.fix.1] at hj; exact h.new _ (.inr (.inr hj))

theorem ents_new {w : World} {A : SA} {M : SM} (h : StoreAt w A M) (l : List (Int × Int)) (hl : l.length ≤ 1000) : StoreAt (w.alloc (.cells (entCells l).toArray 58)) A M ∧ EntsOff (w.alloc (.cells (entCells l).toArray 58)) A (.slice (some ⟨w.heap.size, 0, none⟩) l.length l.length) l := by
 refine ⟨h.fresh ((Kept.refl _ _).alloc _), SliceAt.block_new (heap_alloc_new _ _) (entCells_len _) (by unfold maxLen; omega), fun _ b hb => ?_⟩
 simp [Value.ownBlock] at hb
 subst hb
 exact ⟨by simp, fun e => Nat.lt_irrefl _ (h.lt (.inl e))⟩

end Go.Proofs.Ytdcnogjbmdhgaaa
