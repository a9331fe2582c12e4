/-
 What a tree finds, and its height, plain; the document's Put, Cut, Find and Trim, plain.
-/
import Derived.Test.YtidlchciehdefaaGreatK03
import Derived.Test.YtidlchciehdefaaGreatK05
import Derived.Test.YtidlchciehdefaaGreatK18
import Derived.Test.YtidlchciehdefaaGreatK24
import Derived.Test.YtidlchciehdefaaGreatK26
set_option linter.unusedVariables false
set_option linter.unusedSimpArgs false
namespace Go.Proofs.YtidlchciehdefaaGreat
open Go.RowKit

def findL : List (Int × Int) → Int → Int
 | [], _ => -1
 | y :: l, key => if y.1 = key then y.2 else findL l key
theorem findL_none : ∀ {l : List (Int × Int)} {key : Int}, (∀ y ∈ l, y.1 ≠ key) → findL l key = -1
 | [], _, _ => rfl
 | y :: l, key, h => by
  unfold findL
  rw [if_neg (h y (List.mem_cons_self ..)), findL_none fun z hz => h z (List.mem_cons_of_mem _ hz)]
theorem findL_skip : ∀ {a l : List (Int × Int)} {key : Int}, (∀ y ∈ a, y.1 ≠ key) → findL (a ++ l) key = findL l key
 | [], _, _, _ => rfl
 | y :: a, l, key, h => by
  rw [List.cons_append, findL, if_neg (h y (List.mem_cons_self ..))]
  exact findL_skip fun z hz => h z (List.mem_cons_of_mem _ hz)
theorem findL_left : ∀ {a l : List (Int × Int)} {key : Int}, (∀ y ∈ l, y.1 ≠ key) → findL (a ++ l) key = findL a key
 | [], _, _, h => findL_none h
 | y :: a, l, key, h => by
  rw [List.cons_append, findL, findL]
  split
  ·rfl
  ·exact findL_left h
theorem findF_succ (f : Nat) (M : SM) (root key : Int) : SM.findF (f + 1) M root key = if root = -1 then (-1, 0) else
   if (M.tnode root (8 - f)).2 = 0 then
    if atI (M.tnode root (8 - f)).1.ents key < 0 ∨ ((M.tnode root (8 - f)).1.kind = 2 ∧ ((M.tnode root (8 - f)).1.ents.getD (atI (M.tnode root (8 - f)).1.ents key).toNat (0, 0)).1 ≠ key) then (-1, 0)
    else if (M.tnode root (8 - f)).1.kind = 2 then (((M.tnode root (8 - f)).1.ents.getD (atI (M.tnode root (8 - f)).1.ents key).toNat (0, 0)).2, 0)
     else SM.findF f M ((M.tnode root (8 - f)).1.ents.getD (atI (M.tnode root (8 - f)).1.ents key).toNat (0, 0)).2 key
   else (-1, (M.tnode root (8 - f)).2) := rfl
theorem find_ok {m : Nat} {M : SM} {key : Int} : ∀ (h d : Nat) (p : Int) (l : List (Int × Int)), h + d ≤ 8 → Tr m M h p l → Good M l → SM.findF (9 - d) M p key = (findL l key, 0)
 | 0, _, _, _, _, t, _ => t.elim
 | h + 1, d, p, l, hd, t, g => by
  obtain ⟨n, hn, hna, hok, k⟩ := tnode_tr t (d := d) (by omega)
  have ge := k.good g
  have hp0 := (heldB_int t.held).1
  have hb := atI_bound (l := n.ents) key
  rw [show 9 - d = (8 - d) + 1 by omega, findF_succ, show 8 - (8 - d) = d by omega, hn]
  dsimp only
  rw [if_neg (by omega), if_pos rfl]
  by_cases ha : atI n.ents key < 0
  ·rw [if_pos (.inl ha), findL_none]
   intro y hy
   obtain ⟨e, he, hle⟩ := k.ge g.1 y hy
   have := atI_neg ge.1 ha e he
   omega
  obtain ⟨i, hi⟩ := Int.eq_ofNat_of_zero_le (show 0 ≤ atI n.ents key by omega)
  have hil : i < n.ents.length := by omega
  rw [hi, Int.toNat_natCast]
  rcases k with ⟨h0, hk, hl⟩ | ⟨h0, hk, hK⟩
  ·have hlc := leaf_cut ge.1 hi hil
   by_cases hke : (n.ents.getD i (0, 0)).1 = key
   ·rw [if_neg (fun e => by rcases e with e | e; exact absurd e (by omega); exact e.2 hke), if_pos hk]
    have hg : n.ents.getD i (0, 0) = n.ents[i] := by simp [List.getD, List.getElem?_eq_getElem hil]
    have hd' : n.ents.drop i = n.ents[i] :: n.ents.drop (i + 1) := List.drop_eq_getElem_cons hil
    have hlt : ∀ y ∈ n.ents.take i, y.1 < n.ents[i].1 := fun y hy => rises_cut ge.1 i y hy n.ents[i] (by rw [hd']; exact List.mem_cons_self ..)
    rw [hg] at hke ⊢
    rw [← hl]
    have e : n.ents = n.ents.take i ++ n.ents[i] :: n.ents.drop (i + 1) := by rw [← hd', List.take_append_drop]
    have e2 : findL n.ents key = n.ents[i].2 := by
     have e3 : findL (n.ents.take i ++ n.ents[i] :: n.ents.drop (i + 1)) key = n.ents[i].2 := by
      rw [findL_skip (fun y hy => by have := hlt y hy; omega), findL, if_pos hke]
     rw [← e] at e3
     exact e3
    rw [e2]
   ·rw [if_pos (.inr ⟨hk, hke⟩), ← hl, findL_none (hlc.2 hke)]
  ·rw [if_neg (fun e => by rcases e with e | e; exact absurd e (by omega); have := e.1; omega), if_neg (by omega)]
   obtain ⟨_, hc1, hc2⟩ := atI_cut ge.1 key (c := i + 1) (by rw [hi]; omega)
   have hg : n.ents.getD i (0, 0) = n.ents[i] := by simp [List.getD, List.getElem?_eq_getElem hil]
   have hes : n.ents = n.ents.take i ++ n.ents[i] :: n.ents.drop (i + 1) := by rw [← List.drop_eq_getElem_cons hil, List.take_append_drop]
   rw [hg]
   obtain ⟨e, he⟩ : ∃ e, n.ents[i] = e := ⟨_, rfl⟩
   obtain ⟨es1, he1⟩ : ∃ es1, n.ents.take i = es1 := ⟨_, rfl⟩
   obtain ⟨es2, he2⟩ : ∃ es2, n.ents.drop (i + 1) = es2 := ⟨_, rfl⟩
   have hee1 : e.1 ≤ key := hc1 e (by rw [← he, List.mem_take_iff_getElem]; exact ⟨i, by omega, rfl⟩)
   have hee2 : ∀ f ∈ es2, key < f.1 := fun f hf => hc2 f (by rw [he2]; exact hf)
   rw [he, he1, he2] at hes
   rw [he]
   rw [hes] at hK
   obtain ⟨a, b, hab, hK1, s, tt, y, hst, hT, hy, hye, hK2⟩ := hK.cut
   subst hab hst
   have ga : ∀ z ∈ a, z.1 < key := fun z hz => by
    have hys : y ∈ s ++ tt := List.mem_append_left _ (List.mem_of_mem_head? (by rw [hy]; rfl))
    have := (List.pairwise_append.1 g.1).2.2 z hz y hys
    omega
   have gt : ∀ z ∈ tt, key < z.1 := fun z hz => by
    cases es2 with
    | nil => rw [show tt = [] from hK2] at hz; cases hz
    | cons f es2 =>
     obtain ⟨u, hu, hue⟩ := hK2.head
     have h1 := hee2 f (List.mem_cons_self ..)
     have h2 := head_le g.right.right.1 hu z hz
     omega
   have hr := find_ok (key := key) h (d + 1) e.2 s (by omega) hT.1 g.right.left
   rw [show 9 - (d + 1) = 8 - d by omega] at hr
   rw [hr, findL_skip (fun z hz => by have := ga z hz; omega), findL_left (fun z hz => by have := gt z hz; omega)]
section
variable {K : SM → Prop} {s : Nat} {bl : List Nat} {M : SM} {root : Int} {l : List (Int × Int)} {P : Nat}
end
section
variable {K : SM → Prop} {s c : Nat} {bl : List Nat} {M : SM} {root : Int} {l : List (Int × Int)} {P : Nat}
end
set_option maxRecDepth 100000

theorem cut_log {w : World} {A : SA} {M : SM} (h : StoreAt w A M) (root key : Int) : (M.cut root key).1.log.length ≤ M.log.length + 20 := by
 have h1 := (cutF_log h 9 root key).1
 have h2 := (split_bound (SM.cutF 9 M root key).1 (SM.cutF 9 M root key).2.1).1
 unfold SM.cut
 split
 ·dsimp only; omega
 ·split
  ·dsimp only; omega
  ·dsimp only
   split
   ·dsimp only; omega
   ·split
    ·dsimp only; omega
    ·split
     ·dsimp only; omega
     ·split <;> (dsimp only; omega)
set_option maxHeartbeats 8000000 in
theorem pruneCut {w : World} {A : SA} {M : SM} (h : StoreAt w A M) (root key : Int) (hfew : M.log.length + 30 < 100000000) :
  Calls Tryz.prog 108 #[.agg #[.pointer (some ⟨A.sb, 0, none⟩)], .int .i64 root, .int .i64 key] w fun e w' => ∃ A', e = .returned (.tuple #[.int .i64 (M.cut root key).2.1, .bool (M.cut root key).2.2.1, .int .i64 (M.cut root key).2.2.2]) ∧ StoreTo A A' (M.cut root key).1 w w' := by
 obtain ⟨w1, hw1⟩ : ∃ w1, w.alloc (.cells #[.pointer (some ⟨A.sb, 0, none⟩)] 28) = w1 := ⟨_, rfl⟩
 have k1 : Kept (fun _ => False) w w1 := by rw [← hw1]; exact (Kept.refl _ _).alloc _
 have s1 : w1.heap.size = w.heap.size + 1 := by rw [← hw1]; simp
 have t1 : w1.heap[w.heap.size]? = some (.cells #[.pointer (some ⟨A.sb, 0, none⟩)] 28 (0, 0)) := by rw [← hw1]; exact heap_alloc_new _ _
 have k1' := h_ k1
 have hw1' := h_ hw1
 have h' := h_ h
 by_cases hk0 : key < 0
 ·have e : Hid (M.cut root key = (M, -1, false, 101)) := h_ (by unfold SM.cut; rw [if_pos (.inl hk0)])
  clear hw1 k1 s1 t1 h
  go_enter Tryz.func108, Tryz.ntmps108
  go_wp2_with (first | (refine wpList_box_named 28 rfl rfl _ rfl hw1'.out ?_))
  go_ret3
  first | exact ⟨A, by rw [e.out]; rfl, by rw [e.out]; exact (StoreTo.refl h'.out).fresh k1'.out⟩ | exact ⟨by rw [e.out]; rfl, A, by rw [e.out]; exact (StoreTo.refl h'.out).fresh k1'.out⟩
 by_cases hk1 : 64 ≤ key
 ·have e : Hid (M.cut root key = (M, -1, false, 101)) := h_ (by unfold SM.cut; rw [if_pos (.inr hk1)])
  clear hw1 k1 s1 t1 h
  go_enter Tryz.func108, Tryz.ntmps108
  go_wp2_with (first | (refine wpList_box_named 28 rfl rfl _ rfl hw1'.out ?_))
  go_ret3
  first | exact ⟨A, by rw [e.out]; rfl, by rw [e.out]; exact (StoreTo.refl h'.out).fresh k1'.out⟩ | exact ⟨by rw [e.out]; rfl, A, by rw [e.out]; exact (StoreTo.refl h'.out).fresh k1'.out⟩
 by_cases hr : root = -1
 ·subst hr
  have e : Hid (M.cut (-1) key = (M, -1, false, 0)) := h_ (by unfold SM.cut; rw [if_neg (by omega), if_pos rfl])
  clear hw1 k1 s1 t1 h
  go_enter Tryz.func108, Tryz.ntmps108
  go_wp2_with (first | (refine wpList_box_named 28 rfl rfl _ rfl hw1'.out ?_))
  go_ret3
  first | exact ⟨A, by rw [e.out]; rfl, by rw [e.out]; exact (StoreTo.refl h'.out).fresh k1'.out⟩ | exact ⟨by rw [e.out]; rfl, A, by rw [e.out]; exact (StoreTo.refl h'.out).fresh k1'.out⟩
 have hrb : (root == -1) = false := by simpa using hr
 have hP := pruneCutF 9 (by omega) (Nat.le_refl _) root key (h.fresh k1) (by omega)
 have hlog := (cutF_log h 9 root key).1
 have hcut : Hid (M.cut root key = if (SM.cutF 9 M root key).2.2.2 ≠ 0 then ((SM.cutF 9 M root key).1, -1, false, (SM.cutF 9 M root key).2.2.2)
   else if (SM.cutF 9 M root key).2.2.1 = false then ((SM.cutF 9 M root key).1, root, false, 0)
   else if (SM.cutF 9 M root key).2.1.kind = 3 ∧ (SM.cutF 9 M root key).2.1.ents.length = 1 then ((SM.cutF 9 M root key).1, ((SM.cutF 9 M root key).2.1.ents.getD 0 (0, 0)).2, true, 0)
   else if ((SM.cutF 9 M root key).1.split (SM.cutF 9 M root key).2.1).2.2 ≠ 0 ∨ ((SM.cutF 9 M root key).1.split (SM.cutF 9 M root key).2.1).2.1.length = 0 then (((SM.cutF 9 M root key).1.split (SM.cutF 9 M root key).2.1).1, -1, ((SM.cutF 9 M root key).1.split (SM.cutF 9 M root key).2.1).2.2 == 0, ((SM.cutF 9 M root key).1.split (SM.cutF 9 M root key).2.1).2.2)
   else (((SM.cutF 9 M root key).1.split (SM.cutF 9 M root key).2.1).1, (((SM.cutF 9 M root key).1.split (SM.cutF 9 M root key).2.1).2.1.getD 0 (0, 0)).2, true, 0)) := h_ (by unfold SM.cut; rw [if_neg (by omega), if_neg hr])
 obtain ⟨R, hR⟩ : ∃ R, SM.cutF 9 M root key = R := ⟨_, rfl⟩
 rw [hR] at hP hlog
 simp only [hR] at hcut
 obtain ⟨M1, n1, was, er⟩ := R
 dsimp only at hP hlog hcut
 have hP' := h_ hP
 obtain ⟨Z, hZ⟩ : ∃ Z, nodeCells NM.zero (.slice none 0 0) = Z := ⟨_, rfl⟩
 have hZz : Hid ((Tryz.prog.info? 115).map (·.zero) = some (some (.agg Z.toArray))) := h_ (by rw [← hZ]; exact node_zero)
 have hZl : Hid (Z.length = 18) := h_ (by rw [← hZ]; exact nodeCells_len _ _)
 have t1' := h_ t1
 have sf1 : Hid (Safe w1 A w.heap.size) := h_ (Safe.new h (Nat.le_refl _) (by omega))
 have hload1 : Hid (∀ j v, [Value.pointer (some ⟨A.sb, 0, none⟩)][j]? = some v → w1.cell? ⟨w.heap.size, 0 + j, none⟩ = some v) := h_ (fun j v hj => by rw [Nat.zero_add, cell_of_heap t1]; simpa using hj)
 have st1 := h_ ((StoreTo.refl h).fresh k1)
 have hsz1 := s1
 clear hw1 k1 s1 t1 h hP hR hr hZ
 go_enter Tryz.func108, Tryz.ntmps108
 go_wp2_with (first | (refine wpList_box_named 28 rfl rfl _ rfl hw1'.out ?_) | (refine wpList_load_agg 28 rfl rfl rfl _ Tryz.underlying28 rfl [.pointer (some ⟨A.sb, 0, none⟩)] (by kernel_rfl) hload1.out ?_))
 refine hP'.out.mono ?_
 rintro e' w3 ⟨A3, v, rfl, hT3, hO3⟩
 obtain ⟨Av, cap, rfl, hf1, hf2⟩ := EntsAt.form hO3.ents.at_
 unfold maxLen at hf2
 obtain ⟨F, hF⟩ : ∃ F, nodeCells n1 (.slice Av n1.ents.length cap) = F := ⟨_, rfl⟩
 have hFl : Hid (F.length = 18) := h_ (by rw [← hF]; exact nodeCells_len _ _)
 have hF1 : Hid (∀ v ∈ F, v.oneCell' = true) := h_ (by rw [← hF]; exact nodeCells_one _ _ _ _)
 obtain ⟨nb, hnb⟩ : ∃ nb, w3.heap.size = nb := ⟨_, rfl⟩
 obtain ⟨w5, hw5⟩ : ∃ w5, (w3.alloc (.cells Z.toArray 115)).setRow nb F.toArray = w5 := ⟨_, rfl⟩
 have k5 : Kept (fun _ => False) w3 w5 := by rw [← hw5]; exact ((Kept.refl _ _).alloc _).setRowNew (by omega) _
 have q5 := h_ (show w5.heap[nb]? = some (.cells F.toArray 115 (0, 0)) by rw [← hw5, ← hnb]; exact setRow_heap _ _ _ _ _ _ (heap_alloc_new _ _))
 have bx5 : NodeBox w5 nb n1 (.slice Av n1.ents.length cap) := ⟨by rw [hF]; exact q5.out⟩
 have c0 := bx5.c0
 have c17 := bx5.c17
 have t5 := h_ (k5.get (hT3.get t1'.out sf1.out) id)
 have ct5 := cell_of_heap t5.out 0
 simp at ct5
 have hT5 := h_ ((st1.out.trans hT3).fresh k5)
 have hsb := hT3.sb
 have hO5 := h_ (hO3.ents.fresh k5)
 have hSp := treeSplit hT5.out.store hO5.out (by omega)
 rw [hF, hsb] at hSp
 have hSp' := h_ hSp
 have hnb' := h_ hnb
 have hw5' := h_ hw5
 rw [hF]
 clear hT3 hO3 hF hnb hw5 k5 hSp hsb bx5
 by_cases h0 : er = 0
 ·subst h0
  rw [if_neg (by simp)] at hcut
  cases was with
  | false =>
   rw [if_pos rfl] at hcut
   go_wp2_with (first | (refine wpList_alloc_as 115 rfl rfl Z.toArray hZz.out ?_; rw [hnb'.out]) | (refine wpList_store_whole 115 rfl rfl rfl F rfl (by rw [hFl.out]; exact node_size) 115 _ (by rw [← hnb'.out]; exact heap_alloc_new _ _) (by simp [hFl.out, hZl.out]) hF1.out ?_; rw [hw5'.out]))
   go_ret3
   first | exact ⟨A3, by rw [hcut.out]; rfl, by rw [hcut.out]; exact hT5.out⟩ | exact ⟨by rw [hcut.out]; rfl, A3, by rw [hcut.out]; exact hT5.out⟩
  | true =>
   rw [if_neg (by simp)] at hcut
   by_cases hone : n1.kind = 3 ∧ n1.ents.length = 1
   ·obtain ⟨hk3, hl1⟩ := hone
    rw [if_pos ⟨hk3, hl1⟩] at hcut
    obtain ⟨x, hx⟩ : ∃ x, n1.ents[0]? = some x := ⟨_, List.getElem?_eq_getElem (by omega)⟩
    obtain ⟨b, off, rfl, _, hx1, hx2⟩ := EntsAt.get hO5.out.at_ hx
    have hxd : n1.ents.getD 0 (0, 0) = x := by simp [hx]
    rw [hxd] at hcut
    rw [Nat.zero_mul, Nat.add_zero] at hx1 hx2
    rw [hk3] at c0
    rw [hl1] at c17
    clear hx hxd hk3 hl1 hf1
    go_wp2_with (first | (refine wpList_alloc_as 115 rfl rfl Z.toArray hZz.out ?_; rw [hnb'.out]) | (refine wpList_store_whole 115 rfl rfl rfl F rfl (by rw [hFl.out]; exact node_size) 115 _ (by rw [← hnb'.out]; exact heap_alloc_new _ _) (by simp [hFl.out, hZl.out]) hF1.out ?_; rw [hw5'.out]))
    go_ret3
    first | exact ⟨A3, by rw [hcut.out]; rfl, by rw [hcut.out]; exact hT5.out⟩ | exact ⟨by rw [hcut.out]; rfl, A3, by rw [hcut.out]; exact hT5.out⟩
   ·rw [if_neg hone] at hcut
    obtain ⟨R, hR⟩ : ∃ R, M1.split n1 = R := ⟨_, rfl⟩
    rw [hR] at hSp'
    simp only [hR] at hcut
    obtain ⟨M2, out, er2⟩ := R
    dsimp only at hSp' hcut
    clear hR
    have fin : Hid (∀ w6 A6, StoreTo A3 A6 M2 w5 w6 → StoreTo A A6 M2 w w6) := h_ (fun w6 A6 k => hT5.out.trans k)
    by_cases hk3 : n1.kind = 3
    ·have hl1 : ((n1.ents.length : Int) == 1) = false := by rw [beq_eq_false_iff_ne]; intro e; exact hone ⟨hk3, by omega⟩
     rw [hk3] at c0
     clear hk3 hone
     go_wp2_with (first | (refine wpList_alloc_as 115 rfl rfl Z.toArray hZz.out ?_; rw [hnb'.out]) | (refine wpList_store_whole 115 rfl rfl rfl F rfl (by rw [hFl.out]; exact node_size) 115 _ (by rw [← hnb'.out]; exact heap_alloc_new _ _) (by simp [hFl.out, hZl.out]) hF1.out ?_; rw [hw5'.out]) | (refine wpList_load_agg 26 rfl rfl rfl _ Tryz.underlying26 rfl [.pointer (some ⟨A.sb, 0, none⟩)] (by kernel_rfl) (fun j v hj => by rw [Nat.zero_add, cell_of_heap t5.out]; simpa using hj) ?_) | (refine wpList_load_agg 115 rfl rfl rfl _ Tryz.underlying115 rfl F (by rw [hFl.out]; exact node_size) (fun j v hv => by rw [cell_of_heap q5.out, Nat.zero_add]; simpa using hv) ?_))
     refine hSp'.out.mono ?_
     rintro e w6 ⟨A6, v6, rfl, hT6, hO6⟩
     obtain ⟨Av6, cap6, rfl, hg1, hg2⟩ := hO6.ents.at_.form
     unfold maxLen at hg2
     have hTT := h_ (fin.out _ _ hT6)
     have hO6' := h_ hO6
     clear hT6 hO6
     by_cases h2 : er2 = 0
     ·subst h2
      by_cases hl2 : out.length = 0
      ·rw [if_pos (Or.inr hl2)] at hcut
       have hlb2 : ((out.length : Int) == 0) = true := by simp [hl2]
       clear hl2
       go_wp2_with fail
       go_ret3
       first | exact ⟨A6, by rw [hcut.out]; rfl, by rw [hcut.out]; exact hTT.out⟩ | exact ⟨by rw [hcut.out]; rfl, A6, by rw [hcut.out]; exact hTT.out⟩
      ·rw [if_neg (by simp only [ne_eq, not_true_eq_false, false_or]; exact hl2)] at hcut
       obtain ⟨x, hx⟩ : ∃ x, out[0]? = some x := ⟨_, List.getElem?_eq_getElem (by omega)⟩
       obtain ⟨b, off, rfl, _, hx1, hx2⟩ := EntsAt.get hO6'.out.ents.at_ hx
       have hxd : out.getD 0 (0, 0) = x := by simp [hx]
       rw [hxd] at hcut
       rw [Nat.zero_mul, Nat.add_zero] at hx1 hx2
       have hlb2 : ((out.length : Int) == 0) = false := by rw [beq_eq_false_iff_ne]; omega
       have hpos : 0 < out.length := by omega
       clear hx hxd hl2
       go_wp2_with fail
       go_ret3
       first | exact ⟨A6, by rw [hcut.out]; rfl, by rw [hcut.out]; exact hTT.out⟩ | exact ⟨by rw [hcut.out]; rfl, A6, by rw [hcut.out]; exact hTT.out⟩
     ·rw [if_pos (Or.inl h2)] at hcut
      have h2' : ((er2 : Int) == 0) = false := by rw [beq_eq_false_iff_ne]; omega
      have h2b : ((er2 : Int) != 0) = true := by rw [bne, h2']; rfl
      have h2c : (er2 == 0) = false := by rw [beq_eq_false_iff_ne]; exact h2
      rw [h2c] at hcut
      clear h2
      go_wp2_with fail
      go_ret3
      first | exact ⟨A6, by rw [hcut.out]; rfl, by rw [hcut.out]; exact hTT.out⟩ | exact ⟨by rw [hcut.out]; rfl, A6, by rw [hcut.out]; exact hTT.out⟩
    ·have hkb : (n1.kind == 3) = false := by simpa using hk3
     clear hk3 hone
     go_wp2_with (first | (refine wpList_alloc_as 115 rfl rfl Z.toArray hZz.out ?_; rw [hnb'.out]) | (refine wpList_store_whole 115 rfl rfl rfl F rfl (by rw [hFl.out]; exact node_size) 115 _ (by rw [← hnb'.out]; exact heap_alloc_new _ _) (by simp [hFl.out, hZl.out]) hF1.out ?_; rw [hw5'.out]) | (refine wpList_load_agg 26 rfl rfl rfl _ Tryz.underlying26 rfl [.pointer (some ⟨A.sb, 0, none⟩)] (by kernel_rfl) (fun j v hj => by rw [Nat.zero_add, cell_of_heap t5.out]; simpa using hj) ?_) | (refine wpList_load_agg 115 rfl rfl rfl _ Tryz.underlying115 rfl F (by rw [hFl.out]; exact node_size) (fun j v hv => by rw [cell_of_heap q5.out, Nat.zero_add]; simpa using hv) ?_))
     refine hSp'.out.mono ?_
     rintro e w6 ⟨A6, v6, rfl, hT6, hO6⟩
     obtain ⟨Av6, cap6, rfl, hg1, hg2⟩ := hO6.ents.at_.form
     unfold maxLen at hg2
     have hTT := h_ (fin.out _ _ hT6)
     have hO6' := h_ hO6
     clear hT6 hO6
     by_cases h2 : er2 = 0
     ·subst h2
      by_cases hl2 : out.length = 0
      ·rw [if_pos (Or.inr hl2)] at hcut
       have hlb2 : ((out.length : Int) == 0) = true := by simp [hl2]
       clear hl2
       go_wp2_with fail
       go_ret3
       first | exact ⟨A6, by rw [hcut.out]; rfl, by rw [hcut.out]; exact hTT.out⟩ | exact ⟨by rw [hcut.out]; rfl, A6, by rw [hcut.out]; exact hTT.out⟩
      ·rw [if_neg (by simp only [ne_eq, not_true_eq_false, false_or]; exact hl2)] at hcut
       obtain ⟨x, hx⟩ : ∃ x, out[0]? = some x := ⟨_, List.getElem?_eq_getElem (by omega)⟩
       obtain ⟨b, off, rfl, _, hx1, hx2⟩ := EntsAt.get hO6'.out.ents.at_ hx
       have hxd : out.getD 0 (0, 0) = x := by simp [hx]
       rw [hxd] at hcut
       rw [Nat.zero_mul, Nat.add_zero] at hx1 hx2
       have hlb2 : ((out.length : Int) == 0) = false := by rw [beq_eq_false_iff_ne]; omega
       have hpos : 0 < out.length := by omega
       clear hx hxd hl2
       go_wp2_with fail
       go_ret3
       first | exact ⟨A6, by rw [hcut.out]; rfl, by rw [hcut.out]; exact hTT.out⟩ | exact ⟨by rw [hcut.out]; rfl, A6, by rw [hcut.out]; exact hTT.out⟩
     ·rw [if_pos (Or.inl h2)] at hcut
      have h2' : ((er2 : Int) == 0) = false := by rw [beq_eq_false_iff_ne]; omega
      have h2b : ((er2 : Int) != 0) = true := by rw [bne, h2']; rfl
      have h2c : (er2 == 0) = false := by rw [beq_eq_false_iff_ne]; exact h2
      rw [h2c] at hcut
      clear h2
      go_wp2_with fail
      go_ret3
      first | exact ⟨A6, by rw [hcut.out]; rfl, by rw [hcut.out]; exact hTT.out⟩ | exact ⟨by rw [hcut.out]; rfl, A6, by rw [hcut.out]; exact hTT.out⟩
 ·rw [if_pos h0] at hcut
  have h0' : ((er : Int) == 0) = false := by rw [beq_eq_false_iff_ne]; omega
  clear h0
  go_wp2_with (first | (refine wpList_alloc_as 115 rfl rfl Z.toArray hZz.out ?_; rw [hnb'.out]) | (refine wpList_store_whole 115 rfl rfl rfl F rfl (by rw [hFl.out]; exact node_size) 115 _ (by rw [← hnb'.out]; exact heap_alloc_new _ _) (by simp [hFl.out, hZl.out]) hF1.out ?_; rw [hw5'.out]))
  go_ret3
  first | exact ⟨A3, by rw [hcut.out]; rfl, by rw [hcut.out]; exact hT5.out⟩ | exact ⟨by rw [hcut.out]; rfl, A3, by rw [hcut.out]; exact hT5.out⟩

theorem findL_neg : ∀ {l : List (Int × Int)} {k : Int}, (∀ y ∈ l, 0 ≤ y.2) → findL l k = -1 → ∀ y ∈ l, y.1 ≠ k
 | [], _, _, _, y, hy => by cases hy
 | z :: l, k, h0, hf, y, hy => by
  unfold findL at hf
  have hz := h0 z (List.mem_cons_self ..)
  by_cases e : z.1 = k
  ·rw [if_pos e] at hf
   omega
  ·rw [if_neg e] at hf
   rcases List.mem_cons.1 hy with rfl | hy
   ·exact e
   ·exact findL_neg (fun y hy => h0 y (List.mem_cons_of_mem _ hy)) hf y hy
theorem findL_pos : ∀ {l : List (Int × Int)} {k : Int}, findL l k ≠ -1 → (k, findL l k) ∈ l
 | [], _, h => absurd rfl h
 | z :: l, k, h => by
  unfold findL at h ⊢
  by_cases e : z.1 = k
  ·rw [if_pos e]
   rw [← e]
   exact List.mem_cons_self ..
  ·rw [if_neg e] at h ⊢
   exact List.mem_cons_of_mem _ (findL_pos h)
section
variable {K : SM → Prop} {s c : Nat} {bl : List Nat} {M : SM} {root : Int} {l : List (Int × Int)} {P : Nat}
end
theorem sumN_three {f g k : Nat → Nat} : ∀ n, (∀ i, i < n → 1 ≤ f i + g i + k i) → n ≤ sumN f n + sumN g n + sumN k n
 | 0, _ => Nat.zero_le _
 | n + 1, h => by
  have h1 := sumN_three n (fun i hi => h i (by omega))
  have h2 := h n (by omega)
  unfold sumN
  omega
section
variable {s : Nat} {bl : List Nat} {M : SM} {root : Int} {l : List (Int × Int)} {P : Nat}
end
theorem write1_closed {Q : SM → Prop} (C : Closed Q) {M : SM} (root key : Int) (b : List Nat) (h : Q M) : Q (M.write1 root key b).1 := by
 have h1 := C.make ⟨1, b, []⟩ h
 unfold SM.write1
 dsimp only
 split
 ·exact changes_closed C _ root h1
 ·exact h1
theorem marked_free (M : SM) : M.marked.pool.freeCount = M.tidy.pool.freeCount := mark_free M.tidy
section
variable {m : Nat} {M : SM} {is : List IM} {i : IM} {k : Nat}
theorem Imgs.marked (h : Imgs m M is) : Imgs m M.marked is := h.tidy.mark
theorem safely_err (h : Imgs m M is) {r : SM × Int × Nat} (he : r.2.2 ≠ 0) (hk : Marked M.marked r.1) : (M.safely r).2.1 = -1 ∧ (M.safely r).2.2 = r.2.2 ∧ Imgs m (M.safely r).1 is ∧ (M.safely r).1.pool = M.marked.pool ∧ (M.safely r).1.log = r.1.log := by
 unfold SM.safely
 rw [if_neg he]
 exact ⟨rfl, rfl, h.marked.undo hk, rfl, rfl⟩
end
def SM.clear (M : SM) (root : Int) (keys : List Int) : SM × Int × Nat := if (∃ x ∈ keys, x < 0 ∨ 63 < x) then (M, -1, 101) else M.safely (SM.trim keys M.marked root)
def wipe (w : Int → List Nat) (key : Int) : Int → List Nat := upd w key zeros16
section
variable {M : SM} {is : List IM} {i : IM} {k : Nat}
theorem set_set {α : Type} (l : List α) (k : Nat) (a b : α) : (l.set k a).set k b = l.set k b := by simp
theorem TreeIn.nil {m : Nat} {root : Int} {P : Nat} (t : TreeIn m M root [] P) : root = -1 := by
 rcases t.root with ⟨e, _⟩ | ⟨hh, t, _⟩
 ·exact e
 ·have := tr_ge t
  simp at this
  omega
end
def Gone (n : Nat) (G : List Nat) (M : SM) : Prop := ∀ q, q < n → M.pool.st q ≤ 4 ∧ (M.pool.st q = 4 → q ∈ G) ∧ (0 < M.pool.cnt q → M.pool.st q ≤ 2 ∧ (M.pool.st q = 0 → q ∈ G))
theorem goneG_live {n : Nat} {G : List Nat} {M : SM} (h : Gone n G M) {i : Int} (hi : M.pool.heldB i = true) (hn : i.toNat < n) : M.pool.st i.toNat ≤ 2 ∧ (M.pool.st i.toNat = 0 → i.toNat ∈ G) := by
 have hl := (heldB_int hi).2
 have := h i.toNat hn
 simp only [PM.live, Bool.and_eq_true, Bool.or_eq_true, decide_eq_true_eq, beq_iff_eq] at hl
 rcases hl.2 with h1 | h1
 ·exact this.2.2 h1
 ·exact ⟨by omega, fun e => by omega⟩
theorem gone_closed (n : Nat) (G : List Nat) : Closed (Gone n G) := by
 refine ⟨fun M i n hi h q hqn => ?_, fun M i h q hqn => ?_, fun M i hi h q hqn => ?_⟩
 ·have := h q hqn
  obtain ⟨_, hf⟩ := takeIx_free hi
  simp only [PM.freeB, Bool.and_eq_true, beq_iff_eq] at hf
  by_cases e : q = i
  ·subst e; simp [PM.setSt]
  ·simp only [PM.setSt, if_neg e]; exact this
 ·have := h q hqn
  show (M.pool.holdTo i).st q ≤ 4 ∧ ((M.pool.holdTo i).st q = 4 → q ∈ G) ∧ (0 < (M.pool.holdTo i).cnt q → (M.pool.holdTo i).st q ≤ 2 ∧ ((M.pool.holdTo i).st q = 0 → q ∈ G))
  unfold PM.holdTo
  split
  ·rename_i hc
   simp only [Bool.and_eq_true] at hc
   have hs := goneG_live h hc.1
   simp only [PM.setCnt]
   refine ⟨this.1, this.2.1, fun hq => ?_⟩
   split at hq
   ·rename_i e; rw [e]; exact hs (e ▸ hqn)
   ·exact this.2.2 hq
  ·exact this
 ·have := h q hqn
  have hs := goneG_live h hi
  show (M.pool.dropTo i.toNat).st q ≤ 4 ∧ ((M.pool.dropTo i.toNat).st q = 4 → q ∈ G) ∧ (0 < (M.pool.dropTo i.toNat).cnt q → (M.pool.dropTo i.toNat).st q ≤ 2 ∧ ((M.pool.dropTo i.toNat).st q = 0 → q ∈ G))
  unfold PM.dropTo
  split
  ·simp only [PM.setCnt]
   refine ⟨this.1, this.2.1, fun hq => ?_⟩
   split at hq
   ·rename_i e; rw [e]; exact hs (e ▸ hqn)
   ·exact this.2.2 hq
  ·simp only [PM.setCnt, PM.setSt]
   by_cases e : q = i.toNat
   ·subst e
    simp only [if_true]
    unfold PM.lastSt
    have hs := hs hqn
    have h3 : M.pool.st i.toNat = 0 ∨ M.pool.st i.toNat = 1 ∨ M.pool.st i.toNat = 2 := by omega
    rcases h3 with e | e | e
    ·rw [e]; exact ⟨by decide, fun _ => hs.2 e, fun h => absurd h (by decide)⟩
    ·rw [e]; exact ⟨by decide, fun h => absurd h (by decide), fun h => absurd h (by decide)⟩
    ·rw [e]; exact ⟨by decide, fun h => absurd h (by decide), fun h => absurd h (by decide)⟩
   ·simp only [if_neg e]
    exact this
theorem gone_tidy {n : Nat} {G : List Nat} {M : SM} (h : Gone n G M) : Gone n G M.tidy := fun q hqn => by
 have := h q hqn
 have e : M.tidy.pool.st q = if M.pool.st q = 3 then 0 else M.pool.st q := rfl
 have ec : M.tidy.pool.cnt q = M.pool.cnt q := rfl
 rw [e, ec]
 by_cases h3 : M.pool.st q = 3
 ·rw [if_pos h3]
  exact ⟨by omega, fun e => by omega, fun hc => by have := (this.2.2 hc).1; omega⟩
 ·rw [if_neg h3]; exact this
theorem gone_mark {n : Nat} {G : List Nat} {M : SM} (h : Gone n G M) : Gone n G (markM M) := fun q hqn => by
 have := h q hqn
 have e : (markM M).pool.st q = if M.pool.st q = 1 then 2 else M.pool.st q := rfl
 have ec : (markM M).pool.cnt q = M.pool.cnt q := rfl
 rw [e, ec]
 by_cases h1 : M.pool.st q = 1
 ·rw [if_pos h1]
  exact ⟨by omega, fun e => by omega, fun _ => ⟨by omega, fun e => by omega⟩⟩
 ·rw [if_neg h1]; exact this
theorem gone_marked {n : Nat} {G : List Nat} {M : SM} (h : Gone n G M) : Gone n G M.marked := gone_mark (gone_tidy h)
theorem imgs_pages {m : Nat} {M : SM} {is : List IM} (h : Imgs m M is) (f : IM → Nat) (hf : ∀ i ∈ is, ∀ hh, Tr m M hh i.root i.l → Led M hh i.root i.P → (pagesF M hh i.root).length ≤ f i) :
  ∃ L : List Nat, (∀ q, M.live q = true → q ∈ L) ∧ L.length ≤ (is.map fun i => f i + i.l.length).sum ∧ entSum M L ≤ (is.map fun i => f i + i.l.length).sum := by
 have each : ∀ i ∈ is, ∃ L : List Nat, (i.root = -1 ∨ i.root.toNat ∈ L) ∧ (∀ q ∈ L, ∀ x ∈ M.ents q, x.2.toNat ∈ L) ∧ L.length ≤ f i + i.l.length ∧ entSum M L ≤ f i + i.l.length := fun i hi => by
  have hI := h.img i hi
  have hdat : ∀ q ∈ i.l.map (fun y => y.2.toNat), M.ents q = [] := fun q hq => by
   obtain ⟨y, hy, rfl⟩ := List.mem_map.1 hq
   obtain ⟨d, hd, _, _, he⟩ := hI.data y hy
   rw [ents_of hd, he]
  have hd0 : entSum M (i.l.map fun y => y.2.toNat) = 0 := by
   have key : ∀ L : List Nat, (∀ q ∈ L, M.ents q = []) → entSum M L = 0 := fun L => by
    induction L with
    | nil => intro _; rfl
    | cons a L ih =>
     intro h
     have h1 := ih (fun q hq => h q (List.mem_cons_of_mem _ hq))
     unfold entSum at h1 ⊢
     rw [List.map_cons, List.sum_cons, h a (List.mem_cons_self ..), h1]
     rfl
   exact key _ hdat
  rcases hI.tree.root with ⟨e, el⟩ | ⟨hh, t, j⟩
  ·exact ⟨[], .inl e, fun q hq => (by cases hq), Nat.zero_le _, Nat.zero_le _⟩
  ·have hp := hf i hi hh t j
   have hs := pages_sum t
   refine ⟨pagesF M hh i.root ++ i.l.map (fun y => y.2.toNat), .inr (List.mem_append_left _ (pages_self (tr_pos t))), fun q hq x hx => ?_, by rw [List.length_append, List.length_map]; omega, by rw [entSum_append, hd0]; omega⟩
   rcases List.mem_append.1 hq with hq | hq
   ·rcases pages_closed t q hq x hx with e | e
    ·exact List.mem_append_left _ e
    ·exact List.mem_append_right _ (List.mem_map.2 ⟨x, e, rfl⟩)
   ·rw [hdat q hq] at hx; cases hx
 have all : ∀ js : List IM, (∀ i ∈ js, i ∈ is) → ∃ L : List Nat, (∀ i ∈ js, i.root = -1 ∨ i.root.toNat ∈ L) ∧ (∀ q ∈ L, ∀ x ∈ M.ents q, x.2.toNat ∈ L) ∧ L.length ≤ (js.map fun i => f i + i.l.length).sum ∧ entSum M L ≤ (js.map fun i => f i + i.l.length).sum := by
  intro js
  induction js with
  | nil => intro _; exact ⟨[], fun i hi => (by cases hi), fun q hq => (by cases hq), Nat.le_refl _, Nat.le_refl _⟩
  | cons i js ih =>
   intro hin
   obtain ⟨L, a1, a2, a3, a4⟩ := ih (fun j hj => hin j (List.mem_cons_of_mem _ hj))
   obtain ⟨K, b1, b2, b3, b4⟩ := each i (hin i (List.mem_cons_self ..))
   refine ⟨K ++ L, fun j hj => ?_, fun q hq x hx => ?_, ?_, ?_⟩
   ·rcases List.mem_cons.1 hj with rfl | hj
    ·exact b1.imp id fun e => List.mem_append_left _ e
    ·exact (a1 j hj).imp id fun e => List.mem_append_right _ e
   ·rcases List.mem_append.1 hq with hq | hq
    ·exact List.mem_append_left _ (b2 q hq x hx)
    ·exact List.mem_append_right _ (a2 q hq x hx)
   ·rw [List.length_append, List.map_cons, List.sum_cons]; omega
   ·rw [entSum_append, List.map_cons, List.sum_cons]; omega
 obtain ⟨L, a1, a2, a3, a4⟩ := all is (fun i hi => hi)
 refine ⟨L, reach_all h.exact h.loose (fun q _ hq => ?_) a2, a3, a4⟩
 unfold extL at hq
 obtain ⟨i, hi, e⟩ := List.mem_map.1 (List.count_pos_iff.1 hq)
 rcases a1 i hi with e1 | e1
 ·omega
 ·rw [e, Int.toNat_natCast] at e1; exact e1
section
variable {m : Nat} {M : SM} {ext : Nat → Nat} {root : Int} {l : List (Int × Int)} {P : Nat} {i : IM}
theorem TreeIn.find (t : TreeIn m M root l P) (E : Exact M ext) (hP : P ≤ 240) (key : Int) : M.find root key = (findL l key, 0) := by
 obtain ⟨k, hr, hk, _⟩ := t.rooted hP
 rcases hr with ⟨e, el, _⟩ | tt
 ·subst e el
  rfl
 ·exact find_ok k 0 root l (by omega) tt (t.good E)
theorem Img.page (h : Img m M i) (E : Exact M ext) {y : Int × Int} (hy : y ∈ i.l) : ∃ d, M.get y.2 = (d, 0) ∧ d.kind = 1 ∧ d.block = i.w y.1 := by
 obtain ⟨n, hn, _, hg⟩ := get_live E (h.tree.held E y hy)
 obtain ⟨d, hd, e1, e2, _⟩ := h.data y hy
 rw [hd] at hn
 cases hn
 exact ⟨n, hg, e1, e2⟩
theorem Img.low (h : Img m M i) (E : Exact M ext) {y : Int × Int} (hy : y ∈ i.l) : 0 ≤ y.2 := (heldB_int (h.tree.held E y hy)).1
theorem Img.read (h : Img m M i) (E : Exact M ext) {key : Int} (k0 : 0 ≤ key) (k1 : key < 64) :
  (findL i.l key = -1 ∧ i.w key = zeros16) ∨ (findL i.l key ≠ -1 ∧ ∃ d, M.get (findL i.l key) = (d, 0) ∧ d.kind = 1 ∧ d.block = i.w key) := by
 by_cases e : findL i.l key = -1
 ·exact .inl ⟨e, h.zero key k0 k1 (findL_neg (fun y hy => h.low E hy) e)⟩
 ·exact .inr ⟨e, h.page E (findL_pos e)⟩
end
theorem img_all {m : Nat} {M : SM} {i : IM} (h : Img m M i) {k : Nat} (hk : k < 64) : i.w (k : Int) = if (∃ y ∈ i.l, y.1 = (k : Int)) then i.w (k : Int) else zeros16 := by
 by_cases e : ∃ y ∈ i.l, y.1 = (k : Int)
 ·rw [if_pos e]
 ·rw [if_neg e]
  exact h.zero _ (by omega) (by omega) fun y hy he => e ⟨y, hy, he⟩
def blocksOf (w : Int → List Nat) : List (List Nat) := (List.range 64).map fun (k : Nat) => w (k : Int)
theorem blocksOf_len (w : Int → List Nat) : (blocksOf w).length = 64 := by unfold blocksOf; simp
theorem blocksOf_get (w : Int → List Nat) {k : Nat} (h : k < 64) : (blocksOf w)[k]? = some (w (k : Int)) := by unfold blocksOf; simp [h]
theorem blocksOf_upd (w : Int → List Nat) {k : Nat} (b : List Nat) : blocksOf (upd w (k : Int) b) = (blocksOf w).set k b := by
 refine List.ext_getElem? fun j => ?_
 by_cases hj : j < 64
 ·rw [blocksOf_get _ hj, List.getElem?_set]
  unfold upd
  by_cases e : k = j
  ·subst e
   rw [if_pos rfl, if_pos rfl, if_pos (by rw [blocksOf_len]; exact hj)]
  ·rw [if_neg (show ¬ ((j : Nat) : Int) = (k : Int) by omega), if_neg e, blocksOf_get _ hj]
 ·rw [List.getElem?_eq_none (by rw [blocksOf_len]; omega), List.getElem?_eq_none (by rw [List.length_set, blocksOf_len]; omega)]
structure Bytes (w : Int → List Nat) : Prop where
 len : ∀ k, (w k).length = 16
 lt : ∀ k, ∀ x ∈ w k, x < 256
theorem Bytes.zero : Bytes (fun _ => zeros16) := ⟨fun _ => zeros_ok.1, fun _ => zeros_ok.2.1⟩
theorem Bytes.upd {w : Int → List Nat} (h : Bytes w) (key : Int) {b : List Nat} (hb : b.length = 16) (h256 : ∀ x ∈ b, x < 256) : Bytes (Go.Proofs.YtidlchciehdefaaGreat.upd w key b) := by
 refine ⟨fun k => ?_, fun k => ?_⟩
 ·unfold Go.Proofs.YtidlchciehdefaaGreat.upd; split
  ·exact hb
  ·exact h.len k
 ·unfold Go.Proofs.YtidlchciehdefaaGreat.upd; split
  ·exact h256
  ·exact h.lt k
theorem Bytes.wipe {w : Int → List Nat} (h : Bytes w) (key : Int) : Bytes (Go.Proofs.YtidlchciehdefaaGreat.upd w key zeros16) := h.upd key zeros_ok.1 zeros_ok.2.1
theorem blocksOf_each {w : Int → List Nat} (h : Bytes w) : ∀ l ∈ blocksOf w, l.length = 16 := fun l hl => by
 obtain ⟨k, _, rfl⟩ := List.mem_map.1 hl
 exact h.len k
theorem rowl_len {α : Type} : ∀ {ls : List (List α)}, (∀ l ∈ ls, l.length = 16) → ls.flatten.length = ls.length * 16
 | [], _ => rfl
 | l :: ls, h => by
  rw [List.flatten_cons, List.length_append, h l (List.mem_cons_self ..), rowl_len (fun x hx => h x (List.mem_cons_of_mem _ hx)), List.length_cons]
  omega
theorem rowl_set {α : Type} {b : List α} (hb : b.length = 16) : ∀ {ls : List (List α)} {k : Nat}, (∀ l ∈ ls, l.length = 16) → k < ls.length → (ls.set k b).flatten = ls.flatten.take (k * 16) ++ b ++ ls.flatten.drop (k * 16 + 16)
 | [], _, _, h => by simp at h
 | l :: ls, 0, h, _ => by
  rw [List.set_cons_zero, List.flatten_cons, List.flatten_cons, Nat.zero_mul, Nat.zero_add, List.take_zero, List.nil_append]
  rw [List.drop_append_of_le_length (by rw [h l (List.mem_cons_self ..)]; exact Nat.le_refl _), List.drop_eq_nil_of_le (by rw [h l (List.mem_cons_self ..)]; exact Nat.le_refl _), List.nil_append]
 | l :: ls, k + 1, h, hk => by
  have hl := h l (List.mem_cons_self ..)
  rw [List.set_cons_succ, List.flatten_cons, List.flatten_cons, rowl_set hb (fun x hx => h x (List.mem_cons_of_mem _ hx)) (by simpa using hk)]
  rw [show (k + 1) * 16 = l.length + k * 16 by omega, show l.length + k * 16 + 16 = l.length + (k * 16 + 16) by omega, List.take_length_add_append, List.drop_length_add_append]
  simp only [List.append_assoc]
theorem rowl_get {α : Type} : ∀ {ls : List (List α)} {k j : Nat} {l : List α}, (∀ l ∈ ls, l.length = 16) → ls[k]? = some l → j < 16 → ls.flatten[k * 16 + j]? = l[j]?
 | [], _, _, _, _, h, _ => by simp at h
 | a :: ls, 0, j, l, h, hk, hj => by
  simp at hk
  subst hk
  rw [List.flatten_cons, Nat.zero_mul, Nat.zero_add, List.getElem?_append_left (by rw [h a (List.mem_cons_self ..)]; exact hj)]
 | a :: ls, k + 1, j, l, h, hk, hj => by
  have ha := h a (List.mem_cons_self ..)
  rw [List.flatten_cons, List.getElem?_append_right (by rw [ha]; omega), ha, show (k + 1) * 16 + j - 16 = k * 16 + j by omega]
  exact rowl_get (fun x hx => h x (List.mem_cons_of_mem _ hx)) (by simpa using hk) hj
def imgBytes (w : Int → List Nat) : List Nat := (blocksOf w).flatten
def imgCells (w : Int → List Nat) : List Value := byteCells (imgBytes w)
theorem imgBytes_len {w : Int → List Nat} (h : Bytes w) : (imgBytes w).length = 1024 := by
 unfold imgBytes
 rw [rowl_len (blocksOf_each h), blocksOf_len]
theorem imgCells_len {w : Int → List Nat} (h : Bytes w) : (imgCells w).length = 1024 := by unfold imgCells; rw [byteCells_len, imgBytes_len h]
theorem imgCells_upd {w : Int → List Nat} (h : Bytes w) {k : Nat} (hk : k < 64) {b : List Nat} (hb : b.length = 16) :
  imgCells (upd w (k : Int) b) = (imgCells w).take (k * 16) ++ byteCells b ++ (imgCells w).drop (k * 16 + 16) := by
 unfold imgCells imgBytes
 rw [blocksOf_upd, rowl_set hb (blocksOf_each h) (by rw [blocksOf_len]; exact hk), byteCells_append, byteCells_append]
 unfold byteCells
 rw [List.map_take, List.map_drop]
theorem imgCells_get {w : Int → List Nat} (h : Bytes w) {k j : Nat} (hk : k < 64) (hj : j < 16) : (imgCells w)[k * 16 + j]? = (byteCells (w (k : Int)))[j]? := by
 unfold imgCells imgBytes byteCells
 rw [List.getElem?_map, List.getElem?_map, rowl_get (blocksOf_each h) (blocksOf_get w hk) hj]

set_option maxHeartbeats 4000000 in
theorem diffOne {w : World} {A : SA} {M : SM} (h : StoreAt w A M) (root : Int) (c : Int × Int) (hfew : M.log.length + 30 < 100000000) :
  Calls Tryz.prog 103 #[.agg #[.pointer (some ⟨A.sb, 0, none⟩)], .int .i64 root, .agg #[.int .i64 c.1, .int .i64 c.2]] w fun e w' => ∃ A', e = .returned (.tuple #[.int .i64 (M.one root c).2.1, .int .i64 (M.one root c).2.2]) ∧ StoreTo A A' (M.one root c).1 w w' := by
 obtain ⟨db, hdb⟩ : ∃ db, w.heap.size = db := ⟨_, rfl⟩
 obtain ⟨w1, hw1⟩ : ∃ w1, w.alloc (.cells #[.pointer (some ⟨A.sb, 0, none⟩)] 30) = w1 := ⟨_, rfl⟩
 obtain ⟨cb, hcb⟩ : ∃ cb, w1.heap.size = cb := ⟨_, rfl⟩
 obtain ⟨w2, hw2⟩ : ∃ w2, w1.alloc (.cells #[.int .i64 c.1, .int .i64 c.2] 92) = w2 := ⟨_, rfl⟩
 have k1 : Kept (fun _ => False) w w1 := by rw [← hw1]; exact (Kept.refl _ _).alloc _
 have k12 : Kept (fun _ => False) w1 w2 := by rw [← hw2]; exact (Kept.refl _ _).alloc _
 have t1 : w1.heap[db]? = some (.cells #[.pointer (some ⟨A.sb, 0, none⟩)] 30 (0, 0)) := by rw [← hw1, ← hdb]; exact heap_alloc_new _ _
 have t2 := k12.get t1 id
 have tc : w2.heap[cb]? = some (.cells #[.int .i64 c.1, .int .i64 c.2] 92 (0, 0)) := by rw [← hw2, ← hcb]; exact heap_alloc_new _ _
 have c0 := cell_of_heap tc 0
 have c1 := cell_of_heap tc 1
 simp at c0 c1
 have hload : Hid (∀ j v, [Value.pointer (some ⟨A.sb, 0, none⟩)][j]? = some v → w2.cell? ⟨db, 0 + j, none⟩ = some v) := h_ (fun j v hj => by rw [Nat.zero_add, cell_of_heap t2]; simpa using hj)
 have k2 := h_ (k1.trans k12)
 have h2 := h_ (h.fresh (k1.trans k12))
 have hw1' := h_ hw1
 have hw2' := h_ hw2
 have hdb' := h_ hdb
 have hcb' := h_ hcb
 clear hw1 hw2 hdb hcb k1 k12 t1 t2 tc h
 by_cases hc : c.2 = -1
 ·have hb : (c.2 == -1) = true := by simp [hc]
  have hone : Hid (M.one root c = ((M.cut root c.1).1, (M.cut root c.1).2.1, (M.cut root c.1).2.2.2)) := h_ (by unfold SM.one; rw [if_pos hc])
  have hP := pruneCut h2.out root c.1 (by omega)
  obtain ⟨R, hR⟩ : ∃ R, M.cut root c.1 = R := ⟨_, rfl⟩
  rw [hR] at hP hone
  obtain ⟨M1, next, was, er⟩ := R
  dsimp only at hP hone
  rw [hone.out]
  dsimp only
  have hP' := h_ hP
  clear hP hR hc hone
  go_enter Tryz.func103, Tryz.ntmps103
  go_wp2_with (first | (refine wpList_box_named 30 rfl rfl _ rfl hw1'.out ?_; rw [hdb'.out]) | (refine wpList_box_named 92 rfl rfl _ rfl hw2'.out ?_; rw [hcb'.out]) | (refine wpList_load_agg 28 rfl rfl rfl _ Tryz.underlying28 rfl [.pointer (some ⟨A.sb, 0, none⟩)] (by kernel_rfl) hload.out ?_))
  refine hP'.out.mono ?_
  rintro e w3 ⟨A3, rfl, hT⟩
  have T := h_ (StoreTo.before k2.out hT)
  clear hT
  go_wp2_with fail
  go_ret2
  exact ⟨A3, rfl, T.out⟩
 ·have hb : (c.2 == -1) = false := by simp [hc]
  have hone : Hid (M.one root c = M.put root c.1 c.2) := h_ (by unfold SM.one; rw [if_neg hc])
  have hP := treePut h2.out root c.1 c.2 (by omega)
  rw [hone.out]
  obtain ⟨R, hR⟩ : ∃ R, M.put root c.1 c.2 = R := ⟨_, rfl⟩
  rw [hR] at hP ⊢
  obtain ⟨M1, next, er⟩ := R
  dsimp only at hP ⊢
  have hP' := h_ hP
  clear hP hR hc hone
  go_enter Tryz.func103, Tryz.ntmps103
  go_wp2_with (first | (refine wpList_box_named 30 rfl rfl _ rfl hw1'.out ?_; rw [hdb'.out]) | (refine wpList_box_named 92 rfl rfl _ rfl hw2'.out ?_; rw [hcb'.out]) | (refine wpList_load_agg 26 rfl rfl rfl _ Tryz.underlying26 rfl [.pointer (some ⟨A.sb, 0, none⟩)] (by kernel_rfl) hload.out ?_))
  refine hP'.out.mono ?_
  rintro e w3 ⟨A3, rfl, hT⟩
  have T := h_ (StoreTo.before k2.out hT)
  clear hT
  go_wp2_with fail
  go_ret2
  exact ⟨A3, rfl, T.out⟩
theorem one_log {w : World} {A : SA} {M : SM} (h : StoreAt w A M) (root : Int) (c : Int × Int) : (M.one root c).1.log.length ≤ M.log.length + 22 := by
 unfold SM.one
 split
 ·have := cut_log h root c.1; dsimp only; omega
 ·exact put_log M root c.1 c.2
theorem changes_cons (c : Int × Int) (cs : List (Int × Int)) (M : SM) (root : Int) : SM.changes (c :: cs) M root = if (M.change root c).2.2 = 0 then SM.changes cs (M.change root c).1 (M.change root c).2.1 else M.change root c := rfl
structure ApSt (w : World) (A : SA) (M : SM) (cs : List (Int × Int)) (root : Int) (v : Value) (k : Nat) (root' : Int) (A' : SA) (M' : SM) (wr : World) : Prop where
 to_ : StoreTo A A' M' w wr
 db : wr.heap[w.heap.size]? = some (.cells #[.pointer (some ⟨A.sb, 0, none⟩)] 30 (0, 0))
 sp : Safe wr A' w.heap.size
 ents : EntsOff wr A' v cs
 rest : SM.changes (cs.drop k) M' root' = SM.changes cs M root
 log : M'.log.length ≤ M.log.length + 22 * k
theorem ApSt.load {w wr : World} {A A' : SA} {M M' : SM} {cs : List (Int × Int)} {root root' : Int} {v : Value} {k : Nat} (h : ApSt w A M cs root v k root' A' M' wr) : ∀ j u, [Value.pointer (some ⟨A.sb, 0, none⟩)][j]? = some u → wr.cell? ⟨w.heap.size, 0 + j, none⟩ = some u := fun j u hj => by rw [Nat.zero_add, cell_of_heap h.db]; simpa using hj
theorem ApSt.fresh {w wr w' : World} {A A' : SA} {M M' : SM} {cs : List (Int × Int)} {root root' : Int} {v : Value} {k : Nat} (h : ApSt w A M cs root v k root' A' M' wr) (q : Kept (fun _ => False) wr w') : ApSt w A M cs root v k root' A' M' w' :=
 ⟨h.to_.fresh q, q.get h.db id, h.sp.fresh q, h.ents.fresh q, h.rest, h.log⟩
set_option maxHeartbeats 8000000 in
theorem diffApply {w : World} {A : SA} {M : SM} (h : StoreAt w A M) (root : Int) {v : Value} {cs : List (Int × Int)} (hv : EntsOff w A v cs) (hcs : cs.length ≤ 1000) (hfew : M.log.length + 100000 < 100000000) :
  Calls Tryz.prog 65 #[.agg #[.pointer (some ⟨A.sb, 0, none⟩)], .int .i64 root, v] w fun e w' => ∃ A', e = .returned (.tuple #[.int .i64 (SM.changes cs M root).2.1, .int .i64 (SM.changes cs M root).2.2]) ∧ StoreTo A A' (SM.changes cs M root).1 w w' := by
 obtain ⟨Av, cap, rfl, hc1, hc2⟩ := hv.at_.form
 unfold maxLen at hc2
 obtain ⟨w1, hw1⟩ : ∃ w1, w.alloc (.cells #[.pointer (some ⟨A.sb, 0, none⟩)] 30) = w1 := ⟨_, rfl⟩
 have k1 : Kept (fun _ => False) w w1 := by rw [← hw1]; exact (Kept.refl _ _).alloc _
 have I1 : Hid (∃ A' M', ApSt w A M cs root (.slice Av cs.length cap) 0 root A' M' w1) := h_ ⟨A, M, (StoreTo.refl h).fresh k1, by rw [← hw1]; exact heap_alloc_new _ _, Safe.new h (Nat.le_refl _) (by rw [← hw1]; simp), hv.fresh k1, rfl, Nat.le_refl _⟩
 have hw1' := h_ hw1
 clear hw1 k1 h hv
 go_enter Tryz.func65, Tryz.ntmps65
 go_wp2_with (first | (refine wpList_box_named 30 rfl rfl _ rfl hw1'.out ?_))
 go_loopw [1, 14] (fun r i wr => ∃ (k : Nat) (root' : Int), k ≤ cs.length ∧ i = .int .i64 k ∧ r = .int .i64 root' ∧ Hid (∃ A' M', ApSt w A M cs root (.slice Av cs.length cap) k root' A' M' wr)) (fun _ i _ => cs.length - (intOf i).toNat)
 case atStart => exact ⟨0, root, Nat.zero_le _, rfl, rfl, I1⟩
 case round =>
  obtain ⟨k, root', hk, rfl, rfl, hI⟩ := hrel
  obtain ⟨A', M', St⟩ := hI.out
  by_cases hlt : k < cs.length
  ·obtain ⟨x, hx⟩ : ∃ x, cs[k]? = some x := ⟨_, List.getElem?_eq_getElem hlt⟩
   obtain ⟨eb, eo, rfl, heb, hx0, hx1⟩ := St.ents.at_.get hx
   have hd : cs.drop k = x :: cs.drop (k + 1) := by rw [List.drop_eq_getElem_cons hlt, (List.getElem?_eq_some_iff.1 hx).2]
   have hrest := St.rest
   rw [hd] at hrest
   have hki : (k : Int) < (cs.length : Int) := by omega
   have hlo : Hid (∀ i v, [Value.int .i64 x.1, .int .i64 x.2][i]? = some v → wr.cell? ⟨eb, eo + k * 2 + i, none⟩ = some v) := h_ (fun i v hi => by
    match i, hi with
    | 0, hi => cases hi; exact hx0
    | 1, hi => cases hi; exact hx1)
   obtain ⟨xb, hxb⟩ : ∃ xb, wr.heap.size = xb := ⟨_, rfl⟩
   obtain ⟨wx, hwx⟩ : ∃ wx, (wr.alloc (.cells #[.int .i64 0, .int .i64 0] 92)).setRow xb #[.int .i64 x.1, .int .i64 x.2] = wx := ⟨_, rfl⟩
   have kx : Kept (fun _ => False) wr wx := by rw [← hwx]; exact ((Kept.refl _ _).alloc _).setRowNew (by omega) _
   have qx : wx.heap[xb]? = some (.cells #[.int .i64 x.1, .int .i64 x.2] 92 (0, 0)) := by rw [← hwx, ← hxb]; exact setRow_heap _ _ _ _ _ _ (heap_alloc_new _ _)
   have hlx : Hid (∀ i v, [Value.int .i64 x.1, .int .i64 x.2][i]? = some v → wx.cell? ⟨xb, 0 + i, none⟩ = some v) := h_ (fun i v hi => by rw [cell_of_heap qx, Nat.zero_add]; simpa using hi)
   have Sx := h_ (St.fresh kx)
   have hld := h_ Sx.out.load
   have hone := diffOne Sx.out.to_.store root' x (by have := St.log; omega)
   rw [St.to_.sb] at hone
   have hlog := one_log Sx.out.to_.store root' x
   rw [changes_cons] at hrest
   unfold SM.change at hrest
   obtain ⟨R, hR⟩ : ∃ R, M'.one root' x = R := ⟨_, rfl⟩
   simp only [hR] at hrest hone hlog
   obtain ⟨M1, next, er⟩ := R
   dsimp only at hrest hone hlog
   have hone' := h_ hone
   have hrest' := h_ hrest
   have hlog' := h_ hlog
   have hxb' := h_ hxb
   have hwx' := h_ hwx
   clear hone hR hx hx0 hx1 hd hI St hrest hlog kx qx hxb hwx I1
   go_wp2_with (first | (refine wpList_load_agg 92 rfl rfl rfl _ Tryz.underlying92 rfl [.int .i64 x.1, .int .i64 x.2] (by kernel_rfl) hlo.out ?_) | (refine wpList_load_agg 92 rfl rfl rfl _ Tryz.underlying92 rfl [.int .i64 x.1, .int .i64 x.2] (by kernel_rfl) hlx.out ?_) | (refine wpList_alloc_as 92 rfl rfl #[.int .i64 0, .int .i64 0] (by kernel_rfl) ?_; rw [hxb'.out]) | (refine wpList_store_whole 92 rfl rfl rfl [.int .i64 x.1, .int .i64 x.2] rfl (by kernel_rfl) 92 #[.int .i64 0, .int .i64 0] (by rw [← hxb'.out]; exact heap_alloc_new _ _) rfl (by intro c hc; simp at hc; rcases hc with rfl | rfl <;> rfl) ?_; rw [hwx'.out]) | (refine wpList_load_agg 30 rfl rfl rfl _ Tryz.underlying30 rfl [.pointer (some ⟨A.sb, 0, none⟩)] (by kernel_rfl) hld.out ?_))
   refine hone'.out.mono ?_
   rintro e w3 ⟨A3, rfl, hT3⟩
   have T3 := h_ (Sx.out.to_.trans hT3)
   have p3 := h_ (hT3.get Sx.out.db Sx.out.sp)
   have s3 := h_ (Sx.out.sp.to hT3)
   have K3 := h_ (Sx.out.ents.to hT3)
   clear hT3
   by_cases h0 : er = 0
   ·subst h0
    have hr2 := hrest'.out
    rw [if_pos rfl] at hr2
    have hS := treeSwap T3.out.store root' next
    rw [T3.out.sb] at hS
    have hlogS := swap_log M1 root' next
    obtain ⟨R, hRe⟩ : ∃ R, M1.swap root' next = R := ⟨_, rfl⟩
    rw [hRe] at hS hlogS
    simp only [hRe] at hr2
    obtain ⟨M2, es⟩ := R
    dsimp only at hS hr2 hlogS
    have hS' := h_ hS
    have hr2' := h_ hr2
    have hload3 : Hid (∀ j u, [Value.pointer (some ⟨A.sb, 0, none⟩)][j]? = some u → w3.cell? ⟨w.heap.size, 0 + j, none⟩ = some u) := h_ (fun j u hj => by rw [Nat.zero_add, cell_of_heap p3.out]; simpa using hj)
    have hlogS' := h_ hlogS
    clear hS hRe hr2 hlogS
    go_wp2_with (first | (refine wpList_load_agg 26 rfl rfl rfl _ Tryz.underlying26 rfl [.pointer (some ⟨A.sb, 0, none⟩)] (by kernel_rfl) hload3.out ?_))
    refine hS'.out.mono ?_
    rintro e w4 ⟨rfl, hT4⟩
    have T4 := h_ (T3.out.trans hT4)
    have p4 := h_ (hT4.get p3.out s3.out)
    have s4 := h_ (s3.out.to hT4)
    have K4 := h_ (K3.out.to hT4)
    clear hT4
    by_cases h1 : es = 0
    ·subst h1
     have hr3 := hr2'.out
     rw [if_pos rfl] at hr3
     dsimp only at hr3
     rw [if_pos rfl] at hr3
     have fin : Hid (∃ A' M', ApSt w A M cs root (.slice (some ⟨eb, eo, none⟩) cs.length cap) (k + 1) next A' M' w4) := h_ ⟨_, M2, T4.out, p4.out, s4.out, K4.out, hr3, by have := hlog'.out; have := Sx.out.log; have := hlogS'.out; rw [this]; omega⟩
     clear hr3
     go_wp2_with fail
     go_roundw
     case rel => exact ⟨k + 1, next, by omega, by go_num, rfl, fin⟩
     case measure => simp [intOf]; omega
    ·have h1' : ((es : Int) == 0) = false := by simp; omega
     have hr3 := hr2'.out
     rw [if_neg h1] at hr3
     dsimp only at hr3
     rw [if_neg h1] at hr3
     have hr3' := h_ hr3
     clear hr3 h1
     go_wp2_with fail
     go_ret2
     exact ⟨_, by rw [← hr3'.out]; rfl, by rw [← hr3'.out]; exact T4.out⟩
   ·have h0' : ((er : Int) == 0) = false := by simp; omega
    have hr2 := hrest'.out
    rw [if_neg h0] at hr2
    dsimp only at hr2
    rw [if_neg h0] at hr2
    have hr2' := h_ hr2
    clear hr2 h0
    go_wp2_with fail
    go_ret2
    exact ⟨_, by rw [← hr2'.out]; rfl, by rw [← hr2'.out]; exact T3.out⟩
  ·obtain rfl : k = cs.length := by omega
   have hr := St.rest
   rw [List.drop_length] at hr
   have hr' : Hid ((M', root', 0) = SM.changes cs M root) := h_ hr
   have St' := h_ St
   clear hI St hr
   go_wp2_with fail
   go_ret2
   exact ⟨A', by rw [← hr'.out]; rfl, by rw [← hr'.out]; exact St'.out.to_⟩


theorem block_zero : (Tryz.prog.info? 35).map (·.zero) = some (some (.agg (byteCells zeros16).toArray)) := by kernel_rfl
theorem run_build_block (w : World) : (Instr.build 35 #[]).run Tryz.prog w = .ok (.agg (byteCells zeros16).toArray) w := run_build _ _ _ _ (by kernel_rfl)
theorem imageThere (k : Int) (w : World) : Calls Tryz.prog 61 #[.int .i64 k] w fun e w' => e = .returned (.bool (decide (0 ≤ k ∧ k < 64))) ∧ w = w' := by
 by_cases h0 : 0 ≤ k
 ·have hb0 : decide (0 ≤ k) = true := decide_eq_true h0
  by_cases h1 : k < 64
  ·have hb1 : decide (k < 64) = true := decide_eq_true h1
   rw [decide_eq_true (show 0 ≤ k ∧ k < 64 from ⟨h0, h1⟩)]
   clear h0 h1
   go_enter Tryz.func61, Tryz.ntmps61
   go_wp2_with fail
   go_ret
   exact ⟨rfl, rfl⟩
  ·have hb1 : decide (k < 64) = false := decide_eq_false h1
   rw [decide_eq_false (show ¬ (0 ≤ k ∧ k < 64) from fun h => h1 h.2)]
   clear h0 h1
   go_enter Tryz.func61, Tryz.ntmps61
   go_wp2_with fail
   go_ret
   exact ⟨rfl, rfl⟩
 ·have hb0 : decide (0 ≤ k) = false := decide_eq_false h0
  rw [decide_eq_false (show ¬ (0 ≤ k ∧ k < 64) from fun h => h0 h.1)]
  clear h0
  go_enter Tryz.func61, Tryz.ntmps61
  go_wp2_with fail
  go_ret
  exact ⟨rfl, rfl⟩
def PageOf (M : SM) (pg : Int) (b : List Nat) : Prop := b.length = 16 ∧ ((pg = -1 ∧ b = zeros16) ∨ (pg ≠ -1 ∧ ∃ d, M.get pg = (d, 0) ∧ d.kind = 1 ∧ d.block = b))
set_option maxHeartbeats 4000000 in
theorem imageBlock {w : World} {A : SA} {M : SM} (h : StoreAt w A M) {pg : Int} {b : List Nat} (hp : PageOf M pg b) :
  Calls Tryz.prog 67 #[.agg #[.pointer (some ⟨A.sb, 0, none⟩)], .int .i64 pg] w fun e w' => e = .returned (.tuple #[.agg (byteCells b).toArray, .int .i64 0]) ∧ Kept (fun _ => False) w w' := by
 obtain ⟨Z, hZ⟩ : ∃ Z, byteCells zeros16 = Z := ⟨_, rfl⟩
 have hZz : Hid ((Tryz.prog.info? 35).map (·.zero) = some (some (.agg Z.toArray))) := h_ (by rw [← hZ]; exact block_zero)
 have hZl : Hid (Z.length = 16) := h_ (by rw [← hZ]; rfl)
 have hZ1 : Hid (∀ v ∈ Z, v.oneCell' = true) := h_ (by rw [← hZ]; exact byteCells_one _)
 have hbz : Hid (∀ w, (Instr.build 35 #[]).run Tryz.prog w = .ok (.agg Z.toArray) w) := h_ (fun w => by rw [← hZ]; exact run_build_block w)
 obtain ⟨mb, hmb⟩ : ∃ mb, w.heap.size = mb := ⟨_, rfl⟩
 obtain ⟨w1, hw1⟩ : ∃ w1, w.alloc (.cells #[.pointer (some ⟨A.sb, 0, none⟩)] 32) = w1 := ⟨_, rfl⟩
 obtain ⟨rb, hrb⟩ : ∃ rb, w1.heap.size = rb := ⟨_, rfl⟩
 obtain ⟨w2, hw2⟩ : ∃ w2, w1.alloc (.cells Z.toArray 35) = w2 := ⟨_, rfl⟩
 have k1 : Kept (fun _ => False) w w1 := by rw [← hw1]; exact (Kept.refl _ _).alloc _
 have k12 : Kept (fun _ => False) w1 w2 := by rw [← hw2]; exact (Kept.refl _ _).alloc _
 have t1 : w1.heap[mb]? = some (.cells #[.pointer (some ⟨A.sb, 0, none⟩)] 32 (0, 0)) := by rw [← hw1, ← hmb]; exact heap_alloc_new _ _
 have t2 := h_ (k12.get t1 id)
 have d2 : Hid (w2.heap[rb]? = some (.cells Z.toArray 35 (0, 0))) := h_ (by rw [← hw2, ← hrb]; exact heap_alloc_new _ _)
 have k2 := h_ (k1.trans k12)
 have hrbw : Hid (w.heap.size ≤ rb) := h_ (by rw [← hrb]; exact k1.size)
 have h2 := h_ (h.fresh (k1.trans k12))
 have hw1' := h_ hw1
 have hw2' := h_ hw2
 have hmb' := h_ hmb
 have hrb' := h_ hrb
 have hZ' := h_ hZ
 obtain ⟨hlen, hp⟩ := hp
 rcases hp with ⟨rfl, rfl⟩ | ⟨hne, d, hg, hk, rfl⟩
 ·rw [hZ]
  clear hw1 hw2 hmb hrb k1 k12 t1 h hZ hlen
  go_enter Tryz.func67, Tryz.ntmps67
  go_wp2_with (first | (refine wpList_box_named 32 rfl rfl _ rfl hw1'.out ?_; rw [hmb'.out]) | (refine wpList_alloc_as 35 rfl rfl Z.toArray hZz.out ?_; rw [hw2'.out, hrb'.out]) | (refine wpList_exec rfl (exec_build 35 #[] _ rfl (by simp) (hbz.out _)) ?_) | (refine wpList_store_whole 35 rfl rfl rfl Z rfl (by rw [hZl.out]; exact block_size) 35 _ d2.out (by simp [hZl.out, hZl.out]) hZ1.out ?_))
  refine bodyPost_ret (results_row_tmp rfl _ _ rb 35 Z.toArray (0, 0) _ rfl (setRow_heap _ _ _ _ 35 (0, 0) d2.out) Tryz.underlying35 rfl (by simp only [List.size_toArray]; rw [hZl.out]; exact block_size)) rfl ?_
  exact ⟨rfl, k2.out.setRowNew hrbw.out _⟩
 ·have hb0 : (pg == -1) = false := by simp [hne]
  obtain ⟨C, hC⟩ : ∃ C, byteCells d.block = C := ⟨_, rfl⟩
  have hCl : Hid (C.length = 16) := h_ (by rw [← hC, byteCells_len]; exact hlen)
  have hC1 : Hid (∀ v ∈ C, v.oneCell' = true) := h_ (by rw [← hC]; exact byteCells_one _)
  have hCb : Hid (blockCells d.block = C) := h_ (by rw [blockCells_eq _ hlen, hC])
  rw [hC]
  have hG := get_any h2.out pg
  rw [hg] at hG
  dsimp only at hG
  have hG' := h_ hG
  obtain ⟨NZ, hNZ⟩ : ∃ NZ, nodeCells NM.zero (.slice none 0 0) = NZ := ⟨_, rfl⟩
  have hNz : Hid ((Tryz.prog.info? 115).map (·.zero) = some (some (.agg NZ.toArray))) := h_ (by rw [← hNZ]; exact node_zero)
  have hNl : Hid (NZ.length = 18) := h_ (by rw [← hNZ]; exact nodeCells_len _ _)
  have cm2 := cell_of_heap t2.out 0
  simp at cm2
  clear hw1 hw2 hmb hrb k1 k12 t1 h hZ hlen hne hg hG hNZ hC
  go_enter Tryz.func67, Tryz.ntmps67
  go_wp2_with (first | (refine wpList_box_named 32 rfl rfl _ rfl hw1'.out ?_; rw [hmb'.out]) | (refine wpList_alloc_as 35 rfl rfl Z.toArray hZz.out ?_; rw [hw2'.out, hrb'.out]))
  refine hG'.out.mono ?_
  rintro e w3 ⟨v, rfl, hown3, hk3⟩
  obtain ⟨A3, cap3, rfl, _, _⟩ := EntsAt.form (show EntsAt w3 v d.ents from SliceAt.of_owns hown3)
  obtain ⟨F, hF⟩ : ∃ F, nodeCells d (.slice A3 d.ents.length cap3) = F := ⟨_, rfl⟩
  have hFl : Hid (F.length = 18) := h_ (by rw [← hF]; exact nodeCells_len _ _)
  have hF1 : Hid (∀ v ∈ F, v.oneCell' = true) := h_ (by rw [← hF]; exact nodeCells_one _ _ _ _)
  have hF0 : F[0]? = some (.int .i64 1) := by rw [← hF, nodeCells_0, hk]
  have hFb : ∀ j u, C[j]? = some u → F[1 + j]? = some u := fun j u hj => by rw [← hF]; exact nodeCells_block _ _ j u (by rw [hCb.out]; exact hj)
  obtain ⟨nb, hnb⟩ : ∃ nb, w3.heap.size = nb := ⟨_, rfl⟩
  obtain ⟨w4, hw4⟩ : ∃ w4, (w3.alloc (.cells NZ.toArray 115)).setRow nb F.toArray = w4 := ⟨_, rfl⟩
  have k34 : Kept (fun _ => False) w3 w4 := by rw [← hw4]; exact ((Kept.refl _ _).alloc _).setRowNew (by omega) _
  have q4 : w4.heap[nb]? = some (.cells F.toArray 115 (0, 0)) := by rw [← hw4, ← hnb]; exact setRow_heap _ _ _ _ _ _ (heap_alloc_new _ _)
  have cn0 : w4.cell? ⟨nb, 0, none⟩ = some (.int .i64 1) := by rw [cell_of_heap q4]; simpa using hF0
  have hlb : Hid (∀ j u, C[j]? = some u → w4.cell? ⟨nb, 1 + j, none⟩ = some u) := h_ (fun j u hj => by rw [cell_of_heap q4]; simpa using hFb j u hj)
  have d4 := h_ (k34.get (hk3.get d2.out id) id)
  have k4 := h_ ((k2.out.trans hk3).trans k34)
  have hw4' := h_ hw4
  have hnb' := h_ hnb
  rw [hF]
  clear hown3 hk3 k34 q4 hw4 hnb hF hF0 hFb
  go_wp2_with (first | (refine wpList_alloc_as 115 rfl rfl NZ.toArray hNz.out ?_; rw [hnb'.out]) | (refine wpList_store_whole 115 rfl rfl rfl F rfl (by rw [hFl.out]; exact node_size) 115 NZ.toArray (by rw [← hnb'.out]; exact heap_alloc_new _ _) (by simp [hFl.out, hNl.out]) hF1.out ?_; rw [hw4'.out]) | (refine wpList_load_agg 35 rfl rfl rfl _ Tryz.underlying35 rfl C (by rw [hCl.out]; exact block_size) hlb.out ?_) | (refine wpList_store_whole 35 rfl rfl rfl C rfl (by rw [hCl.out]; exact block_size) 35 _ d4.out (by simp [hCl.out, hZl.out]) hC1.out ?_))
  refine bodyPost_ret (results_row_tmp rfl _ _ rb 35 C.toArray (0, 0) _ rfl (setRow_heap _ _ _ _ 35 (0, 0) d4.out) Tryz.underlying35 rfl (by simp only [List.size_toArray]; rw [hCl.out]; exact block_size)) rfl ?_
  exact ⟨rfl, k4.out.setRowNew hrbw.out _⟩
set_option maxHeartbeats 4000000 in
theorem imageRead {w : World} {A : SA} {M : SM} (h : StoreAt w A M) (root : Int) {key pg : Int} (k0 : 0 ≤ key) (k64 : key < 64) (hf : M.find root key = (pg, 0)) {b : List Nat} (hp : PageOf M pg b) :
  Calls Tryz.prog 21 #[.agg #[.pointer (some ⟨A.sb, 0, none⟩)], .int .i64 root, .int .i64 key] w fun e w' => e = .returned (.tuple #[.agg (byteCells b).toArray, .int .i64 0]) ∧ Kept (fun _ => False) w w' := by
 obtain ⟨Z, hZ⟩ : ∃ Z, byteCells zeros16 = Z := ⟨_, rfl⟩
 have hZz : Hid ((Tryz.prog.info? 35).map (·.zero) = some (some (.agg Z.toArray))) := h_ (by rw [← hZ]; exact block_zero)
 have hZl : Hid (Z.length = 16) := h_ (by rw [← hZ]; rfl)
 have hZ1 : Hid (∀ v ∈ Z, v.oneCell' = true) := h_ (by rw [← hZ]; exact byteCells_one _)
 have hbz : Hid (∀ w, (Instr.build 35 #[]).run Tryz.prog w = .ok (.agg Z.toArray) w) := h_ (fun w => by rw [← hZ]; exact run_build_block w)
 obtain ⟨mb, hmb⟩ : ∃ mb, w.heap.size = mb := ⟨_, rfl⟩
 obtain ⟨w1, hw1⟩ : ∃ w1, w.alloc (.cells #[.pointer (some ⟨A.sb, 0, none⟩)] 32) = w1 := ⟨_, rfl⟩
 obtain ⟨rb, hrb⟩ : ∃ rb, w1.heap.size = rb := ⟨_, rfl⟩
 obtain ⟨w2, hw2⟩ : ∃ w2, w1.alloc (.cells Z.toArray 35) = w2 := ⟨_, rfl⟩
 have k1 : Kept (fun _ => False) w w1 := by rw [← hw1]; exact (Kept.refl _ _).alloc _
 have k12 : Kept (fun _ => False) w1 w2 := by rw [← hw2]; exact (Kept.refl _ _).alloc _
 have t1 : w1.heap[mb]? = some (.cells #[.pointer (some ⟨A.sb, 0, none⟩)] 32 (0, 0)) := by rw [← hw1, ← hmb]; exact heap_alloc_new _ _
 have t2 := h_ (k12.get t1 id)
 have d2 : Hid (w2.heap[rb]? = some (.cells Z.toArray 35 (0, 0))) := h_ (by rw [← hw2, ← hrb]; exact heap_alloc_new _ _)
 have k2 := h_ (k1.trans k12)
 have hrbw : Hid (w.heap.size ≤ rb) := h_ (by rw [← hrb]; exact k1.size)
 have h2 := h_ (h.fresh (k1.trans k12))
 have hw1' := h_ hw1
 have hw2' := h_ hw2
 have hmb' := h_ hmb
 have hrb' := h_ hrb
 have hZ' := h_ hZ
 have hF := treeFind h2.out root key
 rw [hf] at hF
 dsimp only at hF
 have hF' := h_ hF
 have hth := imageThere key w2
 rw [decide_eq_true (show 0 ≤ key ∧ key < 64 from ⟨k0, k64⟩)] at hth
 have hth' := h_ hth
 have hld2 : Hid (∀ j v, [Value.pointer (some ⟨A.sb, 0, none⟩)][j]? = some v → w2.cell? ⟨mb, 0 + j, none⟩ = some v) := h_ (fun j v hj => by rw [Nat.zero_add, cell_of_heap t2.out]; simpa using hj)
 obtain ⟨C, hC⟩ : ∃ C, byteCells b = C := ⟨_, rfl⟩
 have hCl : Hid (C.length = 16) := h_ (by rw [← hC, byteCells_len]; exact hp.1)
 have hC1 : Hid (∀ v ∈ C, v.oneCell' = true) := h_ (by rw [← hC]; exact byteCells_one _)
 have hBl := fun w (h : StoreAt w A M) => imageBlock h hp
 rw [hC] at hBl
 have hBl' := h_ hBl
 rw [hC]
 clear hw1 hw2 hmb hrb k1 k12 t1 h hZ hF hth hC hBl hf hp k0 k64
 go_enter Tryz.func21, Tryz.ntmps21
 go_wp2_with (first | (refine wpList_box_named 32 rfl rfl _ rfl hw1'.out ?_; rw [hmb'.out]) | (refine wpList_alloc_as 35 rfl rfl Z.toArray hZz.out ?_; rw [hw2'.out, hrb'.out]))
 refine hth'.out.mono ?_
 rintro e w3 ⟨rfl, rfl⟩
 go_wp2_with (first | (refine wpList_load_agg 26 rfl rfl rfl _ Tryz.underlying26 rfl [.pointer (some ⟨A.sb, 0, none⟩)] (by kernel_rfl) hld2.out ?_))
 refine hF'.out.mono ?_
 rintro e w3 ⟨rfl, hk3⟩
 have hld3 : Hid (∀ j v, [Value.pointer (some ⟨A.sb, 0, none⟩)][j]? = some v → w3.cell? ⟨mb, 0 + j, none⟩ = some v) := h_ (fun j v hj => by rw [Nat.zero_add, cell_of_heap (hk3.get t2.out id)]; simpa using hj)
 have hB3 := h_ (hBl'.out w3 (h2.out.fresh hk3))
 have d3 := h_ (hk3.get d2.out id)
 have k3 := h_ (k2.out.trans hk3)
 clear hk3
 go_wp2_with (first | (refine wpList_load_agg 32 rfl rfl rfl _ Tryz.underlying32 rfl [.pointer (some ⟨A.sb, 0, none⟩)] (by kernel_rfl) hld3.out ?_))
 refine hB3.out.mono ?_
 rintro e w4 ⟨rfl, hk4⟩
 have d4 := h_ (hk4.get d3.out id)
 have k4 := h_ (k3.out.trans hk4)
 clear hk4
 go_wp2_with (first | (refine wpList_store_whole 35 rfl rfl rfl C rfl (by rw [hCl.out]; exact block_size) 35 _ d4.out (by simp [hCl.out, hZl.out]) hC1.out ?_))
 refine bodyPost_ret (results_row_tmp rfl _ _ rb 35 C.toArray (0, 0) _ rfl (setRow_heap _ _ _ _ 35 (0, 0) d4.out) Tryz.underlying35 rfl (by simp only [List.size_toArray]; rw [hCl.out]; exact block_size)) rfl ?_
 exact ⟨rfl, k4.out.setRowNew hrbw.out _⟩

theorem run_build_data (w : World) (b : List Nat) : (Instr.build 115 #[(0, .int .i64 1), (1, .agg (blockCells b).toArray)]).run Tryz.prog w = .ok (.agg (nodeCells ⟨1, b, []⟩ (.slice none 0 0)).toArray) w := run_build _ _ _ _ (by kernel_rfl)
theorem ptr_load {w : World} {p s : Nat} {t : TypeId} (h : w.heap[p]? = some (.cells #[.pointer (some ⟨s, 0, none⟩)] t (0, 0))) : ∀ j v, [Value.pointer (some ⟨s, 0, none⟩)][j]? = some v → w.cell? ⟨p, 0 + j, none⟩ = some v := fun j v hj => by rw [Nat.zero_add, cell_of_heap h]; simpa using hj
theorem write1_size (M : SM) (root key : Int) (b : List Nat) : (M.write1 root key b).1.pool.size = M.pool.size := write1_closed (Q := fun N => N.pool.size = M.pool.size) ⟨fun _ _ _ _ h => h, fun N i h => by show (N.pool.holdTo i).size = _; rw [holdTo_size]; exact h, fun N i _ h => by show (N.pool.dropTo i.toNat).size = _; rw [dropTo_size]; exact h⟩ root key b rfl

theorem block_info : (Tryz.prog.info? 35).map (fun i => (i.zero, i.size, i.bytes)) = some (some (.agg (byteCells zeros16).toArray), 16, 16) := by kernel_rfl
theorem zero_cells : (imgCells fun _ => zeros16) = List.replicate 1024 (Value.int .u8 0) := by
 unfold imgCells imgBytes blocksOf zeros16 byteCells
 rw [List.map_const', List.length_range, List.flatten_replicate_replicate, List.map_replicate]
 rfl
theorem made_blocks : madeCells (byteCells zeros16).toArray (64 * 16) = (imgCells fun _ => zeros16).toArray := by
 rw [zero_cells]
 have hz : ∀ i, i < 16 → (byteCells zeros16)[i]? = some (.int .u8 0) := fun i hi => by
  unfold byteCells zeros16
  rw [List.map_replicate, List.getElem?_replicate, if_pos hi]
  rfl
 have hl : (byteCells zeros16).toArray.size = 16 := rfl
 refine Array.ext_getElem? fun j => ?_
 by_cases hj : j < 1024
 ·have := hz (j % 16) (Nat.mod_lt _ (by omega))
  have e : (List.replicate 1024 (Value.int .u8 0)).toArray[j]? = some (.int .u8 0) := by
   rw [List.getElem?_toArray, List.getElem?_replicate, if_pos hj]
  rw [e]
  simp [madeCells, hj, hl, Array.getElem!_eq_getD, this]
 ·rw [Array.getElem?_eq_none (by simp [madeCells]; omega), Array.getElem?_eq_none (by simp; omega)]
theorem wpList_makeBlocks {ops : Array Oper} {rest : List Oper} {o : Oper} {a : Act} {Q : Exit → Act → World → Prop} {w : World} (hgd : o.guard = none) (x : Operand) (ho : o.op = .makeSlice 73 x x) (hx : a.eval x = .int .i64 64)
  (h : wpList Tryz.prog ops Q rest (a.put o.dst (.slice (some ⟨w.heap.size, 0, none⟩) 64 64)) (w.alloc (.cells (imgCells fun _ => zeros16).toArray 35))) :
  wpList Tryz.prog ops Q (o :: rest) a w := by
 obtain ⟨i0, hi0, hz0, hz1, hz2⟩ := info_parts block_info
 have hr := run_make (P := Tryz.prog) w 73 35 i0 (.agg (byteCells zeros16).toArray) Tryz.underlying73 hi0 hz0 .i64 .i64 ((64 : Nat) : Int) ((64 : Nat) : Int) (by omega) (by omega) (by rw [hz2]; omega) (by omega)
 refine wpList_exec hgd ?_ h
 have hx' : a.eval x = .int .i64 ((64 : Nat) : Int) := hx
 unfold execOp
 simp only [ho, hx', Sem.run_bind, hr, Result.andThen_ok, Int.toNat_natCast, hz1]
 rw [← made_blocks]
 rfl
def partW (w : Int → List Nat) (l : List (Int × Int)) : Int → List Nat := l.foldl (fun f y => upd f y.1 (w y.1)) (fun _ => zeros16)
theorem partW_get (w : Int → List Nat) (l : List (Int × Int)) (k : Int) : partW w l k = if (∃ y ∈ l, y.1 = k) then w k else zeros16 := by
 have key : ∀ (l : List (Int × Int)) (f : Int → List Nat), l.foldl (fun f y => upd f y.1 (w y.1)) f k = if (∃ y ∈ l, y.1 = k) then w k else f k := by
  intro l
  induction l with
  | nil => intro f; rw [if_neg (fun ⟨y, hy, _⟩ => by cases hy)]; rfl
  | cons x l ih =>
   intro f
   rw [List.foldl_cons, ih]
   by_cases h1 : ∃ y ∈ l, y.1 = k
   ·rw [if_pos h1, if_pos (by obtain ⟨y, hy, e⟩ := h1; exact ⟨y, List.mem_cons_of_mem _ hy, e⟩)]
   ·rw [if_neg h1]
    unfold upd
    by_cases e : k = x.1
    ·rw [if_pos e, if_pos ⟨x, List.mem_cons_self .., e.symm⟩, e]
    ·rw [if_neg e, if_neg (fun ⟨y, hy, hy2⟩ => by
      rcases List.mem_cons.1 hy with rfl | hy
      ·exact e hy2.symm
      ·exact h1 ⟨y, hy, hy2⟩)]
 exact key l _
theorem partW_bytes {w : Int → List Nat} (h : Bytes w) (l : List (Int × Int)) : Bytes (partW w l) := by
 refine ⟨fun k => ?_, fun k => ?_⟩ <;> rw [partW_get] <;> split
 ·exact h.len k
 ·exact zeros_ok.1
 ·exact h.lt k
 ·exact zeros_ok.2.1
theorem blocksOf_congr {f g : Int → List Nat} (h : ∀ k : Nat, k < 64 → f (k : Int) = g (k : Int)) : blocksOf f = blocksOf g := by
 unfold blocksOf
 exact List.map_congr_left fun k hk => h k (List.mem_range.1 hk)
theorem partW_all {m : Nat} {M : SM} {i : IM} (h : Img m M i) : imgCells (partW i.w i.l) = imgCells i.w := by
 unfold imgCells imgBytes
 rw [blocksOf_congr fun k hk => ?_]
 rw [partW_get]
 exact (img_all h hk).symm
theorem partW_take (w : Int → List Nat) {l : List (Int × Int)} {k : Nat} {y : Int × Int} (h : l[k]? = some y) : partW w (l.take (k + 1)) = upd (partW w (l.take k)) y.1 (w y.1) := by
 unfold partW
 rw [List.take_add_one, h, List.foldl_append]
 rfl
structure AllSt (w : World) (mb gb sb : Nat) (v : Value) (i : IM) (k : Nat) (wr : World) : Prop where
 kept : Kept (fun _ => False) w wr
 im : wr.heap[mb]? = some (.cells #[.pointer (some ⟨sb, 0, none⟩)] 32 (0, 0))
 ents : EntsAt wr v i.l
 out : wr.heap[gb]? = some (.cells (imgCells (partW i.w (i.l.take k))).toArray 35 (0, 0))
set_option maxHeartbeats 8000000 in
theorem imageAll {w : World} {A : SA} {M : SM} {m : Nat} {ext : Nat → Nat} {i : IM} (h : StoreAt w A M) (hi : Img m M i) (E : Exact M ext) (hP : i.P ≤ 240) (hB : Bytes i.w) :
  Calls Tryz.prog 44 #[.agg #[.pointer (some ⟨A.sb, 0, none⟩)], .int .i64 i.root] w fun e w' => ∃ gb, e = .returned (.tuple #[.slice (some ⟨gb, 0, none⟩) 64 64, .int .i64 0]) ∧ w.heap.size ≤ gb ∧
   w'.heap[gb]? = some (.cells (imgCells i.w).toArray 35 (0, 0)) ∧ Kept (fun _ => False) w w' := by
 obtain ⟨mb, hmb⟩ : ∃ mb, w.heap.size = mb := ⟨_, rfl⟩
 obtain ⟨w1, hw1⟩ : ∃ w1, w.alloc (.cells #[.pointer (some ⟨A.sb, 0, none⟩)] 32) = w1 := ⟨_, rfl⟩
 have k1 : Kept (fun _ => False) w w1 := by rw [← hw1]; exact (Kept.refl _ _).alloc _
 have q1 : w1.heap[mb]? = some (.cells #[.pointer (some ⟨A.sb, 0, none⟩)] 32 (0, 0)) := by rw [← hw1, ← hmb]; exact heap_alloc_new _ _
 have hL := treeList (h.fresh k1) i.root
 rw [hi.tree.list hP] at hL
 dsimp only at hL
 have hL' := h_ hL
 have hld1 := h_ (ptr_load q1)
 have hpage : Hid (∀ y ∈ i.l, PageOf M y.2 (i.w y.1) ∧ 0 ≤ y.1 ∧ y.1 < 64) := h_ (fun y hy => ⟨⟨hB.len _, .inr ⟨by have := hi.low E hy; omega, hi.page E hy⟩⟩, hi.tree.keys.2 y hy⟩)
 have hlen64 := hi.tree.len
 have hall := h_ (partW_all hi)
 have hB' := h_ hB
 have h' := h_ h
 have k1' := h_ k1
 have q1' := h_ q1
 have hw1' := h_ hw1
 have hmb' := h_ hmb
 obtain ⟨Z, hZ⟩ : ∃ Z, byteCells zeros16 = Z := ⟨_, rfl⟩
 have hZz : Hid ((Tryz.prog.info? 35).map (·.zero) = some (some (.agg Z.toArray))) := h_ (by rw [← hZ]; exact block_zero)
 have hZl : Hid (Z.length = 16) := h_ (by rw [← hZ]; rfl)
 clear hw1 hmb k1 q1 hL hi E hB h hZ
 go_enter Tryz.func44, Tryz.ntmps44
 go_wp2_with (first | (refine wpList_box_named 32 rfl rfl _ rfl hw1'.out ?_; rw [hmb'.out]) | (refine wpList_load_agg 26 rfl rfl rfl _ Tryz.underlying26 rfl [.pointer (some ⟨A.sb, 0, none⟩)] (by kernel_rfl) hld1.out ?_))
 refine hL'.out.mono ?_
 rintro e w2 ⟨v, rfl, hown2, hk2⟩
 obtain ⟨Av, cv, rfl, hv1, hv2⟩ := EntsAt.form (show EntsAt w2 v i.l from SliceAt.of_owns hown2)
 unfold maxLen at hv2
 obtain ⟨gb, hgb⟩ : ∃ gb, w2.heap.size = gb := ⟨_, rfl⟩
 obtain ⟨w3, hw3⟩ : ∃ w3, w2.alloc (.cells (imgCells fun _ => zeros16).toArray 35) = w3 := ⟨_, rfl⟩
 have k3 : Kept (fun _ => False) w2 w3 := by rw [← hw3]; exact (Kept.refl _ _).alloc _
 have I3 : Hid (AllSt w mb gb A.sb (.slice Av i.l.length cv) i 0 w3) := h_ ⟨(k1'.out.trans hk2).trans k3, k3.get (hk2.get q1'.out id) id, SliceAt.fresh (SliceAt.of_owns hown2) k3, by rw [← hw3, ← hgb]; exact heap_alloc_new _ _⟩
 have hgbw : Hid (w.heap.size ≤ gb ∧ mb < gb) := h_ ⟨by have := (k1'.out.trans hk2).size; omega, by have := lt_of_heap (hk2.get q1'.out id); omega⟩
 have hvb : Hid (∀ b, (Value.slice Av i.l.length cv).ownBlock = some b → b < gb) := h_ (fun b hb => by rw [← hgb]; exact (hown2.lt b hb).2)
 have hw3' := h_ hw3
 have hgb' := h_ hgb
 clear hown2 hk2 hw3 hgb k3
 go_wp2_with (first | (at_make; refine wpList_makeBlocks rfl (.const (.int .i64 64)) rfl rfl ?_; rw [hw3'.out, hgb'.out]))
 go_loopw [28] (fun n wr => ∃ (k : Nat), k ≤ i.l.length ∧ n = .int .i64 k ∧ Hid (AllSt w mb gb A.sb (.slice Av i.l.length cv) i k wr)) (fun n _ => i.l.length - (intOf n).toNat)
 case atStart => exact ⟨0, Nat.zero_le _, rfl, I3⟩
 case round =>
  obtain ⟨k, hk, rfl, hI⟩ := hrel
  by_cases hlt : k < i.l.length
  ·obtain ⟨y, hy⟩ : ∃ y, i.l[k]? = some y := ⟨_, List.getElem?_eq_getElem hlt⟩
   have hym : y ∈ i.l := List.mem_of_getElem? hy
   obtain ⟨eb, eo, rfl, heb, hy0, hy1⟩ := hI.out.ents.get hy
   obtain ⟨hpg, y0, y64⟩ := hpage.out y hym
   have hpt := partW_take i.w hy
   obtain ⟨yk, yp⟩ := y
   dsimp only at hy0 hy1 hpg y0 y64 hpt
   obtain ⟨q, rfl⟩ := Int.eq_ofNat_of_zero_le y0
   have hq64 : q < 64 := by omega
   have hqi : (q : Int) < 64 := by omega
   have hki : (k : Int) < (i.l.length : Int) := by omega
   have hlo : Hid (∀ j v, [Value.int .i64 (q : Int), .int .i64 yp][j]? = some v → wr.cell? ⟨eb, eo + k * 2 + j, none⟩ = some v) := h_ (fun j v hj => by
    match j, hj with
    | 0, hj => cases hj; exact hy0
    | 1, hj => cases hj; exact hy1)
   obtain ⟨xb, hxb⟩ : ∃ xb, wr.heap.size = xb := ⟨_, rfl⟩
   obtain ⟨wx, hwx⟩ : ∃ wx, (wr.alloc (.cells #[.int .i64 0, .int .i64 0] 86)).setRow xb #[.int .i64 (q : Int), .int .i64 yp] = wx := ⟨_, rfl⟩
   have kx : Kept (fun _ => False) wr wx := by rw [← hwx]; exact ((Kept.refl _ _).alloc _).setRowNew (by omega) _
   have qx : wx.heap[xb]? = some (.cells #[.int .i64 (q : Int), .int .i64 yp] 86 (0, 0)) := by rw [← hwx, ← hxb]; exact setRow_heap _ _ _ _ _ _ (heap_alloc_new _ _)
   have cx1 := cell_of_heap qx 1
   simp at cx1
   have hldx := h_ (ptr_load (kx.get hI.out.im id))
   have hBk := imageBlock (h'.out.fresh (hI.out.kept.trans kx)) hpg
   obtain ⟨C, hC⟩ : ∃ C, byteCells (i.w (q : Int)) = C := ⟨_, rfl⟩
   have hCl : Hid (C.length = 16) := h_ (by rw [← hC, byteCells_len]; exact hB'.out.len _)
   have hC1 : Hid (∀ v ∈ C, v.oneCell' = true) := h_ (by rw [← hC]; exact byteCells_one _)
   have hnew : Hid (imgCells (partW i.w (i.l.take (k + 1))) = (imgCells (partW i.w (i.l.take k))).take (q * 16) ++ (C ++ (imgCells (partW i.w (i.l.take k))).drop (q * 16 + 16))) := h_ (by rw [hpt, ← hC, ← List.append_assoc]; exact imgCells_upd (partW_bytes hB'.out _) hq64 (hB'.out.len _))
   have hcl : Hid ((imgCells (partW i.w (i.l.take k))).length = 1024) := h_ (imgCells_len (partW_bytes hB'.out _))
   rw [hC] at hBk
   have hBk' := h_ hBk
   have qx' := h_ qx
   have kx' := h_ kx
   have hI' := h_ hI.out
   have hxb' := h_ hxb
   have hwx' := h_ hwx
   clear hy hym hy0 hy1 hpg hpt hBk hC qx kx hI hxb hwx
   go_wp2_with (first | (refine wpList_load_agg 86 rfl rfl rfl _ Tryz.underlying86 rfl [.int .i64 (q : Int), .int .i64 yp] (by kernel_rfl) hlo.out ?_) | (refine wpList_alloc_as 86 rfl rfl #[.int .i64 0, .int .i64 0] (by kernel_rfl) ?_; rw [hxb'.out]) | (refine wpList_store_whole 86 rfl rfl rfl [.int .i64 (q : Int), .int .i64 yp] rfl (by kernel_rfl) 86 #[.int .i64 0, .int .i64 0] (by rw [← hxb'.out]; exact heap_alloc_new _ _) rfl (by intro c hc; simp at hc; rcases hc with rfl | rfl <;> rfl) ?_; rw [hwx'.out]) | (refine wpList_load_agg 32 rfl rfl rfl _ Tryz.underlying32 rfl [.pointer (some ⟨A.sb, 0, none⟩)] (by kernel_rfl) hldx.out ?_))
   refine hBk'.out.mono ?_
   rintro e w4 ⟨rfl, hk4⟩
   obtain ⟨bb, hbb⟩ : ∃ bb, w4.heap.size = bb := ⟨_, rfl⟩
   obtain ⟨w5, hw5⟩ : ∃ w5, (w4.alloc (.cells Z.toArray 35)).setRow bb C.toArray = w5 := ⟨_, rfl⟩
   have k5 : Kept (fun _ => False) w4 w5 := by rw [← hw5]; exact ((Kept.refl _ _).alloc _).setRowNew (by omega) _
   have q5 : w5.heap[bb]? = some (.cells C.toArray 35 (0, 0)) := by rw [← hw5, ← hbb]; exact setRow_heap _ _ _ _ _ _ (heap_alloc_new _ _)
   have hlb : Hid (∀ j v, C[j]? = some v → w5.cell? ⟨bb, 0 + j, none⟩ = some v) := h_ (fun j v hj => by rw [Nat.zero_add, cell_of_heap q5]; simpa using hj)
   have c50 := cell_of_heap (k5.get (hk4.get qx'.out id) id) 0
   simp at c50
   have kw5 := (kx'.out.trans hk4).trans k5
   have hg5 := h_ (kw5.get hI'.out.out id)
   have fin : Hid (AllSt w mb gb A.sb (.slice (some ⟨eb, eo, none⟩) i.l.length cv) i (k + 1) (w5.setRow gb ((imgCells (partW i.w (i.l.take k))).take (q * 16) ++ (C ++ (imgCells (partW i.w (i.l.take k))).drop (q * 16 + 16))).toArray)) := h_ (by
    have kset : Kept (fun j => j = gb) w5 (w5.setRow gb ((imgCells (partW i.w (i.l.take k))).take (q * 16) ++ (C ++ (imgCells (partW i.w (i.l.take k))).drop (q * 16 + 16))).toArray) := Kept.setRow (S := fun j => j = gb) (Kept.refl _ _) rfl _
    refine ⟨(hI'.out.kept.trans kw5).setRowNew hgbw.out.1 _, kset.get (kw5.get hI'.out.im id) (fun e => by have := hgbw.out.2; omega), SliceAt.kept (SliceAt.fresh hI'.out.ents kw5) kset (fun b hb e => ?_), by rw [hnew.out]; exact setRow_heap _ _ _ _ _ _ hg5.out⟩
    exact absurd (hvb.out b hb) (by omega))
   have hw5' := h_ hw5
   have hbb' := h_ hbb
   clear hk4 k5 q5 kw5 hw5 hbb cx1
   go_wp2_with (first | (refine wpList_alloc_as 35 rfl rfl Z.toArray hZz.out ?_; rw [hbb'.out]) | (refine wpList_store_whole 35 rfl rfl rfl C rfl (by rw [hCl.out]; exact block_size) 35 Z.toArray (by rw [← hbb'.out]; exact heap_alloc_new _ _) (by simp [hZl.out, hCl.out]) hC1.out ?_; rw [hw5'.out]) | (refine wpList_load_agg 35 rfl rfl rfl _ Tryz.underlying35 rfl C (by rw [hCl.out]; exact block_size) hlb.out ?_) | (refine wpList_store_agg 35 rfl rfl (g := gb) (off := q * 16) (by rfl) C rfl (by rw [hCl.out]; exact block_size) 35 _ hg5.out (by simp [hcl.out, hCl.out]; omega) hC1.out ?_))
   rw [hCl.out]
   go_roundw
   case rel => exact ⟨k + 1, by omega, by go_num, fin⟩
   case measure => simp [intOf]; omega
  ·obtain rfl : k = i.l.length := by omega
   have ho := hI.out.out
   rw [List.take_length, hall.out] at ho
   have ho' := h_ ho
   have kk := h_ hI.out.kept
   clear ho hI
   go_wp2_with fail
   go_ret2
   exact ⟨gb, rfl, hgbw.out.1, ho'.out, kk.out⟩

set_option maxHeartbeats 4000000 in
theorem imageCopy {w : World} {A : SA} {M : SM} (h : StoreAt w A M) (root : Int) :
  Calls Tryz.prog 27 #[.agg #[.pointer (some ⟨A.sb, 0, none⟩)], .int .i64 root] w fun e w' =>
   e = .returned (.tuple #[.int .i64 (if root = -1 then root else if (M.hold root).2 = 0 then root else -1), .int .i64 (if root = -1 then 0 else (M.hold root).2 : Nat)]) ∧ StoreTo A A (if root = -1 then M else (M.hold root).1) w w' := by
 obtain ⟨mb, hmb⟩ : ∃ mb, w.heap.size = mb := ⟨_, rfl⟩
 obtain ⟨w1, hw1⟩ : ∃ w1, w.alloc (.cells #[.pointer (some ⟨A.sb, 0, none⟩)] 32) = w1 := ⟨_, rfl⟩
 have k1 : Kept (fun _ => False) w w1 := by rw [← hw1]; exact (Kept.refl _ _).alloc _
 have q1 : w1.heap[mb]? = some (.cells #[.pointer (some ⟨A.sb, 0, none⟩)] 32 (0, 0)) := by rw [← hw1, ← hmb]; exact heap_alloc_new _ _
 have cm := cell_of_heap q1 0
 simp at cm
 have h1 := h_ (h.fresh k1)
 have k1' := h_ k1
 have hw1' := h_ hw1
 have hmb' := h_ hmb
 by_cases hr : root = -1
 ·have hb : (root == -1) = true := by simp [hr]
  rw [if_pos hr, if_pos hr, if_pos hr]
  have fin := h_ ((StoreTo.refl h).fresh k1)
  clear hr hw1 hmb k1 q1 h
  go_enter Tryz.func27, Tryz.ntmps27
  go_wp2_with (first | (refine wpList_box_named 32 rfl rfl _ rfl hw1'.out ?_; rw [hmb'.out]))
  go_ret2
  exact ⟨rfl, fin.out⟩
 ·have hb : (root == -1) = false := by simp [hr]
  rw [if_neg hr, if_neg hr, if_neg hr]
  have hH := storeHold h1.out root
  obtain ⟨R, hR⟩ : ∃ R, M.hold root = R := ⟨_, rfl⟩
  rw [hR] at hH ⊢
  obtain ⟨M1, er⟩ := R
  dsimp only at hH ⊢
  have hH' := h_ hH
  by_cases h0 : er = 0
  ·subst h0
   rw [if_pos rfl]
   clear hr hw1 hmb k1 q1 h hR hH
   go_enter Tryz.func27, Tryz.ntmps27
   go_wp2_with (first | (refine wpList_box_named 32 rfl rfl _ rfl hw1'.out ?_; rw [hmb'.out]))
   refine hH'.out.mono ?_
   rintro e w2 ⟨rfl, hT⟩
   have T := h_ (StoreTo.before k1'.out hT)
   clear hT
   go_wp2_with fail
   go_ret2
   exact ⟨rfl, T.out⟩
  ·have h0' : ((er : Int) == 0) = false := by simp; omega
   rw [if_neg h0]
   clear hr hw1 hmb k1 q1 h hR hH h0
   go_enter Tryz.func27, Tryz.ntmps27
   go_wp2_with (first | (refine wpList_box_named 32 rfl rfl _ rfl hw1'.out ?_; rw [hmb'.out]))
   refine hH'.out.mono ?_
   rintro e w2 ⟨rfl, hT⟩
   have T := h_ (StoreTo.before k1'.out hT)
   clear hT
   go_wp2_with fail
   go_ret2
   exact ⟨rfl, T.out⟩

def Two (M : SM) (root : Int) : Prop := ∀ n, M.nodeAt root.toNat = some n → n.kind = 3 → 2 ≤ n.ents.length
theorem led5 {m : Nat} {M : SM} {root : Int} {l : List (Int × Int)} {P hh : Nat} (hP : P ≤ 240) (hr : Rooted m M root l hh) (hl : root = -1 ∨ Led M hh root P) : hh ≤ 5 := by
 rcases hr with ⟨_, _, e⟩ | t
 ·omega
 ·rcases hl with e | j
  ·have := (heldB_int t.held).1; omega
  ·exact (led_pages t j hP).1

structure OwnStore (w : World) (A : SA) (M : SM) (wr : World) : Prop where
 store : StoreAt wr A M
 kept : Kept (fun _ => False) w wr
 new : ∀ k, A.own k → w.heap.size ≤ k
theorem OwnStore.fresh {w wr w' : World} {A : SA} {M : SM} (h : OwnStore w A M wr) (k : Kept (fun _ => False) wr w') : OwnStore w A M w' := ⟨h.store.fresh k, h.kept.trans k, h.new⟩
theorem OwnStore.to {w wr w' : World} {A A' : SA} {M M' : SM} (h : OwnStore w A M wr) (k : StoreTo A A' M' wr w') : OwnStore w A' M' w' := by
 refine ⟨k.store, h.kept.trans_new k.kept (fun i hi e => by have := h.new _ (.inl e); omega), fun j hj => ?_⟩
 have hsz := h.kept.size
 rcases hj with hj | hj | hj
 ·rcases k.foot j hj with e | e
  ·exact h.new _ (.inl e)
  ·omega
 ·rw [k.fix.2] at hj; exact h.new _ (.inr (.inl hj))
 ·rw [k.fix.1] at hj; exact h.new _ (.inr (.inr hj))
end Go.Proofs.YtidlchciehdefaaGreat
