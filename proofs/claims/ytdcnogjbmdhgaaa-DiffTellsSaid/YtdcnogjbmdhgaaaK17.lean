/-
 Trees in a store, plain: putting a page for a key.
-/
import Derived.Test.YtdcnogjbmdhgaaaK16
set_option linter.unusedVariables false
set_option linter.unusedSimpArgs false
namespace Go.Proofs.Ytdcnogjbmdhgaaa
open Go.RowKit

theorem putF_succ (f : Nat) (M : SM) (root : Int) (x : Int × Int) : SM.putF (f + 1) M root x =
  (if (M.tnode root (8 - f)).2 = 0 then
   (if (M.tnode root (8 - f)).1.kind = 3 then
    (if (SM.putF f M ((M.tnode root (8 - f)).1.ents.getD (atI (M.tnode root (8 - f)).1.ents x.1).toNat (0, 0)).2 x).2.2 = 0 then
     (if ((SM.putF f M ((M.tnode root (8 - f)).1.ents.getD (atI (M.tnode root (8 - f)).1.ents x.1).toNat (0, 0)).2 x).1.split (SM.putF f M ((M.tnode root (8 - f)).1.ents.getD (atI (M.tnode root (8 - f)).1.ents x.1).toNat (0, 0)).2 x).2.1).2.2 = 0 then
      (((SM.putF f M ((M.tnode root (8 - f)).1.ents.getD (atI (M.tnode root (8 - f)).1.ents x.1).toNat (0, 0)).2 x).1.split (SM.putF f M ((M.tnode root (8 - f)).1.ents.getD (atI (M.tnode root (8 - f)).1.ents x.1).toNat (0, 0)).2 x).2.1).1,
       { (M.tnode root (8 - f)).1 with ents := (M.tnode root (8 - f)).1.ents.take (atI (M.tnode root (8 - f)).1.ents x.1).toNat ++ ((SM.putF f M ((M.tnode root (8 - f)).1.ents.getD (atI (M.tnode root (8 - f)).1.ents x.1).toNat (0, 0)).2 x).1.split (SM.putF f M ((M.tnode root (8 - f)).1.ents.getD (atI (M.tnode root (8 - f)).1.ents x.1).toNat (0, 0)).2 x).2.1).2.1 ++ (M.tnode root (8 - f)).1.ents.drop ((atI (M.tnode root (8 - f)).1.ents x.1).toNat + 1) }, 0)
     else (((SM.putF f M ((M.tnode root (8 - f)).1.ents.getD (atI (M.tnode root (8 - f)).1.ents x.1).toNat (0, 0)).2 x).1.split (SM.putF f M ((M.tnode root (8 - f)).1.ents.getD (atI (M.tnode root (8 - f)).1.ents x.1).toNat (0, 0)).2 x).2.1).1, (M.tnode root (8 - f)).1,
      ((SM.putF f M ((M.tnode root (8 - f)).1.ents.getD (atI (M.tnode root (8 - f)).1.ents x.1).toNat (0, 0)).2 x).1.split (SM.putF f M ((M.tnode root (8 - f)).1.ents.getD (atI (M.tnode root (8 - f)).1.ents x.1).toNat (0, 0)).2 x).2.1).2.2))
    else ((SM.putF f M ((M.tnode root (8 - f)).1.ents.getD (atI (M.tnode root (8 - f)).1.ents x.1).toNat (0, 0)).2 x).1, (M.tnode root (8 - f)).1, (SM.putF f M ((M.tnode root (8 - f)).1.ents.getD (atI (M.tnode root (8 - f)).1.ents x.1).toNat (0, 0)).2 x).2.2))
   else if 0 ≤ atI (M.tnode root (8 - f)).1.ents x.1 ∧ ((M.tnode root (8 - f)).1.ents.getD (atI (M.tnode root (8 - f)).1.ents x.1).toNat (0, 0)).1 = x.1 then
    (M, { (M.tnode root (8 - f)).1 with ents := (M.tnode root (8 - f)).1.ents.take (atI (M.tnode root (8 - f)).1.ents x.1).toNat ++ [x] ++ (M.tnode root (8 - f)).1.ents.drop ((atI (M.tnode root (8 - f)).1.ents x.1).toNat + 1) }, 0)
   else (M, { (M.tnode root (8 - f)).1 with ents := (M.tnode root (8 - f)).1.ents.take (atI (M.tnode root (8 - f)).1.ents x.1 + 1).toNat ++ [x] ++ (M.tnode root (8 - f)).1.ents.drop (atI (M.tnode root (8 - f)).1.ents x.1 + 1).toNat }, 0))
  else (M, (M.tnode root (8 - f)).1, (M.tnode root (8 - f)).2)) := rfl

theorem tnode_tr {m : Nat} {M : SM} {h : Nat} {p : Int} {l : List (Int × Int)} (t : Tr m M (h + 1) p l) {d : Nat} (hd : d < 8) :
  ∃ n, M.tnode p d = (n, 0) ∧ M.nodeAt p.toNat = some n ∧ n.ok ∧ NTr (Sub m M h) h n l := by
 obtain ⟨hp, n, hn, hok, k⟩ := t
 refine ⟨n, ?_, hn, hok, k⟩
 have hk := NTr.kind k
 unfold SM.tnode SM.get
 rw [if_pos hp, hn]
 dsimp only
 rw [if_pos rfl, if_neg (by omega)]

theorem leaf_put {l : List (Int × Int)} (h : RisesK l) (x : Int × Int) :
  (if 0 ≤ atI l x.1 ∧ (l.getD (atI l x.1).toNat (0, 0)).1 = x.1 then l.take (atI l x.1).toNat ++ [x] ++ l.drop ((atI l x.1).toNat + 1) else l.take (atI l x.1 + 1).toNat ++ [x] ++ l.drop (atI l x.1 + 1).toNat) = putL l x := by
 have hb := (atI_bound (l := l) x.1).1
 obtain ⟨c, hc⟩ := Int.eq_ofNat_of_zero_le (show 0 ≤ atI l x.1 + 1 by omega)
 obtain ⟨hcl, hc1, hc2⟩ := atI_cut h x.1 hc.symm
 by_cases hy : 0 ≤ atI l x.1 ∧ (l.getD (atI l x.1).toNat (0, 0)).1 = x.1
 ·rw [if_pos hy]
  have e1 : (atI l x.1).toNat = c - 1 := by omega
  rw [e1] at hy ⊢
  have hlt : c - 1 < l.length := by omega
  have hg : l.getD (c - 1) (0, 0) = l[c - 1] := by simp [List.getD, List.getElem?_eq_getElem hlt]
  rw [hg] at hy
  have hd : l.drop (c - 1) = l[c - 1] :: l.drop c := by rw [List.drop_eq_getElem_cons hlt, show c - 1 + 1 = c by omega]
  refine putL_take (by omega) (fun y hyy => ?_) (fun y hyy => hc2 y (by rw [show c = c - 1 + 1 by omega]; exact hyy)) (fun y hyy => ?_)
  ·have := rises_cut h (c - 1) y hyy l[c - 1] (by rw [hd]; exact List.mem_cons_self ..)
   omega
  ·rw [show c - 1 + 1 - (c - 1) = 1 by omega, hd] at hyy
   simp at hyy
   rw [hyy]; exact hy.2
 ·rw [if_neg hy]
  have e1 : (atI l x.1 + 1).toNat = c := by omega
  rw [e1]
  refine putL_take (Nat.le_refl _) (fun y hyy => ?_) hc2 (fun y hyy => by rw [Nat.sub_self] at hyy; cases hyy)
  have h1 := hc1 y hyy
  refine (Int.lt_or_eq_of_le h1).resolve_right fun he => hy ?_
  obtain ⟨j, hj, rfl⟩ := List.getElem_of_mem hyy
  rw [List.length_take] at hj
  rw [List.getElem_take] at he
  have hc0 : 0 < c := by omega
  refine ⟨by omega, ?_⟩
  rw [show (atI l x.1).toNat = c - 1 by omega]
  have hlt : c - 1 < l.length := by omega
  have hg : l.getD (c - 1) (0, 0) = l[c - 1] := by simp [List.getD, List.getElem?_eq_getElem hlt]
  rw [hg]
  have h2 : l[c - 1].1 ≤ x.1 := hc1 _ (by
   rw [List.mem_take_iff_getElem]
   exact ⟨c - 1, by omega, rfl⟩)
  by_cases hjc : j = c - 1
  ·subst hjc; exact he
  ·have := List.pairwise_iff_getElem.1 h j (c - 1) (by omega) hlt (by omega)
   omega

structure PutOk (m : Nat) (M : SM) (ext : Nat → Nat) (h : Nat) (root : Int) (l : List (Int × Int)) (M' : SM) (n' : NM) (As : Prop) : Prop where
 exact : Exact M' ext
 grown : Grown M M'
 tr : NTr (Sub m M' h) h n' l
 lo : M.entN root ≤ n'.ents.length
 hi : n'.ents.length ≤ M.entN root + 1
 entN : 1 ≤ M.entN root ∧ M.entN root ≤ 6
 free : M.pool.freeCount ≤ M'.pool.freeCount + 2 * h
 sum : M'.sum + n'.ents.length ≤ M.sum + 7 * (h + 1)
 loose : ∀ E, Loose M E → Loose M' (n'.ents ++ E)
 led : ∀ s, Led M (h + 1) root s → LedN M' h n'.ents (s + 1)
 asc : As → spineN M' h n'.ents = bumpF (spine M (h + 1) root)
theorem putL_end {l : List (Int × Int)} {x : Int × Int} (h : ∀ y ∈ l, y.1 < x.1) : putL l x = l ++ [x] := by
 unfold putL
 rw [filter_all (fun y hy => by simpa using h y hy), filter_none (fun y hy => by have := h y hy; simp; omega), List.append_nil]

theorem putF_ok {m : Nat} (hm : m ≤ 3) {ext : Nat → Nat} {x : Int × Int} (x0 : 0 ≤ x.1) (x1 : x.1 < 64) : ∀ (h d : Nat) (M : SM) (l : List (Int × Int)) (root : Int), h + 1 + d ≤ 8 → Exact M ext → Tr m M (h + 1) root l → Good M l → M.pool.heldB x.2 = true →
  ((SM.putF (9 - d) M root x).2.2 = 0 ∧ PutOk m M ext h root (putL l x) (SM.putF (9 - d) M root x).1 (SM.putF (9 - d) M root x).2.1 (∀ y ∈ l, y.1 < x.1)) ∨
   ((SM.putF (9 - d) M root x).2.2 = 71 ∧ M.pool.freeCount < 2 * h) ∨ ((SM.putF (9 - d) M root x).2.2 = 72 ∧ ∃ c, 255 < M.refs c + 7 * h + ext c) := by
 intro h
 induction h with
 | zero =>
  intro d M l root hd E t g hx
  obtain ⟨n, hn, hna, hok, k⟩ := tnode_tr t (d := d) (by omega)
  have hin := innerOk_of hok (by have := k.kind; omega)
  rw [show 9 - d = (8 - d) + 1 by omega, putF_succ, show 8 - (8 - d) = d by omega, hn]
  dsimp only
  rcases k with ⟨_, hk, hl⟩ | ⟨h0, _⟩
  ·rw [if_pos rfl, if_neg (by omega)]
   have hp := leaf_put (l := n.ents) (by rw [hl]; exact g.1) x
   have hlen : ∀ c i j, c = n.ents.take i ++ [x] ++ n.ents.drop j → i ≤ n.ents.length → (j = i ∨ j = i + 1) → n.ents.length ≤ c.length ∧ c.length ≤ n.ents.length + 1 := by
    intro c i j hc hi hj
    rw [hc]
    simp only [List.length_append, List.length_take, List.length_drop, List.length_singleton]
    omega
   have hb := atI_bound (l := n.ents) x.1
   have hen := entN_of hna
   have fin : ∀ c : List (Int × Int), c = putL n.ents x → n.ents.length ≤ c.length ∧ c.length ≤ n.ents.length + 1 → PutOk m M ext 0 root (putL l x) M { n with ents := c } (∀ y ∈ l, y.1 < x.1) := by
    intro c hc hlc
    refine ⟨E, Grown.refl _, .inl ⟨rfl, hk, by rw [← hl]; exact hc⟩, by rw [hen]; exact hlc.1, by rw [hen]; exact hlc.2, by rw [hen]; exact ⟨hin.pos, hin.le⟩, by omega, ?_, fun F hF q hq hc => ?_, fun s hs => ?_, fun has => ?_⟩
    ·have := hin.le
     show M.sum + c.length ≤ _
     omega
    ·obtain ⟨y, hy, he⟩ := hF q hq hc
     exact ⟨y, List.mem_append_right _ hy, he⟩
    ·rcases hs with ⟨_, hs⟩ | ⟨h0, _⟩
     ·have hee : M.ents root.toNat = n.ents := by unfold SM.ents; rw [hna]
      rw [hee] at hs
      exact .inl ⟨rfl, by show c.length ≤ _; omega⟩
     ·exact absurd h0 (Nat.lt_irrefl 0)
    ·have hee : M.ents root.toNat = n.ents := by unfold SM.ents; rw [hna]
     unfold spine spineN
     rw [hee, if_pos rfl, if_pos rfl]
     show [c.length] = [n.ents.length + 1]
     rw [hc, putL_end (by rw [hl]; exact has), List.length_append, List.length_singleton]
   by_cases hy : 0 ≤ atI n.ents x.1 ∧ (n.ents.getD (atI n.ents x.1).toNat (0, 0)).1 = x.1
   ·rw [if_pos hy] at hp ⊢
    exact .inl ⟨rfl, fin _ hp (hlen _ _ _ rfl (by omega) (.inr rfl))⟩
   ·rw [if_neg hy] at hp ⊢
    exact .inl ⟨rfl, fin _ hp (hlen _ _ _ rfl (by omega) (.inl rfl))⟩
  ·omega
 | succ h ih =>
  intro d M l root hd E t g hx
  obtain ⟨n, hn, hna, hok, k⟩ := tnode_tr t (d := d) (by omega)
  have hin := innerOk_of hok (by have := k.kind; omega)
  have ge := k.good g
  rw [show 9 - d = (8 - d) + 1 by omega, putF_succ, show 8 - (8 - d) = d by omega, hn]
  dsimp only
  rcases k with ⟨h0, _⟩ | ⟨_, hk, hK⟩
  ·omega
  ·rw [if_pos rfl, if_pos hk]
   have hb := atI_bound (l := n.ents) x.1
   obtain ⟨c, hc⟩ := Int.eq_ofNat_of_zero_le (show 0 ≤ atI n.ents x.1 + 1 by omega)
   obtain ⟨hcl, hc1, hc2⟩ := atI_cut ge.1 x.1 hc.symm
   obtain ⟨i, hi⟩ : ∃ i, (atI n.ents x.1).toNat = i := ⟨_, rfl⟩
   have hic : i = c - 1 := by omega
   have hil : i < n.ents.length := by have := hin.pos; omega
   rw [hi]
   have hg : n.ents.getD i (0, 0) = n.ents[i] := by simp [List.getD, List.getElem?_eq_getElem hil]
   have hes : n.ents = n.ents.take i ++ n.ents[i] :: n.ents.drop (i + 1) := by rw [← List.drop_eq_getElem_cons hil, List.take_append_drop]
   rw [hg]
   obtain ⟨e, he⟩ : ∃ e, n.ents[i] = e := ⟨_, rfl⟩
   obtain ⟨es1, he1⟩ : ∃ es1, n.ents.take i = es1 := ⟨_, rfl⟩
   obtain ⟨es2, he2⟩ : ∃ es2, n.ents.drop (i + 1) = es2 := ⟨_, rfl⟩
   have hl1 : es1.length = i := by rw [← he1, List.length_take]; omega
   have hl2 : es2.length = n.ents.length - (i + 1) := by rw [← he2, List.length_drop]
   have hee1 : 0 < c → e.1 ≤ x.1 := fun h0 => hc1 e (by rw [← he, List.mem_take_iff_getElem]; exact ⟨i, by omega, rfl⟩)
   have hee2 : ∀ f ∈ es2, x.1 < f.1 := fun f hf => hc2 f (by
    rw [← he2] at hf
    by_cases h0 : c = 0
    ·rw [h0, List.drop_zero]; exact List.mem_of_mem_drop hf
    ·rw [show c = i + 1 by omega]; exact hf)
   rw [he, he1, he2] at hes ⊢
   rw [hes] at hK
   obtain ⟨a, b, hab, hK1, s, tt, y, hst, hT, hy, hye, hK2⟩ := hK.cut
   subst hab hst
   have ga : ∀ z ∈ a, z.1 < x.1 := fun z hz => by
    by_cases h0 : c = 0
    ·have : es1 = [] := List.eq_nil_of_length_eq_zero (by omega)
     rw [this] at hK1
     rw [show a = [] from hK1] at hz
     cases hz
    ·have h1 := hee1 (by omega)
     have hys : y ∈ s ++ tt := List.mem_append_left _ (List.mem_of_mem_head? (by rw [hy]; rfl))
     have := (List.pairwise_append.1 g.1).2.2 z hz y hys
     omega
   have gt : ∀ z ∈ tt, x.1 < z.1 := fun z hz => by
    cases es2 with
    | nil => rw [show tt = [] from hK2] at hz; cases hz
    | cons f es2 =>
     obtain ⟨u, hu, hue⟩ := hK2.head
     have h1 := hee2 f (List.mem_cons_self ..)
     have h2 := head_le g.right.right.1 hu z hz
     omega
   have hput : putL (a ++ (s ++ tt)) x = a ++ putL s x ++ tt := by rw [← List.append_assoc]; exact putL_mid ga gt
   rw [hput]
   have gs : Good M s := g.right.left
   have hr := ih (d + 1) M s e.2 (by omega) E hT.1 gs hx
   rw [show 9 - (d + 1) = 8 - d by omega] at hr
   obtain ⟨R, hR⟩ : ∃ R, SM.putF (8 - d) M e.2 x = R := ⟨_, rfl⟩
   rw [hR] at hr ⊢
   obtain ⟨M1, n1, er⟩ := R
   dsimp only at hr ⊢
   rcases hr with ⟨rfl, P⟩ | ⟨rfl, hf⟩ | ⟨rfl, hf⟩
   ·rw [if_pos rfl]
    have hen := P.entN
    have hlo := P.lo
    have hhi := P.hi
    have gs' : Good M1 (putL s x) := (gs.put x0 x1 hx).grown P.grown
    have hsp := split_ok P.exact P.tr gs' (by omega) (by omega)
    obtain ⟨R, hR2⟩ : ∃ R, M1.split n1 = R := ⟨_, rfl⟩
    rw [hR2] at hsp ⊢
    obtain ⟨M2, out, er⟩ := R
    dsimp only at hsp ⊢
    have a1 := P.free
    have a2 := P.sum
    rcases hsp with ⟨rfl, S⟩ | ⟨rfl, hf⟩ | ⟨rfl, hf⟩
    ·rw [if_pos rfl]
     have G := P.grown.trans S.grown
     have b1 := S.free
     have b2 := S.sum
     have b3 := S.len
     have hen2 := entN_of hna
     have hn6 := hin.le
     have hn1 := hin.pos
     have hlen : (es1 ++ out ++ es2).length + 1 = n.ents.length + out.length := by simp only [List.length_append]; omega
     have ho : 1 ≤ out.length ∧ out.length ≤ 2 := by split at b3 <;> omega
     refine .inl ⟨rfl, ⟨S.exact, G, .inr ⟨by omega, hk, ?_⟩, ?_, ?_, ?_, ?_, ?_, fun F hF => ?_, fun s0 hs0 => ?_, fun has => ?_⟩⟩
     ·refine Kids.append (Kids.append (hK1.mono fun f _ z hz => Sub.grown G hz) (S.kids hm ?_)) (hK2.mono fun f _ z hz => Sub.grown G hz)
      have := hT.2
      omega
     ·rw [hen2]; show _ ≤ (es1 ++ out ++ es2).length; omega
     ·rw [hen2]; show (es1 ++ out ++ es2).length ≤ _; omega
     ·rw [hen2]; exact ⟨hn1, hn6⟩
     ·show _ ≤ M2.pool.freeCount + _; omega
     ·show M2.sum + (es1 ++ out ++ es2).length ≤ _; omega
     ·have := S.loose _ (P.loose _ hF)
      intro q hq hc
      obtain ⟨z, hz, hze⟩ := this q hq hc
      refine ⟨z, ?_, hze⟩
      show z ∈ es1 ++ out ++ es2 ++ F
      rcases List.mem_append.1 hz with hz | hz
      ·exact List.mem_append_right _ hz
      ·exact List.mem_append_left _ (List.mem_append_left _ (List.mem_append_right _ hz))
     ·have hee : M.ents root.toNat = n.ents := by unfold SM.ents; rw [hna]
      rcases hs0 with ⟨h0, _⟩ | ⟨_, hs0⟩
      ·omega
      ·rw [hee, hes] at hs0
       obtain ⟨t0, u0, h0, k1, t2, u2, h2, ke, k3⟩ := hs0.cut
       have kN := P.led t2 ke.2
       obtain ⟨s1, s2⟩ := S.led _ kN
       have ko : KidsL (LedS M2 (h + 1)) out (t2 + 1) := by
        by_cases h6 : n1.ents.length ≤ 6
        ·obtain ⟨kk, ii, ho2, _⟩ := S.one h6
         have := s1 h6
         rw [ho2] at this ⊢
         exact ⟨t2 + 1, 0, Nat.le_refl _, ⟨Nat.le_succ_of_le ke.1, this _ (List.mem_cons_self ..)⟩, trivial⟩
        ·exact s2 (by omega)
       refine .inr ⟨by omega, KidsL.weak (KidsL.append (KidsL.append (k1.grown G hK1) ko) (k3.grown G hK2)) (by omega)⟩
     ·have hee : M.ents root.toNat = n.ents := by unfold SM.ents; rw [hna]
      have hes2 : es2 = [] := by
       cases es2 with
       | nil => rfl
       | cons f es2 =>
        obtain ⟨u, hu, hue⟩ := hK2.head
        have h1 := hee2 f (List.mem_cons_self ..)
        have h2 := has u (List.mem_append_right _ (List.mem_append_right _ (List.mem_of_mem_head? (by rw [hu]; rfl))))
        omega
      obtain ⟨o, ho1, ho2⟩ := S.last
      have hP := P.asc (fun y hy => has y (List.mem_append_right _ (List.mem_append_left _ hy)))
      have hsub : spine M (h + 1) e.2 = spineN M h (M.ents e.2.toNat) := rfl
      have hlast : (es1 ++ out ++ es2).getLastD (0, 0) = o := by rw [hes2, List.append_nil, List.getLastD_eq_getLast?, List.getLast?_append, ho1]; rfl
      have hlastn : n.ents.getLastD (0, 0) = e := by rw [hes, hes2]; exact lastD_append es1 e
      have goal1 : spineN M2 (h + 1) (es1 ++ out ++ es2) = (es1 ++ out ++ es2).length :: spineN M2 h (M2.ents o.2.toNat) := by
       unfold spineN
       rw [if_neg (by omega), hlast]
       rfl
      have goal2 : spine M (h + 1 + 1) root = n.ents.length :: spineN M h (M.ents e.2.toNat) := by
       rw [spine_succ, hee]
       unfold spineN
       rw [if_neg (by omega), hlastn]
       rfl
      show spineN M2 (h + 1) (es1 ++ out ++ es2) = _
      rw [goal1, goal2, ho2]
      rw [hsub] at hP
      have hb : bumpF (n.ents.length :: spineN M h (M.ents e.2.toNat)) = if (spineN M1 h n1.ents).headD 0 = 7 then (n.ents.length + 1) :: 4 :: (spineN M1 h n1.ents).tail else n.ents.length :: spineN M1 h n1.ents := by
       rw [hP]; rfl
      rw [hb]
      have hhead : (spineN M1 h n1.ents).headD 0 = n1.ents.length := rfl
      rw [hhead]
      by_cases h6 : 6 < n1.ents.length
      ·have h7 : n1.ents.length = 7 := by omega
       rw [if_pos h6] at b3
       rw [if_pos h6, if_pos h7, h7, spineN_drop S.grown P.tr h7, show (es1 ++ out ++ es2).length = n.ents.length + 1 by omega]
      ·rw [if_neg h6] at b3
       rw [if_neg h6, if_neg (by omega), List.drop_zero, spineN_grown S.grown P.tr (by omega), show (es1 ++ out ++ es2).length = n.ents.length by omega]
    ·rw [if_neg (by decide)]
     exact .inr (.inl ⟨rfl, by split at hf <;> omega⟩)
    ·rw [if_neg (by decide)]
     obtain ⟨c, hf⟩ := hf
     have hg := P.grown.refs c
     exact .inr (.inr ⟨rfl, c, by omega⟩)
   ·rw [if_neg (by decide)]
    exact .inr (.inl ⟨rfl, by omega⟩)
   ·rw [if_neg (by decide)]
    obtain ⟨c, hf⟩ := hf
    exact .inr (.inr ⟨rfl, c, by omega⟩)

structure TopOk (m : Nat) (M : SM) (ext : Nat → Nat) (h : Nat) (l : List (Int × Int)) (a b : Nat) (M' : SM) (p : Int) (Q : Nat → Prop) (Sp : List Nat → Prop) : Prop where
 exact : Exact M' ext
 grown : Grown M M'
 tr : ∃ h', Tr m M' h' p l ∧ h' ≤ h + 2
 free : M.pool.freeCount ≤ M'.pool.freeCount + a
 sum : M'.sum ≤ M.sum + b
 zero : M'.pool.cnt p.toNat = 0
 loose : ∀ F, F = [] → Loose M' (F ++ [((0 : Int), p)])
 led : ∀ s, Q s → ∃ h', Tr m M' h' p l ∧ h' ≤ h + 2 ∧ Led M' h' p s
 asc : ∀ sp, Sp sp → ∃ h', Tr m M' h' p l ∧ spine M' h' p = topS sp

theorem top_ok {m : Nat} (hm : m ≤ 3) {M : SM} {ext : Nat → Nat} (E : Exact M ext) {h : Nat} {n : NM} {l : List (Int × Int)} (t : NTr (Sub m M h) h n l) (g : Good M l) (h1 : 1 ≤ n.ents.length) (h12 : n.ents.length ≤ 12) (hl : Loose M n.ents) :
  ((M.top n).2.2 = 0 ∧ TopOk m M ext h l 3 (n.ents.length + 2) (M.top n).1 (M.top n).2.1 (LedN M h n.ents) (fun sp => spineN M h n.ents = sp ∧ n.ents.length ≤ 7)) ∨ ((M.top n).2.1 = -1 ∧ (M.top n).2.2 = 71 ∧ M.pool.freeCount < 3) ∨ ((M.top n).2.1 = -1 ∧ (M.top n).2.2 = 72 ∧ ∃ c, 255 < M.refs c + n.ents.length + 2 + ext c) := by
 unfold SM.top
 dsimp only
 have hsp := split_ok E t g h1 h12
 obtain ⟨R, hR⟩ : ∃ R, M.split n = R := ⟨_, rfl⟩
 rw [hR] at hsp ⊢
 obtain ⟨M1, out, er⟩ := R
 dsimp only at hsp ⊢
 rcases hsp with ⟨rfl, S⟩ | ⟨rfl, hf⟩ | ⟨rfl, hf⟩
 ·rw [if_pos rfl]
  have b1 := S.free
  have b2 := S.sum
  have b3 := S.len
  by_cases h6 : n.ents.length ≤ 6
  ·rw [if_neg (by omega)] at b3
   rw [if_neg (by omega), if_neg (by omega)]
   obtain ⟨k, i, ho, hT, hz, _⟩ := S.one h6
   rw [ho]
   refine .inl ⟨rfl, ⟨S.exact, S.grown, ⟨h + 1, hT, by omega⟩, by show _ ≤ M1.pool.freeCount + _; omega, by show M1.sum ≤ _; omega, ?_, fun F hF => ?_, fun s hs => ⟨h + 1, hT, by omega, by have := (S.led s hs).1 h6; rw [ho] at this; exact this _ (List.mem_cons_self ..)⟩, fun sp hsp => ⟨h + 1, hT, ?_⟩⟩⟩
   ·show M1.pool.cnt (Int.toNat (i : Int)) = 0
    rw [Int.toNat_natCast]; exact hz
   ·subst hF
    have := S.loose [] (by rw [List.append_nil]; exact hl)
    rw [ho] at this
    intro q hq hc
    obtain ⟨y, hy, he⟩ := this q hq hc
    simp at hy
    exact ⟨_, List.mem_singleton.2 rfl, by rw [hy] at he; exact he⟩
   ·obtain ⟨o, ho1, ho2⟩ := S.last
    obtain rfl : o = (k, (i : Int)) := by rw [ho] at ho1; simpa using ho1.symm
    rw [if_neg (by omega), List.drop_zero] at ho2
    show spineN M1 h (M1.ents (Int.toNat (i : Int))) = _
    rw [ho2, spineN_grown S.grown t h1, hsp.1]
    unfold topS
    rw [← hsp.1]
    exact (if_neg (show ¬ n.ents.length = 7 by omega)).symm
  ·rw [if_pos (by omega)] at b3
   rw [if_pos (by omega)]
   have hK := S.kids hm (by omega)
   have g1 := g.grown S.grown
   have t2 : NTr (Sub m M1 (h + 1)) (h + 1) ⟨3, List.replicate 16 0, out⟩ l := .inr ⟨by omega, rfl, hK⟩
   have hsp2 := split_ok S.exact t2 g1 (by show 1 ≤ out.length; omega) (by show out.length ≤ 12; omega)
   obtain ⟨R, hR⟩ : ∃ R, M1.split ⟨3, List.replicate 16 0, out⟩ = R := ⟨_, rfl⟩
   rw [hR] at hsp2 ⊢
   obtain ⟨M2, out2, er⟩ := R
   dsimp only at hsp2 ⊢
   rcases hsp2 with ⟨rfl, S2⟩ | ⟨rfl, hf⟩ | ⟨rfl, hf⟩
   ·rw [if_pos rfl]
    have c1 := S2.free
    have c2 := S2.sum
    have c3 := S2.len
    dsimp only at c2 c3
    rw [if_neg (by omega)] at c3
    rw [if_neg (by omega)]
    obtain ⟨k, i, ho, hT, hz, _⟩ := S2.one (by show out.length ≤ 6; omega)
    rw [ho]
    refine .inl ⟨rfl, ⟨S2.exact, S.grown.trans S2.grown, ⟨h + 2, hT, Nat.le_refl _⟩, by show _ ≤ M2.pool.freeCount + _; omega, by show M2.sum ≤ _; omega, ?_, fun F hF => ?_, fun s hs => ⟨h + 2, hT, Nat.le_refl _, by have := (S2.led s (.inr ⟨by omega, (S.led s hs).2 (by omega)⟩)).1 (by show out.length ≤ 6; omega); rw [ho] at this; exact this _ (List.mem_cons_self ..)⟩, fun sp hsp => ⟨h + 2, hT, ?_⟩⟩⟩
    ·show M2.pool.cnt (Int.toNat (i : Int)) = 0
     rw [Int.toNat_natCast]; exact hz
    ·subst hF
     have h3 := S.loose [] (by rw [List.append_nil]; exact hl)
     have := S2.loose [] (by rw [List.append_nil]; exact h3)
     rw [ho] at this
     intro q hq hc
     obtain ⟨y, hy, he⟩ := this q hq hc
     simp at hy
     exact ⟨_, List.mem_singleton.2 rfl, by rw [hy] at he; exact he⟩
    ·obtain ⟨o, ho1, ho2⟩ := S2.last
     obtain rfl : o = (k, (i : Int)) := by rw [ho] at ho1; simpa using ho1.symm
     rw [if_neg (show ¬ 6 < out.length by omega), List.drop_zero] at ho2
     obtain ⟨o', ho3, ho4⟩ := S.last
     have h7 : n.ents.length = 7 := by have := hsp.2; omega
     rw [if_pos (by omega), h7] at ho4
     have hlast : out.getLastD (0, 0) = o' := by rw [List.getLastD_eq_getLast?, ho3]; rfl
     obtain ⟨a, ha, _⟩ := hK.each o' (List.mem_of_getLast? ho3)
     have e1 : spine M2 (h + 1 + 1) (i : Int) = out.length :: spine M2 (h + 1) o'.2 := by
      rw [spine_succ, ho2]
      unfold spineN
      rw [if_neg (by omega), hlast]
     show spine M2 (h + 1 + 1) (i : Int) = topS sp
     rw [e1, spine_grown S2.grown ha.1, spine_succ, ho4, show 7 / 2 = 3 from rfl, spineN_drop S.grown t h7, hsp.1]
     have hh : sp.headD 0 = 7 := by rw [← hsp.1]; exact h7
     unfold topS
     rw [if_pos hh]
     rw [show out.length = 2 by omega]
   ·rw [if_neg (by decide)]
    exact .inr (.inl ⟨rfl, rfl, by rw [if_neg (by show ¬ 6 < out.length; omega)] at hf; omega⟩)
   ·rw [if_neg (by decide)]
    obtain ⟨c, hc⟩ := hf
    have hg := S.grown.refs c
    exact .inr (.inr ⟨rfl, rfl, c, by omega⟩)
 ·rw [if_neg (by decide)]
  exact .inr (.inl ⟨rfl, rfl, by split at hf <;> omega⟩)
 ·rw [if_neg (by decide)]
  obtain ⟨c, hc⟩ := hf
  exact .inr (.inr ⟨rfl, rfl, c, by omega⟩)

def Rooted (m : Nat) (M : SM) (root : Int) (l : List (Int × Int)) (h : Nat) : Prop := (root = -1 ∧ l = [] ∧ h = 0) ∨ Tr m M h root l
theorem put_ok {m : Nat} (hm : m ≤ 3) {M : SM} {ext : Nat → Nat} (E : Exact M ext) {h : Nat} {root key page : Int} {l : List (Int × Int)} (t : Rooted m M root l h) (h8 : h ≤ 8) (g : Good M l) (hl : Loose M []) (hx : M.pool.heldB page = true) (k0 : 0 ≤ key) (k1 : key < 64) :
  ((M.put root key page).2.2 = 0 ∧ TopOk m M ext (h - 1) (putL l (key, page)) (2 * h + 3) (7 * h + 3) (M.put root key page).1 (M.put root key page).2.1 (fun s => ∃ r, s = r + 1 ∧ (root = -1 ∨ Led M h root r)) (fun sp => (root = -1 ∧ sp = [1]) ∨ (root ≠ -1 ∧ (∀ y ∈ l, y.1 < key) ∧ sp = bumpF (spine M h root)))) ∨
   ((M.put root key page).2.1 = -1 ∧ (M.put root key page).2.2 = 71 ∧ M.pool.freeCount < 2 * h + 3) ∨ ((M.put root key page).2.1 = -1 ∧ (M.put root key page).2.2 = 72 ∧ ∃ c, 255 < M.refs c + 7 * h + 3 + ext c) := by
 unfold SM.put
 rw [if_neg (by omega)]
 rcases t with ⟨rfl, rfl, rfl⟩ | t
 ·rw [if_pos rfl]
  have t0 : NTr (Sub m M 0) 0 ⟨2, List.replicate 16 0, [(key, page)]⟩ (putL [] (key, page)) := .inl ⟨rfl, rfl, rfl⟩
  rcases top_ok hm E t0 (g.put k0 k1 hx) (by show 1 ≤ 1; omega) (by show 1 ≤ 12; omega) (fun q hq hc => by obtain ⟨y, hy, _⟩ := hl q hq hc; cases hy) with ⟨e, T⟩ | ⟨e1, e, hf⟩ | ⟨e1, e, c, hc⟩
  ·have b1 := T.free
   have b2 := T.sum
   dsimp only [List.length_cons, List.length_nil] at b2
   exact .inl ⟨e, ⟨T.exact, T.grown, T.tr, by omega, by omega, T.zero, T.loose, fun s hs => T.led s (.inl ⟨rfl, by obtain ⟨r, hr, _⟩ := hs; show 1 ≤ s; omega⟩), fun sp hsp => T.asc sp ⟨by rcases hsp with ⟨_, rfl⟩ | ⟨hne, _⟩; rfl; exact absurd rfl hne, by show 1 ≤ 7; omega⟩⟩⟩
  ·exact .inr (.inl ⟨e1, e, by omega⟩)
  ·exact .inr (.inr ⟨e1, e, c, by dsimp only [List.length_cons, List.length_nil] at hc; omega⟩)
 ·have hne : root ≠ -1 := fun e => by have := (heldB_int t.held).1; omega
  rw [if_neg hne]
  cases h with
  | zero => exact t.elim
  | succ h =>
   have hp := putF_ok hm (x := (key, page)) k0 k1 h 0 M l root (by omega) E t g hx
   rw [Nat.sub_zero] at hp
   obtain ⟨R, hR⟩ : ∃ R, SM.putF 9 M root (key, page) = R := ⟨_, rfl⟩
   rw [hR] at hp ⊢
   obtain ⟨M1, n1, er⟩ := R
   dsimp only at hp ⊢
   rcases hp with ⟨rfl, P⟩ | ⟨rfl, hf⟩ | ⟨rfl, hf⟩
   ·rw [if_pos rfl]
    have a1 := P.free
    have a2 := P.sum
    have hen := P.entN
    have hlo := P.lo
    have hhi := P.hi
    have hL := P.loose [] hl
    rw [List.append_nil] at hL
    rcases top_ok hm P.exact P.tr ((g.put k0 k1 hx).grown P.grown) (by omega) (by omega) hL with ⟨e, T⟩ | ⟨e1, e, hf⟩ | ⟨e1, e, c, hc⟩
    ·have b1 := T.free
     have b2 := T.sum
     exact .inl ⟨e, ⟨T.exact, P.grown.trans T.grown, T.tr, by omega, by omega, T.zero, T.loose, fun s hs => by
      obtain ⟨r, rfl, hr⟩ := hs
      rcases hr with hr | hr
      ·exact absurd hr hne
      ·exact T.led _ (P.led r hr), fun sp hsp => by
      rcases hsp with ⟨hr, _⟩ | ⟨_, has, rfl⟩
      ·exact absurd hr hne
      ·exact T.asc _ ⟨P.asc has, by omega⟩⟩⟩
    ·exact .inr (.inl ⟨e1, e, by omega⟩)
    ·have hg := P.grown.refs c
     exact .inr (.inr ⟨e1, e, c, by omega⟩)
   ·rw [if_neg (by decide)]
    exact .inr (.inl ⟨rfl, rfl, by omega⟩)
   ·rw [if_neg (by decide)]
    obtain ⟨c, hc⟩ := hf
    exact .inr (.inr ⟨rfl, rfl, c, by omega⟩)
def incE (ext : Nat → Nat) (i : Nat) : Nat → Nat := fun p => if p = i then ext p + 1 else ext p
theorem exact_congr {M : SM} {e f : Nat → Nat} (h : Exact M e) (hf : ∀ p, p < M.pool.size → e p = f p) : Exact M f :=
 ⟨h.size, h.cntLe, fun p hp => by rw [h.cnt p hp, hf p hp], h.node, h.kids, h.rank⟩

theorem holdE_ok {M : SM} {ext : Nat → Nat} (h : Exact M ext) {i : Nat} (hi : M.live i = true) (hc : M.pool.cnt i < 255) :
  M.hold (i : Int) = (⟨M.pool.setCnt i (M.pool.cnt i + 1), M.log⟩, 0) ∧ Exact ⟨M.pool.setCnt i (M.pool.cnt i + 1), M.log⟩ (incE ext i) ∧ (∀ p, SM.live ⟨M.pool.setCnt i (M.pool.cnt i + 1), M.log⟩ p = M.live p) := by
 have hh : M.pool.heldB (i : Int) = true := by rw [heldB_nat]; exact hi
 have hl : ∀ p, SM.live ⟨M.pool.setCnt i (M.pool.cnt i + 1), M.log⟩ p = M.live p := by
  intro p
  have H : Held M.pool [(i : Int)] (M.pool.setCnt i (M.pool.cnt i + 1)) := ⟨rfl, rfl, fun j => by
   unfold PM.setCnt
   by_cases hj : j = i
   ·subst hj; simp
   ·simp [hj]; omega⟩
  exact H.live (fun x hx => by rw [List.mem_singleton.1 hx]; exact hh) p
 have hr : ∀ p, SM.refs ⟨M.pool.setCnt i (M.pool.cnt i + 1), M.log⟩ p = M.refs p := fun p => by
  unfold SM.refs
  refine sumN_congr fun q _ => ?_
  rw [hl q]; rfl
 refine ⟨by simp [SM.hold, PM.holdTo, PM.holdErr, hh, hc], ⟨h.size, fun p => ?_, fun p hp => ?_, fun q hq => h.node q (by rw [hl] at hq; exact hq), fun q hq x hx => ?_, ?_⟩, hl⟩
 ·have := h.cntLe p
  unfold PM.setCnt
  dsimp only
  split <;> omega
 ·have h2 := h.cnt p hp
  rw [hr]
  unfold PM.setCnt incE
  dsimp only
  split
  ·subst_vars; omega
  ·exact h2
 ·rw [hl] at hq ⊢
  exact h.kids q hq x hx
 ·obtain ⟨r, hr⟩ := h.rank
  exact ⟨r, fun q hq => hr q (by rw [hl] at hq; exact hq)⟩

structure Dropped (M : SM) (ext : Nat → Nat) (M' : SM) : Prop where
 exact : Exact M' ext
 log : M'.log = M.log
 size : M'.pool.size = M.pool.size
 live : ∀ p, M'.live p = true → M.live p = true
 loose : ∀ p, M'.live p = true → M'.pool.cnt p = 0 → M.pool.cnt p = 0
theorem Dropped.trans {A B C : SM} {e f : Nat → Nat} (h : Dropped A e B) (k : Dropped B f C) : Dropped A f C :=
 ⟨k.exact, k.log.trans h.log, k.size.trans h.size, fun p hp => h.live p (k.live p hp), fun p hp hc => h.loose p (k.live p hp) (k.loose p hp hc)⟩
theorem dropF_ok : ∀ (f : Nat) (M : SM) (ext : Nat → Nat) (i : Nat), Exact M ext → M.live i = true → 0 < ext i → M.liveN < f → (SM.dropF f M (i : Int)).2 = 0 ∧ Dropped M (decE ext i) (SM.dropF f M (i : Int)).1
 | 0, _, _, _, _, _, _, hf => by omega
 | f + 1, M, ext, i, h, hi, he, hf => by
  have hh : M.pool.heldB (i : Int) = true := by rw [heldB_nat]; exact hi
  rw [dropF_succ, if_pos hh]
  simp only [Int.toNat_natCast]
  by_cases hc : M.pool.cnt i ≤ 1
  ·rw [if_pos hc]
   obtain ⟨E1, hl1, hn1⟩ := exact_gone h hi (.inl he) hc
   obtain ⟨n, hn, hok⟩ := h.node i hi
   rw [hn]
   dsimp only
   obtain ⟨M1, hM1⟩ : ∃ M1 : SM, { M with pool := M.pool.dropTo i } = M1 := ⟨_, rfl⟩
   have hlog1 : M1.log = M.log := by rw [← hM1]
   have hsz1 : M1.pool.size = M.pool.size := by rw [← hM1]; exact dropTo_size _ _
   have hcnt1 : ∀ p, M1.live p = true → M1.pool.cnt p = M.pool.cnt p := fun p hp => by
    rw [← hM1] at hp ⊢
    rw [hl1] at hp
    simp only [Bool.and_eq_true, decide_eq_true_eq] at hp
    show (M.pool.dropTo i).cnt p = _
    unfold PM.dropTo
    rw [if_neg (by omega)]
    simp [PM.setCnt, PM.setSt, hp.2]
   have hents : M.ents i = n.ents := by unfold SM.ents; rw [hn]
   rw [hents] at E1
   rw [hM1] at E1 hl1 hn1 ⊢
   have D1 : Dropped M (fun p => decE ext i p + occ n.ents p) M1 := ⟨E1, hlog1, hsz1, fun p hp => by rw [hl1] at hp; simp at hp; exact hp.1, fun p hp hc => by rw [← hcnt1 p hp]; exact hc⟩
   have key : ∀ (l : List (Int × Int)) (N : SM), (∀ x ∈ l, 0 ≤ x.2) → Dropped M (fun p => decE ext i p + occ l p) N → N.liveN < f → (∀ x ∈ l, N.live x.2.toNat = true) →
     (dropAllF f (N, 0) (l.map (·.2))).2 = 0 ∧ Dropped M (decE ext i) (dropAllF f (N, 0) (l.map (·.2))).1 := by
    intro l
    induction l with
    | nil => intro N _ D _ _; exact ⟨rfl, D⟩
    | cons x l ih =>
     intro N hx D hN hlv
     have hx0 := hx x (List.mem_cons_self ..)
     obtain ⟨c, hc⟩ := Int.eq_ofNat_of_zero_le hx0
     have hcl := hlv x (List.mem_cons_self ..)
     rw [hc, Int.toNat_natCast] at hcl
     have hocc : ∀ p, occ (x :: l) p = occ l p + (if p = c then 1 else 0) := fun p => by
      unfold occ
      rw [List.countP_cons, hc]
      by_cases e : p = c
      ·subst e; simp
      ·have : ¬ ((c : Int) == (p : Int)) = true := by simp; omega
       rw [if_neg this, if_neg e]
     have hext : 0 < decE ext i c + occ (x :: l) c := by rw [hocc, if_pos rfl]; omega
     obtain ⟨r1, r2⟩ := dropF_ok f N _ c D.exact hcl hext hN
     have hfold : dropAllF f (N, 0) ((x :: l).map (·.2)) = dropAllF f (SM.dropF f N (c : Int)) (l.map (·.2)) := by
      unfold dropAllF
      rw [List.map_cons, List.foldl_cons, hc, if_pos rfl]
     rw [hfold]
     obtain ⟨R, hR⟩ : ∃ R, SM.dropF f N (c : Int) = R := ⟨_, rfl⟩
     rw [hR] at r1 r2 ⊢
     obtain ⟨N2, er⟩ := R
     dsimp only at r1 r2
     subst r1
     have D2 : Dropped M (fun p => decE ext i p + occ l p) N2 := by
      have := D.trans r2
      exact ⟨exact_congr this.exact (fun p _ => by
       have h2 := hocc p
       show (if p = c then decE ext i p + occ (x :: l) p - 1 else decE ext i p + occ (x :: l) p) = decE ext i p + occ l p
       by_cases e : p = c
       ·rw [if_pos e] at h2 ⊢; omega
       ·rw [if_neg e] at h2 ⊢; omega), this.log, this.size, this.live, this.loose⟩
     refine ih N2 (fun y hy => hx y (List.mem_cons_of_mem _ hy)) D2 (Nat.lt_of_le_of_lt (liveN_mono r2.size r2.live) hN) (fun y hy => ?_)
     have hy0 := hx y (List.mem_cons_of_mem _ hy)
     have hp : 0 < N2.pool.cnt y.2.toNat := by
      have hlt : y.2.toNat < N2.pool.size := by
       have := live_lt (hlv y (List.mem_cons_of_mem _ hy))
       have := r2.size
       omega
      rw [D2.exact.cnt _ hlt]
      have := occ_pos hy hy0
      omega
     have hlt : y.2.toNat < N2.pool.size := by
      have := live_lt (hlv y (List.mem_cons_of_mem _ hy))
      have := r2.size
      omega
     unfold SM.live PM.live
     simp [hlt, hp]
   refine key n.ents M1 (fun x hx => (hok.entry hx).2.2.1) D1 (by omega) (fun x hx => ?_)
   rw [hl1]
   have hx' : x ∈ M.ents i := by rw [hents]; exact hx
   have h1 := h.kids i hi x hx'
   obtain ⟨r, hr⟩ := h.rank
   have h2 := hr i hi x hx'
   have h3 : x.2.toNat ≠ i := fun e => by rw [e] at h2; omega
   simp [h1, h3]
  ·rw [if_neg hc]
   obtain ⟨E1, hl1⟩ := exact_less h hi he (by omega)
   refine ⟨rfl, E1, rfl, dropTo_size _ _, fun p hp => by rw [hl1] at hp; exact hp, fun p hp h0 => ?_⟩
   have : (M.pool.dropTo i).cnt p = 0 := h0
   unfold PM.dropTo at this
   rw [if_pos (by omega)] at this
   unfold PM.setCnt at this
   dsimp only at this
   split at this
   ·omega
   ·exact this

def swapE (ext : Nat → Nat) (old next : Int) : Nat → Nat := fun p => ext p + (if (p : Int) = next then 1 else 0) - (if (p : Int) = old then 1 else 0)
theorem drop_ok {M : SM} {ext : Nat → Nat} (h : Exact M ext) {i : Nat} (hi : M.live i = true) (he : 0 < ext i) : (M.drop (i : Int)).2 = 0 ∧ Dropped M (decE ext i) (M.drop (i : Int)).1 :=
 dropF_ok 241 M ext i h hi he (by have := M.liveN_le; have := h.size; omega)
theorem swap_ok {M : SM} {ext : Nat → Nat} (h : Exact M ext) {old next : Int} (hn : next = -1 ∨ (M.pool.heldB next = true ∧ M.pool.cnt next.toNat < 255)) (ho : old = -1 ∨ (M.pool.heldB old = true ∧ 0 < ext old.toNat)) :
  (M.swap old next).2 = 0 ∧ Exact (M.swap old next).1 (swapE ext old next) ∧ (M.swap old next).1.log = M.log ∧ (M.swap old next).1.pool.size = M.pool.size ∧ (∀ p, (M.swap old next).1.live p = true → M.live p = true) ∧
   (∀ p, (M.swap old next).1.live p = true → (M.swap old next).1.pool.cnt p = 0 → M.pool.cnt p = 0 ∧ (p : Int) ≠ next) := by
 have h1 : ∃ M1 : SM, (if next = -1 then (M, 0) else M.hold next) = (M1, 0) ∧ Exact M1 (fun p => ext p + if (p : Int) = next then 1 else 0) ∧ M1.log = M.log ∧ M1.pool.size = M.pool.size ∧ (∀ p, M1.live p = M.live p) ∧ (∀ p, M1.pool.cnt p = 0 → M.pool.cnt p = 0 ∧ (p : Int) ≠ next) := by
  rcases hn with rfl | ⟨hh, hc⟩
  ·exact ⟨M, rfl, exact_congr h (fun p _ => by rw [if_neg (by omega)]; rfl), rfl, rfl, fun _ => rfl, fun p hp => ⟨hp, by omega⟩⟩
  ·obtain ⟨h0, hl⟩ := heldB_int hh
   obtain ⟨k, rfl⟩ := Int.eq_ofNat_of_zero_le h0
   simp only [Int.toNat_natCast] at hl hc
   obtain ⟨e1, e2, e3⟩ := holdE_ok h hl hc
   refine ⟨_, by rw [if_neg (by omega)]; exact e1, exact_congr e2 (fun p _ => ?_), rfl, rfl, e3, fun p hp => ?_⟩
   ·unfold incE
    by_cases e : p = k
    ·subst e; simp
    ·rw [if_neg e, if_neg (by omega)]; rfl
   ·have hp' : (if p = k then M.pool.cnt k + 1 else M.pool.cnt p) = 0 := hp
    split at hp'
    ·omega
    ·exact ⟨hp', by omega⟩
 obtain ⟨M1, e1, E1, hlog, hsz, hlv, hlo⟩ := h1
 have hs : M.swap old next = if old = -1 then (M1, 0) else M1.drop old := by
  unfold SM.swap
  rw [e1]
  dsimp only
  rw [if_pos rfl]
 rw [hs]
 rcases ho with rfl | ⟨hh, he⟩
 ·rw [if_pos rfl]
  exact ⟨rfl, exact_congr E1 (fun p _ => by unfold swapE; rw [if_neg (show ¬ (p : Int) = -1 by omega)]; rfl), hlog, hsz, fun p hp => by rw [← hlv]; exact hp, fun p _ hc => hlo p hc⟩
 ·obtain ⟨h0, hl⟩ := heldB_int hh
  obtain ⟨k, rfl⟩ := Int.eq_ofNat_of_zero_le h0
  simp only [Int.toNat_natCast] at hl he
  rw [if_neg (by omega)]
  obtain ⟨r1, D⟩ := drop_ok E1 (i := k) (by rw [hlv]; exact hl) (by omega)
  refine ⟨r1, exact_congr D.exact (fun p _ => ?_), D.log.trans hlog, D.size.trans hsz, fun p hp => by rw [← hlv]; exact D.live p hp, fun p hp hc => hlo p (D.loose p hp hc)⟩
  unfold decE swapE
  by_cases e : p = k
  ·subst e; rw [if_pos rfl, if_pos rfl]
  ·rw [if_neg e, if_neg (show ¬ (p : Int) = (k : Int) by omega)]; rfl
set_option maxRecDepth 100000

set_option maxHeartbeats 4000000 in
theorem treeTop {w : World} {A : SA} {M : SM} (h : StoreAt w A M) {n : NM} {sv : Value} (hv : EntsOff w A sv n.ents) (hfew : M.log.length + 4 < 100000000) :
  Calls Try.prog 32 #[.agg #[.pointer (some ⟨A.sb, 0, none⟩)], .agg (nodeCells n sv).toArray] w fun e w' => ∃ A', e = .returned (.tuple #[.int .i64 (M.top n).2.1, .int .i64 (M.top n).2.2]) ∧ StoreTo A A' (M.top n).1 w w' := by
 obtain ⟨cs, hcs⟩ : ∃ cs, nodeCells n sv = cs := ⟨_, rfl⟩
 obtain ⟨w1, hw1⟩ : ∃ w1, w.alloc (.cells #[.pointer (some ⟨A.sb, 0, none⟩)] 27) = w1 := ⟨_, rfl⟩
 obtain ⟨w2, hw2⟩ : ∃ w2, w1.alloc (.cells cs.toArray 71) = w2 := ⟨_, rfl⟩
 have k1 : Kept (fun _ => False) w w1 := by rw [← hw1]; exact (Kept.refl _ _).alloc _
 have k2 : Kept (fun _ => False) w1 w2 := by rw [← hw2]; exact (Kept.refl _ _).alloc _
 have s1 : w1.heap.size = w.heap.size + 1 := by rw [← hw1]; simp
 have s2 : w2.heap.size = w.heap.size + 2 := by rw [← hw2]; simp [s1]
 have t1 : w1.heap[w.heap.size]? = some (.cells #[.pointer (some ⟨A.sb, 0, none⟩)] 27 (0, 0)) := by rw [← hw1]; exact heap_alloc_new _ _
 have t2 := k2.get t1 id
 have b2 : w2.heap[w.heap.size + 1]? = some (.cells cs.toArray 71 (0, 0)) := by rw [← hw2, ← s1]; exact heap_alloc_new _ _
 have st2 : Safe w2 A w.heap.size := Safe.new h (Nat.le_refl _) (by omega)
 have hT2 := h_ ((StoreTo.refl h).fresh (k1.trans k2))
 have hcl : Hid (cs.length = 18) := h_ (by rw [← hcs]; exact nodeCells_len _ _)
 have hload : Hid (∀ j v, [Value.pointer (some ⟨A.sb, 0, none⟩)][j]? = some v → w2.cell? ⟨w.heap.size, 0 + j, none⟩ = some v) := h_ (fun j v hj => by rw [Nat.zero_add, cell_of_heap t2]; simpa using hj)
 have hloadn : Hid (∀ j v, cs[j]? = some v → w2.cell? ⟨w.heap.size + 1, 0 + j, none⟩ = some v) := h_ (fun j v hj => by rw [Nat.zero_add, cell_of_heap b2]; simpa using hj)
 have hsp := treeSplit (h.fresh (k1.trans k2)) (hv.fresh (k1.trans k2)) (by omega)
 rw [hcs] at hsp
 have hbd := split_bound M n
 have htop : Hid (M.top n = if (M.split n).2.2 = 0 then (if 1 < (M.split n).2.1.length then (if ((M.split n).1.split ⟨3, zeros16, (M.split n).2.1⟩).2.2 = 0 then (((M.split n).1.split ⟨3, zeros16, (M.split n).2.1⟩).1, if ((M.split n).1.split ⟨3, zeros16, (M.split n).2.1⟩).2.1.length = 0 then -1 else (((M.split n).1.split ⟨3, zeros16, (M.split n).2.1⟩).2.1.getD 0 (0, 0)).2, 0) else (((M.split n).1.split ⟨3, zeros16, (M.split n).2.1⟩).1, -1, ((M.split n).1.split ⟨3, zeros16, (M.split n).2.1⟩).2.2)) else ((M.split n).1, if (M.split n).2.1.length = 0 then -1 else ((M.split n).2.1.getD 0 (0, 0)).2, 0)) else ((M.split n).1, -1, (M.split n).2.2)) := h_ rfl
 obtain ⟨R, hR⟩ : ∃ R, M.split n = R := ⟨_, rfl⟩
 rw [hR] at hsp hbd htop
 obtain ⟨M1, out, er⟩ := R
 dsimp only at hsp hbd htop
 have hsp' := h_ hsp
 have hw1' := h_ hw1
 have hw2' := h_ hw2
 have s1' := h_ s1
 have t2' := h_ t2
 have st2' := h_ st2
 obtain ⟨hbd1, hbd2⟩ := hbd
 rw [hcs]
 clear hcs hw1 hw2 k1 k2 s1 s2 t1 t2 b2 st2 h hv hsp hR
 go_enter Try.func32, Try.ntmps32
 go_wp2_with (first | (refine wpList_box_named 27 rfl rfl _ rfl hw1'.out ?_) | (refine wpList_box_named 71 rfl rfl _ rfl hw2'.out ?_; rw [s1'.out]) | (refine wpList_load_agg 27 rfl rfl rfl _ Try.underlying27 rfl [.pointer (some ⟨A.sb, 0, none⟩)] (by kernel_rfl) hload.out ?_) | (refine wpList_load_agg 71 rfl rfl rfl _ Try.underlying71 rfl cs (by rw [hcl.out]; exact node_size) hloadn.out ?_))
 refine hsp'.out.mono ?_
 rintro e w3 ⟨A3, v, rfl, hT3, hO3⟩
 obtain ⟨Av, cap, rfl, hf1, hf2⟩ := hO3.ents.at_.form
 unfold maxLen at hf2
 have t3 := h_ (hT3.get t2'.out st2'.out)
 have st3 := h_ (st2'.out.to hT3)
 have hsb3 := hT3.sb
 have hTT := h_ (hT2.out.trans hT3)
 have hO3' := h_ hO3
 clear hT3 hO3
 by_cases h0 : er = 0
 ·subst h0
  rw [if_pos rfl] at htop
  by_cases hl : 1 < out.length
  ·rw [if_pos hl] at htop
   have hsp2 := treeSplit hTT.out.store (n := ⟨3, zeros16, out⟩) hO3'.out.ents (by omega)
   have hs2 := h_ hsp2
   have hload3 : Hid (∀ j v, [Value.pointer (some ⟨A.sb, 0, none⟩)][j]? = some v → w3.cell? ⟨w.heap.size, 0 + j, none⟩ = some v) := h_ (fun j v hj => by rw [Nat.zero_add, cell_of_heap t3.out]; simpa using hj)
   obtain ⟨R, hR⟩ : ∃ R, M1.split ⟨3, zeros16, out⟩ = R := ⟨_, rfl⟩
   rw [hR] at hs2 htop
   obtain ⟨M2, out2, er2⟩ := R
   dsimp only at hs2 htop
   have hlb : decide ((1 : Int) < (out.length : Int)) = true := by rw [decide_eq_true_eq]; omega
   rw [hsb3] at hs2
   clear hsp2 hR
   go_wp2_with (first | (refine wpList_load_agg 27 rfl rfl rfl _ Try.underlying27 rfl [.pointer (some ⟨A.sb, 0, none⟩)] (by kernel_rfl) hload3.out ?_) | (refine wpList_exec rfl (exec_build 71 #[(0, .const (.int .i64 3)), (2, .tmp 23)] _ rfl (by simp [Act.eval]) (run_build_part _ _ out _ _ _)) ?_))
   refine hs2.out.mono ?_
   rintro e w4 ⟨A4, v4, rfl, hT4, hO4⟩
   obtain ⟨Av4, cap4, rfl, hg1, hg2⟩ := hO4.ents.at_.form
   unfold maxLen at hg2
   have hTT4 := h_ (hTT.out.trans hT4)
   have hO4' := h_ hO4
   clear hT4 hO4
   by_cases h02 : er2 = 0
   ·subst h02
    rw [if_pos rfl] at htop
    by_cases hl2 : out2.length = 0
    ·rw [if_pos hl2] at htop
     have hlb2 : ((out2.length : Int) == 0) = true := by simp [hl2]
     go_wp2_with fail
     go_ret2
     exact ⟨A4, by rw [htop.out]; rfl, by rw [htop.out]; exact hTT4.out⟩
    ·rw [if_neg hl2] at htop
     obtain ⟨x, hx⟩ : ∃ x, out2[0]? = some x := ⟨_, List.getElem?_eq_getElem (by omega)⟩
     obtain ⟨b, off, rfl, _, hx1, hx2⟩ := EntsAt.get hO4'.out.ents.at_ hx
     have hxd : out2.getD 0 (0, 0) = x := by simp [hx]
     rw [hxd] at htop
     rw [Nat.zero_mul, Nat.add_zero] at hx1 hx2
     have hlb2 : ((out2.length : Int) == 0) = false := by simp; exact fun e => hl2 (by simp [e])
     have hpos : 0 < out2.length := by omega
     clear hx hxd
     go_wp2_with fail
     go_ret2
     exact ⟨A4, by rw [htop.out]; rfl, by rw [htop.out]; exact hTT4.out⟩
   ·rw [if_neg h02] at htop
    have h0' : ((er2 : Int) == 0) = false := by simp; omega
    go_wp2_with fail
    go_ret2
    exact ⟨A4, by rw [htop.out]; rfl, by rw [htop.out]; exact hTT4.out⟩
  ·rw [if_neg hl] at htop
   have hlb : decide ((1 : Int) < (out.length : Int)) = false := by rw [decide_eq_false_iff_not]; omega
   by_cases hl2 : out.length = 0
   ·rw [if_pos hl2] at htop
    have hlb2 : ((out.length : Int) == 0) = true := by simp [hl2]
    go_wp2_with fail
    go_ret2
    exact ⟨A3, by rw [htop.out]; rfl, by rw [htop.out]; exact hTT.out⟩
   ·rw [if_neg hl2] at htop
    obtain ⟨x, hx⟩ : ∃ x, out[0]? = some x := ⟨_, List.getElem?_eq_getElem (by omega)⟩
    obtain ⟨b, off, rfl, _, hx1, hx2⟩ := EntsAt.get hO3'.out.ents.at_ hx
    have hxd : out.getD 0 (0, 0) = x := by simp [hx]
    rw [hxd] at htop
    rw [Nat.zero_mul, Nat.add_zero] at hx1 hx2
    have hlb2 : ((out.length : Int) == 0) = false := by simp; exact fun e => hl2 (by simp [e])
    have hpos : 0 < out.length := by omega
    clear hx hxd
    go_wp2_with fail
    go_ret2
    exact ⟨A3, by rw [htop.out]; rfl, by rw [htop.out]; exact hTT.out⟩
 ·rw [if_neg h0] at htop
  have h0' : ((er : Int) == 0) = false := by simp; omega
  go_wp2_with fail
  go_ret2
  exact ⟨A3, by rw [htop.out]; rfl, by rw [htop.out]; exact hTT.out⟩

theorem run_copy_ents (w : World) (ty : TypeId) (g o dLen dCap : Nat) (a : Addr) (sLen sCap : Nat) (cur : Array Value) (t : TypeId) (cs : List Value) (m : Nat)
  (hg : w.heap[g]? = some (.cells cur t (0, 0))) (hm : m = Nat.min sLen dLen) (hn : cs.length = m * 2)
  (hsrc : ∀ j v, cs[j]? = some v → w.cell? (a.add j) = some v) (hfit : o + cs.length ≤ cur.size) (h1 : ∀ v ∈ cs, v.oneCell' = true) :
  (Builtin.copy_ #[36, 36] ty #[.slice (some ⟨g, o, none⟩) dLen dCap, .slice (some a) sLen sCap]).run Try.prog w =
   .ok (goInt m) (w.setRow g (cur.toList.take o ++ cs ++ cur.toList.drop (o + cs.length)).toArray) := by
 have hl := run_loadCells_list (P := Try.prog) w a cs hsrc
 have hst := run_storeCells_at Try.prog g o t cs 0 cur w hg (by simpa using hfit) h1
 obtain ⟨i, z, hq, _, hi, _⟩ := elemEntry.info
 simp [Builtin.copy_, run_underlying elemEntry.ht, Builtin.lenOf, Builtin.firstCells, sizeOf, typeInfo, hq, hi, ← hm, ← hn, hl, hst]

theorem insertEnd {w : World} {base n cap g : Nat} {A : Option Addr} {l : List (Int × Int)} {x : Int × Int} (hown : w.ownsRow base 58 2 (.slice A n cap) n (entCells l)) (hg : w.heap[g]? = some (.cells #[.int .i64 x.1, .int .i64 x.2] 58 (0, 0))) (hbase : base ≤ w.heap.size) (hlen : n ≤ 1000) :
  Calls Try.prog 49 #[.slice A n cap, .int .i64 n, .slice (some ⟨g, 0, none⟩) 1 1] w fun e w' => ∃ v, e = .returned v ∧ w'.ownsRow base 58 2 v (n + 1) (entCells (l ++ [x])) ∧ Kept (fun b => (Value.slice A n cap).ownBlock = some b) w w' := by
 obtain ⟨_, _, _, hv, hc1, hc2, _⟩ := SliceAt.of_owns hown
 cases hv
 unfold maxLen at hc2
 have hown' := h_ hown
 have hsrc := h_ (SliceAt.block_new (size := 2) (ys := [.int .i64 x.1, .int .i64 x.2]) (m := 1) hg (by rfl) (by decide))
 have hst : Hid (entCells (l ++ [x]) = entCells l ++ [.int .i64 x.1, .int .i64 x.2]) := h_ (by rw [entCells_append]; rfl)
 have hA : A = none → n = 0 ∧ cap = 0 := fun e => by
  subst e
  rcases hown.2 with ⟨h1, h2⟩ | ⟨g', c', cur, h1, _⟩
  ·cases h1; exact ⟨rfl, rfl⟩
  ·cases h1
 clear hown hg
 have hb : Hid (base ≤ w.heap.size) := h_ hbase
 go_enter Try.func49, Try.ntmps49
 cases A with
 | none =>
  obtain ⟨rfl, rfl⟩ := hA rfl
  go_wp2_with (at_builtin; refine wpList_append_src rfl elemEntry (.tmp 23) (.tmp 24) rfl (by rfl) (by rfl) hown'.out hsrc.out (by intro c hc; simp at hc; rcases hc with rfl | rfl <;> rfl) (by omega) (by omega) hb.out ?_; intro v2 w2 hown2 hg2 hat2)
  obtain ⟨_, A2, cap2, rfl, _, _, _⟩ := SliceAt.of_owns hown2
  have hown3 := h_ hown2
  have hk := h_ (Kept.of_grown hg2)
  clear hown2 hg2 hat2
  go_ret
  exact ⟨_, rfl, by rw [hst.out]; exact hown3.out, hk.out⟩
 | some a =>
  obtain ⟨ab, ao, asp⟩ := a
  go_wp2_with (at_builtin; refine wpList_append_src rfl elemEntry (.tmp 23) (.tmp 24) rfl (by rfl) (by rfl) hown'.out hsrc.out (by intro c hc; simp at hc; rcases hc with rfl | rfl <;> rfl) (by omega) (by omega) hb.out ?_; intro v2 w2 hown2 hg2 hat2)
  all_goals (
   obtain ⟨_, A2, cap2, rfl, _, _, _⟩ := SliceAt.of_owns hown2
   have hown3 := h_ hown2
   have hk := h_ (Kept.of_grown hg2)
   clear hown2 hg2 hat2
   go_ret
   exact ⟨_, rfl, by rw [hst.out]; exact hown3.out, hk.out⟩)

theorem inplace_cells {cur : List Value} {l : List (Int × Int)} {x : Int × Int} {i n cap : Nat} (hn : n = l.length) (hi : i < n) (hcap : n + 1 ≤ cap) (hcl : cur.length = cap * 2) (hcur : cur.take (n * 2) = entCells l) :
  (splice (splice cur ((i + 1) * 2) (entCells (l.drop i))) (i * 2) (entCells [x])).take ((n + 1) * 2) = entCells (l.take i ++ [x] ++ l.drop i) ∧ (splice (splice cur ((i + 1) * 2) (entCells (l.drop i))) (i * 2) (entCells [x])).length = cap * 2 := by
 have h1 : cur.take (i * 2) = entCells (l.take i) := by
  have : (cur.take (n * 2)).take (i * 2) = (entCells l).take (i * 2) := by rw [hcur]
  rw [List.take_take, Nat.min_eq_left (by omega)] at this
  rw [this, show entCells l = entCells (l.take i) ++ entCells (l.drop i) by rw [← entCells_append, List.take_append_drop], List.take_left' (by rw [entCells_len, List.length_take]; omega)]
 have hd : (entCells (l.drop i)).length = (n - i) * 2 := by rw [entCells_len, List.length_drop, hn]
 have hx : (entCells [x]).length = 2 := by rw [entCells_len]; rfl
 have ht : (entCells (l.take i)).length = i * 2 := by rw [entCells_len, List.length_take]; omega
 obtain ⟨D, hD⟩ : ∃ D, entCells (l.drop i) = D := ⟨_, rfl⟩
 obtain ⟨X, hX⟩ : ∃ X, entCells [x] = X := ⟨_, rfl⟩
 obtain ⟨T, hT⟩ : ∃ T, entCells (l.take i) = T := ⟨_, rfl⟩
 rw [entCells_append, entCells_append, hD, hX, hT]
 rw [hD] at hd; rw [hX] at hx; rw [hT] at ht h1
 obtain ⟨Y, hY⟩ : ∃ Y, (cur.drop (i * 2)).take 2 = Y := ⟨_, rfl⟩
 obtain ⟨R, hR⟩ : ∃ R, cur.drop ((i + 1) * 2 + D.length) = R := ⟨_, rfl⟩
 have hYl : Y.length = 2 := by rw [← hY, List.length_take, List.length_drop]; omega
 have hRl : R.length = cap * 2 - (n + 1) * 2 := by rw [← hR, List.length_drop]; omega
 have e1 : splice cur ((i + 1) * 2) D = T ++ (Y ++ (D ++ R)) := by
  unfold splice
  rw [hR, show (i + 1) * 2 = i * 2 + 2 by omega, List.take_add, h1, hY, List.append_assoc]
 have e2 : splice (T ++ (Y ++ (D ++ R))) (i * 2) X = T ++ (X ++ (D ++ R)) := by
  unfold splice
  rw [← ht, List.take_left, hx, ← hYl, ← List.length_append, ← List.append_assoc T Y, List.drop_left]
 rw [e1, e2]
 refine ⟨?_, by simp only [List.length_append]; omega⟩
 rw [← List.append_assoc, ← List.append_assoc]
 exact List.take_left' (by simp only [List.length_append]; omega)

set_option maxHeartbeats 4000000 in
theorem pruneNode {w : World} {A : SA} {M : SM} (h : StoreAt w A M) (i : Int) (d : Nat) (hd : d ≤ 100) :
  Calls Try.prog 77 #[.agg #[.pointer (some ⟨A.sb, 0, none⟩)], .int .i64 i, .int .i64 d] w fun e w' => ∃ v, e = .returned (.tuple #[.agg (nodeCells (M.tnode i d).1 v).toArray, .int .i64 (M.tnode i d).2]) ∧
   w'.ownsRow w.heap.size 58 2 v (M.tnode i d).1.ents.length (entCells (M.tnode i d).1.ents) ∧ Kept (fun _ => False) w w' := by
 obtain ⟨Z, hZ⟩ : ∃ Z, nodeCells NM.zero (.slice none 0 0) = Z := ⟨_, rfl⟩
 obtain ⟨w1, hw1⟩ : ∃ w1, w.alloc (.cells #[.pointer (some ⟨A.sb, 0, none⟩)] 29) = w1 := ⟨_, rfl⟩
 obtain ⟨w2, hw2⟩ : ∃ w2, w1.alloc (.cells Z.toArray 71) = w2 := ⟨_, rfl⟩
 have k1 : Kept (fun _ => False) w w1 := by rw [← hw1]; exact (Kept.refl _ _).alloc _
 have k2 : Kept (fun _ => False) w1 w2 := by rw [← hw2]; exact (Kept.refl _ _).alloc _
 have s1 : w1.heap.size = w.heap.size + 1 := by rw [← hw1]; simp
 have t1 : w1.heap[w.heap.size]? = some (.cells #[.pointer (some ⟨A.sb, 0, none⟩)] 29 (0, 0)) := by rw [← hw1]; exact heap_alloc_new _ _
 have t2 := cell_of_heap (k2.get t1 id) 0
 simp at t2
 have d2 : w2.heap[w.heap.size + 1]? = some (.cells Z.toArray 71 (0, 0)) := by rw [← hw2, ← s1]; exact heap_alloc_new _ _
 have hZz : Hid ((Try.prog.info? 71).map (·.zero) = some (some (.agg Z.toArray))) := h_ (by rw [← hZ]; exact node_zero)
 have hZl : Hid (Z.length = 18) := h_ (by rw [← hZ]; exact nodeCells_len _ _)
 have hZ1 : Hid (∀ v ∈ Z, v.oneCell' = true) := h_ (by rw [← hZ]; exact nodeCells_one _ _ _ _)
 have hbz : Hid (∀ w, (Instr.build 71 #[]).run Try.prog w = .ok (.agg Z.toArray) w) := h_ (fun w => by rw [← hZ]; exact run_build _ _ _ _ (by kernel_rfl))
 have hz2 : Hid (nodeCells NM.zero (.slice none 0 0) = Z) := h_ hZ
 have hG := h_ (get_any ((h.fresh k1).fresh k2) i)
 have hT : Hid (M.tnode i d = if (M.get i).2 = 0 then (if (M.get i).1.kind = 1 ∨ 8 ≤ d then (.zero, 81) else M.get i) else (.zero, (M.get i).2)) := h_ rfl
 obtain ⟨R, hR⟩ : ∃ R, M.get i = R := ⟨_, rfl⟩
 rw [hR] at hG hT
 obtain ⟨n, er⟩ := R
 dsimp only at hG hT
 have hw1' := h_ hw1
 have hw2' := h_ hw2
 have s1' := h_ s1
 have d2' := h_ d2
 have k12 := h_ (k1.trans k2)
 clear hw1 hw2 s1 d2 k1 k2 t1 hZ h hR
 have tail : Hid (∀ (w3 : World) (v : Value), w3.ownsRow w2.heap.size 58 2 v n.ents.length (entCells n.ents) → Kept (fun _ => False) w2 w3 → ∃ Av cap, v = .slice Av n.ents.length cap) := h_ (fun w3 v ho _ => by
  obtain ⟨Av, cap, hv, _⟩ := EntsAt.form (show EntsAt w3 v n.ents from SliceAt.of_owns ho)
  exact ⟨Av, cap, hv⟩)
 by_cases h0 : er = 0
 ·subst h0
  by_cases hbad : n.kind = 1 ∨ 8 ≤ d
  ·rw [if_pos rfl, if_pos hbad] at hT
   rw [hT.out]
   by_cases hk1 : n.kind = 1
   ·clear hbad
    go_enter Try.func77, Try.ntmps77
    go_wp2_with (first | (refine wpList_box_named 29 rfl rfl _ rfl hw1'.out ?_) | (refine wpList_alloc_as 71 rfl rfl Z.toArray hZz.out ?_; rw [hw2'.out, s1'.out]))
    refine hG.out.mono ?_
    rintro e w3 ⟨v, rfl, hown, hk3⟩
    obtain ⟨Av, cap, rfl⟩ := tail.out w3 v hown hk3
    obtain ⟨F, hF⟩ : ∃ F, nodeCells n (.slice Av n.ents.length cap) = F := ⟨_, rfl⟩
    have hFl : Hid (F.length = 18) := h_ (by rw [← hF]; exact nodeCells_len _ _)
    have hF1 : Hid (∀ v ∈ F, v.oneCell' = true) := h_ (by rw [← hF]; exact nodeCells_one _ _ _ _)
    obtain ⟨w4, hw4⟩ : ∃ w4, (w3.alloc (.cells Z.toArray 71)).setRow w3.heap.size F.toArray = w4 := ⟨_, rfl⟩
    have k4 : Kept (fun _ => False) w3 w4 := by rw [← hw4]; exact ((Kept.refl _ _).alloc _).setRowNew (Nat.le_refl _) _
    have bx4 : NodeBox w4 w3.heap.size n (.slice Av n.ents.length cap) := ⟨by rw [hF, ← hw4]; exact setRow_heap _ _ _ _ _ _ (heap_alloc_new _ _)⟩
    have c0 := bx4.c0
    rw [hk1] at c0
    have f4 := h_ (show w4.heap[w3.heap.size]? = some (.cells F.toArray 71 (0, 0)) by rw [← hw4]; exact setRow_heap _ _ _ _ _ _ (heap_alloc_new _ _))
    have d4 := h_ (k4.get (hk3.get d2'.out id) id)
    have kall := h_ ((k12.out.trans hk3).trans k4)
    have hsz3 := k12.out.size
    have hown4 := h_ (ownsRow.keptOf hown k4 (fun _ _ => id))
    rw [hF]
    have hF' := h_ hF
    have hw4' := h_ hw4
    clear hown hk3 hF k4 hw4 bx4 hk1
    go_wp2_with (first | (refine wpList_alloc_as 71 rfl rfl Z.toArray hZz.out ?_) | (refine wpList_store_whole 71 rfl rfl rfl F rfl (by rw [hFl.out]; exact node_size) 71 _ (heap_alloc_new _ _) (by simp [hFl.out, hZl.out]) hF1.out ?_; rw [hw4'.out]) | (refine wpList_exec rfl (exec_build 71 #[] _ rfl (by simp) (hbz.out _)) ?_) | (refine wpList_store_whole 71 rfl rfl rfl Z rfl (by rw [hZl.out]; exact node_size) 71 _ d4.out (by simp) hZ1.out ?_) | (refine wpList_load_agg 71 rfl rfl rfl _ Try.underlying71 rfl F (by rw [hFl.out]; exact node_size) (fun j v hv => by rw [cell_of_heap f4.out, Nat.zero_add]; simpa using hv) ?_) | (refine wpList_store_whole 71 rfl rfl rfl F rfl (by rw [hFl.out]; exact node_size) 71 _ d4.out (by simp [hFl.out, hZl.out]) hF1.out ?_))
    refine bodyPost_ret (results_row_tmp rfl _ _ (w.heap.size + 1) 71 Z.toArray (0, 0) _ rfl (setRow_heap _ _ _ _ 71 (0, 0) d4.out) Try.underlying71 rfl (by simp only [List.size_toArray]; rw [hZl.out]; exact node_size)) rfl ?_
    exact ⟨.slice none 0 0, by rw [hz2.out]; rfl, World.ownsRow_nil _ _ _ _, kall.out.setRowNew (by omega) _⟩
   ·have hd8 : 8 ≤ d := by omega
    have hkk : (n.kind == 1) = false := by simpa using hk1
    have hd8' : (8 : Int) ≤ (d : Int) := by omega
    clear hbad hk1
    go_enter Try.func77, Try.ntmps77
    go_wp2_with (first | (refine wpList_box_named 29 rfl rfl _ rfl hw1'.out ?_) | (refine wpList_alloc_as 71 rfl rfl Z.toArray hZz.out ?_; rw [hw2'.out, s1'.out]))
    refine hG.out.mono ?_
    rintro e w3 ⟨v, rfl, hown, hk3⟩
    obtain ⟨Av, cap, rfl⟩ := tail.out w3 v hown hk3
    obtain ⟨F, hF⟩ : ∃ F, nodeCells n (.slice Av n.ents.length cap) = F := ⟨_, rfl⟩
    have hFl : Hid (F.length = 18) := h_ (by rw [← hF]; exact nodeCells_len _ _)
    have hF1 : Hid (∀ v ∈ F, v.oneCell' = true) := h_ (by rw [← hF]; exact nodeCells_one _ _ _ _)
    obtain ⟨w4, hw4⟩ : ∃ w4, (w3.alloc (.cells Z.toArray 71)).setRow w3.heap.size F.toArray = w4 := ⟨_, rfl⟩
    have k4 : Kept (fun _ => False) w3 w4 := by rw [← hw4]; exact ((Kept.refl _ _).alloc _).setRowNew (Nat.le_refl _) _
    have bx4 : NodeBox w4 w3.heap.size n (.slice Av n.ents.length cap) := ⟨by rw [hF, ← hw4]; exact setRow_heap _ _ _ _ _ _ (heap_alloc_new _ _)⟩
    have c0 := bx4.c0
    have f4 := h_ (show w4.heap[w3.heap.size]? = some (.cells F.toArray 71 (0, 0)) by rw [← hw4]; exact setRow_heap _ _ _ _ _ _ (heap_alloc_new _ _))
    have d4 := h_ (k4.get (hk3.get d2'.out id) id)
    have kall := h_ ((k12.out.trans hk3).trans k4)
    have hsz3 := k12.out.size
    have hown4 := h_ (ownsRow.keptOf hown k4 (fun _ _ => id))
    rw [hF]
    have hF' := h_ hF
    have hw4' := h_ hw4
    clear hown hk3 hF k4 hw4 bx4
    go_wp2_with (first | (refine wpList_alloc_as 71 rfl rfl Z.toArray hZz.out ?_) | (refine wpList_store_whole 71 rfl rfl rfl F rfl (by rw [hFl.out]; exact node_size) 71 _ (heap_alloc_new _ _) (by simp [hFl.out, hZl.out]) hF1.out ?_; rw [hw4'.out]) | (refine wpList_exec rfl (exec_build 71 #[] _ rfl (by simp) (hbz.out _)) ?_) | (refine wpList_store_whole 71 rfl rfl rfl Z rfl (by rw [hZl.out]; exact node_size) 71 _ d4.out (by simp) hZ1.out ?_) | (refine wpList_load_agg 71 rfl rfl rfl _ Try.underlying71 rfl F (by rw [hFl.out]; exact node_size) (fun j v hv => by rw [cell_of_heap f4.out, Nat.zero_add]; simpa using hv) ?_) | (refine wpList_store_whole 71 rfl rfl rfl F rfl (by rw [hFl.out]; exact node_size) 71 _ d4.out (by simp [hFl.out, hZl.out]) hF1.out ?_))
    refine bodyPost_ret (results_row_tmp rfl _ _ (w.heap.size + 1) 71 Z.toArray (0, 0) _ rfl (setRow_heap _ _ _ _ 71 (0, 0) d4.out) Try.underlying71 rfl (by simp only [List.size_toArray]; rw [hZl.out]; exact node_size)) rfl ?_
    exact ⟨.slice none 0 0, by rw [hz2.out]; rfl, World.ownsRow_nil _ _ _ _, kall.out.setRowNew (by omega) _⟩
  ·rw [if_pos rfl, if_neg hbad] at hT
   rw [hT.out]
   have hkk : (n.kind == 1) = false := by simp; omega
   have hd8 : decide (8 ≤ d) = false := by simp; omega
   have hd8' : decide ((8 : Int) ≤ (d : Int)) = false := by simp; omega
   have hd9 : (d : Int) < 8 := by omega
   clear hbad
   go_enter Try.func77, Try.ntmps77
   go_wp2_with (first | (refine wpList_box_named 29 rfl rfl _ rfl hw1'.out ?_) | (refine wpList_alloc_as 71 rfl rfl Z.toArray hZz.out ?_; rw [hw2'.out, s1'.out]))
   refine hG.out.mono ?_
   rintro e w3 ⟨v, rfl, hown, hk3⟩
   obtain ⟨Av, cap, rfl⟩ := tail.out w3 v hown hk3
   obtain ⟨F, hF⟩ : ∃ F, nodeCells n (.slice Av n.ents.length cap) = F := ⟨_, rfl⟩
   have hFl : Hid (F.length = 18) := h_ (by rw [← hF]; exact nodeCells_len _ _)
   have hF1 : Hid (∀ v ∈ F, v.oneCell' = true) := h_ (by rw [← hF]; exact nodeCells_one _ _ _ _)
   obtain ⟨w4, hw4⟩ : ∃ w4, (w3.alloc (.cells Z.toArray 71)).setRow w3.heap.size F.toArray = w4 := ⟨_, rfl⟩
   have k4 : Kept (fun _ => False) w3 w4 := by rw [← hw4]; exact ((Kept.refl _ _).alloc _).setRowNew (Nat.le_refl _) _
   have bx4 : NodeBox w4 w3.heap.size n (.slice Av n.ents.length cap) := ⟨by rw [hF, ← hw4]; exact setRow_heap _ _ _ _ _ _ (heap_alloc_new _ _)⟩
   have c0 := bx4.c0
   have f4 := h_ (show w4.heap[w3.heap.size]? = some (.cells F.toArray 71 (0, 0)) by rw [← hw4]; exact setRow_heap _ _ _ _ _ _ (heap_alloc_new _ _))
   have d4 := h_ (k4.get (hk3.get d2'.out id) id)
   have kall := h_ ((k12.out.trans hk3).trans k4)
   have hsz3 := k12.out.size
   have hown4 := h_ (ownsRow.keptOf hown k4 (fun _ _ => id))
   rw [hF]
   have hF' := h_ hF
   have hw4' := h_ hw4
   clear hown hk3 hF k4 hw4 bx4
   go_wp2_with (first | (refine wpList_alloc_as 71 rfl rfl Z.toArray hZz.out ?_) | (refine wpList_store_whole 71 rfl rfl rfl F rfl (by rw [hFl.out]; exact node_size) 71 _ (heap_alloc_new _ _) (by simp [hFl.out, hZl.out]) hF1.out ?_; rw [hw4'.out]) | (refine wpList_exec rfl (exec_build 71 #[] _ rfl (by simp) (hbz.out _)) ?_) | (refine wpList_store_whole 71 rfl rfl rfl Z rfl (by rw [hZl.out]; exact node_size) 71 _ d4.out (by simp) hZ1.out ?_) | (refine wpList_load_agg 71 rfl rfl rfl _ Try.underlying71 rfl F (by rw [hFl.out]; exact node_size) (fun j v hv => by rw [cell_of_heap f4.out, Nat.zero_add]; simpa using hv) ?_) | (refine wpList_store_whole 71 rfl rfl rfl F rfl (by rw [hFl.out]; exact node_size) 71 _ d4.out (by simp [hFl.out, hZl.out]) hF1.out ?_))
   refine bodyPost_ret (results_row_tmp rfl _ _ (w.heap.size + 1) 71 F.toArray (0, 0) _ rfl (setRow_heap _ _ _ _ 71 (0, 0) d4.out) Try.underlying71 rfl (by simp only [List.size_toArray]; rw [hFl.out]; exact node_size)) rfl ?_
   have kS := (Kept.refl (fun i => i = w.heap.size + 1) w4).setRow rfl F.toArray
   have hs2 := (show w2.heap.size = w.heap.size + 2 by rw [← hw2'.out]; simp [s1'.out])
   exact ⟨.slice Av n.ents.length cap, by rw [hF'.out]; rfl, owns_weaken (ownsRow.keptOf hown4.out kS (fun g hg e => by have := (hown4.out.lt g hg).1; omega)) (by omega), kall.out.setRowNew (by omega) _⟩
 ·rw [if_neg h0] at hT
  rw [hT.out]
  have h0' : ((er : Int) == 0) = false := by simp; omega
  clear h0
  go_enter Try.func77, Try.ntmps77
  go_wp2_with (first | (refine wpList_box_named 29 rfl rfl _ rfl hw1'.out ?_) | (refine wpList_alloc_as 71 rfl rfl Z.toArray hZz.out ?_; rw [hw2'.out, s1'.out]))
  refine hG.out.mono ?_
  rintro e w3 ⟨v, rfl, hown, hk3⟩
  obtain ⟨Av, cap, rfl⟩ := tail.out w3 v hown hk3
  obtain ⟨F, hF⟩ : ∃ F, nodeCells n (.slice Av n.ents.length cap) = F := ⟨_, rfl⟩
  have hFl : Hid (F.length = 18) := h_ (by rw [← hF]; exact nodeCells_len _ _)
  have hF1 : Hid (∀ v ∈ F, v.oneCell' = true) := h_ (by rw [← hF]; exact nodeCells_one _ _ _ _)
  obtain ⟨w4, hw4⟩ : ∃ w4, (w3.alloc (.cells Z.toArray 71)).setRow w3.heap.size F.toArray = w4 := ⟨_, rfl⟩
  have k4 : Kept (fun _ => False) w3 w4 := by rw [← hw4]; exact ((Kept.refl _ _).alloc _).setRowNew (Nat.le_refl _) _
  have bx4 : NodeBox w4 w3.heap.size n (.slice Av n.ents.length cap) := ⟨by rw [hF, ← hw4]; exact setRow_heap _ _ _ _ _ _ (heap_alloc_new _ _)⟩
  have c0 := bx4.c0
  have f4 := h_ (show w4.heap[w3.heap.size]? = some (.cells F.toArray 71 (0, 0)) by rw [← hw4]; exact setRow_heap _ _ _ _ _ _ (heap_alloc_new _ _))
  have d4 := h_ (k4.get (hk3.get d2'.out id) id)
  have kall := h_ ((k12.out.trans hk3).trans k4)
  have hsz3 := k12.out.size
  have hown4 := h_ (ownsRow.keptOf hown k4 (fun _ _ => id))
  rw [hF]
  have hF' := h_ hF
  have hw4' := h_ hw4
  clear hown hk3 hF k4 hw4 bx4
  go_wp2_with (first | (refine wpList_alloc_as 71 rfl rfl Z.toArray hZz.out ?_) | (refine wpList_store_whole 71 rfl rfl rfl F rfl (by rw [hFl.out]; exact node_size) 71 _ (heap_alloc_new _ _) (by simp [hFl.out, hZl.out]) hF1.out ?_; rw [hw4'.out]) | (refine wpList_exec rfl (exec_build 71 #[] _ rfl (by simp) (hbz.out _)) ?_) | (refine wpList_store_whole 71 rfl rfl rfl Z rfl (by rw [hZl.out]; exact node_size) 71 _ d4.out (by simp) hZ1.out ?_) | (refine wpList_load_agg 71 rfl rfl rfl _ Try.underlying71 rfl F (by rw [hFl.out]; exact node_size) (fun j v hv => by rw [cell_of_heap f4.out, Nat.zero_add]; simpa using hv) ?_) | (refine wpList_store_whole 71 rfl rfl rfl F rfl (by rw [hFl.out]; exact node_size) 71 _ d4.out (by simp [hFl.out, hZl.out]) hF1.out ?_))
  refine bodyPost_ret (results_row_tmp rfl _ _ (w.heap.size + 1) 71 Z.toArray (0, 0) _ rfl (setRow_heap _ _ _ _ 71 (0, 0) d4.out) Try.underlying71 rfl (by simp only [List.size_toArray]; rw [hZl.out]; exact node_size)) rfl ?_
  exact ⟨.slice none 0 0, by rw [hz2.out]; rfl, World.ownsRow_nil _ _ _ _, kall.out.setRowNew (by omega) _⟩
end Go.Proofs.Ytdcnogjbmdhgaaa
