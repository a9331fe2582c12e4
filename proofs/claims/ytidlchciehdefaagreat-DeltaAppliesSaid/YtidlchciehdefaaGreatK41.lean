/-
 Layer 17, plain: how many pages items take, when a key that is there is written again.
-/
import Derived.Test.YtidlchciehdefaaGreatK19
import Derived.Test.YtidlchciehdefaaGreatK30
import Derived.Test.YtidlchciehdefaaGreatK37
set_option linter.unusedVariables false
set_option linter.unusedSimpArgs false
namespace Go.Proofs.YtidlchciehdefaaGreat
open Go.RowKit

theorem put_same {m : Nat} (hm : m ≤ 3) {M : SM} {ext : Nat → Nat} (E : Exact M ext) {h : Nat} {root key page : Int} {l : List (Int × Int)} (t : Tr m M h root l) (h8 : h ≤ 8) (g : Good M l) (hl : Loose M [(key, page)]) (hx : M.pool.heldB page = true) (k0 : 0 ≤ key) (k1 : key < 64) (hkey : ∃ y ∈ l, y.1 = key) (he : (M.put root key page).2.2 = 0) :
  ∀ s, Led M h root s → ∃ h', Tr m (M.put root key page).1 h' (M.put root key page).2.1 (putL l (key, page)) ∧ Led (M.put root key page).1 h' (M.put root key page).2.1 s := by
 have hne : root ≠ -1 := fun e => by have := (heldB_int t.held).1; omega
 unfold SM.put at he ⊢
 rw [if_neg (by omega), if_neg hne] at he ⊢
 cases h with
 | zero => exact t.elim
 | succ h =>
  have hp := putF_ok hm (x := (key, page)) k0 k1 h 0 M l root (by omega) E t g hx
  have hq := putF_same hm (x := (key, page)) k0 k1 h 0 M l root (by omega) E t g hx hkey
  rw [Nat.sub_zero] at hp hq
  obtain ⟨R, hR⟩ : ∃ R, SM.putF 9 M root (key, page) = R := ⟨_, rfl⟩
  rw [hR] at hp hq he ⊢
  obtain ⟨M1, n1, er⟩ := R
  dsimp only at hp hq he ⊢
  rcases hp with ⟨rfl, P⟩ | ⟨rfl, hf⟩ | ⟨rfl, hf⟩
  ·obtain ⟨q1, q2⟩ := hq rfl
   rw [if_pos rfl] at he ⊢
   have hen := P.entN
   have hlo := P.lo
   have hL : Loose M1 n1.ents := fun q hq hc => by
    obtain ⟨y, hy, he⟩ := P.loose [(key, page)] hl q hq hc
    rcases List.mem_append.1 hy with hy | hy
    ·exact ⟨y, hy, he⟩
    ·rw [List.mem_singleton] at hy
     subst hy
     rcases ntr_mem P.tr (key, page) (putL_has _ _) with h1 | ⟨q', hq', h1⟩
     ·exact ⟨_, h1, he⟩
     ·have := ref_pos P.exact hq' h1
      rw [he, Int.toNat_natCast] at this
      omega
   rcases top_ok hm P.exact P.tr ((g.put k0 k1 hx).grown P.grown) (by omega) (by omega) hL with ⟨e, T⟩ | ⟨_, e, _⟩ | ⟨_, e, _⟩
   ·intro s hs
    obtain ⟨h', a, _, b⟩ := T.led s (q2 s hs)
    exact ⟨h', a, b⟩
   ·rw [e] at he; cases he
   ·rw [e] at he; cases he
  ·rw [if_neg (by decide)] at he
   cases he
  ·rw [if_neg (by decide)] at he
   cases he

theorem change_thin {M : SM} {ext ext' : Nat → Nat} {root : Int} {l : List (Int × Int)} {P P' : Nat} (E : Exact M ext) (t : TreeIn 1 M root l P) (hP : P + 1 ≤ 240) {c : Int × Int} (k0 : 0 ≤ c.1) (k1 : c.1 < 64) (hx : c.2 = -1 ∨ M.pool.heldB c.2 = true)
  (hl : Loose M (if c.2 = -1 then [] else [c])) (hkey : c.2 = -1 ∨ ∃ y ∈ l, y.1 = c.1) {M' : SM} {next : Int} (he : M.change root c = (M', next, 0)) (E' : Exact M' ext') (t' : TreeIn 1 M' next (chgL l c) P') : TreeIn 1 M' next (chgL l c) P := by
 refine ⟨?_, t'.keys⟩
 rcases t'.root with e | ⟨h0, tt', _⟩
 ·exact .inl e
 ·have hheld := tt'.held
  have hnne : next ≠ -1 := fun e => by have := (heldB_int hheld).1; omega
  unfold SM.change at he
  dsimp only at he
  obtain ⟨O, hO⟩ : ∃ O, M.one root c = O := ⟨_, rfl⟩
  rw [hO] at he
  obtain ⟨M1, n1, er⟩ := O
  dsimp only at he
  by_cases h0 : er = 0
  ·rw [if_pos h0] at he
   subst h0
   by_cases h1 : (M1.swap root n1).2 = 0
   ·rw [if_pos h1] at he
    injection he with e1 e2
    injection e2 with e2 _
    subst e1 e2
    have hlog : (M1.swap root n1).1.log = M1.log := swap_log M1 root n1
    have fin : ∀ h', Tr 1 M1 h' n1 (chgL l c) → Led M1 h' n1 P → ∃ h', Tr 1 (M1.swap root n1).1 h' n1 (chgL l c) ∧ Led (M1.swap root n1).1 h' n1 P := fun h' a b => ⟨h', Tr.stays E' hlog a hheld, Led.same (fun q _ => by unfold SM.nodeAt; rw [hlog]) a b⟩
    by_cases hc : c.2 = -1
    ·have hone : M.one root c = ((M.cut root c.1).1, (M.cut root c.1).2.1, (M.cut root c.1).2.2.2) := by unfold SM.one; rw [if_pos hc]
     have hchg : chgL l c = cutL l c.1 := by unfold chgL; rw [if_pos hc]
     rw [if_pos hc] at hl
     rw [hO] at hone
     rcases t.root with ⟨e, el⟩ | ⟨h, tt, j⟩
     ·have hcut : M.cut root c.1 = (M, -1, false, 0) := by
       unfold SM.cut
       rw [if_neg (by omega), if_pos e]
      rw [hcut] at hone
      injection hone with _ hone
      injection hone with hone _
      exact absurd hone hnne
     ·obtain ⟨h, rfl⟩ : ∃ i, h = i + 1 := ⟨h - 1, by have := tr_pos tt; omega⟩
      have h5 := (led_pages tt j (by omega)).1
      rcases cut_ok (key := c.1) E tt (by omega) (t.good E) hl k0 k1 with ⟨e, hno⟩ | ⟨e, ew, T⟩ | ⟨e, hf⟩ | ⟨e, q, hq⟩
      ·rw [e] at hone
       injection hone with e1 hone
       injection hone with e2 _
       subst e1 e2
       exact .inr (fin (h + 1) (by rw [hchg, cutL_none hno]; exact tt) j)
      ·injection hone with e1 hone
       injection hone with e2 _
       rw [← e1, ← e2] at T
       rcases T.tr with ⟨e, _⟩ | ⟨h', _, a, b, _⟩
       ·exact absurd e hnne
       ·exact .inr (fin h' (by rw [hchg]; exact a) (b P j))
      ·rw [e] at hone
       injection hone with _ hone
       injection hone with _ hone
       cases hone
      ·rw [e] at hone
       injection hone with _ hone
       injection hone with _ hone
       cases hone
    ·have hone : M.one root c = M.put root c.1 c.2 := by unfold SM.one; rw [if_neg hc]
     have hchg : chgL l c = putL l c := by unfold chgL; rw [if_neg hc]
     rw [if_neg hc] at hl
     rw [hO] at hone
     have hkey := hkey.resolve_left hc
     rcases t.root with ⟨_, el⟩ | ⟨h, tt, j⟩
     ·obtain ⟨y, hy, _⟩ := hkey
      rw [el] at hy
      cases hy
     ·have h5 := (led_pages tt j (by omega)).1
      obtain ⟨h', a, b⟩ := put_same (by decide) E tt (by omega) (t.good E) (key := c.1) (page := c.2) hl (hx.resolve_left hc) k0 k1 hkey (by rw [← hone]) P j
      rw [← hone] at a b
      exact .inr (fin h' (by rw [hchg]; exact a) b)
   ·rw [if_neg h1] at he
    injection he with _ he
    injection he with _ he
    exact absurd he h1
  ·rw [if_neg h0] at he
   injection he with _ he
   injection he with _ he
   exact absurd he h0
def Thin (j : Nat) (i i' : IM) : Prop := ∃ p y : Nat, p + y ≤ j ∧ i'.P ≤ i.P + p ∧ i'.l.length + y = i.l.length + p
theorem cutL_length {l : List (Int × Int)} (h : RisesK l) {key : Int} (hk : ∃ y ∈ l, y.1 = key) : (cutL l key).length + 1 = l.length := by
 obtain ⟨y, hy, e⟩ := hk
 obtain ⟨a, b, rfl⟩ := List.append_of_mem hy
 have h1 := List.pairwise_append.1 h
 have h2 := List.pairwise_cons.1 h1.2.1
 have ea : ∀ z ∈ a, z.1 ≠ key := fun z hz => by have := h1.2.2 z hz y (List.mem_cons_self ..); omega
 have eb : ∀ z ∈ b, z.1 ≠ key := fun z hz => by have := h2.1 z hz; omega
 have : cutL (a ++ y :: b) key = a ++ b := by
  have e1 : cutL (a ++ y :: b) key = cutL a key ++ cutL (y :: b) key := List.filter_append ..
  have e2 : cutL (y :: b) key = cutL b key := List.filter_cons_of_neg (by simp [e])
  rw [e1, e2, cutL_none ea, cutL_none eb]
 rw [this]
 simp
 omega
theorem putL_new {l : List (Int × Int)} {x : Int × Int} (h : ∀ y ∈ l, y.1 ≠ x.1) : (putL l x).length = l.length + 1 := by
 have key : ∀ l : List (Int × Int), (∀ y ∈ l, y.1 ≠ x.1) → (l.filter fun y => decide (y.1 < x.1)).length + (l.filter fun y => decide (x.1 < y.1)).length = l.length := by
  intro l
  induction l with
  | nil => intro _; rfl
  | cons y l ih =>
   intro h
   have h1 := ih (fun z hz => h z (List.mem_cons_of_mem _ hz))
   have h2 := h y (List.mem_cons_self ..)
   by_cases e : y.1 < x.1
   ·rw [List.filter_cons_of_pos (by simpa using e), List.filter_cons_of_neg (by simp; omega), List.length_cons, List.length_cons]
    omega
   ·rw [List.filter_cons_of_neg (by simpa using e), List.filter_cons_of_pos (by simp; omega), List.length_cons, List.length_cons]
    omega
 have := key l h
 unfold putL
 rw [List.length_append, List.length_append, List.length_singleton]
 omega
section
variable {n k : Nat} {M : SM} {is : List IM} {i : IM}
theorem DelP.thin {M' : SM} {i' : IM} (h : DelP n M' (is.set k i')) (hk : k < is.length) {Q : Nat} (hQ : Q ≤ n) (t : TreeIn 1 M' i'.root i'.l Q) : DelP n M' (is.set k { i' with P := Q }) := by
 have hm : i' ∈ is.set k i' := List.mem_of_getElem? (List.getElem?_set_self hk)
 have hr : (is.set k { i' with P := Q }).map (·.root) = (is.set k i').map (·.root) := by rw [List.map_set, List.map_set]
 have hall : ∀ j ∈ is.set k { i' with P := Q }, j ∈ is.set k i' ∨ j = { i' with P := Q } := fun j hj => by
  obtain ⟨q, hq, rfl⟩ := List.getElem_of_mem hj
  rw [List.getElem_set]
  by_cases e : k = q
  ·rw [if_pos e]; exact .inr rfl
  ·rw [if_neg e]
   left
   rw [List.length_set] at hq
   have : (is.set k i')[q]? = some is[q] := by rw [List.getElem?_set, if_neg e, List.getElem?_eq_getElem hq]
   exact List.mem_of_getElem? this
 have hI := h.imgs.img i' hm
 refine ⟨⟨by rw [hr]; exact h.imgs.exact, h.imgs.loose, fun j hj => ?_⟩, fun j hj => ?_, fun j hj => ?_, fun j hj => ?_, by have := h.six; rw [List.length_set] at this ⊢; exact this, h.log, h.gone⟩
 ·rcases hall j hj with hj | rfl
  ·exact h.imgs.img j hj
  ·exact ⟨t, hI.data, hI.zero⟩
 ·rcases hall j hj with hj | rfl
  ·exact h.bytes j hj
  ·exact h.bytes i' hm
 ·rcases hall j hj with hj | rfl
  ·exact h.nodup j hj
  ·exact h.nodup i' hm
 ·rcases hall j hj with hj | rfl
  ·exact h.puts j hj
  ·exact hQ
theorem thin_item (h : DelP n M is) (hi : is[k]? = some i) (hn : n + 1 ≤ 240) {x : ItemM} (hx : rightB x = true) (hok : x.ok) {M' : SM} {next : Int} (he : M.item i.root x = (M', next, 0)) :
  ∃ i', DelP (n + 1) M' (is.set k i') ∧ i'.root = next ∧ i'.w = upd i.w x.key x.block ∧ Thin 1 i i' := by
 have hr : i ∈ is := List.mem_of_getElem? hi
 have hk : k < is.length := (List.getElem?_eq_some_iff.1 hi).1
 have hP := h.puts i hr
 have hI := h.imgs.img i hr
 obtain ⟨⟨k0, k1⟩, hz⟩ := rightB_iff.1 hx
 have hlg := item_log M i.root x
 have hsz := deli_size M i.root x
 have hgn := item_closed (gone_closed M.pool.size []) i.root x h.gone
 have hlog := h.log
 rw [he] at hlg hsz hgn
 unfold SM.item at he
 cases hh : x.has with
 | true =>
  rw [hh, if_pos rfl] at he
  have hw := write1_new (by decide) h.imgs hi (by omega) k0 k1 hok.1 hok.2
  rw [he] at hw
  dsimp only at hw hlg hsz hgn
  rcases hw with ⟨_, pg, hnew, hJ⟩ | ⟨_, ⟨e, _⟩ | ⟨e, _⟩⟩
  ·have hnd := putL_nodup (h.nodup i hr) (x := (x.key, (pg : Int))) fun y hy e => by
    have hlv := (h.imgs.img i hr).held h.imgs.exact hy
    rw [e, Int.toNat_natCast, hnew] at hlv
    cases hlv
   have D1 := h.set hJ ((h.bytes i hr).upd x.key hok.1 hok.2) hnd (by show i.P + 1 ≤ _; omega) (by omega) hgn hsz
   by_cases hkey : ∃ y ∈ i.l, y.1 = x.key
   ·refine ⟨_, D1.thin hk (Q := i.P) (by omega) ?_, rfl, rfl, 0, 0, by omega, Nat.le_refl _, ?_⟩
    ·have t' := (hJ.img _ (List.mem_of_getElem? (List.getElem?_set_self hk))).tree
     dsimp only at t' ⊢
     unfold SM.write1 at he
     dsimp only at he
     rcases make_ok h.imgs.exact (data_ok hok.1 hok.2) (fun x hx => by cases hx) with ⟨pg', e, D⟩ | ⟨e, hf⟩ | ⟨e, q, hq⟩
     ·rw [show (M.make ⟨1, x.block, []⟩).2.2 = 0 by rw [e], show (M.make ⟨1, x.block, []⟩).2.1 = (pg' : Int) by rw [e], if_pos rfl, change_one] at he
      obtain ⟨M1, hM1⟩ : ∃ M1, (M.make ⟨1, x.block, []⟩).1 = M1 := ⟨_, rfl⟩
      rw [hM1] at D he
      have h1 : TreeIn 1 M1 i.root i.l i.P := hI.tree.grown D.grown
      have hne : ((pg' : Nat) : Int) ≠ -1 := by omega
      have hl1 : Loose M1 [(x.key, (pg' : Int))] := fun q hq hc => by
       rcases D.only q hq with rfl | hq'
       ·exact ⟨_, List.mem_singleton.2 rfl, rfl⟩
       ·have hc' : M.pool.cnt q = 0 := by
         have := D.cnt q
         omega
        obtain ⟨y, hy, _⟩ := h.imgs.loose q hq' hc'
        cases hy
      have hchg : ∀ pg : Nat, chgL i.l (x.key, (pg : Int)) = putL i.l (x.key, (pg : Int)) := fun pg => by unfold chgL; rw [if_neg (by show ¬ ((pg : Nat) : Int) = -1; omega)]
      have hpg : putL i.l (x.key, (pg : Int)) = putL i.l (x.key, (pg' : Int)) := by
       have hok2 := change_ok (m := 1) (by decide) D.exact h1 (by omega) (extL_root (List.mem_map.2 ⟨i, hr, rfl⟩) hI.tree.low) (c := (x.key, (pg' : Int))) k0 k1 (.inr (by rw [heldB_nat]; exact D.live)) (by rw [if_neg hne]; exact hl1) (fun e => absurd e hne)
       rw [he] at hok2
       rcases hok2 with ⟨_, C⟩ | ⟨_, ⟨e, _⟩ | ⟨e, _⟩⟩
       ·have a := C.tree.list (by omega)
        have b := t'.list (by omega)
        dsimp only at a b
        rw [hchg, b] at a
        injection a
       ·cases e
       ·cases e
      rw [hpg] at t' ⊢
      rw [← hchg] at t' ⊢
      exact change_thin D.exact h1 (by omega) (c := (x.key, (pg' : Int))) k0 k1 (.inr (by rw [heldB_nat]; exact D.live)) (by rw [if_neg hne]; exact hl1) (.inr hkey) he hJ.exact t'
     ·rw [show (M.make ⟨1, x.block, []⟩).2.2 = 71 by rw [e], if_neg (by decide)] at he
      injection he with _ he
      injection he with _ he
      cases he
     ·rw [show (M.make ⟨1, x.block, []⟩).2.2 = 72 by rw [e], if_neg (by decide)] at he
      injection he with _ he
      injection he with _ he
      cases he
    ·obtain ⟨y, hy, e⟩ := hkey
     show (putL i.l (x.key, (pg : Int))).length + 0 = _
     rw [putL_same hI.tree.keys.1 hy e]
   ·refine ⟨_, D1, rfl, rfl, 1, 0, by omega, Nat.le_refl _, ?_⟩
    have := putL_new (l := i.l) (x := (x.key, (pg : Int))) (fun y hy e => hkey ⟨y, hy, e⟩)
    show (putL i.l (x.key, (pg : Int))).length + 0 = _
    omega
  ·cases e
  ·cases e
 | false =>
  rw [hh, if_neg (by decide)] at he
  have hw := clear1_ok h.imgs hi (by omega) k0 k1
  rw [he] at hw
  dsimp only at hw hlg hsz hgn
  rcases hw with ⟨_, hJ⟩ | ⟨_, ⟨e, _⟩ | ⟨e, _⟩⟩
  ·have hnd : ((cutL i.l x.key).map (·.2)).Nodup := by
    have : (cutL i.l x.key).Sublist i.l := List.filter_sublist
    exact (this.map _).nodup (h.nodup i hr)
   have D1 := h.set hJ ((h.bytes i hr).wipe x.key) hnd (by show i.P + 1 ≤ _; omega) (by omega) hgn hsz
   have hw : wipe i.w x.key = upd i.w x.key x.block := by rw [hz hh]; rfl
   have t' := (hJ.img _ (List.mem_of_getElem? (List.getElem?_set_self hk))).tree
   dsimp only at t'
   rw [change_one] at he
   have hchg : chgL i.l (x.key, (-1 : Int)) = cutL i.l x.key := by unfold chgL; rw [if_pos rfl]
   rw [← hchg] at t'
   have t2 := change_thin h.imgs.exact hI.tree (by omega) (c := (x.key, (-1 : Int))) k0 k1 (.inl rfl) (by rw [if_pos rfl]; exact h.imgs.loose) (.inl rfl) he hJ.exact t'
   rw [hchg] at t2
   refine ⟨_, D1.thin hk (Q := i.P) (by omega) t2, rfl, hw, ?_⟩
   by_cases hkey : ∃ y ∈ i.l, y.1 = x.key
   ·refine ⟨0, 1, by omega, Nat.le_refl _, ?_⟩
    have := cutL_length hI.tree.keys.1 hkey
    show (cutL i.l x.key).length + 1 = _
    omega
   ·refine ⟨0, 0, by omega, Nat.le_refl _, ?_⟩
    show (cutL i.l x.key).length + 0 = _
    rw [cutL_none (fun y hy e => hkey ⟨y, hy, e⟩)]
  ·cases e
  ·cases e
theorem Thin.refl (i : IM) : Thin 0 i i := ⟨0, 0, Nat.le_refl _, Nat.le_refl _, rfl⟩
theorem Thin.more {j j' : Nat} {i i' : IM} (h : Thin j i i') (hj : j ≤ j') : Thin j' i i' := h.imp fun _ h => h.imp fun _ h => ⟨by omega, h.2⟩
theorem Thin.trans {a b : Nat} {i j l : IM} (h : Thin a i j) (g : Thin b j l) : Thin (a + b) i l := by
 obtain ⟨p, y, h1, h2, h3⟩ := h
 obtain ⟨q, z, g1, g2, g3⟩ := g
 exact ⟨p + q, y + z, by omega, by omega, by omega⟩
theorem thin_items : ∀ (xs : List ItemM) {n : Nat} {M : SM} {is : List IM} {i : IM} {G : List Nat} {N : Nat}, DelP n M is → is[k]? = some i → n + xs.length ≤ 240 → (∀ x ∈ xs, rightB x = true ∧ x.ok) → Marks N G M →
  (∃ M' next i', SM.items xs M i.root = (M', next, 0) ∧ DelP (n + xs.length) M' (is.set k i') ∧ i'.root = next ∧ i'.w = itemsW xs i.w ∧ M'.pool.size = M.pool.size ∧ Thin xs.length i i') ∨
   (∃ M' next, SM.items xs M i.root = (M', next, 71) ∧ M'.log.length ≤ 30 * (n + xs.length) ∧ M'.pool.size = M.pool.size ∧
    ∃ M1 i1, DelP (n + xs.length) M1 (is.set k i1) ∧ Thin xs.length i i1 ∧ Marks N G M1 ∧ M1.pool.size = M.pool.size ∧ M1.pool.freeCount < 14)
 | [], n, M, is, i, G, N, h, hi, _, _, _ => by
  have : is.set k i = is := by
   refine List.ext_getElem? fun j => ?_
   rw [List.getElem?_set]
   by_cases e : k = j
   ·subst e
    have hk := (List.getElem?_eq_some_iff.1 hi).1
    rw [if_pos rfl, if_pos hk, hi]
   ·rw [if_neg e]
  exact .inl ⟨M, i.root, i, rfl, by rw [this]; exact h, rfl, rfl, rfl, Thin.refl i⟩
 | x :: xs, n, M, is, i, G, N, h, hi, hn, hx, hm => by
  rw [List.length_cons] at hn ⊢
  have hlt := (List.getElem?_eq_some_iff.1 hi).1
  have hx0 := hx x (List.mem_cons_self ..)
  have hmk := item_closed (marks_closed N G) i.root x hm
  unfold SM.items
  rcases del_item h hi (by omega) hx0.1 hx0.2 with ⟨M1, next, _, e, _, _, _, _, e4, _⟩ | ⟨M1, next, e, e1, e2, e3⟩
  ·obtain ⟨i1, h1, e1, e2, e3⟩ := thin_item h hi (by omega) hx0.1 hx0.2 e
   rw [e] at hmk ⊢
   dsimp only at hmk ⊢
   rw [if_pos rfl, ← e1]
   have hi1 : (is.set k i1)[k]? = some i1 := by rw [List.getElem?_set_self hlt]
   rcases thin_items xs h1 hi1 (by omega) (fun y hy => hx y (List.mem_cons_of_mem _ hy)) hmk with ⟨M2, n2, i2, f, h2, f1, f2, f4, f5⟩ | ⟨M2, n2, f, f1, f2, M3, i3, f3, f4, f5, f6, f7⟩
   ·rw [set_set] at h2
    exact .inl ⟨M2, n2, i2, f, by rw [show n + (xs.length + 1) = n + 1 + xs.length by omega]; exact h2, f1, by rw [f2, e2]; rfl, f4.trans e4, (e3.trans f5).more (by omega)⟩
   ·rw [set_set] at f3
    exact .inr ⟨M2, n2, f, by omega, f2.trans e4, M3, i3, by rw [show n + (xs.length + 1) = n + 1 + xs.length by omega]; exact f3, (e3.trans f4).more (by omega), f5, f6.trans e4, f7⟩
  ·rw [e]
   dsimp only
   rw [if_neg (by decide)]
   have hset : is.set k i = is := by
    refine List.ext_getElem? fun j => ?_
    rw [List.getElem?_set]
    by_cases e : k = j
    ·subst e
     rw [if_pos rfl, if_pos hlt, hi]
    ·rw [if_neg e]
   exact .inr ⟨M1, -1, rfl, by omega, e2, M, i, by rw [hset]; exact h.more (by omega), (Thin.refl i).more (Nat.zero_le _), hm, rfl, e3⟩
theorem thin_deliver (h : DelP n M is) (hi : is[k]? = some i) {xs : List ItemM} (hn : n + xs.length ≤ 240) (hx : ∀ x ∈ xs, rightB x = true ∧ x.ok) {G : List Nat} (hG : ∀ q, M.live q = true → q ∈ G) :
  (∃ M' next i', M.deliver i.root xs = (M', next, 0) ∧ DelP (n + xs.length) M' (is.set k i') ∧ i'.root = next ∧ i'.w = itemsW xs i.w ∧ M'.pool.size = M.pool.size ∧ Thin xs.length i i') ∨
   (∃ M', M.deliver i.root xs = (M', -1, 71) ∧ DelP (n + xs.length) M' is ∧ M'.pool = M.marked.pool ∧
    ∃ M1 i1, DelP (n + xs.length) M1 (is.set k i1) ∧ Thin xs.length i i1 ∧ Marks M.pool.size G M1 ∧ M1.pool.size = M.pool.size ∧ M1.pool.freeCount < 14) := by
 have hany : xs.any (fun x => !rightB x) = false := by rw [List.any_eq_false]; intro x hh; simp [(hx x hh).1]
 have hm := marks_marked h.gone hG
 have hM : DelP n M.marked is := ⟨h.imgs.marked, h.bytes, h.nodup, h.puts, h.six, h.log, gone_marked h.gone⟩
 have hcl : Marked M.marked (SM.items xs M.marked i.root).1 := items_closed (marked_closed M.marked) xs i.root (mark_start M.tidy)
 unfold SM.deliver
 rw [hany, if_neg (by decide)]
 rcases thin_items xs hM hi hn hx hm with ⟨M', next, i', e, h1, e1, e2, e4, e5⟩ | ⟨M', next, e, e1, e2, M1, i1, f1, f2, f3, f4, f5⟩
 ·rw [e]
  exact .inl ⟨M', next, i', by unfold SM.safely; rw [if_pos rfl], h1, e1, e2, e4, e5⟩
 ·rw [e] at hcl ⊢
  obtain ⟨a1, a2, a3, a4, a5⟩ := safely_err h.imgs (r := (M', next, 71)) (show (71 : Nat) ≠ 0 by decide) hcl
  refine .inr ⟨⟨M.marked.pool, M'.log⟩, by unfold SM.safely; rw [if_neg (show ¬ (71 : Nat) = 0 by decide)], ⟨?_, h.bytes, h.nodup, fun j hj => by have := h.puts j hj; omega, h.six, e1, gone_marked h.gone⟩, rfl, M1, i1, f1, f2, f3, f4, f5⟩
  have : (M.safely (M', next, 71)).1 = ⟨M.marked.pool, M'.log⟩ := by unfold SM.safely; rw [if_neg (show ¬ (71 : Nat) = 0 by decide)]
  rw [← this]
  exact a3
end
theorem one_pages {n : Nat} {M : SM} {i : IM} (h : DelP n M [i]) (hn : n ≤ 240) : ∃ L : List Nat, (∀ q, M.live q = true → q ∈ L) ∧ L.length ≤ (i.P + 3) / 2 + i.l.length := by
 obtain ⟨L, a, b, _⟩ := imgs_pages h.imgs (fun i => (i.P + 3) / 2) (fun j hj hh t l => by
  have := (led_pages t l (by have := h.puts j hj; omega)).2.2
  omega)
 refine ⟨L, a, ?_⟩
 simpa using b
theorem thin_room {n n' : Nat} {M M1 : SM} {i i1 : IM} (h : DelP n M [i]) (hn : n ≤ 240) (hs : M.pool.size = 240) (hi : Thin 80 .none i) {G : List Nat} (hG : G.length ≤ (i.P + 3) / 2 + i.l.length) (h1 : DelP n' M1 [i1]) (hn' : n' ≤ 240) (hj : Thin 80 i i1) (hm : Marks M.pool.size G M1) (hs1 : M1.pool.size = M.pool.size) (hf : M1.pool.freeCount < 14) : False := by
 obtain ⟨L, l1, l2⟩ := one_pages h1 hn'
 have hlive := liveN_list l1
 rw [← hs1] at hm
 have hr := marks_room hm
 have a := (h.imgs.img i (List.mem_singleton.2 rfl)).tree.len
 have b := (h1.imgs.img i1 (List.mem_singleton.2 rfl)).tree.len
 obtain ⟨p, y, e1, e2, e3⟩ := hi
 obtain ⟨q, z, f1, f2, f3⟩ := hj
 have e4 : IM.none.P = 0 := rfl
 have e5 : IM.none.l.length = 0 := rfl
 omega
set_option maxRecDepth 100000

theorem marked_idem (M : SM) : M.marked.marked = M.marked := by
 unfold SM.marked markM SM.tidy PM.turned
 congr 2
 funext q
 dsimp only
 repeat' split
 all_goals first | rfl | omega
theorem marked_size (M : SM) : M.marked.pool.size = M.pool.size := rfl
section
variable {n : Nat} {M : SM} {is : List IM} {i : IM}
theorem DelP.marked (h : DelP n M is) : DelP n M.marked is := ⟨h.imgs.marked, h.bytes, h.nodup, h.puts, h.six, h.log, gone_marked h.gone⟩
theorem DelP.put (h : DelP n M is) {P : PM} (e : P = M.marked.pool) (L : List (Nat × NM)) (hL : L = M.log) : DelP n ⟨P, L⟩ is := by
 rw [e, hL]
 exact h.marked
theorem da_step (h : DelP n M [i]) {xs : List ItemM} (hn : n + xs.length ≤ 240) (hx : ∀ x ∈ xs, rightB x = true ∧ x.ok) (ht : Thin 80 .none i) (hl : xs.length ≤ 80) :
  (∃ M' i', M.marked.deliver i.root xs = (M', i'.root, 0) ∧ DelP (n + xs.length) M' [i'] ∧ i'.w = itemsW xs i.w ∧ M'.pool.size = M.pool.size ∧ Thin xs.length i i') ∨
   (∃ M', M.marked.deliver i.root xs = (M', -1, 71) ∧ DelP (n + xs.length) M' [i] ∧ M'.pool = M.marked.pool ∧ M.pool.size ≠ 240) := by
 have hM := h.marked
 obtain ⟨G, g1, g2⟩ := one_pages hM (by omega)
 rcases thin_deliver (k := 0) hM rfl hn hx g1 with ⟨M', next, i', e, h1, e1, e2, e4, e5⟩ | ⟨M', e, h1, e1, M1, i1, f1, f2, f3, f4, f5⟩
 ·exact .inl ⟨M', i', by rw [e, e1], h1, e2, e4, e5⟩
 ·rw [marked_idem] at e1
  refine .inr ⟨M', e, h1, e1, fun hs => ?_⟩
  exact thin_room (n' := n + xs.length) (i1 := i1) hM (by omega) (by rw [marked_size]; exact hs) ht g2 f1 hn (f2.more hl) f3 f4 f5
end
theorem DelP.tidy {n : Nat} {M : SM} {is : List IM} (h : DelP n M is) : DelP n M.tidy is := ⟨h.imgs.tidy, h.bytes, h.nodup, h.puts, h.six, h.log, gone_tidy h.gone⟩
structure DaB (w0 : World) (vb sb wB : Nat) (f : Int → List Nat) (wr : World) (A : SA) (M : SM) : Prop where
 own : OwnStore w0 A M wr
 var : ImVar wr A vb sb
 box : ImgBox wr A wB f
section
variable {w0 wr w' : World} {vb sb wB n n' : Nat} {f : Int → List Nat} {i i' : IM} {A A' : SA} {M M' : SM}
theorem DaB.fresh (h : DaB w0 vb sb wB f wr A M) (k : Kept (fun _ => False) wr w') : DaB w0 vb sb wB f w' A M := ⟨h.own.fresh k, h.var.fresh k, h.box.fresh k⟩
theorem DaB.to (h : DaB w0 vb sb wB f wr A M) (k : StoreTo A A' M' wr w') : DaB w0 vb sb wB f w' A' M' := ⟨h.own.to k, h.var.to k, h.box.to k⟩
theorem DaB.load (h : DaB w0 vb sb wB f wr A M) : ∀ j v, [Value.pointer (some ⟨sb, 0, none⟩)][j]? = some v → wr.cell? ⟨vb, 0 + j, none⟩ = some v := h.var.load
theorem DaB.c0 (h : DaB w0 vb sb wB f wr A M) : wr.cell? ⟨vb, 0, none⟩ = some (.pointer (some ⟨sb, 0, none⟩)) := h.var.load 0 _ rfl
theorem DaB.items (h : DaB w0 vb sb wB f wr A M) {v : Value} {l : List ItemM} (hv : ItemsAt w0 v l) : ItemsOff wr A v l := by
 refine ⟨SliceAt.fresh hv h.own.kept, fun hl b hb => ?_⟩
 obtain ⟨b', hb', hlt⟩ := SliceAt.block hv (by have := List.length_pos_iff.2 hl; omega)
 rw [hb] at hb'
 cases hb'
 exact ⟨Nat.lt_of_lt_of_le hlt h.own.kept.size, fun e => by have := h.own.new b (.inl e); omega⟩
theorem da_pool (h : DaB w0 vb sb wB f wr A M) : Calls Tryz.prog 24 #[.pointer (some ⟨sb, 0, none⟩)] wr fun e w' => e = .returned (.pointer (some ⟨A.pb, 0, none⟩)) ∧ wr = w' := by
 have := storePool h.own.store
 rw [h.var.eq] at this
 exact this
theorem da_tidy (h : DaB w0 vb sb wB f wr A M) : Calls Tryz.prog 38 #[.pointer (some ⟨A.pb, 0, none⟩)] wr fun e w' => e = .returned (.tuple #[]) ∧ StoreTo A A M.tidy wr w' :=
 (tidy_any h.own.store.pool).mono fun e w' ⟨he, hk⟩ => ⟨he, h.own.store.pooled hk rfl⟩
theorem da_free (h : DaB w0 vb sb wB f wr A M) {F : Nat} (hF : M.pool.freeCount = F) : Calls Tryz.prog 39 #[.pointer (some ⟨A.pb, 0, none⟩)] wr fun e w' => e = .returned (.int .i64 F) ∧ wr = w' := by
 rw [← hF]
 exact freeCount_any h.own.store.pool
theorem da_mark (h : DaB w0 vb sb wB f wr A M.tidy) : Calls Tryz.prog 40 #[.pointer (some ⟨sb, 0, none⟩)] wr fun e w' => ∃ c, e = .returned (.pointer (some ⟨c, 0, none⟩)) ∧ StoreTo A A M.marked wr w' ∧ PoolOff w' A c M.marked.pool := by
 have := storeMark h.own.store
 rw [h.var.eq] at this
 exact this
theorem da_undo (h : DaB w0 vb sb wB f wr A M) {c : Nat} {p : PM} (hp : PoolOff wr A c p) (e : M.pool = p) : Calls Tryz.prog 42 #[.pointer (some ⟨sb, 0, none⟩), .pointer (some ⟨c, 0, none⟩)] wr fun e w' => ∃ v A', e = .returned v ∧ StoreTo A A' M wr w' := by
 have := storeUndo h.own.store hp.pool (by rw [e])
 rw [h.var.eq, ← e] at this
 exact this
theorem da_apply (h : DaB w0 vb sb wB f wr A M) (hlog : M.log.length ≤ 30000) (root : Int) {v : Value} {l : List ItemM} (hv : ItemsOff wr A v l) (hl : l.length ≤ 1000) (hok : ∀ x ∈ l, x.ok) {M' : SM} {next : Int} {er : Nat} (hE : M.deliver root l = (M', next, er)) :
  Calls Tryz.prog 29 #[.agg #[.pointer (some ⟨sb, 0, none⟩)], .int .i64 root, v] wr fun e w' => ∃ A', e = .returned (.tuple #[.int .i64 next, .int .i64 er]) ∧ StoreTo A A' M' wr w' := by
 have h' := deltaApply h.own.store root hv hl hok (by omega)
 rw [hE, h.var.eq] at h'
 exact h'
theorem da_all (h : DaB w0 vb sb wB f wr A M) (d : DelP n M [i]) (hn : n ≤ 240) :
  Calls Tryz.prog 44 #[.agg #[.pointer (some ⟨sb, 0, none⟩)], .int .i64 i.root] wr fun e w' => ∃ gb, e = .returned (.tuple #[.slice (some ⟨gb, 0, none⟩) 64 64, .int .i64 0]) ∧ wr.heap.size ≤ gb ∧
   w'.heap[gb]? = some (.cells (imgCells i.w).toArray 35 (0, 0)) ∧ Kept (fun _ => False) wr w' := by
 have hm : i ∈ [i] := List.mem_singleton.2 rfl
 have hP := d.puts i hm
 have h' := imageAll h.own.store (d.imgs.img i hm) d.imgs.exact (by omega) (d.bytes i hm)
 rw [h.var.eq] at h'
 exact h'
theorem DaB.set (h : DaB w0 vb sb wB f wr A M) (hb : w0.heap.size ≤ wB) (hne : vb ≠ wB) {g : Int → List Nat} {F : List Value} (hF : imgCells g = F) : DaB w0 vb sb wB g (wr.setRow wB F.toArray) A M := by
 have k : Kept (fun x => x = wB) wr (wr.setRow wB F.toArray) := Kept.setRow (S := fun x => x = wB) (Kept.refl _ _) rfl _
 refine ⟨h.own.apart h.box.apart hb k, h.var.kept k hne, ?_⟩
 rw [← hF]
 exact h.box.set
end
structure DaInv (w0 : World) (vb sb wB s k : Nat) (root : Int) (wr : World) : Prop where
 ex : ∃ A M i n, DaB w0 vb sb wB i.w wr A M ∧ DelP n M [i] ∧ i.root = root ∧ M.pool.size = s ∧ n ≤ 80 * k ∧ Thin (80 * k) .none i
theorem run_build_parts (w : World) (u v : Value) (hu : ∃ A n c, u = .slice A n c) (hv : ∃ A n c, v = .slice A n c) : (Instr.build 68 #[(0, u), (1, v)]).run Tryz.prog w = .ok (.agg #[u, v]) w := by
 obtain ⟨A, n, c, rfl⟩ := hu
 obtain ⟨A', n', c', rfl⟩ := hv
 exact run_build _ _ _ _ (by kernel_rfl)
theorem exec_index_parts {o : Oper} {a : Act} {x y : Operand} (ho : o.op = .index 68 x y) {A A' : Option Addr} {n c n' c' : Nat} (hx : a.eval x = .agg #[.slice A n c, .slice A' n' c']) (w : World) :
  (a.eval y = .int .i64 0 → (execOp a.eval o).run Tryz.prog w = .ok (.value (.slice A n c)) w) ∧ (a.eval y = .int .i64 1 → (execOp a.eval o).run Tryz.prog w = .ok (.value (.slice A' n' c')) w) := by
 refine ⟨fun hy => ?_, fun hy => ?_⟩
 ·have h := run_index_agg (P := Tryz.prog) Tryz.underlying68 Tryz.underlying63 rfl (by kernel_rfl) [.slice A n c, .slice A' n' c'] (k := 0) (v := .slice A n c) (by decide) rfl .i64 w
  unfold execOp
  simp only [ho, hx, hy]
  have h' : (Instr.index 68 (.agg #[.slice A n c, .slice A' n' c']) (.int .i64 0)).run Tryz.prog w = .ok (.slice A n c) w := h
  simp [h']
 ·have h := run_index_agg (P := Tryz.prog) Tryz.underlying68 Tryz.underlying63 rfl (by kernel_rfl) [.slice A n c, .slice A' n' c'] (k := 1) (v := .slice A' n' c') (by decide) rfl .i64 w
  unfold execOp
  simp only [ho, hx, hy]
  have h' : (Instr.index 68 (.agg #[.slice A n c, .slice A' n' c']) (.int .i64 1)).run Tryz.prog w = .ok (.slice A' n' c') w := h
  simp [h']
end Go.Proofs.YtidlchciehdefaaGreat
