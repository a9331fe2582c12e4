/-
 Layer 17, plain: what one image has that another one hasn't, and the chapter's example.
-/
import Derived.Test.YtidlchciehdefaaGreatK27
import Derived.Test.YtidlchciehdefaaGreatK28
import Derived.Test.YtidlchciehdefaaGreatK30
import Derived.Test.YtidlchciehdefaaGreatK31
import Derived.Test.YtidlchciehdefaaGreatK34
import Derived.Test.YtidlchciehdefaaGreatK35
import Derived.Test.YtidlchciehdefaaGreatK36
set_option linter.unusedVariables false
set_option linter.unusedSimpArgs false
namespace Go.Proofs.YtidlchciehdefaaGreat
open Go.RowKit

theorem led_len {m : Nat} {M : SM} : ∀ {h : Nat} {p : Int} {l : List (Int × Int)} {s : Nat}, Tr m M h p l → Led M h p s → l.length ≤ s
 | 0, _, _, _, _, k => k.elim
 | h + 1, p, l, s, ⟨hp, n, hna, _, k⟩, hl => by
  have hen : M.ents p.toNat = n.ents := by unfold SM.ents; rw [hna]
  rcases hl with ⟨h0, hl⟩ | ⟨h0, hK⟩
  ·rcases k with ⟨_, _, e⟩ | ⟨h1, _⟩
   ·rw [← e, ← hen]; exact hl
   ·omega
  ·rcases k with ⟨h1, _⟩ | ⟨_, _, hKd⟩
   ·omega
   ·rw [hen] at hK
    have key : ∀ (es l : List (Int × Int)) (s : Nat), KidsL (fun q t => 3 ^ h ≤ t ∧ Led M h q t) es s → Kids (fun q a => Tr m M h q a ∧ m ≤ M.entN q) es l → l.length ≤ s := by
     intro es
     induction es with
     | nil => intro l s _ hk; rw [show l = [] from hk]; exact Nat.zero_le _
     | cons e es ih =>
      rintro l s ⟨t, u, h1, h2, h3⟩ ⟨a, b, x, rfl, ha, _, _, hb⟩
      have h4 := ih b u h3 hb
      have h5 := led_len ha.1 h2.2
      rw [List.length_append]
      omega
    exact key _ _ _ hK hKd
theorem TreeIn.lenP {m : Nat} {M : SM} {root : Int} {l : List (Int × Int)} {P : Nat} (t : TreeIn m M root l P) : l.length ≤ P := by
 rcases t.root with ⟨_, e⟩ | ⟨h, tt, j⟩
 ·rw [e]; exact Nat.zero_le _
 ·exact led_len tt j
section
variable {n k : Nat} {M : SM} {is : List IM} {i j : IM}
theorem DelP.pages (h : DelP n M is) (hn : n ≤ 240) : ∃ L : List Nat, (∀ q, M.live q = true → q ∈ L) ∧ L.length ≤ (is.map fun i => (i.P + 3) / 2 + i.P).sum := by
 obtain ⟨L, a, b, _⟩ := imgs_pages h.imgs (fun i => (i.P + 3) / 2) (fun j hj hh t l => by
  have := (led_pages t l (by have := h.puts j hj; omega)).2.2
  omega)
 refine ⟨L, a, Nat.le_trans b ?_⟩
 have key : ∀ js : List IM, (∀ j ∈ js, j ∈ is) → (js.map fun i => (i.P + 3) / 2 + i.l.length).sum ≤ (js.map fun i => (i.P + 3) / 2 + i.P).sum := by
  intro js
  induction js with
  | nil => intro _; exact Nat.le_refl _
  | cons j js ih =>
   intro hj
   have h1 := ih (fun x hx => hj x (List.mem_cons_of_mem _ hx))
   have h2 := (h.imgs.img j (hj j (List.mem_cons_self ..))).tree.lenP
   rw [List.map_cons, List.sum_cons, List.map_cons, List.sum_cons]
   omega
 exact key is (fun j hj => hj)
theorem DelP.short {G : List Nat} {N : Nat} (h : DelP n M is) (hn : n ≤ 240) (hm : Marks N G M) (hs : M.pool.size = N) (hf : M.pool.freeCount < 14) (hr : (is.map fun i => (i.P + 3) / 2 + i.P).sum + G.length + 14 ≤ N) : False := by
 obtain ⟨L, l1, l2⟩ := h.pages hn
 have hlive := liveN_list l1
 subst hs
 have := marks_room hm
 omega
theorem DelP.none (h : DelP n M is) (h5 : is.length ≤ 5) : DelP n M (is ++ [.none]) := by
 refine ⟨⟨exact_congr h.imgs.exact fun p _ => ?_, h.imgs.loose, fun j hj => ?_⟩, fun j hj => ?_, fun j hj => ?_, fun j hj => ?_, by rw [List.length_append]; show is.length + 1 ≤ 6; omega, h.log, h.gone⟩
 ·unfold extL
  rw [List.map_append, List.count_append]
  have : List.count ((p : Nat) : Int) (List.map (·.root) [IM.none]) = 0 := List.count_eq_zero.2 (fun hm => by
   simp only [List.map_cons, List.map_nil, List.mem_singleton] at hm
   have : ((p : Nat) : Int) = -1 := hm
   omega)
  rw [this]
  rfl
 ·rcases List.mem_append.1 hj with hj | hj
  ·exact h.imgs.img j hj
  ·rw [List.mem_singleton.1 hj]; exact Img.none 1 M
 ·rcases List.mem_append.1 hj with hj | hj
  ·exact h.bytes j hj
  ·rw [List.mem_singleton.1 hj]; exact Bytes.zero
 ·rcases List.mem_append.1 hj with hj | hj
  ·exact h.nodup j hj
  ·rw [List.mem_singleton.1 hj]; exact List.nodup_nil
 ·rcases List.mem_append.1 hj with hj | hj
  ·exact h.puts j hj
  ·rw [List.mem_singleton.1 hj]; exact Nat.zero_le _
theorem rootis_img {ext : Nat → Nat} (h : Img 1 M i) (E : Exact M ext) (hP : i.P ≤ 240) : RootIs 1 M i.root i.l := by
 refine ⟨?_, h.tree.keys.1, h.tree.keys.2, fun y hy => ?_⟩
 ·obtain ⟨k, hr, hk, _⟩ := h.tree.rooted hP
  rcases hr with ⟨e1, e2, _⟩ | t
  ·exact .inl ⟨e1, e2⟩
  ·exact .inr ⟨k, by omega, t⟩
 ·have hh := heldB_int (h.tree.held E y hy)
  have := live_lt hh.2
  have := E.size
  omega
theorem img_none {ext : Nat → Nat} (h : Img 1 M i) (E : Exact M ext) {key : Int} (k0 : 0 ≤ key) (k1 : key < 64) (hf : findL i.l key = -1) : i.w key = zeros16 :=
 h.zero key k0 k1 (findL_neg (fun y hy => (heldB_int (h.tree.held E y hy)).1) hf)
theorem img_same {ext : Nat → Nat} (h : Img 1 M i) (h' : Img 1 M j) (E : Exact M ext) {key : Int} (k0 : 0 ≤ key) (k1 : key < 64) (hf : findL i.l key = findL j.l key) : i.w key = j.w key := by
 by_cases e : findL i.l key = -1
 ·rw [img_none h E k0 k1 e, img_none h' E k0 k1 (hf ▸ e)]
 ·have hi := findL_pos e
  have hj := findL_pos (hf ▸ e)
  obtain ⟨d, hd, _, e2, _⟩ := h.data _ hi
  obtain ⟨d', hd', _, e2', _⟩ := h'.data _ hj
  rw [show ((key, findL i.l key) : Int × Int).2.toNat = ((key, findL j.l key) : Int × Int).2.toNat by rw [hf]] at hd
  rw [hd] at hd'
  cases hd'
  exact e2.symm.trans e2'
theorem itemsW_of (wb : Int → List Nat) : ∀ (L : List (Int × Int)) (w : Int → List Nat) (key : Int), itemsW (itemsOf wb L) w key = if ∃ c ∈ L, c.1 = key then wb key else w key
 | [], w, key => by simp [itemsOf, itemsW]
 | c :: L, w, key => by
  have ih := itemsW_of wb L (upd w c.1 (wb c.1)) key
  rw [show itemsW (itemsOf wb (c :: L)) w key = itemsW (itemsOf wb L) (upd w c.1 (wb c.1)) key from rfl, ih]
  unfold upd
  by_cases h1 : ∃ c ∈ L, c.1 = key
  ·obtain ⟨d, hd, e⟩ := h1
   rw [if_pos ⟨d, hd, e⟩, if_pos ⟨d, List.mem_cons_of_mem _ hd, e⟩]
  ·rw [if_neg h1]
   by_cases h2 : key = c.1
   ·rw [if_pos h2, if_pos ⟨c, List.mem_cons_self .., h2.symm⟩, h2]
   ·rw [if_neg h2, if_neg (fun ⟨d, hd, e⟩ => by
     rcases List.mem_cons.1 hd with rfl | hd
     ·exact h2 e.symm
     ·exact h1 ⟨d, hd, e⟩)]
theorem changesL_mem {la lb : List (Int × Int)} {c : Int × Int} : c ∈ changesL la lb ↔ 0 ≤ c.1 ∧ c.1 < 64 ∧ findL la c.1 ≠ findL lb c.1 ∧ c.2 = findL lb c.1 := by
 unfold changesL
 rw [List.mem_filterMap]
 constructor
 ·rintro ⟨k, hk, e⟩
  have := List.mem_range.1 hk
  split at e
  ·cases e
  ·rename_i hne
   cases e
   exact ⟨by dsimp only; omega, by dsimp only; omega, hne, rfl⟩
 ·rintro ⟨h0, h1, hne, e⟩
  obtain ⟨k, hk⟩ := Int.eq_ofNat_of_zero_le h0
  refine ⟨k, List.mem_range.2 (by omega), ?_⟩
  rw [← hk, if_neg hne, ← e]
theorem lead_right (h : DelP n M is) (hi : i ∈ is) (hj : j ∈ is) : ∀ x ∈ itemsOf j.w (changesL i.l j.l), rightB x = true ∧ x.ok := fun x hx => by
 unfold itemsOf at hx
 obtain ⟨c, hc, rfl⟩ := List.mem_map.1 hx
 obtain ⟨h0, h1, _, e⟩ := changesL_mem.1 hc
 refine ⟨rightB_iff.2 ⟨⟨h0, h1⟩, fun hf => ?_⟩, (h.bytes j hj).len _, (h.bytes j hj).lt _⟩
 have hc2 : c.2 = -1 := by simpa using hf
 exact img_none (h.imgs.img j hj) h.imgs.exact h0 h1 (e ▸ hc2)
theorem lead_len (la lb : List (Int × Int)) (wb : Int → List Nat) : (itemsOf wb (changesL la lb)).length ≤ 64 := by
 rw [itemsOf_len]
 unfold changesL
 have := List.length_filterMap_le (fun (k : Nat) => if findL la (k : Int) = findL lb (k : Int) then none else some ((k : Int), findL lb (k : Int))) (List.range 64)
 rw [List.length_range] at this
 exact this
theorem lead_there (h : DelP n M is) (hi : i ∈ is) (hj : j ∈ is) {w : Int → List Nat} (hw : ∀ key, 0 ≤ key → key < 64 → w key = i.w key) {key : Int} (k0 : 0 ≤ key) (k1 : key < 64) : itemsW (itemsOf j.w (changesL i.l j.l)) w key = j.w key := by
 rw [itemsW_of]
 by_cases hc : ∃ c ∈ changesL i.l j.l, c.1 = key
 ·rw [if_pos hc]
 ·rw [if_neg hc, hw key k0 k1]
  refine img_same (h.imgs.img i hi) (h.imgs.img j hj) h.imgs.exact k0 k1 ?_
  exact Classical.byContradiction fun hne => hc ⟨(key, findL j.l key), changesL_mem.2 ⟨k0, k1, hne, rfl⟩, rfl⟩
end
theorem fm_congr {α β : Type} {f g : α → Option β} : ∀ l : List α, (∀ x ∈ l, f x = g x) → l.filterMap f = l.filterMap g
 | [], _ => rfl
 | x :: l, h => by
  rw [List.filterMap_cons, List.filterMap_cons, h x (List.mem_cons_self ..), fm_congr l (fun y hy => h y (List.mem_cons_of_mem _ hy))]
def blk (c : Nat) : List Nat := c :: List.replicate 15 0
theorem blk_len (c : Nat) : (blk c).length = 16 := rfl
theorem blk_lt {c : Nat} (h : c < 256) : ∀ x ∈ blk c, x < 256 := by
 intro x hx
 simp only [blk, List.mem_cons] at hx
 rcases hx with rfl | hx
 ·exact h
 ·rw [List.eq_of_mem_replicate hx]; decide
def exX : List ItemM := [⟨3, true, blk 1⟩, ⟨4, true, blk 2⟩]
def exY : List ItemM := [⟨4, true, blk 9⟩]
def exZ : List ItemM := [⟨3, false, zeros16⟩, ⟨4, true, blk 9⟩]
theorem exX_ok : ∀ x ∈ exX, rightB x = true ∧ x.ok := by
 intro x hx
 simp only [exX, List.mem_cons, List.not_mem_nil, or_false] at hx
 rcases hx with rfl | rfl
 ·exact ⟨rightB_iff.2 ⟨⟨by decide, by decide⟩, fun h => by cases h⟩, blk_len 1, blk_lt (by decide)⟩
 ·exact ⟨rightB_iff.2 ⟨⟨by decide, by decide⟩, fun h => by cases h⟩, blk_len 2, blk_lt (by decide)⟩
theorem exY_ok : ∀ x ∈ exY, rightB x = true ∧ x.ok := by
 intro x hx
 simp only [exY, List.mem_cons, List.not_mem_nil, or_false] at hx
 subst hx
 exact ⟨rightB_iff.2 ⟨⟨by decide, by decide⟩, fun h => by cases h⟩, blk_len 9, blk_lt (by decide)⟩
theorem alive17 : ∃ M1 a i1, (newM 56).deliver (-1) exX = (M1, a, 0) ∧ M1.log.length ≤ 60 ∧ ∃ M2 b i2, M1.deliver (-1) exY = (M2, b, 0) ∧ DelP 3 M2 [i1, i2] ∧ i1.root = a ∧ i2.root = b ∧ itemsOf i2.w (changesL i1.l i2.l) = exZ := by
 have h0 := DelP.fresh 56 (by decide)
 rcases del_deliver (k := 0) (i := .none) h0 rfl (xs := exX) (by decide) exX_ok (G := []) (fun q hq => by rw [newM_live] at hq; cases hq) with ⟨M1, a, i1, e, h1, e1, e2, e3, e4, e5⟩ | ⟨M', e, _, _, M1, i1, f1, f2, f3, f4, f5⟩
 ·have h1 : DelP 2 M1 [i1] := h1
  have e3 : i1.P ≤ 2 := Nat.le_trans e3 (by decide)
  refine ⟨M1, a, i1, e, h1.log, ?_⟩
  have h2 : DelP 2 M1 [i1, .none] := h1.none (by show 1 ≤ 5; decide)
  obtain ⟨G, g1, g2⟩ := h2.pages (by decide)
  have g2 : G.length ≤ (i1.P + 3) / 2 + i1.P + 1 := g2
  rcases del_deliver (k := 1) (i := .none) h2 rfl (xs := exY) (by decide) exY_ok (G := G) g1 with ⟨M2, b, i2, c, h3, c1, c2, c3, c4, c5⟩ | ⟨M', c, _, _, M3, i3, f1, f2, f3, f4, f5⟩
  ·have h3 : DelP 3 M2 [i1, i2] := h3
   refine ⟨M2, b, i2, c, h3, e1, c1, ?_⟩
   have m1 : i1 ∈ [i1, i2] := List.mem_cons_self ..
   have m2 : i2 ∈ [i1, i2] := List.mem_cons_of_mem _ (List.mem_cons_self ..)
   have I1 := h3.imgs.img i1 m1
   have I2 := h3.imgs.img i2 m2
   have k1 : ∀ y ∈ i1.l, y.1 = 3 ∨ y.1 = 4 := fun y hy => by
    rcases e5 y hy with ⟨x, hx, e⟩ | hy
    ·simp only [exX, List.mem_cons, List.not_mem_nil, or_false] at hx
     rcases hx with rfl | rfl
     ·exact .inl e
     ·exact .inr e
    ·cases hy
   have k2 : ∀ y ∈ i2.l, y.1 = 4 := fun y hy => by
    rcases c5 y hy with ⟨x, hx, e⟩ | hy
    ·simp only [exY, List.mem_cons, List.not_mem_nil, or_false] at hx
     subst hx
     exact e
    ·cases hy
   have w13 : i1.w 3 = blk 1 := by rw [e2]; rfl
   have w14 : i1.w 4 = blk 2 := by rw [e2]; rfl
   have w24 : i2.w 4 = blk 9 := by rw [c2]; rfl
   have w23 : i2.w 3 = zeros16 := by rw [c2]; rfl
   have f13 : findL i1.l 3 ≠ -1 := fun e => by
    have := img_none I1 h3.imgs.exact (by decide) (by decide) e
    rw [w13] at this
    exact absurd this (by decide)
   have f24 : findL i2.l 4 ≠ -1 := fun e => by
    have := img_none I2 h3.imgs.exact (by decide) (by decide) e
    rw [w24] at this
    exact absurd this (by decide)
   have f23 : findL i2.l 3 = -1 := findL_none fun y hy => by rw [k2 y hy]; decide
   have f4 : findL i1.l 4 ≠ findL i2.l 4 := fun e => by
    have := img_same I1 I2 h3.imgs.exact (by decide) (by decide) e
    rw [w14, w24] at this
    exact absurd this (by decide)
   have hc : changesL i1.l i2.l = [(3, -1), (4, findL i2.l 4)] := by
    unfold changesL
    have hf : ∀ k ∈ List.range 64, (fun (k : Nat) => if findL i1.l (k : Int) = findL i2.l (k : Int) then none else some ((k : Int), findL i2.l (k : Int))) k = (fun (k : Nat) => if k = 3 then some ((3 : Int), (-1 : Int)) else if k = 4 then some ((4 : Int), findL i2.l 4) else none) k := by
     intro k hk
     dsimp only
     by_cases h3 : k = 3
     ·subst h3
      rw [if_pos rfl, if_neg (fun e => f13 (e.trans f23))]
      show some ((3 : Int), findL i2.l 3) = _
      rw [f23]
     ·rw [if_neg h3]
      by_cases h4 : k = 4
      ·subst h4
       rw [if_pos rfl]
       show (if findL i1.l (4 : Int) = findL i2.l (4 : Int) then none else some ((4 : Int), findL i2.l (4 : Int))) = _
       rw [if_neg f4]
      ·rw [if_neg h4]
       have a1 : findL i1.l (k : Int) = -1 := findL_none fun y hy e => by have := k1 y hy; omega
       have a2 : findL i2.l (k : Int) = -1 := findL_none fun y hy e => by have := k2 y hy; omega
       rw [a1, a2, if_pos rfl]
    rw [fm_congr _ hf]
    rfl
   rw [hc]
   show [(⟨3, decide ((-1 : Int) ≠ -1), i2.w 3⟩ : ItemM), ⟨4, decide (findL i2.l 4 ≠ -1), i2.w 4⟩] = exZ
   rw [w23, w24, decide_eq_true f24]
   rfl
  ·exfalso
   have f1 : DelP 3 M3 [i1, i3] := f1
   have f2 : i3.P ≤ 1 := f2
   refine f1.short (by decide) f3 f4 f5 ?_
   rw [e4]
   show (i1.P + 3) / 2 + i1.P + ((i3.P + 3) / 2 + i3.P + 0) + G.length + 14 ≤ 56
   omega
 ·exfalso
  have f1 : DelP 2 M1 [i1] := f1
  have f2 : i1.P ≤ 2 := f2
  refine f1.short (by decide) f3 f4 f5 ?_
  show (i1.P + 3) / 2 + i1.P + 0 + 0 + 14 ≤ 56
  omega
set_option maxRecDepth 100000

set_option maxHeartbeats 4000000 in
theorem made17 (x : Int) (h0 : 4 ≤ x) (h1 : x ≤ 1000) (w : World) :
  Calls Tryz.prog 28 #[.int .i64 x] w fun e w' => ∃ A, e = .returned (.agg #[.pointer (some ⟨A.sb, 0, none⟩)]) ∧ StoreAt w' A (newM (min x 244 - 4).toNat) ∧ Kept (fun _ => False) w w' ∧ ∀ k, A.own k → w.heap.size ≤ k := by
 obtain ⟨s, hs⟩ : ∃ s, (min x 244 - 4).toNat = s := ⟨_, rfl⟩
 have hsz : Hid (clampN (max 0 (min x 244 - 4)) = s) := h_ (by unfold clampN; omega)
 have hdn : Hid (max 0 (min x 244) = ((s + 4 : Nat) : Int)) := h_ (by omega)
 have hs1 : s ≤ 240 := by omega
 obtain ⟨rb, hrb⟩ : ∃ rb, w.heap.size = rb := ⟨_, rfl⟩
 obtain ⟨w1, hw1⟩ : ∃ w1, w.alloc (.cells #[.pointer none] 32) = w1 := ⟨_, rfl⟩
 have k1 := h_ (show Kept (fun _ => False) w w1 by rw [← hw1]; exact (Kept.refl _ _).alloc _)
 have q1 := h_ (show w1.heap[rb]? = some (.cells #[.pointer none] 32 (0, 0)) by rw [← hw1, ← hrb]; exact heap_alloc_new _ _)
 have hrbw : Hid (w.heap.size = rb ∧ w1.heap.size = rb + 1) := h_ ⟨hrb, by rw [← hw1, ← hrb]; simp⟩
 have hw1' := h_ hw1
 have hrb' := h_ hrb
 rw [hs]
 clear hw1 hrb hs
 go_enter Tryz.func28, Tryz.ntmps28
 go_wp2_with (first | (refine wpList_alloc_as 32 rfl rfl #[.pointer none] images_zero ?_; rw [hw1'.out, hrb'.out]))
 refine (diskNew (s + 4) (by omega) x hdn.out _).mono ?_
 rintro e w2 ⟨D, rfl, hD, hDn, hDp, hDo, hk2⟩
 have hD' := h_ hD
 have hDn' := h_ hDn
 have hDp' := h_ hDp
 have hDo' := h_ hDo
 have hk2' := h_ hk2
 clear hD hDn hDp hDo hk2
 go_wp2_with fail
 refine (nodesSize x _ (by omega) h1).mono ?_
 rintro e w3 ⟨rfl, rfl⟩
 go_wp2_with fail
 refine (new_any _ _).mono ?_
 rintro e w3 ⟨c, rfl, hnew⟩
 have hP := hnew.pool
 rw [hsz.out] at hP
 have hP' := h_ hP
 have hck := hnew.new
 have hk3 := h_ hnew.kept
 clear hnew hP
 go_wp2_with fail
 refine (nodesNew (hD'.out.fresh hk3.out) hP'.out hDp'.out (fun e => by have := hD'.out.lt _ e; omega) (.inr (by rw [hDn'.out]; exact Nat.le_refl _))).mono ?_
 rintro e w4 ⟨A, rfl, hA, hk4, hAo⟩
 have hA' := h_ hA
 have hk14 := h_ (((hk2'.out.trans hk3.out).trans hk4))
 have hAo' : Hid (∀ k, A.own k → w1.heap.size ≤ k) := h_ (fun k hk => by
  rcases hAo k hk with rfl | h | h
  ·have := hk2'.out.size; omega
  ·exact hDo'.out _ h
  ·have := hk2'.out.size; have := hk3.out.size; omega)
 clear hA hk4 hAo
 go_wp2_with fail
 refine (imageOver A.sb _).mono ?_
 rintro e w5 ⟨rfl, hk5⟩
 have q5 := h_ (hk5.get (hk14.out.get q1.out id) id)
 have k15 := h_ ((k1.out.trans hk14.out).trans hk5)
 have hA5 := h_ (hA'.out.fresh hk5)
 clear hk5
 go_wp2_with (first | (refine wpList_store_whole 32 rfl rfl rfl [.pointer (some ⟨A.sb, 0, none⟩)] rfl images_size 32 #[.pointer none] q5.out rfl (by intro c hc; simp at hc; subst hc; rfl) ?_))
 refine bodyPost_ret (results_row1 rfl _ _ rb 32 #[.pointer (some ⟨A.sb, 0, none⟩)] (0, 0) _ rfl (setRow_heap _ _ _ _ 32 (0, 0) q5.out) Tryz.underlying32 rfl images_size) rfl ?_
 have kS := Kept.setRow (S := fun i => i = rb) (Kept.refl _ w5) rfl #[.pointer (some ⟨A.sb, 0, none⟩)]
 exact ⟨A, rfl, hA5.out.kept kS (fun i hi e => by have h1 := hAo'.out i hi; have h2 := hrbw.out.2; omega), k15.out.setRowNew (by have := hrbw.out.1; omega) _, fun k hk => by have h1 := hAo'.out k hk; have h2 := hrbw.out; omega⟩
theorem run_buildSlice_item2 (w : World) {I J : List Value} (hI : I.length = 18) (hJ : J.length = 18) : (Instr.buildSlice 63 2 #[(0, .agg I.toArray), (1, .agg J.toArray)]).run Tryz.prog w = .ok (.slice (some ⟨w.heap.size, 0, none⟩) 2 2) (w.alloc (.cells (I ++ J).toArray 61)) := by
 obtain ⟨i0, hi0, hz0, hz1, hz2⟩ := info_parts item_info
 refine run_buildSlice w _ _ 2 _ _ i0 _ Tryz.underlying63 hi0 hz0 (by rw [hz1]; omega) (by rw [hz1]; omega) ?_
 rw [hz1]
 refine (Go.Great.fill_whole (s := 18) (by omega) [.agg I.toArray, .agg J.toArray] _ ?_ ?_).trans ?_
 ·intro v hv
  simp only [List.mem_cons, List.not_mem_nil, or_false] at hv
  rcases hv with rfl | rfl
  ·simpa [Value.cells] using hI
  ·simpa [Value.cells] using hJ
 ·simp
 ·simp [Value.cells]
theorem items_lit {w : World} {A : SA} {M : SM} (h : StoreAt w A M) {X : List Value} {l : List ItemM} (hX : l.flatMap itemCells = X) (hl : l.length ≤ 1000) {n : Nat} (hn : l.length = n) : ItemsOff (w.alloc (.cells X.toArray 61)) A (.slice (some ⟨w.heap.size, 0, none⟩) n n) l := by
 subst hn
 subst hX
 refine ⟨SliceAt.block_new (heap_alloc_new _ _) (items_len l) (by unfold maxLen; omega), fun _ b hb => ?_⟩
 simp [Value.ownBlock] at hb
 subst hb
 exact ⟨by simp, fun e => Nat.lt_irrefl _ (h.lt (.inl e))⟩
set_option maxHeartbeats 8000000 in
theorem deltaAlive (w : World) : Calls Tryz.prog 30 #[] w fun e w' => e = .returned (.bool true) ∧ Kept (fun _ => False) w w' := by
 obtain ⟨M1, a, i1, hW, hlog1, M2, b, i2, hV, hD, ha, hb, hZ⟩ := alive17
 have hm := fun w => made17 60 (by decide) (by decide) w
 rw [show (min (60 : Int) 244 - 4).toNat = 56 from by decide] at hm
 have hm' := h_ hm
 have hW' := h_ hW
 have hV' := h_ hV
 have hD' := h_ hD
 have ha' := h_ ha
 have hb' := h_ hb
 have hZ' := h_ hZ
 have hlog1' := h_ hlog1
 obtain ⟨C1, hC1⟩ : ∃ C, blockCells (blk 1) = C := ⟨_, rfl⟩
 obtain ⟨C2, hC2⟩ : ∃ C, blockCells (blk 2) = C := ⟨_, rfl⟩
 obtain ⟨C9, hC9⟩ : ∃ C, blockCells (blk 9) = C := ⟨_, rfl⟩
 obtain ⟨X1, hX1⟩ : ∃ X, itemCells ⟨3, true, blk 1⟩ = X := ⟨_, rfl⟩
 obtain ⟨X2, hX2⟩ : ∃ X, itemCells ⟨4, true, blk 2⟩ = X := ⟨_, rfl⟩
 obtain ⟨X9, hX9⟩ : ∃ X, itemCells ⟨4, true, blk 9⟩ = X := ⟨_, rfl⟩
 obtain ⟨X0, hX0⟩ : ∃ X, itemCells ⟨3, false, zeros16⟩ = X := ⟨_, rfl⟩
 have bc1 : Hid (∀ w, (Instr.build 35 #[(0, .int .u8 1)]).run Tryz.prog w = .ok (.agg C1.toArray) w) := h_ (fun w => by rw [← hC1]; exact run_build _ _ _ _ (by kernel_rfl))
 have bc2 : Hid (∀ w, (Instr.build 35 #[(0, .int .u8 2)]).run Tryz.prog w = .ok (.agg C2.toArray) w) := h_ (fun w => by rw [← hC2]; exact run_build _ _ _ _ (by kernel_rfl))
 have bc9 : Hid (∀ w, (Instr.build 35 #[(0, .int .u8 9)]).run Tryz.prog w = .ok (.agg C9.toArray) w) := h_ (fun w => by rw [← hC9]; exact run_build _ _ _ _ (by kernel_rfl))
 have bx1 : Hid (∀ w, (Instr.build 61 #[(0, .int .i64 3), (1, .bool true), (2, .agg C1.toArray)]).run Tryz.prog w = .ok (.agg X1.toArray) w) := h_ (fun w => by rw [← hX1, ← hC1]; exact run_build _ _ _ _ (by kernel_rfl))
 have bx2 : Hid (∀ w, (Instr.build 61 #[(0, .int .i64 4), (1, .bool true), (2, .agg C2.toArray)]).run Tryz.prog w = .ok (.agg X2.toArray) w) := h_ (fun w => by rw [← hX2, ← hC2]; exact run_build _ _ _ _ (by kernel_rfl))
 have bx9 : Hid (∀ w, (Instr.build 61 #[(0, .int .i64 4), (1, .bool true), (2, .agg C9.toArray)]).run Tryz.prog w = .ok (.agg X9.toArray) w) := h_ (fun w => by rw [← hX9, ← hC9]; exact run_build _ _ _ _ (by kernel_rfl))
 have bx0 : Hid (∀ w, (Instr.build 61 #[(0, .int .i64 3)]).run Tryz.prog w = .ok (.agg X0.toArray) w) := h_ (fun w => by rw [← hX0]; exact run_build _ _ _ _ (by kernel_rfl))
 have l1 : Hid (X1.length = 18) := h_ (by rw [← hX1]; exact itemCells_len _)
 have l2 : Hid (X2.length = 18) := h_ (by rw [← hX2]; exact itemCells_len _)
 have l9 : Hid (X9.length = 18) := h_ (by rw [← hX9]; exact itemCells_len _)
 have l0 : Hid (X0.length = 18) := h_ (by rw [← hX0]; exact itemCells_len _)
 have hX : Hid (exX.flatMap itemCells = X1 ++ X2) := h_ (by rw [← hX1, ← hX2]; simp [exX])
 have hY : Hid (exY.flatMap itemCells = X9) := h_ (by rw [← hX9]; simp [exY])
 have hZc : Hid (exZ.flatMap itemCells = X0 ++ X9) := h_ (by rw [← hX0, ← hX9]; simp [exZ])
 have q0 : Hid (∀ (o : Oper) (a : Act) (w : World) (x y : Operand) (u : TypeId), o.op = .binOp .eql 61 x y u → a.eval x = .agg X0.toArray → a.eval y = .agg X0.toArray → (execOp a.eval o).run Tryz.prog w = .ok (.value (.bool true)) w) := h_ (fun o a w x y u ho hx hy => by
  have := exec_eql_item (p := ⟨3, false, zeros16⟩) (q := ⟨3, false, zeros16⟩) ho rfl rfl (by rw [hX0]; exact hx) (by rw [hX0]; exact hy) w
  rw [itemEq_refl] at this
  exact this)
 have q9 : Hid (∀ (o : Oper) (a : Act) (w : World) (x y : Operand) (u : TypeId), o.op = .binOp .eql 61 x y u → a.eval x = .agg X9.toArray → a.eval y = .agg X9.toArray → (execOp a.eval o).run Tryz.prog w = .ok (.value (.bool true)) w) := h_ (fun o a w x y u ho hx hy => by
  have := exec_eql_item (p := ⟨4, true, blk 9⟩) (q := ⟨4, true, blk 9⟩) ho rfl rfl (by rw [hX9]; exact hx) (by rw [hX9]; exact hy) w
  rw [itemEq_refl] at this
  exact this)
 have hCh := fun w => deltaChunks 5 2 (by decide) (by decide) w
 rw [show chunksI 5 2 = 3 by decide] at hCh
 have hCh' := h_ hCh
 clear hm hW hV hD ha hb hZ hlog1 hC1 hC2 hC9 hX1 hX2 hX9 hX0 hCh
 go_enter Tryz.func30, Tryz.ntmps30
 go_wp2_with fail
 refine (hm'.out _).mono ?_
 rintro e w1 ⟨A, rfl, hA, hk, hn⟩
 obtain ⟨vb, hvb⟩ : ∃ vb, w1.heap.size = vb := ⟨_, rfl⟩
 have hO := ImVar.made (b := vb) ⟨hA, hk, hn⟩ hvb
 obtain ⟨w2, hw2⟩ : ∃ w2, (w1.alloc (.cells #[.pointer none] 32)).setRow vb #[.pointer (some ⟨A.sb, 0, none⟩)] = w2 := ⟨_, rfl⟩
 rw [hw2] at hO
 obtain ⟨hO2, hV2⟩ := hO
 have O2 := h_ hO2
 have V2 := h_ hV2
 have hw2' := h_ hw2
 have hvb' := h_ hvb
 obtain ⟨sb, hsb⟩ : ∃ sb, A.sb = sb := ⟨_, rfl⟩
 obtain ⟨w3, hw3⟩ : ∃ w3, w2.alloc (.cells (X1 ++ X2).toArray 61) = w3 := ⟨_, rfl⟩
 have k3 : Kept (fun _ => False) w2 w3 := by rw [← hw3]; exact (Kept.refl _ _).alloc _
 have hAp := deltaApply (hO2.store.fresh k3) (-1) (v := .slice (some ⟨w2.heap.size, 0, none⟩) 2 2) (l := exX) (by rw [← hw3]; exact items_lit hO2.store hX.out (by decide) rfl) (by decide) (fun x hx => (exX_ok x hx).2) (by show 0 + 200000 < 100000000; omega)
 rw [hW'.out, hsb] at hAp
 dsimp only at hAp
 have hAp' := h_ hAp
 have O3 := h_ (O2.out.fresh k3)
 have V3 := h_ (V2.out.fresh k3)
 have hw3' := h_ hw3
 rw [hsb] at hw2' V2 V3 ⊢
 have c20 := V2.out.c0
 have hld2 := h_ V2.out.load
 clear hA hk hn hw2 hvb hO2 hV2 hAp hw3 k3
 go_wp2_with (first | (refine wpList_alloc_as 32 rfl rfl #[.pointer none] images_zero ?_; rw [hvb'.out]) | (refine wpList_store_whole 32 rfl rfl rfl [.pointer (some ⟨sb, 0, none⟩)] rfl images_size 32 #[.pointer none] (by rw [← hvb'.out]; exact heap_alloc_new _ _) rfl (by intro c hc; simp at hc; subst hc; rfl) ?_; rw [hw2'.out]) | (refine wpList_load_agg 32 rfl rfl rfl _ Tryz.underlying32 rfl [.pointer (some ⟨sb, 0, none⟩)] (by kernel_rfl) hld2.out ?_) | (refine wpList_exec rfl (exec_build 35 #[(0, .const (.int .u8 1))] _ rfl (by simp [Act.eval]) (bc1.out _)) ?_) | (refine wpList_exec rfl (exec_build 35 #[(0, .const (.int .u8 2))] _ rfl (by simp [Act.eval]) (bc2.out _)) ?_) | (refine wpList_exec rfl (exec_build 61 #[(0, .const (.int .i64 3)), (1, .const (.bool true)), (2, .tmp 17)] #[(0, .int .i64 3), (1, .bool true), (2, .agg C1.toArray)] rfl (by simp [Act.eval, Act.put]) (bx1.out _)) ?_) | (refine wpList_exec rfl (exec_build 61 #[(0, .const (.int .i64 4)), (1, .const (.bool true)), (2, .tmp 19)] #[(0, .int .i64 4), (1, .bool true), (2, .agg C2.toArray)] rfl (by simp [Act.eval, Act.put]) (bx2.out _)) ?_) | (refine wpList_exec rfl (exec_buildSlice 63 2 #[(0, .tmp 18), (1, .tmp 20)] #[(0, .agg X1.toArray), (1, .agg X2.toArray)] rfl (by simp [Act.eval, Act.put]) (run_buildSlice_item2 _ l1.out l2.out)) ?_; rw [hw3'.out]))
 refine hAp'.out.mono ?_
 rintro e w4 ⟨A4, rfl, hT4⟩
 have O4 := h_ (O3.out.to hT4)
 have V4 := h_ (V3.out.to hT4)
 obtain ⟨w5, hw5⟩ : ∃ w5, w4.alloc (.cells X9.toArray 61) = w5 := ⟨_, rfl⟩
 have k5 : Kept (fun _ => False) w4 w5 := by rw [← hw5]; exact (Kept.refl _ _).alloc _
 have hAq := deltaApply (O4.out.store.fresh k5) (-1) (v := .slice (some ⟨w4.heap.size, 0, none⟩) 1 1) (l := exY) (by rw [← hw5]; exact items_lit O4.out.store hY.out (by decide) rfl) (by decide) (fun x hx => (exY_ok x hx).2) (by have := hlog1'.out; omega)
 rw [hV'.out, V4.out.eq] at hAq
 dsimp only at hAq
 have hAq' := h_ hAq
 have O5 := h_ (O4.out.fresh k5)
 have V5 := h_ (V4.out.fresh k5)
 have hld4 := h_ V4.out.load
 have hw5' := h_ hw5
 clear hT4 hAq hw5 k5 c20
 go_wp2_with (first | (refine wpList_load_agg 32 rfl rfl rfl _ Tryz.underlying32 rfl [.pointer (some ⟨sb, 0, none⟩)] (by kernel_rfl) hld4.out ?_) | (refine wpList_exec rfl (exec_build 35 #[(0, .const (.int .u8 9))] _ rfl (by simp [Act.eval]) (bc9.out _)) ?_) | (refine wpList_exec rfl (exec_build 61 #[(0, .const (.int .i64 4)), (1, .const (.bool true)), (2, .tmp 27)] #[(0, .int .i64 4), (1, .bool true), (2, .agg C9.toArray)] rfl (by simp [Act.eval, Act.put]) (bx9.out _)) ?_) | (refine wpList_exec rfl (exec_buildSlice 63 1 #[(0, .tmp 28)] #[(0, .agg X9.toArray)] rfl (by simp [Act.eval, Act.put]) (run_buildSlice_item _ l9.out)) ?_; rw [hw5'.out]))
 refine hAq'.out.mono ?_
 rintro e w6 ⟨A6, rfl, hT6⟩
 have O6 := h_ (O5.out.to hT6)
 have V6 := h_ (V5.out.to hT6)
 have m1 : i1 ∈ [i1, i2] := List.mem_cons_self ..
 have m2 : i2 ∈ [i1, i2] := List.mem_cons_of_mem _ (List.mem_cons_self ..)
 have I1 := hD'.out.imgs.img i1 m1
 have I2 := hD'.out.imgs.img i2 m2
 have P1 := hD'.out.puts i1 m1
 have P2 := hD'.out.puts i2 m2
 have By2 := hD'.out.bytes i2 m2
 have hIt := deltaItems O6.out.store (rootis_img I1 hD'.out.imgs.exact (by omega)) (rootis_img I2 hD'.out.imgs.exact (by omega)) By2 (fun key k0 k1 => ⟨I2.tree.find hD'.out.imgs.exact (by omega) key, img_pageOf I2 hD'.out.imgs.exact By2 k0 k1⟩)
 rw [← itemsOf_len i2.w (changesL i1.l i2.l), hZ'.out, ha'.out, hb'.out, V6.out.eq, hZc.out] at hIt
 have hIt' := h_ hIt
 have hld6 := h_ V6.out.load
 clear hT6 hIt I1 I2 P1 P2 By2 m1 m2
 go_wp2_with (first | (refine wpList_load_agg 32 rfl rfl rfl _ Tryz.underlying32 rfl [.pointer (some ⟨sb, 0, none⟩)] (by kernel_rfl) hld6.out ?_))
 refine hIt'.out.mono ?_
 rintro e w7 ⟨v, rfl, hrow, k7⟩
 have hrow : w7.ownsRow w6.heap.size 61 18 v 2 (X0 ++ X9) := hrow
 have O7 := h_ (O6.out.fresh k7)
 rcases hrow.2 with ⟨_, h0⟩ | ⟨g, cp, cur, rfl, hgb, hgc, hn2, hm2, hs2, ht2⟩
 ·exact absurd h0 (by decide)
 have hsl := SliceAt.of_owns hrow
 have hZsl : ItemsAt w7 (.slice (some ⟨g, 0, none⟩) 2 cp) exZ := by
  unfold ItemsAt
  rw [hZc.out]
  exact hsl
 have hZs := h_ hZsl
 have hlo0 : Hid (∀ j u, X0[j]? = some u → w7.cell? ⟨g, 0 + j, none⟩ = some u) := h_ (fun j u hj => hsl.cell0 (by
  rw [List.getElem?_append_left (List.getElem?_eq_some_iff.1 hj).1]; exact hj))
 have hlo9 : Hid (∀ j u, X9[j]? = some u → w7.cell? ⟨g, 18 + j, none⟩ = some u) := h_ (fun j u hj => by
  have := hsl.cell0 (j := 18 + j) (v := u) (by rw [List.getElem?_append_right (by rw [l0.out]; omega), l0.out, Nat.add_sub_cancel_left]; exact hj)
  rw [Nat.zero_add] at this
  exact this)
 unfold maxLen at hm2
 clear k7 hrow hgb hgc hs2 ht2 hsl hZsl
 go_wp2_with (first | (refine wpList_exec_g (by rfl) (exec_load_agg (g := g) (off := 0) rfl rfl X0 Tryz.underlying61 rfl (by rw [l0.out]; exact item_size) hlo0.out) ?_) | (refine wpList_exec_g (by rfl) (exec_load_agg (g := g) (off := 18) rfl rfl X9 Tryz.underlying61 rfl (by rw [l9.out]; exact item_size) hlo9.out) ?_) | (refine wpList_exec_g (by rfl) (exec_build 35 #[(0, .const (.int .u8 9))] _ rfl (by simp [Act.eval]) (bc9.out _)) ?_) | (refine wpList_exec_g (by rfl) (exec_build 61 #[(0, .const (.int .i64 3))] _ rfl (by simp [Act.eval]) (bx0.out _)) ?_) | (refine wpList_exec_g (by rfl) (exec_build 61 #[(0, .const (.int .i64 4)), (1, .const (.bool true)), (2, .tmp 66)] #[(0, .int .i64 4), (1, .bool true), (2, .agg C9.toArray)] rfl (by simp [Act.eval, Act.put]) (bx9.out _)) ?_) | (refine wpList_exec_g (by rfl) (q0.out _ _ _ (.tmp 58) (.tmp 59) 61 rfl (by rfl) (by rfl)) ?_) | (refine wpList_exec_g (by rfl) (q9.out _ _ _ (.tmp 65) (.tmp 67) 61 rfl (by rfl) (by rfl)) ?_))
 refine (hCh'.out _).mono ?_
 rintro e w8 ⟨rfl, k8⟩
 have hcl := deltaChunk (SliceAt.fresh hZs.out k8) (by decide) 1 1
 rw [show (chunkL exZ (boundI 1).toNat 1).length = 1 by decide] at hcl
 have hcl' := h_ hcl
 have k08 := h_ (O7.out.kept.trans k8)
 clear k8 hcl
 go_wp2_with fail
 refine hcl'.out.mono ?_
 rintro e w9 ⟨u, rfl, hown, k9⟩
 obtain ⟨_, Au, cu, rfl, hu1, hu2, _⟩ := SliceAt.of_owns hown
 have fin := h_ (k08.out.trans k9)
 clear hown k9
 go_wp2_with fail
 go_ret
 exact ⟨rfl, fin.out⟩

theorem itemsW_bytes {f : Int → List Nat} (h : Bytes f) : ∀ l : List ItemM, (∀ x ∈ l, x.ok) → Bytes (itemsW l f)
 | [], _ => h
 | x :: l, hok => itemsW_bytes (h.upd x.key (hok x (List.mem_cons_self ..)).1 (hok x (List.mem_cons_self ..)).2) l (fun y hy => hok y (List.mem_cons_of_mem _ hy))
theorem itemsW_take (f : Int → List Nat) {l : List ItemM} {k : Nat} {x : ItemM} (h : l[k]? = some x) : itemsW (l.take (k + 1)) f = upd (itemsW (l.take k) f) x.key x.block := by
 obtain ⟨hk, rfl⟩ := List.getElem?_eq_some_iff.1 h
 unfold itemsW
 rw [List.take_add_one, List.getElem?_eq_getElem hk, List.foldl_append]
 rfl
set_option maxHeartbeats 4000000 in
theorem ref17All {w : World} {v : Value} {l : List ItemM} (hv : ItemsAt w v l) (hok : ∀ x ∈ l, x.ok) :
  Calls Tryz.prog 41 #[v] w fun e w' => e = .returned (.bool (l.all rightB)) ∧ Kept (fun _ => False) w w' := by
 obtain ⟨_, Av, cv, rfl, hv1, hv2, _⟩ := id hv
 unfold maxLen at hv2
 have hv' := h_ hv
 have hok' := h_ hok
 obtain ⟨Z, hZ⟩ : ∃ Z, itemCells .zero = Z := ⟨_, rfl⟩
 have hZz : Hid ((Tryz.prog.info? 61).map (·.zero) = some (some (.agg Z.toArray))) := h_ (by rw [← hZ]; exact item_zero)
 have hZl : Hid (Z.length = 18) := h_ (by rw [← hZ]; exact itemCells_len _)
 have hyes : Hid ((∀ (j : Nat) (y : ItemM), j < l.length → l[j]? = some y → rightB y = true) → l.all rightB = true) := h_ (fun h => by
  rw [List.all_eq_true]
  intro x hx
  obtain ⟨j, hj, rfl⟩ := List.getElem_of_mem hx
  exact h j _ hj (List.getElem?_eq_getElem hj))
 have hno : Hid (∀ (k : Nat) (x : ItemM), l[k]? = some x → rightB x = false → l.all rightB = false) := h_ (fun k x hx h => by
  rw [List.all_eq_false]
  exact ⟨x, List.mem_of_getElem? hx, by rw [h]; decide⟩)
 clear hv hok hZ
 go_enter Tryz.func41, Tryz.ntmps41
 go_wp2_with fail
 go_loopw [7] (fun i wr => ∃ k : Nat, k ≤ l.length ∧ i = .int .i64 k ∧ Hid ((∀ (j : Nat) (y : ItemM), j < k → l[j]? = some y → rightB y = true) ∧ Kept (fun _ => False) w wr)) (fun i _ => l.length - (intOf i).toNat)
 case atStart => exact ⟨0, Nat.zero_le _, rfl, h_ ⟨fun j _ hj => by omega, Kept.refl _ _⟩⟩
 case round =>
  obtain ⟨k, hk, rfl, hpre⟩ := hrel
  by_cases hlt : k < l.length
  ·obtain ⟨x, hx⟩ : ∃ x, l[k]? = some x := ⟨_, List.getElem?_eq_getElem hlt⟩
   obtain ⟨b, off, rfl, hb, hcb⟩ := ItemsAt.get hv'.out hx
   have hfx := fun w => ref17Right (hok'.out x (List.mem_of_getElem? hx)) w
   obtain ⟨I, hI⟩ : ∃ I, itemCells x = I := ⟨_, rfl⟩
   have hIl : Hid (I.length = 18) := h_ (by rw [← hI]; exact itemCells_len _)
   have hI1 : Hid (∀ v ∈ I, v.oneCell' = true) := h_ (by rw [← hI]; exact itemCells_one _)
   rw [hI] at hfx hcb
   have hcb' : Hid (∀ j v, I[j]? = some v → wr.cell? ⟨b, off + k * 18 + j, none⟩ = some v) := h_ (fun j v hj => hpre.out.2.cell (hcb j v hj) id)
   obtain ⟨z, hz⟩ : ∃ z, rightB x = z := ⟨_, rfl⟩
   rw [hz] at hfx
   have hfx' := h_ hfx
   have hz' := h_ hz
   have hx' := h_ hx
   have hki : (k : Int) < (l.length : Int) := by omega
   obtain ⟨xb, hxb⟩ : ∃ xb, wr.heap.size = xb := ⟨_, rfl⟩
   obtain ⟨w3, hw3⟩ : ∃ w3, (wr.alloc (.cells Z.toArray 61)).setRow xb I.toArray = w3 := ⟨_, rfl⟩
   have k3 : Kept (fun _ => False) wr w3 := by rw [← hw3]; exact ((Kept.refl _ _).alloc _).setRowNew (by omega) _
   have q3 : w3.heap[xb]? = some (.cells I.toArray 61 (0, 0)) := by rw [← hw3, ← hxb]; exact setRow_heap _ _ _ _ _ _ (heap_alloc_new _ _)
   have hl3 : Hid (∀ j v, I[j]? = some v → w3.cell? ⟨xb, 0 + j, none⟩ = some v) := h_ (fun j v hj => by rw [Nat.zero_add, cell_of_heap q3]; simpa using hj)
   have K3 := h_ (hpre.out.2.trans k3)
   have hw3' := h_ hw3
   have hxb' := h_ hxb
   clear hz hx hfx hcb hI hb hxb hw3 k3 q3
   cases z
   ·go_wp2_with (first | (refine wpList_load_agg 61 rfl rfl rfl _ Tryz.underlying61 rfl I (by rw [hIl.out]; exact item_size) hcb'.out ?_) | (refine wpList_load_agg 61 rfl rfl rfl _ Tryz.underlying61 rfl I (by rw [hIl.out]; exact item_size) hl3.out ?_) | (refine wpList_alloc_as 61 rfl rfl Z.toArray hZz.out ?_; rw [hxb'.out]) | (refine wpList_store_whole 61 rfl rfl rfl I rfl (by rw [hIl.out]; exact item_size) 61 Z.toArray (by rw [← hxb'.out]; exact heap_alloc_new _ _) (by simp [hZl.out, hIl.out]) hI1.out ?_; rw [hw3'.out]))
    refine (hfx'.out _).mono ?_
    rintro e w' ⟨rfl, hk'⟩
    have fin := h_ (K3.out.trans hk')
    clear hk'
    go_wp2_with fail
    go_ret
    exact ⟨by rw [hno.out k x hx'.out hz'.out]; rfl, fin.out⟩
   ·go_wp2_with (first | (refine wpList_load_agg 61 rfl rfl rfl _ Tryz.underlying61 rfl I (by rw [hIl.out]; exact item_size) hcb'.out ?_) | (refine wpList_load_agg 61 rfl rfl rfl _ Tryz.underlying61 rfl I (by rw [hIl.out]; exact item_size) hl3.out ?_) | (refine wpList_alloc_as 61 rfl rfl Z.toArray hZz.out ?_; rw [hxb'.out]) | (refine wpList_store_whole 61 rfl rfl rfl I rfl (by rw [hIl.out]; exact item_size) 61 Z.toArray (by rw [← hxb'.out]; exact heap_alloc_new _ _) (by simp [hZl.out, hIl.out]) hI1.out ?_; rw [hw3'.out]))
    refine (hfx'.out _).mono ?_
    rintro e w' ⟨rfl, hk'⟩
    have fin : Hid ((∀ (j : Nat) (y : ItemM), j < k + 1 → l[j]? = some y → rightB y = true) ∧ Kept (fun _ => False) w w') := h_ ⟨fun j y hj hy => by
     rcases Nat.lt_or_ge j k with h1 | h1
     ·exact hpre.out.1 j y h1 hy
     ·obtain rfl : j = k := by omega
      rw [hx'.out] at hy
      cases hy
      exact hz'.out, K3.out.trans hk'⟩
    clear hk'
    go_wp2_with fail
    go_roundw
    case rel => exact ⟨k + 1, by omega, by go_num, fin⟩
    case measure => simp [intOf]; omega
  ·obtain rfl : k = l.length := by omega
   have hki : ¬ ((l.length : Int) < (l.length : Int)) := by omega
   go_wp2_with fail
   go_ret
   exact ⟨by rw [hyes.out hpre.out.1]; rfl, hpre.out.2⟩
set_option maxHeartbeats 4000000 in
theorem ref17Apply {w : World} {f : Int → List Nat} (hB : Bytes f) {v : Value} {l : List ItemM} (hv : ItemsAt w v l) (hok : ∀ x ∈ l, rightB x = true ∧ x.ok) :
  Calls Tryz.prog 43 #[.agg (imgCells f).toArray, v] w fun e w' => e = .returned (.agg (imgCells (itemsW l f)).toArray) ∧ Kept (fun _ => False) w w' := by
 obtain ⟨_, Av, cv, rfl, hv1, hv2, _⟩ := id hv
 unfold maxLen at hv2
 obtain ⟨I, hI⟩ : ∃ I, imgCells f = I := ⟨_, rfl⟩
 obtain ⟨Z, hZ⟩ : ∃ Z, List.replicate 1024 (Value.int .u8 0) = Z := ⟨_, rfl⟩
 obtain ⟨Y, hY⟩ : ∃ Y, itemCells .zero = Y := ⟨_, rfl⟩
 have hYz : Hid ((Tryz.prog.info? 61).map (·.zero) = some (some (.agg Y.toArray))) := h_ (by rw [← hY]; exact item_zero)
 have hYl : Hid (Y.length = 18) := h_ (by rw [← hY]; exact itemCells_len _)
 have hZl : Hid (Z.length = 1024) := h_ (by rw [← hZ]; exact List.length_replicate)
 have hZz : Hid ((Tryz.prog.info? 37).map (·.zero) = some (some (.agg Z.toArray))) := h_ (by rw [← hZ]; exact img_zero)
 obtain ⟨mb, hmb⟩ : ∃ mb, w.heap.size = mb := ⟨_, rfl⟩
 obtain ⟨w1, hw1⟩ : ∃ w1, w.alloc (.cells I.toArray 37) = w1 := ⟨_, rfl⟩
 obtain ⟨rb, hrb⟩ : ∃ rb, w1.heap.size = rb := ⟨_, rfl⟩
 obtain ⟨w2, hw2⟩ : ∃ w2, w1.alloc (.cells Z.toArray 37) = w2 := ⟨_, rfl⟩
 have k1 : Kept (fun _ => False) w w1 := by rw [← hw1]; exact (Kept.refl _ _).alloc _
 have k2 : Kept (fun _ => False) w1 w2 := by rw [← hw2]; exact (Kept.refl _ _).alloc _
 have q1 : w1.heap[mb]? = some (.cells I.toArray 37 (0, 0)) := by rw [← hw1, ← hmb]; exact heap_alloc_new _ _
 have q2 : w2.heap[rb]? = some (.cells Z.toArray 37 (0, 0)) := by rw [← hw2, ← hrb]; exact heap_alloc_new _ _
 have S0 : Hid (ClSt w mb rb f w2) := h_ ⟨by rw [hI]; exact k2.get q1 id, by rw [hZ]; exact q2, k1.trans k2⟩
 have hlt : Hid (w.heap.size ≤ mb ∧ mb < rb ∧ rb < w2.heap.size) := h_ ⟨by omega, by have := lt_of_heap q1; omega, lt_of_heap q2⟩
 have hrs : Hid (∀ wr, ClSt w mb rb f wr → True) := h_ fun _ _ => trivial
 have hw1' := h_ hw1
 have hw2' := h_ hw2
 have hmb' := h_ hmb
 have hrb' := h_ hrb
 have hv' := h_ hv
 have hZ' := h_ hZ
 have hok' := h_ hok
 have hB' := h_ hB
 rw [hI]
 clear hw1 hw2 hmb hrb k1 k2 q1 q2 hv hI hZ hok hB hY hrs
 go_enter Tryz.func43, Tryz.ntmps43
 go_wp2_with (first | (refine wpList_box_named 37 rfl rfl _ rfl hw1'.out ?_; rw [hmb'.out]) | (refine wpList_alloc_as 37 rfl rfl Z.toArray hZz.out ?_; rw [hw2'.out, hrb'.out]))
 go_loopw [9] (fun i wr => ∃ (k : Nat), k ≤ l.length ∧ i = .int .i64 k ∧ Hid (ClSt w mb rb (itemsW (l.take k) f) wr)) (fun i _ => l.length - (intOf i).toNat)
 case atStart => exact ⟨0, Nat.zero_le _, rfl, S0⟩
 case round =>
  obtain ⟨k, hk, rfl, hI⟩ := hrel
  by_cases hlt2 : k < l.length
  ·obtain ⟨x, hx⟩ : ∃ x, l[k]? = some x := ⟨_, List.getElem?_eq_getElem hlt2⟩
   obtain ⟨b, off, rfl, hb, hcb⟩ := ItemsAt.get hv'.out hx
   obtain ⟨hxr, hxo⟩ := hok'.out x (List.mem_of_getElem? hx)
   obtain ⟨⟨hx0, hx1⟩, _⟩ := rightB_iff.1 hxr
   obtain ⟨n, hn⟩ := Int.eq_ofNat_of_zero_le hx0
   have hn64 : n < 64 := by omega
   have hki : (k : Int) < (l.length : Int) := by omega
   have hni : (n : Int) < 64 := by omega
   have hBk := itemsW_bytes hB'.out (l.take k) (fun y hy => (hok'.out y (List.mem_of_mem_take hy)).2)
   have hfin := itemsW_take f hx
   rw [hn] at hfin
   obtain ⟨g, hg⟩ : ∃ g, itemsW (l.take k) f = g := ⟨_, rfl⟩
   rw [hg] at hBk hfin
   have hS : Hid (ClSt w mb rb g wr) := h_ (by rw [← hg]; exact hI.out)
   obtain ⟨K, hK⟩ : ∃ K, itemCells x = K := ⟨_, rfl⟩
   have hKl : Hid (K.length = 18) := h_ (by rw [← hK]; exact itemCells_len _)
   have hK1 : Hid (∀ v ∈ K, v.oneCell' = true) := h_ (by rw [← hK]; exact itemCells_one _)
   obtain ⟨C, hC⟩ : ∃ C, blockCells x.block = C := ⟨_, rfl⟩
   have hCl : Hid (C.length = 16) := h_ (by rw [← hC]; exact blockCells_len _)
   have hC1 : Hid (∀ v ∈ C, v.oneCell' = true) := h_ (by rw [← hC]; exact blockCells_one _)
   obtain ⟨J, hJ⟩ : ∃ J, imgCells g = J := ⟨_, rfl⟩
   have hJl : Hid (J.length = 1024) := h_ (by rw [← hJ]; exact imgCells_len hBk)
   have hup : imgCells (upd g (n : Int) x.block) = J.take (n * 16) ++ (C ++ J.drop (n * 16 + 16)) := by
    rw [imgCells_upd hBk hn64 hxo.1, hJ, ← blockCells_eq _ hxo.1, hC, List.append_assoc]
   rw [hK] at hcb
   have hcb' : Hid (∀ j v, K[j]? = some v → wr.cell? ⟨b, off + k * 18 + j, none⟩ = some v) := h_ (fun j v hj => hS.out.kept.cell (hcb j v hj) id)
   obtain ⟨xb, hxb⟩ : ∃ xb, wr.heap.size = xb := ⟨_, rfl⟩
   obtain ⟨w3, hw3⟩ : ∃ w3, (wr.alloc (.cells Y.toArray 61)).setRow xb K.toArray = w3 := ⟨_, rfl⟩
   have k3 : Kept (fun _ => False) wr w3 := by rw [← hw3]; exact ((Kept.refl _ _).alloc _).setRowNew (by omega) _
   have q3 : w3.heap[xb]? = some (.cells K.toArray 61 (0, 0)) := by rw [← hw3, ← hxb]; exact setRow_heap _ _ _ _ _ _ (heap_alloc_new _ _)
   obtain ⟨i30, _, i32⟩ := item_box (x := x) (by rw [hK]; exact q3)
   rw [hn] at i30
   rw [hC] at i32
   have hlb := h_ i32
   have qJ : Hid (w3.heap[mb]? = some (.cells J.toArray 37 (0, 0))) := h_ (by rw [← hJ]; exact k3.get hS.out.box id)
   obtain ⟨w4, hw4⟩ : ∃ w4, w3.setRow mb (J.take (n * 16) ++ (C ++ J.drop (n * 16 + 16))).toArray = w4 := ⟨_, rfl⟩
   have k34 : Kept (fun j => j = mb) w3 w4 := by rw [← hw4]; exact Kept.setRow (S := fun j => j = mb) (Kept.refl _ _) rfl _
   have hord := hlt.out
   have S4 : Hid (ClSt w mb rb (itemsW (l.take (k + 1)) f) w4) := h_ ⟨by rw [hfin, hup, ← hw4]; exact setRow_heap _ _ _ _ _ _ qJ.out, k34.get (k3.get hS.out.res id) (by omega), (hS.out.kept.trans k3).trans_new k34 (fun i hi e => by omega)⟩
   have hw3' := h_ hw3
   have hw4' := h_ hw4
   have hxb' := h_ hxb
   clear hI hx hcb hb hBk hfin hg hJ hup hw3 hw4 k3 q3 k34 hS hord hx0 hx1 hn64 hxr hxo hK hC hxb i32 hn
   go_wp2_with (first | (refine wpList_load_agg 61 rfl rfl rfl _ Tryz.underlying61 rfl K (by rw [hKl.out]; exact item_size) hcb'.out ?_) | (refine wpList_store_agg 35 rfl rfl (g := mb) (off := n * 16) (by rfl) C rfl (by rw [hCl.out]; exact block_size) 37 J.toArray qJ.out (by simp [hJl.out, hCl.out]; omega) hC1.out ?_; rw [hCl.out]; simp only [List.append_assoc]; rw [hw4'.out]) | (refine wpList_alloc_as 61 rfl rfl Y.toArray hYz.out ?_; rw [hxb'.out]) | (refine wpList_store_whole 61 rfl rfl rfl K rfl (by rw [hKl.out]; exact item_size) 61 Y.toArray (by rw [← hxb'.out]; exact heap_alloc_new _ _) (by simp [hYl.out, hKl.out]) hK1.out ?_; rw [hw3'.out]) | (refine wpList_load_agg 35 rfl rfl rfl _ Tryz.underlying35 rfl C (by rw [hCl.out]; exact block_size) hlb.out ?_))
   go_roundw
   case rel => exact ⟨k + 1, by omega, by go_num, S4⟩
   case measure => simp [intOf]; omega
  ·have hkk : k = l.length := by omega
   subst hkk
   have hki : ¬ ((l.length : Int) < (l.length : Int)) := by omega
   have hS := hI.out
   rw [List.take_length] at hS
   have hBk := itemsW_bytes hB'.out l (fun y hy => (hok'.out y hy).2)
   obtain ⟨g, hg⟩ : ∃ g, itemsW l f = g := ⟨_, rfl⟩
   rw [hg] at hS hBk
   obtain ⟨J, hJ⟩ : ∃ J, imgCells g = J := ⟨_, rfl⟩
   have hJl : Hid (J.length = 1024) := h_ (by rw [← hJ]; exact imgCells_len hBk)
   have hgJ : Hid (imgCells (itemsW l f) = J) := h_ (by rw [hg, hJ])
   have hJ1 : Hid (∀ v ∈ J, v.oneCell' = true) := h_ (by rw [← hJ]; exact byteCells_one _)
   have hlm : Hid (∀ j v, J[j]? = some v → wr.cell? ⟨mb, 0 + j, none⟩ = some v) := h_ (fun j v hj => by rw [Nat.zero_add, cell_of_heap hS.box, hJ]; simpa using hj)
   have qZ : Hid (wr.heap[rb]? = some (.cells Z.toArray 37 (0, 0))) := h_ (by rw [← hZ'.out]; exact hS.res)
   have hk4 := h_ hS.kept
   clear hI hS hBk hg hJ
   go_wp2_with (first | (refine wpList_load_agg 37 rfl rfl rfl _ Tryz.underlying37 rfl J (by rw [hJl.out]; exact img_size) hlm.out ?_) | (refine wpList_store_whole 37 rfl rfl rfl J rfl (by rw [hJl.out]; exact img_size) 37 Z.toArray qZ.out (by simp [hZl.out, hJl.out]) hJ1.out ?_))
   refine bodyPost_ret (results_row1 rfl _ _ rb 37 J.toArray (0, 0) _ rfl (setRow_heap _ _ _ _ 37 (0, 0) qZ.out) Tryz.underlying37 rfl (by simp only [List.size_toArray]; rw [hJl.out]; exact img_size)) rfl ?_
   exact ⟨by rw [hgJ.out], hk4.out.setRowNew (by have := hlt.out; omega) _⟩

section
variable {n k : Nat} {M : SM} {is : List IM} {i : IM}
theorem DelP.copy (h : DelP n M is) (hn : n ≤ 240) (hi : is[k]? = some i) (h5 : is.length ≤ 5) :
  (if i.root = -1 then 0 else (M.hold i.root).2) = 0 ∧ DelP n (if i.root = -1 then M else (M.hold i.root).1) (is ++ [i]) ∧ (if i.root = -1 then M else (M.hold i.root).1).pool.size = M.pool.size := by
 have hr : i ∈ is := List.mem_of_getElem? hi
 have hI := h.imgs.img i hr
 have rest : ∀ M', Imgs 1 M' (is ++ [i]) → M'.log.length ≤ M.log.length → Gone M.pool.size [] M' → M'.pool.size = M.pool.size → DelP n M' (is ++ [i]) := fun M' hI' hl hg hs => by
  refine ⟨hI', fun j hj => ?_, fun j hj => ?_, fun j hj => ?_, by rw [List.length_append]; show is.length + 1 ≤ 6; omega, by have := h.log; omega, by rw [hs]; exact hg⟩
  ·rcases List.mem_append.1 hj with hj | hj
   ·exact h.bytes j hj
   ·rw [List.mem_singleton.1 hj]; exact h.bytes i hr
  ·rcases List.mem_append.1 hj with hj | hj
   ·exact h.nodup j hj
   ·rw [List.mem_singleton.1 hj]; exact h.nodup i hr
  ·rcases List.mem_append.1 hj with hj | hj
   ·exact h.puts j hj
   ·rw [List.mem_singleton.1 hj]; exact h.puts i hr
 by_cases e : i.root = -1
 ·rw [if_pos e, if_pos e]
  refine ⟨rfl, rest M ⟨?_, h.imgs.loose, fun j hj => ?_⟩ (Nat.le_refl _) h.gone rfl, rfl⟩
  ·refine exact_congr h.imgs.exact fun p _ => ?_
   unfold extL
   rw [List.map_append, List.count_append]
   have : List.count ((p : Nat) : Int) (List.map (·.root) [i]) = 0 := List.count_eq_zero.2 (fun hm => by
    simp only [List.map_cons, List.map_nil, List.mem_singleton] at hm
    omega)
   rw [this]
   rfl
  ·rcases List.mem_append.1 hj with hj | hj
   ·exact h.imgs.img j hj
   ·rw [List.mem_singleton.1 hj]; exact hI
 ·rw [if_neg e, if_neg e]
  rcases hI.tree.root with ⟨e', _⟩ | ⟨hh, t, _⟩
  ·exact absurd e' e
  ·have hheld := t.held
   obtain ⟨c, hc⟩ := Int.eq_ofNat_of_zero_le (heldB_int hheld).1
   have hlive : M.live c = true := by have := (heldB_int hheld).2; rw [hc, Int.toNat_natCast] at this; exact this
   obtain ⟨_, nn, _, _, hok, hnode, hN, _⟩ := tr_get t
   rw [hc, Int.toNat_natCast] at hnode
   have hkind : nn.kind ≠ 1 := by rcases hN with ⟨_, k2, _⟩ | ⟨_, k3, _⟩ <;> omega
   have hocc : ∀ j ∈ is, occ j.l c = 0 := fun j hj => by
    unfold occ
    rw [List.countP_eq_zero]
    intro y hy hye
    obtain ⟨d, hd, hd1, _⟩ := (h.imgs.img j hj).data y hy
    have : y.2 = (c : Int) := by simpa using hye
    rw [this, Int.toNat_natCast, hnode] at hd
    cases hd
    exact hkind hd1
   have hrefs := imgs_refs h.imgs (fun j hj => by have := h.puts j hj; omega) c
   have hsum : (is.map fun j => 5 + occ j.l c).sum ≤ 5 * is.length := by
    have key : ∀ js : List IM, (∀ j ∈ js, j ∈ is) → (js.map fun j => 5 + occ j.l c).sum ≤ 5 * js.length := by
     intro js
     induction js with
     | nil => intro _; exact Nat.le_refl _
     | cons j js ih =>
      intro hj
      have := ih (fun x hx => hj x (List.mem_cons_of_mem _ hx))
      rw [List.map_cons, List.sum_cons, hocc j (hj j (List.mem_cons_self ..)), List.length_cons]
      omega
    exact key is (fun j hj => hj)
   have hcnt := h.imgs.exact.cnt c (live_lt hlive)
   have hext : extL (is.map (·.root)) c ≤ is.length := by
    unfold extL
    have : List.count (c : Int) (is.map (·.root)) ≤ (is.map (·.root)).length := List.count_le_length
    rw [List.length_map] at this
    exact this
   obtain ⟨hhold, E', hlv⟩ := holdE_ok h.imgs.exact hlive (by omega)
   rw [hc, hhold]
   have g : Grown M ⟨M.pool.setCnt c (M.pool.cnt c + 1), M.log⟩ := ⟨rfl, fun q hq => by rw [hlv]; exact hq, fun q _ => rfl⟩
   have all : ∀ j, Img 1 M j → Img 1 ⟨M.pool.setCnt c (M.pool.cnt c + 1), M.log⟩ j := fun j hJ => ⟨hJ.tree.grown g, hJ.data, hJ.zero⟩
   have hgo : Gone M.pool.size [] ⟨M.pool.setCnt c (M.pool.cnt c + 1), M.log⟩ := by
    have := (gone_closed M.pool.size []).hold M i.root h.gone
    have e2 : (M.hold i.root).1 = ⟨M.pool.holdTo i.root, M.log⟩ := rfl
    rw [← e2, hc, hhold] at this
    exact this
   refine ⟨rfl, rest _ ⟨?_, fun q hq hq0 => ?_, fun j hj => ?_⟩ (Nat.le_refl _) hgo rfl, rfl⟩
   ·refine exact_congr E' fun p _ => ?_
    unfold incE extL
    rw [List.map_append, List.count_append]
    have : List.count ((p : Nat) : Int) (List.map (·.root) [i]) = if p = c then 1 else 0 := by
     simp only [List.map_cons, List.map_nil]
     rw [List.count_singleton, hc]
     by_cases hp : p = c
     ·subst hp; simp
     ·have : ((c : Int) == (p : Int)) = false := by rw [beq_eq_false_iff_ne]; omega
      rw [this, if_neg hp]
      rfl
    rw [this]
    by_cases hp : p = c
    ·simp [hp]
    ·simp [hp]
   ·rw [hlv] at hq
    have : M.pool.cnt q = 0 := by
     have h0 : (if q = c then M.pool.cnt c + 1 else M.pool.cnt q) = 0 := hq0
     split at h0
     ·omega
     ·exact h0
    exact h.imgs.loose q hq this
   ·rcases List.mem_append.1 hj with hj | hj
    ·exact all j (h.imgs.img j hj)
    ·rw [List.mem_singleton.1 hj]; exact all i hI
end
structure DlSt (w0 : World) (vb sb : Nat) (n : Nat) (is : List IM) (wr : World) (A : SA) (M : SM) : Prop where
 own : OwnStore w0 A M wr
 var : ImVar wr A vb sb
 del : DelP n M is
 size : M.pool.size = 240
section
variable {w0 wr w' : World} {vb sb n : Nat} {is is' : List IM} {A A' : SA} {M M' : SM}
theorem DlSt.fresh (h : DlSt w0 vb sb n is wr A M) (k : Kept (fun _ => False) wr w') : DlSt w0 vb sb n is w' A M := ⟨h.own.fresh k, h.var.fresh k, h.del, h.size⟩
theorem DlSt.to (h : DlSt w0 vb sb n is wr A M) {n' : Nat} (k : StoreTo A A' M' wr w') (d : DelP n' M' is') (hs : M'.pool.size = M.pool.size) : DlSt w0 vb sb n' is' w' A' M' := ⟨h.own.to k, h.var.to k, d, hs.trans h.size⟩
theorem DlSt.load (h : DlSt w0 vb sb n is wr A M) : ∀ j v, [Value.pointer (some ⟨sb, 0, none⟩)][j]? = some v → wr.cell? ⟨vb, 0 + j, none⟩ = some v := h.var.load
theorem DlSt.items (h : DlSt w0 vb sb n is wr A M) {v : Value} {l : List ItemM} (hv : ItemsAt w0 v l) : ItemsOff wr A v l := by
 refine ⟨SliceAt.fresh hv h.own.kept, fun hl b hb => ?_⟩
 obtain ⟨b', hb', hlt⟩ := SliceAt.block hv (by have := List.length_pos_iff.2 hl; omega)
 rw [hb] at hb'
 cases hb'
 exact ⟨Nat.lt_of_lt_of_le hlt h.own.kept.size, fun e => by have := h.own.new b (.inl e); omega⟩
theorem items_made {w w' : World} (h : StoreAt w A M) {v : Value} {m : Nat} {l : List ItemM} (hrow : w'.ownsRow w.heap.size 61 18 v m (l.flatMap itemCells)) (hm : m = l.length) : ItemsOff w' A v l := by
 subst hm
 exact ⟨SliceAt.of_owns hrow, fun _ b hb => ⟨(hrow.lt b hb).2, fun e => by have := h.lt (.inl e); have := (hrow.lt b hb).1; omega⟩⟩
end
theorem blocks_same {f g : Int → List Nat} (h : ∀ key, 0 ≤ key → key < 64 → f key = g key) : imgBytes f = imgBytes g := by
 unfold imgBytes blocksOf
 congr 1
 refine List.map_congr_left fun k hk => ?_
 have := List.mem_range.1 hk
 exact h k (by omega) (by omega)
theorem cells_same {f g : Int → List Nat} (h : ∀ key, 0 ≤ key → key < 64 → f key = g key) : imgCells f = imgCells g := by
 unfold imgCells
 rw [blocks_same h]

section
variable {w0 wr : World} {vb sb n : Nat} {is : List IM} {A : SA} {M : SM} {i j : IM}
theorem dl_apply (S : DlSt w0 vb sb n is wr A M) (hn : n ≤ 1000) (root : Int) {v : Value} {l : List ItemM} (hv : ItemsOff wr A v l) (hl : l.length ≤ 1000) (hok : ∀ x ∈ l, x.ok) {M' : SM} {next : Int} {er : Nat} (hE : M.deliver root l = (M', next, er)) :
  Calls Tryz.prog 29 #[.agg #[.pointer (some ⟨sb, 0, none⟩)], .int .i64 root, v] wr fun e w' => ∃ A', e = .returned (.tuple #[.int .i64 next, .int .i64 er]) ∧ StoreTo A A' M' wr w' := by
 have hlog := S.del.log
 have h := deltaApply S.own.store root hv hl hok (by omega)
 rw [hE, S.var.eq] at h
 exact h
theorem dl_items (S : DlSt w0 vb sb n is wr A M) (hn : n ≤ 240) (hi : i ∈ is) (hj : j ∈ is) :
  Calls Tryz.prog 46 #[.agg #[.pointer (some ⟨sb, 0, none⟩)], .int .i64 i.root, .int .i64 j.root] wr fun e w' => ∃ v, e = .returned (.tuple #[v, .int .i64 0]) ∧ ItemsOff w' A v (itemsOf j.w (changesL i.l j.l)) ∧ Kept (fun _ => False) wr w' := by
 have I := S.del.imgs.img i hi
 have J := S.del.imgs.img j hj
 have hP := S.del.puts i hi
 have hQ := S.del.puts j hj
 have hB := S.del.bytes j hj
 have h := deltaItems S.own.store (rootis_img I S.del.imgs.exact (by omega)) (rootis_img J S.del.imgs.exact (by omega)) hB (fun key k0 k1 => ⟨J.tree.find S.del.imgs.exact (by omega) key, img_pageOf J S.del.imgs.exact hB k0 k1⟩)
 rw [S.var.eq] at h
 refine h.mono fun e w' ⟨v, he, hrow, hk⟩ => ⟨v, he, items_made S.own.store hrow (itemsOf_len _ _).symm, hk⟩
theorem dl_copy (S : DlSt w0 vb sb n is wr A M) (hn : n ≤ 240) {k : Nat} (hi : is[k]? = some i) (h5 : is.length ≤ 5) :
  Calls Tryz.prog 27 #[.agg #[.pointer (some ⟨sb, 0, none⟩)], .int .i64 i.root] wr fun e w' => e = .returned (.tuple #[.int .i64 i.root, .int .i64 0]) ∧ ∃ M', DlSt w0 vb sb n (is ++ [i]) w' A M' ∧ StoreTo A A M' wr w' := by
 have h := imageCopy S.own.store i.root
 obtain ⟨c1, c2, c3⟩ := S.del.copy hn hi h5
 rw [S.var.eq, c1] at h
 have hr : (if i.root = -1 then i.root else if (M.hold i.root).2 = 0 then i.root else -1) = i.root := by
  by_cases e : i.root = -1
  ·rw [if_pos e]
  ·rw [if_neg e] at c1 ⊢
   rw [c1, if_pos rfl]
 rw [hr] at h
 exact h.mono fun e w' ⟨he, hT⟩ => ⟨he, _, S.to hT c2 c3, hT⟩
theorem dl_all (S : DlSt w0 vb sb n is wr A M) (hn : n ≤ 240) (hi : i ∈ is) :
  Calls Tryz.prog 44 #[.agg #[.pointer (some ⟨sb, 0, none⟩)], .int .i64 i.root] wr fun e w' => ∃ gb, e = .returned (.tuple #[.slice (some ⟨gb, 0, none⟩) 64 64, .int .i64 0]) ∧ wr.heap.size ≤ gb ∧
   w'.heap[gb]? = some (.cells (imgCells i.w).toArray 35 (0, 0)) ∧ Kept (fun _ => False) wr w' := by
 have hP := S.del.puts i hi
 have h := imageAll S.own.store (S.del.imgs.img i hi) S.del.imgs.exact (by omega) (S.del.bytes i hi)
 rw [S.var.eq] at h
 exact h
theorem dl_live (S : DelP n M is) (hn : n ≤ 240) : ∃ G : List Nat, ∀ q, M.live q = true → q ∈ G := (S.pages hn).imp fun _ h => h.1
end
end Go.Proofs.YtidlchciehdefaaGreat
