/-
 ImageRuns, plain: what each act does to several images.
-/
import Derived.Test.YtidlchciehdefaaGreatK27
import Derived.Test.YtidlchciehdefaaGreatK28
import Derived.Test.YtidlchciehdefaaGreatK30
set_option linter.unusedVariables false
set_option linter.unusedSimpArgs false
namespace Go.Proofs.YtidlchciehdefaaGreat
open Go.RowKit

section
variable {k n : Nat} {M : SM} {is : List IM} {i : IM}
end
section
variable {m : Nat} {M : SM} {is : List IM} {i : IM} {k : Nat}
theorem write1_new (hm : m ≤ 3) (h : Imgs m M is) (hi : is[k]? = some i) (hP : i.P + 1 ≤ 240) {key : Int} (k0 : 0 ≤ key) (k1 : key < 64) {b : List Nat} (hb : b.length = 16) (h256 : ∀ x ∈ b, x < 256) :
  ((M.write1 i.root key b).2.2 = 0 ∧ ∃ pg : Nat, M.live pg = false ∧ Imgs m (M.write1 i.root key b).1 (is.set k ⟨(M.write1 i.root key b).2.1, putL i.l (key, (pg : Int)), i.P + 1, upd i.w key b⟩)) ∨
   ((M.write1 i.root key b).2.1 = -1 ∧ (((M.write1 i.root key b).2.2 = 71 ∧ (M.pool.freeCount = 0 ∨ ∃ M1 h, Grown M M1 ∧ Rooted m M1 i.root i.l h ∧ (i.root = -1 ∨ Led M1 h i.root i.P) ∧ M.pool.freeCount < 2 * h + 4)) ∨ ((M.write1 i.root key b).2.2 = 72 ∧ ∃ q, 255 ≤ M.refs q + 38 + extL (is.map (·.root)) q))) := by
 have hr : i ∈ is := List.mem_of_getElem? hi
 have hI := h.img i hr
 unfold SM.write1
 dsimp only
 rcases make_ok h.exact (data_ok hb h256) (fun x hx => by cases hx) with ⟨pg, e, D⟩ | ⟨e, hf⟩ | ⟨e, q, hq⟩
 ·rw [show (M.make ⟨1, b, []⟩).2.2 = 0 by rw [e], show (M.make ⟨1, b, []⟩).2.1 = (pg : Int) by rw [e], if_pos rfl, change_one]
  obtain ⟨M1, hM1⟩ : ∃ M1, (M.make ⟨1, b, []⟩).1 = M1 := ⟨_, rfl⟩
  rw [hM1] at D ⊢
  have h1 : TreeIn m M1 i.root i.l i.P := hI.tree.grown D.grown
  have hne : ((pg : Nat) : Int) ≠ -1 := by omega
  have hl1 : Loose M1 [(key, (pg : Int))] := fun q hq hc => by
   rcases D.only q hq with rfl | hq'
   ·exact ⟨_, List.mem_singleton.2 rfl, rfl⟩
   ·have hc' : M.pool.cnt q = 0 := by
     have := D.cnt q
     omega
    obtain ⟨y, hy, _⟩ := h.loose q hq' hc'
    cases hy
  have hs : M1.sum = M.sum := by have := D.sum; simpa using this
  rcases change_ok hm D.exact h1 hP (extL_root (List.mem_map.2 ⟨i, hr, rfl⟩) hI.tree.low) (c := (key, (pg : Int))) k0 k1 (.inr (by rw [heldB_nat]; exact D.live)) (by rw [if_neg hne]; exact hl1) (fun e => absurd e hne) with ⟨e, C⟩ | ⟨e1, e⟩
  ·left
   refine ⟨e, pg, D.new, ?_⟩
   have hchg : chgL i.l (key, (pg : Int)) = putL i.l (key, (pg : Int)) := by unfold chgL; rw [if_neg hne]
   rw [hchg] at C
   have g1 : ∀ j ∈ is, Img m M1 j := fun j hj => ⟨(h.img j hj).tree.grown D.grown, fun y hy => by
    obtain ⟨d, hd, r⟩ := (h.img j hj).data y hy
    exact ⟨d, by rw [D.grown.node _ ((h.img j hj).held h.exact hy)]; exact hd, r⟩, (h.img j hj).zero⟩
   refine imgs_changed D.exact g1 hi (i' := ⟨_, putL i.l (key, (pg : Int)), i.P + 1, upd i.w key b⟩) C (fun y hy => ?_) (fun j j0 j1 hj => ?_)
   ·rcases putL_mem hy with rfl | hy'
    ·refine ⟨⟨1, b, []⟩, ?_, rfl, ?_, rfl⟩
     ·show ((M1.change i.root (key, (pg : Int))).1).nodeAt (Int.toNat (pg : Int)) = _
      rw [Int.toNat_natCast, C.node _ D.live, D.node]
     ·show b = upd i.w key b key
      unfold upd; rw [if_pos rfl]
    ·obtain ⟨d, hd, e1, e2, e3⟩ := (g1 i hr).data y hy'
     refine ⟨d, by rw [C.node _ ((g1 i hr).held D.exact hy')]; exact hd, e1, ?_, e3⟩
     show d.block = upd i.w key b y.1
     have hyk : y.1 ≠ key := fun e => by
      unfold putL at hy
      simp only [List.mem_append, List.mem_singleton, List.mem_filter, decide_eq_true_eq] at hy
      rcases hy with (hy | hy) | hy
      ·omega
      ·have : y.2 = (pg : Int) := by rw [hy]
       have hlv := hI.held h.exact hy'
       rw [this, Int.toNat_natCast, D.new] at hlv
       cases hlv
      ·omega
     unfold upd; rw [if_neg hyk]; exact e2
   ·show upd i.w key b j = zeros16
    have hjk : j ≠ key := fun e => hj (key, (pg : Int)) (putL_has _ _) e.symm
    unfold upd; rw [if_neg hjk]
    refine hI.zero j j0 j1 fun y hy e => ?_
    by_cases hyk : y.1 < key
    ·exact hj y (by unfold putL; simp [hy, hyk]) e
    ·exact hj y (by unfold putL; simp only [List.mem_append, List.mem_filter, decide_eq_true_eq]; exact .inr ⟨hy, by omega⟩) e
  ·right
   have := D.free
   exact ⟨e1, e.imp (fun ⟨e, hh, ht, hled, hf⟩ => ⟨e, .inr ⟨M1, hh, D.grown, ht, hled, by omega⟩⟩) (fun ⟨e, q, hq⟩ => ⟨e, q, by have hg := D.grown.refs q; omega⟩)⟩
 ·right
  rw [show (M.make ⟨1, b, []⟩).2.2 = 71 by rw [e], if_neg (by decide)]
  exact ⟨rfl, .inl ⟨rfl, .inl hf⟩⟩
 ·right
  rw [show (M.make ⟨1, b, []⟩).2.2 = 72 by rw [e], if_neg (by decide)]
  exact ⟨rfl, .inr ⟨rfl, q, by simp only [List.length_nil] at hq; omega⟩⟩
theorem clear1_ok (h : Imgs 1 M is) (hi : is[k]? = some i) (hP : i.P + 1 ≤ 240) {key : Int} (k0 : 0 ≤ key) (k1 : key < 64) :
  ((M.changes [(key, -1)] i.root).2.2 = 0 ∧ Imgs 1 (M.changes [(key, -1)] i.root).1 (is.set k ⟨(M.changes [(key, -1)] i.root).2.1, cutL i.l key, i.P + 1, wipe i.w key⟩)) ∨
   ((M.changes [(key, -1)] i.root).2.1 = -1 ∧ (((M.changes [(key, -1)] i.root).2.2 = 71 ∧ ∃ h, Rooted 1 M i.root i.l h ∧ (i.root = -1 ∨ Led M h i.root i.P) ∧ M.pool.freeCount < 2 * h + 3) ∨ ((M.changes [(key, -1)] i.root).2.2 = 72 ∧ ∃ q, 255 ≤ M.refs q + 38 + extL (is.map (·.root)) q))) := by
 have hr : i ∈ is := List.mem_of_getElem? hi
 have hI := h.img i hr
 rw [change_one]
 have hchg : chgL i.l (key, (-1 : Int)) = cutL i.l key := by unfold chgL; rw [if_pos rfl]
 rcases change_ok (by decide) h.exact hI.tree hP (extL_root (List.mem_map.2 ⟨i, hr, rfl⟩) hI.tree.low) (c := (key, (-1 : Int))) k0 k1 (.inl rfl) (by rw [if_pos rfl]; exact h.loose) (fun _ => rfl) with ⟨e, C⟩ | ⟨e1, e⟩
 ·left
  rw [hchg] at C
  refine ⟨e, imgs_changed h.exact h.img hi (i' := ⟨_, cutL i.l key, i.P + 1, wipe i.w key⟩) C (fun y hy => ?_) (fun j j0 j1 hj => ?_)⟩
  ·have hy' : y ∈ i.l := (List.mem_filter.1 hy).1
   have hyk : y.1 ≠ key := by have := (List.mem_filter.1 hy).2; simpa using this
   obtain ⟨d, hd, e1, e2, e3⟩ := hI.data y hy'
   refine ⟨d, by rw [C.node _ (hI.held h.exact hy')]; exact hd, e1, ?_, e3⟩
   show d.block = wipe i.w key y.1
   unfold wipe upd
   rw [if_neg hyk]; exact e2
  ·show wipe i.w key j = zeros16
   unfold wipe upd
   by_cases e : j = key
   ·rw [if_pos e]
   ·rw [if_neg e]
    refine hI.zero j j0 j1 fun y hy he => hj y (List.mem_filter.2 ⟨hy, ?_⟩) he
    simp only [decide_eq_true_eq]
    omega
 ·exact .inr ⟨e1, e⟩
end
def Marks (n : Nat) (G : List Nat) (M : SM) : Prop := ∀ q, q < n → M.pool.st q ≤ 4 ∧ (3 ≤ M.pool.st q → q ∈ G) ∧ (0 < M.pool.cnt q → M.pool.st q ≤ 2 ∧ (M.pool.st q = 0 → q ∈ G)) ∧ (M.pool.st q = 2 → q ∈ G)
theorem marks_live {n : Nat} {G : List Nat} {M : SM} (h : Marks n G M) {i : Int} (hi : M.pool.heldB i = true) (hn : i.toNat < n) : M.pool.st i.toNat ≤ 2 ∧ (M.pool.st i.toNat ≠ 1 → i.toNat ∈ G) := by
 have hl := (heldB_int hi).2
 have := h i.toNat hn
 simp only [PM.live, Bool.and_eq_true, Bool.or_eq_true, decide_eq_true_eq, beq_iff_eq] at hl
 have h2 : M.pool.st i.toNat ≤ 2 := by
  rcases hl.2 with h1 | h1
  ·exact (this.2.2.1 h1).1
  ·omega
 refine ⟨h2, fun hne => ?_⟩
 by_cases e : M.pool.st i.toNat = 2
 ·exact this.2.2.2 e
 ·rcases hl.2 with h1 | h1
  ·exact (this.2.2.1 h1).2 (by omega)
  ·omega
theorem marks_closed (n : Nat) (G : List Nat) : Closed (Marks n G) := by
 refine ⟨fun M i n hi h q hqn => ?_, fun M i h q hqn => ?_, fun M i hi h q hqn => ?_⟩
 ·have := h q hqn
  by_cases e : q = i
  ·subst e; simp [PM.setSt]
  ·simp only [PM.setSt, if_neg e]; exact this
 ·have := h q hqn
  show (M.pool.holdTo i).st q ≤ 4 ∧ (3 ≤ (M.pool.holdTo i).st q → q ∈ G) ∧ (0 < (M.pool.holdTo i).cnt q → (M.pool.holdTo i).st q ≤ 2 ∧ ((M.pool.holdTo i).st q = 0 → q ∈ G)) ∧ ((M.pool.holdTo i).st q = 2 → q ∈ G)
  unfold PM.holdTo
  split
  ·rename_i hc
   simp only [Bool.and_eq_true] at hc
   have hs := marks_live h hc.1
   simp only [PM.setCnt]
   refine ⟨this.1, this.2.1, fun hq => ?_, this.2.2.2⟩
   split at hq
   ·rename_i e
    have := hs (e ▸ hqn)
    rw [e]; exact ⟨this.1, fun e0 => this.2 (by omega)⟩
   ·exact this.2.2.1 hq
  ·exact this
 ·have := h q hqn
  have hs := marks_live h hi
  show (M.pool.dropTo i.toNat).st q ≤ 4 ∧ (3 ≤ (M.pool.dropTo i.toNat).st q → q ∈ G) ∧ (0 < (M.pool.dropTo i.toNat).cnt q → (M.pool.dropTo i.toNat).st q ≤ 2 ∧ ((M.pool.dropTo i.toNat).st q = 0 → q ∈ G)) ∧ ((M.pool.dropTo i.toNat).st q = 2 → q ∈ G)
  unfold PM.dropTo
  split
  ·simp only [PM.setCnt]
   refine ⟨this.1, this.2.1, fun hq => ?_, this.2.2.2⟩
   split at hq
   ·rename_i e
    have := hs (e ▸ hqn)
    rw [e]; exact ⟨this.1, fun e0 => this.2 (by omega)⟩
   ·exact this.2.2.1 hq
  ·simp only [PM.setCnt, PM.setSt]
   by_cases e : q = i.toNat
   ·subst e
    simp only [if_true]
    unfold PM.lastSt
    have hs := hs hqn
    have h3 : M.pool.st i.toNat = 0 ∨ M.pool.st i.toNat = 1 ∨ M.pool.st i.toNat = 2 := by omega
    rcases h3 with e | e | e
    ·rw [e]; exact ⟨by decide, fun _ => hs.2 (by omega), fun h => absurd h (by decide), fun h => absurd h (by decide)⟩
    ·rw [e]; exact ⟨by decide, fun h => absurd h (by decide), fun h => absurd h (by decide), fun h => absurd h (by decide)⟩
    ·rw [e]; exact ⟨by decide, fun _ => hs.2 (by omega), fun h => absurd h (by decide), fun h => absurd h (by decide)⟩
   ·simp only [if_neg e]
    exact this
theorem marks_marked {G : List Nat} {M : SM} (h : Gone M.pool.size [] M) (hL : ∀ q, M.live q = true → q ∈ G) : Marks M.pool.size G M.marked := fun q hqn => by
 have := h q hqn
 have e : M.marked.pool.st q = if (if M.pool.st q = 3 then 0 else M.pool.st q) = 1 then 2 else (if M.pool.st q = 3 then 0 else M.pool.st q) := rfl
 have ec : M.marked.pool.cnt q = M.pool.cnt q := rfl
 have h4 : M.pool.st q ≠ 4 := fun e => by have := this.2.1 e; cases this
 have hlv : M.pool.cnt q > 0 ∨ M.pool.st q = 1 ∨ M.pool.st q = 2 → q ∈ G := fun hh => hL q (by
  unfold SM.live PM.live
  simp only [Bool.and_eq_true, Bool.or_eq_true, decide_eq_true_eq, beq_iff_eq]
  exact ⟨hqn, hh⟩)
 rw [e, ec]
 by_cases h3 : M.pool.st q = 3
 ·rw [if_pos h3, if_neg (by decide)]
  exact ⟨by decide, fun h => absurd h (by decide), fun hc => ⟨by decide, fun _ => hlv (.inl hc)⟩, fun h => absurd h (by decide)⟩
 ·rw [if_neg h3]
  by_cases h1 : M.pool.st q = 1
  ·rw [if_pos h1]
   exact ⟨by decide, fun h => absurd h (by decide), fun hc => ⟨by decide, fun h => absurd h (by decide)⟩, fun _ => hlv (.inr (.inl h1))⟩
  ·rw [if_neg h1]
   have h2 : M.pool.st q = 0 ∨ M.pool.st q = 2 := by omega
   exact ⟨this.1, fun h => by omega, fun hc => ⟨by omega, fun _ => hlv (.inl hc)⟩, fun e2 => hlv (.inr (.inr e2))⟩
theorem marks_room {G : List Nat} {M : SM} (h : Marks M.pool.size G M) : M.pool.size ≤ M.pool.freeCount + M.liveN + G.length := by
 have h1 : M.pool.size ≤ M.pool.freeCount + M.liveN + sumN (fun q => if decide (q ∈ G) then 1 else 0) M.pool.size := by
  unfold PM.freeCount SM.liveN
  rw [freeN_sum]
  refine sumN_three _ fun q hq => ?_
  have hs := h q hq
  by_cases hl : M.live q = true
  ·rw [if_pos hl]; omega
  ·have hn := hl
   simp only [SM.live, PM.live, Bool.and_eq_true, Bool.or_eq_true, decide_eq_true_eq, beq_iff_eq, not_and, not_or] at hn
   obtain ⟨n1, n2, n3⟩ := hn hq
   by_cases h4 : 3 ≤ M.pool.st q
   ·rw [if_pos (show decide (q ∈ G) = true from decide_eq_true (hs.2.1 h4))]; omega
   ·have hfree : M.pool.freeB q = true := by
     unfold PM.freeB
     simp only [Bool.and_eq_true, beq_iff_eq]
     omega
    rw [if_pos hfree]; omega
 have h2 := sum_list (f := fun _ => 1) (b := fun q => decide (q ∈ G)) G M.pool.size (fun q _ hq => by simpa using hq)
 have e : ∀ L : List Nat, (L.map fun _ => 1).sum = L.length := fun L => by
  induction L with
  | nil => rfl
  | cons a L ih => rw [List.map_cons, List.sum_cons, ih, List.length_cons]; omega
 rw [e] at h2
 omega
structure DelP (n : Nat) (M : SM) (is : List IM) : Prop where
 imgs : Imgs 1 M is
 bytes : ∀ i ∈ is, Bytes i.w
 nodup : ∀ i ∈ is, (i.l.map (·.2)).Nodup
 puts : ∀ i ∈ is, i.P ≤ n
 six : is.length ≤ 6
 log : M.log.length ≤ 30 * n
 gone : Gone M.pool.size [] M
def itemsW (xs : List ItemM) (w : Int → List Nat) : Int → List Nat := xs.foldl (fun w x => upd w x.key x.block) w
theorem nodup_occ {l : List (Int × Int)} (h : (l.map (·.2)).Nodup) (c : Nat) : occ l c ≤ 1 := by
 have e : occ l c = List.count (c : Int) (l.map (·.2)) := by
  unfold occ
  rw [List.count, List.countP_map]
  rfl
 rw [e]
 exact List.nodup_iff_count.1 h _
theorem nodup_inj : ∀ {l : List (Int × Int)}, (l.map (·.2)).Nodup → ∀ {a b : Int × Int}, a ∈ l → b ∈ l → a.2 = b.2 → a = b
 | [], _, _, _, ha, _, _ => by cases ha
 | x :: l, h, a, b, ha, hb, e => by
  rw [List.map_cons, List.nodup_cons] at h
  rcases List.mem_cons.1 ha with ha1 | ha1
  ·rcases List.mem_cons.1 hb with hb1 | hb1
   ·rw [ha1, hb1]
   ·exact absurd (List.mem_map.2 ⟨b, hb1, by rw [← e, ha1]⟩) h.1
  ·rcases List.mem_cons.1 hb with hb1 | hb1
   ·exact absurd (List.mem_map.2 ⟨a, ha1, by rw [e, hb1]⟩) h.1
   ·exact nodup_inj h.2 ha1 hb1 e
theorem putL_nodup {l : List (Int × Int)} {x : Int × Int} (h : (l.map (·.2)).Nodup) (hx : ∀ y ∈ l, y.2 ≠ x.2) : ((putL l x).map (·.2)).Nodup := by
 unfold putL
 have h1 : (l.filter fun y => decide (y.1 < x.1)).Sublist l := List.filter_sublist
 have h2 : (l.filter fun y => decide (x.1 < y.1)).Sublist l := List.filter_sublist
 rw [List.map_append, List.map_append, List.nodup_append, List.nodup_append]
 have hd : ∀ a ∈ l.filter (fun y => decide (y.1 < x.1)), ∀ b ∈ l.filter (fun y => decide (x.1 < y.1)), a.2 ≠ b.2 := fun a ha b hb e => by
  obtain ⟨ha1, ha2⟩ := List.mem_filter.1 ha
  obtain ⟨hb1, hb2⟩ := List.mem_filter.1 hb
  simp only [decide_eq_true_eq] at ha2 hb2
  have hne : a ≠ b := fun e => by rw [e] at ha2; omega
  exact hne (nodup_inj h ha1 hb1 e)
 refine ⟨⟨(h1.map _).nodup h, by simp, fun a ha b hb => ?_⟩, (h2.map _).nodup h, fun a ha b hb => ?_⟩
 ·obtain ⟨y, hy, rfl⟩ := List.mem_map.1 ha
  simp only [List.map_cons, List.map_nil, List.mem_singleton] at hb
  rw [hb]
  exact hx y (h1.subset hy)
 ·obtain ⟨z, hz, rfl⟩ := List.mem_map.1 hb
  rcases List.mem_append.1 ha with ha | ha
  ·obtain ⟨y, hy, rfl⟩ := List.mem_map.1 ha
   exact hd y hy z hz
  ·simp only [List.map_cons, List.map_nil, List.mem_singleton] at ha
   rw [ha]
   exact fun e => hx z (h2.subset hz) e.symm
section
variable {n k : Nat} {M : SM} {is : List IM} {i : IM}
theorem DelP.fresh (s : Nat) (hs : s ≤ 240) : DelP 0 (newM s) [.none] := by
 refine ⟨newM_imgs 1 hs, fun i hi => ?_, fun i hi => ?_, fun i hi => ?_, by decide, Nat.le_refl _, newM_gone s _⟩ <;> rw [List.mem_singleton.1 hi]
 ·exact Bytes.zero
 ·exact List.nodup_nil
 ·exact Nat.le_refl _
theorem DelP.more (h : DelP n M is) {n' : Nat} (hn : n ≤ n') : DelP n' M is := ⟨h.imgs, h.bytes, h.nodup, fun i hi => Nat.le_trans (h.puts i hi) hn, h.six, by have := h.log; omega, h.gone⟩
theorem DelP.refs (h : DelP n M is) (hn : n ≤ 240) (q : Nat) : ¬ 255 ≤ M.refs q + 38 + extL (is.map (·.root)) q := fun hq => by
 have h1 := imgs_refs h.imgs (fun j hj => Nat.le_trans (h.puts j hj) hn) q
 have h2 : (is.map fun j => 5 + occ j.l q).sum ≤ 6 * is.length := by
  have key : ∀ js : List IM, (∀ j ∈ js, j ∈ is) → (js.map fun j => 5 + occ j.l q).sum ≤ 6 * js.length := by
   intro js
   induction js with
   | nil => intro _; exact Nat.le_refl _
   | cons j js ih =>
    intro hj
    have h3 := ih (fun x hx => hj x (List.mem_cons_of_mem _ hx))
    have h4 := nodup_occ (h.nodup j (hj j (List.mem_cons_self ..))) q
    rw [List.map_cons, List.sum_cons, List.length_cons]
    omega
  exact key is (fun j hj => hj)
 have h3 : extL (is.map (·.root)) q ≤ is.length := by
  unfold extL
  have : List.count (q : Int) (is.map (·.root)) ≤ (is.map (·.root)).length := List.count_le_length
  rw [List.length_map] at this
  exact this
 have := h.six
 omega
theorem DelP.set (h : DelP n M is) {M' : SM} {i' : IM} (hI : Imgs 1 M' (is.set k i')) (hb : Bytes i'.w) (hd : (i'.l.map (·.2)).Nodup) (hP : i'.P ≤ n + 1) (hl : M'.log.length ≤ M.log.length + 23) (hg : Gone M.pool.size [] M') (hs : M'.pool.size = M.pool.size) : DelP (n + 1) M' (is.set k i') :=
 ⟨hI, fun j hj => (List.mem_or_eq_of_mem_set hj).elim (h.bytes j) (fun e => e ▸ hb), fun j hj => (List.mem_or_eq_of_mem_set hj).elim (h.nodup j) (fun e => e ▸ hd), fun j hj => (List.mem_or_eq_of_mem_set hj).elim (fun hj => Nat.le_succ_of_le (h.puts j hj)) (fun e => e ▸ hP), by rw [List.length_set]; exact h.six, by have := h.log; omega, by rw [hs]; exact hg⟩
theorem rooted5 {m : Nat} {M1 : SM} {root : Int} {l : List (Int × Int)} {h P : Nat} (hr : Rooted m M1 root l h) (hled : root = -1 ∨ Led M1 h root P) (hP : P ≤ 240) : h ≤ 5 := led5 hP hr hled
theorem item_closed {Q : SM → Prop} (C : Closed Q) {M : SM} (root : Int) (x : ItemM) (h : Q M) : Q (M.item root x).1 := by
 unfold SM.item
 split
 ·exact write1_closed C root x.key x.block h
 ·exact changes_closed C _ root h
theorem items_closed {Q : SM → Prop} (C : Closed Q) : ∀ (xs : List ItemM) {M : SM} (root : Int), Q M → Q (SM.items xs M root).1
 | [], _, _, h => h
 | x :: xs, M, root, h => by
  unfold SM.items
  split
  ·exact items_closed C xs _ (item_closed C root x h)
  ·exact item_closed C root x h
theorem del_item (h : DelP n M is) (hi : is[k]? = some i) (hn : n + 1 ≤ 240) {x : ItemM} (hx : rightB x = true) (hok : x.ok) :
  (∃ M' next i', M.item i.root x = (M', next, 0) ∧ DelP (n + 1) M' (is.set k i') ∧ i'.root = next ∧ i'.w = upd i.w x.key x.block ∧ i'.P ≤ i.P + 1 ∧ M'.pool.size = M.pool.size ∧ ∀ y ∈ i'.l, y.1 = x.key ∨ y ∈ i.l) ∨
   (∃ M' next, M.item i.root x = (M', next, 71) ∧ M'.log.length ≤ 30 * (n + 1) ∧ M'.pool.size = M.pool.size ∧ M.pool.freeCount < 14) := by
 have hr : i ∈ is := List.mem_of_getElem? hi
 have hP := h.puts i hr
 obtain ⟨⟨k0, k1⟩, hz⟩ := rightB_iff.1 hx
 have hlg := item_log M i.root x
 have hsz := deli_size M i.root x
 have hgn := item_closed (gone_closed M.pool.size []) i.root x h.gone
 have hlog := h.log
 unfold SM.item at hlg hsz hgn ⊢
 cases hh : x.has with
 | true =>
  rw [hh, if_pos rfl] at hlg hsz hgn
  rw [if_pos rfl]
  have hw := write1_new (by decide) h.imgs hi (by omega) k0 k1 hok.1 hok.2
  obtain ⟨W, hW⟩ : ∃ W, M.write1 i.root x.key x.block = W := ⟨_, rfl⟩
  rw [hW] at hw hlg hsz hgn ⊢
  obtain ⟨M', next, er⟩ := W
  dsimp only at hw hlg hsz hgn
  rcases hw with ⟨rfl, pg, hnew, hI⟩ | ⟨rfl, ⟨rfl, e⟩ | ⟨rfl, q, e⟩⟩
  ·refine .inl ⟨M', next, _, rfl, h.set hI ((h.bytes i hr).upd x.key hok.1 hok.2) (putL_nodup (h.nodup i hr) fun y hy e => ?_) (by show i.P + 1 ≤ _; omega) (by omega) hgn hsz, rfl, rfl, Nat.le_refl _, hsz, fun y hy => (putL_mem hy).imp (fun e => by rw [e]) id⟩
   have hlv := (h.imgs.img i hr).held h.imgs.exact hy
   rw [e, Int.toNat_natCast, hnew] at hlv
   cases hlv
  ·refine .inr ⟨M', -1, rfl, by omega, hsz, ?_⟩
   rcases e with e | ⟨M1, hh, _, ht, hled, e⟩
   ·omega
   ·have := rooted5 ht hled (by omega)
    omega
  ·exact absurd e (h.refs (by omega) q)
 | false =>
  rw [hh, if_neg (by decide)] at hlg hsz hgn
  rw [if_neg (by decide)]
  have hw := clear1_ok h.imgs hi (by omega) k0 k1
  obtain ⟨W, hW⟩ : ∃ W, M.changes [(x.key, -1)] i.root = W := ⟨_, rfl⟩
  rw [hW] at hw hlg hsz hgn ⊢
  obtain ⟨M', next, er⟩ := W
  dsimp only at hw hlg hsz hgn
  rcases hw with ⟨rfl, hI⟩ | ⟨rfl, ⟨rfl, hh, ht, hled, e⟩ | ⟨rfl, q, e⟩⟩
  ·refine .inl ⟨M', next, _, rfl, h.set hI ((h.bytes i hr).wipe x.key) ?_ (by show i.P + 1 ≤ _; omega) (by omega) hgn hsz, rfl, ?_, Nat.le_refl _, hsz, fun y hy => .inr (List.mem_filter.1 hy).1⟩
   ·show ((cutL i.l x.key).map (·.2)).Nodup
    have : (cutL i.l x.key).Sublist i.l := List.filter_sublist
    exact (this.map _).nodup (h.nodup i hr)
   ·rw [hz hh]
    rfl
  ·refine .inr ⟨M', -1, rfl, by omega, hsz, ?_⟩
   have := rooted5 ht hled (by omega)
   omega
  ·exact absurd e (h.refs (by omega) q)
theorem del_items : ∀ (xs : List ItemM) {n : Nat} {M : SM} {is : List IM} {i : IM} {G : List Nat} {N : Nat}, DelP n M is → is[k]? = some i → n + xs.length ≤ 240 → (∀ x ∈ xs, rightB x = true ∧ x.ok) → Marks N G M →
  (∃ M' next i', SM.items xs M i.root = (M', next, 0) ∧ DelP (n + xs.length) M' (is.set k i') ∧ i'.root = next ∧ i'.w = itemsW xs i.w ∧ i'.P ≤ i.P + xs.length ∧ M'.pool.size = M.pool.size ∧ ∀ y ∈ i'.l, (∃ x ∈ xs, y.1 = x.key) ∨ y ∈ i.l) ∨
   (∃ M' next, SM.items xs M i.root = (M', next, 71) ∧ M'.log.length ≤ 30 * (n + xs.length) ∧ M'.pool.size = M.pool.size ∧
    ∃ M1 i1, DelP (n + xs.length) M1 (is.set k i1) ∧ i1.P ≤ i.P + xs.length ∧ Marks N G M1 ∧ M1.pool.size = M.pool.size ∧ M1.pool.freeCount < 14)
 | [], n, M, is, i, G, N, h, hi, _, _, _ => by
  have : is.set k i = is := by
   refine List.ext_getElem? fun j => ?_
   rw [List.getElem?_set]
   by_cases e : k = j
   ·subst e
    have hk := (List.getElem?_eq_some_iff.1 hi).1
    rw [if_pos rfl, if_pos hk, hi]
   ·rw [if_neg e]
  exact .inl ⟨M, i.root, i, rfl, by rw [this]; exact h, rfl, rfl, Nat.le_refl _, rfl, fun y hy => .inr hy⟩
 | x :: xs, n, M, is, i, G, N, h, hi, hn, hx, hm => by
  rw [List.length_cons] at hn ⊢
  have hlt := (List.getElem?_eq_some_iff.1 hi).1
  have hx0 := hx x (List.mem_cons_self ..)
  have hmk := item_closed (marks_closed N G) i.root x hm
  unfold SM.items
  rcases del_item h hi (by omega) hx0.1 hx0.2 with ⟨M1, next, i1, e, h1, e1, e2, e3, e4, e5⟩ | ⟨M1, next, e, e1, e2, e3⟩
  ·rw [e] at hmk ⊢
   dsimp only at hmk ⊢
   rw [if_pos rfl, ← e1]
   have hi1 : (is.set k i1)[k]? = some i1 := by rw [List.getElem?_set_self hlt]
   rcases del_items xs h1 hi1 (by omega) (fun y hy => hx y (List.mem_cons_of_mem _ hy)) hmk with ⟨M2, n2, i2, f, h2, f1, f2, f3, f4, f5⟩ | ⟨M2, n2, f, f1, f2, M3, i3, f3, f4, f5, f6, f7⟩
   ·rw [set_set] at h2
    refine .inl ⟨M2, n2, i2, f, by rw [show n + (xs.length + 1) = n + 1 + xs.length by omega]; exact h2, f1, by rw [f2, e2]; rfl, by omega, f4.trans e4, fun y hy => ?_⟩
    rcases f5 y hy with ⟨z, hz, e⟩ | hy
    ·exact .inl ⟨z, List.mem_cons_of_mem _ hz, e⟩
    ·exact (e5 y hy).imp (fun e => ⟨x, List.mem_cons_self .., e⟩) id
   ·rw [set_set] at f3
    exact .inr ⟨M2, n2, f, by omega, f2.trans e4, M3, i3, by rw [show n + (xs.length + 1) = n + 1 + xs.length by omega]; exact f3, by omega, f5, f6.trans e4, f7⟩
  ·rw [e]
   dsimp only
   rw [if_neg (by decide)]
   have hset : is.set k i = is := by
    refine List.ext_getElem? fun j => ?_
    rw [List.getElem?_set]
    by_cases e : k = j
    ·subst e
     rw [if_pos rfl, if_pos hlt, hi]
    ·rw [if_neg e]
   exact .inr ⟨M1, -1, rfl, by omega, e2, M, i, by rw [hset]; exact h.more (by omega), by omega, hm, rfl, e3⟩
theorem del_deliver (h : DelP n M is) (hi : is[k]? = some i) {xs : List ItemM} (hn : n + xs.length ≤ 240) (hx : ∀ x ∈ xs, rightB x = true ∧ x.ok) {G : List Nat} (hG : ∀ q, M.live q = true → q ∈ G) :
  (∃ M' next i', M.deliver i.root xs = (M', next, 0) ∧ DelP (n + xs.length) M' (is.set k i') ∧ i'.root = next ∧ i'.w = itemsW xs i.w ∧ i'.P ≤ i.P + xs.length ∧ M'.pool.size = M.pool.size ∧ ∀ y ∈ i'.l, (∃ x ∈ xs, y.1 = x.key) ∨ y ∈ i.l) ∨
   (∃ M', M.deliver i.root xs = (M', -1, 71) ∧ DelP (n + xs.length) M' is ∧ M'.pool = M.marked.pool ∧
    ∃ M1 i1, DelP (n + xs.length) M1 (is.set k i1) ∧ i1.P ≤ i.P + xs.length ∧ Marks M.pool.size G M1 ∧ M1.pool.size = M.pool.size ∧ M1.pool.freeCount < 14) := by
 have hany : xs.any (fun x => !rightB x) = false := by rw [List.any_eq_false]; intro x hh; simp [(hx x hh).1]
 have hm := marks_marked h.gone hG
 have hM : DelP n M.marked is := ⟨h.imgs.marked, h.bytes, h.nodup, h.puts, h.six, h.log, gone_marked h.gone⟩
 have hcl : Marked M.marked (SM.items xs M.marked i.root).1 := items_closed (marked_closed M.marked) xs i.root (mark_start M.tidy)
 unfold SM.deliver
 rw [hany, if_neg (by decide)]
 rcases del_items xs hM hi hn hx hm with ⟨M', next, i', e, h1, e1, e2, e3, e4, e5⟩ | ⟨M', next, e, e1, e2, M1, i1, f1, f2, f3, f4, f5⟩
 ·rw [e]
  exact .inl ⟨M', next, i', by unfold SM.safely; rw [if_pos rfl], h1, e1, e2, e3, e4, e5⟩
 ·rw [e] at hcl ⊢
  obtain ⟨a1, a2, a3, a4, a5⟩ := safely_err h.imgs (r := (M', next, 71)) (show (71 : Nat) ≠ 0 by decide) hcl
  refine .inr ⟨⟨M.marked.pool, M'.log⟩, by unfold SM.safely; rw [if_neg (show ¬ (71 : Nat) = 0 by decide)], ⟨?_, h.bytes, h.nodup, fun j hj => by have := h.puts j hj; omega, h.six, e1, gone_marked h.gone⟩, rfl, M1, i1, f1, f2, f3, f4, f5⟩
  have : (M.safely (M', next, 71)).1 = ⟨M.marked.pool, M'.log⟩ := by unfold SM.safely; rw [if_neg (show ¬ (71 : Nat) = 0 by decide)]
  rw [← this]
  exact a3
theorem del_bad {xs : List ItemM} (hx : xs.any (fun x => !rightB x) = true) (M : SM) (root : Int) : M.deliver root xs = (M, -1, 171) := by
 unfold SM.deliver
 rw [if_pos hx]
end
end Go.Proofs.YtidlchciehdefaaGreat
