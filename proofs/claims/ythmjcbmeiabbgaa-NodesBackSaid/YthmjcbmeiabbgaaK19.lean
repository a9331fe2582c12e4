/-
  Trees in a store, plain: the store that a law begins with; what is in a tree; how high one is.
-/
import Derived.Test.YthmjcbmeiabbgaaK03
import Derived.Test.YthmjcbmeiabbgaaK18
set_option linter.unusedVariables false
set_option linter.unusedSimpArgs false
namespace Go.Proofs.Ythmjcbmeiabbgaa
open Go.RowKit

def extOne : Nat → Nat := fun p => if p = 0 then 1 else 0
theorem made_live (s b q : Nat) (hs : 0 < s) : (madeM s b).live q = decide (q = 0) := by
  unfold madeM SM.live PM.live PM.setCnt PM.setSt PM.fresh0
  by_cases hq : q = 0
  · subst hq; simp [hs]
  · simp [hq]
theorem made_node (s b : Nat) : (madeM s b).nodeAt 0 = some (dataN b) := rfl
theorem made_ents (s b q : Nat) : (madeM s b).ents q = [] := by
  unfold SM.ents SM.nodeAt madeM logAt
  simp only [List.foldl_cons, List.foldl_nil]
  by_cases hq : 0 = q
  · rw [if_pos hq]; rfl
  · rw [if_neg hq]
theorem made_exact (s b : Nat) (hs : 0 < s) (h240 : s ≤ 240) (hb : b < 256) : Exact (madeM s b) extOne := by
  refine ⟨h240, fun p => ?_, fun p hp => ?_, fun q hq => ?_, fun q hq x hx => ?_, fun _ => 0, fun q hq x hx => ?_⟩
  · unfold madeM PM.setCnt PM.setSt PM.fresh0
    dsimp only
    split <;> omega
  · have hr : (madeM s b).refs p = 0 := sumN_zero fun q _ => by
      rw [made_ents]
      split <;> rfl
    rw [hr]
    unfold madeM PM.setCnt PM.setSt PM.fresh0 extOne
    dsimp only
    omega
  · rw [made_live s b q hs, decide_eq_true_eq] at hq
    subst hq
    exact ⟨dataN b, rfl, dataN_ok b hb⟩
  · rw [made_ents] at hx; cases hx
  · rw [made_ents] at hx; cases hx
theorem made_free (s b : Nat) (hs : 0 < s) : (madeM s b).pool.freeCount = s - 1 := by
  have : ∀ n, (madeM s b).pool.freeN (n + 1) = n := by
    intro n
    induction n with
    | zero => rfl
    | succ n ih =>
      show (madeM s b).pool.freeN (n + 1) + _ = _
      rw [ih]
      rfl
  obtain ⟨k, rfl⟩ : ∃ k, s = k + 1 := ⟨s - 1, by omega⟩
  exact this k
theorem made_sum (s b : Nat) : (madeM s b).sum = 0 := sumN_zero fun q _ => by
  rw [made_ents]
  split <;> rfl
theorem made_loose (s b : Nat) (hs : 0 < s) (E : List (Int × Int)) : Loose (madeM s b) E := fun q hq hc => by
  rw [made_live s b q hs, decide_eq_true_eq] at hq
  subst hq
  cases hc
theorem made_held (s b : Nat) (hs : 0 < s) : (madeM s b).pool.heldB 0 = true := by
  have h := heldB_nat (madeM s b).pool 0
  have h2 := made_live s b 0 hs
  unfold SM.live at h2
  rw [h2] at h
  exact h

/-- What is in a tree. -/
theorem list_ok {m : Nat} {M : SM} : ∀ (h d : Nat) (p : Int) (l : List (Int × Int)), h + d ≤ 8 → Tr m M h p l → SM.listF (9 - d) M p = (l, 0)
  | 0, _, _, _, _, t => t.elim
  | h + 1, d, p, l, hd, t => by
    obtain ⟨n, hn, hna, hok, k⟩ := tnode_tr t (d := d) (by omega)
    rw [show 9 - d = (8 - d) + 1 by omega, listF_succ, show 8 - (8 - d) = d by omega, hn]
    dsimp only
    rcases k with ⟨_, hk, hl⟩ | ⟨h0, hk, hK⟩
    · rw [if_neg (fun e => e.2 hk), hl]
    · rw [if_pos ⟨rfl, by omega⟩]
      have key : ∀ (es a acc : List (Int × Int)), Kids (Sub m M h) es a → (es.map (·.2)).foldl (listStep (8 - d) M) (acc, 0) = (acc ++ a, 0) := by
        intro es
        induction es with
        | nil => intro a acc hk; rw [show a = [] from hk, List.append_nil]; rfl
        | cons e es ih =>
          intro a acc hk
          obtain ⟨c, b, x, h1, h2, h3, h4, h5⟩ := hk
          have hc := list_ok h (d + 1) e.2 c (by omega) h2.1
          rw [show 9 - (d + 1) = 8 - d by omega] at hc
          rw [List.map_cons, List.foldl_cons, listStep, if_pos rfl, hc, if_pos rfl, ih _ _ h5, h1, List.append_assoc]
      rw [key _ _ _ hK, List.nil_append]
theorem listR_ok {m : Nat} {M : SM} {root : Int} {l : List (Int × Int)} {h : Nat} (t : Rooted m M root l h) (h8 : h ≤ 8) : M.list root = (l, 0) := by
  unfold SM.list
  rcases t with ⟨rfl, rfl, _⟩ | t
  · rw [if_pos rfl]
  · have hne : root ≠ -1 := fun e => by have := (heldB_int t.held).1; omega
    rw [if_neg hne]
    exact list_ok h 0 root l (by omega) t

/-- So many entries has a tree at least. -/
theorem sub_len {M : SM} : ∀ (h : Nat) (p : Int) (l : List (Int × Int)), Sub 3 M h p l → 3 ^ h ≤ l.length
  | 0, _, _, t => t.1.elim
  | h + 1, p, l, ⟨⟨hp, n, hn, hok, k⟩, hm⟩ => by
    rw [entN_of hn] at hm
    have hk := kids_len h
    rcases k with ⟨h0, _, hl⟩ | ⟨_, _, hK⟩
    · subst h0; rw [← hl]; simpa using hm
    · have := hk _ _ hK
      have h3 : 3 * 3 ^ h ≤ n.ents.length * 3 ^ h := Nat.mul_le_mul_right _ hm
      rw [Nat.pow_succ]; omega
where
  kids_len (h : Nat) : ∀ (es l : List (Int × Int)), Kids (Sub 3 M h) es l → es.length * 3 ^ h ≤ l.length
    | [], _, _ => by simp
    | e :: es, l, ⟨a, b, x, h1, h2, h3, h4, h5⟩ => by
      have i1 := sub_len h e.2 a h2
      have i2 := kids_len h es b h5
      rw [h1, List.length_append, List.length_cons, Nat.add_mul]
      omega
theorem tr_len {M : SM} {h : Nat} {p : Int} {l : List (Int × Int)} (t : Tr 3 M (h + 1) p l) (h0 : 0 < h) : 3 ^ h ≤ l.length := by
  obtain ⟨hp, n, hn, hok, k⟩ := t
  rcases k with ⟨h1, _⟩ | ⟨_, _, hK⟩
  · omega
  · have hin := innerOk_of hok (by omega)
    have hpos := hin.pos
    cases he : n.ents with
    | nil => rw [he] at hpos; simp at hpos
    | cons e es =>
      rw [he] at hK
      obtain ⟨a, b, x, h1, h2, _⟩ := hK
      have := sub_len h e.2 a h2
      rw [h1, List.length_append]; omega
theorem rises_len {l : List (Int × Int)} (hr : RisesK l) (hb : ∀ y ∈ l, 0 ≤ y.1 ∧ y.1 < 64) : l.length ≤ 64 := by
  have key : ∀ (l : List (Int × Int)) (c : Int), RisesK l → (∀ y ∈ l, c ≤ y.1 ∧ y.1 < 64) → 0 ≤ c → c ≤ 64 → (l.length : Int) ≤ 64 - c := by
    intro l
    induction l with
    | nil => intro c _ _ _ h; simpa using h
    | cons y l ih =>
      intro c hr hb h0 hc
      have hr' := List.pairwise_cons.1 hr
      have hy := hb y (List.mem_cons_self ..)
      have := ih (y.1 + 1) hr'.2 (fun z hz => ⟨by have := hr'.1 z hz; omega, (hb z (List.mem_cons_of_mem _ hz)).2⟩) (by omega) (by omega)
      rw [List.length_cons]
      omega
  have := key l 0 hr hb (by omega) (by omega)
  omega
theorem tr_high {M : SM} {h : Nat} {p : Int} {l : List (Int × Int)} (t : Tr 3 M h p l) (g : Good M l) : h ≤ 4 := by
  by_cases h1 : h ≤ 1
  · exact Nat.le_trans h1 (by decide)
  · obtain ⟨k, rfl⟩ : ∃ k, h = k + 1 := ⟨h - 1, by omega⟩
    have h2 := tr_len t (by omega)
    have h3 := rises_len g.1 fun y hy => ⟨(g.2 y hy).1, (g.2 y hy).2.1⟩
    by_cases h4 : k ≤ 3
    · omega
    · have : 3 ^ 4 ≤ 3 ^ k := Nat.pow_le_pow_right (by omega) (by omega)
      omega
/-- What a leaf of a split is. -/
theorem leaf_get {m : Nat} {M : SM} {p : Int} {l : List (Int × Int)} (t : Tr m M 1 p l) : ∃ n, M.get p = (n, 0) ∧ n.kind = 2 ∧ n.ents = l ∧ 1 ≤ l.length ∧ l.length ≤ 6 := by
  obtain ⟨hp, n, hn, hok, k⟩ := t
  rcases k with ⟨_, hk, hl⟩ | ⟨h0, _⟩
  · have hin := innerOk_of hok (by omega)
    refine ⟨n, ?_, hk, hl, by rw [← hl]; exact hin.pos, by rw [← hl]; exact hin.le⟩
    unfold SM.get
    rw [if_pos hp, hn]
  · exact absurd h0 (Nat.lt_irrefl 0)
end Go.Proofs.Ythmjcbmeiabbgaa
/-
  Trees in a store, plain: a mark, and what is undone; a root that is held.
-/
namespace Go.Proofs.Ythmjcbmeiabbgaa
open Go.RowKit

/-- What was there at a mark isn't taken, and is as it was written. -/
structure Marked (M0 M : SM) : Prop where
  size : M.pool.size = M0.pool.size
  st : ∀ q, M0.live q = true → M.pool.st q ≠ 1 ∧ (0 < M.pool.cnt q ∨ M.pool.st q = 2 ∨ M.pool.st q = 3 ∨ M.pool.st q = 4)
  node : ∀ q, M0.live q = true → M.nodeAt q = M0.nodeAt q
theorem marked_closed (M0 : SM) : Closed (Marked M0) := by
  refine ⟨fun M i n hi h => ?_, fun M i h => ?_, fun M i hi h => ?_⟩
  · obtain ⟨_, hf⟩ := takeIx_free hi
    simp only [PM.freeB, Bool.and_eq_true, beq_iff_eq] at hf
    have hne : ∀ q, M0.live q = true → q ≠ i := fun q hq e => by
      subst e
      have := h.st q hq
      omega
    refine ⟨h.size, fun q hq => ?_, fun q hq => ?_⟩
    · have := h.st q hq
      simp only [PM.setSt, if_neg (hne q hq)]
      exact this
    · show logAt (M.log ++ [(i, n)]) q = _
      rw [logAt_put, if_neg (fun e => hne q hq e.symm)]
      exact h.node q hq
  · refine ⟨by show (M.pool.holdTo i).size = _; rw [holdTo_size]; exact h.size, fun q hq => ?_, h.node⟩
    have := h.st q hq
    show (M.pool.holdTo i).st q ≠ 1 ∧ (0 < (M.pool.holdTo i).cnt q ∨ (M.pool.holdTo i).st q = 2 ∨ (M.pool.holdTo i).st q = 3 ∨ (M.pool.holdTo i).st q = 4)
    unfold PM.holdTo
    split
    · simp only [PM.setCnt]
      split
      · exact ⟨this.1, .inl (Nat.succ_pos _)⟩
      · exact this
    · exact this
  · refine ⟨by show (M.pool.dropTo i.toNat).size = _; rw [dropTo_size]; exact h.size, fun q hq => ?_, h.node⟩
    have := h.st q hq
    show (M.pool.dropTo i.toNat).st q ≠ 1 ∧ (0 < (M.pool.dropTo i.toNat).cnt q ∨ (M.pool.dropTo i.toNat).st q = 2 ∨ (M.pool.dropTo i.toNat).st q = 3 ∨ (M.pool.dropTo i.toNat).st q = 4)
    unfold PM.dropTo
    split
    · simp only [PM.setCnt]
      split
      · exact ⟨this.1, .inl (by omega)⟩
      · exact this
    · simp only [PM.setCnt, PM.setSt]
      by_cases e : q = i.toNat
      · subst e
        simp only [if_true]
        unfold PM.lastSt
        rw [if_neg this.1]
        split <;> omega
      · simp only [if_neg e]
        exact this

def markM (M : SM) : SM := { M with pool := M.pool.turned 1 2 }
theorem mark_live (M : SM) (q : Nat) : (markM M).live q = M.live q := by
  unfold markM SM.live PM.live PM.turned
  dsimp only
  by_cases h : M.pool.st q = 1
  · simp [h]
  · simp [h]
theorem mark_free (M : SM) : (markM M).pool.freeCount = M.pool.freeCount := by
  unfold PM.freeCount
  show (M.pool.turned 1 2).freeN M.pool.size = _
  rw [freeN_sum, freeN_sum]
  refine sumN_congr fun i _ => ?_
  have : (M.pool.turned 1 2).freeB i = M.pool.freeB i := by
    unfold PM.freeB PM.turned
    dsimp only
    by_cases h : M.pool.st i = 1
    · rw [if_pos h, h]; rfl
    · rw [if_neg h]
  rw [this]
theorem mark_start (M : SM) : Marked (markM M) (markM M) := by
  refine ⟨rfl, fun q hq => ?_, fun _ _ => rfl⟩
  simp only [SM.live, PM.live, Bool.and_eq_true, Bool.or_eq_true, decide_eq_true_eq, beq_iff_eq] at hq
  have hs : ∀ q, (markM M).pool.st q ≠ 1 := fun q => by
    show (if M.pool.st q = 1 then 2 else M.pool.st q) ≠ 1
    split <;> omega
  refine ⟨hs q, ?_⟩
  rcases hq.2 with h | h | h
  · exact .inl h
  · exact absurd h (hs q)
  · exact .inr (.inl h)
/-- Pools that hold the same, and logs that say the same of what is there. -/
theorem exact_same {M N : SM} {ext : Nat → Nat} (h : Exact M ext) (hs : N.pool.size = M.pool.size) (hc : ∀ q, N.pool.cnt q = M.pool.cnt q) (hl : ∀ q, N.live q = M.live q) (hn : ∀ q, M.live q = true → N.nodeAt q = M.nodeAt q) : Exact N ext := by
  have he : ∀ q, M.live q = true → N.ents q = M.ents q := fun q hq => by unfold SM.ents; rw [hn q hq]
  refine ⟨by rw [hs]; exact h.size, fun p => by rw [hc]; exact h.cntLe p, fun p hp => ?_, fun q hq => ?_, fun q hq x hx => ?_, ?_⟩
  · rw [hc, h.cnt p (by rw [← hs]; exact hp)]
    unfold SM.refs
    rw [hs]
    have : sumN (fun q => if M.live q then occ (M.ents q) p else 0) M.pool.size = sumN (fun q => if N.live q then occ (N.ents q) p else 0) M.pool.size := sumN_congr fun q _ => by
      rw [hl]
      by_cases hq : M.live q = true
      · rw [if_pos hq, if_pos hq, he q hq]
      · rw [if_neg hq, if_neg hq]
    rw [this]
  · rw [hl] at hq
    rw [hn q hq]; exact h.node q hq
  · rw [hl] at hq ⊢
    rw [he q hq] at hx
    exact h.kids q hq x hx
  · obtain ⟨r, hr⟩ := h.rank
    exact ⟨r, fun q hq x hx => by rw [hl] at hq; rw [he q hq] at hx; exact hr q hq x hx⟩
theorem grown_same {M N : SM} (hs : N.pool.size = M.pool.size) (hl : ∀ q, N.live q = M.live q) (hn : ∀ q, M.live q = true → N.nodeAt q = M.nodeAt q) : Grown M N := ⟨hs, fun q hq => by rw [hl]; exact hq, hn⟩

theorem Kids.in {T : Int → List (Int × Int) → Prop} : ∀ {es l : List (Int × Int)}, Kids T es l → ∀ y ∈ l, ∃ e ∈ es, ∃ a, T e.2 a ∧ y ∈ a
  | [], l, h, y, hy => by rw [show l = [] from h] at hy; cases hy
  | e :: es, _, ⟨a, b, x, h1, h2, h3, h4, h5⟩, y, hy => by
    rw [h1] at hy
    rcases List.mem_append.1 hy with hy | hy
    · exact ⟨e, List.mem_cons_self .., a, h2, hy⟩
    · obtain ⟨f, hf, c, hc, hyc⟩ := Kids.in h5 y hy
      exact ⟨f, List.mem_cons_of_mem _ hf, c, hc, hyc⟩
/-- What is in a tree is there. -/
theorem tr_held {m : Nat} {M : SM} {ext : Nat → Nat} (E : Exact M ext) : ∀ {h : Nat} {p : Int} {l : List (Int × Int)}, Tr m M h p l → ∀ y ∈ l, M.pool.heldB y.2 = true
  | 0, _, _, t, _, _ => t.elim
  | h + 1, p, l, ⟨hp, n, hn, hok, k⟩, y, hy => by
    rcases k with ⟨_, _, hl⟩ | ⟨_, _, hK⟩
    · have hlv := (heldB_int hp).2
      have hy' : y ∈ M.ents p.toNat := by unfold SM.ents; rw [hn]; show y ∈ n.ents; rw [hl]; exact hy
      have h1 := E.kids _ hlv y hy'
      have h0 := E.pos hlv hy'
      obtain ⟨c, hc⟩ := Int.eq_ofNat_of_zero_le h0
      rw [hc] at h1 ⊢
      rw [heldB_nat]
      exact h1
    · obtain ⟨e, _, a, ha, hya⟩ := hK.in y hy
      exact tr_held E ha.1 y hya
theorem ext_held {M : SM} {ext : Nat → Nat} (E : Exact M ext) {p : Nat} (hp : p < M.pool.size) (he : 0 < ext p) : M.pool.heldB (p : Int) = true := by
  rw [heldB_nat]
  have := E.cnt p hp
  unfold PM.live
  simp only [hp, decide_true, Bool.true_and]
  rw [Bool.or_eq_true]
  left
  rw [decide_eq_true_eq]
  omega

/-- Who holds: the block's page once, the root once. -/
def extR (root : Int) : Nat → Nat := fun p => extOne p + (if (p : Int) = root then 1 else 0)
/-- A store with one tree, whose root is held. -/
structure RoomInv (s : Nat) (M : SM) (root : Int) (l : List (Int × Int)) : Prop where
  exact : Exact M (extR root)
  size : M.pool.size = s
  rooted : ∃ h, Rooted 3 M root l h
  keys : RisesK l ∧ ∀ y ∈ l, 0 ≤ y.1 ∧ y.1 < 64
  loose : Loose M []
theorem RoomInv.good {s : Nat} {M : SM} {root : Int} {l : List (Int × Int)} (h : RoomInv s M root l) : Good M l := by
  refine ⟨h.keys.1, fun y hy => ⟨(h.keys.2 y hy).1, (h.keys.2 y hy).2, ?_⟩⟩
  obtain ⟨k, hr⟩ := h.rooted
  rcases hr with ⟨_, hl, _⟩ | hr
  · rw [hl] at hy; cases hy
  · exact tr_held h.exact hr y hy
theorem RoomInv.high {s : Nat} {M : SM} {root : Int} {l : List (Int × Int)} (h : RoomInv s M root l) : ∃ k, Rooted 3 M root l k ∧ k ≤ 4 := by
  obtain ⟨k, hr⟩ := h.rooted
  rcases hr with hr | hr
  · exact ⟨k, .inl hr, by rw [hr.2.2]; exact Nat.zero_le _⟩
  · exact ⟨k, .inr hr, tr_high hr h.good⟩
theorem RoomInv.list {s : Nat} {M : SM} {root : Int} {l : List (Int × Int)} (h : RoomInv s M root l) : M.list root = (l, 0) := by
  obtain ⟨k, hr, hk⟩ := h.high
  exact listR_ok hr (by omega)
theorem RoomInv.same {s : Nat} {M N : SM} {root : Int} {l : List (Int × Int)} (h : RoomInv s M root l) (hs : N.pool.size = M.pool.size) (hc : ∀ q, N.pool.cnt q = M.pool.cnt q) (hl : ∀ q, N.live q = M.live q) (hn : ∀ q, M.live q = true → N.nodeAt q = M.nodeAt q) : RoomInv s N root l := by
  have g := grown_same hs hl hn
  refine ⟨exact_same h.exact hs hc hl hn, hs.trans h.size, ?_, h.keys, fun q hq hq0 => h.loose q (by rw [← hl]; exact hq) (by rw [← hc]; exact hq0)⟩
  obtain ⟨k, hr⟩ := h.rooted
  exact ⟨k, hr.imp id fun t => Tr.grown g t⟩
theorem room_start (s : Nat) (hs : 0 < s) (h240 : s ≤ 240) : RoomInv s (madeM s 9) (-1) [] := by
  refine ⟨exact_congr (made_exact s 9 hs h240 (by decide)) (fun p _ => ?_), rfl, ⟨0, .inl ⟨rfl, rfl, rfl⟩⟩, ⟨List.Pairwise.nil, fun y hy => by cases hy⟩, made_loose s 9 hs []⟩
  unfold extR
  rw [if_neg (by omega)]
  rfl
theorem room_mark {s : Nat} {M : SM} {root : Int} {l : List (Int × Int)} (h : RoomInv s M root l) : RoomInv s (markM M) root l := h.same rfl (fun _ => rfl) (mark_live M) (fun _ _ => rfl)
/-- What is undone is as it was at the mark. -/
theorem room_undo {s : Nat} {M N : SM} {root : Int} {l : List (Int × Int)} (h : RoomInv s M root l) (k : Marked M N) : RoomInv s ⟨M.pool, N.log⟩ root l :=
  h.same rfl (fun _ => rfl) (fun _ => rfl) (fun q hq => k.node q hq)

/-- A key is put, and the new root held in the place of the old one. -/
theorem room_put {s : Nat} {M : SM} {root : Int} {l : List (Int × Int)} (hs : 0 < s) (h : RoomInv s M root l) {key : Int} (k0 : 0 ≤ key) (k1 : key < 64) :
    ((M.put root key 0).2.2 = 0 ∧ ((M.put root key 0).1.swap root (M.put root key 0).2.1).2 = 0 ∧ RoomInv s ((M.put root key 0).1.swap root (M.put root key 0).2.1).1 (M.put root key 0).2.1 (putL l (key, 0))) ∨
      ((M.put root key 0).2.2 = 71 ∧ M.pool.freeCount ≤ 10) ∨ ((M.put root key 0).2.2 = 72 ∧ ∃ c, 255 < M.sum + 31 + extR root c) := by
  obtain ⟨k, hr, hk⟩ := h.high
  have hx : M.pool.heldB 0 = true := ext_held h.exact (p := 0) (by rw [h.size]; exact hs) (by unfold extR extOne; rw [if_pos rfl]; omega)
  rcases put_ok (by decide) h.exact hr (by omega) h.good h.loose hx k0 k1 with ⟨e, T⟩ | ⟨_, e, hf⟩ | ⟨_, e, c, hc⟩
  · refine .inl ⟨e, ?_⟩
    obtain ⟨M1, hM1⟩ : ∃ M1, (M.put root key 0).1 = M1 := ⟨_, rfl⟩
    obtain ⟨next, hnext⟩ : ∃ next, (M.put root key 0).2.1 = next := ⟨_, rfl⟩
    rw [hM1, hnext] at T ⊢
    obtain ⟨h', t, hh'⟩ := T.tr
    have hn := t.held
    have hn0 := (heldB_int hn).1
    have hold : root = -1 ∨ (M1.pool.heldB root = true ∧ 0 < extR root root.toNat) := by
      rcases hr with ⟨hr, _⟩ | hr
      · exact .inl hr
      · have h0 := (heldB_int hr.held).1
        exact .inr ⟨T.grown.held hr.held, by unfold extR; rw [if_pos (by omega)]; omega⟩
    obtain ⟨r1, E2, hlog, hsz, hlv, hlo⟩ := swap_ok T.exact (.inr ⟨hn, by rw [T.zero]; decide⟩) hold
    obtain ⟨M2, hM2⟩ : ∃ M2, (M1.swap root next).1 = M2 := ⟨_, rfl⟩
    rw [hM2] at E2 hlog hsz hlv hlo ⊢
    have E2' : Exact M2 (extR next) := exact_congr E2 (fun p _ => by
      unfold swapE extR
      by_cases e1 : (p : Int) = root <;> by_cases e2 : (p : Int) = next <;> simp [e1, e2] <;> omega)
    have hs2 : M2.pool.size = s := by rw [hsz, T.grown.size, h.size]
    have hnext2 : M2.pool.heldB next = true := by
      obtain ⟨c, hc⟩ := Int.eq_ofNat_of_zero_le hn0
      rw [hc]
      refine ext_held E2' ?_ (by unfold extR; rw [if_pos hc.symm]; omega)
      rw [hsz]
      have := live_lt (M := M1) (heldB_int hn).2
      rw [hc, Int.toNat_natCast] at this
      exact this
    refine ⟨r1, E2', hs2, ⟨h', .inr (Tr.stays E2' hlog t hnext2)⟩, ?_, fun q hq hc => ?_⟩
    · have g := h.good.put (x := (key, 0)) k0 k1 hx
      exact ⟨g.1, fun y hy => ⟨(g.2 y hy).1, (g.2 y hy).2.1⟩⟩
    · obtain ⟨c1, c2⟩ := hlo q hq hc
      obtain ⟨x, hx, he⟩ := T.loose [] rfl q (hlv q hq) c1
      rw [List.nil_append, List.mem_singleton] at hx
      rw [hx] at he
      exact absurd he.symm c2
  · exact .inr (.inl ⟨e, by omega⟩)
  · exact .inr (.inr ⟨e, c, by omega⟩)
end Go.Proofs.Ythmjcbmeiabbgaa
/-
  Nodes in a store, plain: what making a node comes to, where all that is there was written.
-/
namespace Go.Proofs.Ythmjcbmeiabbgaa
open Go.RowKit

/-- All that is there was written. -/
def Written (M : SM) : Prop := ∀ q, M.live q = true → ∃ n, M.nodeAt q = some n
theorem Written.get {M : SM} (h : Written M) (x : Int) : (M.get x).2 = 0 ↔ M.pool.heldB x = true := by
  unfold SM.get
  by_cases hh : M.pool.heldB x = true
  · obtain ⟨n, hn⟩ := h x.toNat (heldB_int hh).2
    rw [if_pos hh, hn]
    exact ⟨fun _ => hh, fun _ => rfl⟩
  · rw [if_neg hh]
    exact ⟨fun h => absurd h (by decide), fun h => absurd h hh⟩
theorem written_start (s : Nat) : Written ⟨PM.fresh0 s, []⟩ := fun q hq => by
  simp [SM.live, PM.live, PM.fresh0] at hq
theorem Written.mark {M : SM} (h : Written M) : Written (markM M) := fun q hq => h q (by rw [mark_live] at hq; exact hq)
theorem free_some {p : PM} {i : Nat} (h : p.takeIx = some i) : p.freeCount ≠ 0 := by
  obtain ⟨h1, h2⟩ := takeIx_free h
  unfold PM.freeCount
  rw [freeN_sum]
  have := sumN_get (f := fun i => if p.freeB i then 1 else 0) h1
  simp only [h2, if_true] at this
  omega

/-- What making a node that can be comes to. -/
theorem back_make {M : SM} (hW : Written M) (hc : ∀ j, M.pool.cnt j ≤ 255) {n : NM} (hr : n.rightB = true) (hk : ∀ x ∈ n.ents, M.pool.heldB x.2 = true) :
    (M.pool.freeCount = 0 ∧ M.make n = (M, -1, 71)) ∨
      (M.pool.freeCount ≠ 0 ∧ ∃ M1 : SM, ∃ i : Nat, M.make n = (M1, (i : Int), 0) ∧ M1.get i = (n, 0) ∧ (M1.hold i).2 = 0 ∧ Written (M1.hold i).1 ∧ (M1.hold i).1.log.length = M.log.length + 1) ∨
      (M.pool.freeCount ≠ 0 ∧ ∃ M1 : SM, ∃ p : Int, M.make n = (M1, p, 72)) := by
  unfold SM.make
  rw [if_pos hr]
  have hany : ¬ (n.ents.any (fun x => !M.pool.heldB x.2) = true) := by
    rw [List.any_eq_true]
    rintro ⟨x, hx, hb⟩
    rw [hk x hx] at hb
    cases hb
  rw [if_neg hany]
  cases hti : M.pool.takeIx with
  | none => exact .inl ⟨free_zero hti, rfl⟩
  | some i =>
    right
    have hf := free_some hti
    dsimp only
    obtain ⟨hil, hif⟩ := takeIx_free hti
    have hnl := free_not_live hif
    have hif' := hif
    simp only [PM.freeB, Bool.and_eq_true, beq_iff_eq] at hif'
    have hc1 : (M.pool.setSt i 1).cnt = M.pool.cnt := rfl
    have hl1 : ∀ q, (M.pool.setSt i 1).live q = (M.pool.live q || decide (q = i)) := by
      intro q
      unfold PM.live PM.setSt
      dsimp only
      by_cases hq : q = i
      · subst hq; simp [hil]
      · simp [hq]
    have hk1 : ∀ c ∈ n.ents.map (·.2), (M.pool.setSt i 1).heldB c = true := by
      intro c hc
      obtain ⟨x, hx, rfl⟩ := List.mem_map.1 hc
      have := hk x hx
      obtain ⟨h0, h2⟩ := heldB_int this
      obtain ⟨m, hm⟩ := Int.eq_ofNat_of_zero_le h0
      rw [hm] at h2 ⊢
      rw [heldB_nat, hl1]
      simp only [Int.toNat_natCast] at h2
      rw [h2]; rfl
    rcases holds_split (M.pool.setSt i 1) (n.ents.map (·.2)) hk1 (fun j => by rw [hc1]; exact hc j) with ⟨he, H, hb⟩ | ⟨he, _⟩
    · left
      refine ⟨hf, _, i, by rw [he]; rfl, ?_, ?_⟩
      · obtain ⟨p', hp'⟩ : ∃ p', (holds (M.pool.setSt i 1) (n.ents.map (·.2))).1 = p' := ⟨_, rfl⟩
        rw [hp'] at H ⊢
        have hli : p'.heldB (i : Int) = true := by rw [heldB_nat, H.live hk1, hl1]; simp
        unfold SM.get
        rw [if_pos hli]
        have : SM.nodeAt ⟨p', M.log ++ [(i, n)]⟩ ((i : Int).toNat) = some n := by
          rw [Int.toNat_natCast]
          show logAt (M.log ++ [(i, n)]) i = some n
          rw [logAt_put, if_pos rfl]
        rw [this]
      · obtain ⟨p', hp'⟩ : ∃ p', (holds (M.pool.setSt i 1) (n.ents.map (·.2))).1 = p' := ⟨_, rfl⟩
        rw [hp'] at H hb ⊢
        have hlive : ∀ q, p'.live q = (M.pool.live q || decide (q = i)) := fun q => by rw [H.live hk1, hl1]
        have hli : p'.heldB (i : Int) = true := by rw [heldB_nat, hlive]; simp
        have hci : p'.cnt i = 0 := by
          rw [H.cnt, hc1, hif'.1]
          have : (n.ents.map (·.2)).countP (fun c => c == (i : Int)) = 0 := by
            rw [List.countP_eq_zero]
            intro c hcm
            obtain ⟨x, hx, rfl⟩ := List.mem_map.1 hcm
            have h2 := heldB_int (hk x hx)
            intro e
            have e' : x.2 = (i : Int) := by simpa using e
            rw [e', Int.toNat_natCast] at h2
            rw [show M.pool.live i = false from hnl] at h2
            exact absurd h2.2 (by decide)
          omega
        have hh : SM.hold ⟨p', M.log ++ [(i, n)]⟩ (i : Int) = (⟨p'.setCnt i 1, M.log ++ [(i, n)]⟩, 0) := by
          simp [SM.hold, PM.holdTo, PM.holdErr, hli, hci]
        rw [hh]
        refine ⟨rfl, fun q hq => ?_, by simp⟩
        have hq' : p'.live q = true := by
          have hq2 : (p'.setCnt i 1).live q = true := hq
          unfold PM.live PM.setCnt at hq2
          dsimp only at hq2
          by_cases e : q = i
          · rw [e, ← heldB_nat]; exact hli
          · simp only [if_neg e] at hq2; exact hq2
        show ∃ m, logAt (M.log ++ [(i, n)]) q = some m
        rw [logAt_put]
        by_cases e : i = q
        · rw [if_pos e]; exact ⟨n, rfl⟩
        · rw [if_neg e]
          rw [hlive] at hq'
          have e' : ¬ q = i := fun z => e z.symm
          simp [e'] at hq'
          exact hW q hq'
    · right
      exact ⟨hf, _, _, by rw [he]⟩
theorem make_wrong {M : SM} {n : NM} (hr : n.rightB = false) : M.make n = (M, -1, 81) := by unfold SM.make; rw [if_neg (by rw [hr]; decide)]
theorem make_away {M : SM} {n : NM} (hr : n.rightB = true) {x : Int × Int} (hx : x ∈ n.ents) (hk : M.pool.heldB x.2 = false) : M.make n = (M, -1, 73) := by
  unfold SM.make
  rw [if_pos hr, if_pos (by rw [List.any_eq_true]; exact ⟨x, hx, by rw [hk]; rfl⟩)]
end Go.Proofs.Ythmjcbmeiabbgaa
/-
  NodesBack: the walk.
-/
namespace Go.Proofs.Ythmjcbmeiabbgaa.nodesBack
open Go.RowKit
set_option maxRecDepth 100000

theorem mark_held (M : SM) (x : Int) : (markM M).pool.heldB x = M.pool.heldB x := by
  by_cases h0 : 0 ≤ x
  · obtain ⟨q, rfl⟩ := Int.eq_ofNat_of_zero_le h0
    rw [heldB_nat, heldB_nat]
    exact mark_live M q
  · have h1 : ∀ p : PM, p.heldB x = false := fun p => by
      cases h : p.heldB x with
      | false => rfl
      | true => exact absurd (heldB_pos h).1 h0
    rw [h1, h1]
theorem back_all {M : SM} (hW : Written M) (hc : ∀ j, (markM M).pool.cnt j ≤ 255) {n : NM} :
    (n.rightB = false ∧ ((markM M).make n).1 = markM M ∧ ((markM M).make n).2.1 = -1 ∧ ((markM M).make n).2.2 = 81) ∨
    (n.rightB = true ∧ (n.ents.all fun x => M.pool.heldB x.2) = false ∧ ((markM M).make n).1 = markM M ∧ ((markM M).make n).2.1 = -1 ∧ ((markM M).make n).2.2 = 73) ∨
    (n.rightB = true ∧ (n.ents.all fun x => M.pool.heldB x.2) = true ∧ (markM M).pool.freeCount = 0 ∧ ((markM M).make n).1 = markM M ∧ ((markM M).make n).2.1 = -1 ∧ ((markM M).make n).2.2 = 71) ∨
    (n.rightB = true ∧ (n.ents.all fun x => M.pool.heldB x.2) = true ∧ (markM M).pool.freeCount ≠ 0 ∧ ∃ i : Nat, ((markM M).make n).2.1 = (i : Int) ∧ ((markM M).make n).2.2 = 0 ∧ ((markM M).make n).1.get i = (n, 0) ∧ (((markM M).make n).1.hold i).2 = 0 ∧ Written (((markM M).make n).1.hold i).1 ∧ (((markM M).make n).1.hold i).1.log.length = M.log.length + 1) ∨
    (n.rightB = true ∧ (n.ents.all fun x => M.pool.heldB x.2) = true ∧ (markM M).pool.freeCount ≠ 0 ∧ ((markM M).make n).2.2 = 72) := by
  cases hr : n.rightB with
  | false => left; rw [make_wrong hr]; exact ⟨rfl, rfl, rfl, rfl⟩
  | true =>
    right
    cases ht : n.ents.all fun x => M.pool.heldB x.2 with
    | false =>
      left
      rw [List.all_eq_false] at ht
      obtain ⟨x, hx, hb⟩ := ht
      rw [make_away hr hx (by rw [mark_held]; simpa using hb)]
      exact ⟨rfl, rfl, rfl, rfl, rfl⟩
    | true =>
      right
      rw [List.all_eq_true] at ht
      rcases back_make hW.mark hc hr (fun x hx => by rw [mark_held]; exact ht x hx) with ⟨hf, e⟩ | ⟨hf, M1, i, e, h1, h2, h3, h4⟩ | ⟨hf, M1, p, e⟩
      · left; rw [e]; exact ⟨rfl, rfl, hf, rfl, rfl, rfl⟩
      · right; left; rw [e]; exact ⟨rfl, rfl, hf, i, rfl, rfl, h1, h2, h3, h4⟩
      · right; right; rw [e]; exact ⟨rfl, rfl, hf, rfl⟩
/-- A slice of nodes that came in. -/
structure NodeIn (w : World) (g off : Nat) (n : NM) (sv : Value) : Prop where
  cells : ∀ j v, (nodeCells n sv)[j]? = some v → w.cell? ⟨g, off + j, none⟩ = some v
  ents : EntsAt w sv n.ents
  old : n.ents ≠ [] → ∀ b, sv.ownBlock = some b → b < w.heap.size
  len : n.block.length = 16
  bytes : ∀ b ∈ n.block, b < 256
theorem NodeIn.fresh {w w' : World} {g off : Nat} {n : NM} {sv : Value} (h : NodeIn w g off n sv) (k : Kept (fun _ => False) w w') : NodeIn w' g off n sv :=
  ⟨fun j v hj => k.cell (h.cells j v hj) id, SliceAt.fresh h.ents k, fun hne b hb => Nat.lt_of_lt_of_le (h.old hne b hb) k.size, h.len, h.bytes⟩
def NodesIn (w : World) (v : Value) (l : List NM) : Prop := ∃ A cap, v = .slice A l.length cap ∧ l.length ≤ cap ∧ cap ≤ maxLen ∧
  ∀ i n, l[i]? = some n → ∃ b off sv, A = some ⟨b, off, none⟩ ∧ b < w.heap.size ∧ NodeIn w b (off + i * 18) n sv

set_option maxHeartbeats 8000000 in
theorem walkIn {w : World} (va : Value) (l : List NM) (hl : NodesIn w va l) : Calls Try.prog 9 #[va] w fun e w' => e = .returned (.bool true) ∧ Kept (fun _ => False) w w' := by
  obtain ⟨Al, capl, rfl, hc1, hc2, hget⟩ := hl
  unfold maxLen at hc2
  have hget' := Lib.hid hget
  clear hget
  by_cases hlong : 60 < l.length
  · have hb : (60 : Int) < (l.length : Int) := by omega
    clear hlong
    go_enter Try.func9, Try.ntmps9
    go_wp2_with fail
    refine (alive09 _).mono ?_
    rintro e w1 ⟨rfl, k1⟩
    have k1' := Lib.hid k1
    clear k1
    go_wp2_with fail
    go_ret
    exact ⟨rfl, k1'.out⟩
  have hshort : l.length ≤ 60 := by omega
  have hb : ¬ ((60 : Int) < (l.length : Int)) := by omega
  obtain ⟨Z, hZ⟩ : ∃ Z, nodeCells NM.zero (.slice none 0 0) = Z := ⟨_, rfl⟩
  have hZz : Hid ((Try.prog.info? 33).map (·.zero) = some (some (.agg Z.toArray))) := Lib.hid (by rw [← hZ]; exact node_zero)
  have hZl : Hid (Z.length = 18) := Lib.hid (by rw [← hZ]; exact nodeCells_len _ _)
  have hm := fun w => made09 40 (by decide) (by decide) w
  rw [show (min (40 : Int) 244 - 4).toNat = 36 from by decide] at hm
  have hm' := Lib.hid hm
  clear hm hlong hZ
  go_enter Try.func9, Try.ntmps9
  go_wp2_with fail
  refine (alive09 _).mono ?_
  rintro e w1 ⟨rfl, k1⟩
  have k1' := Lib.hid k1
  clear k1
  go_wp2_with fail
  refine (hm'.out _).mono ?_
  rintro e w2 ⟨A, rfl, hO⟩
  obtain ⟨sb, hsb⟩ : ∃ sb, A.sb = sb := ⟨_, rfl⟩
  have I2 : Hid (∃ A M, OwnStore w1 A M w2 ∧ A.sb = sb ∧ Written M ∧ M.log.length ≤ 0) := Lib.hid ⟨A, _, hO, hsb, written_start _, Nat.le_refl _⟩
  rw [hsb]
  clear hO hsb
  go_wp2_with fail
  go_loopw [25] (fun i wr => ∃ k : Nat, k ≤ l.length ∧ i = .int .i64 k ∧ Hid (∃ A M, OwnStore w1 A M wr ∧ A.sb = sb ∧ Written M ∧ M.log.length ≤ k)) (fun i _ => l.length - (intOf i).toNat)
  case atStart => exact ⟨0, Nat.zero_le _, rfl, I2⟩
  case round =>
    obtain ⟨k, hk, rfl, hI⟩ := hrel
    by_cases hlt : k < l.length
    · obtain ⟨n, hn⟩ : ∃ n, l[k]? = some n := ⟨_, List.getElem?_eq_getElem hlt⟩
      obtain ⟨ab, ao, sv, rfl, hab, hN⟩ := hget'.out k n hn
      obtain ⟨A, M, hO, hsb, hW, hlog⟩ := hI.out
      have hN1 := hN.fresh (k1'.out.trans hO.kept)
      obtain ⟨Av, cv, rfl, hv1, hv2⟩ := EntsAt.form hN1.ents
      unfold maxLen at hv2
      obtain ⟨F, hF⟩ : ∃ F, nodeCells n (.slice Av n.ents.length cv) = F := ⟨_, rfl⟩
      have hFl : Hid (F.length = 18) := Lib.hid (by rw [← hF]; exact nodeCells_len _ _)
      have hF1 : Hid (∀ v ∈ F, v.oneCell' = true) := Lib.hid (by rw [← hF]; exact nodeCells_one _ _ _ _)
      have hcF : Hid (∀ j v, F[j]? = some v → wr.cell? ⟨ab, ao + k * 18 + j, none⟩ = some v) := Lib.hid (by rw [← hF]; exact hN1.cells)
      obtain ⟨nb, hnb⟩ : ∃ nb, wr.heap.size = nb := ⟨_, rfl⟩
      obtain ⟨w3, hw3⟩ : ∃ w3, (wr.alloc (.cells Z.toArray 33)).setRow nb F.toArray = w3 := ⟨_, rfl⟩
      have k3 : Kept (fun _ => False) wr w3 := by rw [← hw3]; exact ((Kept.refl _ _).alloc _).setRowNew (by omega) _
      have s3 : w3.heap.size = nb + 1 := by rw [← hw3, ← hnb]; simp [World.setRow]
      have bx3 : NodeBox w3 nb n (.slice Av n.ents.length cv) := ⟨by rw [hF, ← hw3, ← hnb]; exact setRow_heap _ _ _ _ _ _ (heap_alloc_new _ _)⟩
      have c17 := bx3.c17
      have sf3 := Lib.hid (Safe.new hO.store (b := nb) (by omega) (by omega) : Safe w3 A nb)
      have O3 := Lib.hid (hO.fresh k3)
      have N3 := Lib.hid (hN1.fresh k3)
      have hki : (k : Int) < (l.length : Int) := by omega
      have hw3' := Lib.hid hw3
      have hnb' := Lib.hid hnb
      have hF' := Lib.hid hF
      have bx3' := Lib.hid bx3
      have hsb' := Lib.hid hsb
      have hW' := Lib.hid hW
      have hold : Hid (n.ents ≠ [] → ∀ b, (Value.slice Av n.ents.length cv).ownBlock = some b → b < w1.heap.size) := Lib.hid (fun hne b hb => Nat.lt_of_lt_of_le (hN.old hne b hb) k1'.out.size)
      clear hn hN hN1 hO hI hF hnb hw3 k3 s3 bx3 hsb hW
      by_cases h20 : 20 < n.ents.length
      · have hb20 : (20 : Int) < (n.ents.length : Int) := by omega
        clear h20
        go_wp2_with (first | (refine wpList_load_agg 33 rfl rfl rfl _ Try.underlying33 rfl F (by rw [hFl.out]; exact node_size) hcF.out ?_) | (refine wpList_alloc_as 33 rfl rfl Z.toArray hZz.out ?_; rw [hnb'.out]) | (refine wpList_store_whole 33 rfl rfl rfl F rfl (by rw [hFl.out]; exact node_size) 33 _ (by rw [← hnb'.out]; exact heap_alloc_new _ _) (by simp [hFl.out, hZl.out]) hF1.out ?_; rw [hw3'.out]))
        go_ret
        exact ⟨rfl, k1'.out.trans O3.out.kept⟩
      have hb20 : ¬ ((20 : Int) < (n.ents.length : Int)) := by omega
      go_wp2_with (first | (refine wpList_load_agg 33 rfl rfl rfl _ Try.underlying33 rfl F (by rw [hFl.out]; exact node_size) hcF.out ?_) | (refine wpList_alloc_as 33 rfl rfl Z.toArray hZz.out ?_; rw [hnb'.out]) | (refine wpList_store_whole 33 rfl rfl rfl F rfl (by rw [hFl.out]; exact node_size) 33 _ (by rw [← hnb'.out]; exact heap_alloc_new _ _) (by simp [hFl.out, hZl.out]) hF1.out ?_; rw [hw3'.out]))
      go_loopw [6, 36] (fun t y wr2 => ∃ j : Nat, j ≤ n.ents.length ∧ y = .int .i64 j ∧ t = .bool ((n.ents.take j).all fun x => M.pool.heldB x.2) ∧ Hid (Kept (fun _ => False) w3 wr2)) (fun _ y _ => n.ents.length - (intOf y).toNat)
      case atStart => exact ⟨0, Nat.zero_le _, rfl, rfl, Lib.hid (Kept.refl _ _)⟩
      case round =>
        obtain ⟨j, hj, rfl, rfl, hk2⟩ := hrel
        obtain ⟨tb, htb⟩ : ∃ tb, ((n.ents.take j).all fun x => M.pool.heldB x.2) = tb := ⟨_, rfl⟩
        rw [htb]
        have htb' := Lib.hid htb
        clear htb
        by_cases hltj : j < n.ents.length
        · obtain ⟨x, hx⟩ : ∃ x, n.ents[j]? = some x := ⟨_, List.getElem?_eq_getElem hltj⟩
          obtain ⟨eg, eo, rfl, hbl, hx1, hx2⟩ := EntsAt.get (SliceAt.fresh N3.out.ents hk2.out) hx
          have hji : (j : Int) < (n.ents.length : Int) := by omega
          have lx : Hid (∀ q v, [Value.int .i64 x.1, .int .i64 x.2][q]? = some v → wr.cell? ⟨eg, eo + j * 2 + q, none⟩ = some v) := Lib.hid (fun q v hq => by
            match q, hq with
            | 0, hq => cases hq; exact hx1
            | 1, hq => cases hq; exact hx2)
          obtain ⟨eb, heb⟩ : ∃ eb, wr.heap.size = eb := ⟨_, rfl⟩
          obtain ⟨w4, hw4⟩ : ∃ w4, (wr.alloc (.cells #[.int .i64 0, .int .i64 0] 35)).setRow eb #[.int .i64 x.1, .int .i64 x.2] = w4 := ⟨_, rfl⟩
          have k4 : Kept (fun _ => False) wr w4 := by rw [← hw4]; exact ((Kept.refl _ _).alloc _).setRowNew (by omega) _
          have x4 : w4.heap[eb]? = some (.cells #[.int .i64 x.1, .int .i64 x.2] 35 (0, 0)) := by rw [← hw4, ← heb]; exact setRow_heap _ _ _ _ _ _ (heap_alloc_new _ _)
          have ce1 := cell_of_heap x4 1
          simp at ce1
          have K4 := Lib.hid (hk2.out.trans k4)
          have hg := get_any (O3.out.fresh K4.out).store x.2
          rw [hsb'.out] at hg
          have hheld := hW'.out.get x.2
          have hnext : Hid (((n.ents.take (j + 1)).all fun x => M.pool.heldB x.2) = (tb && M.pool.heldB x.2)) := Lib.hid (by rw [List.take_add_one, hx, List.all_append, htb'.out]; simp)
          obtain ⟨N, hNe⟩ : ∃ N, M.get x.2 = N := ⟨_, rfl⟩
          rw [hNe] at hg hheld
          obtain ⟨m, er⟩ := N
          dsimp only at hg hheld
          have hg' := Lib.hid hg
          have hheld' := Lib.hid hheld
          have hw4' := Lib.hid hw4
          have heb' := Lib.hid heb
          obtain ⟨x0, x1⟩ := x
          dsimp only at *
          clear hx hx1 hx2 hw4 heb k4 x4 hg hNe hheld
          go_wp2_with (first | (refine wpList_alloc_as 35 rfl rfl #[.int .i64 0, .int .i64 0] entry_zero ?_; rw [heb'.out]) | (refine wpList_load_agg 35 rfl rfl rfl _ Try.underlying35 rfl [.int .i64 x0, .int .i64 x1] (by kernel_rfl) lx.out ?_) | (refine wpList_store_whole 35 rfl rfl rfl [.int .i64 x0, .int .i64 x1] rfl entry_size 35 #[.int .i64 0, .int .i64 0] (by rw [← heb'.out]; exact heap_alloc_new _ _) rfl (by intro c hc; simp at hc; rcases hc with rfl | rfl <;> rfl) ?_; rw [hw4'.out]))
          refine hg'.out.mono ?_
          rintro e w5 ⟨v5, rfl, hown5, hk5⟩
          obtain ⟨A5, c5, rfl, _⟩ := EntsAt.form (show EntsAt w5 v5 m.ents from SliceAt.of_owns hown5)
          obtain ⟨G, hG⟩ : ∃ G, nodeCells m (.slice A5 m.ents.length c5) = G := ⟨_, rfl⟩
          have hGl : Hid (G.length = 18) := Lib.hid (by rw [← hG]; exact nodeCells_len _ _)
          have hG1 : Hid (∀ v ∈ G, v.oneCell' = true) := Lib.hid (by rw [← hG]; exact nodeCells_one _ _ _ _)
          obtain ⟨mb, hmb⟩ : ∃ mb, w5.heap.size = mb := ⟨_, rfl⟩
          obtain ⟨w6, hw6⟩ : ∃ w6, (w5.alloc (.cells Z.toArray 33)).setRow mb G.toArray = w6 := ⟨_, rfl⟩
          have k6 : Kept (fun _ => False) w5 w6 := by rw [← hw6]; exact ((Kept.refl _ _).alloc _).setRowNew (by omega) _
          have K6 := Lib.hid ((K4.out.trans hk5).trans k6)
          have hmb' := Lib.hid hmb
          have hw6' := Lib.hid hw6
          rw [hG]
          clear hown5 hk5 hG hmb hw6 k6
          obtain ⟨hb, hhb⟩ : ∃ hb, M.pool.heldB x1 = hb := ⟨_, rfl⟩
          rw [hhb] at hnext hheld'
          by_cases h0 : er = 0
          · subst h0
            obtain rfl : hb = true := hheld'.out.1 rfl
            have hfin : Hid (((n.ents.take (j + 1)).all fun x => M.pool.heldB x.2) = tb) := Lib.hid (by rw [hnext.out, Bool.and_true])
            clear hhb
            cases tb
            all_goals
              go_wp2_with (first | (refine wpList_alloc_as 33 rfl rfl Z.toArray hZz.out ?_; rw [hmb'.out]) | (refine wpList_store_whole 33 rfl rfl rfl G rfl (by rw [hGl.out]; exact node_size) 33 _ (by rw [← hmb'.out]; exact heap_alloc_new _ _) (by simp [hGl.out, hZl.out]) hG1.out ?_; rw [hw6'.out]))
              go_roundw
              case rel => exact ⟨j + 1, by omega, by go_num, by rw [hfin.out], K6⟩
              case measure => simp [intOf]; omega
          · have hbf : hb = false := by
              cases hb with
              | false => rfl
              | true => exact absurd (hheld'.out.2 rfl) h0
            subst hbf
            have h0' : ((er : Int) == 0) = false := by rw [beq_eq_false_iff_ne]; omega
            have hfin : Hid (((n.ents.take (j + 1)).all fun x => M.pool.heldB x.2) = false) := Lib.hid (by rw [hnext.out, Bool.and_false])
            clear hhb h0
            cases tb
            all_goals
              go_wp2_with (first | (refine wpList_alloc_as 33 rfl rfl Z.toArray hZz.out ?_; rw [hmb'.out]) | (refine wpList_store_whole 33 rfl rfl rfl G rfl (by rw [hGl.out]; exact node_size) 33 _ (by rw [← hmb'.out]; exact heap_alloc_new _ _) (by simp [hGl.out, hZl.out]) hG1.out ?_; rw [hw6'.out]))
              go_roundw
              case rel => exact ⟨j + 1, by omega, by go_num, by rw [hfin.out], K6⟩
              case measure => simp [intOf]; omega
        · obtain rfl : j = n.ents.length := by omega
          rw [List.take_length] at htb'
          have O4 := Lib.hid (O3.out.fresh hk2.out)
          have N4 := Lib.hid (N3.out.fresh hk2.out)
          have bx4 := Lib.hid (bx3'.out.kept hk2.out id)
          have sf4 := Lib.hid (sf3.out.fresh hk2.out)
          have E4 := Lib.hid (⟨N4.out.ents, fun hne b hb => ⟨N4.out.old hne b hb, fun e => by have h1 := hold.out hne b hb; have h2 := O4.out.new b (.inl e); omega⟩⟩ : EntsOff wr A (.slice Av n.ents.length cv) n.ents)
          have hM := storeMark O4.out.store
          rw [hsb'.out] at hM
          have hM' := Lib.hid hM
          clear hM
          go_wp2_with fail
          refine hM'.out.mono ?_
          rintro e w5 ⟨c, rfl, hT5, hpo5⟩
          have O5 : Hid (OwnStore w1 A (markM M) w5) := Lib.hid (O4.out.to hT5)
          have P5 := Lib.hid hpo5
          have bx5 := Lib.hid (⟨hT5.get bx4.out.heap sf4.out⟩ : NodeBox w5 nb n (.slice Av n.ents.length cv))
          have q5 := Lib.hid (show w5.heap[nb]? = some (.cells F.toArray 33 (0, 0)) by rw [← hF'.out]; exact bx5.out.heap)
          have sf5 := Lib.hid (sf4.out.to hT5)
          have E5 := Lib.hid (E4.out.to hT5)
          have hP5 := storePool O5.out.store
          rw [hsb'.out] at hP5
          have hP5' := Lib.hid hP5
          have hF5' := Lib.hid (freeCount_any O5.out.store.pool)
          have hmk := storeMake O5.out.store E5.out N4.out.len N4.out.bytes (by show M.log.length < 100000000; omega)
          rw [hsb'.out, hF'.out] at hmk
          have hall := back_all hW'.out O5.out.store.pool.hcnt (n := n)
          rw [htb'.out] at hall
          obtain ⟨R, hR⟩ : ∃ R, (markM M).make n = R := ⟨_, rfl⟩
          rw [hR] at hmk
          simp only [hR] at hall
          obtain ⟨M1, pg, er⟩ := R
          dsimp only at hmk hall
          have hmk' := Lib.hid hmk
          have hall' := Lib.hid hall
          clear hT5 hpo5 hP5 hmk hall hR
          go_wp2_with fail
          refine hP5'.out.mono ?_
          rintro e w6 ⟨rfl, rfl⟩
          go_wp2_with fail
          refine hF5'.out.mono ?_
          rintro e w6 ⟨rfl, rfl⟩
          go_wp2_with (first | (refine wpList_load_agg 33 rfl rfl rfl _ Try.underlying33 rfl F (by rw [hFl.out]; exact node_size) (fun j v hv => by rw [cell_of_heap q5.out, Nat.zero_add]; simpa using hv) ?_))
          refine hmk'.out.mono ?_
          rintro e w6 ⟨A6, rfl, hT6⟩
          have O6 := Lib.hid (O5.out.to hT6)
          have hsb6 := Lib.hid (hT6.sb.trans hsb'.out)
          have P6 := Lib.hid (P5.out.to hT6)
          have bx6 := Lib.hid (⟨hT6.get bx5.out.heap sf5.out⟩ : NodeBox w6 nb n (.slice Av n.ents.length cv))
          have q6 := Lib.hid (show w6.heap[nb]? = some (.cells F.toArray 33 (0, 0)) by rw [← hF'.out]; exact bx6.out.heap)
          have sf6 := Lib.hid (sf5.out.to hT6)
          have E6 := Lib.hid (E5.out.to hT6)
          have hr8 := right08 E6.out.at_ N4.out.len (by omega)
          rw [hF'.out] at hr8
          have hr8' := Lib.hid hr8
          clear hT6 hr8
          go_wp2_with (first | (refine wpList_load_agg 33 rfl rfl rfl _ Try.underlying33 rfl F (by rw [hFl.out]; exact node_size) (fun j v hv => by rw [cell_of_heap q6.out, Nat.zero_add]; simpa using hv) ?_))
          refine hr8'.out.mono ?_
          rintro e w7 ⟨rfl, hk7⟩
          have O7 := Lib.hid (O6.out.fresh hk7)
          have P7 := Lib.hid (P6.out.fresh hk7)
          have bx7 := Lib.hid (bx6.out.kept hk7 id)
          have q7 := Lib.hid (show w7.heap[nb]? = some (.cells F.toArray 33 (0, 0)) by rw [← hF'.out]; exact bx7.out.heap)
          have sf7 := Lib.hid (sf6.out.fresh hk7)
          have E7 := Lib.hid (E6.out.fresh hk7)
          clear hk7
          obtain ⟨room, hroom⟩ : ∃ room, (markM M).pool.freeCount = room := ⟨_, rfl⟩
          rw [hroom] at hall' ⊢
          rcases hall'.out with ⟨hr, hm, hp, he⟩ | ⟨hr, ht, hm, hp, he⟩ | ⟨hr, ht, hf, hm, hp, he⟩ | ⟨hr, ht, hf, i, hp, he, hg, hh, hw2, hl2⟩ | ⟨hr, ht, hf, he⟩
          · subst hm hp he
            rw [hr]
            clear hr
            have hU := storeUndo O7.out.store P7.out.pool rfl
            rw [hsb6.out] at hU
            have hU' := Lib.hid hU
            clear hU
            go_wp2_with fail
            refine hU'.out.mono ?_
            rintro e w8 ⟨v8, A8, rfl, hT8⟩
            have O8 : Hid (OwnStore w1 A8 (markM M) w8) := Lib.hid (O7.out.to hT8)
            have hsb8 := Lib.hid (hT8.sb.trans hsb6.out)
            have hP8 := storePool O8.out.store
            rw [hsb8.out] at hP8
            have hP8' := Lib.hid hP8
            have hF8' := Lib.hid (freeCount_any O8.out.store.pool)
            have fin : Hid (∃ A M, OwnStore w1 A M w8 ∧ A.sb = sb ∧ Written M ∧ M.log.length ≤ k + 1) := Lib.hid ⟨A8, markM M, O8.out, hsb8.out, hW'.out.mark, Nat.le_succ_of_le hlog⟩
            clear hT8 hP8
            go_wp2_with fail
            refine hP8'.out.mono ?_
            rintro e w9 ⟨rfl, rfl⟩
            go_wp2_with fail
            refine hF8'.out.mono ?_
            rintro e w9 ⟨rfl, rfl⟩
            go_wp2_with fail
            go_roundw
            case rel => exact ⟨k + 1, by omega, by go_num, fin⟩
            case measure => simp [intOf]; omega
          · subst ht hm hp he
            rw [hr]
            clear hr
            have hU := storeUndo O7.out.store P7.out.pool rfl
            rw [hsb6.out] at hU
            have hU' := Lib.hid hU
            clear hU
            go_wp2_with fail
            refine hU'.out.mono ?_
            rintro e w8 ⟨v8, A8, rfl, hT8⟩
            have O8 : Hid (OwnStore w1 A8 (markM M) w8) := Lib.hid (O7.out.to hT8)
            have hsb8 := Lib.hid (hT8.sb.trans hsb6.out)
            have hP8 := storePool O8.out.store
            rw [hsb8.out] at hP8
            have hP8' := Lib.hid hP8
            have hF8' := Lib.hid (freeCount_any O8.out.store.pool)
            have fin : Hid (∃ A M, OwnStore w1 A M w8 ∧ A.sb = sb ∧ Written M ∧ M.log.length ≤ k + 1) := Lib.hid ⟨A8, markM M, O8.out, hsb8.out, hW'.out.mark, Nat.le_succ_of_le hlog⟩
            clear hT8 hP8
            go_wp2_with fail
            refine hP8'.out.mono ?_
            rintro e w9 ⟨rfl, rfl⟩
            go_wp2_with fail
            refine hF8'.out.mono ?_
            rintro e w9 ⟨rfl, rfl⟩
            go_wp2_with fail
            go_roundw
            case rel => exact ⟨k + 1, by omega, by go_num, fin⟩
            case measure => simp [intOf]; omega
          · subst ht hf hm hp he
            rw [hr]
            clear hr
            have hU := storeUndo O7.out.store P7.out.pool rfl
            rw [hsb6.out] at hU
            have hU' := Lib.hid hU
            clear hU
            go_wp2_with fail
            refine hU'.out.mono ?_
            rintro e w8 ⟨v8, A8, rfl, hT8⟩
            have O8 : Hid (OwnStore w1 A8 (markM M) w8) := Lib.hid (O7.out.to hT8)
            have hsb8 := Lib.hid (hT8.sb.trans hsb6.out)
            have hP8 := storePool O8.out.store
            rw [hsb8.out] at hP8
            have hP8' := Lib.hid hP8
            have hF8' := Lib.hid (freeCount_any O8.out.store.pool)
            have fin : Hid (∃ A M, OwnStore w1 A M w8 ∧ A.sb = sb ∧ Written M ∧ M.log.length ≤ k + 1) := Lib.hid ⟨A8, markM M, O8.out, hsb8.out, hW'.out.mark, Nat.le_succ_of_le hlog⟩
            clear hT8 hP8
            go_wp2_with fail
            refine hP8'.out.mono ?_
            rintro e w9 ⟨rfl, rfl⟩
            go_wp2_with fail
            refine hF8'.out.mono ?_
            rintro e w9 ⟨rfl, rfl⟩
            go_wp2_with fail
            go_roundw
            case rel => exact ⟨k + 1, by omega, by go_num, fin⟩
            case measure => simp [intOf]; omega
          · subst ht hp he
            rw [hr]
            have hf0 : ((room : Int) == 0) = false := by rw [beq_eq_false_iff_ne]; omega
            have hg2 := get_any O7.out.store i
            rw [hg, hsb6.out] at hg2
            dsimp only at hg2
            have hg2' := Lib.hid hg2
            have hh' := Lib.hid hh
            have hw2' := Lib.hid hw2
            have hl2' := Lib.hid hl2
            clear hr hf hg hh hw2 hl2 hg2
            go_wp2_with fail
            refine hg2'.out.mono ?_
            rintro e w8 ⟨v8, rfl, hown8, hk8⟩
            have hE8 : EntsAt w8 v8 n.ents := SliceAt.of_owns hown8
            obtain ⟨A8, c8, rfl, _⟩ := EntsAt.form hE8
            obtain ⟨G, hG⟩ : ∃ G, nodeCells n (.slice A8 n.ents.length c8) = G := ⟨_, rfl⟩
            have hGl : Hid (G.length = 18) := Lib.hid (by rw [← hG]; exact nodeCells_len _ _)
            have hG1 : Hid (∀ v ∈ G, v.oneCell' = true) := Lib.hid (by rw [← hG]; exact nodeCells_one _ _ _ _)
            obtain ⟨mb, hmb⟩ : ∃ mb, w8.heap.size = mb := ⟨_, rfl⟩
            obtain ⟨w9, hw9⟩ : ∃ w9, (w8.alloc (.cells Z.toArray 33)).setRow mb G.toArray = w9 := ⟨_, rfl⟩
            have k9 : Kept (fun _ => False) w8 w9 := by rw [← hw9]; exact ((Kept.refl _ _).alloc _).setRowNew (by omega) _
            have g9 := Lib.hid (show w9.heap[mb]? = some (.cells G.toArray 33 (0, 0)) by rw [← hw9, ← hmb]; exact setRow_heap _ _ _ _ _ _ (heap_alloc_new _ _))
            have K9 := Lib.hid (hk8.trans k9)
            have q9 := Lib.hid (K9.out.get q7.out id)
            have hs := same08 (SliceAt.fresh hE8 k9) (E7.out.fresh K9.out).at_ (by omega)
            rw [hG, hF'.out] at hs
            have hs' := Lib.hid hs
            have O9 := Lib.hid (O7.out.fresh K9.out)
            have hmb' := Lib.hid hmb
            have hw9' := Lib.hid hw9
            rw [hG]
            clear hown8 hk8 hE8 hG hmb hw9 k9 hs
            go_wp2_with (first | (refine wpList_alloc_as 33 rfl rfl Z.toArray hZz.out ?_; rw [hmb'.out]) | (refine wpList_store_whole 33 rfl rfl rfl G rfl (by rw [hGl.out]; exact node_size) 33 _ (by rw [← hmb'.out]; exact heap_alloc_new _ _) (by simp [hGl.out, hZl.out]) hG1.out ?_; rw [hw9'.out]) | (refine wpList_exec_g (by rfl) (exec_load_agg (g := mb) (off := 0) rfl (by rfl) G Try.underlying33 rfl (by rw [hGl.out]; exact node_size) (fun j v hv => by rw [cell_of_heap g9.out, Nat.zero_add]; simpa using hv)) ?_) | (refine wpList_exec_g (by rfl) (exec_load_agg (g := nb) (off := 0) rfl (by rfl) F Try.underlying33 rfl (by rw [hFl.out]; exact node_size) (fun j v hv => by rw [cell_of_heap q9.out, Nat.zero_add]; simpa using hv)) ?_))
            refine hs'.out.mono ?_
            rintro e w10 ⟨rfl, hk10⟩
            have O10 := Lib.hid (O9.out.fresh hk10)
            have hhd := storeHold O10.out.store i
            rw [hh'.out, hsb6.out] at hhd
            have hhd' := Lib.hid hhd
            clear hk10 hhd
            go_wp2_with fail
            refine hhd'.out.mono ?_
            rintro e w11 ⟨rfl, hT11⟩
            have fin : Hid (∃ A M, OwnStore w1 A M w11 ∧ A.sb = sb ∧ Written M ∧ M.log.length ≤ k + 1) := Lib.hid ⟨A6, _, O10.out.to hT11, hsb6.out, hw2'.out, by rw [hl2'.out]; exact Nat.succ_le_succ hlog⟩
            clear hT11
            go_wp2_with fail
            go_roundw
            case rel => exact ⟨k + 1, by omega, by go_num, fin⟩
            case measure => simp [intOf]; omega
          · subst ht he
            rw [hr]
            have hf0 : ((room : Int) == 0) = false := by rw [beq_eq_false_iff_ne]; omega
            clear hr hf
            go_wp2_with fail
            go_ret
            exact ⟨rfl, k1'.out.trans O7.out.kept⟩
    · obtain rfl : k = l.length := by omega
      have hkk : Hid (Kept (fun _ => False) w1 wr) := Lib.hid (by obtain ⟨A, M, hO, _⟩ := hI.out; exact hO.kept)
      clear hI
      go_wp2_with fail
      go_ret
      exact ⟨rfl, k1'.out.trans hkk.out⟩
end Go.Proofs.Ythmjcbmeiabbgaa.nodesBack
/-
  Nodes that came in: a slice of structs of an int, an array of bytes and a slice of entries.
-/
namespace Go.Proofs.Ythmjcbmeiabbgaa
open Go.ChangeShapes Go.WideShapes Go.ChangeAt Go.RowKit
set_option maxRecDepth 100000
section
variable {H : Type} {enc : TypeId × Value → H} {W : World}

theorem open_pairs_trod {t e f1 f2 : TypeId} {fs : Array Field} (ht : Try.prog.underlying t = some (.slice e)) (he : Try.prog.underlying e = some (.struct fs)) (hfs : fs.size = 2)
    (h1 : (fs[0]?).map (fun f => (f.type, f.offset)) = some (f1, 0)) (h2 : (fs[1]?).map (fun f => (f.type, f.offset)) = some (f2, 1)) (hf1 : Try.prog.underlying f1 = some (.int .i64)) (hf2 : Try.prog.underlying f2 = some (.int .i64))
    (hc1 : Try.prog.cellsOf f1 = 1) (hc2 : Try.prog.cellsOf f2 = 1) (hce : Try.prog.cellsOf e = 2)
    {fuel : Nat} {cs : List Value} {z : DataW H × List MemPlace} (hf : DataW.trod enc Try.prog W 0 (fun _ => true) true fuel t cs = some z) :
    ∃ v l, cs = [v] ∧ PairsAt W v l := by
  rcases Deep.open_slice ht hf with ⟨hcs, _⟩ | ⟨a, len, cap, m, n, D, Pl, hcs, _, hl, hm, hmm, _, hx⟩
  · exact ⟨_, [], hcs, ⟨_, _, rfl, by simp, by simp [maxLen], by simp⟩, by simp⟩
  · refine ⟨.slice (some a) len cap, ?_⟩
    simp only [if_true] at hmm
    subst hmm
    rw [hce] at hx
    have key : ∀ i, i < len → ∃ x : Int × Int, ((-9223372036854775808 ≤ x.1 ∧ x.1 ≤ 9223372036854775807) ∧ (-9223372036854775808 ≤ x.2 ∧ x.2 ≤ 9223372036854775807)) ∧
        ∃ b off, a = ⟨b, off, none⟩ ∧ b < W.heap.size ∧ W.cell? ⟨b, off + i * 2, none⟩ = some (.int .i64 x.1) ∧ W.cell? ⟨b, off + i * 2 + 1, none⟩ = some (.int .i64 x.2) := by
      intro i hi
      obtain ⟨cs', hcs', htr⟩ := hx i (by omega)
      obtain ⟨_, hlen, hcell⟩ := World.cells?_some hcs'
      obtain ⟨xs, n', _, _, _, hxl, hfld⟩ := DataW.trod_struct he htr
      obtain ⟨F1, hF1, e1⟩ : ∃ F, fs[0]? = some F ∧ (F.type, F.offset) = (f1, 0) := by
        cases hq : fs[0]? with
        | none => simp [hq] at h1
        | some F => exact ⟨F, rfl, by simpa [hq] using h1⟩
      obtain ⟨F2, hF2, e2⟩ : ∃ F, fs[1]? = some F ∧ (F.type, F.offset) = (f2, 1) := by
        cases hq : fs[1]? with
        | none => simp [hq] at h2
        | some F => exact ⟨F, rfl, by simpa [hq] using h2⟩
      simp only [Prod.mk.injEq] at e1 e2
      have g1 := hfld 0 F1 hF1
      have g2 := hfld 1 F2 hF2
      rw [e1.1, e1.2, hc1, List.getElem?_eq_getElem (by omega : 0 < xs.length)] at g1
      rw [e2.1, e2.2, hc2, List.getElem?_eq_getElem (by omega : 1 < xs.length)] at g2
      obtain ⟨q1, hq1, _, hw1⟩ := DataW.trod_int hf1 g1
      obtain ⟨q2, hq2, _, hw2⟩ := DataW.trod_int hf2 g2
      have c1 : cs'[0]? = some (.int .i64 q1) := by
        have : (List.take 1 (List.drop 0 cs'))[0]? = some (.int .i64 q1) := by rw [hq1]; rfl
        simpa using this
      have c2 : cs'[1]? = some (.int .i64 q2) := by
        have : (List.take 1 (List.drop 1 cs'))[0]? = some (.int .i64 q2) := by rw [hq2]; rfl
        simpa using this
      have w1 := hcell 0 (by omega)
      have w2 := hcell 1 (by omega)
      rw [c1] at w1
      rw [c2] at w2
      have hz : (a.add (i * 2)).add 0 = a.add (i * 2) := by simp [Addr.add]
      rw [hz] at w1
      obtain ⟨b, off, spot⟩ := a
      have hs : spot = none := by
        obtain ⟨v0, hv0⟩ : ∃ v0, W.cell? ((⟨b, off, spot⟩ : Addr).add 0) = some v0 := by
          obtain ⟨cs0, hcs0, htr0⟩ := hx 0 (by omega)
          obtain ⟨_, hlen0, hcell0⟩ := World.cells?_some hcs0
          have := hcell0 0 (by omega)
          have e : ((⟨b, off, spot⟩ : Addr).add (0 * 2)).add 0 = (⟨b, off, spot⟩ : Addr).add 0 := by simp [Addr.add]
          rw [e, List.getElem?_eq_getElem (by omega)] at this
          exact ⟨_, this⟩
        have := World.cell?_spot hv0
        simpa [Addr.add] using this
      subst hs
      have a1 : (⟨b, off, none⟩ : Addr).add (i * 2) = ⟨b, off + i * 2, none⟩ := by unfold Addr.add; split <;> simp_all
      have a2 : (⟨b, off + i * 2, none⟩ : Addr).add 1 = ⟨b, off + i * 2 + 1, none⟩ := rfl
      rw [a1] at w1 w2
      rw [a2] at w2
      exact ⟨(q1, q2), ⟨wf_i64 hw1, wf_i64 hw2⟩, b, off, rfl, World.block_lt_of_cell? W _ w1, w1, w2⟩
    obtain ⟨X, hX⟩ := Deep.choose_lt key
    refine ⟨(List.range len).map X, hcs, ⟨some a, _, by rw [List.length_map, List.length_range], by simpa using hl, hm, ?_⟩, ?_⟩
    · intro i x hi
      have hil : i < len := by have := (List.getElem?_eq_some_iff.1 hi).1; simpa using this
      have : x = X i := by simpa [hil] using hi.symm
      subst this
      obtain ⟨b, off, ha, hr⟩ := (hX i hil).2
      exact ⟨b, off, by rw [ha], hr⟩
    · intro x hx'
      simp only [List.mem_map, List.mem_range] at hx'
      obtain ⟨i, hi, rfl⟩ := hx'
      exact (hX i hi).1
theorem PairsAt.ents {v : Value} {l : List (Int × Int)} (h : PairsAt W v l) : EntsAt W v l := by
  obtain ⟨A, cap, rfl, h1, h2, h3⟩ := h.val
  refine ⟨entCells_len _, A, cap, rfl, h1, h2, fun j u hj => ?_⟩
  have hjl := (List.getElem?_eq_some_iff.1 hj).1
  rw [entCells_len] at hjl
  obtain ⟨x, hx⟩ : ∃ x, l[j / 2]? = some x := ⟨_, List.getElem?_eq_getElem (by omega)⟩
  obtain ⟨g1, g2⟩ := entCells_get l (j / 2) x hx
  obtain ⟨b, off, hA, _, c1, c2⟩ := h3 (j / 2) x hx
  refine ⟨b, off, hA, ?_⟩
  rcases Nat.mod_two_eq_zero_or_one j with e | e
  · have e2 : j = j / 2 * 2 := by omega
    rw [e2, g1] at hj
    cases hj
    rw [e2]; exact c1
  · have e2 : j = j / 2 * 2 + 1 := by omega
    rw [e2, g2] at hj
    cases hj
    rw [e2, ← Nat.add_assoc]; exact c2
theorem PairsAt.old {v : Value} {l : List (Int × Int)} (h : PairsAt W v l) (hl : l ≠ []) : ∀ b, v.ownBlock = some b → b < W.heap.size := by
  obtain ⟨A, cap, rfl, h1, h2, h3⟩ := h.val
  intro b hb
  obtain ⟨x, hx⟩ : ∃ x, l[0]? = some x := ⟨_, List.getElem?_eq_getElem (List.length_pos_iff.2 hl)⟩
  obtain ⟨b', off, rfl, hlt, _⟩ := h3 0 x hx
  simp [Value.ownBlock] at hb
  rw [← hb]; exact hlt
theorem open_block_trod {t e : TypeId} (ht : Try.prog.underlying t = some (.array 16 e)) (he : Try.prog.underlying e = some (.int .u8)) (hc : Try.prog.cellsOf e = 1) (hn : Try.prog.cellsOf t = 16)
    {fuel : Nat} {cs : List Value} {z : DataW H × List MemPlace} (hf : DataW.trod enc Try.prog W 0 (fun _ => true) true fuel t cs = some z) :
    ∃ bl : List Nat, bl.length = 16 ∧ (∀ b ∈ bl, b < 256) ∧ cs = blockCells bl := by
  obtain ⟨xs, m, _, _, hlen, hxl, hx⟩ := DataW.trod_array ht hf
  rw [hn] at hlen
  have key : ∀ i, i < 16 → ∃ k : Nat, k ≤ 255 ∧ cs[i]? = some (.int .u8 k) := by
    intro i hi
    have h1 := hx i hi
    rw [hc, Nat.mul_one, List.getElem?_eq_getElem (by omega : i < xs.length)] at h1
    obtain ⟨q, hq, _, hw⟩ := DataW.trod_int he h1
    have hb := wf_u8 hw
    obtain ⟨k, rfl⟩ := Int.eq_ofNat_of_zero_le hb.1
    refine ⟨k, by omega, ?_⟩
    have : (List.take 1 (List.drop i cs))[0]? = some (.int .u8 k) := by rw [hq]; rfl
    simpa using this
  obtain ⟨c, hcc⟩ := Deep.choose_lt (α := Nat) (p := fun i k => k ≤ 255 ∧ cs[i]? = some (.int .u8 k)) key
  refine ⟨(List.range 16).map c, by simp, fun b hb => ?_, ?_⟩
  · obtain ⟨i, hi, rfl⟩ := List.mem_map.1 hb
    have := (hcc i (List.mem_range.1 hi)).1
    omega
  · apply List.ext_getElem?
    intro i
    by_cases hi : i < 16
    · rw [(hcc i hi).2]
      simp [blockCells, hi]
    · rw [List.getElem?_eq_none (by omega), List.getElem?_eq_none (by rw [blockCells_len]; omega)]
theorem node_cells {cs : List Value} {q : Int} {bl : List Nat} {l : List (Int × Int)} {sv : Value} (hl : cs.length = 18) (h0 : cs[0]? = some (.int .i64 q)) (h1 : (cs.drop 1).take 16 = blockCells bl) (h2 : cs[17]? = some sv) : cs = nodeCells ⟨q, bl, l⟩ sv := by
  match cs, hl, h0, h1, h2 with
  | c :: cs, hl, h0, h1, h2 =>
    simp at h0
    subst h0
    unfold nodeCells
    rw [← h1]
    simp only [List.drop_succ_cons, List.drop_zero]
    have : cs.drop 16 = [sv] := by
      have hl' : cs.length = 17 := by simpa using hl
      have h2' : cs[16]? = some sv := by simpa using h2
      rw [List.drop_eq_getElem_cons (by omega : 16 < cs.length), List.drop_eq_nil_of_le (by omega)]
      rw [List.getElem?_eq_getElem (by omega)] at h2'
      injection h2' with e
      rw [e]
    rw [← this, List.take_append_drop]
instance : Inhabited NM := ⟨.zero⟩
open nodesBack (NodesIn NodeIn) in
theorem open_nodes {base : Nat} {v : Value} {d : DataW H} {p : List MemPlace} (hv : Value.okWide Try.prog W .any base 66 v) (h : DataW.Trod enc Try.prog W 0 (fun _ => true) true 66 v d p) :
    ∃ l, NodesIn W v l := by
  obtain ⟨A, len, cap, rfl⟩ := okWide_slice Try.underlying66 hv
  obtain ⟨fuel, hf⟩ := h
  rcases Deep.open_slice Try.underlying66 hf with ⟨hcs, _⟩ | ⟨a, len', cap', m, n, D, Pl, hcs, _, hl, hm, hmm, _, hx⟩
  · simp only [Value.cells, List.cons.injEq, and_true] at hcs
    injection hcs with e1 e2 e3
    subst e1 e2 e3
    exact ⟨[], _, _, rfl, by simp, by simp [maxLen], by simp⟩
  · simp only [Value.cells, List.cons.injEq, and_true] at hcs
    injection hcs with e1 e2 e3
    subst e1 e2 e3
    simp only [if_true] at hmm
    subst hmm
    have hce : Try.prog.cellsOf 33 = 18 := by kernel_rfl
    have hc0 : Try.prog.cellsOf 3 = 1 := by kernel_rfl
    have hc1 : Try.prog.cellsOf 30 = 16 := by kernel_rfl
    have hc2 : Try.prog.cellsOf 31 = 1 := by kernel_rfl
    rw [hce] at hx
    have key : ∀ i, i < len → ∃ x : NM × Value, ∃ b off, a = ⟨b, off, none⟩ ∧ b < W.heap.size ∧ NodeIn W b (off + i * 18) x.1 x.2 := by
      intro i hi
      obtain ⟨cs', hcs', htr⟩ := hx i (by omega)
      obtain ⟨_, hlen, hcell⟩ := World.cells?_some hcs'
      obtain ⟨xs, n', _, _, hl18, hxl, hfld⟩ := DataW.trod_struct Try.underlying33 htr
      have hxl3 : xs.length = 3 := hxl
      have g0 := hfld 0 _ rfl
      have g1 := hfld 1 _ rfl
      have g2 := hfld 2 _ rfl
      change DataW.trod enc Try.prog W 0 (fun _ => true) true n' 3 ((cs'.drop 0).take (Try.prog.cellsOf 3)) = _ at g0
      change DataW.trod enc Try.prog W 0 (fun _ => true) true n' 30 ((cs'.drop 1).take (Try.prog.cellsOf 30)) = _ at g1
      change DataW.trod enc Try.prog W 0 (fun _ => true) true n' 31 ((cs'.drop 17).take (Try.prog.cellsOf 31)) = _ at g2
      rw [hc0] at g0
      rw [hc1] at g1
      rw [hc2] at g2
      rw [List.getElem?_eq_getElem (by omega : 0 < xs.length)] at g0
      rw [List.getElem?_eq_getElem (by omega : 1 < xs.length)] at g1
      rw [List.getElem?_eq_getElem (by omega : 2 < xs.length)] at g2
      obtain ⟨q, hq, _, _⟩ := DataW.trod_int Try.underlying3 g0
      obtain ⟨bl, hb1, hb2, hb3⟩ := open_block_trod Try.underlying30 Try.underlying5 (by kernel_rfl) (by kernel_rfl) g1
      obtain ⟨sv, l, hs1, hP⟩ := open_pairs_trod Try.underlying31 Try.underlying35 rfl rfl rfl Try.underlying3 Try.underlying3 (by kernel_rfl) (by kernel_rfl) (by kernel_rfl) g2
      have c0 : cs'[0]? = some (.int .i64 q) := by
        have : (List.take 1 (List.drop 0 cs'))[0]? = some (.int .i64 q) := by rw [hq]; rfl
        simpa using this
      have c17 : cs'[17]? = some sv := by
        have : (List.take 1 (List.drop 17 cs'))[0]? = some sv := by rw [hs1]; rfl
        simpa using this
      have hcs2 := node_cells (l := l) (by rw [hl18]; exact hce) c0 hb3 c17
      obtain ⟨b, off, spot⟩ := a
      have hs : spot = none := by
        obtain ⟨v0, hv0⟩ : ∃ v0, W.cell? ((⟨b, off, spot⟩ : Addr).add 0) = some v0 := by
          obtain ⟨cs0, hcs0, htr0⟩ := hx 0 (by omega)
          obtain ⟨_, hlen0, hcell0⟩ := World.cells?_some hcs0
          have := hcell0 0 (by omega)
          have e : ((⟨b, off, spot⟩ : Addr).add (0 * 18)).add 0 = (⟨b, off, spot⟩ : Addr).add 0 := by simp [Addr.add]
          rw [e, List.getElem?_eq_getElem (by omega)] at this
          exact ⟨_, this⟩
        have := World.cell?_spot hv0
        simpa [Addr.add] using this
      subst hs
      have cells : ∀ j v, (nodeCells ⟨q, bl, l⟩ sv)[j]? = some v → W.cell? ⟨b, off + i * 18 + j, none⟩ = some v := fun j v hj => by
        have hj18 := (List.getElem?_eq_some_iff.1 hj).1
        rw [nodeCells_len] at hj18
        have := hcell j hj18
        rw [hcs2, hj, addr_add, addr_add] at this
        exact this
      exact ⟨(⟨q, bl, l⟩, sv), b, off, rfl, World.block_lt_of_cell? W _ (cells 0 _ rfl), ⟨cells, hP.ents, fun hne => hP.old hne, hb1, hb2⟩⟩
    obtain ⟨X, hX⟩ := Deep.choose_lt key
    refine ⟨(List.range len).map fun i => (X i).1, some a, _, by rw [List.length_map, List.length_range], by simpa using hl, hm, fun i nn hi => ?_⟩
    have hil : i < len := by have := (List.getElem?_eq_some_iff.1 hi).1; simpa using this
    have : nn = (X i).1 := by simpa [hil] using hi.symm
    subst this
    obtain ⟨b, off, ha, hlt, hN⟩ := hX i hil
    exact ⟨b, off, (X i).2, by rw [ha], hlt, hN⟩
end
end Go.Proofs.Ythmjcbmeiabbgaa
