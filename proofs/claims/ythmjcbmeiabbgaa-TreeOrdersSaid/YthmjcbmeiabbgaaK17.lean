/-
  Trees in a store, plain: a mark, and what is undone; a root that is held.
-/
import Derived.Test.YthmjcbmeiabbgaaK15
import Derived.Test.YthmjcbmeiabbgaaK16
set_option linter.unusedVariables false
set_option linter.unusedSimpArgs false
namespace Go.Proofs.Ythmjcbmeiabbgaa
open Go.RowKit

/-- What was there at a mark isn't taken, and is as it was written. -/
structure Marked (M0 M : SM) : Prop where
  size : M.pool.size = M0.pool.size
  st : ∀ q, M0.live q = true → M.pool.st q ≠ 1 ∧ (0 < M.pool.cnt q ∨ M.pool.st q = 2 ∨ M.pool.st q = 3 ∨ M.pool.st q = 4)
  node : ∀ q, M0.live q = true → M.nodeAt q = M0.nodeAt q
theorem marked_closed (M0 : SM) : Closed (Marked M0) := by
  refine ⟨fun M i n hi h => ?_, fun M i h => ?_, fun M i hi h => ?_⟩
  · obtain ⟨_, hf⟩ := takeIx_free hi
    simp only [PM.freeB, Bool.and_eq_true, beq_iff_eq] at hf
    have hne : ∀ q, M0.live q = true → q ≠ i := fun q hq e => by
      subst e
      have := h.st q hq
      omega
    refine ⟨h.size, fun q hq => ?_, fun q hq => ?_⟩
    · have := h.st q hq
      simp only [PM.setSt, if_neg (hne q hq)]
      exact this
    · show logAt (M.log ++ [(i, n)]) q = _
      rw [logAt_put, if_neg (fun e => hne q hq e.symm)]
      exact h.node q hq
  · refine ⟨by show (M.pool.holdTo i).size = _; rw [holdTo_size]; exact h.size, fun q hq => ?_, h.node⟩
    have := h.st q hq
    show (M.pool.holdTo i).st q ≠ 1 ∧ (0 < (M.pool.holdTo i).cnt q ∨ (M.pool.holdTo i).st q = 2 ∨ (M.pool.holdTo i).st q = 3 ∨ (M.pool.holdTo i).st q = 4)
    unfold PM.holdTo
    split
    · simp only [PM.setCnt]
      split
      · exact ⟨this.1, .inl (Nat.succ_pos _)⟩
      · exact this
    · exact this
  · refine ⟨by show (M.pool.dropTo i.toNat).size = _; rw [dropTo_size]; exact h.size, fun q hq => ?_, h.node⟩
    have := h.st q hq
    show (M.pool.dropTo i.toNat).st q ≠ 1 ∧ (0 < (M.pool.dropTo i.toNat).cnt q ∨ (M.pool.dropTo i.toNat).st q = 2 ∨ (M.pool.dropTo i.toNat).st q = 3 ∨ (M.pool.dropTo i.toNat).st q = 4)
    unfold PM.dropTo
    split
    · simp only [PM.setCnt]
      split
      · exact ⟨this.1, .inl (by omega)⟩
      · exact this
    · simp only [PM.setCnt, PM.setSt]
      by_cases e : q = i.toNat
      · subst e
        simp only [if_true]
        unfold PM.lastSt
        rw [if_neg this.1]
        split <;> omega
      · simp only [if_neg e]
        exact this

def markM (M : SM) : SM := { M with pool := M.pool.turned 1 2 }
theorem mark_live (M : SM) (q : Nat) : (markM M).live q = M.live q := by
  unfold markM SM.live PM.live PM.turned
  dsimp only
  by_cases h : M.pool.st q = 1
  · simp [h]
  · simp [h]
theorem mark_free (M : SM) : (markM M).pool.freeCount = M.pool.freeCount := by
  unfold PM.freeCount
  show (M.pool.turned 1 2).freeN M.pool.size = _
  rw [freeN_sum, freeN_sum]
  refine sumN_congr fun i _ => ?_
  have : (M.pool.turned 1 2).freeB i = M.pool.freeB i := by
    unfold PM.freeB PM.turned
    dsimp only
    by_cases h : M.pool.st i = 1
    · rw [if_pos h, h]; rfl
    · rw [if_neg h]
  rw [this]
theorem mark_start (M : SM) : Marked (markM M) (markM M) := by
  refine ⟨rfl, fun q hq => ?_, fun _ _ => rfl⟩
  simp only [SM.live, PM.live, Bool.and_eq_true, Bool.or_eq_true, decide_eq_true_eq, beq_iff_eq] at hq
  have hs : ∀ q, (markM M).pool.st q ≠ 1 := fun q => by
    show (if M.pool.st q = 1 then 2 else M.pool.st q) ≠ 1
    split <;> omega
  refine ⟨hs q, ?_⟩
  rcases hq.2 with h | h | h
  · exact .inl h
  · exact absurd h (hs q)
  · exact .inr (.inl h)
/-- Pools that hold the same, and logs that say the same of what is there. -/
theorem exact_same {M N : SM} {ext : Nat → Nat} (h : Exact M ext) (hs : N.pool.size = M.pool.size) (hc : ∀ q, N.pool.cnt q = M.pool.cnt q) (hl : ∀ q, N.live q = M.live q) (hn : ∀ q, M.live q = true → N.nodeAt q = M.nodeAt q) : Exact N ext := by
  have he : ∀ q, M.live q = true → N.ents q = M.ents q := fun q hq => by unfold SM.ents; rw [hn q hq]
  refine ⟨by rw [hs]; exact h.size, fun p => by rw [hc]; exact h.cntLe p, fun p hp => ?_, fun q hq => ?_, fun q hq x hx => ?_, ?_⟩
  · rw [hc, h.cnt p (by rw [← hs]; exact hp)]
    unfold SM.refs
    rw [hs]
    have : sumN (fun q => if M.live q then occ (M.ents q) p else 0) M.pool.size = sumN (fun q => if N.live q then occ (N.ents q) p else 0) M.pool.size := sumN_congr fun q _ => by
      rw [hl]
      by_cases hq : M.live q = true
      · rw [if_pos hq, if_pos hq, he q hq]
      · rw [if_neg hq, if_neg hq]
    rw [this]
  · rw [hl] at hq
    rw [hn q hq]; exact h.node q hq
  · rw [hl] at hq ⊢
    rw [he q hq] at hx
    exact h.kids q hq x hx
  · obtain ⟨r, hr⟩ := h.rank
    exact ⟨r, fun q hq x hx => by rw [hl] at hq; rw [he q hq] at hx; exact hr q hq x hx⟩
theorem grown_same {M N : SM} (hs : N.pool.size = M.pool.size) (hl : ∀ q, N.live q = M.live q) (hn : ∀ q, M.live q = true → N.nodeAt q = M.nodeAt q) : Grown M N := ⟨hs, fun q hq => by rw [hl]; exact hq, hn⟩

theorem Kids.in {T : Int → List (Int × Int) → Prop} : ∀ {es l : List (Int × Int)}, Kids T es l → ∀ y ∈ l, ∃ e ∈ es, ∃ a, T e.2 a ∧ y ∈ a
  | [], l, h, y, hy => by rw [show l = [] from h] at hy; cases hy
  | e :: es, _, ⟨a, b, x, h1, h2, h3, h4, h5⟩, y, hy => by
    rw [h1] at hy
    rcases List.mem_append.1 hy with hy | hy
    · exact ⟨e, List.mem_cons_self .., a, h2, hy⟩
    · obtain ⟨f, hf, c, hc, hyc⟩ := Kids.in h5 y hy
      exact ⟨f, List.mem_cons_of_mem _ hf, c, hc, hyc⟩
/-- What is in a tree is there. -/
theorem tr_held {m : Nat} {M : SM} {ext : Nat → Nat} (E : Exact M ext) : ∀ {h : Nat} {p : Int} {l : List (Int × Int)}, Tr m M h p l → ∀ y ∈ l, M.pool.heldB y.2 = true
  | 0, _, _, t, _, _ => t.elim
  | h + 1, p, l, ⟨hp, n, hn, hok, k⟩, y, hy => by
    rcases k with ⟨_, _, hl⟩ | ⟨_, _, hK⟩
    · have hlv := (heldB_int hp).2
      have hy' : y ∈ M.ents p.toNat := by unfold SM.ents; rw [hn]; show y ∈ n.ents; rw [hl]; exact hy
      have h1 := E.kids _ hlv y hy'
      have h0 := E.pos hlv hy'
      obtain ⟨c, hc⟩ := Int.eq_ofNat_of_zero_le h0
      rw [hc] at h1 ⊢
      rw [heldB_nat]
      exact h1
    · obtain ⟨e, _, a, ha, hya⟩ := hK.in y hy
      exact tr_held E ha.1 y hya
theorem ext_held {M : SM} {ext : Nat → Nat} (E : Exact M ext) {p : Nat} (hp : p < M.pool.size) (he : 0 < ext p) : M.pool.heldB (p : Int) = true := by
  rw [heldB_nat]
  have := E.cnt p hp
  unfold PM.live
  simp only [hp, decide_true, Bool.true_and]
  rw [Bool.or_eq_true]
  left
  rw [decide_eq_true_eq]
  omega

/-- Who holds: the block's page once, the root once. -/
def extR (root : Int) : Nat → Nat := fun p => extOne p + (if (p : Int) = root then 1 else 0)
/-- A store with one tree, whose root is held. -/
structure RoomInv (s : Nat) (M : SM) (root : Int) (l : List (Int × Int)) : Prop where
  exact : Exact M (extR root)
  size : M.pool.size = s
  rooted : ∃ h, Rooted 3 M root l h
  keys : RisesK l ∧ ∀ y ∈ l, 0 ≤ y.1 ∧ y.1 < 64
  loose : Loose M []
theorem RoomInv.good {s : Nat} {M : SM} {root : Int} {l : List (Int × Int)} (h : RoomInv s M root l) : Good M l := by
  refine ⟨h.keys.1, fun y hy => ⟨(h.keys.2 y hy).1, (h.keys.2 y hy).2, ?_⟩⟩
  obtain ⟨k, hr⟩ := h.rooted
  rcases hr with ⟨_, hl, _⟩ | hr
  · rw [hl] at hy; cases hy
  · exact tr_held h.exact hr y hy
theorem RoomInv.high {s : Nat} {M : SM} {root : Int} {l : List (Int × Int)} (h : RoomInv s M root l) : ∃ k, Rooted 3 M root l k ∧ k ≤ 4 := by
  obtain ⟨k, hr⟩ := h.rooted
  rcases hr with hr | hr
  · exact ⟨k, .inl hr, by rw [hr.2.2]; exact Nat.zero_le _⟩
  · exact ⟨k, .inr hr, tr_high hr h.good⟩
theorem RoomInv.list {s : Nat} {M : SM} {root : Int} {l : List (Int × Int)} (h : RoomInv s M root l) : M.list root = (l, 0) := by
  obtain ⟨k, hr, hk⟩ := h.high
  exact listR_ok hr (by omega)
theorem RoomInv.same {s : Nat} {M N : SM} {root : Int} {l : List (Int × Int)} (h : RoomInv s M root l) (hs : N.pool.size = M.pool.size) (hc : ∀ q, N.pool.cnt q = M.pool.cnt q) (hl : ∀ q, N.live q = M.live q) (hn : ∀ q, M.live q = true → N.nodeAt q = M.nodeAt q) : RoomInv s N root l := by
  have g := grown_same hs hl hn
  refine ⟨exact_same h.exact hs hc hl hn, hs.trans h.size, ?_, h.keys, fun q hq hq0 => h.loose q (by rw [← hl]; exact hq) (by rw [← hc]; exact hq0)⟩
  obtain ⟨k, hr⟩ := h.rooted
  exact ⟨k, hr.imp id fun t => Tr.grown g t⟩
theorem room_start (s : Nat) (hs : 0 < s) (h240 : s ≤ 240) : RoomInv s (madeM s 9) (-1) [] := by
  refine ⟨exact_congr (made_exact s 9 hs h240 (by decide)) (fun p _ => ?_), rfl, ⟨0, .inl ⟨rfl, rfl, rfl⟩⟩, ⟨List.Pairwise.nil, fun y hy => by cases hy⟩, made_loose s 9 hs []⟩
  unfold extR
  rw [if_neg (by omega)]
  rfl
theorem room_mark {s : Nat} {M : SM} {root : Int} {l : List (Int × Int)} (h : RoomInv s M root l) : RoomInv s (markM M) root l := h.same rfl (fun _ => rfl) (mark_live M) (fun _ _ => rfl)
/-- What is undone is as it was at the mark. -/
theorem room_undo {s : Nat} {M N : SM} {root : Int} {l : List (Int × Int)} (h : RoomInv s M root l) (k : Marked M N) : RoomInv s ⟨M.pool, N.log⟩ root l :=
  h.same rfl (fun _ => rfl) (fun _ => rfl) (fun q hq => k.node q hq)

/-- A key is put, and the new root held in the place of the old one. -/
theorem room_put {s : Nat} {M : SM} {root : Int} {l : List (Int × Int)} (hs : 0 < s) (h : RoomInv s M root l) {key : Int} (k0 : 0 ≤ key) (k1 : key < 64) :
    ((M.put root key 0).2.2 = 0 ∧ ((M.put root key 0).1.swap root (M.put root key 0).2.1).2 = 0 ∧ RoomInv s ((M.put root key 0).1.swap root (M.put root key 0).2.1).1 (M.put root key 0).2.1 (putL l (key, 0))) ∨
      ((M.put root key 0).2.2 = 71 ∧ M.pool.freeCount ≤ 10) ∨ ((M.put root key 0).2.2 = 72 ∧ ∃ c, 255 < M.sum + 31 + extR root c) := by
  obtain ⟨k, hr, hk⟩ := h.high
  have hx : M.pool.heldB 0 = true := ext_held h.exact (p := 0) (by rw [h.size]; exact hs) (by unfold extR extOne; rw [if_pos rfl]; omega)
  rcases put_ok (by decide) h.exact hr (by omega) h.good h.loose hx k0 k1 with ⟨e, T⟩ | ⟨_, e, hf⟩ | ⟨_, e, c, hc⟩
  · refine .inl ⟨e, ?_⟩
    obtain ⟨M1, hM1⟩ : ∃ M1, (M.put root key 0).1 = M1 := ⟨_, rfl⟩
    obtain ⟨next, hnext⟩ : ∃ next, (M.put root key 0).2.1 = next := ⟨_, rfl⟩
    rw [hM1, hnext] at T ⊢
    obtain ⟨h', t, hh'⟩ := T.tr
    have hn := t.held
    have hn0 := (heldB_int hn).1
    have hold : root = -1 ∨ (M1.pool.heldB root = true ∧ 0 < extR root root.toNat) := by
      rcases hr with ⟨hr, _⟩ | hr
      · exact .inl hr
      · have h0 := (heldB_int hr.held).1
        exact .inr ⟨T.grown.held hr.held, by unfold extR; rw [if_pos (by omega)]; omega⟩
    obtain ⟨r1, E2, hlog, hsz, hlv, hlo⟩ := swap_ok T.exact (.inr ⟨hn, by rw [T.zero]; decide⟩) hold
    obtain ⟨M2, hM2⟩ : ∃ M2, (M1.swap root next).1 = M2 := ⟨_, rfl⟩
    rw [hM2] at E2 hlog hsz hlv hlo ⊢
    have E2' : Exact M2 (extR next) := exact_congr E2 (fun p _ => by
      unfold swapE extR
      by_cases e1 : (p : Int) = root <;> by_cases e2 : (p : Int) = next <;> simp [e1, e2] <;> omega)
    have hs2 : M2.pool.size = s := by rw [hsz, T.grown.size, h.size]
    have hnext2 : M2.pool.heldB next = true := by
      obtain ⟨c, hc⟩ := Int.eq_ofNat_of_zero_le hn0
      rw [hc]
      refine ext_held E2' ?_ (by unfold extR; rw [if_pos hc.symm]; omega)
      rw [hsz]
      have := live_lt (M := M1) (heldB_int hn).2
      rw [hc, Int.toNat_natCast] at this
      exact this
    refine ⟨r1, E2', hs2, ⟨h', .inr (Tr.stays E2' hlog t hnext2)⟩, ?_, fun q hq hc => ?_⟩
    · have g := h.good.put (x := (key, 0)) k0 k1 hx
      exact ⟨g.1, fun y hy => ⟨(g.2 y hy).1, (g.2 y hy).2.1⟩⟩
    · obtain ⟨c1, c2⟩ := hlo q hq hc
      obtain ⟨x, hx, he⟩ := T.loose [] rfl q (hlv q hq) c1
      rw [List.nil_append, List.mem_singleton] at hx
      rw [hx] at he
      exact absurd he.symm c2
  · exact .inr (.inl ⟨e, by omega⟩)
  · exact .inr (.inr ⟨e, c, by omega⟩)
end Go.Proofs.Ythmjcbmeiabbgaa
/-
  Trees in a store, plain: which pages a tree has; two trees in a store without marks.
-/
namespace Go.Proofs.Ythmjcbmeiabbgaa
open Go.RowKit

/-- All that is there was taken since the last commit, and what isn't there is free. -/
def Clean (M : SM) : Prop := ∀ q, (M.pool.st q = 0 ∨ M.pool.st q = 1) ∧ (0 < M.pool.cnt q → M.pool.st q = 1)
theorem clean_live {M : SM} (h : Clean M) {i : Int} (hi : M.pool.heldB i = true) : M.pool.st i.toNat = 1 := by
  have hl := (heldB_int hi).2
  have := h i.toNat
  simp only [PM.live, Bool.and_eq_true, Bool.or_eq_true, decide_eq_true_eq, beq_iff_eq] at hl
  rcases hl.2 with h1 | h1 | h1
  · exact this.2 h1
  · exact h1
  · omega
theorem clean_closed : Closed Clean := by
  refine ⟨fun M i n hi h q => ?_, fun M i h q => ?_, fun M i hi h q => ?_⟩
  · have := h q
    by_cases e : q = i
    · subst e; simp [PM.setSt]
    · simp only [PM.setSt, if_neg e]; exact this
  · have := h q
    show ((M.pool.holdTo i).st q = 0 ∨ (M.pool.holdTo i).st q = 1) ∧ (0 < (M.pool.holdTo i).cnt q → (M.pool.holdTo i).st q = 1)
    unfold PM.holdTo
    split
    · rename_i hc
      simp only [Bool.and_eq_true] at hc
      have hs := clean_live h hc.1
      simp only [PM.setCnt]
      refine ⟨this.1, fun hq => ?_⟩
      split at hq
      · rename_i e; rw [e]; exact hs
      · exact this.2 hq
    · exact this
  · have := h q
    have hs := clean_live h hi
    show ((M.pool.dropTo i.toNat).st q = 0 ∨ (M.pool.dropTo i.toNat).st q = 1) ∧ (0 < (M.pool.dropTo i.toNat).cnt q → (M.pool.dropTo i.toNat).st q = 1)
    unfold PM.dropTo
    split
    · simp only [PM.setCnt]
      refine ⟨this.1, fun hq => ?_⟩
      split at hq
      · rename_i e; rw [e]; exact hs
      · exact this.2 hq
    · simp only [PM.setCnt, PM.setSt]
      by_cases e : q = i.toNat
      · subst e
        simp only [if_true]
        rw [hs]
        exact ⟨.inl rfl, fun h => by omega⟩
      · simp only [if_neg e]
        exact this
theorem clean_free {M : SM} (h : Clean M) : M.pool.freeCount + M.liveN = M.pool.size := by
  unfold PM.freeCount SM.liveN
  rw [freeN_sum, ← sumN_add]
  have : ∀ n, n ≤ M.pool.size → sumN (fun i => (if M.pool.freeB i then 1 else 0) + if M.live i then 1 else 0) n = n := by
    intro n
    induction n with
    | zero => intro _; rfl
    | succ n ih =>
      intro hn
      unfold sumN
      rw [ih (by omega)]
      have hq := h n
      by_cases hl : M.live n = true
      · have hf : M.pool.freeB n = false := by
          simp only [SM.live, PM.live, Bool.and_eq_true, Bool.or_eq_true, decide_eq_true_eq, beq_iff_eq] at hl
          unfold PM.freeB
          rw [Bool.and_eq_false_iff]
          rcases hl.2 with h1 | h1 | h1
          · left; simp; omega
          · right; rw [h1]; rfl
          · right; rw [h1]; rfl
        rw [hf, hl]; simp
      · have hf : M.pool.freeB n = true := by
          simp only [SM.live, PM.live, Bool.and_eq_true, Bool.or_eq_true, decide_eq_true_eq, beq_iff_eq, not_and, not_or] at hl
          have := hl (by omega)
          unfold PM.freeB
          simp
          omega
        have hl' : M.live n = false := by simpa using hl
        rw [hf, hl']; simp
  exact this _ (Nat.le_refl _)

/-- A tree's pages. -/
def pagesF (M : SM) : Nat → Int → List Nat
  | 0, _ => []
  | h + 1, p => p.toNat :: (if h = 0 then [] else (M.ents p.toNat).flatMap fun e => pagesF M h e.2)
theorem pages_self {M : SM} {h : Nat} {p : Int} (h0 : 0 < h) : p.toNat ∈ pagesF M h p := by
  obtain ⟨k, rfl⟩ : ∃ k, h = k + 1 := ⟨h - 1, by omega⟩
  exact List.mem_cons_self ..
theorem tr_pos {m : Nat} {M : SM} {h : Nat} {p : Int} {l : List (Int × Int)} (t : Tr m M h p l) : 0 < h := by
  cases h with
  | zero => exact t.elim
  | succ h => omega
theorem ents_of {M : SM} {q : Nat} {n : NM} (h : M.nodeAt q = some n) : M.ents q = n.ents := by unfold SM.ents; rw [h]
theorem pages_closed {m : Nat} {M : SM} : ∀ {h : Nat} {p : Int} {l : List (Int × Int)}, Tr m M h p l → ∀ q ∈ pagesF M h p, ∀ x ∈ M.ents q, x.2.toNat ∈ pagesF M h p ∨ x ∈ l
  | 0, _, _, t, _, _, _, _ => t.elim
  | h + 1, p, l, ⟨hp, n, hn, hok, k⟩, q, hq, x, hx => by
    have he := ents_of hn
    unfold pagesF at hq ⊢
    rcases k with ⟨h0, _, hl⟩ | ⟨h0, _, hK⟩
    · rw [if_pos h0, List.mem_singleton] at hq
      subst hq
      rw [he, hl] at hx
      exact .inr hx
    · rw [if_neg (by omega)] at hq ⊢
      rcases List.mem_cons.1 hq with rfl | hq
      · rw [he] at hx
        left
        refine List.mem_cons_of_mem _ (List.mem_flatMap.2 ⟨x, by rw [he]; exact hx, pages_self h0⟩)
      · obtain ⟨e, hee, hqe⟩ := List.mem_flatMap.1 hq
        rw [he] at hee
        obtain ⟨a, ha, hal⟩ := hK.each e hee
        rcases pages_closed ha.1 q hqe x hx with h1 | h1
        · exact .inl (List.mem_cons_of_mem _ (List.mem_flatMap.2 ⟨e, by rw [he]; exact hee, h1⟩))
        · exact .inr (hal x h1)
def entSum (M : SM) (L : List Nat) : Nat := (L.map fun q => (M.ents q).length).sum
theorem entSum_append (M : SM) (a b : List Nat) : entSum M (a ++ b) = entSum M a + entSum M b := by unfold entSum; rw [List.map_append, List.sum_append]
/-- A tree below another one has few pages; all nodes' entries are its own and its pages. -/
theorem sub_pages {M : SM} : ∀ {h : Nat} {p : Int} {l : List (Int × Int)}, Sub 3 M h p l → 2 * (pagesF M h p).length + 1 ≤ l.length ∧ entSum M (pagesF M h p) + 1 = l.length + (pagesF M h p).length
  | 0, _, _, t => t.1.elim
  | h + 1, p, l, ⟨⟨hp, n, hn, hok, k⟩, hm⟩ => by
    have he := ents_of hn
    rw [entN_of hn] at hm
    unfold pagesF
    rcases k with ⟨h0, _, hl⟩ | ⟨h0, _, hK⟩
    · rw [if_pos h0]
      unfold entSum
      simp only [List.map_cons, List.map_nil, List.sum_cons, List.sum_nil, List.length_cons, List.length_nil]
      rw [he, hl]
      rw [hl] at hm
      omega
    · rw [if_neg (by omega), he]
      obtain ⟨i1, i2⟩ := kids_pages (fun e a h => sub_pages h) n.ents l hK
      have e1 : entSum M (p.toNat :: n.ents.flatMap fun e => pagesF M h e.2) = n.ents.length + entSum M (n.ents.flatMap fun e => pagesF M h e.2) := by
        unfold entSum
        rw [List.map_cons, List.sum_cons, he]
      rw [e1, List.length_cons]
      omega
where
  kids_pages {h : Nat} (ih : ∀ (p : Int) (l : List (Int × Int)), Sub 3 M h p l → 2 * (pagesF M h p).length + 1 ≤ l.length ∧ entSum M (pagesF M h p) + 1 = l.length + (pagesF M h p).length) :
      ∀ (es l : List (Int × Int)), Kids (Sub 3 M h) es l → 2 * (es.flatMap fun e => pagesF M h e.2).length + es.length ≤ l.length ∧ entSum M (es.flatMap fun e => pagesF M h e.2) + es.length = l.length + (es.flatMap fun e => pagesF M h e.2).length
    | [], l, hk => by rw [show l = [] from hk]; exact ⟨Nat.le_refl _, rfl⟩
    | e :: es, l, ⟨a, b, x, h1, h2, h3, h4, h5⟩ => by
      obtain ⟨i1, i2⟩ := ih e.2 a h2
      obtain ⟨j1, j2⟩ := kids_pages ih es b h5
      rw [List.flatMap_cons, entSum_append, List.length_append, List.length_cons, h1, List.length_append]
      omega
theorem tr_pages {M : SM} {h : Nat} {p : Int} {l : List (Int × Int)} (t : Tr 3 M h p l) : 2 * (pagesF M h p).length ≤ l.length + 2 ∧ entSum M (pagesF M h p) + 1 = l.length + (pagesF M h p).length := by
  cases h with
  | zero => exact t.elim
  | succ h =>
    obtain ⟨hp, n, hn, hok, k⟩ := t
    have he := ents_of hn
    unfold pagesF
    rcases k with ⟨h0, _, hl⟩ | ⟨h0, _, hK⟩
    · rw [if_pos h0]
      unfold entSum
      simp only [List.map_cons, List.map_nil, List.sum_cons, List.sum_nil, List.length_cons, List.length_nil]
      rw [he, hl]
      omega
    · rw [if_neg (by omega), he]
      obtain ⟨i1, i2⟩ := sub_pages.kids_pages (fun e a h => sub_pages h) n.ents l hK
      have e1 : entSum M (p.toNat :: n.ents.flatMap fun e => pagesF M h e.2) = n.ents.length + entSum M (n.ents.flatMap fun e => pagesF M h e.2) := by
        unfold entSum
        rw [List.map_cons, List.sum_cons, he]
      rw [e1, List.length_cons]
      omega

/-- What is there can be reached. -/
theorem reach_all {M : SM} {ext : Nat → Nat} (E : Exact M ext) (hl : Loose M []) {L : List Nat} (h1 : ∀ q, q < M.pool.size → 0 < ext q → q ∈ L) (h2 : ∀ q ∈ L, ∀ x ∈ M.ents q, x.2.toNat ∈ L) : ∀ q, M.live q = true → q ∈ L := by
  obtain ⟨r, hr⟩ := E.rank
  have hb : ∀ q, M.live q = true → r q ≤ sumN r M.pool.size := fun q hq => sumN_get (live_lt hq)
  have key : ∀ d q, M.live q = true → sumN r M.pool.size - r q ≤ d → q ∈ L := by
    intro d
    induction d with
    | zero =>
      intro q hq hd
      refine Classical.byContradiction fun hn => ?_
      have hc : 0 < M.pool.cnt q := by
        rcases Nat.eq_zero_or_pos (M.pool.cnt q) with h0 | h0
        · obtain ⟨x, hx, _⟩ := hl q hq h0; cases hx
        · exact h0
      have he : ext q = 0 := by
        rcases Nat.eq_zero_or_pos (ext q) with h0 | h0
        · exact h0
        · exact absurd (h1 q (live_lt hq) h0) hn
      rw [E.cnt q (live_lt hq), he, Nat.add_zero] at hc
      obtain ⟨p, hp, x, hx, hxe⟩ := refs_pos hc
      have := hr p hp x hx
      rw [hxe] at this
      have := hb p hp
      have := hb q hq
      omega
    | succ d ih =>
      intro q hq hd
      refine Classical.byContradiction fun hn => ?_
      have hc : 0 < M.pool.cnt q := by
        rcases Nat.eq_zero_or_pos (M.pool.cnt q) with h0 | h0
        · obtain ⟨x, hx, _⟩ := hl q hq h0; cases hx
        · exact h0
      have he : ext q = 0 := by
        rcases Nat.eq_zero_or_pos (ext q) with h0 | h0
        · exact h0
        · exact absurd (h1 q (live_lt hq) h0) hn
      rw [E.cnt q (live_lt hq), he, Nat.add_zero] at hc
      obtain ⟨p, hp, x, hx, hxe⟩ := refs_pos hc
      have := hr p hp x hx
      rw [hxe] at this
      have hpL := ih p hp (by omega)
      have := h2 p hpL x hx
      rw [hxe] at this
      exact hn this
  exact fun q hq => key _ q hq (Nat.le_refl _)
where
  refs_pos {M : SM} {q : Nat} (h : 0 < M.refs q) : ∃ p, M.live p = true ∧ ∃ x ∈ M.ents p, x.2.toNat = q := by
    refine Classical.byContradiction fun hn => ?_
    have : M.refs q = 0 := sumN_zero fun p _ => by
      by_cases hp : M.live p = true
      · rw [if_pos hp]
        rcases Nat.eq_zero_or_pos (occ (M.ents p) q) with h0 | h0
        · exact h0
        · obtain ⟨x, hx, he⟩ := List.countP_pos_iff.1 h0
          exact absurd ⟨p, hp, x, hx, by rw [show x.2 = (q : Int) by simpa using he]; exact Int.toNat_natCast q⟩ hn
      · rw [if_neg hp]
    omega
/-- A sum over what is there is at most one over a list that has it all. -/
theorem sum_list {f : Nat → Nat} {b : Nat → Bool} : ∀ (L : List Nat) (n : Nat), (∀ q, q < n → b q = true → q ∈ L) → sumN (fun q => if b q then f q else 0) n ≤ (L.map f).sum
  | [], n, h => by
    rw [sumN_zero fun q hq => by
      by_cases hb : b q = true
      · exact absurd (h q hq hb) (by simp)
      · rw [if_neg hb]]
    exact Nat.zero_le _
  | a :: L, n, h => by
    have ih := sum_list (f := f) (b := fun q => b q && decide (q ≠ a)) L n (fun q hq hb => by
      simp only [Bool.and_eq_true, decide_eq_true_eq] at hb
      rcases List.mem_cons.1 (h q hq hb.1) with e | e
      · exact absurd e hb.2
      · exact e)
    rw [List.map_cons, List.sum_cons]
    by_cases ha : a < n
    · have := sumN_set (f := fun q => if b q then f q else 0) (g := fun q => if (b q && decide (q ≠ a)) then f q else 0) ha (fun j _ hj => by simp [hj])
      have e1 : (if (b a && decide (a ≠ a)) = true then f a else 0) = 0 := by simp
      rw [e1] at this
      have : (if b a = true then f a else 0) ≤ f a := by split <;> omega
      omega
    · have : sumN (fun q => if b q then f q else 0) n = sumN (fun q => if (b q && decide (q ≠ a)) then f q else 0) n := sumN_congr fun q hq => by
        have hqa : q ≠ a := by omega
        rw [decide_eq_true hqa, Bool.and_true]
      omega
theorem liveN_list {M : SM} {L : List Nat} (h : ∀ q, M.live q = true → q ∈ L) : M.liveN ≤ L.length := by
  have := sum_list (f := fun _ => 1) (b := M.live) L M.pool.size (fun q _ hq => h q hq)
  have e : ∀ L : List Nat, (L.map fun _ => 1).sum = L.length := fun L => by
    induction L with
    | nil => rfl
    | cons a L ih => rw [List.map_cons, List.sum_cons, ih, List.length_cons]; omega
  rw [e] at this
  exact this
theorem sumE_list {M : SM} {L : List Nat} (h : ∀ q, M.live q = true → q ∈ L) : M.sum ≤ entSum M L := sum_list L M.pool.size (fun q _ hq => h q hq)
end Go.Proofs.Ythmjcbmeiabbgaa
/-
  Trees in a store, plain: two trees, one built behind the other, where there is room enough.
-/
namespace Go.Proofs.Ythmjcbmeiabbgaa
open Go.RowKit

/-- Who holds: the block's page once, two roots once each. -/
def extT (a root : Int) : Nat → Nat := fun p => extOne p + (if (p : Int) = a then 1 else 0) + (if (p : Int) = root then 1 else 0)
def Keyed (l : List (Int × Int)) : Prop := RisesK l ∧ ∀ y ∈ l, 0 ≤ y.1 ∧ y.1 < 64 ∧ y.2 = 0
/-- A store with two trees of one block's page, whose roots are held. -/
structure TwoInv (M : SM) (a : Int) (la : List (Int × Int)) (root : Int) (l : List (Int × Int)) : Prop where
  exact : Exact M (extT a root)
  size : M.pool.size = 240
  clean : Clean M
  node0 : M.nodeAt 0 = some (dataN 9)
  ra : ∃ h, Rooted 3 M a la h
  rr : ∃ h, Rooted 3 M root l h
  ka : Keyed la
  kr : Keyed l
  loose : Loose M []
theorem keyed_held {M : SM} {l : List (Int × Int)} (h0 : M.pool.heldB 0 = true) (h : Keyed l) : Good M l := ⟨h.1, fun y hy => ⟨(h.2 y hy).1, (h.2 y hy).2.1, by rw [(h.2 y hy).2.2]; exact h0⟩⟩
theorem TwoInv.held0 {M : SM} {a root : Int} {la l : List (Int × Int)} (h : TwoInv M a la root l) : M.pool.heldB 0 = true := ext_held h.exact (p := 0) (by rw [h.size]; decide) (by unfold extT extOne; rw [if_pos rfl]; omega)
theorem TwoInv.swap {M : SM} {a root : Int} {la l : List (Int × Int)} (h : TwoInv M a la root l) : TwoInv M root l a la :=
  ⟨exact_congr h.exact (fun p _ => by unfold extT; omega), h.size, h.clean, h.node0, h.rr, h.ra, h.kr, h.ka, h.loose⟩
theorem rooted_high {M : SM} {root : Int} {l : List (Int × Int)} (h : ∃ h, Rooted 3 M root l h) (g : Good M l) : ∃ k, Rooted 3 M root l k ∧ k ≤ 4 := by
  obtain ⟨k, hr⟩ := h
  rcases hr with hr | hr
  · exact ⟨k, .inl hr, by rw [hr.2.2]; exact Nat.zero_le _⟩
  · exact ⟨k, .inr hr, tr_high hr g⟩
theorem TwoInv.list {M : SM} {a root : Int} {la l : List (Int × Int)} (h : TwoInv M a la root l) : M.list root = (l, 0) := by
  obtain ⟨k, hr, hk⟩ := rooted_high h.rr (keyed_held h.held0 h.kr)
  exact listR_ok hr (by omega)
theorem dataN_ents {M : SM} (h : M.nodeAt 0 = some (dataN 9)) : M.ents 0 = [] := by rw [ents_of h]; rfl
/-- The pages of a tree, or none. -/
theorem rooted_pages {M : SM} {root : Int} {l : List (Int × Int)} (hr : ∃ h, Rooted 3 M root l h) (hk : Keyed l) :
    ∃ L : List Nat, (root = -1 ∨ root.toNat ∈ L) ∧ (∀ q ∈ L, ∀ x ∈ M.ents q, x.2.toNat ∈ L ∨ x.2 = 0) ∧ L.length ≤ 33 ∧ entSum M L ≤ 96 := by
  have h64 := rises_len hk.1 fun y hy => ⟨(hk.2 y hy).1, (hk.2 y hy).2.1⟩
  obtain ⟨h, hr⟩ := hr
  rcases hr with ⟨e, _⟩ | t
  · exact ⟨[], .inl e, (fun q hq => by cases hq), Nat.zero_le _, Nat.zero_le _⟩
  · obtain ⟨p1, p2⟩ := tr_pages t
    refine ⟨pagesF M h root, .inr (pages_self (tr_pos t)), fun q hq x hx => ?_, by omega, by omega⟩
    rcases pages_closed t q hq x hx with h1 | h1
    · exact .inl h1
    · exact .inr (hk.2 x h1).2.2
theorem TwoInv.room {M : SM} {a root : Int} {la l : List (Int × Int)} (h : TwoInv M a la root l) : 173 ≤ M.pool.freeCount ∧ M.sum ≤ 192 := by
  obtain ⟨La, a1, a2, a3, a4⟩ := rooted_pages h.ra h.ka
  obtain ⟨Lr, r1, r2, r3, r4⟩ := rooted_pages h.rr h.kr
  have hall := reach_all h.exact h.loose (L := 0 :: (La ++ Lr)) (fun q _ hq => by
    unfold extT extOne at hq
    by_cases e0 : q = 0
    · rw [e0]; exact List.mem_cons_self ..
    · refine List.mem_cons_of_mem _ ?_
      by_cases e1 : (q : Int) = a
      · rcases a1 with e | e
        · omega
        · rw [← e1, Int.toNat_natCast] at e
          exact List.mem_append_left _ e
      · by_cases e2 : (q : Int) = root
        · rcases r1 with e | e
          · omega
          · rw [← e2, Int.toNat_natCast] at e
            exact List.mem_append_right _ e
        · rw [if_neg e0, if_neg e1, if_neg e2] at hq; omega) (fun q hq x hx => by
    rcases List.mem_cons.1 hq with rfl | hq
    · rw [dataN_ents h.node0] at hx; cases hx
    · rcases List.mem_append.1 hq with hq | hq
      · rcases a2 q hq x hx with e | e
        · exact List.mem_cons_of_mem _ (List.mem_append_left _ e)
        · rw [e]; exact List.mem_cons_self ..
      · rcases r2 q hq x hx with e | e
        · exact List.mem_cons_of_mem _ (List.mem_append_right _ e)
        · rw [e]; exact List.mem_cons_self ..)
  have c1 := clean_free h.clean
  have c2 := liveN_list hall
  have c3 := sumE_list hall
  rw [h.size] at c1
  rw [List.length_cons, List.length_append] at c2
  have e1 : entSum M (0 :: (La ++ Lr)) = entSum M La + entSum M Lr := by
    have : entSum M (0 :: (La ++ Lr)) = (M.ents 0).length + entSum M (La ++ Lr) := by unfold entSum; rw [List.map_cons, List.sum_cons]
    rw [this, dataN_ents h.node0, entSum_append, List.length_nil]; omega
  omega

theorem two_put {M : SM} {a root : Int} {la l : List (Int × Int)} (h : TwoInv M a la root l) {key : Int} (k0 : 0 ≤ key) (k1 : key < 64) :
    (M.put root key 0).2.2 = 0 ∧ ((M.put root key 0).1.swap root (M.put root key 0).2.1).2 = 0 ∧ TwoInv ((M.put root key 0).1.swap root (M.put root key 0).2.1).1 a la (M.put root key 0).2.1 (putL l (key, 0)) := by
  have g := keyed_held h.held0 h.kr
  obtain ⟨k, hr, hk⟩ := rooted_high h.rr g
  obtain ⟨hroom, hsum⟩ := h.room
  rcases put_ok (by decide) h.exact hr (by omega) g h.loose h.held0 k0 k1 with ⟨e, T⟩ | ⟨_, e, hf⟩ | ⟨_, e, c, hc⟩
  · refine ⟨e, ?_⟩
    have hcl1 := clean_closed.put root key 0 h.clean
    obtain ⟨M1, hM1⟩ : ∃ M1, (M.put root key 0).1 = M1 := ⟨_, rfl⟩
    obtain ⟨next, hnext⟩ : ∃ next, (M.put root key 0).2.1 = next := ⟨_, rfl⟩
    rw [hM1] at hcl1
    rw [hM1, hnext] at T ⊢
    obtain ⟨h', t, hh'⟩ := T.tr
    have hn := t.held
    have hn0 := (heldB_int hn).1
    have hold : root = -1 ∨ (M1.pool.heldB root = true ∧ 0 < extT a root root.toNat) := by
      rcases hr with ⟨hr, _⟩ | hr
      · exact .inl hr
      · have h0 := (heldB_int hr.held).1
        exact .inr ⟨T.grown.held hr.held, by unfold extT; rw [if_pos (show ((root.toNat : Nat) : Int) = root by omega)]; omega⟩
    obtain ⟨r1, E2, hlog, hsz, hlv, hlo⟩ := swap_ok T.exact (.inr ⟨hn, by rw [T.zero]; decide⟩) hold
    have hcl2 := clean_closed.swap root next hcl1
    obtain ⟨M2, hM2⟩ : ∃ M2, (M1.swap root next).1 = M2 := ⟨_, rfl⟩
    rw [hM2] at E2 hlog hsz hlv hlo hcl2 ⊢
    have E2' : Exact M2 (extT a next) := exact_congr E2 (fun p _ => by
      unfold swapE extT
      by_cases e1 : (p : Int) = root <;> by_cases e2 : (p : Int) = next <;> simp [e1, e2] <;> omega)
    have hs2 : M2.pool.size = 240 := by rw [hsz, T.grown.size, h.size]
    have live2 : ∀ p : Int, M1.pool.heldB p = true → 0 < extT a next p.toNat → M2.pool.heldB p = true := fun p hp he => by
      obtain ⟨c, hc⟩ := Int.eq_ofNat_of_zero_le (heldB_int hp).1
      rw [hc] at he ⊢
      rw [Int.toNat_natCast] at he
      refine ext_held E2' ?_ he
      rw [hsz]
      have := live_lt (M := M1) (heldB_int hp).2
      rw [hc, Int.toNat_natCast] at this
      exact this
    have hl0 : M.live 0 = true := (heldB_int h.held0).2
    refine ⟨r1, E2', hs2, hcl2, ?_, ?_, ⟨h', .inr (Tr.stays E2' hlog t (live2 _ hn (by unfold extT; rw [if_pos (show ((next.toNat : Nat) : Int) = next by omega)]; omega)))⟩, h.ka, ?_, fun q hq hc => ?_⟩
    · have : M2.nodeAt 0 = M1.nodeAt 0 := by unfold SM.nodeAt; rw [hlog]
      rw [this, T.grown.node 0 hl0, h.node0]
    · obtain ⟨ka, ta⟩ := h.ra
      rcases ta with ta | ta
      · exact ⟨ka, .inl ta⟩
      · have ta1 := Tr.grown T.grown ta
        have ha0 := (heldB_int ta1.held).1
        exact ⟨ka, .inr (Tr.stays E2' hlog ta1 (live2 _ ta1.held (by unfold extT; rw [if_pos (show ((a.toNat : Nat) : Int) = a by omega)]; omega)))⟩
    · refine ⟨putL_rises h.kr.1 _, fun y hy => ?_⟩
      rcases putL_mem hy with rfl | hy
      · exact ⟨k0, k1, rfl⟩
      · exact h.kr.2 y hy
    · obtain ⟨c1, c2⟩ := hlo q hq hc
      obtain ⟨x, hx, he⟩ := T.loose [] rfl q (hlv q hq) c1
      rw [List.nil_append, List.mem_singleton] at hx
      rw [hx] at he
      exact absurd he.symm c2
  · omega
  · have : extT a root c ≤ 3 := by unfold extT extOne; split <;> split <;> split <;> omega
    omega

theorem build_ok : ∀ (ks : List (Int × Int)) {M : SM} {a root : Int} {la l : List (Int × Int)}, TwoInv M a la root l → (∀ y ∈ ks, 0 ≤ y.1 ∧ y.1 < 64 ∧ y.2 = 0) →
    ∃ M' root', SM.build ks M root = (M', root', 0) ∧ TwoInv M' a la root' (ks.foldl putL l) ∧ M'.log.length ≤ M.log.length + 22 * ks.length
  | [], M, _, root, _, _, h, _ => ⟨M, root, rfl, h, Nat.le_refl _⟩
  | x :: ks, M, a, root, la, l, h, hks => by
    have hx := hks x (List.mem_cons_self ..)
    obtain ⟨x1, x2⟩ := x
    dsimp only at hx
    obtain ⟨hx0, hx1, rfl⟩ := hx
    obtain ⟨e1, e2, hI⟩ := two_put h hx0 hx1
    have hl1 := put_log M root x1 0
    have hl2 := swap_log (M.put root x1 0).1 root (M.put root x1 0).2.1
    obtain ⟨M', root', e3, hI', hl⟩ := build_ok ks hI (fun y hy => hks y (List.mem_cons_of_mem _ hy))
    refine ⟨M', root', ?_, hI', by rw [hl2] at hl; rw [List.length_cons]; omega⟩
    rw [build_cons]
    dsimp only
    rw [if_pos e1, if_pos e2, e3]
theorem two_start : TwoInv (madeM 240 9) (-1) [] (-1) [] := by
  refine ⟨exact_congr (made_exact 240 9 (by decide) (by decide) (by decide)) (fun p _ => ?_), rfl, fun q => ?_, rfl, ⟨0, .inl ⟨rfl, rfl, rfl⟩⟩, ⟨0, .inl ⟨rfl, rfl, rfl⟩⟩, ⟨List.Pairwise.nil, fun y hy => by cases hy⟩, ⟨List.Pairwise.nil, fun y hy => by cases hy⟩, made_loose 240 9 (by decide) []⟩
  · unfold extT
    rw [if_neg (by omega)]
    rfl
  · unfold madeM PM.setCnt PM.setSt PM.fresh0
    dsimp only
    by_cases e : q = 0
    · simp [e]
    · simp [e]

/-- The order of the keys tells nothing. -/
theorem putL_in {l : List (Int × Int)} {x y : Int × Int} : y ∈ putL l x ↔ y = x ∨ (y ∈ l ∧ y.1 ≠ x.1) := by
  unfold putL
  simp only [List.mem_append, List.mem_singleton, List.mem_filter, decide_eq_true_eq]
  constructor
  · rintro ((⟨h1, h2⟩ | h) | ⟨h1, h2⟩)
    · exact .inr ⟨h1, by omega⟩
    · exact .inl h
    · exact .inr ⟨h1, by omega⟩
  · rintro (h | ⟨h1, h2⟩)
    · exact .inl (.inr h)
    · rcases Int.lt_or_lt_of_ne h2 with h3 | h3
      · exact .inl (.inl ⟨h1, h3⟩)
      · exact .inr ⟨h1, h3⟩
theorem foldl_in : ∀ (ks l : List (Int × Int)), (∀ y ∈ ks, y.2 = 0) → (∀ y ∈ l, y.2 = 0) → ∀ y, y ∈ ks.foldl putL l ↔ y ∈ l ∨ y ∈ ks
  | [], l, _, _, y => by simp
  | x :: ks, l, hk, hl, y => by
    have hx := hk x (List.mem_cons_self ..)
    rw [List.foldl_cons, foldl_in ks (putL l x) (fun z hz => hk z (List.mem_cons_of_mem _ hz)) (fun z hz => by
      rcases putL_mem hz with rfl | hz
      · exact hx
      · exact hl z hz), putL_in, List.mem_cons]
    constructor
    · rintro ((h | ⟨h, _⟩) | h)
      · exact .inr (.inl h)
      · exact .inl h
      · exact .inr (.inr h)
    · rintro (h | h | h)
      · by_cases e : y.1 = x.1
        · exact .inl (.inl (Prod.ext e (by rw [hl y h, hx])))
        · exact .inl (.inr ⟨h, e⟩)
      · exact .inl (.inl h)
      · exact .inr h
theorem rises_eq : ∀ {a b : List (Int × Int)}, RisesK a → RisesK b → (∀ y, y ∈ a ↔ y ∈ b) → a = b
  | [], [], _, _, _ => rfl
  | [], y :: b, _, _, h => by have := (h y).2 (List.mem_cons_self ..); cases this
  | x :: a, [], _, _, h => by have := (h x).1 (List.mem_cons_self ..); cases this
  | x :: a, y :: b, ha, hb, h => by
    have ha' := List.pairwise_cons.1 ha
    have hb' := List.pairwise_cons.1 hb
    have hxy : x = y := by
      rcases List.mem_cons.1 ((h x).1 (List.mem_cons_self ..)) with e | e
      · exact e
      · rcases List.mem_cons.1 ((h y).2 (List.mem_cons_self ..)) with e2 | e2
        · exact e2.symm
        · have := hb'.1 x e
          have := ha'.1 y e2
          omega
    subst hxy
    rw [rises_eq ha'.2 hb'.2 fun y => ⟨fun hy => by
      rcases List.mem_cons.1 ((h y).1 (List.mem_cons_of_mem _ hy)) with e | e
      · have := ha'.1 y hy; rw [e] at this; omega
      · exact e, fun hy => by
      rcases List.mem_cons.1 ((h y).2 (List.mem_cons_of_mem _ hy)) with e | e
      · have := hb'.1 y hy; rw [e] at this; omega
      · exact e⟩]
theorem foldl_rises (ks : List (Int × Int)) : ∀ {l : List (Int × Int)}, RisesK l → RisesK (ks.foldl putL l) := by
  induction ks with
  | nil => intro l h; exact h
  | cons x ks ih => intro l h; exact ih (putL_rises h x)
theorem orders_same {ks : List (Int × Int)} (hk : ∀ y ∈ ks, y.2 = 0) (at' : Nat) : ks.foldl putL [] = (ks.drop at' ++ ks.take at').foldl putL [] := by
  refine rises_eq (foldl_rises _ List.Pairwise.nil) (foldl_rises _ List.Pairwise.nil) fun y => ?_
  have hk2 : ∀ y ∈ ks.drop at' ++ ks.take at', y.2 = 0 := fun y hy => by
    rcases List.mem_append.1 hy with h | h
    · exact hk y (List.mem_of_mem_drop h)
    · exact hk y (List.mem_of_mem_take h)
  rw [foldl_in ks [] hk (fun y hy => by cases hy), foldl_in _ [] hk2 (fun y hy => by cases hy)]
  have : y ∈ ks ↔ y ∈ ks.drop at' ++ ks.take at' := by
    rw [List.mem_append]
    constructor
    · intro h
      rw [← List.take_append_drop at' ks] at h
      rcases List.mem_append.1 h with h | h
      · exact .inr h
      · exact .inl h
    · rintro (h | h)
      · exact List.mem_of_mem_drop h
      · exact List.mem_of_mem_take h
  rw [this]
end Go.Proofs.Ythmjcbmeiabbgaa
/-
  TreeOrders: the walk.
-/
namespace Go.Proofs.Ythmjcbmeiabbgaa.treeOrders
open Go.RowKit
open treeSplits (IntsIn)
set_option maxRecDepth 100000

def okey (k : Int) : Bool := decide (0 ≤ k) && decide (k < 64)
def kent (l : List Int) : List (Int × Int) := (l.filter okey).map fun k => (k, 0)
theorem kent_succ {l : List Int} {k : Nat} {x : Int} (h : l[k]? = some x) : kent (l.take (k + 1)) = kent (l.take k) ++ (if okey x then [(x, 0)] else []) := by
  unfold kent
  rw [List.take_add_one, h]
  simp only [Option.toList_some, List.filter_append, List.map_append]
  congr 1
  by_cases hx : okey x = true
  · rw [if_pos hx, List.filter_cons_of_pos hx]; rfl
  · rw [if_neg hx, List.filter_cons_of_neg hx]; rfl
theorem kent_len (l : List Int) : (kent l).length ≤ l.length := by
  unfold kent
  rw [List.length_map]
  exact List.length_filter_le _ _
theorem kent_ok (l : List Int) : ∀ y ∈ kent l, 0 ≤ y.1 ∧ y.1 < 64 ∧ y.2 = 0 := by
  intro y hy
  obtain ⟨k, hk, rfl⟩ := List.mem_map.1 hy
  have := (List.mem_filter.1 hk).2
  simp only [okey, Bool.and_eq_true, decide_eq_true_eq] at this
  exact ⟨this.1, this.2, rfl⟩
theorem run_min2 (w : World) (ts : Array TypeId) (ty : TypeId) {a b : Int} {t : Nat} (h : min a b = (t : Int)) : (Builtin.min_ ts ty #[.int .i64 a, .int .i64 b]).run Try.prog w = .ok (.int .i64 t) w := by
  by_cases h0 : b < a
  · have : (t : Int) = b := by omega
    simp [Builtin.min_, Builtin.min2, h0, this]
  · have : (t : Int) = a := by omega
    simp [Builtin.min_, Builtin.min2, h0, this]
theorem wpList_min2 {ops : Array Oper} {rest : List Oper} {o : Oper} {a : Act} {w : World} {Q : Exit → Act → World → Prop} (hgd : o.guard = none) (x y : Operand) (ts : Array TypeId)
    (ho : o.op = .call { callee := .builtin .min, args := #[x, y], argTypes := ts }) {k m : Int} {t : Nat} (hk : min k m = (t : Int)) (hx : a.eval x = .int .i64 k) (hy : a.eval y = .int .i64 m) (h : wpList Try.prog ops Q rest (a.put o.dst (.int .i64 t)) w) : wpList Try.prog ops Q (o :: rest) a w :=
  wpList_plain hgd fun _ hK => by
    unfold Oper.wp
    simp [execOp, ho, resolve, invoke, builtin, hx, hy, run_min2 w ts o.type hk, Result.andThen]
    exact hK _ _ h

set_option maxHeartbeats 2000000 in
theorem walkIn {w : World} (va : Value) (l : List Int) (hl : IntsIn w va l) (turn : Int) : Calls Try.prog 4 #[va, .int .i64 turn] w fun e w' => e = .returned (.bool true) ∧ Kept (fun _ => False) w w' := by
  obtain ⟨Aa, ca, rfl, hc1, hc2, hget⟩ := hl
  unfold maxLen at hc2
  have hget' := Lib.hid hget
  clear hget
  by_cases hlong : 64 < l.length
  · have hb : decide ((64 : Int) < (l.length : Int)) = true := by rw [decide_eq_true_eq]; omega
    clear hlong
    go_enter Try.func4, Try.ntmps4
    go_wp2_with fail
    refine (alive10 _).mono ?_
    rintro e w1 ⟨rfl, k1⟩
    have k1' := Lib.hid k1
    clear k1
    go_wp2_with fail
    go_ret
    exact ⟨rfl, k1'.out⟩
  have hshort : l.length ≤ 64 := by omega
  have hb : decide ((64 : Int) < (l.length : Int)) = false := by rw [decide_eq_false_iff_not]; omega
  clear hlong
  by_cases ht0 : turn < 0
  · skip
    go_enter Try.func4, Try.ntmps4
    go_wp2_with fail
    refine (alive10 _).mono ?_
    rintro e w1 ⟨rfl, k1⟩
    have k1' := Lib.hid k1
    clear k1
    go_wp2_with fail
    go_ret
    exact ⟨rfl, k1'.out⟩
  have d0 : decide (turn < 0) = false := by rw [decide_eq_false_iff_not]; exact ht0
  by_cases ht1 : (l.length : Int) < turn
  · clear ht0
    go_enter Try.func4, Try.ntmps4
    go_wp2_with fail
    refine (alive10 _).mono ?_
    rintro e w1 ⟨rfl, k1⟩
    have k1' := Lib.hid k1
    clear k1
    go_wp2_with fail
    go_ret
    exact ⟨rfl, k1'.out⟩
  have d1 : decide ((l.length : Int) < turn) = false := by rw [decide_eq_false_iff_not]; exact ht1
  have hm := fun w => made10 244 (by decide) (by decide) w
  rw [show (min (244 : Int) 244 - 4).toNat = 240 from by decide] at hm
  have hm' := Lib.hid hm
  have hElen := kent_len l
  obtain ⟨M1, ra, hb1, hI1, hlog1⟩ := build_ok (kent l) two_start (kent_ok l)
  obtain ⟨t, ht⟩ : ∃ t : Nat, min turn ((kent l).length : Int) = (t : Int) := ⟨(min turn ((kent l).length : Int)).toNat, by omega⟩
  have htn : t ≤ (kent l).length := by omega
  obtain ⟨M2, rb, hb2, hI2, hlog2⟩ := build_ok ((kent l).drop t ++ (kent l).take t) hI1.swap (fun y hy => by
    rcases List.mem_append.1 hy with h | h
    · exact kent_ok l y (List.mem_of_mem_drop h)
    · exact kent_ok l y (List.mem_of_mem_take h))
  have hLa : M2.list ra = ((kent l).foldl putL [], 0) := hI2.swap.list
  have hLb : M2.list rb = ((kent l).foldl putL [], 0) := by rw [orders_same (fun y hy => (kent_ok l y hy).2.2) t]; exact hI2.list
  have hlenL : ((kent l).foldl putL []).length ≤ 64 := rises_len hI2.ka.1 (fun y hy => ⟨(hI2.ka.2 y hy).1, (hI2.ka.2 y hy).2.1⟩)
  have hlogM1 : M1.log.length ≤ 1409 := by have : (madeM 240 9).log.length = 1 := rfl; omega
  obtain ⟨LL, hLL⟩ : ∃ LL, (kent l).foldl putL [] = LL := ⟨_, rfl⟩
  rw [hLL] at hLa hLb hlenL
  have hb1' := Lib.hid hb1
  have hb2' := Lib.hid hb2
  have hLa' := Lib.hid hLa
  have hLb' := Lib.hid hLb
  have ht' := Lib.hid ht
  clear hm hI1 hI2 hb1 hb2 hLa hLb hLL ht0 ht1 hlog1 hlog2 ht
  go_enter Try.func4, Try.ntmps4
  go_wp2_with fail
  refine (alive10 _).mono ?_
  rintro e w1 ⟨rfl, k1⟩
  have k1' := Lib.hid k1
  clear k1
  go_wp2_with fail
  refine (hm'.out _).mono ?_
  rintro e w2 ⟨A, rfl, hA, hk, hn⟩
  obtain ⟨b, hbb⟩ : ∃ b, w2.heap.size = b := ⟨_, rfl⟩
  have hO := TreeVar.made (b := b) ⟨hA, hk, hn⟩ hbb
  obtain ⟨w3, hw3⟩ : ∃ w3, (w2.alloc (.cells #[.pointer none] 26)).setRow b #[.pointer (some ⟨A.sb, 0, none⟩)] = w3 := ⟨_, rfl⟩
  rw [hw3] at hO
  obtain ⟨hO3, hT3⟩ := hO
  have hO3 := Lib.hid hO3
  have hT3 := Lib.hid hT3
  have hw3' := Lib.hid hw3
  have hb' := Lib.hid hbb
  obtain ⟨sb, hsb⟩ : ∃ sb, A.sb = sb := ⟨_, rfl⟩
  rw [hsb] at hw3' hT3 ⊢
  have hown0 := Lib.hid (owns_empty w3 w3.heap.size w3.heap.size 35 2 (Nat.le_refl _) rfl)
  have k30 := Lib.hid ((Kept.refl (fun _ => False) w3).alloc (.cells #[] 35))
  have hkw := Lib.hid (k1'.out.trans hO3.out.kept)
  clear hA hk hn hw3 hbb
  go_wp2_with (first | (refine wpList_alloc_as 26 rfl rfl #[.pointer none] tree_zero ?_; rw [hb'.out]) | (refine wpList_store_whole 26 rfl rfl rfl [.pointer (some ⟨sb, 0, none⟩)] rfl (by kernel_rfl) 26 #[.pointer none] (by rw [← hb'.out]; exact heap_alloc_new _ _) rfl (by intro c hc; simp at hc; subst hc; rfl) ?_; rw [hw3'.out]))
  go_loopw [7, 41] (fun v i wr => ∃ k : Nat, k ≤ l.length ∧ i = .int .i64 k ∧ Hid (Kept (fun _ => False) w3 wr) ∧ Hid (wr.ownsRow w3.heap.size 35 2 v (kent (l.take k)).length (entCells (kent (l.take k)))) ∧ v.ownBlock ≠ none) (fun _ i _ => l.length - (intOf i).toNat)
  case atStart => exact ⟨0, Nat.zero_le _, rfl, k30, hown0, by simp [Value.ownBlock]⟩
  case round =>
    obtain ⟨k, hk, rfl, hkr, hor, hnn⟩ := hrel
    by_cases hlt : k < l.length
    · obtain ⟨x, hx⟩ : ∃ x, l[k]? = some x := ⟨_, List.getElem?_eq_getElem hlt⟩
      obtain ⟨ab, ao, rfl, hab, c1⟩ := hget'.out k x hx
      have hs := Lib.hid (kent_succ hx)
      have hlenk := kent_len (l.take k)
      rw [List.length_take] at hlenk
      obtain ⟨E, hE⟩ : ∃ E, kent (l.take k) = E := ⟨_, rfl⟩
      rw [hE] at hs hor hlenk
      obtain ⟨Av, cv, rfl, hf1, hf2⟩ := EntsAt.form (show EntsAt wr _ E from SliceAt.of_owns hor.out)
      unfold maxLen at hf2
      have c1' := hkr.out.cell (hkw.out.cell c1 id) id
      have hki : (k : Int) < (l.length : Int) := by omega
      have hnn' := Lib.hid hnn
      clear hx c1 hE hnn
      by_cases hx0 : 0 ≤ x
      · by_cases hx1 : x < 64
        · have hst : Hid (kent (l.take (k + 1)) = E ++ [(x, 0)]) := Lib.hid (by rw [hs.out, if_pos (by simp [okey, hx0, hx1])])
          have own5 := Lib.hid (ownsRow.keptOf hor.out ((Kept.refl (fun _ => False) wr).alloc (.cells #[.int .i64 x, .int .i64 0] 35)) (fun _ _ => id))
          have kr5 := Lib.hid (hkr.out.alloc (.cells #[.int .i64 x, .int .i64 0] 35))
          have hbase := kr5.out.size
          clear hs
          go_wp2_with (at_builtin; refine wpList_append_src rfl elemEntry (.tmp 51) (.tmp 55) rfl (by rfl) (by rfl) own5.out (SliceAt.block_new (ys := [.int .i64 x, .int .i64 0]) (m := 1) (heap_alloc_new _ _) (by rfl) (by decide)) (by intro c hc; simp at hc; rcases hc with rfl | rfl <;> rfl) (by omega) (by omega) hbase ?_; intro v2 w6 hown2 hg2 hat2)
          have fin : Hid (Kept (fun _ => False) w3 w6 ∧ w6.ownsRow w3.heap.size 35 2 v2 (E ++ [(x, 0)]).length (entCells (E ++ [(x, 0)])) ∧ v2.ownBlock ≠ none) := Lib.hid ⟨kr5.out.grown hg2 (fun k e => .inr (own5.out.lt k e).1), by rw [entCells_append, List.length_append]; exact hown2, by
            rcases hat2 with e | e
            · rw [e]; exact hnn'.out
            · rw [e]; simp⟩
          clear hown2 hg2 hat2
          go_roundw
          case rel => exact ⟨k + 1, by omega, by go_num, Lib.hid fin.out.1, Lib.hid (by rw [hst.out]; exact fin.out.2.1), fin.out.2.2⟩
          case measure => simp [intOf]; omega
        · have hst : Hid (kent (l.take (k + 1)) = E) := Lib.hid (by rw [hs.out, if_neg (by simp [okey, hx1]), List.append_nil])
          have hx1' : decide (x < 64) = false := by rw [decide_eq_false_iff_not]; exact hx1
          clear hs hx1
          go_wp2_with fail
          go_roundw
          case rel => exact ⟨k + 1, by omega, by go_num, hkr, Lib.hid (by rw [hst.out]; exact hor.out), hnn'.out⟩
          case measure => simp [intOf]; omega
      · have hst : Hid (kent (l.take (k + 1)) = E) := Lib.hid (by rw [hs.out, if_neg (by simp [okey, hx0]), List.append_nil])
        have hx0' : decide (0 ≤ x) = false := by rw [decide_eq_false_iff_not]; exact hx0
        clear hs hx0
        go_wp2_with fail
        go_roundw
        case rel => exact ⟨k + 1, by omega, by go_num, hkr, Lib.hid (by rw [hst.out]; exact hor.out), hnn'.out⟩
        case measure => simp [intOf]; omega
    · obtain rfl : k = l.length := by omega
      have hor2 := hor.out
      rw [List.take_length] at hor2
      obtain ⟨E, hE⟩ : ∃ E, kent l = E := ⟨_, rfl⟩
      rw [hE] at hor2 hb1' hb2' hElen htn ht'
      rcases hor2.2 with ⟨e, _⟩ | ⟨g, cap, cur, e, hg0, hg1, hg2, hg3, hg4, hg5⟩
      · subst e; exact absurd rfl hnn
      subst e
      have O4 := Lib.hid (hO3.out.fresh hkr.out)
      have V4 := Lib.hid (hT3.out.fresh hkr.out)
      have E4 : EntsOff wr A (.slice (some ⟨g, 0, none⟩) E.length cap) E := ⟨SliceAt.of_owns hor2, fun j hj => ⟨(hor2.lt j hj).2, fun e => by have h1 := (hor2.lt j hj).1; have h2 := hO3.out.store.lt (.inl e); omega⟩⟩
      have E4' := Lib.hid E4
      unfold maxLen at hg3
      have hB := treeBuild O4.out.store E4 (by omega) (by show 1 + 100000 < 100000000; omega)
      rw [hb1'.out, V4.out.eq] at hB
      have hB' := Lib.hid hB
      have hti := ht'.out
      clear hor hor2 hnn hg0 hg1 hg4 hg5 E4 hB hE hkr
      go_wp2_with (first | (refine wpList_min2 rfl (.tmp 58) (.tmp 60) #[3, 3] rfl hti (by rfl) (by rfl) ?_) | (refine wpList_load_agg 26 rfl rfl rfl _ Try.underlying26 rfl [.pointer (some ⟨sb, 0, none⟩)] (by kernel_rfl) V4.out.load ?_))
      refine hB'.out.mono ?_
      rintro e w5 ⟨A5, rfl, hT5⟩
      have O5 := Lib.hid (O4.out.to hT5)
      have V5 := Lib.hid (V4.out.to hT5)
      have E5 := Lib.hid (E4'.out.to hT5)
      clear hT5 hB' hti
      go_wp2_with fail
      have ht1 : (t : Int) ≤ (E.length : Int) := by omega
      have ht2 : (t : Int) ≤ (cap : Int) := by omega
      have ht3 : (0 : Int) ≤ (t : Int) := by omega
      have hsb5 := V5.out.eq
      obtain ⟨o2, ho2, hs2⟩ : ∃ o2, (if cap = t then 0 else t * 2) = o2 ∧ EntsAt w5 (.slice (some ⟨g, o2, none⟩) (E.length - t) (cap - t)) (E.drop t) := ⟨_, rfl, by
        by_cases e : cap = t
        · rw [if_pos e, List.drop_eq_nil_of_le (by omega), show E.length - t = 0 by omega]
          exact sliceNil (by unfold maxLen; omega)
        · rw [if_neg e]
          have := entsAt_drop (m := t) E5.out.at_ (by omega) rfl
          rw [Nat.zero_add] at this
          exact this⟩
      have hs1 := entsAt_take (m := t) E5.out.at_ (by omega) rfl
      have hs1' := Lib.hid hs1
      obtain ⟨E2, hE2⟩ : ∃ E2, E.drop t ++ E.take t = E2 := ⟨_, rfl⟩
      have hE2l : E2.length = E.length := by rw [← hE2, List.length_append, List.length_drop, List.length_take]; omega
      have hE2c : Hid (entCells E2 = entCells (E.drop t) ++ entCells (E.take t)) := Lib.hid (by rw [← hE2, entCells_append])
      rw [hE2] at hb2'
      clear hE2
      have hs2' := Lib.hid hs2
      clear hs1 hs2
      refine wp_region_held_drew (S := fun W => W.heap[b]? = some (.cells #[.pointer (some ⟨sb, 0, none⟩)] 26 (0, 0))) (by kernel_rfl) V5.out.heap (fun hH => ?_)
      refine wpAnyH_take (i := 0) (v := .agg #[.pointer (some ⟨sb, 0, none⟩)]) rfl (by kernel_rfl) (by kernel_rfl) (by kernel_rfl) (fun _ _ _ h => h) (Or.inl ⟨by rfl, fun W hW => exec_load_agg rfl (by rfl) [.pointer (some ⟨sb, 0, none⟩)] Try.underlying26 rfl (by kernel_rfl) (fun j v hj => by rw [cell_of_heap hW, Nat.zero_add]; simpa using hj)⟩) (by assumption) ?_
      simp only [Act.put, List.getElem_toArray, List.getElem_cons_zero, List.getElem_cons_succ, List.setIfInBounds_toArray, List.set_cons_zero, List.set_cons_succ]
      refine wpAnyH_take (i := 2) (v := .slice (some ⟨g, 0, none⟩) E.length cap) rfl (by kernel_rfl) (by kernel_rfl) (by kernel_rfl) (fun _ _ _ h => h) (Or.inl ⟨by rfl, fun W hW => by go_simp⟩) (by assumption) ?_
      simp only [Act.put, List.getElem_toArray, List.getElem_cons_zero, List.getElem_cons_succ, List.setIfInBounds_toArray, List.set_cons_zero, List.set_cons_succ]
      refine wpAnyH_take (i := 3) (v := .int .i64 t) rfl (by kernel_rfl) (by kernel_rfl) (by kernel_rfl) (fun _ _ _ h => h) (Or.inl ⟨by rfl, fun W hW => by go_simp⟩) (by assumption) ?_
      simp only [Act.put, List.getElem_toArray, List.getElem_cons_zero, List.getElem_cons_succ, List.setIfInBounds_toArray, List.set_cons_zero, List.set_cons_succ]
      refine wpAnyH_take (i := 4) (v := .slice (some ⟨g, o2, none⟩) (E.length - t) (cap - t)) rfl (by kernel_rfl) (by kernel_rfl) (by kernel_rfl) (fun _ _ _ h => h) (Or.inl ⟨by rfl, fun W hW => by rw [← ho2]; by_cases e : cap = t; (· subst e; rw [if_pos rfl]; go_simp); (· rw [if_neg e]; go_simp)⟩) (by assumption) ?_
      simp only [Act.put, List.getElem_toArray, List.getElem_cons_zero, List.getElem_cons_succ, List.setIfInBounds_toArray, List.set_cons_zero, List.set_cons_succ]
      refine wpAnyH_take (i := 6) (v := .slice (some ⟨g, 0, none⟩) E.length cap) rfl (by kernel_rfl) (by kernel_rfl) (by kernel_rfl) (fun _ _ _ h => h) (Or.inl ⟨by rfl, fun W hW => by go_simp⟩) (by assumption) ?_
      simp only [Act.put, List.getElem_toArray, List.getElem_cons_zero, List.getElem_cons_succ, List.setIfInBounds_toArray, List.set_cons_zero, List.set_cons_succ]
      refine wpAnyH_take (i := 7) (v := .int .i64 t) rfl (by kernel_rfl) (by kernel_rfl) (by kernel_rfl) (fun _ _ _ h => h) (Or.inl ⟨by rfl, fun W hW => by go_simp⟩) (by assumption) ?_
      simp only [Act.put, List.getElem_toArray, List.getElem_cons_zero, List.getElem_cons_succ, List.setIfInBounds_toArray, List.set_cons_zero, List.set_cons_succ]
      refine wpAnyH_take (i := 8) (v := .slice (some ⟨g, 0, none⟩) t cap) rfl (by kernel_rfl) (by kernel_rfl) (by kernel_rfl) (fun _ _ _ h => h) (Or.inl ⟨by rfl, fun W hW => by go_simp⟩) (by assumption) ?_
      simp only [Act.put, List.getElem_toArray, List.getElem_cons_zero, List.getElem_cons_succ, List.setIfInBounds_toArray, List.set_cons_zero, List.set_cons_succ]
      refine wpAnyH_ready (rs := [1]) (by kernel_rfl) (by simp) ?_
      refine AllReadyH.cons rfl (fun K hK => ?_) ?_
      · rw [if_pos (by rfl)]
        simp only [Go.wp_at_zero, Go.wp_at_succ]
        go_simp
        have k6 : Kept (fun _ => False) w5 (w5.alloc (.cells #[] 35)).drew := ((Kept.refl _ _).alloc _).drew
        have own6 := ownsRow.keptOf (owns_empty w5 w5.heap.size w5.heap.size 35 2 (Nat.le_refl _) rfl) ((Kept.refl (fun _ => False) (w5.alloc (.cells #[] 35))).drew) (fun _ _ => id)
        have hb5 : b < w5.heap.size := V5.out.safe.lt
        refine hK.out _ _ (k6.get V5.out.heap id) (fun hH6 => ?_)
        clear hK K
        try simp only [Act.put, List.getElem_toArray, List.getElem_cons_zero, List.getElem_cons_succ, List.setIfInBounds_toArray, List.set_cons_zero, List.set_cons_succ]
        obtain ⟨w6, hw6⟩ : ∃ w6, (w5.alloc (.cells #[] 35)).drew = w6 := ⟨_, rfl⟩
        rw [hw6] at k6 own6 hH6 ⊢
        refine wpAnyH_ready (rs := [5]) (by kernel_rfl) (by simp) ?_
        refine AllReadyH.cons rfl (fun K hK => ?_) ?_
        · refine step_append_src rfl elemEntry (.tmp 70) (.tmp 73) rfl (by rfl) (by rfl) own6 (m := E.length - t) (ys := entCells (E.drop t)) (by have := SliceAt.fresh hs2'.out k6; rw [List.length_drop] at this; exact this) (entCells_one _) (by omega) (by omega) k6.size ?_
          intro v7 w7 own7 hg7 hat7
          have k7 : Kept (fun _ => False) w5 w7 := k6.grown hg7 (fun j e => .inr (own6.lt j e).1)
          have hH7 := k7.get V5.out.heap id
          refine hK.out _ _ hH7 (fun hH7 => ?_)
          clear hK K
          try simp only [Act.put, List.getElem_toArray, List.getElem_cons_zero, List.getElem_cons_succ, List.setIfInBounds_toArray, List.set_cons_zero, List.set_cons_succ]
          refine wpAnyH_ready (rs := [9]) (by kernel_rfl) (by simp) ?_
          refine AllReadyH.cons rfl (fun K hK => ?_) ?_
          · refine step_append_src rfl elemEntry (.tmp 74) (.tmp 77) rfl (by rfl) (by rfl) own7 (m := t) (ys := entCells (E.take t)) (by have := SliceAt.fresh hs1'.out k7; rw [List.length_take, Nat.min_eq_left htn] at this; exact this) (entCells_one _) (by omega) (by omega) k7.size ?_
            intro v8 w8 own8 hg8 hat8
            have k8 : Kept (fun _ => False) w5 w8 := k7.grown hg8 (fun j e => .inr (own7.lt j e).1)
            have hH8 := k8.get V5.out.heap id
            refine hK.out _ _ hH8 (fun hH8 => ?_)
            clear hK K
            try simp only [Act.put, List.getElem_toArray, List.getElem_cons_zero, List.getElem_cons_succ, List.setIfInBounds_toArray, List.set_cons_zero, List.set_cons_succ]
            have own9 : w8.ownsRow w5.heap.size 35 2 v8 E2.length (entCells E2) := by rw [hE2c.out, hE2l, show E.length = 0 + (E.length - t) + t by omega]; simpa using own8
            have E8 : EntsOff w8 A5 v8 E2 := ⟨SliceAt.of_owns own9, fun j hj => ⟨(own9.lt j hj).2, fun e => by have h1 := (own9.lt j hj).1; have h2 := O5.out.store.lt (.inl e); omega⟩⟩
            have O8 := O5.out.fresh k8
            have V8 := V5.out.fresh k8
            have hB := treeBuild O8.store E8 (by omega) (by omega)
            rw [hb2'.out, hsb5] at hB
            obtain ⟨Ae, ce, rfl, _⟩ := EntsAt.form E8.at_
            rw [hE2l] at hB
            clear own6 own7 own8 own9 hg7 hg8 hat7 hat8 hH6 hH7
            refine wpAnyH_ready (rs := [10]) (by kernel_rfl) (by simp) ?_
            refine AllReadyH.cons rfl (fun K hK => ?_) ?_
            · rw [if_pos (by rfl)]
              simp only [Go.wp_at_zero, Go.wp_at_succ]
              go_simp
              refine hB.mono ?_
              rintro e w9 ⟨A9, rfl, hT9⟩
              have O9 := Lib.hid (O8.to hT9)
              have V9 := Lib.hid (V8.to hT9)
              refine hK.out _ _ V9.out.heap (fun hH9 => ?_)
              clear hK K
              try simp only [Act.put, List.getElem_toArray, List.getElem_cons_zero, List.getElem_cons_succ, List.setIfInBounds_toArray, List.set_cons_zero, List.set_cons_succ]
              refine wpAnyH_take (i := 11) (v := .tuple #[.int .i64 rb, .int .i64 0]) rfl (by kernel_rfl) (by kernel_rfl) (by kernel_rfl) (fun _ _ _ h => h) (Or.inl ⟨by rfl, fun W hW => by go_simp⟩) (by assumption) ?_
              simp only [Act.put, List.getElem_toArray, List.getElem_cons_zero, List.getElem_cons_succ, List.setIfInBounds_toArray, List.set_cons_zero, List.set_cons_succ]
              refine wpAnyH_take (i := 12) (v := .int .i64 rb) rfl (by kernel_rfl) (by kernel_rfl) (by kernel_rfl) (fun _ _ _ h => h) (Or.inl ⟨by rfl, fun W hW => by go_simp⟩) (by assumption) ?_
              simp only [Act.put, List.getElem_toArray, List.getElem_cons_zero, List.getElem_cons_succ, List.setIfInBounds_toArray, List.set_cons_zero, List.set_cons_succ]
              refine wpAnyH_take (i := 13) (v := .int .i64 0) rfl (by kernel_rfl) (by kernel_rfl) (by kernel_rfl) (fun _ _ _ h => h) (Or.inl ⟨by rfl, fun W hW => by go_simp⟩) (by assumption) ?_
              simp only [Act.put, List.getElem_toArray, List.getElem_cons_zero, List.getElem_cons_succ, List.setIfInBounds_toArray, List.set_cons_zero, List.set_cons_succ]
              refine wpAnyH_take (i := 14) (v := .int .i64 rb) rfl (by kernel_rfl) (by kernel_rfl) (by kernel_rfl) (fun _ _ _ h => h) (Or.inl ⟨by rfl, fun W hW => by go_simp⟩) (by assumption) ?_
              simp only [Act.put, List.getElem_toArray, List.getElem_cons_zero, List.getElem_cons_succ, List.setIfInBounds_toArray, List.set_cons_zero, List.set_cons_succ]
              refine wpAnyH_take (i := 15) (v := .int .i64 0) rfl (by kernel_rfl) (by kernel_rfl) (by kernel_rfl) (fun _ _ _ h => h) (Or.inl ⟨by rfl, fun W hW => by go_simp⟩) (by assumption) ?_
              simp only [Act.put, List.getElem_toArray, List.getElem_cons_zero, List.getElem_cons_succ, List.setIfInBounds_toArray, List.set_cons_zero, List.set_cons_succ]
              refine wpAnyH_done (by kernel_rfl) ?_ _
              clear hT9 hB E8 O8 V8 hH8 hH9 hH k6 k7 k8 hw6
              have hL := treeList O9.out.store ra
              rw [hLa'.out, V9.out.eq] at hL
              dsimp only at hL
              have hL' := Lib.hid hL
              clear hL
              go_wp2_with (first | (refine wpList_load_agg 26 rfl rfl rfl _ Try.underlying26 rfl [.pointer (some ⟨sb, 0, none⟩)] (by kernel_rfl) V9.out.load ?_))
              refine hL'.out.mono ?_
              rintro e w10 ⟨v10, rfl, hown10, hk10⟩
              obtain ⟨A10, c10, rfl, hf10, hf11⟩ := EntsAt.form (show EntsAt w10 v10 LL from SliceAt.of_owns hown10)
              unfold maxLen at hf11
              have O10 := Lib.hid (O9.out.fresh hk10)
              have V10 := Lib.hid (V9.out.fresh hk10)
              have E10 := Lib.hid (SliceAt.of_owns hown10)
              have hL := treeList O10.out.store rb
              rw [hLb'.out, V10.out.eq] at hL
              dsimp only at hL
              have hL2 := Lib.hid hL
              clear hL hL' hown10 hk10
              go_wp2_with (first | (refine wpList_load_agg 26 rfl rfl rfl _ Try.underlying26 rfl [.pointer (some ⟨sb, 0, none⟩)] (by kernel_rfl) V10.out.load ?_))
              refine hL2.out.mono ?_
              rintro e w11 ⟨v11, rfl, hown11, hk11⟩
              obtain ⟨A11, c11, rfl, hf12, hf13⟩ := EntsAt.form (show EntsAt w11 v11 LL from SliceAt.of_owns hown11)
              unfold maxLen at hf13
              have hS := same10 (SliceAt.fresh E10.out hk11) (SliceAt.of_owns hown11) (by omega)
              rw [decide_eq_true rfl] at hS
              have hS' := Lib.hid hS
              have O11 := Lib.hid (O10.out.fresh hk11)
              clear hS hL2 hown11 hk11
              go_wp2_with fail
              refine hS'.out.mono ?_
              rintro e w12 ⟨rfl, hk12⟩
              have O12 := Lib.hid (O11.out.fresh hk12)
              clear hk12
              go_wp2_with fail
              go_ret
              exact ⟨rfl, k1'.out.trans O12.out.kept⟩
            exact AllReadyH.nil
          exact AllReadyH.nil
        exact AllReadyH.nil
      exact AllReadyH.nil
end Go.Proofs.Ythmjcbmeiabbgaa.treeOrders
