/-
  Trees in a store, plain: a mark, and what is undone; a root that is held.
-/
import Derived.Test.YthmjcbmeiabbgaaK16
set_option linter.unusedVariables false
set_option linter.unusedSimpArgs false
namespace Go.Proofs.Ythmjcbmeiabbgaa
open Go.RowKit

/-- What was there at a mark isn't taken, and is as it was written. -/
structure Marked (M0 M : SM) : Prop where
  size : M.pool.size = M0.pool.size
  st : ∀ q, M0.live q = true → M.pool.st q ≠ 1 ∧ (0 < M.pool.cnt q ∨ M.pool.st q = 2 ∨ M.pool.st q = 3 ∨ M.pool.st q = 4)
  node : ∀ q, M0.live q = true → M.nodeAt q = M0.nodeAt q
theorem marked_closed (M0 : SM) : Closed (Marked M0) := by
  refine ⟨fun M i n hi h => ?_, fun M i h => ?_, fun M i hi h => ?_⟩
  · obtain ⟨_, hf⟩ := takeIx_free hi
    simp only [PM.freeB, Bool.and_eq_true, beq_iff_eq] at hf
    have hne : ∀ q, M0.live q = true → q ≠ i := fun q hq e => by
      subst e
      have := h.st q hq
      omega
    refine ⟨h.size, fun q hq => ?_, fun q hq => ?_⟩
    · have := h.st q hq
      simp only [PM.setSt, if_neg (hne q hq)]
      exact this
    · show logAt (M.log ++ [(i, n)]) q = _
      rw [logAt_put, if_neg (fun e => hne q hq e.symm)]
      exact h.node q hq
  · refine ⟨by show (M.pool.holdTo i).size = _; rw [holdTo_size]; exact h.size, fun q hq => ?_, h.node⟩
    have := h.st q hq
    show (M.pool.holdTo i).st q ≠ 1 ∧ (0 < (M.pool.holdTo i).cnt q ∨ (M.pool.holdTo i).st q = 2 ∨ (M.pool.holdTo i).st q = 3 ∨ (M.pool.holdTo i).st q = 4)
    unfold PM.holdTo
    split
    · simp only [PM.setCnt]
      split
      · exact ⟨this.1, .inl (Nat.succ_pos _)⟩
      · exact this
    · exact this
  · refine ⟨by show (M.pool.dropTo i.toNat).size = _; rw [dropTo_size]; exact h.size, fun q hq => ?_, h.node⟩
    have := h.st q hq
    show (M.pool.dropTo i.toNat).st q ≠ 1 ∧ (0 < (M.pool.dropTo i.toNat).cnt q ∨ (M.pool.dropTo i.toNat).st q = 2 ∨ (M.pool.dropTo i.toNat).st q = 3 ∨ (M.pool.dropTo i.toNat).st q = 4)
    unfold PM.dropTo
    split
    · simp only [PM.setCnt]
      split
      · exact ⟨this.1, .inl (by omega)⟩
      · exact this
    · simp only [PM.setCnt, PM.setSt]
      by_cases e : q = i.toNat
      · subst e
        simp only [if_true]
        unfold PM.lastSt
        rw [if_neg this.1]
        split <;> omega
      · simp only [if_neg e]
        exact this

def markM (M : SM) : SM := { M with pool := M.pool.turned 1 2 }
theorem mark_live (M : SM) (q : Nat) : (markM M).live q = M.live q := by
  unfold markM SM.live PM.live PM.turned
  dsimp only
  by_cases h : M.pool.st q = 1
  · simp [h]
  · simp [h]
theorem mark_free (M : SM) : (markM M).pool.freeCount = M.pool.freeCount := by
  unfold PM.freeCount
  show (M.pool.turned 1 2).freeN M.pool.size = _
  rw [freeN_sum, freeN_sum]
  refine sumN_congr fun i _ => ?_
  have : (M.pool.turned 1 2).freeB i = M.pool.freeB i := by
    unfold PM.freeB PM.turned
    dsimp only
    by_cases h : M.pool.st i = 1
    · rw [if_pos h, h]; rfl
    · rw [if_neg h]
  rw [this]
theorem mark_start (M : SM) : Marked (markM M) (markM M) := by
  refine ⟨rfl, fun q hq => ?_, fun _ _ => rfl⟩
  simp only [SM.live, PM.live, Bool.and_eq_true, Bool.or_eq_true, decide_eq_true_eq, beq_iff_eq] at hq
  have hs : ∀ q, (markM M).pool.st q ≠ 1 := fun q => by
    show (if M.pool.st q = 1 then 2 else M.pool.st q) ≠ 1
    split <;> omega
  refine ⟨hs q, ?_⟩
  rcases hq.2 with h | h | h
  · exact .inl h
  · exact absurd h (hs q)
  · exact .inr (.inl h)
/-- Pools that hold the same, and logs that say the same of what is there. -/
theorem exact_same {M N : SM} {ext : Nat → Nat} (h : Exact M ext) (hs : N.pool.size = M.pool.size) (hc : ∀ q, N.pool.cnt q = M.pool.cnt q) (hl : ∀ q, N.live q = M.live q) (hn : ∀ q, M.live q = true → N.nodeAt q = M.nodeAt q) : Exact N ext := by
  have he : ∀ q, M.live q = true → N.ents q = M.ents q := fun q hq => by unfold SM.ents; rw [hn q hq]
  refine ⟨by rw [hs]; exact h.size, fun p => by rw [hc]; exact h.cntLe p, fun p hp => ?_, fun q hq => ?_, fun q hq x hx => ?_, ?_⟩
  · rw [hc, h.cnt p (by rw [← hs]; exact hp)]
    unfold SM.refs
    rw [hs]
    have : sumN (fun q => if M.live q then occ (M.ents q) p else 0) M.pool.size = sumN (fun q => if N.live q then occ (N.ents q) p else 0) M.pool.size := sumN_congr fun q _ => by
      rw [hl]
      by_cases hq : M.live q = true
      · rw [if_pos hq, if_pos hq, he q hq]
      · rw [if_neg hq, if_neg hq]
    rw [this]
  · rw [hl] at hq
    rw [hn q hq]; exact h.node q hq
  · rw [hl] at hq ⊢
    rw [he q hq] at hx
    exact h.kids q hq x hx
  · obtain ⟨r, hr⟩ := h.rank
    exact ⟨r, fun q hq x hx => by rw [hl] at hq; rw [he q hq] at hx; exact hr q hq x hx⟩
theorem grown_same {M N : SM} (hs : N.pool.size = M.pool.size) (hl : ∀ q, N.live q = M.live q) (hn : ∀ q, M.live q = true → N.nodeAt q = M.nodeAt q) : Grown M N := ⟨hs, fun q hq => by rw [hl]; exact hq, hn⟩

theorem Kids.in {T : Int → List (Int × Int) → Prop} : ∀ {es l : List (Int × Int)}, Kids T es l → ∀ y ∈ l, ∃ e ∈ es, ∃ a, T e.2 a ∧ y ∈ a
  | [], l, h, y, hy => by rw [show l = [] from h] at hy; cases hy
  | e :: es, _, ⟨a, b, x, h1, h2, h3, h4, h5⟩, y, hy => by
    rw [h1] at hy
    rcases List.mem_append.1 hy with hy | hy
    · exact ⟨e, List.mem_cons_self .., a, h2, hy⟩
    · obtain ⟨f, hf, c, hc, hyc⟩ := Kids.in h5 y hy
      exact ⟨f, List.mem_cons_of_mem _ hf, c, hc, hyc⟩
/-- What is in a tree is there. -/
theorem tr_held {m : Nat} {M : SM} {ext : Nat → Nat} (E : Exact M ext) : ∀ {h : Nat} {p : Int} {l : List (Int × Int)}, Tr m M h p l → ∀ y ∈ l, M.pool.heldB y.2 = true
  | 0, _, _, t, _, _ => t.elim
  | h + 1, p, l, ⟨hp, n, hn, hok, k⟩, y, hy => by
    rcases k with ⟨_, _, hl⟩ | ⟨_, _, hK⟩
    · have hlv := (heldB_int hp).2
      have hy' : y ∈ M.ents p.toNat := by unfold SM.ents; rw [hn]; show y ∈ n.ents; rw [hl]; exact hy
      have h1 := E.kids _ hlv y hy'
      have h0 := E.pos hlv hy'
      obtain ⟨c, hc⟩ := Int.eq_ofNat_of_zero_le h0
      rw [hc] at h1 ⊢
      rw [heldB_nat]
      exact h1
    · obtain ⟨e, _, a, ha, hya⟩ := hK.in y hy
      exact tr_held E ha.1 y hya
theorem ext_held {M : SM} {ext : Nat → Nat} (E : Exact M ext) {p : Nat} (hp : p < M.pool.size) (he : 0 < ext p) : M.pool.heldB (p : Int) = true := by
  rw [heldB_nat]
  have := E.cnt p hp
  unfold PM.live
  simp only [hp, decide_true, Bool.true_and]
  rw [Bool.or_eq_true]
  left
  rw [decide_eq_true_eq]
  omega

/-- Who holds: the block's page once, the root once. -/
def extR (root : Int) : Nat → Nat := fun p => extOne p + (if (p : Int) = root then 1 else 0)
/-- A store with one tree, whose root is held. -/
structure RoomInv (s : Nat) (M : SM) (root : Int) (l : List (Int × Int)) : Prop where
  exact : Exact M (extR root)
  size : M.pool.size = s
  rooted : ∃ h, Rooted 3 M root l h
  keys : RisesK l ∧ ∀ y ∈ l, 0 ≤ y.1 ∧ y.1 < 64
  loose : Loose M []
theorem RoomInv.good {s : Nat} {M : SM} {root : Int} {l : List (Int × Int)} (h : RoomInv s M root l) : Good M l := by
  refine ⟨h.keys.1, fun y hy => ⟨(h.keys.2 y hy).1, (h.keys.2 y hy).2, ?_⟩⟩
  obtain ⟨k, hr⟩ := h.rooted
  rcases hr with ⟨_, hl, _⟩ | hr
  · rw [hl] at hy; cases hy
  · exact tr_held h.exact hr y hy
theorem RoomInv.high {s : Nat} {M : SM} {root : Int} {l : List (Int × Int)} (h : RoomInv s M root l) : ∃ k, Rooted 3 M root l k ∧ k ≤ 4 := by
  obtain ⟨k, hr⟩ := h.rooted
  rcases hr with hr | hr
  · exact ⟨k, .inl hr, by rw [hr.2.2]; exact Nat.zero_le _⟩
  · exact ⟨k, .inr hr, tr_high hr h.good⟩
theorem RoomInv.list {s : Nat} {M : SM} {root : Int} {l : List (Int × Int)} (h : RoomInv s M root l) : M.list root = (l, 0) := by
  obtain ⟨k, hr, hk⟩ := h.high
  exact listR_ok hr (by omega)
theorem RoomInv.same {s : Nat} {M N : SM} {root : Int} {l : List (Int × Int)} (h : RoomInv s M root l) (hs : N.pool.size = M.pool.size) (hc : ∀ q, N.pool.cnt q = M.pool.cnt q) (hl : ∀ q, N.live q = M.live q) (hn : ∀ q, M.live q = true → N.nodeAt q = M.nodeAt q) : RoomInv s N root l := by
  have g := grown_same hs hl hn
  refine ⟨exact_same h.exact hs hc hl hn, hs.trans h.size, ?_, h.keys, fun q hq hq0 => h.loose q (by rw [← hl]; exact hq) (by rw [← hc]; exact hq0)⟩
  obtain ⟨k, hr⟩ := h.rooted
  exact ⟨k, hr.imp id fun t => Tr.grown g t⟩
theorem room_start (s : Nat) (hs : 0 < s) (h240 : s ≤ 240) : RoomInv s (madeM s 9) (-1) [] := by
  refine ⟨exact_congr (made_exact s 9 hs h240 (by decide)) (fun p _ => ?_), rfl, ⟨0, .inl ⟨rfl, rfl, rfl⟩⟩, ⟨List.Pairwise.nil, fun y hy => by cases hy⟩, made_loose s 9 hs []⟩
  unfold extR
  rw [if_neg (by omega)]
  rfl
theorem room_mark {s : Nat} {M : SM} {root : Int} {l : List (Int × Int)} (h : RoomInv s M root l) : RoomInv s (markM M) root l := h.same rfl (fun _ => rfl) (mark_live M) (fun _ _ => rfl)
/-- What is undone is as it was at the mark. -/
theorem room_undo {s : Nat} {M N : SM} {root : Int} {l : List (Int × Int)} (h : RoomInv s M root l) (k : Marked M N) : RoomInv s ⟨M.pool, N.log⟩ root l :=
  h.same rfl (fun _ => rfl) (fun _ => rfl) (fun q hq => k.node q hq)

/-- A key is put, and the new root held in the place of the old one. -/
theorem room_put {s : Nat} {M : SM} {root : Int} {l : List (Int × Int)} (hs : 0 < s) (h : RoomInv s M root l) {key : Int} (k0 : 0 ≤ key) (k1 : key < 64) :
    ((M.put root key 0).2.2 = 0 ∧ ((M.put root key 0).1.swap root (M.put root key 0).2.1).2 = 0 ∧ RoomInv s ((M.put root key 0).1.swap root (M.put root key 0).2.1).1 (M.put root key 0).2.1 (putL l (key, 0))) ∨
      ((M.put root key 0).2.2 = 71 ∧ M.pool.freeCount ≤ 10) ∨ ((M.put root key 0).2.2 = 72 ∧ ∃ c, 255 < M.sum + 31 + extR root c) := by
  obtain ⟨k, hr, hk⟩ := h.high
  have hx : M.pool.heldB 0 = true := ext_held h.exact (p := 0) (by rw [h.size]; exact hs) (by unfold extR extOne; rw [if_pos rfl]; omega)
  rcases put_ok (by decide) h.exact hr (by omega) h.good h.loose hx k0 k1 with ⟨e, T⟩ | ⟨_, e, hf⟩ | ⟨_, e, c, hc⟩
  · refine .inl ⟨e, ?_⟩
    obtain ⟨M1, hM1⟩ : ∃ M1, (M.put root key 0).1 = M1 := ⟨_, rfl⟩
    obtain ⟨next, hnext⟩ : ∃ next, (M.put root key 0).2.1 = next := ⟨_, rfl⟩
    rw [hM1, hnext] at T ⊢
    obtain ⟨h', t, hh'⟩ := T.tr
    have hn := t.held
    have hn0 := (heldB_int hn).1
    have hold : root = -1 ∨ (M1.pool.heldB root = true ∧ 0 < extR root root.toNat) := by
      rcases hr with ⟨hr, _⟩ | hr
      · exact .inl hr
      · have h0 := (heldB_int hr.held).1
        exact .inr ⟨T.grown.held hr.held, by unfold extR; rw [if_pos (by omega)]; omega⟩
    obtain ⟨r1, E2, hlog, hsz, hlv, hlo⟩ := swap_ok T.exact (.inr ⟨hn, by rw [T.zero]; decide⟩) hold
    obtain ⟨M2, hM2⟩ : ∃ M2, (M1.swap root next).1 = M2 := ⟨_, rfl⟩
    rw [hM2] at E2 hlog hsz hlv hlo ⊢
    have E2' : Exact M2 (extR next) := exact_congr E2 (fun p _ => by
      unfold swapE extR
      by_cases e1 : (p : Int) = root <;> by_cases e2 : (p : Int) = next <;> simp [e1, e2] <;> omega)
    have hs2 : M2.pool.size = s := by rw [hsz, T.grown.size, h.size]
    have hnext2 : M2.pool.heldB next = true := by
      obtain ⟨c, hc⟩ := Int.eq_ofNat_of_zero_le hn0
      rw [hc]
      refine ext_held E2' ?_ (by unfold extR; rw [if_pos hc.symm]; omega)
      rw [hsz]
      have := live_lt (M := M1) (heldB_int hn).2
      rw [hc, Int.toNat_natCast] at this
      exact this
    refine ⟨r1, E2', hs2, ⟨h', .inr (Tr.stays E2' hlog t hnext2)⟩, ?_, fun q hq hc => ?_⟩
    · have g := h.good.put (x := (key, 0)) k0 k1 hx
      exact ⟨g.1, fun y hy => ⟨(g.2 y hy).1, (g.2 y hy).2.1⟩⟩
    · obtain ⟨c1, c2⟩ := hlo q hq hc
      obtain ⟨x, hx, he⟩ := T.loose [] rfl q (hlv q hq) c1
      rw [List.nil_append, List.mem_singleton] at hx
      rw [hx] at he
      exact absurd he.symm c2
  · exact .inr (.inl ⟨e, by omega⟩)
  · exact .inr (.inr ⟨e, c, by omega⟩)
end Go.Proofs.Ythmjcbmeiabbgaa
/-
  TreeRoom: the walk.
-/
namespace Go.Proofs.Ythmjcbmeiabbgaa.treeRoom
open Go.RowKit
open treeSplits (IntsIn)
set_option maxRecDepth 100000

/-- What one put comes to in a store that has been marked. -/
theorem room_all {s : Nat} {M : SM} {root : Int} {l : List (Int × Int)} (hs : 0 < s) (h : RoomInv s M root l) (key : Int) {M1 : SM} {next : Int} {er : Nat} (hp : (markM M).put root key 0 = (M1, next, er)) :
    (er = 0 ∧ (M1.swap root next).2 = 0 ∧ ∃ l', RoomInv s (M1.swap root next).1 next l') ∨
      ((er = 101 ∧ (0 ≤ key → 64 ≤ key) ∨ er = 71 ∧ M.pool.freeCount ≤ 17 ∨ er = 72) ∧ RoomInv s ⟨M.pool.turned 1 2, M1.log⟩ root l ∧ M1.pool.size = (M.pool.turned 1 2).size) := by
  have hm := room_mark h
  have hmk : Marked (markM M) M1 := by
    have := (marked_closed (markM M)).put root key 0 (mark_start M)
    rw [hp] at this
    exact this
  by_cases hk : 0 ≤ key ∧ key < 64
  · have := room_put hs hm hk.1 hk.2
    rw [hp] at this
    dsimp only at this
    rcases this with ⟨e, e2, hI⟩ | ⟨e, hf⟩ | ⟨e, _⟩
    · exact .inl ⟨e, e2, _, hI⟩
    · rw [mark_free] at hf
      exact .inr ⟨.inr (.inl ⟨e, by omega⟩), room_undo hm hmk, hmk.size⟩
    · exact .inr ⟨.inr (.inr e), room_undo hm hmk, hmk.size⟩
  · have : (markM M).put root key 0 = (markM M, -1, 101) := by unfold SM.put; rw [if_pos (by omega)]
    rw [this] at hp
    cases hp
    exact .inr ⟨.inl ⟨rfl, fun h0 => by omega⟩, room_undo hm (mark_start M), rfl⟩

set_option maxHeartbeats 8000000 in
theorem walkIn {w : World} (size : Int) (va : Value) (l : List Int) (hl : IntsIn w va l) : Calls Try.prog 6 #[.int .i64 size, va] w fun e w' => e = .returned (.bool true) ∧ Kept (fun _ => False) w w' := by
  obtain ⟨Aa, ca, rfl, hc1, hc2, hget⟩ := hl
  unfold maxLen at hc2
  have hget' := Lib.hid hget
  clear hget
  by_cases hs6 : size < 6
  · go_enter Try.func6, Try.ntmps6
    go_wp2_with fail
    refine (alive10 _).mono ?_
    rintro e w1 ⟨rfl, k1⟩
    have k1' := Lib.hid k1
    clear k1
    go_wp2_with fail
    go_ret
    exact ⟨rfl, k1'.out⟩
  have d6 : decide (size < 6) = false := by rw [decide_eq_false_iff_not]; exact hs6
  by_cases hs60 : 60 < size
  · clear hs6
    go_enter Try.func6, Try.ntmps6
    go_wp2_with fail
    refine (alive10 _).mono ?_
    rintro e w1 ⟨rfl, k1⟩
    have k1' := Lib.hid k1
    clear k1
    go_wp2_with fail
    go_ret
    exact ⟨rfl, k1'.out⟩
  have d60 : decide (60 < size) = false := by rw [decide_eq_false_iff_not]; exact hs60
  by_cases hlong : 70 < l.length
  · have hb : decide ((70 : Int) < (l.length : Int)) = true := by rw [decide_eq_true_eq]; omega
    clear hlong hs6 hs60
    go_enter Try.func6, Try.ntmps6
    go_wp2_with fail
    refine (alive10 _).mono ?_
    rintro e w1 ⟨rfl, k1⟩
    have k1' := Lib.hid k1
    clear k1
    go_wp2_with fail
    go_ret
    exact ⟨rfl, k1'.out⟩
  have hshort : l.length ≤ 70 := by omega
  have hb : decide ((70 : Int) < (l.length : Int)) = false := by rw [decide_eq_false_iff_not]; omega
  obtain ⟨s, hs⟩ : ∃ s, (min size 244 - 4).toNat = s := ⟨_, rfl⟩
  have hs0 : 0 < s := by omega
  have hs240 : s ≤ 240 := by omega
  have hm := fun w => made10 size (by omega) (by omega) w
  rw [hs] at hm
  have hm' := Lib.hid hm
  have hst := room_start s hs0 hs240
  clear hm hs hlong hs6 hs60
  go_enter Try.func6, Try.ntmps6
  go_wp2_with fail
  refine (alive10 _).mono ?_
  rintro e w1 ⟨rfl, k1⟩
  have k1' := Lib.hid k1
  clear k1
  go_wp2_with fail
  refine (hm'.out _).mono ?_
  rintro e w2 ⟨A, rfl, hA, hk, hn⟩
  obtain ⟨b, hbb⟩ : ∃ b, w2.heap.size = b := ⟨_, rfl⟩
  have hO := TreeVar.made (b := b) ⟨hA, hk, hn⟩ hbb
  obtain ⟨w3, hw3⟩ : ∃ w3, (w2.alloc (.cells #[.pointer none] 26)).setRow b #[.pointer (some ⟨A.sb, 0, none⟩)] = w3 := ⟨_, rfl⟩
  rw [hw3] at hO
  obtain ⟨hO3, hT3⟩ := hO
  have hw3' := Lib.hid hw3
  have hb' := Lib.hid hbb
  obtain ⟨sb, hsb⟩ : ∃ sb, A.sb = sb := ⟨_, rfl⟩
  rw [hsb] at hw3' hT3 ⊢
  have c3 := cell_of_heap hT3.heap 0
  simp at c3
  have I3 : Hid (∃ A M L, OwnStore w1 A M w3 ∧ TreeVar w3 A b sb ∧ RoomInv s M (-1) L ∧ M.log.length ≤ 1 + 22 * 0) := Lib.hid ⟨A, _, [], hO3, hT3, hst, Nat.le_refl _⟩
  clear hA hk hn hw3 hbb hO3 hT3 hst hsb
  go_wp2_with (first | (refine wpList_alloc_as 26 rfl rfl #[.pointer none] tree_zero ?_; rw [hb'.out]) | (refine wpList_store_whole 26 rfl rfl rfl [.pointer (some ⟨sb, 0, none⟩)] rfl (by kernel_rfl) 26 #[.pointer none] (by rw [← hb'.out]; exact heap_alloc_new _ _) rfl (by intro c hc; simp at hc; subst hc; rfl) ?_; rw [hw3'.out]))
  go_loopw [7, 41] (fun r i wr => ∃ (k : Nat) (root : Int), k ≤ l.length ∧ i = .int .i64 k ∧ r = .int .i64 root ∧ Hid (∃ A M L, OwnStore w1 A M wr ∧ TreeVar wr A b sb ∧ RoomInv s M root L ∧ M.log.length ≤ 1 + 22 * k)) (fun _ i _ => l.length - (intOf i).toNat)
  case atStart => exact ⟨0, -1, Nat.zero_le _, rfl, rfl, I3⟩
  case round =>
    obtain ⟨k, root, hk, rfl, rfl, hI⟩ := hrel
    by_cases hlt : k < l.length
    · obtain ⟨x, hx⟩ : ∃ x, l[k]? = some x := ⟨_, List.getElem?_eq_getElem hlt⟩
      obtain ⟨ab, ao, rfl, hab, c1⟩ := hget'.out k x hx
      obtain ⟨A, M, L, hO, hV, hR, hlog⟩ := hI.out
      have c1' := hO.kept.cell (k1'.out.cell c1 id) id
      have hki : (k : Int) < (l.length : Int) := by omega
      have hLlen : L.length ≤ 64 := rises_len hR.keys.1 hR.keys.2
      have hL := treeList hO.store root
      rw [hR.list, hV.eq] at hL
      dsimp only at hL
      have hL' := Lib.hid hL
      have hloadt : Hid (∀ j v, [Value.pointer (some ⟨sb, 0, none⟩)][j]? = some v → wr.cell? ⟨b, 0 + j, none⟩ = some v) := Lib.hid hV.load
      have hO' := Lib.hid hO
      have hV' := Lib.hid hV
      have hR' := Lib.hid hR
      clear hx c1 hI hL hO hV hR
      go_wp2_with (first | (refine wpList_load_agg 26 rfl rfl rfl _ Try.underlying26 rfl [.pointer (some ⟨sb, 0, none⟩)] (by kernel_rfl) hloadt.out ?_))
      refine hL'.out.mono ?_
      rintro e w4 ⟨v4, rfl, hown4, hk4⟩
      have E4 := EntsOff.made (A := A) (M := M) hown4 hO'.out.store
      obtain ⟨A4, cap4, rfl, hf1, hf2⟩ := EntsAt.form E4.at_
      unfold maxLen at hf2
      have O4 := Lib.hid (hO'.out.fresh hk4)
      have V4 := Lib.hid (hV'.out.fresh hk4)
      have E4' := Lib.hid E4
      have cb4 := cell_of_heap V4.out.heap 0
      simp at cb4
      have hP := storePool O4.out.store
      rw [V4.out.eq] at hP
      have hP' := Lib.hid hP
      have hF' := Lib.hid (freeCount_any O4.out.store.pool)
      have hM := storeMark O4.out.store
      rw [V4.out.eq] at hM
      have hM' := Lib.hid hM
      clear hown4 hk4 E4 hP hM
      go_wp2_with fail
      refine hP'.out.mono ?_
      rintro e w5 ⟨rfl, rfl⟩
      go_wp2_with fail
      refine hF'.out.mono ?_
      rintro e w5 ⟨rfl, rfl⟩
      go_wp2_with fail
      refine hM'.out.mono ?_
      rintro e w5 ⟨c, rfl, hT5, hpo5⟩
      have O5 : Hid (OwnStore w1 A (markM M) w5) := Lib.hid (O4.out.to hT5)
      have V5 := Lib.hid (V4.out.to hT5)
      have E5 := Lib.hid (E4'.out.to hT5)
      have P5 := Lib.hid hpo5
      have hPut := treePut O5.out.store root x 0 (by show M.log.length + 30 < 100000000; omega)
      rw [V5.out.eq] at hPut
      have hlogP := put_log (markM M) root x 0
      obtain ⟨R, hRe⟩ : ∃ R, (markM M).put root x 0 = R := ⟨_, rfl⟩
      have hall := room_all hs0 hR'.out x (M1 := R.1) (next := R.2.1) (er := R.2.2) hRe
      rw [hRe] at hPut hlogP
      obtain ⟨M1, next, er⟩ := R
      dsimp only at hPut hlogP hall
      have hlogM : M1.log.length ≤ 1 + 22 * k + 22 := by have : (markM M).log.length = M.log.length := rfl; omega
      have hPut' := Lib.hid hPut
      have hall' := Lib.hid hall
      clear hT5 hpo5 hPut hRe hall hlogP hL' hP' hF' hM'
      go_wp2_with (first | (refine wpList_load_agg 26 rfl rfl rfl _ Try.underlying26 rfl [.pointer (some ⟨sb, 0, none⟩)] (by kernel_rfl) V5.out.load ?_))
      refine hPut'.out.mono ?_
      rintro e w6 ⟨A6, rfl, hT6⟩
      have O6 := Lib.hid (O5.out.to hT6)
      have V6 := Lib.hid (V5.out.to hT6)
      have E6 := Lib.hid (E5.out.to hT6)
      have P6 := Lib.hid (P5.out.to hT6)
      have cb6 := cell_of_heap V6.out.heap 0
      simp at cb6
      clear hT6 hPut'
      rcases hall'.out with ⟨h0, hsw, hI2⟩ | ⟨her, hR2, hsz⟩
      · subst h0
        have hS := treeSwap O6.out.store root next
        rw [V6.out.eq] at hS
        have hlogS := swap_log M1 root next
        obtain ⟨R, hRe⟩ : ∃ R, M1.swap root next = R := ⟨_, rfl⟩
        rw [hRe] at hS hsw hI2 hlogS
        obtain ⟨M2, es⟩ := R
        dsimp only at hS hsw hI2 hlogS
        subst hsw
        have hS' := Lib.hid hS
        have hI2' := Lib.hid hI2
        have hlogS' := Lib.hid hlogS
        clear hS hI2 hRe hlogS
        go_wp2_with (first | (refine wpList_load_agg 26 rfl rfl rfl _ Try.underlying26 rfl [.pointer (some ⟨sb, 0, none⟩)] (by kernel_rfl) V6.out.load ?_))
        refine hS'.out.mono ?_
        rintro e w7 ⟨rfl, hT7⟩
        have fin : Hid (∃ A M L, OwnStore w1 A M w7 ∧ TreeVar w7 A b sb ∧ RoomInv s M next L ∧ M.log.length ≤ 1 + 22 * (k + 1)) := Lib.hid (by
          obtain ⟨L2, hR2⟩ := hI2'.out
          exact ⟨A6, M2, L2, O6.out.to hT7, V6.out.to hT7, hR2, by rw [hlogS'.out]; omega⟩)
        clear hT7
        go_wp2_with fail
        go_roundw
        case rel => exact ⟨k + 1, next, by omega, by go_num, rfl, fin⟩
        case measure => simp [intOf]; omega
      · have hne : er ≠ 0 := by rcases her with ⟨h, _⟩ | ⟨h, _⟩ | h <;> omega
        have h0' : ((er : Int) == 0) = false := by simp; omega
        have hU := storeUndo O6.out.store P6.out.pool hsz.symm
        rw [V6.out.eq] at hU
        have hU' := Lib.hid hU
        have hR2' := Lib.hid hR2
        have her' := Lib.hid her
        clear hU hR2 her hne hall'
        go_wp2_with fail
        refine hU'.out.mono ?_
        rintro e w7 ⟨v7, A7, rfl, hT7⟩
        have O7 := Lib.hid (O6.out.to hT7)
        have V7 := Lib.hid (V6.out.to hT7)
        have E7 := Lib.hid (E6.out.to hT7)
        have hL := treeList O7.out.store root
        rw [hR2'.out.list, V7.out.eq] at hL
        dsimp only at hL
        have hL' := Lib.hid hL
        clear hT7 hL hU'
        go_wp2_with (first | (refine wpList_load_agg 26 rfl rfl rfl _ Try.underlying26 rfl [.pointer (some ⟨sb, 0, none⟩)] (by kernel_rfl) V7.out.load ?_))
        refine hL'.out.mono ?_
        rintro e w8 ⟨v8, rfl, hown8, hk8⟩
        obtain ⟨A8, cap8, rfl, hg1, hg2⟩ := EntsAt.form (show EntsAt w8 v8 L from SliceAt.of_owns hown8)
        unfold maxLen at hg2
        have O8 := Lib.hid (O7.out.fresh hk8)
        have V8 := Lib.hid (V7.out.fresh hk8)
        have E8 := Lib.hid (E7.out.fresh hk8)
        have hS := same10 (SliceAt.of_owns hown8) E8.out.at_ (by omega)
        rw [decide_eq_true rfl] at hS
        have hS' := Lib.hid hS
        clear hown8 hk8 hS hL'
        go_wp2_with fail
        refine hS'.out.mono ?_
        rintro e w9 ⟨rfl, hk9⟩
        have O9 := Lib.hid (O8.out.fresh hk9)
        have V9 := Lib.hid (V8.out.fresh hk9)
        have cb9 := cell_of_heap V9.out.heap 0
        simp at cb9
        have hP := storePool O9.out.store
        rw [V9.out.eq] at hP
        have hP' := Lib.hid hP
        have hF := freeCount_any O9.out.store.pool
        rw [show (SM.mk (M.pool.turned 1 2) M1.log).pool.freeCount = M.pool.freeCount from mark_free M] at hF
        have hF' := Lib.hid hF
        have fin : Hid (∃ A M L, OwnStore w1 A M w9 ∧ TreeVar w9 A b sb ∧ RoomInv s M root L ∧ M.log.length ≤ 1 + 22 * (k + 1)) := Lib.hid ⟨A7, _, L, O9.out, V9.out, hR2'.out, by show M1.log.length ≤ _; omega⟩
        clear hk9 hP hF hS'
        go_wp2_with fail
        refine hP'.out.mono ?_
        rintro e w10 ⟨rfl, rfl⟩
        go_wp2_with fail
        refine hF'.out.mono ?_
        rintro e w10 ⟨rfl, rfl⟩
        rcases her'.out with ⟨rfl, hkey⟩ | ⟨rfl, hfree⟩ | rfl
        · by_cases hx0 : 0 ≤ x
          · have hx64 : decide (x < 64) = false := by rw [decide_eq_false_iff_not]; have := hkey hx0; omega
            clear hkey
            go_wp2_with fail
            go_roundw
            case rel => exact ⟨k + 1, root, by omega, by go_num, rfl, fin⟩
            case measure => simp [intOf]; omega
          · have hx0' : decide (0 ≤ x) = false := by rw [decide_eq_false_iff_not]; exact hx0
            clear hkey hx0
            go_wp2_with fail
            go_roundw
            case rel => exact ⟨k + 1, root, by omega, by go_num, rfl, fin⟩
            case measure => simp [intOf]; omega
        · have hf17 : decide ((17 : Int) < (M.pool.freeCount : Int)) = false := by rw [decide_eq_false_iff_not]; omega
          clear hfree
          go_wp2_with fail
          go_roundw
          case rel => exact ⟨k + 1, root, by omega, by go_num, rfl, fin⟩
          case measure => simp [intOf]; omega
        · go_wp2_with fail
          go_roundw
          case rel => exact ⟨k + 1, root, by omega, by go_num, rfl, fin⟩
          case measure => simp [intOf]; omega
    · obtain rfl : k = l.length := by omega
      have hkk : Hid (Kept (fun _ => False) w1 wr) := Lib.hid (by obtain ⟨A, M, L, hO, _⟩ := hI.out; exact hO.kept)
      clear hI
      go_wp2_with fail
      go_ret
      exact ⟨rfl, k1'.out.trans hkk.out⟩
end Go.Proofs.Ythmjcbmeiabbgaa.treeRoom
