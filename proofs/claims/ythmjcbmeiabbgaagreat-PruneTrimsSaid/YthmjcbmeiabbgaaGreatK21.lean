/-
  What PruneTrims asks, plain: a mark, what is kept behind it, and what is undone.
-/
import Derived.Test.YthmjcbmeiabbgaaGreatK16
import Derived.Test.YthmjcbmeiabbgaaGreatK18
import Derived.Test.YthmjcbmeiabbgaaGreatK20
set_option linter.unusedVariables false
set_option linter.unusedSimpArgs false
namespace Go.Proofs.YthmjcbmeiabbgaaGreat
open Go.RowKit

/-- What is not free as before was there at the mark. -/
def Spent (M0 M : SM) : Prop := ∀ q, M.pool.st q ≤ 3 ∧ (2 ≤ M.pool.st q → q < M0.pool.size → M0.live q = true) ∧ (0 < M.pool.cnt q → M.pool.st q = 1 ∨ M.pool.st q = 2)
theorem spent_live {M0 M : SM} (h : Spent M0 M) {i : Int} (hi : M.pool.heldB i = true) : M.pool.st i.toNat = 1 ∨ M.pool.st i.toNat = 2 := by
  have hl := (heldB_int hi).2
  have := h i.toNat
  simp only [PM.live, Bool.and_eq_true, Bool.or_eq_true, decide_eq_true_eq, beq_iff_eq] at hl
  rcases hl.2 with h1 | h1
  · exact this.2.2 h1
  · exact h1
theorem spent_closed (M0 : SM) : Closed (Spent M0) := by
  refine ⟨fun M i n hi h q => ?_, fun M i h q => ?_, fun M i hi h q => ?_⟩
  · have := h q
    by_cases e : q = i
    · subst e; simp [PM.setSt]
    · simp only [PM.setSt, if_neg e]; exact this
  · have := h q
    show (M.pool.holdTo i).st q ≤ 3 ∧ (2 ≤ (M.pool.holdTo i).st q → q < M0.pool.size → M0.live q = true) ∧ (0 < (M.pool.holdTo i).cnt q → (M.pool.holdTo i).st q = 1 ∨ (M.pool.holdTo i).st q = 2)
    unfold PM.holdTo
    split
    · rename_i hc
      simp only [Bool.and_eq_true] at hc
      have hs := spent_live h hc.1
      simp only [PM.setCnt]
      refine ⟨this.1, this.2.1, fun hq => ?_⟩
      split at hq
      · rename_i e; rw [e]; exact hs
      · exact this.2.2 hq
    · exact this
  · have := h q
    have hs := spent_live h hi
    show (M.pool.dropTo i.toNat).st q ≤ 3 ∧ (2 ≤ (M.pool.dropTo i.toNat).st q → q < M0.pool.size → M0.live q = true) ∧ (0 < (M.pool.dropTo i.toNat).cnt q → (M.pool.dropTo i.toNat).st q = 1 ∨ (M.pool.dropTo i.toNat).st q = 2)
    unfold PM.dropTo
    split
    · simp only [PM.setCnt]
      refine ⟨this.1, this.2.1, fun hq => ?_⟩
      split at hq
      · rename_i e; rw [e]; exact hs
      · exact this.2.2 hq
    · simp only [PM.setCnt, PM.setSt]
      by_cases e : q = i.toNat
      · subst e
        simp only [if_true]
        unfold PM.lastSt
        rcases hs with hs | hs
        · rw [hs]; exact ⟨by decide, fun h => absurd h (by decide), fun h => absurd h (by decide)⟩
        · rw [hs]; exact ⟨by decide, fun _ => this.2.1 (by omega), fun h => absurd h (by decide)⟩
      · simp only [if_neg e]
        exact this
theorem sumN_three {f g k : Nat → Nat} : ∀ n, (∀ i, i < n → 1 ≤ f i + g i + k i) → n ≤ sumN f n + sumN g n + sumN k n
  | 0, _ => Nat.zero_le _
  | n + 1, h => by
    have h1 := sumN_three n (fun i hi => h i (by omega))
    have h2 := h n (by omega)
    unfold sumN
    omega
theorem spent_room {M0 M : SM} (h : Spent M0 M) (hs : M.pool.size = M0.pool.size) : M.pool.size ≤ M.pool.freeCount + M.liveN + M0.liveN := by
  unfold PM.freeCount SM.liveN
  rw [freeN_sum, ← hs]
  refine sumN_three _ fun q hq => ?_
  have hq0 : q < M0.pool.size := hs ▸ hq
  have hs := h q
  by_cases hl : M.live q = true
  · rw [if_pos hl]; omega
  · have hn := hl
    simp only [SM.live, PM.live, Bool.and_eq_true, Bool.or_eq_true, decide_eq_true_eq, beq_iff_eq, not_and, not_or] at hn
    obtain ⟨n1, n2, n3⟩ := hn hq
    by_cases h0 : M.pool.st q = 0
    · have : M.pool.freeB q = true := by
        unfold PM.freeB
        simp only [Bool.and_eq_true, beq_iff_eq]
        omega
      rw [if_pos this]; omega
    · have : M0.live q = true := hs.2.1 (by omega) hq0
      rw [if_pos this]; omega
/-- What is kept behind a mark. -/
def Since (M0 M : SM) : Prop := Marked M0 M ∧ Spent M0 M
theorem since_besides {M0 : SM} {c : Nat} (hc : M0.liveN ≤ c) : Besides (Since M0) c :=
  ⟨⟨fun M i n hi h => ⟨(marked_closed M0).take M i n hi h.1, (spent_closed M0).take M i n hi h.2⟩, fun M i h => ⟨(marked_closed M0).hold M i h.1, (spent_closed M0).hold M i h.2⟩, fun M i hi h => ⟨(marked_closed M0).drop M i hi h.1, (spent_closed M0).drop M i hi h.2⟩⟩,
    fun M h => by have := spent_room h.2 h.1.size; omega⟩
theorem since_mild {M0 M : SM} (h : Since M0 M) : Mild M := fun q => (h.2 q).1
/-- Stores that hold the same, and say the same of what is there. -/
theorem OneTree.same {K K' : SM → Prop} {s : Nat} {bl : List Nat} {M N : SM} {root : Int} {l : List (Int × Int)} {P : Nat} (h : OneTree K s bl M root l P) (hk : K' N) (hs : N.pool.size = M.pool.size)
    (hc : ∀ q, N.pool.cnt q = M.pool.cnt q) (hl : ∀ q, N.live q = M.live q) (hn : ∀ q, M.live q = true → N.nodeAt q = M.nodeAt q) : OneTree K' s bl N root l P := by
  have g := grown_same hs hl hn
  refine ⟨exact_same h.exact hs hc hl hn, hs.trans h.size, hk, fun b hb => ?_, h.keys, ?_, fun q hq hq0 => h.loose q (by rw [← hl]; exact hq) (by rw [← hc]; exact hq0)⟩
  · obtain ⟨a, d⟩ := h.data b hb
    exact ⟨by rw [hl]; exact a, by rw [hn b a]; exact d⟩
  · rcases h.root with e | ⟨k, t, j⟩
    · exact .inl e
    · exact .inr ⟨k, Tr.grown g t, Led.grown g t j⟩
section
variable {s : Nat} {bl : List Nat} {M : SM} {root : Int} {l : List (Int × Int)} {P : Nat}
/-- At the mark. -/
theorem OneTree.marked (h : OneTree Clean s bl M root l P) : OneTree (Since (markM M)) s bl (markM M) root l P := by
  refine h.same ⟨mark_start M, fun q => ?_⟩ rfl (fun _ => rfl) (mark_live M) (fun _ _ => rfl)
  have hk := h.kk q
  have e : (markM M).pool.st q = if M.pool.st q = 1 then 2 else M.pool.st q := rfl
  refine ⟨by rw [e]; split <;> omega, fun h2 hq => ?_, fun h2 => ?_⟩
  · rw [e] at h2
    have h1 : M.pool.st q = 1 := by
      by_cases h1 : M.pool.st q = 1
      · exact h1
      · rw [if_neg h1] at h2; omega
    rw [mark_live]
    unfold SM.live PM.live
    rw [h1]
    have hq' : q < M.pool.size := hq
    simp [hq']
  · rw [e, if_pos (hk.2 h2)]
    exact .inr rfl
/-- Undone. -/
theorem OneTree.undone {N : SM} (h : OneTree (Since M) s bl M root l P) (hn : Since M N) : OneTree Mild s bl ⟨M.pool, N.log⟩ root l P :=
  h.same (fun q => since_mild h.kk q) rfl (fun _ => rfl) (fun _ => rfl) (fun q hq => hn.1.node q hq)
theorem OneTree.few {K : SM → Prop} (h : OneTree K s bl M root l P) (hP : P ≤ 150) : 2 * M.liveN ≤ 2 * bl.length + P + 3 := by
  obtain ⟨L, _, a2, _, _, a5, _⟩ := h.pages hP
  have := liveN_list a2
  rw [List.length_append] at this
  omega
end
/-- Keys taken out at once. -/
theorem trims_ok {K : SM → Prop} {s c : Nat} {bl : List Nat} (hB : Besides K c) (hbl : bl.length ≤ 5) (hs : 5 + 73 + c + 20 ≤ s) : ∀ (ks : List Int) {M : SM} {root : Int} {l : List (Int × Int)} {P : Nat}, OneTree K s bl M root l P → P ≤ 150 →
    ((∀ k ∈ ks, 0 ≤ k ∧ k ≤ 63) ∧ (SM.trim ks M root).2.2 = 0 ∧ OneTree K s bl (SM.trim ks M root).1 (SM.trim ks M root).2.1 (ks.foldl cutL l) P) ∨
      ((∃ k ∈ ks, k < 0 ∨ 63 < k) ∧ (SM.trim ks M root).2.1 = -1 ∧ (SM.trim ks M root).2.2 = 101 ∧ K (SM.trim ks M root).1 ∧ (SM.trim ks M root).1.pool.size = s)
  | [], M, root, l, P, h, _ => .inl ⟨fun _ hk => (by cases hk), rfl, h⟩
  | x :: ks, M, root, l, P, h, hP => by
    rw [trim_cons, List.foldl_cons]
    by_cases hx : x < 0 ∨ 63 < x
    · right
      rw [cut_bad M root hx]
      exact ⟨⟨x, List.mem_cons_self .., hx⟩, rfl, rfl, h.kk, h.size⟩
    · have step : ∀ {M' : SM} {root' : Int}, OneTree K s bl M' root' (cutL l x) P → 
        ((∀ k ∈ x :: ks, 0 ≤ k ∧ k ≤ 63) ∧ (SM.trim ks M' root').2.2 = 0 ∧ OneTree K s bl (SM.trim ks M' root').1 (SM.trim ks M' root').2.1 (ks.foldl cutL (cutL l x)) P) ∨
          ((∃ k ∈ x :: ks, k < 0 ∨ 63 < k) ∧ (SM.trim ks M' root').2.1 = -1 ∧ (SM.trim ks M' root').2.2 = 101 ∧ K (SM.trim ks M' root').1 ∧ (SM.trim ks M' root').1.pool.size = s) := fun h' => by
        rcases trims_ok hB hbl hs ks h' hP with ⟨a, b⟩ | ⟨⟨k, hk, hk2⟩, b⟩
        · exact .inl ⟨fun k hk => by
            rcases List.mem_cons.1 hk with rfl | hk
            · omega
            · exact a k hk, b⟩
        · exact .inr ⟨⟨k, List.mem_cons_of_mem _ hk, hk2⟩, b⟩
      rcases one_cut h hB hP hbl hs (key := x) (by omega) (by omega) with ⟨e, e2, _⟩ | ⟨e1, e2, _, _, e3, e4⟩
      · rw [e]
        exact step (e2.symm ▸ h)
      · rw [if_pos e1, if_pos e2, if_pos e3]
        exact step e4
theorem refTrim_ok : ∀ {ks : List Int} {l : List (Int × Int)}, (∀ k ∈ ks, 0 ≤ k ∧ k ≤ 63) → refTrim ks l = (ks.foldl cutL l, 0)
  | [], _, _ => rfl
  | k :: ks, l, h => by
    have := h k (List.mem_cons_self ..)
    unfold refTrim
    rw [if_neg (by omega)]
    exact refTrim_ok fun j hj => h j (List.mem_cons_of_mem _ hj)
theorem refTrim_bad : ∀ {ks : List Int} {l : List (Int × Int)}, (∃ k ∈ ks, k < 0 ∨ 63 < k) → refTrim ks l = ([], 101)
  | [], _, ⟨k, hk, _⟩ => by cases hk
  | k :: ks, l, ⟨j, hj, hj2⟩ => by
    unfold refTrim
    by_cases hk : k < 0 ∨ 63 < k
    · rw [if_pos hk]
    · rw [if_neg hk]
      rcases List.mem_cons.1 hj with rfl | hj
      · exact absurd hj2 hk
      · exact refTrim_bad ⟨j, hj, hj2⟩
end Go.Proofs.YthmjcbmeiabbgaaGreat
/-
  The document's Trim (understudyref11.Trim).
-/
namespace Go.Proofs.YthmjcbmeiabbgaaGreat
open Go.RowKit
set_option maxRecDepth 100000

/-- Where its loop stands. -/
structure TrSt (w0 : World) (u : Value) (ks : List Int) (l : List (Int × Int)) (k : Nat) (cur : List (Int × Int)) (wr : World) : Prop where
  kept : Kept (fun _ => False) w0 wr
  ents : EntsAt wr u cur
  len : cur.length ≤ l.length
  rest : refTrim ks l = refTrim (ks.drop k) cur
set_option maxHeartbeats 8000000 in
theorem refTrim11 {w : World} {va vk : Value} {l : List (Int × Int)} {ks : List Int} (hv : EntsAt w va l) (hl : l.length ≤ 1000) (hk : SliceAt w vk 1 ks.length (ks.map (Value.int .i64))) (hks : ks.length ≤ 1000) :
    Calls Tryz.prog 30 #[va, vk] w fun e w' => ∃ u, e = .returned (.tuple #[u, .int .i64 ((refTrim ks l).2 : Nat)]) ∧ EntsAt w' u (refTrim ks l).1 ∧ Kept (fun _ => False) w w' := by
  obtain ⟨Av, cap, rfl, hf1, hf2⟩ := hv.form
  obtain ⟨_, Ak, ck, rfl, hk1, hk2, _⟩ := id hk
  unfold maxLen at hf2 hk2
  have hk' := Lib.hid hk
  have I0 : Hid (∃ cur, TrSt w (.slice Av l.length cap) ks l 0 cur w) := Lib.hid ⟨l, Kept.refl _ _, hv, Nat.le_refl _, rfl⟩
  clear hv hk
  go_enter Tryz.func30, Tryz.ntmps30
  go_wp2_with fail
  go_loopw [0, 10] (fun u i wr => ∃ (k : Nat), k ≤ ks.length ∧ i = .int .i64 k ∧ Hid (∃ cur, TrSt w u ks l k cur wr)) (fun _ i _ => ks.length - (intOf i).toNat)
  case atStart => exact ⟨0, Nat.zero_le _, rfl, I0⟩
  case round =>
    obtain ⟨k, hk, rfl, hI⟩ := hrel
    obtain ⟨cur, St⟩ := hI.out
    obtain ⟨Au, cu, rfl, hu1, hu2⟩ := St.ents.form
    unfold maxLen at hu2
    by_cases hlt : k < ks.length
    · obtain ⟨x, hx⟩ : ∃ x, ks[k]? = some x := ⟨_, List.getElem?_eq_getElem hlt⟩
      obtain ⟨kb, ko, rfl, hkb, hkc⟩ := SliceAt.elem (SliceAt.fresh hk'.out St.kept) hlt (by decide)
      have ck0 := hkc 0 (.int .i64 x) (by decide) (by simp [hx])
      simp at ck0
      have hki : (k : Int) < (ks.length : Int) := by omega
      have hd : ks.drop k = x :: ks.drop (k + 1) := by rw [List.drop_eq_getElem_cons hlt, (List.getElem?_eq_some_iff.1 hx).2]
      have hrest := St.rest
      rw [hd, show refTrim (x :: ks.drop (k + 1)) cur = if x < 0 ∨ 63 < x then ([], 101) else refTrim (ks.drop (k + 1)) (cutL cur x) from rfl] at hrest
      have hcl : cur.length ≤ 1000 := Nat.le_trans St.len hl
      by_cases hr : x < 0 ∨ 63 < x
      · have hor : (decide (x < 0) = true) ∨ (decide (x < 0) = false ∧ decide (63 < x) = true) := by simp only [decide_eq_true_eq, decide_eq_false_iff_not]; omega
        rw [if_pos hr] at hrest
        have fin : Hid (∃ u, (Value.tuple #[.slice none 0 0, .int .i64 101] = .tuple #[u, .int .i64 ((refTrim ks l).2 : Nat)]) ∧ EntsAt wr u (refTrim ks l).1 ∧ Kept (fun _ => False) w wr) := Lib.hid ⟨.slice none 0 0, by rw [hrest]; rfl, by rw [hrest]; exact ⟨rfl, none, 0, rfl, Nat.le_refl _, by decide, fun j u h => by simp [entCells] at h⟩, St.kept⟩
        clear hr hkc hx hd hrest hI St
        rcases hor with hd0 | ⟨hd0, hd1⟩
        · go_wp2_with fail
          go_ret2
          obtain ⟨u, e, h⟩ := fin.out
          exact ⟨u, by rw [← e]; rfl, h⟩
        · go_wp2_with fail
          go_ret2
          obtain ⟨u, e, h⟩ := fin.out
          exact ⟨u, by rw [← e]; rfl, h⟩
      · have hd0 : decide (x < 0) = false := by rw [decide_eq_false_iff_not]; omega
        have hd1 : decide (63 < x) = false := by rw [decide_eq_false_iff_not]; omega
        rw [if_neg hr] at hrest
        have hRf' := Lib.hid (refCut10 St.ents hcl x)
        have hrest' := Lib.hid hrest
        have St' := Lib.hid St
        clear hr hkc hx hd hrest hI St
        go_wp2_with fail
        refine hRf'.out.mono ?_
        rintro e wq ⟨u, rfl, hownq, hkq⟩
        obtain ⟨Aq, cq, rfl, hq1, hq2⟩ := EntsAt.form (show EntsAt wq u (cutL cur x) from SliceAt.of_owns hownq)
        unfold maxLen at hq2
        have fin : Hid (∃ cu2, TrSt w (.slice Aq (cutL cur x).length cq) ks l (k + 1) cu2 wq) := Lib.hid ⟨cutL cur x, St'.out.kept.trans hkq, SliceAt.of_owns hownq, Nat.le_trans (List.length_filter_le _ _) St'.out.len, hrest'.out⟩
        clear hownq hkq
        go_wp2_with fail
        go_roundw
        case rel => exact ⟨k + 1, by omega, by go_num, fin⟩
        case measure => simp [intOf]; omega
    · obtain rfl : k = ks.length := by omega
      have hrest := St.rest
      rw [List.drop_eq_nil_of_le (Nat.le_refl _)] at hrest
      have fin : Hid (∃ u, (Value.tuple #[.slice Au cur.length cu, .int .i64 0] = .tuple #[u, .int .i64 ((refTrim ks l).2 : Nat)]) ∧ EntsAt wr u (refTrim ks l).1 ∧ Kept (fun _ => False) w wr) := Lib.hid ⟨_, by rw [hrest]; rfl, by rw [hrest]; exact St.ents, St.kept⟩
      clear hrest hI St
      go_wp2_with fail
      go_ret2
      obtain ⟨u, e, h⟩ := fin.out
      exact ⟨u, by rw [← e]; rfl, h⟩
end Go.Proofs.YthmjcbmeiabbgaaGreat
/-
  understudylaw10.exact: whether as many pages are taken as a tree's nodes are, and some blocks.
-/
namespace Go.Proofs.YthmjcbmeiabbgaaGreat
open Go.RowKit
set_option maxRecDepth 100000

/-- What holds in the loop. -/
structure Ex10St (w1 : World) (A : SA) (M : SM) (l : List Int) (pb : Nat) (u : Value) (wr : World) : Prop where
  to : StoreTo A A M.tidy w1 wr
  box : wr.heap[pb]? = some (.cells #[.pointer (some ⟨A.sb, 0, none⟩)] 26 (0, 0))
  new : pb < w1.heap.size ∧ ¬ A.foot pb
  row : wr.ownsRow w1.heap.size 3 1 u l.length (l.map (Value.int .i64))
theorem Ex10St.fresh {w1 wr w' : World} {A : SA} {M : SM} {l : List Int} {pb : Nat} {u : Value} (h : Ex10St w1 A M l pb u wr) (k : Kept (fun _ => False) wr w') : Ex10St w1 A M l pb u w' :=
  ⟨h.to.fresh k, k.get h.box id, h.new, ownsRow.keptOf h.row k (fun _ _ => id)⟩
set_option maxHeartbeats 8000000 in
theorem exact10 {K : SM → Prop} {s : Nat} {bl : List Nat} {M : SM} {root : Int} {l : List (Int × Int)} {P : Nat} (h : OneTree K s bl M root l P) (hm : Mild M) (hb : bl.Nodup) (hfew : bl.length ≤ 240) (hrw : -9223372036854775808 ≤ root ∧ root ≤ 9223372036854775807) {w : World} {A : SA} (hS : StoreAt w A M) :
    Calls Tryz.prog 15 #[.agg #[.pointer (some ⟨A.sb, 0, none⟩)], .int .i64 root, .int .i64 bl.length] w fun e w' => e = .returned (.bool true) ∧ StoreTo A A M.tidy w w' := by
  obtain ⟨L, hreach, hgets, hcount, hlenL⟩ := exact_count h hm hb
  obtain ⟨pb, hpb⟩ : ∃ pb, w.heap.size = pb := ⟨_, rfl⟩
  obtain ⟨w1, hw1⟩ : ∃ w1, w.alloc (.cells #[.pointer (some ⟨A.sb, 0, none⟩)] 26) = w1 := ⟨_, rfl⟩
  have k1 : Kept (fun _ => False) w w1 := by rw [← hw1]; exact (Kept.refl _ _).alloc _
  have q1 : w1.heap[pb]? = some (.cells #[.pointer (some ⟨A.sb, 0, none⟩)] 26 (0, 0)) := by rw [← hw1, ← hpb]; exact heap_alloc_new _ _
  have S1 := Lib.hid (hS.fresh k1)
  have hsafe : Hid (Safe w1 A pb) := Lib.hid (Safe.new hS (by omega) (lt_of_heap q1))
  have hsz := Lib.hid h.size
  have hs240 := Lib.hid h.exact.size
  have hgets' := Lib.hid hgets
  have hLn' : Hid (L.length ≤ 240) := Lib.hid (by have h1 := h.exact.size; have h2 := hlenL; omega)
  have hreach' := Lib.hid hreach
  have hw1' := Lib.hid hw1
  have hpb' := Lib.hid hpb
  have k1' := Lib.hid k1
  have q1' := Lib.hid q1
  have hc0 := cell_of_heap q1 0
  simp at hc0
  clear hlenL hgets hreach hw1 hpb k1 q1 hm hb h
  go_enter Tryz.func15, Tryz.ntmps15
  go_wp2_with (first | (refine wpList_box_named 26 rfl rfl _ rfl hw1'.out ?_; rw [hpb'.out]))
  refine (storePool S1.out).mono ?_
  rintro e w2 ⟨rfl, rfl⟩
  go_wp2_with fail
  refine (tidy_any S1.out.pool).mono ?_
  rintro e w2 ⟨rfl, hT⟩
  have T2 : Hid (StoreTo A A M.tidy w1 w2) := Lib.hid (S1.out.pooled hT rfl)
  have q2 : Hid (w2.heap[pb]? = some (.cells #[.pointer (some ⟨A.sb, 0, none⟩)] 26 (0, 0))) := Lib.hid (T2.out.get q1'.out hsafe.out)
  have c20 := cell_of_heap q2.out 0
  simp at c20
  have k3 : Kept (fun _ => False) w2 (w2.alloc (.cells #[.int .i64 root] 3)) := (Kept.refl _ _).alloc _
  have hR := reachAny (T2.out.store.fresh k3) (v := .slice (some ⟨w2.heap.size, 0, none⟩) 1 1) (l := [root]) (SliceAt.block_new (heap_alloc_new _ _) rfl (by decide)) (by simp) (fun x hx => by rw [List.mem_singleton.1 hx]; exact hrw)
  rw [hreach'.out] at hR
  dsimp only at hR
  have hR' := Lib.hid hR
  have k3' := Lib.hid k3
  clear hT hc0 hR k3
  go_wp2_with fail
  refine hR'.out.mono ?_
  rintro e w4 ⟨u, rfl, hown4, hk4⟩
  obtain ⟨_, Al, capl, rfl, hcl1, hcl2, _⟩ := SliceAt.of_owns hown4
  unfold maxLen at hcl2
  have hLn : L.length ≤ 240 := hLn'.out
  have E4 : Hid (Ex10St w1 A M L pb (.slice Al L.length capl) w4) := Lib.hid ⟨(T2.out.fresh k3'.out).fresh hk4, hk4.get (k3'.out.get q2.out id) id, ⟨hsafe.out.lt, hsafe.out.off⟩, owns_le' hown4 (Nat.le_trans T2.out.kept.size k3'.out.size)⟩
  clear hown4 hk4 c20
  obtain ⟨Z, hZ⟩ : ∃ Z, nodeCells NM.zero (.slice none 0 0) = Z := ⟨_, rfl⟩
  have hZz : Hid ((Tryz.prog.info? 80).map (·.zero) = some (some (.agg Z.toArray))) := Lib.hid (by rw [← hZ]; exact node_zero)
  have hZl : Hid (Z.length = 18) := Lib.hid (by rw [← hZ]; exact nodeCells_len _ _)
  clear hZ
  go_wp2_with fail
  go_loopw [9, 30] (fun c i wr => ∃ (k : Nat), k ≤ L.length ∧ i = .int .i64 k ∧ c = .int .i64 (((L.take k).countP M.innerB : Nat) : Int) ∧ Hid (Ex10St w1 A M L pb (.slice Al L.length capl) wr)) (fun _ i _ => L.length - (intOf i).toNat)
  case atStart => exact ⟨0, Nat.zero_le _, rfl, rfl, E4⟩
  case round =>
    obtain ⟨k, hkl, rfl, rfl, hI⟩ := hrel
    by_cases hlt : k < L.length
    · obtain ⟨x, hx⟩ : ∃ x, L[k]? = some x := ⟨_, List.getElem?_eq_getElem hlt⟩
      obtain ⟨n, hgn, hinn⟩ := hgets'.out x (List.mem_of_getElem? hx)
      obtain ⟨lb, lo, rfl, hlb, hlc⟩ := ints_cell (SliceAt.of_owns hI.out.row) hx
      have cw0 := cell_of_heap hI.out.box 0
      simp at cw0
      have hg := get_any hI.out.to.store x
      rw [hgn] at hg
      dsimp only at hg
      have hg' := Lib.hid hg
      have hki : (k : Int) < (L.length : Int) := by omega
      have hnext : Hid ((L.take (k + 1)).countP M.innerB = (L.take k).countP M.innerB + (if n.kind = 1 then 0 else 1)) := Lib.hid (by rw [List.take_add_one, hx, List.countP_append]; congr 1; show [x].countP M.innerB = _; rw [List.countP_singleton, hinn]; by_cases e : n.kind = 1 <;> simp [e])
      have hcle : (L.take k).countP M.innerB ≤ 240 := by have h1 := List.countP_le_length (p := M.innerB) (l := L.take k); rw [List.length_take] at h1; omega
      clear hx hgn hg hinn
      go_wp2_with fail
      refine hg'.out.mono ?_
      rintro e w5 ⟨v5, rfl, hown5, hk5⟩
      obtain ⟨F, hF⟩ : ∃ F, nodeCells n v5 = F := ⟨_, rfl⟩
      have hFl : Hid (F.length = 18) := Lib.hid (by rw [← hF]; exact nodeCells_len _ _)
      have hF1 : Hid (∀ v ∈ F, v.oneCell' = true) := Lib.hid (by rw [← hF]; obtain ⟨_, A5, c5, rfl, _⟩ := SliceAt.of_owns hown5; exact nodeCells_one _ _ _ _)
      have hF0 : F[0]? = some (.int .i64 n.kind) := by rw [← hF]; rfl
      obtain ⟨nb, hnb⟩ : ∃ nb, w5.heap.size = nb := ⟨_, rfl⟩
      obtain ⟨w6, hw6⟩ : ∃ w6, (w5.alloc (.cells Z.toArray 80)).setRow nb F.toArray = w6 := ⟨_, rfl⟩
      have k6 : Kept (fun _ => False) w5 w6 := by rw [← hw6]; exact ((Kept.refl _ _).alloc _).setRowNew (by omega) _
      have q6 : w6.heap[nb]? = some (.cells F.toArray 80 (0, 0)) := by rw [← hw6, ← hnb]; exact setRow_heap _ _ _ _ _ _ (heap_alloc_new _ _)
      have c60 : w6.cell? ⟨nb, 0, none⟩ = some (.int .i64 n.kind) := by rw [cell_of_heap q6]; simpa using hF0
      have E6 := Lib.hid ((hI.out.fresh hk5).fresh k6)
      have hnb' := Lib.hid hnb
      have hw6' := Lib.hid hw6
      rw [hF]
      clear hown5 hk5 hF hnb hw6 k6 q6 hI cw0 hlc hF0
      by_cases hkd : n.kind = 1
      · have hb : (n.kind == 1) = true := by simp [hkd]
        have hn : Hid ((L.take (k + 1)).countP M.innerB = (L.take k).countP M.innerB) := Lib.hid (by rw [hnext.out, if_pos hkd, Nat.add_zero])
        clear hkd
        go_wp2_with (first | (refine wpList_alloc_as 80 rfl rfl Z.toArray hZz.out ?_; rw [hnb'.out]) | (refine wpList_store_whole 80 rfl rfl rfl F rfl (by rw [hFl.out]; exact node_size) 80 _ (by rw [← hnb'.out]; exact heap_alloc_new _ _) (by simp [hFl.out, hZl.out]) hF1.out ?_; rw [hw6'.out]))
        go_roundw
        case rel => exact ⟨k + 1, by omega, by go_num, by rw [hn.out], E6⟩
        case measure => simp [intOf]; omega
      · have hb : (n.kind == 1) = false := by simp [hkd]
        have hn : Hid ((L.take (k + 1)).countP M.innerB = (L.take k).countP M.innerB + 1) := Lib.hid (by rw [hnext.out, if_neg hkd])
        clear hkd
        go_wp2_with (first | (refine wpList_alloc_as 80 rfl rfl Z.toArray hZz.out ?_; rw [hnb'.out]) | (refine wpList_store_whole 80 rfl rfl rfl F rfl (by rw [hFl.out]; exact node_size) 80 _ (by rw [← hnb'.out]; exact heap_alloc_new _ _) (by simp [hFl.out, hZl.out]) hF1.out ?_; rw [hw6'.out]))
        go_roundw
        case rel => exact ⟨k + 1, by omega, by go_num, by rw [hn.out]; go_num, E6⟩
        case measure => simp [intOf]; omega
    · obtain rfl : k = L.length := by omega
      rw [List.take_length]
      have Ef := hI
      have cz0 : Hid (wr.cell? ⟨pb, 0, none⟩ = some (.pointer (some ⟨A.sb, 0, none⟩))) := Lib.hid (by have h1 := cell_of_heap hI.out.box 0; simpa using h1)
      obtain ⟨fr, hfr⟩ : ∃ fr, M.tidy.pool.freeCount = fr := ⟨_, rfl⟩
      have hfr' := Lib.hid hfr
      obtain ⟨cn, hcn⟩ : ∃ cn, L.countP M.innerB = cn := ⟨_, rfl⟩
      rw [hfr, hcn] at hcount
      rw [hcn]
      have hs2 : s ≤ 240 := by have h1 := hsz.out; have h2 := hs240.out; omega
      have hsz' : Hid (M.tidy.pool.size = s) := Lib.hid hsz.out
      have a1 : IntKind.i64.wrap ((s : Int) - (fr : Int)) = (s : Int) - (fr : Int) := by rw [IntKind.wrap_i64]; omega
      have a2 : IntKind.i64.wrap ((cn : Int) + (bl.length : Int)) = (cn : Int) + (bl.length : Int) := by rw [IntKind.wrap_i64]; omega
      have a3 : (((s : Int) - (fr : Int)) == (cn : Int) + (bl.length : Int)) = true := by simp; omega
      clear hI hfr hcn
      go_wp2_with fail
      refine wp_region_quiet (C := fun w' => Kept (fun _ => False) wr w') (by kernel_rfl) (by kernel_rfl) (Kept.refl _ _).drew ?_
      simp only []
      refine wpQuiet_step (fun K hK => ?_); go_simp; refine ⟨_, fun _ _ => rfl, hK _ ?_⟩; clear hK K
      refine wpQuiet_step (fun K hK => ?_); refine q_on rfl (q_val (.pointer (some ⟨A.sb, 0, none⟩)) (fun W hW => by have hc := hW.cell cz0.out id; clear hW; go_simp) (hK _ ?_)); clear hK K
      refine wpQuiet_step (fun K hK => ?_); go_simp; refine ⟨_, fun W hW => Calls.stay hW (storePool (Ef.out.fresh hW).to.store), hK _ ?_⟩; clear hK K
      refine wpQuiet_step (fun K hK => ?_); go_simp; refine ⟨_, fun W hW => Calls.stay hW (by have h := size_any (Ef.out.fresh hW).to.store.pool; rw [hsz'.out] at h; exact h), hK _ ?_⟩; clear hK K
      refine wpQuiet_step (fun K hK => ?_); go_simp; refine ⟨_, fun _ _ => rfl, hK _ ?_⟩; clear hK K
      refine wpQuiet_step (fun K hK => ?_); refine q_on rfl (q_val (.pointer (some ⟨A.sb, 0, none⟩)) (fun W hW => by have hc := hW.cell cz0.out id; clear hW; go_simp) (hK _ ?_)); clear hK K
      refine wpQuiet_step (fun K hK => ?_); go_simp; refine ⟨_, fun W hW => Calls.stay hW (storePool (Ef.out.fresh hW).to.store), hK _ ?_⟩; clear hK K
      refine wpQuiet_step (fun K hK => ?_); go_simp; refine ⟨_, fun W hW => Calls.stay hW (by have h := freeCount_any (Ef.out.fresh hW).to.store.pool; rw [hfr'.out] at h; exact h), hK _ ?_⟩; clear hK K
      refine wpQuiet_step (fun K hK => ?_); go_simp; refine ⟨_, fun _ _ => rfl, hK _ ?_⟩; clear hK K
      refine wpQuiet_step (fun K hK => ?_); go_simp; refine ⟨_, fun _ _ => rfl, hK _ ?_⟩; clear hK K
      refine wpQuiet_step (fun K hK => ?_); go_simp; refine ⟨_, fun _ _ => rfl, hK _ ?_⟩; clear hK K
      refine wpQuiet_step (fun K hK => ?_); go_simp; refine ⟨_, fun _ _ => rfl, hK _ ?_⟩; clear hK K
      refine wpQuiet_step (fun K hK => ?_); go_simp; refine ⟨_, fun _ _ => rfl, hK _ ?_⟩; clear hK K
      refine wpQuiet_step (fun K hK => ?_); go_simp; refine ⟨_, fun _ _ => rfl, hK _ ?_⟩; clear hK K
      refine wpQuiet_nil ?_
      intro wq hwq
      have fin : Hid (StoreTo A A M.tidy w wq) := Lib.hid (StoreTo.before k1'.out (Ef.out.fresh hwq).to)
      clear hwq
      go_wp2_with fail
      go_ret
      exact ⟨rfl, fin.out⟩
end Go.Proofs.YthmjcbmeiabbgaaGreat
/-
  What TreeBuilds gathers, plain.
-/
namespace Go.Proofs.YthmjcbmeiabbgaaGreat
open Go.RowKit

/-- The page that a number names. -/
def tbPage (ns : List Nat) (p : Int) : Int := ((ns.getD (max 0 (min p 3)).toNat 0 : Nat) : Int)
theorem tbPage_mem {ns : List Nat} (h : ns.length = 4) (p : Int) : ∃ b ∈ ns, tbPage ns p = ((b : Nat) : Int) := by
  have hi : (max 0 (min p 3)).toNat < ns.length := by omega
  refine ⟨ns[(max 0 (min p 3)).toNat], List.getElem_mem hi, ?_⟩
  unfold tbPage
  simp [List.getD, List.getElem?_eq_getElem hi]
theorem tbPage_get {ns : List Nat} (h : ns.length = 4) (p : Int) : (ns.map fun i => Value.int .i64 (i : Nat))[(max 0 (min p 3)).toNat]? = some (.int .i64 (tbPage ns p)) := by
  have hi : (max 0 (min p 3)).toNat < ns.length := by omega
  unfold tbPage
  simp [List.getD, List.getElem?_eq_getElem hi]
def tbE (ns : List Nat) (l : List (Int × Int)) : List (Int × Int) := (l.filter fun x => decide (0 ≤ x.1) && decide (x.1 ≤ 63)).map fun x => (x.1, tbPage ns x.2)
theorem tbE_take (ns : List Nat) {l : List (Int × Int)} {k : Nat} {x : Int × Int} (h : l[k]? = some x) : tbE ns (l.take (k + 1)) = tbE ns (l.take k) ++ (if 0 ≤ x.1 ∧ x.1 ≤ 63 then [(x.1, tbPage ns x.2)] else []) := by
  unfold tbE
  rw [List.take_add_one, h, List.filter_append, List.map_append]
  congr 1
  by_cases e : 0 ≤ x.1 ∧ x.1 ≤ 63
  · rw [if_pos e]; simp [e]
  · rw [if_neg e]
    have : (decide (0 ≤ x.1) && decide (x.1 ≤ 63)) = false := by
      rw [Bool.and_eq_false_iff]; simp only [decide_eq_false_iff_not]; omega
    show List.map _ (List.filter _ [x]) = []
    rw [List.filter_cons_of_neg (by rw [this]; decide)]
    rfl
theorem tbE_len (ns : List Nat) (l : List (Int × Int)) : (tbE ns l).length ≤ l.length := by unfold tbE; rw [List.length_map]; exact List.length_filter_le _ _
theorem tbE_in {ns : List Nat} (hn : ns.length = 4) {l : List (Int × Int)} {y : Int × Int} (h : y ∈ tbE ns l) : 0 ≤ y.1 ∧ y.1 < 64 ∧ ∃ b ∈ [0] ++ ns, y.2 = ((b : Nat) : Int) := by
  unfold tbE at h
  obtain ⟨i, hi, rfl⟩ := List.mem_map.1 h
  have := (List.mem_filter.1 hi).2
  simp only [Bool.and_eq_true, decide_eq_true_eq] at this
  obtain ⟨b, hb, e⟩ := tbPage_mem hn i.2
  exact ⟨this.1, by show i.1 < 64; omega, b, List.mem_append_right _ hb, e⟩
/-- The entries so far. -/
def tbW (ns : List Nat) (l : List (Int × Int)) : List (Int × Int) := (tbE ns l).foldl putL []
theorem tbW_take (ns : List Nat) {l : List (Int × Int)} {k : Nat} {x : Int × Int} (h : l[k]? = some x) : tbW ns (l.take (k + 1)) = if 0 ≤ x.1 ∧ x.1 ≤ 63 then putL (tbW ns (l.take k)) (x.1, tbPage ns x.2) else tbW ns (l.take k) := by
  unfold tbW
  rw [tbE_take ns h, List.foldl_append]
  by_cases e : 0 ≤ x.1 ∧ x.1 ≤ 63
  · rw [if_pos e, if_pos e]; rfl
  · rw [if_neg e, if_neg e]; rfl
theorem tbW_rises (ns : List Nat) (l : List (Int × Int)) : RisesK (tbW ns l) := by
  have key : ∀ (es a : List (Int × Int)), RisesK a → RisesK (es.foldl putL a) := by
    intro es
    induction es with
    | nil => intro a h; exact h
    | cons e es ih => intro a h; exact ih _ (putL_rises h e)
  exact key _ _ List.Pairwise.nil
theorem putL_length (l : List (Int × Int)) (hr : RisesK l) (x : Int × Int) : (putL l x).length ≤ l.length + 1 := by
  unfold putL
  rw [List.length_append, List.length_append, List.length_singleton]
  have h : (l.filter fun y => decide (y.1 < x.1)).length + (l.filter fun y => decide (x.1 < y.1)).length ≤ l.length := by
    clear hr
    induction l with
    | nil => exact Nat.le_refl _
    | cons z l ih =>
      rw [List.length_cons]
      rcases Int.lt_trichotomy z.1 x.1 with e | e | e
      · rw [List.filter_cons_of_pos (by simpa using e), List.filter_cons_of_neg (by simp; omega), List.length_cons]
        omega
      · rw [List.filter_cons_of_neg (by simp; omega), List.filter_cons_of_neg (by simp; omega)]
        omega
      · rw [List.filter_cons_of_neg (by simp; omega), List.filter_cons_of_pos (by simpa using e), List.length_cons]
        omega
  omega
end Go.Proofs.YthmjcbmeiabbgaaGreat
/-
  More blocks in a store without a tree, plain.
-/
namespace Go.Proofs.YthmjcbmeiabbgaaGreat
open Go.RowKit

theorem page_more {s : Nat} {bl : List Nat} {M : SM} {P : Nat} (h : OneTree Clean s bl M (-1) [] P) (hs : bl.length < s) (hbn : bl.Nodup) (b : Nat) (hb : b < 256) (h5 : bl.length ≤ 200) :
    ∃ (M1 M2 : SM) (i : Nat), M.make (dataN b) = (M1, (i : Int), 0) ∧ M1.hold (i : Int) = (M2, 0) ∧ OneTree Clean s (bl ++ [i]) M2 (-1) [] P ∧ i ∉ bl ∧ M2.log.length ≤ M.log.length + 1 := by
  have hfree := clean_free h.kk
  have hlive : M.liveN ≤ bl.length := liveN_list (fun q hq => reach_all h.exact h.loose (L := bl) (fun q _ hq => by
    unfold extB at hq
    rw [if_neg (by omega), Nat.add_zero] at hq
    exact List.count_pos_iff.1 hq) (fun q hq x hx => by
    obtain ⟨_, d, hd, _, hde⟩ := h.data q hq
    rw [ents_of hd, hde] at hx
    cases hx) q hq)
  have hsz := h.size
  rcases make_ok h.exact (n := dataN b) (dataN_ok b hb) (fun x hx => by cases hx) with ⟨i, e, mk⟩ | ⟨_, e⟩ | ⟨_, c, e⟩
  · obtain ⟨M1, hM1⟩ : ∃ M1, (M.make (dataN b)).1 = M1 := ⟨_, rfl⟩
    have hmk : M.make (dataN b) = (M1, (i : Int), 0) := by rw [← hM1]; exact Prod.ext rfl e
    have hK1 : Clean M1 := by rw [← hM1]; exact clean_closed.make (dataN b) h.kk
    rw [hM1] at mk
    have hc0 : M.pool.cnt i = 0 := by
      have hn := mk.new
      have hlt : i < M.pool.size := by have := live_lt mk.live; rw [mk.grown.size] at this; exact this
      unfold SM.live PM.live at hn
      by_cases hz : 0 < M.pool.cnt i
      · simp [hlt, hz] at hn
      · omega
    have hc1 : M1.pool.cnt i = 0 := by rw [mk.cnt i, hc0]; rfl
    obtain ⟨h1, E2, hl2⟩ := holdE_ok mk.exact mk.live (by omega)
    have hnot : i ∉ bl := fun hi => by
      have := (h.data i hi).1
      rw [mk.new] at this
      cases this
    have hlog1 : M1.log.length ≤ M.log.length + 1 := by rw [← hM1]; exact make_log M _
    refine ⟨M1, _, i, hmk, h1, ⟨exact_congr E2 (fun p _ => ?_), ?_, ?_, fun q hq => ?_, ⟨h.keys.1, fun y hy => by cases hy⟩, .inl ⟨rfl, rfl⟩, fun q hq hc => ?_⟩, hnot, hlog1⟩
    · unfold incE extB
      have hz : (if ((p : Nat) : Int) = -1 then 1 else 0) = 0 := if_neg (by omega)
      rw [hz, Nat.add_zero, Nat.add_zero, List.count_append, List.count_singleton]
      by_cases e : p = i
      · subst e; simp
      · have e' : ¬ (i == p) = true := by simp; exact fun z => e z.symm
        rw [if_neg e, if_neg e']
    · show M1.pool.size = s
      rw [mk.grown.size, hsz]
    · have := clean_closed.hold M1 (i : Int) hK1
      have e : M1.hold (i : Int) = (⟨M1.pool.holdTo (i : Int), M1.log⟩, M1.pool.holdErr (i : Int)) := rfl
      rw [e] at h1
      have e2 := (Prod.mk.inj h1).1
      rw [← e2]
      exact this
    · rcases List.mem_append.1 hq with hq | hq
      · obtain ⟨a, d, hd, hk⟩ := h.data q hq
        exact ⟨by rw [hl2]; exact mk.grown.live q a, d, by show M1.nodeAt q = _; rw [mk.grown.node q a]; exact hd, hk⟩
      · rw [List.mem_singleton] at hq
        subst hq
        exact ⟨by rw [hl2]; exact mk.live, _, mk.node, rfl, rfl⟩
    · rw [hl2] at hq
      by_cases e : q = i
      · subst e
        simp [PM.setCnt] at hc
      · have hc' : M1.pool.cnt q = 0 := by simpa [PM.setCnt, e] using hc
        rw [mk.cnt q] at hc'
        exact h.loose q ((mk.only q hq).resolve_left e) (by omega)
  · omega
  · exfalso
    have hsum : M.sum = 0 := by
      have := sumE_list (M := M) (L := bl) (fun q hq => reach_all h.exact h.loose (L := bl) (fun q _ hq => by
        unfold extB at hq
        rw [if_neg (by omega), Nat.add_zero] at hq
        exact List.count_pos_iff.1 hq) (fun q hq x hx => by
        obtain ⟨_, d, hd, _, hde⟩ := h.data q hq
        rw [ents_of hd, hde] at hx
        cases hx) q hq)
      rw [data_sum (fun b hb => by obtain ⟨_, d, hd, _, he⟩ := h.data b hb; exact ⟨d, hd, he⟩)] at this
      omega
    have hext : extB bl (-1) c ≤ 200 := by
      unfold extB
      rw [if_neg (by omega)]
      have : bl.count c ≤ bl.length := List.count_le_length
      omega
    rw [hsum] at e
    have : (dataN b).ents.length = 0 := rfl
    omega
end Go.Proofs.YthmjcbmeiabbgaaGreat
/-
  understudylaw10.pages: some more blocks in a store.
-/
namespace Go.Proofs.YthmjcbmeiabbgaaGreat
open Go.RowKit
set_option maxRecDepth 100000

theorem own_to {A A' : SA} {M' : SM} {W w' : World} (k : StoreTo A A' M' W w') {j : Nat} (hj : A'.own j) : A.own j ∨ W.heap.size ≤ j := by
  rcases hj with hj | hj | hj
  · exact (k.foot j hj).imp .inl id
  · rw [k.fix.2] at hj; exact .inl (.inr (.inl hj))
  · rw [k.fix.1] at hj; exact .inl (.inr (.inr hj))
/-- Where the loop stands. -/
structure PagesSt (w0 : World) (A0 A : SA) (M : SM) (bl ns : List Nat) (s n0 : Nat) (v : Value) (pb : Nat) (wr : World) : Prop where
  to : StoreTo A0 A M w0 wr
  one : OneTree Clean s (bl ++ ns) M (-1) [] 0
  nodup : (bl ++ ns).Nodup
  row : wr.ownsRow w0.heap.size 3 1 v ns.length (ns.map fun i => Value.int .i64 (i : Nat))
  off : ∀ b, v.ownBlock = some b → ¬ A.own b
  log : M.log.length ≤ n0 + ns.length
  box : wr.heap[pb]? = some (.cells #[.pointer (some ⟨A0.sb, 0, none⟩)] 26 (0, 0))
  safe : Safe wr A pb
theorem PagesSt.fresh {w0 wr w' : World} {A0 A : SA} {M : SM} {bl ns : List Nat} {s n0 : Nat} {v : Value} {pb : Nat} (h : PagesSt w0 A0 A M bl ns s n0 v pb wr) (k : Kept (fun _ => False) wr w') : PagesSt w0 A0 A M bl ns s n0 v pb w' :=
  ⟨h.to.fresh k, h.one, h.nodup, ownsRow.keptOf h.row k (fun _ _ => id), h.off, h.log, k.get h.box id, h.safe.fresh k⟩
theorem page_builds : ∀ k : Nat, k < 4 → (∀ w, (Instr.build 78 #[(0, .int .u8 (k : Int))]).run Tryz.prog w = .ok (.agg (blockCells (dataN k).block).toArray) w) ∧
    (∀ w, (Instr.build 80 #[(0, .int .i64 1), (1, .agg (blockCells (dataN k).block).toArray)]).run Tryz.prog w = .ok (.agg (nodeCells (dataN k) (.slice none 0 0)).toArray) w)
  | 0, _ => ⟨fun w => run_build _ _ _ _ (by kernel_rfl), fun w => run_build _ _ _ _ (by kernel_rfl)⟩
  | 1, _ => ⟨fun w => run_build _ _ _ _ (by kernel_rfl), fun w => run_build _ _ _ _ (by kernel_rfl)⟩
  | 2, _ => ⟨fun w => run_build _ _ _ _ (by kernel_rfl), fun w => run_build _ _ _ _ (by kernel_rfl)⟩
  | 3, _ => ⟨fun w => run_build _ _ _ _ (by kernel_rfl), fun w => run_build _ _ _ _ (by kernel_rfl)⟩
  | _ + 4, h => by omega
set_option maxHeartbeats 8000000 in
theorem pages10 {s : Nat} {bl : List Nat} {M : SM} (h : OneTree Clean s bl M (-1) [] 0) (hnd : bl.Nodup) (hs : bl.length + 4 ≤ s) (hb5 : bl.length ≤ 100) (hlog : M.log.length ≤ 1000) {w : World} {A : SA} (hS : StoreAt w A M) :
    Calls Tryz.prog 10 #[.agg #[.pointer (some ⟨A.sb, 0, none⟩)], .int .i64 4] w fun e w' => ∃ A' M' ns v, e = .returned (.tuple #[v, .bool true]) ∧ ns.length = 4 ∧ StoreTo A A' M' w w' ∧ OneTree Clean s (bl ++ ns) M' (-1) [] 0 ∧ (bl ++ ns).Nodup ∧
      w'.ownsRow w.heap.size 3 1 v 4 (ns.map fun i => Value.int .i64 (i : Nat)) ∧ (∀ b, v.ownBlock = some b → ¬ A'.own b) ∧ M'.log.length ≤ M.log.length + 4 := by
  obtain ⟨pb, hpb⟩ : ∃ pb, w.heap.size = pb := ⟨_, rfl⟩
  obtain ⟨w1, hw1⟩ : ∃ w1, w.alloc (.cells #[.pointer (some ⟨A.sb, 0, none⟩)] 26) = w1 := ⟨_, rfl⟩
  have k1 : Kept (fun _ => False) w w1 := by rw [← hw1]; exact (Kept.refl _ _).alloc _
  have q1 : w1.heap[pb]? = some (.cells #[.pointer (some ⟨A.sb, 0, none⟩)] 26 (0, 0)) := by rw [← hw1, ← hpb]; exact heap_alloc_new _ _
  have S1 := Lib.hid (hS.fresh k1)
  have hsafe : Hid (Safe w1 A pb) := Lib.hid (Safe.new hS (by omega) (lt_of_heap q1))
  have h' := Lib.hid h
  have hw1' := Lib.hid hw1
  have hpb' := Lib.hid hpb
  have k1' := Lib.hid k1
  have q1' := Lib.hid q1
  clear hw1 hpb k1 q1 h
  go_enter Tryz.func10, Tryz.ntmps10
  go_wp2_with (first | (refine wpList_box_named 26 rfl rfl _ rfl hw1'.out ?_; rw [hpb'.out]))
  have kq : Kept (fun _ => False) w1 (w1.alloc (.cells #[] 3)) := (Kept.refl _ _).alloc _
  have I0 : Hid (∃ A1 M1 ns, ns.length = 0 ∧ PagesSt w1 A A1 M1 bl ns s M.log.length (.slice (some ⟨w1.heap.size, 0, none⟩) 0 0) pb (w1.alloc (.cells #[] 3))) := Lib.hid ⟨A, M, [], rfl, (StoreTo.refl S1.out).fresh kq, by rw [List.append_nil]; exact h'.out, by rw [List.append_nil]; exact hnd, owns_empty w1 w1.heap.size w1.heap.size 3 1 (Nat.le_refl _) rfl, fun b hb => by
    simp [Value.ownBlock] at hb
    subst hb
    exact fun e => Nat.lt_irrefl _ (S1.out.lt e), Nat.le_refl _, kq.get q1'.out id, hsafe.out.fresh kq⟩
  clear kq
  go_loopw [6, 7] (fun v i wr => ∃ (k : Nat), k ≤ 4 ∧ i = .int .i64 k ∧ Hid (∃ A1 M1 ns, ns.length = k ∧ PagesSt w1 A A1 M1 bl ns s M.log.length v pb wr)) (fun _ i _ => 4 - (intOf i).toNat)
  case atStart => exact ⟨0, by omega, rfl, I0⟩
  case round =>
    obtain ⟨k, hk, rfl, hI⟩ := hrel
    obtain ⟨A1, M1, ns, hns, St⟩ := hI.out
    obtain ⟨_, Av, cv, rfl, hv1, hv2, _⟩ := SliceAt.of_owns St.row
    unfold maxLen at hv2
    by_cases hlt : k < 4
    · have hki : (k : Int) < 4 := by omega
      obtain ⟨M2, M3, i, e1, e2, one', hni, hlg⟩ := page_more St.one (by rw [List.length_append]; omega) St.nodup k (by omega) (by rw [List.length_append]; omega)
      have hmk := storeMake (n := dataN k) (sv := .slice none 0 0) St.to.store ⟨sliceNil (by decide), fun _ b hb => by simp [Value.ownBlock] at hb⟩ rfl (dataN_ok k (by omega)).2.2 (by have := St.log; omega)
      rw [e1, St.to.sb] at hmk
      dsimp only at hmk
      obtain ⟨hb1, hb2⟩ := page_builds k hlt
      obtain ⟨B, hB⟩ : ∃ B, blockCells (dataN k).block = B := ⟨_, rfl⟩
      obtain ⟨C, hC⟩ : ∃ C, nodeCells (dataN k) (.slice none 0 0) = C := ⟨_, rfl⟩
      rw [hB] at hb1 hb2
      rw [hC] at hb2 hmk
      have hmk' := Lib.hid hmk
      have hb1' := Lib.hid hb1
      have hb2' := Lib.hid hb2
      have hu8 : IntKind.u8.wrap (k : Int) = (k : Int) := by rw [IntKind.wrap_u8]; omega
      have cb := cell_of_heap St.box 0
      simp at cb
      have St' := Lib.hid St
      have one2 := Lib.hid one'
      have hns' := Lib.hid hns
      have hlg' := Lib.hid hlg
      have hni' := Lib.hid hni
      have e2' := Lib.hid e2
      clear hmk hb1 hb2 hB hC St one' hns hlg hni e1 e2 hI
      go_wp2_with (first | (refine wpList_exec rfl (exec_build 78 #[(0, .tmp 20)] _ rfl (by simp [Act.eval, Act.put]) (hb1'.out _)) ?_) | (refine wpList_exec rfl (exec_build 80 #[(0, .const (.int .i64 1)), (1, .tmp 21)] _ rfl (by simp [Act.eval, Act.put]) (hb2'.out _)) ?_))
      refine hmk'.out.mono ?_
      rintro e w5 ⟨A5, rfl, hT5⟩
      have T5 := Lib.hid hT5
      have cb5 := cell_of_heap (hT5.get St'.out.box St'.out.safe) 0
      simp at cb5
      have hh := storeHold hT5.store (i : Int)
      rw [e2'.out, hT5.sb, St'.out.to.sb] at hh
      dsimp only at hh
      have hh' := Lib.hid hh
      clear hT5 hh cb
      go_wp2_with fail
      refine hh'.out.mono ?_
      rintro e w6 ⟨rfl, hT6⟩
      have T56 := Lib.hid (T5.out.trans hT6)
      have row6 := Lib.hid (ownsRow.keptOf St'.out.row T56.out.kept (fun b hb e => St'.out.off b hb (.inl e)))
      have kA : Hid (Kept (fun _ => False) w6 (w6.alloc (.cells #[.int .i64 (i : Int)] 3))) := Lib.hid ((Kept.refl _ _).alloc _)
      have R5 := Lib.hid (ownsRow.keptOf row6.out kA.out (fun _ _ => id))
      have hsz5 : Hid (w1.heap.size ≤ (w6.alloc (.cells #[.int .i64 (i : Int)] 3)).heap.size) := Lib.hid (Nat.le_trans (Nat.le_trans St'.out.to.kept.size T56.out.kept.size) kA.out.size)
      have hnl : ns.length ≤ 4 := by have := hns'.out; omega
      clear hT6
      go_wp2_with (at_builtin; refine wpList_append_src rfl elemInt (.tmp 35) (.tmp 37) rfl (by rfl) (by rfl) R5.out (SliceAt.block_new (ys := [.int .i64 (i : Int)]) (m := 1) (heap_alloc_new _ _) (by rfl) (by decide)) (by intro c hc; simp at hc; subst hc; rfl) (by omega) (by omega) hsz5.out ?_; intro v2 w10 hown10 hg10 hat10)
      have fin : Hid (∃ A1 M1 ns, ns.length = k + 1 ∧ PagesSt w1 A A1 M1 bl ns s M.log.length v2 pb w10) := Lib.hid (by
        have hoff5 : ∀ b, (Value.slice Av ns.length cv).ownBlock = some b → ¬ A5.own b := fun b hb e => (own_to T56.out e).elim (St'.out.off b hb) fun h1 => by
          have := (St'.out.row.lt b hb).2
          omega
        have kg := Kept.of_grown hg10
        have S10 : StoreAt w10 A5 M3 := (T56.out.store.fresh kA.out).kept kg (fun j hj e => hoff5 j e hj)
        have T := St'.out.to.trans T56.out
        have k610 := (kA.out.mono (S' := fun j => (Value.slice Av ns.length cv).ownBlock = some j) (fun _ => False.elim)).trans kg
        have hpb1 : pb < w1.heap.size := hsafe.out.lt
        refine ⟨A5, M3, ns ++ [i], by rw [List.length_append, hns'.out]; rfl, ⟨S10, T.kept.trans_new k610 (fun j hj e => absurd hj (Nat.not_lt.2 (St'.out.row.lt j e).1)), fun j hj => (T.foot j hj), T.sb, T.fix⟩, by rw [← List.append_assoc]; exact one2.out, ?_, ?_, fun b hb => ?_, ?_, ?_, ?_⟩
        · rw [← List.append_assoc, List.nodup_append]
          exact ⟨St'.out.nodup, (by simp), fun a ha b hb e => by rw [List.mem_singleton.1 hb] at e; exact hni'.out (e ▸ ha)⟩
        · rw [List.length_append, List.map_append]
          exact hown10
        · rcases hat10 with e | e
          · exact hoff5 b (e ▸ hb)
          · rw [hb] at e
            have e' := Option.some.inj e
            exact fun h1 => by have := (T56.out.store.fresh kA.out).lt h1; omega
        · have h1 := St'.out.log
          have h2 := hlg'.out
          rw [List.length_append, List.length_singleton]
          omega
        · exact k610.get (T56.out.get St'.out.box St'.out.safe) (fun e => absurd hpb1 (Nat.not_lt.2 (St'.out.row.lt pb e).1))
        · exact ⟨Nat.lt_of_lt_of_le (St'.out.safe.to T56.out).lt k610.size, (St'.out.safe.to T56.out).off⟩)
      clear hown10 hg10 hat10
      go_wp2_with fail
      go_roundw
      case rel => exact ⟨k + 1, by omega, by go_num, fin⟩
      case measure => simp [intOf]; omega
    · obtain rfl : k = 4 := by omega
      have hsz1 := Lib.hid k1'.out.size
      have fin : Hid (∃ A' M' ns' v, (Value.slice Av ns.length cv) = v ∧ ns'.length = 4 ∧ StoreTo A A' M' w wr ∧ OneTree Clean s (bl ++ ns') M' (-1) [] 0 ∧ (bl ++ ns').Nodup ∧ wr.ownsRow w.heap.size 3 1 v 4 (ns'.map fun i => Value.int .i64 (i : Nat)) ∧ (∀ b, v.ownBlock = some b → ¬ A'.own b) ∧ M'.log.length ≤ M.log.length + 4) := Lib.hid ⟨A1, M1, ns, _, rfl, hns, StoreTo.before k1'.out St.to, St.one, St.nodup, by rw [← hns]; exact owns_le' St.row hsz1.out, St.off, by have := St.log; omega⟩
      clear St hI
      go_wp2_with fail
      go_ret2
      obtain ⟨A', M', ns', v, hv, f1, f2, f3, f4, f5, f6, f7⟩ := fin.out
      exact ⟨A', M', ns', v, by rw [← hv]; rfl, f1, f2, f3, f4, f5, f6, f7⟩
end Go.Proofs.YthmjcbmeiabbgaaGreat
/-
  Entries that are written out.
-/
namespace Go.Proofs.YthmjcbmeiabbgaaGreat
open Go.RowKit
set_option maxRecDepth 100000

/-- Entries that are written out. -/
theorem ents_new {w : World} {A : SA} {M : SM} (h : StoreAt w A M) (l : List (Int × Int)) (hl : l.length ≤ 1000) : StoreAt (w.alloc (.cells (entCells l).toArray 33)) A M ∧ EntsOff (w.alloc (.cells (entCells l).toArray 33)) A (.slice (some ⟨w.heap.size, 0, none⟩) l.length l.length) l := by
  refine ⟨h.fresh ((Kept.refl _ _).alloc _), SliceAt.block_new (heap_alloc_new _ _) (entCells_len _) (by unfold maxLen; omega), fun _ b hb => ?_⟩
  simp [Value.ownBlock] at hb
  subst hb
  exact ⟨by simp, fun e => Nat.lt_irrefl _ (h.lt (.inl e))⟩
end Go.Proofs.YthmjcbmeiabbgaaGreat
/-
  Layer 11's laws: the chapter's example.
-/
namespace Go.Proofs.YthmjcbmeiabbgaaGreat
open Go.RowKit
set_option maxRecDepth 100000

/-- A pruner's variable: a box with its store's address. -/
structure PrVar (wr : World) (A : SA) (b sb : Nat) : Prop where
  heap : wr.heap[b]? = some (.cells #[.pointer (some ⟨sb, 0, none⟩)] 52 (0, 0))
  safe : Safe wr A b
  eq : A.sb = sb
theorem PrVar.fresh {wr w' : World} {A : SA} {b sb : Nat} (h : PrVar wr A b sb) (k : Kept (fun _ => False) wr w') : PrVar w' A b sb := ⟨k.get h.heap id, h.safe.fresh k, h.eq⟩
theorem PrVar.to {wr w' : World} {A A' : SA} {M' : SM} {b sb : Nat} (h : PrVar wr A b sb) (k : StoreTo A A' M' wr w') : PrVar w' A' b sb := ⟨k.get h.heap h.safe, h.safe.to k, k.sb.trans h.eq⟩
theorem PrVar.load {wr : World} {A : SA} {b sb : Nat} (h : PrVar wr A b sb) : ∀ j v, [Value.pointer (some ⟨sb, 0, none⟩)][j]? = some v → wr.cell? ⟨b, 0 + j, none⟩ = some v := fun j v hj => by rw [Nat.zero_add, cell_of_heap h.heap]; simpa using hj
/-- The variable is made, and filled. -/
theorem PrVar.made {w wr : World} {A : SA} {M : SM} (h : OwnStore w A M wr) {b : Nat} (hb : wr.heap.size = b) :
    OwnStore w A M ((wr.alloc (.cells #[.pointer none] 52)).setRow b #[.pointer (some ⟨A.sb, 0, none⟩)]) ∧ PrVar ((wr.alloc (.cells #[.pointer none] 52)).setRow b #[.pointer (some ⟨A.sb, 0, none⟩)]) A b A.sb := by
  have k : Kept (fun _ => False) wr ((wr.alloc (.cells #[.pointer none] 52)).setRow b #[.pointer (some ⟨A.sb, 0, none⟩)]) := ((Kept.refl _ _).alloc _).setRowNew (by omega) _
  refine ⟨h.fresh k, ⟨by rw [← hb]; exact setRow_heap _ _ _ _ _ _ (heap_alloc_new _ _), Safe.new h.store (by omega) (by simp [World.setRow]; omega), rfl⟩⟩
def m11a : SM := (SM.build [(1, 0), (2, 0)] (madeM 26 9) (-1)).1
def m11b : SM := (m11a.cut 2 1).1
def m11c : SM := (m11b.cut 2 3).1
theorem m11_build : SM.build [(1, 0), (2, 0)] (madeM 26 9) (-1) = (m11a, 2, 0) := Prod.ext rfl (by kernel_rfl)
theorem m11_cut : m11a.cut 2 1 = (m11b, 1, true, 0) := Prod.ext rfl (by kernel_rfl)
theorem m11_cut2 : m11b.cut 2 3 = (m11c, 2, false, 0) := Prod.ext rfl (by kernel_rfl)
theorem m11_list : m11c.list 1 = ([(2, 0)], 0) := by kernel_rfl
theorem m11_log : m11a.log.length ≤ 100 ∧ m11b.log.length ≤ 100 := ⟨of_decide_eq_true (by kernel_rfl), of_decide_eq_true (by kernel_rfl)⟩
set_option maxHeartbeats 4000000 in
theorem alive11 (w : World) : Calls Tryz.prog 21 #[] w fun e w' => e = .returned (.bool true) ∧ Kept (fun _ => False) w w' := by
  have e1 := m11_build
  have e2 := m11_cut
  have e3 := m11_cut2
  have e4 := m11_list
  obtain ⟨hl1, hl2⟩ := m11_log
  generalize m11a = M1 at *
  generalize m11b = M2 at *
  generalize m11c = M3 at *
  have hm := made11 30 (by decide) (by decide) w
  rw [show (min (30 : Int) 244 - 4).toNat = 26 from by decide] at hm
  have hm' := Lib.hid hm
  have e1' := Lib.hid e1
  have e2' := Lib.hid e2
  have e3' := Lib.hid e3
  have e4' := Lib.hid e4
  clear e1 e2 e3 e4 hm
  go_enter Tryz.func21, Tryz.ntmps21
  go_wp2_with fail
  refine hm'.out.mono ?_
  rintro e w2 ⟨A, rfl, hA, hk, hn⟩
  obtain ⟨b, hb⟩ : ∃ b, w2.heap.size = b := ⟨_, rfl⟩
  have hO := PrVar.made (b := b) ⟨hA, hk, hn⟩ hb
  obtain ⟨w3, hw3⟩ : ∃ w3, (w2.alloc (.cells #[.pointer none] 52)).setRow b #[.pointer (some ⟨A.sb, 0, none⟩)] = w3 := ⟨_, rfl⟩
  rw [hw3] at hO
  obtain ⟨hO3, hT3⟩ := hO
  have hO3 := Lib.hid hO3
  have hT3 := Lib.hid hT3
  have hw3' := Lib.hid hw3
  have hb' := Lib.hid hb
  obtain ⟨sb, hsb⟩ : ∃ sb, A.sb = sb := ⟨_, rfl⟩
  rw [hsb] at hw3' hT3 ⊢
  clear hA hk hn hw3 hb
  go_wp2_with (first | (refine wpList_alloc_as 52 rfl rfl #[.pointer none] pruner_zero ?_; rw [hb'.out]) | (refine wpList_store_whole 52 rfl rfl rfl [.pointer (some ⟨sb, 0, none⟩)] rfl (by kernel_rfl) 52 #[.pointer none] (by rw [← hb'.out]; exact heap_alloc_new _ _) rfl (by intro c hc; simp at hc; subst hc; rfl) ?_; rw [hw3'.out]) | (refine wpList_load_agg 26 rfl rfl rfl _ Tryz.underlying26 rfl [.pointer (some ⟨sb, 0, none⟩)] (by kernel_rfl) hT3.out.load ?_))
  obtain ⟨hS4, hE4⟩ := ents_new hO3.out.store [(1, 0), (2, 0)] (by decide)
  have hB := treeBuild hS4 hE4 (by decide) (by show 1 + 100000 < 100000000; omega)
  rw [e1'.out, hT3.out.eq] at hB
  refine hB.mono ?_
  rintro e w5 ⟨A5, rfl, hT5⟩
  have hk4 : Kept (fun _ => False) w3 (w3.alloc (.cells (entCells [((1 : Int), (0 : Int)), (2, 0)]).toArray 33)) := (Kept.refl _ _).alloc _
  have hO5 := Lib.hid ((hO3.out.fresh hk4).to hT5)
  have hV5 := Lib.hid ((hT3.out.fresh hk4).to hT5)
  have hC := pruneCut hO5.out.store 2 1 (by show M1.log.length + 30 < 100000000; omega)
  rw [e2'.out, hV5.out.eq] at hC
  have hC' := Lib.hid hC
  clear hB hT5 hk4 hC hS4 hE4
  go_wp2_with (first | (refine wpList_load_agg 52 rfl rfl rfl _ Tryz.underlying52 rfl [.pointer (some ⟨sb, 0, none⟩)] (by kernel_rfl) hV5.out.load ?_))
  refine hC'.out.mono ?_
  rintro e w6 ⟨A6, rfl, hT6⟩
  have hO6 := Lib.hid (hO5.out.to hT6)
  have hV6 := Lib.hid (hV5.out.to hT6)
  have hC := pruneCut hO6.out.store 2 3 (by show M2.log.length + 30 < 100000000; omega)
  rw [e3'.out, hV6.out.eq] at hC
  have hC' := Lib.hid hC
  clear hC hT6
  go_wp2_with (first | (refine wpList_load_agg 52 rfl rfl rfl _ Tryz.underlying52 rfl [.pointer (some ⟨sb, 0, none⟩)] (by kernel_rfl) hV6.out.load ?_))
  refine hC'.out.mono ?_
  rintro e w7 ⟨A7, rfl, hT7⟩
  have hO7 := Lib.hid (hO6.out.to hT7)
  have hV7 := Lib.hid (hV6.out.to hT7)
  have hL := treeList hO7.out.store 1
  rw [e4'.out, hV7.out.eq] at hL
  have hL' := Lib.hid hL
  clear hL hT7
  go_wp2_with (first | (refine wpList_load_agg 26 rfl rfl rfl _ Tryz.underlying26 rfl [.pointer (some ⟨sb, 0, none⟩)] (by kernel_rfl) hV7.out.load ?_))
  refine hL'.out.mono ?_
  rintro e w8 ⟨v, rfl, hown, hk8⟩
  have hE8 : EntsAt w8 v [(2, 0)] := SliceAt.of_owns hown
  obtain ⟨Av, cap, rfl, _⟩ := EntsAt.form hE8
  obtain ⟨b8, off8, rfl, _, c1, c2⟩ := EntsAt.get hE8 (i := 0) (x := (2, 0)) rfl
  have hO8 := Lib.hid (hO7.out.fresh hk8)
  rw [Nat.zero_mul, Nat.add_zero] at c1
  clear hown hE8 hk8 c2
  go_wp2_with fail
  go_ret
  exact ⟨rfl, hO8.out.kept⟩
end Go.Proofs.YthmjcbmeiabbgaaGreat
/-
  TreeSplits: the walk.
-/
namespace Go.Proofs.YthmjcbmeiabbgaaGreat.treeSplits
open Go.RowKit
set_option maxRecDepth 100000

/-- A slice of ints that came in. -/
def IntsIn (w : World) (v : Value) (l : List Int) : Prop := ∃ A cap, v = .slice A l.length cap ∧ l.length ≤ cap ∧ cap ≤ maxLen ∧
    ∀ (i : Nat) (x : Int), l[i]? = some x → ∃ b off, A = some ⟨b, off, none⟩ ∧ b < w.heap.size ∧ w.cell? ⟨b, off + i, none⟩ = some (.int .i64 x)
/-- The entries so far, and the last key. -/
def step (s : List (Int × Int) × Int) (k : Int) : List (Int × Int) × Int := if s.2 < k ∧ k < 64 then (s.1 ++ [(k, 0)], k) else s
def upTo (l : List Int) (k : Nat) : List (Int × Int) × Int := (l.take k).foldl step ([], -1)
theorem upTo_succ {l : List Int} {k : Nat} {x : Int} (h : l[k]? = some x) : upTo l (k + 1) = step (upTo l k) x := by
  unfold upTo
  rw [List.take_add_one, h]
  simp
theorem upTo_len (l : List Int) : ∀ k, (upTo l k).1.length ≤ k
  | 0 => Nat.le_refl _
  | k + 1 => by
    cases h : l[k]? with
    | none =>
      have : upTo l (k + 1) = upTo l k := by unfold upTo; rw [List.take_add_one, h]; simp
      rw [this]
      exact Nat.le_succ_of_le (upTo_len l k)
    | some x =>
      rw [upTo_succ h]
      unfold step
      have := upTo_len l k
      split
      · rw [List.length_append, List.length_singleton]; omega
      · omega
theorem upTo_good (l : List Int) : ∀ k, RisesK (upTo l k).1 ∧ (∀ y ∈ (upTo l k).1, 0 ≤ y.1 ∧ y.1 < 64 ∧ y.1 ≤ (upTo l k).2 ∧ y.2 = 0) ∧ -1 ≤ (upTo l k).2 ∧ (upTo l k).2 < 64
  | 0 => ⟨List.Pairwise.nil, (fun y hy => by cases hy), by show (-1 : Int) ≤ -1; omega, by show (-1 : Int) < 64; omega⟩
  | k + 1 => by
    obtain ⟨h1, h2, h3, h4⟩ := upTo_good l k
    cases h : l[k]? with
    | none =>
      have : upTo l (k + 1) = upTo l k := by unfold upTo; rw [List.take_add_one, h]; simp
      rw [this]
      exact ⟨h1, h2, h3, h4⟩
    | some x =>
      rw [upTo_succ h]
      unfold step
      split
      · rename_i hc
        refine ⟨List.pairwise_append.2 ⟨h1, List.pairwise_singleton _ _, fun a ha b hb => ?_⟩, fun y hy => ?_, by dsimp only; omega, hc.2⟩
        · rw [List.mem_singleton.1 hb]
          have := h2 a ha
          show a.1 < x
          omega
        · rcases List.mem_append.1 hy with hy | hy
          · have := h2 y hy
            exact ⟨this.1, this.2.1, by dsimp only; omega, this.2.2.2⟩
          · rw [List.mem_singleton.1 hy]
            exact ⟨by dsimp only; omega, hc.2, Int.le_refl _, rfl⟩
      · exact ⟨h1, h2, h3, h4⟩

/-- What the split pages are. -/
def leaves (M : SM) (out : List (Int × Int)) (k : Nat) : List (Int × Int) := (out.take k).flatMap fun e => (M.get e.2).1.ents
theorem kids_leaves {m : Nat} {M : SM} : ∀ (es l : List (Int × Int)), Kids (Sub m M 1) es l → (es.flatMap fun e => (M.get e.2).1.ents) = l ∧
    ∀ e ∈ es, ∃ n x, M.get e.2 = (n, 0) ∧ n.kind = 2 ∧ n.ents[0]? = some x ∧ x.1 = e.1 ∧ n.ents.length ≤ 6
  | [], l, h => ⟨h.symm, fun e he => by cases he⟩
  | e :: es, l, ⟨a, b, x, h1, h2, h3, h4, h5⟩ => by
    obtain ⟨n, g1, g2, g3, g4, g5⟩ := leaf_get h2.1
    obtain ⟨i1, i2⟩ := kids_leaves es b h5
    refine ⟨by rw [List.flatMap_cons, i1, g1, g3, h1], fun f hf => ?_⟩
    rcases List.mem_cons.1 hf with rfl | hf
    · exact ⟨n, x, g1, g2, by rw [g3, ← h3, List.head?_eq_getElem?], h4, by rw [g3]; exact g5⟩
    · exact i2 f hf
theorem leaves_succ {M : SM} {out : List (Int × Int)} {k : Nat} {e : Int × Int} (h : out[k]? = some e) : leaves M out (k + 1) = leaves M out k ++ (M.get e.2).1.ents := by
  unfold leaves
  rw [List.take_add_one, h]
  simp
theorem leaves_len {M : SM} {out : List (Int × Int)} (h : ∀ e ∈ out, ∃ n x, M.get e.2 = (n, 0) ∧ n.kind = 2 ∧ n.ents[0]? = some x ∧ x.1 = e.1 ∧ n.ents.length ≤ 6) : ∀ k, (leaves M out k).length ≤ 6 * k
  | 0 => Nat.le_refl _
  | k + 1 => by
    have ih := leaves_len h k
    cases he : out[k]? with
    | none =>
      have : leaves M out (k + 1) = leaves M out k := by unfold leaves; rw [List.take_add_one, he]; simp
      rw [this]; omega
    | some e =>
      rw [leaves_succ he, List.length_append]
      obtain ⟨n, x, g1, _, _, _, g5⟩ := h e (List.mem_of_getElem? he)
      rw [g1]
      show _ + n.ents.length ≤ _
      omega
theorem split_facts {l : List Int} {E : List (Int × Int)} {k : Nat} (hE : (upTo l k).1 = E) (h12 : E.length ≤ 12) :
    ∃ M' out, (madeM 56 9).split ⟨2, zeros16, E⟩ = (M', out, 0) ∧ out.length = (if 6 < E.length then 2 else if 0 < E.length then 1 else 0) ∧ leaves M' out out.length = E ∧
      ∀ e ∈ out, ∃ n x, M'.get e.2 = (n, 0) ∧ n.kind = 2 ∧ n.ents[0]? = some x ∧ x.1 = e.1 ∧ n.ents.length ≤ 6 := by
  by_cases h0 : E.length = 0
  · have : E = [] := List.eq_nil_of_length_eq_zero h0
    subst this
    exact ⟨madeM 56 9, [], rfl, rfl, rfl, fun e he => by cases he⟩
  · have hg := upTo_good l k
    rw [hE] at hg
    have g : Good (madeM 56 9) E := ⟨hg.1, fun y hy => by
      have := hg.2.1 y hy
      exact ⟨this.1, this.2.1, by rw [this.2.2.2]; exact made_held 56 9 (by decide)⟩⟩
    have t : NTr (Sub 1 (madeM 56 9) 0) 0 ⟨2, zeros16, E⟩ E := .inl ⟨rfl, rfl, rfl⟩
    rcases split_ok (made_exact 56 9 (by decide) (by decide) (by decide)) t g (by show 1 ≤ E.length; omega) h12 with ⟨e, S⟩ | ⟨e, hf⟩ | ⟨e, c, hc⟩
    · have hK := S.kids (by decide) (by show 1 ≤ E.length; omega)
      obtain ⟨k1, k2⟩ := kids_leaves _ _ hK
      refine ⟨_, _, Prod.ext rfl (Prod.ext rfl e), ?_, ?_, k2⟩
      · rw [S.len]
        show (if 6 < E.length then 2 else 1) = _
        split
        · rfl
        · rw [if_pos (by omega)]
      · unfold leaves
        rw [List.take_length]
        exact k1
    · rw [made_free 56 9 (by decide)] at hf
      split at hf <;> omega
    · rw [made_sum] at hc
      have : extOne c ≤ 1 := by unfold extOne; split <;> omega
      have hc2 : 255 < 0 + E.length + extOne c := hc
      omega
end Go.Proofs.YthmjcbmeiabbgaaGreat.treeSplits
/-
  PruneDense: the walk.
-/
namespace Go.Proofs.YthmjcbmeiabbgaaGreat.pruneDense
open Go.RowKit
open treeSplits (IntsIn)
set_option maxRecDepth 100000

/-- A pruner's variable: a box with its store's address. -/
structure PrunerVar (wr : World) (A : SA) (b sb : Nat) : Prop where
  heap : wr.heap[b]? = some (.cells #[.pointer (some ⟨sb, 0, none⟩)] 52 (0, 0))
  safe : Safe wr A b
  eq : A.sb = sb
theorem PrunerVar.fresh {wr w' : World} {A : SA} {b sb : Nat} (h : PrunerVar wr A b sb) (k : Kept (fun _ => False) wr w') : PrunerVar w' A b sb := ⟨k.get h.heap id, h.safe.fresh k, h.eq⟩
theorem PrunerVar.to {wr w' : World} {A A' : SA} {M' : SM} {b sb : Nat} (h : PrunerVar wr A b sb) (k : StoreTo A A' M' wr w') : PrunerVar w' A' b sb := ⟨k.get h.heap h.safe, h.safe.to k, k.sb.trans h.eq⟩
theorem PrunerVar.load {wr : World} {A : SA} {b sb : Nat} (h : PrunerVar wr A b sb) : ∀ j v, [Value.pointer (some ⟨sb, 0, none⟩)][j]? = some v → wr.cell? ⟨b, 0 + j, none⟩ = some v := fun j v hj => by rw [Nat.zero_add, cell_of_heap h.heap]; simpa using hj
theorem PrunerVar.c0 {wr : World} {A : SA} {b sb : Nat} (h : PrunerVar wr A b sb) : wr.cell? ⟨b, 0, none⟩ = some (.pointer (some ⟨sb, 0, none⟩)) := by rw [cell_of_heap h.heap]; rfl

/-- The entries that the tree is built of. -/
def seqE (k : Nat) : List (Int × Int) := (List.range k).map fun (i : Nat) => ((i : Int), (0 : Int))
theorem seqE_succ (k : Nat) : seqE (k + 1) = seqE k ++ [((k : Int), 0)] := by unfold seqE; rw [List.range_succ, List.map_append]; rfl
theorem seqE_len (k : Nat) : (seqE k).length = k := by unfold seqE; rw [List.length_map, List.length_range]
theorem seqE_in {k : Nat} {y : Int × Int} (h : y ∈ seqE k) : 0 ≤ y.1 ∧ y.1 < (k : Int) ∧ y.2 = 0 := by
  unfold seqE at h
  obtain ⟨i, hi, rfl⟩ := List.mem_map.1 h
  rw [List.mem_range] at hi
  exact ⟨by show (0 : Int) ≤ (i : Int); omega, by show (i : Int) < (k : Int); omega, rfl⟩
theorem one_start {s : Nat} (h0 : 0 < s) (h : s ≤ 240) : OneTree Clean s [0] (madeM s 9) (-1) [] 0 := by
  refine ⟨exact_congr (made_exact s 9 h0 h (by decide)) (fun p _ => ?_), rfl, fun q => ?_, fun b hb => ?_, ⟨List.Pairwise.nil, fun y hy => by cases hy⟩, .inl ⟨rfl, rfl⟩, made_loose s 9 h0 []⟩
  · unfold extB extOne
    rw [show (if (p : Int) = -1 then 1 else 0) = 0 from if_neg (by omega), Nat.add_zero, List.count_singleton]
    by_cases e : p = 0
    · rw [if_pos e, if_pos (by simp [e])]
    · rw [if_neg e, if_neg (by simp; exact fun e' => e e'.symm)]
  · unfold madeM PM.setCnt PM.setSt PM.fresh0
    dsimp only
    by_cases e : q = 0
    · simp [e]
    · simp [e]
  · rw [List.mem_singleton] at hb
    subst hb
    exact ⟨by rw [made_live s 9 0 h0]; rfl, _, made_node s 9, rfl, rfl⟩
/-- The build, step by step. -/
theorem seq_build : ∀ (n k : Nat) {M : SM} {root : Int}, OneTree Clean 196 [0] M root (seqE k) k → AscSt M root (seqE k) k → k + n ≤ 64 →
    ∃ M' root', SM.build ((seqE (k + n)).drop k) M root = (M', root', 0) ∧ OneTree Clean 196 [0] M' root' (seqE (k + n)) (k + n) ∧ AscSt M' root' (seqE (k + n)) (k + n) ∧ M'.log.length ≤ M.log.length + 22 * n
  | 0, k, M, root, h, hA, _ => ⟨M, root, by rw [Nat.add_zero, List.drop_eq_nil_of_le (by rw [seqE_len]; exact Nat.le_refl _)]; rfl, h, hA, Nat.le_refl _⟩
  | n + 1, k, M, root, h, hA, hk => by
    have hmax : ∀ y ∈ seqE k, y.1 < (k : Int) := fun y hy => (seqE_in hy).2.1
    have hput : putL (seqE k) ((k : Int), 0) = seqE (k + 1) := by rw [putL_end hmax, seqE_succ]
    obtain ⟨e1, e2, hI, _⟩ := one_put h clean_besides (by omega) (by decide) (by decide) (key := (k : Int)) (page := 0) (by omega) (by omega) ⟨0, List.mem_singleton.2 rfl, rfl⟩
    have hA2 := asc_put h (by decide) hA (by omega) (key := (k : Int)) (by omega) (by omega) hmax hI
    rw [hput] at hI hA2
    have hl1 := put_log M root (k : Int) 0
    have hl2 := swap_log (M.put root (k : Int) 0).1 root (M.put root (k : Int) 0).2.1
    obtain ⟨M', root', e3, hI', hA', hl⟩ := seq_build n (k + 1) hI hA2 (by omega)
    rw [show k + 1 + n = k + (n + 1) by omega] at e3 hI' hA'
    refine ⟨M', root', ?_, hI', hA', by rw [hl2] at hl; omega⟩
    have hd : (seqE (k + (n + 1))).drop k = ((k : Int), 0) :: (seqE (k + (n + 1))).drop (k + 1) := by
      have hlt : k < (seqE (k + (n + 1))).length := by rw [seqE_len]; omega
      rw [List.drop_eq_getElem_cons hlt]
      congr 1
      simp only [seqE, List.getElem_map, List.getElem_range]
    rw [hd, build_cons]
    dsimp only
    rw [if_pos e1, if_pos e2, e3]
theorem build_64 : ∃ M root, SM.build (seqE 64) (madeM 196 9) (-1) = (M, root, 0) ∧ OneTree Clean 196 [0] M root (seqE 64) 64 ∧ DenseAt M root (seqE 64) ∧ M.log.length ≤ 2000 := by
  obtain ⟨M, root, e, h, hA, hl⟩ := seq_build 64 0 (one_start (s := 196) (by decide) (by decide)) (.inl ⟨rfl, rfl, rfl⟩) (by decide)
  rw [Nat.zero_add] at e h hA
  refine ⟨M, root, e, h, asc_dense hA, ?_⟩
  have : (madeM 196 9).log.length = 1 := rfl
  omega
/-- What holds behind the build, and each cut. -/
structure DenseSt (w1 : World) (pb sb : Nat) (root : Int) (A : SA) (M : SM) (l : List (Int × Int)) (wr : World) : Prop where
  own : OwnStore w1 A M wr
  pv : PrunerVar wr A pb sb
  one : OneTree Clean 196 [0] M root l 64
  dense : DenseAt M root l
theorem dense_trim {M : SM} {root : Int} {l : List (Int × Int)} (h : OneTree Clean 196 [0] M root l 64) (hD : DenseAt M root l) {key : Int} (k0 : 0 ≤ key) (k1 : key < 64) :
    (SM.trim [key] M root).2.2 = 0 ∧ ∃ l', OneTree Clean 196 [0] (SM.trim [key] M root).1 (SM.trim [key] M root).2.1 l' 64 ∧ DenseAt (SM.trim [key] M root).1 (SM.trim [key] M root).2.1 l' := by
  rw [trim_cons]
  rcases one_cut h clean_besides (by decide) (by decide) (by decide) k0 k1 with ⟨e, _, _⟩ | ⟨e1, e2, _, _, e3, e4⟩
  · rw [e]
    exact ⟨rfl, l, h, hD⟩
  · have hd := dense_cut h (by decide) (by decide) hD k0 k1 e2 e4
    rw [if_pos e1, if_pos e2, if_pos e3]
    exact ⟨rfl, _, e4, hd⟩

end Go.Proofs.YthmjcbmeiabbgaaGreat.pruneDense
/-
  PruneCuts: the walk.
-/
namespace Go.Proofs.YthmjcbmeiabbgaaGreat.pruneCuts
open Go.RowKit
open pruneDense (PrunerVar one_start)
set_option maxRecDepth 100000

/-- Acts that came in. -/
def ActsIn (w : World) (v : Value) (l : List (Int × Int)) : Prop := ∃ A cap, v = .slice A l.length cap ∧ l.length ≤ cap ∧ cap ≤ maxLen ∧
    ∀ i x, l[i]? = some x → ∃ b off, A = some ⟨b, off, none⟩ ∧ b < w.heap.size ∧ w.cell? ⟨b, off + i * 2, none⟩ = some (.int .i64 x.1) ∧ w.cell? ⟨b, off + i * 2 + 1, none⟩ = some (.int .i64 x.2)
/-- What holds behind each act. -/
structure CutSt (w1 : World) (pb sb : Nat) (root : Int) (A : SA) (M : SM) (W : List (Int × Int)) (wv : Value) (k : Nat) (wr : World) : Prop where
  own : OwnStore w1 A M wr
  pv : PrunerVar wr A pb sb
  one : OneTree Clean 196 [0] M root W k
  out : OutAt wr A w1.heap.size wv W
  log : M.log.length ≤ 2000 + 50 * k
section
variable {w1 wr w' : World} {pb sb : Nat} {root : Int} {A A' : SA} {M M' : SM} {W : List (Int × Int)} {wv : Value} {k : Nat}
theorem CutSt.fresh (h : CutSt w1 pb sb root A M W wv k wr) (q : Kept (fun _ => False) wr w') : CutSt w1 pb sb root A M W wv k w' := ⟨h.own.fresh q, h.pv.fresh q, h.one, h.out.fresh q, h.log⟩
end
theorem cut_less : ∀ {l : List (Int × Int)} {y : Int × Int} {key : Int}, y ∈ l → y.1 = key → (cutL l key).length < l.length
  | z :: l, y, key, hy, he => by
    unfold cutL
    by_cases hz : z.1 = key
    · rw [List.filter_cons_of_neg (by simp [hz]), List.length_cons]
      exact Nat.lt_succ_of_le (List.length_filter_le _ _)
    · rw [List.filter_cons_of_pos (by simp [hz]), List.length_cons, List.length_cons]
      have hy' : y ∈ l := by
        rcases List.mem_cons.1 hy with e | e
        · exact absurd (e ▸ he) hz
        · exact e
      exact Nat.succ_lt_succ (cut_less hy' he)
theorem OneTree.more {K : SM → Prop} {s : Nat} {bl : List Nat} {M : SM} {root : Int} {l : List (Int × Int)} {P : Nat} (h : OneTree K s bl M root l P) : OneTree K s bl M root l (P + 1) :=
  ⟨h.exact, h.size, h.kk, h.data, h.keys, h.root.imp id fun ⟨k, t, j⟩ => ⟨k, t, Led.weak j (Nat.le_succ _)⟩, h.loose⟩

set_option maxHeartbeats 8000000 in
theorem walkIn {w : World} (va : Value) (l : List (Int × Int)) (hl : ActsIn w va l) : Calls Tryz.prog 5 #[va] w fun e w' => e = .returned (.bool true) ∧ Kept (fun _ => False) w w' := by
  obtain ⟨Aa, ca, rfl, hc1, hc2, hget⟩ := hl
  unfold maxLen at hc2
  have hget' := Lib.hid hget
  clear hget
  by_cases hlong : 120 < l.length
  · have hb : decide ((120 : Int) < (l.length : Int)) = true := by rw [decide_eq_true_eq]; omega
    clear hlong
    go_enter Tryz.func5, Tryz.ntmps5
    go_wp2_with fail
    refine (alive11 _).mono ?_
    rintro e w1 ⟨rfl, k1⟩
    have k1' := Lib.hid k1
    clear k1
    go_wp2_with fail
    go_ret
    exact ⟨rfl, k1'.out⟩
  have hshort : l.length ≤ 120 := by omega
  have hb : decide ((120 : Int) < (l.length : Int)) = false := by rw [decide_eq_false_iff_not]; omega
  have hm := fun w => made11 200 (by decide) (by decide) w
  rw [show (min (200 : Int) 244 - 4).toNat = 196 from by decide] at hm
  have hm' := Lib.hid hm
  clear hm hlong
  go_enter Tryz.func5, Tryz.ntmps5
  go_wp2_with fail
  refine (alive11 _).mono ?_
  rintro e w1 ⟨rfl, k1⟩
  have k1' := Lib.hid k1
  clear k1
  go_wp2_with fail
  refine (hm'.out _).mono ?_
  rintro e w2 ⟨A, rfl, hA, hk, hn⟩
  have O2 : OwnStore w1 A (madeM 196 9) w2 := ⟨hA, hk, hn⟩
  obtain ⟨sb, hsb⟩ : ∃ sb, A.sb = sb := ⟨_, rfl⟩
  obtain ⟨pb, hpb⟩ : ∃ pb, w2.heap.size = pb := ⟨_, rfl⟩
  obtain ⟨w3, hw3⟩ : ∃ w3, (w2.alloc (.cells #[.pointer none] 52)).setRow pb #[.pointer (some ⟨sb, 0, none⟩)] = w3 := ⟨_, rfl⟩
  have k3 : Kept (fun _ => False) w2 w3 := by rw [← hw3]; exact ((Kept.refl _ _).alloc _).setRowNew (by omega) _
  have q3 : w3.heap[pb]? = some (.cells #[.pointer (some ⟨sb, 0, none⟩)] 52 (0, 0)) := by rw [← hw3, ← hpb]; exact setRow_heap _ _ _ _ _ _ (heap_alloc_new _ _)
  have O3 := Lib.hid (O2.fresh k3)
  have V3 : Hid (PrunerVar w3 A pb sb) := Lib.hid ⟨q3, Safe.new hA (by omega) (lt_of_heap q3), hsb⟩
  have hw3' := Lib.hid hw3
  have hpb' := Lib.hid hpb
  rw [hsb]
  clear hA hk hn O2 k3 q3 hw3 hpb hsb
  go_wp2_with (first | (refine wpList_alloc_as 52 rfl rfl #[.pointer none] pruner_zero ?_; rw [hpb'.out]) | (refine wpList_store_whole 52 rfl rfl rfl [.pointer (some ⟨sb, 0, none⟩)] rfl (by kernel_rfl) 52 #[.pointer none] (by rw [← hpb'.out]; exact heap_alloc_new _ _) rfl (by intro c hc; simp at hc; subst hc; rfl) ?_; rw [hw3'.out]))
  have I4 : Hid (∃ A M W, CutSt w1 pb sb (-1) A M W (.slice (some ⟨w3.heap.size, 0, none⟩) 0 0) 0 (w3.alloc (.cells #[] 33))) := Lib.hid ⟨A, madeM 196 9, [], by
    have kq : Kept (fun _ => False) w3 (w3.alloc (.cells #[] 33)) := (Kept.refl _ _).alloc _
    exact ⟨O3.out.fresh kq, V3.out.fresh kq, one_start (by decide) (by decide), ⟨owns_empty w3 w1.heap.size w3.heap.size 33 2 O3.out.kept.size rfl, fun b hb => by
      simp [Value.ownBlock] at hb
      subst hb
      exact fun e => Nat.lt_irrefl _ (O3.out.store.lt (.inl e))⟩, by show 1 ≤ 2000 + 50 * 0; omega⟩⟩
  go_loopw [6, 7, 38] (fun r v i wr => ∃ (k : Nat) (root : Int), k ≤ l.length ∧ i = .int .i64 k ∧ r = .int .i64 root ∧ Hid (∃ A M W, CutSt w1 pb sb root A M W v k wr)) (fun _ _ i _ => l.length - (intOf i).toNat)
  case atStart => exact ⟨0, -1, Nat.zero_le _, rfl, rfl, I4⟩
  case round =>
    obtain ⟨k, root, hk, rfl, rfl, hI⟩ := hrel
    by_cases hlt : k < l.length
    · obtain ⟨x, hx⟩ : ∃ x, l[k]? = some x := ⟨_, List.getElem?_eq_getElem hlt⟩
      obtain ⟨eb, eo, rfl, heb, hx0, hx1⟩ := hget'.out k x hx
      obtain ⟨A, M, W, St⟩ := hI.out
      obtain ⟨Aw, cw, rfl, hw1, hw2⟩ := St.out.ents.at_.form
      unfold maxLen at hw2
      have kw := k1'.out.trans St.own.kept
      have hki : (k : Int) < (l.length : Int) := by omega
      have hlo : Hid (∀ i v, [Value.int .i64 x.1, .int .i64 x.2][i]? = some v → wr.cell? ⟨eb, eo + k * 2 + i, none⟩ = some v) := Lib.hid (fun i v hi => by
        match i, hi with
        | 0, hi => cases hi; exact kw.cell hx0 id
        | 1, hi => cases hi; exact kw.cell hx1 id)
      obtain ⟨xb, hxb⟩ : ∃ xb, wr.heap.size = xb := ⟨_, rfl⟩
      obtain ⟨wx, hwx⟩ : ∃ wx, (wr.alloc (.cells #[.int .i64 0, .int .i64 0] 56)).setRow xb #[.int .i64 x.1, .int .i64 x.2] = wx := ⟨_, rfl⟩
      have kx : Kept (fun _ => False) wr wx := by rw [← hwx]; exact ((Kept.refl _ _).alloc _).setRowNew (by omega) _
      have qx : wx.heap[xb]? = some (.cells #[.int .i64 x.1, .int .i64 x.2] 56 (0, 0)) := by rw [← hwx, ← hxb]; exact setRow_heap _ _ _ _ _ _ (heap_alloc_new _ _)
      have qx' := Lib.hid qx
      have cx0 : wx.cell? ⟨xb, 0, none⟩ = some (.int .i64 x.1) := by rw [cell_of_heap qx]; rfl
      have cx1 : wx.cell? ⟨xb, 1, none⟩ = some (.int .i64 x.2) := by rw [cell_of_heap qx]; rfl
      have Sx := Lib.hid (St.fresh kx)
      have hsx : Hid (Safe wx A xb) := Lib.hid (Safe.new St.own.store (by omega) (lt_of_heap qx))
      have hxb' := Lib.hid hxb
      have hwx' := Lib.hid hwx
      have hW64 : Hid (W.length ≤ 64) := Lib.hid St.one.len
      have Ox := Lib.hid Sx.out.own
      have Px := Lib.hid Sx.out.pv
      have Ux := Lib.hid Sx.out.out
      have Nx := Lib.hid Sx.out.one
      have keep : Hid (∀ A' M' W' V wz, OwnStore w1 A' M' wz → PrunerVar wz A' pb sb → OutAt wz A' w1.heap.size V W' → M' = M ∧ W' = W → ∃ A M W, CutSt w1 pb sb root A M W V (k + 1) wz) := Lib.hid (fun A' M' W' V wz o p u e => by obtain ⟨rfl, rfl⟩ := e; exact ⟨A', M', W', o, p, OneTree.more Nx.out, u, by have := Sx.out.log; omega⟩)
      clear hx hx0 hx1 kw kx qx hxb hwx St hI
      by_cases hk0 : x.1 = 0
      · have hx0e : (x.1 == 0) = true := by simp [hk0]
        have hP := treePut Ox.out.store root x.2 0 (by have := Sx.out.log; omega)
        rw [Px.out.eq] at hP
        have hldx := Lib.hid Px.out.load
        clear hk0
        by_cases hr : x.2 < 0 ∨ 63 < x.2
        · rw [put_bad M root 0 hr] at hP
          dsimp only at hP
          have hP' := Lib.hid hP
          have hr' := Lib.hid hr
          clear hP hr
          go_wp2_with (first | (refine wpList_load_agg 56 rfl rfl rfl _ Tryz.underlying56 rfl [.int .i64 x.1, .int .i64 x.2] (by kernel_rfl) hlo.out ?_) | (refine wpList_alloc_as 56 rfl rfl #[.int .i64 0, .int .i64 0] (by kernel_rfl) ?_; rw [hxb'.out]) | (refine wpList_store_whole 56 rfl rfl rfl [.int .i64 x.1, .int .i64 x.2] rfl (by kernel_rfl) 56 #[.int .i64 0, .int .i64 0] (by rw [← hxb'.out]; exact heap_alloc_new _ _) rfl (by intro c hc; simp at hc; rcases hc with rfl | rfl <;> rfl) ?_; rw [hwx'.out]) | (refine wpList_load_agg 26 rfl rfl rfl _ Tryz.underlying26 rfl [.pointer (some ⟨sb, 0, none⟩)] (by kernel_rfl) hldx.out ?_))
          refine hP'.out.mono ?_
          rintro e wp ⟨A1, rfl, hT⟩
          have cp1 := cell_of_heap (hT.get qx'.out hsx.out) 1
          simp at cp1
          have O1 := Lib.hid (Ox.out.to hT)
          have P1 := Lib.hid (Px.out.to hT)
          have U1 := Lib.hid (Ux.out.to hT)
          clear hT
          go_wp2_with fail
          refine (refPutBad10 (x.2, 0) hr'.out).mono ?_
          rintro e wq ⟨rfl, hkq⟩
          have O2 := Lib.hid (O1.out.fresh hkq)
          have P2 := Lib.hid (P1.out.fresh hkq)
          have U2 := Lib.hid (U1.out.fresh hkq)
          clear hkq
          have hL := treeList O2.out.store root
          rw [Nx.out.list (by omega), P2.out.eq] at hL
          dsimp only at hL
          have hL' := Lib.hid hL
          have hldL := Lib.hid P2.out.load
          clear hL
          go_wp2_with (first | (refine wpList_load_agg 26 rfl rfl rfl _ Tryz.underlying26 rfl [.pointer (some ⟨sb, 0, none⟩)] (by kernel_rfl) hldL.out ?_))
          refine hL'.out.mono ?_
          rintro e wl ⟨vl, rfl, hownl, hkl⟩
          obtain ⟨Al, cl, rfl, hl1, hl2⟩ := EntsAt.form (show EntsAt wl vl W from SliceAt.of_owns hownl)
          unfold maxLen at hl2
          have OL := Lib.hid (O2.out.fresh hkl)
          have PL := Lib.hid (P2.out.fresh hkl)
          have UL := Lib.hid (U2.out.fresh hkl)
          have hS := same10 (show EntsAt wl (.slice Al W.length cl) W from SliceAt.of_owns hownl) UL.out.ents.at_ (by have := hW64.out; omega)
          rw [decide_eq_true (rfl : W = W)] at hS
          have hS' := Lib.hid hS
          have hkl' := Lib.hid hkl
          clear hS hownl hkl
          go_wp2_with fail
          refine hS'.out.mono ?_
          rintro e wm ⟨rfl, hkm⟩
          have hkm' := Lib.hid hkm
          clear hkm
          go_wp2_with fail
          go_roundw
          case rel => exact ⟨k + 1, root, by omega, by go_num, rfl, Lib.hid (keep.out _ _ _ _ _ (OL.out.fresh hkm'.out) (PL.out.fresh hkm'.out) (UL.out.fresh hkm'.out) ⟨rfl, rfl⟩)⟩
          case measure => simp [intOf]; omega
        · obtain ⟨p1, p2, p3, p4⟩ := one_put Nx.out clean_besides (by omega) (by decide) (by decide) (key := x.2) (page := 0) (by omega) (by omega) ⟨0, List.mem_singleton.2 rfl, rfl⟩
          have hlg := put_log M root x.2 0
          obtain ⟨R, hR⟩ : ∃ R, M.put root x.2 0 = R := ⟨_, rfl⟩
          rw [hR] at hP p1 p2 p3 p4 hlg
          obtain ⟨M1, next, er⟩ := R
          dsimp only at hP p1 p2 p3 p4 hlg
          subst p1
          have hlog1 : Hid (M1.log.length ≤ 2000 + 50 * k + 22) := Lib.hid (by have := Sx.out.log; omega)
          have hkey : Hid (0 ≤ x.2 ∧ x.2 ≤ 63) := Lib.hid (by omega)
          have hP' := Lib.hid hP
          have hsw0 := Lib.hid p2
          have hlist1 := Lib.hid p4
          have hrise := Lib.hid Nx.out.keys.1
          obtain ⟨W2, hW2e⟩ : ∃ W2, putL W (x.2, 0) = W2 := ⟨_, rfl⟩
          rw [hW2e] at p3
          have one' := Lib.hid p3
          have hW2e' := Lib.hid hW2e
          clear hP hR p2 p3 p4 hlg hr hW2e
          go_wp2_with (first | (refine wpList_load_agg 56 rfl rfl rfl _ Tryz.underlying56 rfl [.int .i64 x.1, .int .i64 x.2] (by kernel_rfl) hlo.out ?_) | (refine wpList_alloc_as 56 rfl rfl #[.int .i64 0, .int .i64 0] (by kernel_rfl) ?_; rw [hxb'.out]) | (refine wpList_store_whole 56 rfl rfl rfl [.int .i64 x.1, .int .i64 x.2] rfl (by kernel_rfl) 56 #[.int .i64 0, .int .i64 0] (by rw [← hxb'.out]; exact heap_alloc_new _ _) rfl (by intro c hc; simp at hc; rcases hc with rfl | rfl <;> rfl) ?_; rw [hwx'.out]) | (refine wpList_load_agg 26 rfl rfl rfl _ Tryz.underlying26 rfl [.pointer (some ⟨sb, 0, none⟩)] (by kernel_rfl) hldx.out ?_))
          refine hP'.out.mono ?_
          rintro e wp ⟨A1, rfl, hT⟩
          have cp1 := cell_of_heap (hT.get qx'.out hsx.out) 1
          simp at cp1
          have O1 := Lib.hid (Ox.out.to hT)
          have P1 := Lib.hid (Px.out.to hT)
          have U1 := Lib.hid (Ux.out.to hT)
          have hRf := refPut10 U1.out.ents.at_ (by have := hW64.out; omega) (x.2, 0) hkey.out
          rw [refPut_eq hrise.out, hW2e'.out] at hRf
          have hRf' := Lib.hid hRf
          clear hT hRf
          go_wp2_with fail
          refine hRf'.out.mono ?_
          rintro e wq ⟨v, rfl, hownq, hkq⟩
          obtain ⟨Av, cv, rfl, hv1, hv2⟩ := EntsAt.form (show EntsAt wq v W2 from SliceAt.of_owns hownq)
          unfold maxLen at hv2
          have O2 := Lib.hid (O1.out.fresh hkq)
          have P2 := Lib.hid (P1.out.fresh hkq)
          have U2 := Lib.hid (U1.out.fresh hkq)
          have V2 : Hid (OutAt wq A1 w1.heap.size (.slice Av W2.length cv) W2) := Lib.hid ⟨owns_le' hownq O1.out.kept.size, fun b hb e => absurd (O1.out.store.lt (.inl e)) (Nat.not_lt.2 (hownq.lt b hb).1)⟩
          have cq1 := hkq.cell cp1 id
          clear hownq hkq
          have hL := treeList O2.out.store root
          rw [hlist1.out, P2.out.eq] at hL
          dsimp only at hL
          have hL' := Lib.hid hL
          have hldL := Lib.hid P2.out.load
          clear hL
          go_wp2_with (first | (refine wpList_load_agg 26 rfl rfl rfl _ Tryz.underlying26 rfl [.pointer (some ⟨sb, 0, none⟩)] (by kernel_rfl) hldL.out ?_))
          refine hL'.out.mono ?_
          rintro e wl ⟨vl, rfl, hownl, hkl⟩
          obtain ⟨Al, cl, rfl, hl1, hl2⟩ := EntsAt.form (show EntsAt wl vl W from SliceAt.of_owns hownl)
          unfold maxLen at hl2
          have OL := Lib.hid (O2.out.fresh hkl)
          have PL := Lib.hid (P2.out.fresh hkl)
          have UL := Lib.hid (U2.out.fresh hkl)
          have hS := same10 (show EntsAt wl (.slice Al W.length cl) W from SliceAt.of_owns hownl) UL.out.ents.at_ (by have := hW64.out; omega)
          rw [decide_eq_true (rfl : W = W)] at hS
          have hS' := Lib.hid hS
          have hkl' := Lib.hid hkl
          clear hS hownl hkl
          have VL := Lib.hid (V2.out.fresh (show Kept (fun _ => False) wq wl from hkl'.out))
          go_wp2_with fail
          refine hS'.out.mono ?_
          rintro e wm ⟨rfl, hkm⟩
          have hkm' := Lib.hid hkm
          have hSw := treeSwap (OL.out.store.fresh hkm) root next
          rw [PL.out.eq, hsw0.out] at hSw
          have hSw' := Lib.hid hSw
          have hld8 := Lib.hid (PL.out.fresh hkm).load
          clear hSw hkm
          go_wp2_with (first | (refine wpList_load_agg 26 rfl rfl rfl _ Tryz.underlying26 rfl [.pointer (some ⟨sb, 0, none⟩)] (by kernel_rfl) hld8.out ?_))
          refine hSw'.out.mono ?_
          rintro e w8 ⟨rfl, hT8⟩
          have O8 := Lib.hid ((OL.out.fresh hkm'.out).to hT8)
          have P8 := Lib.hid ((PL.out.fresh hkm'.out).to hT8)
          have V8 := Lib.hid ((VL.out.fresh hkm'.out).to hT8)
          have hM2log : Hid ((M1.swap root next).1.log.length ≤ 2000 + 50 * (k + 1)) := Lib.hid (by rw [swap_log]; have h1 := hlog1.out; omega)
          obtain ⟨M2, hM2⟩ : ∃ M2, (M1.swap root next).1 = M2 := ⟨_, rfl⟩
          rw [hM2] at O8 one' hM2log
          have hL2 := treeList O8.out.store next
          rw [one'.out.list (by omega), P8.out.eq] at hL2
          dsimp only at hL2
          have hL2' := Lib.hid hL2
          have hld9 := Lib.hid P8.out.load
          obtain ⟨hh, hhe, hh5, _⟩ := one'.out.height (by omega)
          have hW2 := one'.out.len
          clear hL2 hT8 hM2 hSw'
          go_wp2_with (first | (refine wpList_load_agg 26 rfl rfl rfl _ Tryz.underlying26 rfl [.pointer (some ⟨sb, 0, none⟩)] (by kernel_rfl) hld9.out ?_))
          refine hL2'.out.mono ?_
          rintro e w9 ⟨v9, rfl, hown9, hk9⟩
          obtain ⟨A9, c9, rfl, h91, h92⟩ := EntsAt.form (show EntsAt w9 v9 W2 from SliceAt.of_owns hown9)
          unfold maxLen at h92
          have O9 := Lib.hid (O8.out.fresh hk9)
          have P9 := Lib.hid (P8.out.fresh hk9)
          have V9 := Lib.hid (V8.out.fresh hk9)
          have hH := treeHeight O9.out.store next
          rw [hhe, P9.out.eq] at hH
          dsimp only at hH
          have hH' := Lib.hid hH
          have hld10 := Lib.hid P9.out.load
          have hown9' := Lib.hid hown9
          clear hH hown9 hk9 hhe
          go_wp2_with (first | (refine wpList_load_agg 26 rfl rfl rfl _ Tryz.underlying26 rfl [.pointer (some ⟨sb, 0, none⟩)] (by kernel_rfl) hld10.out ?_))
          refine hH'.out.mono ?_
          rintro e w10 ⟨rfl, hk10⟩
          have hS := same10 (show EntsAt w10 (.slice A9 W2.length c9) W2 from SliceAt.of_owns (ownsRow.keptOf hown9'.out hk10 (fun _ _ => id))) (V9.out.fresh hk10).ents.at_ (by omega)
          rw [decide_eq_true (rfl : W2 = W2)] at hS
          have hS2 := Lib.hid hS
          have h10' := Lib.hid hk10
          have hgt : decide ((8 : Int) < (hh : Int)) = false := by rw [decide_eq_false_iff_not]; omega
          obtain ⟨bb, hbb⟩ : ∃ bb, (next == (-1 : Int)) = bb := ⟨_, rfl⟩
          have hbl : (((W2.length : Nat) : Int) == 0) = bb := by rw [← hbb, Bool.eq_iff_iff]; simp only [beq_iff_eq]; rw [one'.out.none]; constructor <;> intro e; (have e' : W2.length = 0 := by omega); exact List.length_eq_zero_iff.1 e'; rw [e]; rfl
          have hbb' := Lib.hid hbb
          clear hS hk10
          go_wp2_with fail
          refine hS2.out.mono ?_
          rintro e w11 ⟨rfl, hk11⟩
          have fin : Hid (∃ A M W, CutSt w1 pb sb next A M W (.slice Av W2.length cv) (k + 1) w11) := Lib.hid ⟨A1, M2, W2, (O9.out.fresh h10'.out).fresh hk11, (P9.out.fresh h10'.out).fresh hk11, one'.out, (V9.out.fresh h10'.out).fresh hk11, hM2log.out⟩
          clear hk11
          go_wp2_with fail
          go_roundw
          case rel => exact ⟨k + 1, next, by omega, by go_num, rfl, fin⟩
          case measure => simp [intOf]; omega
      by_cases hk1 : x.1 = 1
      · have hb0 : (x.1 == 0) = false := by simp [hk0]
        have hx1e : (x.1 == 1) = true := by simp [hk1]
        have hP := pruneCut Ox.out.store root x.2 (by have := Sx.out.log; omega)
        rw [Px.out.eq] at hP
        have hldx := Lib.hid Px.out.load
        have hcl := hW64.out
        clear hk0 hk1
        by_cases hr : x.2 < 0 ∨ 63 < x.2
        · rw [cut_bad M root hr] at hP
          dsimp only at hP
          have hW2e' : Hid (cutL W x.2 = W) := Lib.hid (Nx.out.out hr)
          have hP' := Lib.hid hP
          have hor : (decide (x.2 < 0) = true) ∨ (decide (x.2 < 0) = false ∧ decide (63 < x.2) = true) := by simp only [decide_eq_true_eq, decide_eq_false_iff_not]; omega
          clear hP hr
          rcases hor with hd0 | ⟨hd0, hd1⟩
          · go_wp2_with (first | (refine wpList_load_agg 56 rfl rfl rfl _ Tryz.underlying56 rfl [.int .i64 x.1, .int .i64 x.2] (by kernel_rfl) hlo.out ?_) | (refine wpList_alloc_as 56 rfl rfl #[.int .i64 0, .int .i64 0] (by kernel_rfl) ?_; rw [hxb'.out]) | (refine wpList_store_whole 56 rfl rfl rfl [.int .i64 x.1, .int .i64 x.2] rfl (by kernel_rfl) 56 #[.int .i64 0, .int .i64 0] (by rw [← hxb'.out]; exact heap_alloc_new _ _) rfl (by intro c hc; simp at hc; rcases hc with rfl | rfl <;> rfl) ?_; rw [hwx'.out]) | (refine wpList_load_agg 52 rfl rfl rfl _ Tryz.underlying52 rfl [.pointer (some ⟨sb, 0, none⟩)] (by kernel_rfl) hldx.out ?_))
            refine hP'.out.mono ?_
            rintro e wp ⟨A1, rfl, hT⟩
            have cp1 := cell_of_heap (hT.get qx'.out hsx.out) 1
            simp at cp1
            have O1 := Lib.hid (Ox.out.to hT)
            have P1 := Lib.hid (Px.out.to hT)
            have U1 := Lib.hid (Ux.out.to hT)
            have hRf := refCut10 U1.out.ents.at_ (by have := hW64.out; omega) x.2
            rw [hW2e'.out] at hRf
            rw [decide_eq_false (Nat.lt_irrefl _)] at hRf
            have hRf' := Lib.hid hRf
            clear hT hRf
            go_wp2_with fail
            refine hRf'.out.mono ?_
            rintro e wq ⟨v, rfl, hownq, hkq⟩
            obtain ⟨Av, cv, rfl, hv1, hv2⟩ := EntsAt.form (show EntsAt wq v W from SliceAt.of_owns hownq)
            unfold maxLen at hv2
            have O2 := Lib.hid (O1.out.fresh hkq)
            have P2 := Lib.hid (P1.out.fresh hkq)
            have U2 := Lib.hid (U1.out.fresh hkq)
            have cq1 := hkq.cell cp1 id
            clear hownq hkq
            have hL := treeList O2.out.store root
            rw [Nx.out.list (by omega), P2.out.eq] at hL
            dsimp only at hL
            have hL' := Lib.hid hL
            have hldL := Lib.hid P2.out.load
            clear hL
            go_wp2_with (first | (refine wpList_load_agg 26 rfl rfl rfl _ Tryz.underlying26 rfl [.pointer (some ⟨sb, 0, none⟩)] (by kernel_rfl) hldL.out ?_))
            refine hL'.out.mono ?_
            rintro e wl ⟨vl, rfl, hownl, hkl⟩
            obtain ⟨Al, cl, rfl, hl1, hl2⟩ := EntsAt.form (show EntsAt wl vl W from SliceAt.of_owns hownl)
            unfold maxLen at hl2
            have OL := Lib.hid (O2.out.fresh hkl)
            have PL := Lib.hid (P2.out.fresh hkl)
            have UL := Lib.hid (U2.out.fresh hkl)
            have hS := same10 (show EntsAt wl (.slice Al W.length cl) W from SliceAt.of_owns hownl) UL.out.ents.at_ (by have := hW64.out; omega)
            rw [decide_eq_true (rfl : W = W)] at hS
            have hS' := Lib.hid hS
            have hkl' := Lib.hid hkl
            clear hS hownl hkl
            go_wp2_with fail
            refine hS'.out.mono ?_
            rintro e wm ⟨rfl, hkm⟩
            have hkm' := Lib.hid hkm
            clear hkm
            go_wp2_with fail
            go_roundw
            case rel => exact ⟨k + 1, root, by omega, by go_num, rfl, Lib.hid (keep.out _ _ _ _ _ (OL.out.fresh hkm'.out) (PL.out.fresh hkm'.out) (UL.out.fresh hkm'.out) ⟨rfl, rfl⟩)⟩
            case measure => simp [intOf]; omega
          · go_wp2_with (first | (refine wpList_load_agg 56 rfl rfl rfl _ Tryz.underlying56 rfl [.int .i64 x.1, .int .i64 x.2] (by kernel_rfl) hlo.out ?_) | (refine wpList_alloc_as 56 rfl rfl #[.int .i64 0, .int .i64 0] (by kernel_rfl) ?_; rw [hxb'.out]) | (refine wpList_store_whole 56 rfl rfl rfl [.int .i64 x.1, .int .i64 x.2] rfl (by kernel_rfl) 56 #[.int .i64 0, .int .i64 0] (by rw [← hxb'.out]; exact heap_alloc_new _ _) rfl (by intro c hc; simp at hc; rcases hc with rfl | rfl <;> rfl) ?_; rw [hwx'.out]) | (refine wpList_load_agg 52 rfl rfl rfl _ Tryz.underlying52 rfl [.pointer (some ⟨sb, 0, none⟩)] (by kernel_rfl) hldx.out ?_))
            refine hP'.out.mono ?_
            rintro e wp ⟨A1, rfl, hT⟩
            have cp1 := cell_of_heap (hT.get qx'.out hsx.out) 1
            simp at cp1
            have O1 := Lib.hid (Ox.out.to hT)
            have P1 := Lib.hid (Px.out.to hT)
            have U1 := Lib.hid (Ux.out.to hT)
            have hRf := refCut10 U1.out.ents.at_ (by have := hW64.out; omega) x.2
            rw [hW2e'.out] at hRf
            rw [decide_eq_false (Nat.lt_irrefl _)] at hRf
            have hRf' := Lib.hid hRf
            clear hT hRf
            go_wp2_with fail
            refine hRf'.out.mono ?_
            rintro e wq ⟨v, rfl, hownq, hkq⟩
            obtain ⟨Av, cv, rfl, hv1, hv2⟩ := EntsAt.form (show EntsAt wq v W from SliceAt.of_owns hownq)
            unfold maxLen at hv2
            have O2 := Lib.hid (O1.out.fresh hkq)
            have P2 := Lib.hid (P1.out.fresh hkq)
            have U2 := Lib.hid (U1.out.fresh hkq)
            have cq1 := hkq.cell cp1 id
            clear hownq hkq
            have hL := treeList O2.out.store root
            rw [Nx.out.list (by omega), P2.out.eq] at hL
            dsimp only at hL
            have hL' := Lib.hid hL
            have hldL := Lib.hid P2.out.load
            clear hL
            go_wp2_with (first | (refine wpList_load_agg 26 rfl rfl rfl _ Tryz.underlying26 rfl [.pointer (some ⟨sb, 0, none⟩)] (by kernel_rfl) hldL.out ?_))
            refine hL'.out.mono ?_
            rintro e wl ⟨vl, rfl, hownl, hkl⟩
            obtain ⟨Al, cl, rfl, hl1, hl2⟩ := EntsAt.form (show EntsAt wl vl W from SliceAt.of_owns hownl)
            unfold maxLen at hl2
            have OL := Lib.hid (O2.out.fresh hkl)
            have PL := Lib.hid (P2.out.fresh hkl)
            have UL := Lib.hid (U2.out.fresh hkl)
            have hS := same10 (show EntsAt wl (.slice Al W.length cl) W from SliceAt.of_owns hownl) UL.out.ents.at_ (by have := hW64.out; omega)
            rw [decide_eq_true (rfl : W = W)] at hS
            have hS' := Lib.hid hS
            have hkl' := Lib.hid hkl
            clear hS hownl hkl
            go_wp2_with fail
            refine hS'.out.mono ?_
            rintro e wm ⟨rfl, hkm⟩
            have hkm' := Lib.hid hkm
            clear hkm
            go_wp2_with fail
            go_roundw
            case rel => exact ⟨k + 1, root, by omega, by go_num, rfl, Lib.hid (keep.out _ _ _ _ _ (OL.out.fresh hkm'.out) (PL.out.fresh hkm'.out) (UL.out.fresh hkm'.out) ⟨rfl, rfl⟩)⟩
            case measure => simp [intOf]; omega
        · have hd0 : decide (x.2 < 0) = false := by rw [decide_eq_false_iff_not]; omega
          have hd1 : decide (63 < x.2) = false := by rw [decide_eq_false_iff_not]; omega
          rcases one_cut Nx.out clean_besides (by omega) (by decide) (by decide) (key := x.2) (by omega) (by omega) with ⟨c1, c2, c3⟩ | ⟨p1, p1w, had, p4, p2, p3⟩
          · rw [c1] at hP
            dsimp only at hP
            have hW2e' : Hid (cutL W x.2 = W) := Lib.hid (c2)
            have hP' := Lib.hid hP
            clear hP hr c1 c2 c3
            go_wp2_with (first | (refine wpList_load_agg 56 rfl rfl rfl _ Tryz.underlying56 rfl [.int .i64 x.1, .int .i64 x.2] (by kernel_rfl) hlo.out ?_) | (refine wpList_alloc_as 56 rfl rfl #[.int .i64 0, .int .i64 0] (by kernel_rfl) ?_; rw [hxb'.out]) | (refine wpList_store_whole 56 rfl rfl rfl [.int .i64 x.1, .int .i64 x.2] rfl (by kernel_rfl) 56 #[.int .i64 0, .int .i64 0] (by rw [← hxb'.out]; exact heap_alloc_new _ _) rfl (by intro c hc; simp at hc; rcases hc with rfl | rfl <;> rfl) ?_; rw [hwx'.out]) | (refine wpList_load_agg 52 rfl rfl rfl _ Tryz.underlying52 rfl [.pointer (some ⟨sb, 0, none⟩)] (by kernel_rfl) hldx.out ?_))
            refine hP'.out.mono ?_
            rintro e wp ⟨A1, rfl, hT⟩
            have cp1 := cell_of_heap (hT.get qx'.out hsx.out) 1
            simp at cp1
            have O1 := Lib.hid (Ox.out.to hT)
            have P1 := Lib.hid (Px.out.to hT)
            have U1 := Lib.hid (Ux.out.to hT)
            have hRf := refCut10 U1.out.ents.at_ (by have := hW64.out; omega) x.2
            rw [hW2e'.out] at hRf
            rw [decide_eq_false (Nat.lt_irrefl _)] at hRf
            have hRf' := Lib.hid hRf
            clear hT hRf
            go_wp2_with fail
            refine hRf'.out.mono ?_
            rintro e wq ⟨v, rfl, hownq, hkq⟩
            obtain ⟨Av, cv, rfl, hv1, hv2⟩ := EntsAt.form (show EntsAt wq v W from SliceAt.of_owns hownq)
            unfold maxLen at hv2
            have O2 := Lib.hid (O1.out.fresh hkq)
            have P2 := Lib.hid (P1.out.fresh hkq)
            have U2 := Lib.hid (U1.out.fresh hkq)
            have cq1 := hkq.cell cp1 id
            clear hownq hkq
            have hL := treeList O2.out.store root
            rw [Nx.out.list (by omega), P2.out.eq] at hL
            dsimp only at hL
            have hL' := Lib.hid hL
            have hldL := Lib.hid P2.out.load
            clear hL
            go_wp2_with (first | (refine wpList_load_agg 26 rfl rfl rfl _ Tryz.underlying26 rfl [.pointer (some ⟨sb, 0, none⟩)] (by kernel_rfl) hldL.out ?_))
            refine hL'.out.mono ?_
            rintro e wl ⟨vl, rfl, hownl, hkl⟩
            obtain ⟨Al, cl, rfl, hl1, hl2⟩ := EntsAt.form (show EntsAt wl vl W from SliceAt.of_owns hownl)
            unfold maxLen at hl2
            have OL := Lib.hid (O2.out.fresh hkl)
            have PL := Lib.hid (P2.out.fresh hkl)
            have UL := Lib.hid (U2.out.fresh hkl)
            have hS := same10 (show EntsAt wl (.slice Al W.length cl) W from SliceAt.of_owns hownl) UL.out.ents.at_ (by have := hW64.out; omega)
            rw [decide_eq_true (rfl : W = W)] at hS
            have hS' := Lib.hid hS
            have hkl' := Lib.hid hkl
            clear hS hownl hkl
            go_wp2_with fail
            refine hS'.out.mono ?_
            rintro e wm ⟨rfl, hkm⟩
            have hkm' := Lib.hid hkm
            clear hkm
            go_wp2_with fail
            go_roundw
            case rel => exact ⟨k + 1, root, by omega, by go_num, rfl, Lib.hid (keep.out _ _ _ _ _ (OL.out.fresh hkm'.out) (PL.out.fresh hkm'.out) (UL.out.fresh hkm'.out) ⟨rfl, rfl⟩)⟩
            case measure => simp [intOf]; omega
          · have hlg := cut_log Ox.out.store root x.2
            obtain ⟨R, hR⟩ : ∃ R, M.cut root x.2 = R := ⟨_, rfl⟩
            rw [hR] at hP p1 p1w p2 p3 p4 hlg
            obtain ⟨M1, next, wb, er⟩ := R
            dsimp only at hP p1 p1w p2 p3 p4 hlg
            subst p1 p1w
            have hlog1 : Hid (M1.log.length ≤ 2000 + 50 * k + 22) := Lib.hid (by have := Sx.out.log; omega)
            have hP' := Lib.hid hP
            have hsw0 := Lib.hid p2
            have hlist1 := Lib.hid p4
            have hless : Hid ((cutL W x.2).length < W.length) := Lib.hid (by obtain ⟨y, hy, hye⟩ := had; exact cut_less hy hye)
            obtain ⟨W2, hW2e⟩ : ∃ W2, cutL W x.2 = W2 := ⟨_, rfl⟩
            rw [hW2e] at p3 hless
            have one' := Lib.hid (OneTree.more p3)
            have hW2e' := Lib.hid hW2e
            clear hP hR p2 p3 p4 hlg hr hW2e had
            go_wp2_with (first | (refine wpList_load_agg 56 rfl rfl rfl _ Tryz.underlying56 rfl [.int .i64 x.1, .int .i64 x.2] (by kernel_rfl) hlo.out ?_) | (refine wpList_alloc_as 56 rfl rfl #[.int .i64 0, .int .i64 0] (by kernel_rfl) ?_; rw [hxb'.out]) | (refine wpList_store_whole 56 rfl rfl rfl [.int .i64 x.1, .int .i64 x.2] rfl (by kernel_rfl) 56 #[.int .i64 0, .int .i64 0] (by rw [← hxb'.out]; exact heap_alloc_new _ _) rfl (by intro c hc; simp at hc; rcases hc with rfl | rfl <;> rfl) ?_; rw [hwx'.out]) | (refine wpList_load_agg 52 rfl rfl rfl _ Tryz.underlying52 rfl [.pointer (some ⟨sb, 0, none⟩)] (by kernel_rfl) hldx.out ?_))
            refine hP'.out.mono ?_
            rintro e wp ⟨A1, rfl, hT⟩
            have cp1 := cell_of_heap (hT.get qx'.out hsx.out) 1
            simp at cp1
            have O1 := Lib.hid (Ox.out.to hT)
            have P1 := Lib.hid (Px.out.to hT)
            have U1 := Lib.hid (Ux.out.to hT)
            have hRf := refCut10 U1.out.ents.at_ (by have := hW64.out; omega) x.2
            rw [hW2e'.out] at hRf
            rw [decide_eq_true hless.out] at hRf
            have hRf' := Lib.hid hRf
            clear hT hRf
            go_wp2_with fail
            refine hRf'.out.mono ?_
            rintro e wq ⟨v, rfl, hownq, hkq⟩
            obtain ⟨Av, cv, rfl, hv1, hv2⟩ := EntsAt.form (show EntsAt wq v W2 from SliceAt.of_owns hownq)
            unfold maxLen at hv2
            have O2 := Lib.hid (O1.out.fresh hkq)
            have P2 := Lib.hid (P1.out.fresh hkq)
            have U2 := Lib.hid (U1.out.fresh hkq)
            have V2 : Hid (OutAt wq A1 w1.heap.size (.slice Av W2.length cv) W2) := Lib.hid ⟨owns_le' hownq O1.out.kept.size, fun b hb e => absurd (O1.out.store.lt (.inl e)) (Nat.not_lt.2 (hownq.lt b hb).1)⟩
            have cq1 := hkq.cell cp1 id
            clear hownq hkq
            have hL := treeList O2.out.store root
            rw [hlist1.out, P2.out.eq] at hL
            dsimp only at hL
            have hL' := Lib.hid hL
            have hldL := Lib.hid P2.out.load
            clear hL
            go_wp2_with (first | (refine wpList_load_agg 26 rfl rfl rfl _ Tryz.underlying26 rfl [.pointer (some ⟨sb, 0, none⟩)] (by kernel_rfl) hldL.out ?_))
            refine hL'.out.mono ?_
            rintro e wl ⟨vl, rfl, hownl, hkl⟩
            obtain ⟨Al, cl, rfl, hl1, hl2⟩ := EntsAt.form (show EntsAt wl vl W from SliceAt.of_owns hownl)
            unfold maxLen at hl2
            have OL := Lib.hid (O2.out.fresh hkl)
            have PL := Lib.hid (P2.out.fresh hkl)
            have UL := Lib.hid (U2.out.fresh hkl)
            have hS := same10 (show EntsAt wl (.slice Al W.length cl) W from SliceAt.of_owns hownl) UL.out.ents.at_ (by have := hW64.out; omega)
            rw [decide_eq_true (rfl : W = W)] at hS
            have hS' := Lib.hid hS
            have hkl' := Lib.hid hkl
            clear hS hownl hkl
            have VL := Lib.hid (V2.out.fresh (show Kept (fun _ => False) wq wl from hkl'.out))
            go_wp2_with fail
            refine hS'.out.mono ?_
            rintro e wm ⟨rfl, hkm⟩
            have hkm' := Lib.hid hkm
            have hSw := treeSwap (OL.out.store.fresh hkm) root next
            rw [PL.out.eq, hsw0.out] at hSw
            have hSw' := Lib.hid hSw
            have hld8 := Lib.hid (PL.out.fresh hkm).load
            clear hSw hkm
            go_wp2_with (first | (refine wpList_load_agg 26 rfl rfl rfl _ Tryz.underlying26 rfl [.pointer (some ⟨sb, 0, none⟩)] (by kernel_rfl) hld8.out ?_))
            refine hSw'.out.mono ?_
            rintro e w8 ⟨rfl, hT8⟩
            have O8 := Lib.hid ((OL.out.fresh hkm'.out).to hT8)
            have P8 := Lib.hid ((PL.out.fresh hkm'.out).to hT8)
            have V8 := Lib.hid ((VL.out.fresh hkm'.out).to hT8)
            have hM2log : Hid ((M1.swap root next).1.log.length ≤ 2000 + 50 * (k + 1)) := Lib.hid (by rw [swap_log]; have h1 := hlog1.out; omega)
            obtain ⟨M2, hM2⟩ : ∃ M2, (M1.swap root next).1 = M2 := ⟨_, rfl⟩
            rw [hM2] at O8 one' hM2log
            have hL2 := treeList O8.out.store next
            rw [one'.out.list (by omega), P8.out.eq] at hL2
            dsimp only at hL2
            have hL2' := Lib.hid hL2
            have hld9 := Lib.hid P8.out.load
            obtain ⟨hh, hhe, hh5, _⟩ := one'.out.height (by omega)
            have hW2 := one'.out.len
            clear hL2 hT8 hM2 hSw'
            go_wp2_with (first | (refine wpList_load_agg 26 rfl rfl rfl _ Tryz.underlying26 rfl [.pointer (some ⟨sb, 0, none⟩)] (by kernel_rfl) hld9.out ?_))
            refine hL2'.out.mono ?_
            rintro e w9 ⟨v9, rfl, hown9, hk9⟩
            obtain ⟨A9, c9, rfl, h91, h92⟩ := EntsAt.form (show EntsAt w9 v9 W2 from SliceAt.of_owns hown9)
            unfold maxLen at h92
            have O9 := Lib.hid (O8.out.fresh hk9)
            have P9 := Lib.hid (P8.out.fresh hk9)
            have V9 := Lib.hid (V8.out.fresh hk9)
            have hH := treeHeight O9.out.store next
            rw [hhe, P9.out.eq] at hH
            dsimp only at hH
            have hH' := Lib.hid hH
            have hld10 := Lib.hid P9.out.load
            have hown9' := Lib.hid hown9
            clear hH hown9 hk9 hhe
            go_wp2_with (first | (refine wpList_load_agg 26 rfl rfl rfl _ Tryz.underlying26 rfl [.pointer (some ⟨sb, 0, none⟩)] (by kernel_rfl) hld10.out ?_))
            refine hH'.out.mono ?_
            rintro e w10 ⟨rfl, hk10⟩
            have hS := same10 (show EntsAt w10 (.slice A9 W2.length c9) W2 from SliceAt.of_owns (ownsRow.keptOf hown9'.out hk10 (fun _ _ => id))) (V9.out.fresh hk10).ents.at_ (by omega)
            rw [decide_eq_true (rfl : W2 = W2)] at hS
            have hS2 := Lib.hid hS
            have h10' := Lib.hid hk10
            have hgt : decide ((8 : Int) < (hh : Int)) = false := by rw [decide_eq_false_iff_not]; omega
            obtain ⟨bb, hbb⟩ : ∃ bb, (next == (-1 : Int)) = bb := ⟨_, rfl⟩
            have hbl : (((W2.length : Nat) : Int) == 0) = bb := by rw [← hbb, Bool.eq_iff_iff]; simp only [beq_iff_eq]; rw [one'.out.none]; constructor <;> intro e; (have e' : W2.length = 0 := by omega); exact List.length_eq_zero_iff.1 e'; rw [e]; rfl
            have hbb' := Lib.hid hbb
            clear hS hk10
            go_wp2_with fail
            refine hS2.out.mono ?_
            rintro e w11 ⟨rfl, hk11⟩
            have fin : Hid (∃ A M W, CutSt w1 pb sb next A M W (.slice Av W2.length cv) (k + 1) w11) := Lib.hid ⟨A1, M2, W2, (O9.out.fresh h10'.out).fresh hk11, (P9.out.fresh h10'.out).fresh hk11, one'.out, (V9.out.fresh h10'.out).fresh hk11, hM2log.out⟩
            clear hk11
            go_wp2_with fail
            go_roundw
            case rel => exact ⟨k + 1, next, by omega, by go_num, rfl, fin⟩
            case measure => simp [intOf]; omega
      have hb0 : (x.1 == 0) = false := by simp [hk0]
      have hb1 : (x.1 == 1) = false := by simp [hk1]
      clear hk0 hk1
      have hL := treeList Ox.out.store root
      rw [Nx.out.list (by omega), Px.out.eq] at hL
      dsimp only at hL
      have hL' := Lib.hid hL
      have hldL := Lib.hid Px.out.load
      clear hL
      go_wp2_with (first | (refine wpList_load_agg 56 rfl rfl rfl _ Tryz.underlying56 rfl [.int .i64 x.1, .int .i64 x.2] (by kernel_rfl) hlo.out ?_) | (refine wpList_alloc_as 56 rfl rfl #[.int .i64 0, .int .i64 0] (by kernel_rfl) ?_; rw [hxb'.out]) | (refine wpList_store_whole 56 rfl rfl rfl [.int .i64 x.1, .int .i64 x.2] rfl (by kernel_rfl) 56 #[.int .i64 0, .int .i64 0] (by rw [← hxb'.out]; exact heap_alloc_new _ _) rfl (by intro c hc; simp at hc; rcases hc with rfl | rfl <;> rfl) ?_; rw [hwx'.out]) | (refine wpList_load_agg 26 rfl rfl rfl _ Tryz.underlying26 rfl [.pointer (some ⟨sb, 0, none⟩)] (by kernel_rfl) hldL.out ?_))
      refine hL'.out.mono ?_
      rintro e wl ⟨vl, rfl, hownl, hkl⟩
      obtain ⟨Al, cl, rfl, hl1, hl2⟩ := EntsAt.form (show EntsAt wl vl W from SliceAt.of_owns hownl)
      unfold maxLen at hl2
      have OL := Lib.hid (Ox.out.fresh hkl)
      have PL := Lib.hid (Px.out.fresh hkl)
      have UL := Lib.hid (Ux.out.fresh hkl)
      have hS := same10 (show EntsAt wl (.slice Al W.length cl) W from SliceAt.of_owns hownl) UL.out.ents.at_ (by have := hW64.out; omega)
      rw [decide_eq_true (rfl : W = W)] at hS
      have hS' := Lib.hid hS
      have hkl' := Lib.hid hkl
      clear hS hownl hkl
      go_wp2_with fail
      refine hS'.out.mono ?_
      rintro e wm ⟨rfl, hkm⟩
      have hkm' := Lib.hid hkm
      clear hkm
      go_wp2_with fail
      go_roundw
      case rel => exact ⟨k + 1, root, by omega, by go_num, rfl, Lib.hid (keep.out _ _ _ _ _ (OL.out.fresh hkm'.out) (PL.out.fresh hkm'.out) (UL.out.fresh hkm'.out) ⟨rfl, rfl⟩)⟩
      case measure => simp [intOf]; omega
    · obtain rfl : k = l.length := by omega
      obtain ⟨A, M, W, St⟩ := hI.out
      obtain ⟨Aw, cw, rfl, hw1, hw2⟩ := St.out.ents.at_.form
      unfold maxLen at hw2
      have hE := exact11 St.one (clean_mild St.one.kk) (by simp) rfl (by have := St.one.range; omega) St.own.store
      rw [St.pv.eq] at hE
      have hE' := Lib.hid hE
      have hldE := Lib.hid St.pv.load
      have kE := Lib.hid St.own
      clear hE hI
      go_wp2_with (first | (refine wpList_load_agg 52 rfl rfl rfl _ Tryz.underlying52 rfl [.pointer (some ⟨sb, 0, none⟩)] (by kernel_rfl) hldE.out ?_))
      refine hE'.out.mono ?_
      rintro e wz ⟨rfl, hTz⟩
      have kk : Hid (Kept (fun _ => False) w wz) := Lib.hid (k1'.out.trans (kE.out.to hTz).kept)
      clear hTz
      go_wp2_with fail
      go_ret
      exact ⟨rfl, kk.out⟩
end Go.Proofs.YthmjcbmeiabbgaaGreat.pruneCuts
