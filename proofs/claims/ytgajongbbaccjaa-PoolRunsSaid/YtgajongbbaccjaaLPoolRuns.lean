/-
  PoolRuns: whatever size, counts and acts are, the law answers true. No conditions.
-/
import Derived.Test.YtgajongbbaccjaaPoolL
import Derived.Test.YtgajongbbaccjaaRefD
import Derived.Test.YtgajongbbaccjaaLaw
namespace Go.Proofs.Ytgajongbbaccjaa.poolRuns
open Go.ChangeShapes Go.WideShapes Go.ChangeAt Go.RowKit
set_option maxRecDepth 100000

def Out (p : PM) : Prop := ∀ i, p.size ≤ i → p.cnt i = 0
theorem Out.take {p : PM} (h : Out p) : Out p.takeTo := by unfold PM.takeTo; split <;> exact h
theorem Out.hold {p : PM} (h : Out p) (i : Int) : Out (p.holdTo i) := by
  unfold PM.holdTo
  split
  · rename_i hc
    simp only [Bool.and_eq_true, decide_eq_true_eq] at hc
    obtain ⟨n, rfl, hn, _⟩ := PM.heldB_nat hc.1
    intro j hj
    have hj' : p.size ≤ j := hj
    simp only [Int.toNat_natCast, PM.setCnt, if_neg (show j ≠ n by omega)]
    exact h j hj
  · exact h
theorem Out.drop {p : PM} (h : Out p) (i : Int) : Out (p.dropAll i) := by
  unfold PM.dropAll
  split
  · rename_i hc
    obtain ⟨n, rfl, hn, _⟩ := PM.heldB_nat hc
    simp only [Int.toNat_natCast, PM.dropTo]
    split
    · intro j hj
      have hj' : p.size ≤ j := hj
      simp only [PM.setCnt, if_neg (show j ≠ n by omega)]
      exact h j hj
    · intro j hj
      have hj' : p.size ≤ j := hj
      simp only [PM.setCnt, PM.setSt, if_neg (show j ≠ n by omega)]
      exact h j hj
  · exact h

/-- What holds at the head of a round: the pool at b, and the document's pages of it in v. -/
structure RInv (w wr : World) (b : Nat) (v : Value) (Q : PM) : Prop where
  pool : PoolAt wr b Q
  leaves : LeavesAt wr v Q
  hb : w.heap.size ≤ b
  lt : ∀ g, v.ownBlock = some g → g < wr.heap.size
  ap : ∀ g, v.ownBlock = some g → g ≠ b
  fresh : Fresh w wr
  out : Out Q
theorem RInv.alloc {w wr : World} {b : Nat} {v : Value} {Q : PM} (h : RInv w wr b v Q) (o : Obj) : RInv w (wr.alloc o) b v Q :=
  have k := (Kept.refl (fun _ => False) wr).alloc o
  ⟨h.pool.kept k id, h.leaves.fresh k, h.hb, fun g hg => Nat.lt_of_lt_of_le (h.lt g hg) k.size, h.ap, h.fresh.trans k, h.out⟩
theorem RInv.still {w wr w' : World} {b : Nat} {v : Value} {Q : PM} (h : RInv w wr b v Q) (k : Kept (fun _ => False) wr w') : RInv w w' b v Q :=
  ⟨h.pool.kept k id, h.leaves.fresh k, h.hb, fun g hg => Nat.lt_of_lt_of_le (h.lt g hg) k.size, h.ap, h.fresh.trans k, h.out⟩
theorem RInv.mid {w wr w1 : World} {b : Nat} {v : Value} {Q Q1 : PM} (h : RInv w wr b v Q) (k : PoolTo b Q1 wr w1) : LeavesAt w1 v Q :=
  h.leaves.kept k.kept h.ap
theorem RInv.done {w wr w1 w2 : World} {b : Nat} {v v' : Value} {Q Q1 : PM} (h : RInv w wr b v Q) (k : PoolTo b Q1 wr w1) (l : LeavesTo v v' Q1 w1 w2) (ho : Out Q1) : RInv w w2 b v' Q1 :=
  have hbl : b < w1.heap.size := lt_of_heap k.pool.heap
  ⟨k.pool.kept l.kept id, l.at_, h.hb, fun g hg => by rcases l.own g hg with h1 | h1; exact Nat.lt_of_lt_of_le (Nat.lt_of_lt_of_le (h.lt g h1) k.kept.size) l.kept.size; exact h1.2,
    fun g hg => by rcases l.own g hg with h1 | h1; exact h.ap g h1; omega, (k.after h.fresh h.hb).trans l.kept, ho⟩
theorem RInv.val {w wr : World} {b : Nat} {v : Value} {Q : PM} (h : RInv w wr b v Q) : ∃ A n cap, v = .slice A n cap := by
  obtain ⟨_, A, cap, hv, _⟩ := h.leaves
  exact ⟨A, _, cap, hv⟩

set_option maxHeartbeats 4000000 in
theorem walk (size : Int) (_hs : -9223372036854775808 ≤ size ∧ size ≤ 9223372036854775807) (c : Nat → Nat) (hc : ∀ i, c i ≤ 255) (hc240 : ∀ i, 240 ≤ i → c i = 0) (v : Value) (l : List (Int × Int)) {w : World} (hl : PairsAt w v l) :
    Calls Try.prog 8 #[.int .i64 size, .agg (cntList c).toArray, v] w fun e w' => e = .returned (.bool true) ∧ Fresh w w' := by
  obtain ⟨⟨A, cap, rfl, hcap, hmax, hget⟩, hwf⟩ := hl
  unfold maxLen at hmax
  by_cases hlong : 150 < l.length
  · go_enter Try.func8, Try.ntmps8
    go_wp2_with fail
    refine (poolAlive_any _).mono ?_
    rintro e w1 ⟨rfl, k1⟩
    go_wp2_with fail
    go_ret
    exact ⟨rfl, ((Kept.refl _ _).alloc _).trans k1⟩
  by_cases hbad : ∃ i, clampN size ≤ i ∧ i < 240 ∧ c i ≠ 0
  · obtain ⟨i, hi1, hi2, hi3⟩ := hbad
    go_enter Try.func8, Try.ntmps8
    go_wp2_with fail
    refine (poolAlive_any _).mono ?_
    rintro e w1 ⟨rfl, k1⟩
    have hbox : w1.heap[w.heap.size]? = some (.cells (cntList c).toArray 30 (0, 0)) := k1.get (heap_alloc_new w _) id
    have k0 : Fresh w w1 := ((Kept.refl _ _).alloc _).trans k1
    go_wp2_with (refine wpList_load_agg 30 rfl rfl rfl _ Try.underlying30 rfl (cntList c) (by rw [cntList_len]; kernel_rfl) (fun j v hv => by rw [cell_of_heap hbox, Nat.zero_add]; simpa using hv) ?_)
    refine (load_bad size c _ i hi1 hi2 hi3).mono ?_
    rintro e w2 ⟨rfl, k2⟩
    have hbox2 := k2.get hbox id
    go_wp2_with (refine wpList_load_agg 30 rfl rfl rfl _ Try.underlying30 rfl (cntList c) (by rw [cntList_len]; kernel_rfl) (fun j v hv => by rw [cell_of_heap hbox2, Nat.zero_add]; simpa using hv) ?_)
    refine (refLoad_bad size c _ hc i hi1 hi2 hi3).mono ?_
    rintro e w3 ⟨rfl, k3⟩
    go_wp2_with fail
    go_ret
    exact ⟨rfl, (k0.trans k2).trans k3⟩
  have hz : ∀ i, clampN size ≤ i → i < 240 → c i = 0 := fun i h1 h2 => by
    by_cases h : c i = 0
    · exact h
    · exact absurd ⟨i, h1, h2, h⟩ hbad
  clear hbad
  have hget' := Lib.hid hget; clear hget
  have hc' := Lib.hid hc; clear hc
  have hz' := Lib.hid hz; clear hz
  have hc240' := Lib.hid hc240; clear hc240
  go_enter Try.func8, Try.ntmps8
  go_wp2_with fail
  refine (poolAlive_any _).mono ?_
  rintro e w1 ⟨rfl, k1⟩
  have hbox : w1.heap[w.heap.size]? = some (.cells (cntList c).toArray 30 (0, 0)) := k1.get (heap_alloc_new w _) id
  have k0 : Fresh w w1 := ((Kept.refl _ _).alloc _).trans k1
  go_wp2_with (refine wpList_load_agg 30 rfl rfl rfl _ Try.underlying30 rfl (cntList c) (by rw [cntList_len]; kernel_rfl) (fun j v hv => by rw [cell_of_heap hbox, Nat.zero_add]; simpa using hv) ?_)
  refine (load_ok size c _ hc'.out hz'.out).mono ?_
  rintro e w2 ⟨b, rfl, h2⟩
  obtain ⟨P, hP⟩ : ∃ P, P = PM.loaded (clampN size) c := ⟨_, rfl⟩
  rw [← hP] at h2
  have hP' := Lib.hid hP; clear hP
  have k2 := k0.trans h2.kept
  have hbox2 := h2.kept.get hbox id
  have hb : w.heap.size ≤ b := by have := k0.size; have := h2.new; omega
  go_wp2_with (refine wpList_load_agg 30 rfl rfl rfl _ Try.underlying30 rfl (cntList c) (by rw [cntList_len]; kernel_rfl) (fun j v hv => by rw [cell_of_heap hbox2, Nat.zero_add]; simpa using hv) ?_)
  have hrl := refLoad_ok size c w2 hc'.out hz'.out
  rw [← hP'.out] at hrl
  refine hrl.mono ?_
  rintro e w3 ⟨v, rfl, h3⟩
  clear hrl
  have I0 : RInv w w3 b v P := by
    refine ⟨h2.pool.kept h3.kept id, h3.at_, hb, fun g hg => (h3.new g hg).2, fun g hg => ?_, k2.trans h3.kept, fun i hi => ?_⟩
    · have := lt_of_heap h2.pool.heap; have := (h3.new g hg).1; omega
    · rw [hP'.out] at hi ⊢
      have hi' : clampN size ≤ i := hi
      rcases Nat.lt_or_ge i 240 with h | h
      · exact hz'.out i hi' h
      · exact hc240'.out i h
  clear h3 h2 k2 k0 k1 hbox hbox2 hb
  go_wp2_with fail
  go_loopw [7, 9, 58] (fun t v i wr => ∃ k : Nat, k ≤ l.length ∧ i = .int .i64 k ∧ ∃ b Q, t = .pointer (some ⟨b, 0, none⟩) ∧ RInv w wr b v Q) (fun _ _ i _ => l.length - (intOf i).toNat)
  case atStart => exact ⟨0, Nat.zero_le _, rfl, b, P, rfl, I0⟩
  case round =>
    obtain ⟨k, hk, rfl, b, Q, rfl, hI⟩ := hrel
    obtain ⟨A', n', cap', rfl⟩ := hI.val
    by_cases hlt : k < l.length
    · obtain ⟨y, hy⟩ : ∃ y, l[k]? = some y := ⟨_, List.getElem?_eq_getElem hlt⟩
      obtain ⟨ab, ao, rfl, hab, c1, c2⟩ := hget'.out k y hy
      have c1' := hI.fresh.cell c1 id
      have c2' := hI.fresh.cell c2 id
      have hIa := fun o => hI.alloc o
      have hIa' := Lib.hid hIa; clear hIa
      have hbl : b < wr.heap.size := lt_of_heap hI.pool.heap
      have hlt0 := Lib.hid hI.lt
      have hfs := Lib.hid hI.fresh.size
      have hqs := hI.pool.hsize
      have hqc := Lib.hid hI.pool.hcnt
      have hqt := Lib.hid hI.pool.hst
      have hqo := Lib.hid hI.out
      clear c1 c2 hI
      have hy' := Lib.hid hy; clear hy
      obtain ⟨x1, x2⟩ := y
      dsimp only at c1' c2'
      by_cases g0 : x1 = 0
      · subst g0
        go_wp2_with fail
        refine (take_all (hIa'.out _).pool).mono ?_
        rintro e w5 ⟨rfl, h5⟩
        have m5 := (hIa'.out _).mid h5
        go_wp2_with fail
        refine (refTake_all m5 hqs hqt.out).mono ?_
        rintro e w6 ⟨v6, rfl, h6⟩
        have i6 := (hIa'.out _).done h5 h6 (hqo.out.take)
        obtain ⟨A2, n2, cap2, rfl⟩ := i6.val
        go_wp2_with fail
        refine (alike_any i6.pool i6.leaves i6.out).mono ?_
        rintro e w8 ⟨rfl, k8⟩
        have i8 := i6.still k8
        go_wp2_with fail
        go_roundw
        case rel => exact ⟨k + 1, by omega, by go_num, _, _, rfl, i8⟩
        case measure => simp [intOf]; omega
      by_cases g1 : x1 = 1
      · subst g1
        go_wp2_with fail
        refine (hold_all (hIa'.out _).pool x2).mono ?_
        rintro e w5 ⟨rfl, h5⟩
        have hbx := h5.kept.get (heap_alloc_new wr _) (fun e => by omega)
        have d1 : w5.cell? ⟨wr.heap.size, 1, none⟩ = some (.int .i64 x2) := by rw [cell_of_heap hbx]; rfl
        clear hbx
        have m5 := (hIa'.out _).mid h5
        go_wp2_with fail
        refine (refHold_all m5 hqs hqc.out x2).mono ?_
        rintro e w6 ⟨v6, rfl, h6⟩
        have i6 := (hIa'.out _).done h5 h6 (hqo.out.hold x2)
        obtain ⟨A2, n2, cap2, rfl⟩ := i6.val
        go_wp2_with fail
        refine (alike_any i6.pool i6.leaves i6.out).mono ?_
        rintro e w8 ⟨rfl, k8⟩
        have i8 := i6.still k8
        go_wp2_with fail
        go_roundw
        case rel => exact ⟨k + 1, by omega, by go_num, _, _, rfl, i8⟩
        case measure => simp [intOf]; omega
      by_cases g2 : x1 = 2
      · subst g2
        go_wp2_with fail
        refine (drop_all (hIa'.out _).pool x2).mono ?_
        rintro e w5 ⟨rfl, h5⟩
        have hbx := h5.kept.get (heap_alloc_new wr _) (fun e => by omega)
        have d1 : w5.cell? ⟨wr.heap.size, 1, none⟩ = some (.int .i64 x2) := by rw [cell_of_heap hbx]; rfl
        clear hbx
        have m5 := (hIa'.out _).mid h5
        go_wp2_with fail
        refine (refDrop_all m5 hqs hqc.out x2).mono ?_
        rintro e w6 ⟨v6, rfl, h6⟩
        have i6 := (hIa'.out _).done h5 h6 (hqo.out.drop x2)
        obtain ⟨A2, n2, cap2, rfl⟩ := i6.val
        go_wp2_with fail
        refine (alike_any i6.pool i6.leaves i6.out).mono ?_
        rintro e w8 ⟨rfl, k8⟩
        have i8 := i6.still k8
        go_wp2_with fail
        go_roundw
        case rel => exact ⟨k + 1, by omega, by go_num, _, _, rfl, i8⟩
        case measure => simp [intOf]; omega
      by_cases g3 : x1 = 3
      · subst g3
        go_wp2_with fail
        refine (commit_any (hIa'.out _).pool).mono ?_
        rintro e w5 ⟨rfl, h5⟩
        have m5 := (hIa'.out _).mid h5
        go_wp2_with fail
        refine (refCommit_any m5 hqs).mono ?_
        rintro e w6 ⟨v6, rfl, h6⟩
        have i6 := (hIa'.out _).done h5 (LeavesNew.to (Kept.refl _ _) h6) (hqo.out)
        obtain ⟨A2, n2, cap2, rfl⟩ := i6.val
        go_wp2_with fail
        refine (alike_any i6.pool i6.leaves i6.out).mono ?_
        rintro e w8 ⟨rfl, k8⟩
        have i8 := i6.still k8
        go_wp2_with fail
        go_roundw
        case rel => exact ⟨k + 1, by omega, by go_num, _, _, rfl, i8⟩
        case measure => simp [intOf]; omega
      by_cases g4 : x1 = 4
      · subst g4
        go_wp2_with fail
        refine (clone_any (hIa'.out _).pool).mono ?_
        rintro e w5 ⟨q, rfl, h5⟩
        have i5 := (hIa'.out _).still h5.kept
        have hn5 := h5.new
        rw [World.size_alloc] at hn5
        have hqb : q ≠ b := fun e => by omega
        go_wp2_with fail
        refine (commit_any i5.pool).mono ?_
        rintro e w6 ⟨rfl, h6⟩
        have i6 : RInv w w6 q (.slice A' n' cap') Q := ⟨h5.pool.kept h6.kept hqb, i5.mid h6, by have := hfs.out; omega, fun g hg => Nat.lt_of_lt_of_le (i5.lt g hg) h6.kept.size,
          fun g hg => by have := hlt0.out g hg; omega, h6.after i5.fresh i5.hb, hqo.out⟩
        go_wp2_with fail
        refine (alike_any i6.pool i6.leaves i6.out).mono ?_
        rintro e w8 ⟨rfl, k8⟩
        have i8 := i6.still k8
        go_wp2_with fail
        go_roundw
        case rel => exact ⟨k + 1, by omega, by go_num, _, _, rfl, i8⟩
        case measure => simp [intOf]; omega
      by_cases g5 : x1 = 5
      · subst g5
        go_wp2_with fail
        refine (mark_any (hIa'.out _).pool).mono ?_
        rintro e w5 ⟨q, rfl, hnew, hq5, h5⟩
        have m5 := (hIa'.out _).mid h5
        go_wp2_with fail
        refine (refMark_any m5 hqs).mono ?_
        rintro e w6 ⟨v6, rfl, h6⟩
        have i6 := (hIa'.out _).done h5 (LeavesNew.to (Kept.refl _ _) h6) (hqo.out)
        have hq6 := hq5.kept h6.kept id
        obtain ⟨A2, n2, cap2, rfl⟩ := i6.val
        go_wp2_with fail
        refine (alike_any hq6 i6.leaves i6.out).mono ?_
        rintro e w7 ⟨rfl, k7⟩
        have i7 := i6.still k7
        go_wp2_with fail
        refine (alike_any i7.pool i7.leaves i7.out).mono ?_
        rintro e w8 ⟨rfl, k8⟩
        have i8 := i7.still k8
        go_wp2_with fail
        go_roundw
        case rel => exact ⟨k + 1, by omega, by go_num, _, _, rfl, i8⟩
        case measure => simp [intOf]; omega
      by_cases g6 : x1 = 6
      · subst g6
        go_wp2_with fail
        refine (tidy_any (hIa'.out _).pool).mono ?_
        rintro e w5 ⟨rfl, h5⟩
        have m5 := (hIa'.out _).mid h5
        go_wp2_with fail
        refine (refTidy_any m5 hqs).mono ?_
        rintro e w6 ⟨v6, rfl, h6⟩
        have i6 := (hIa'.out _).done h5 (LeavesNew.to (Kept.refl _ _) h6) (hqo.out)
        obtain ⟨A2, n2, cap2, rfl⟩ := i6.val
        go_wp2_with fail
        refine (alike_any i6.pool i6.leaves i6.out).mono ?_
        rintro e w8 ⟨rfl, k8⟩
        have i8 := i6.still k8
        go_wp2_with fail
        go_roundw
        case rel => exact ⟨k + 1, by omega, by go_num, _, _, rfl, i8⟩
        case measure => simp [intOf]; omega
      have e0 : (x1 == 0) = false := by simpa using g0
      have e1 : (x1 == 1) = false := by simpa using g1
      have e2 : (x1 == 2) = false := by simpa using g2
      have e3 : (x1 == 3) = false := by simpa using g3
      have e4 : (x1 == 4) = false := by simpa using g4
      have e5 : (x1 == 5) = false := by simpa using g5
      have e6 : (x1 == 6) = false := by simpa using g6
      clear g0 g1 g2 g3 g4 g5 g6
      go_wp2_with fail
      refine (alike_any (hIa'.out _).pool (hIa'.out _).leaves hqo.out).mono ?_
      rintro e w8 ⟨rfl, k8⟩
      have i8 := (hIa'.out _).still k8
      go_wp2_with fail
      go_roundw
      case rel => exact ⟨k + 1, by omega, by go_num, _, _, rfl, i8⟩
      case measure => simp [intOf]; omega
    · go_wp2_with fail
      go_ret
      exact ⟨rfl, hI.fresh⟩
set_option maxRecDepth 100000 in
theorem lifted (os : Os) (started : os.Started) (H : Type) (enc : TypeId × Value → H) :
    ReturnsInHanded {} Try.checked os 8 .any (Rows.poolRunsSpec.pre6 enc Try.prog Try.f8 Rows.poolRunsRow.domain false) (Rows.poolRunsSpec.post enc Try.prog Try.f8 false true false false) := by
  refine law_lift os started 8 Try.f8 Try.func8 (by kernel_rfl) Rows.poolRunsSpec rfl ?_ rfl (by kernel_rfl)
    (ChangeSpec.witness6 (enc := enc) (C := Try.checked) false ⟨#[], #[.int .i64 0, .agg (Array.replicate 240 (.int .u8 0)), .slice none 0 0], []⟩ 8 (by kernel_rfl) (by kernel_rfl) (by kernel_rfl) (by kernel_rfl)) ?_
  · intro ds hds
    rw [Try.params8] at hds
    match ds, hds with
    | [_, _, _], _ => rfl
  · intro W base args ds p hval hA
    rw [Try.params8] at hA hval
    obtain ⟨v0, vs0, d0, ds0, p0, q0, hargs, rfl, rfl, h0, r0⟩ := trodAll_cons hA
    obtain ⟨v1, vs1, d1, ds1, p1, q1, rfl, rfl, rfl, h1, r1⟩ := trodAll_cons r0
    obtain ⟨v2, vs2, d2, ds2, p2, q2, rfl, rfl, rfl, h2, r2⟩ := trodAll_cons r1
    obtain ⟨rfl, rfl, rfl⟩ := trodAll_nil r2
    obtain rfl : args = #[v0, v1, v2] := by cases args; simp_all
    obtain ⟨a0, rfl, rfl, rfl, w0⟩ := open_int Try.underlying3 (hval 0 3 v0 rfl rfl) h0
    obtain ⟨a1, rfl, w1, z1⟩ := open_bytes (n := 240) Try.underlying30 Try.underlying5 (by kernel_rfl) (by kernel_rfl) (hval 1 30 v1 rfl rfl) h1
    obtain ⟨a2, w2⟩ := open_pairs Try.underlying37 Try.underlying39 rfl rfl rfl Try.underlying3 Try.underlying3 (by kernel_rfl) (by kernel_rfl) (by kernel_rfl) (hval 2 37 v2 rfl rfl) h2
    exact (walk a0 (wf_i64 w0) a1 w1 z1 v2 a2 w2).mono fun e W' ⟨he, hk⟩ => ⟨he, hk.below (Nat.le_refl _) (fun _ _ h => h)⟩

theorem over : Rows.poolRunsRow.holds Try.pinned (OpenSpec.ofChange Rows.poolRunsSpec) :=
  OpenClaim.holds_of_wide 8 Try.f8 rfl rfl rfl rfl rfl rfl rfl ⟨rfl, rfl, rfl, rfl, rfl⟩ rfl rfl rfl rfl rfl (by kernel_rfl) Try.func8 (joined_of _ _ _ _ rfl rfl rfl (by kernel_rfl))
    (of_decide_eq_true (by kernel_rfl)) (by unfold Func.isWrapper; rw [if_neg (by decide +kernel)]; exact ⟨rfl, rfl⟩)
    (fun os started H enc _ => lifted os started H enc)

theorem proved : Rows.PoolRunsSaid := over
#print axioms proved
end Go.Proofs.Ytgajongbbaccjaa.poolRuns
