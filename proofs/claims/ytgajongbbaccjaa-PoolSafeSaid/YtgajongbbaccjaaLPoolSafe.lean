/-
  PoolSafe: whatever size, counts and acts are, the law answers true. No conditions.
-/
import Derived.Test.YtgajongbbaccjaaPoolL
import Derived.Test.YtgajongbbaccjaaPoolP
import Derived.Test.YtgajongbbaccjaaLaw
namespace Go.Proofs.Ytgajongbbaccjaa.poolSafe
open Go.ChangeShapes Go.WideShapes Go.ChangeAt Go.RowKit
set_option maxRecDepth 100000

/-- What holds at the head of a round: the pool at b, the counts of the last commit at x. -/
structure Inv (w3 wr : World) (b x : Nat) (n : Nat) (Q : PM) (B : Nat → Nat) : Prop where
  pool : PoolAt wr b Q
  base : wr.heap[x]? = some (.cells (cntList B).toArray 41 (0, 0))
  hB : ∀ i, B i ≤ 255
  kept : Kept (fun j => j = b ∨ j = x) w3 wr
  safe : SafeInv Q B
theorem Inv.alloc {w3 wr : World} {b x n : Nat} {Q : PM} {B : Nat → Nat} (h : Inv w3 wr b x n Q B) (o : Obj) : Inv w3 (wr.alloc o) b x n Q B :=
  ⟨h.pool.kept ((Kept.refl (fun _ => False) wr).alloc o) id, ((Kept.refl (fun _ => False) wr).alloc o).get h.base id, h.hB, h.kept.alloc o, h.safe⟩
theorem Inv.to {w3 wr w' : World} {b x n : Nat} {Q Q' : PM} {B : Nat → Nat} (h : Inv w3 wr b x n Q B) (hx : x ≠ b) (k : PoolTo b Q' wr w') (hs : SafeInv Q' B) : Inv w3 w' b x n Q' B :=
  ⟨k.pool, k.kept.get h.base hx, h.hB, h.kept.trans (k.kept.mono fun _ e => .inl e), hs⟩
set_option maxHeartbeats 2000000 in
theorem walk (size : Int) (_hs : -9223372036854775808 ≤ size ∧ size ≤ 9223372036854775807) (c : Nat → Nat) (hc : ∀ i, c i ≤ 255) (hc240 : ∀ i, 240 ≤ i → c i = 0) (v : Value) (l : List (Int × Int)) {w : World} (hl : PairsAt w v l) :
    Calls Try.prog 7 #[.int .i64 size, .agg (cntList c).toArray, v] w fun e w' => e = .returned (.bool true) ∧ Fresh w w' := by
  obtain ⟨⟨A, cap, rfl, hcap, hmax, hget⟩, hwf⟩ := hl
  unfold maxLen at hmax
  by_cases hlong : 150 < l.length
  · go_enter Try.func7, Try.ntmps7
    go_wp2_with fail
    refine (poolAlive_any _).mono ?_
    rintro e w1 ⟨rfl, k1⟩
    go_wp2_with fail
    go_ret
    exact ⟨rfl, ((Kept.refl _ _).alloc _).trans k1⟩
  by_cases hbad : ∃ i, clampN size ≤ i ∧ i < 240 ∧ c i ≠ 0
  · obtain ⟨i, hi1, hi2, hi3⟩ := hbad
    go_enter Try.func7, Try.ntmps7
    go_wp2_with fail
    refine (poolAlive_any _).mono ?_
    rintro e w1 ⟨rfl, k1⟩
    have hbox : w1.heap[w.heap.size]? = some (.cells (cntList c).toArray 30 (0, 0)) := k1.get (heap_alloc_new w _) id
    have k0 : Fresh w w1 := ((Kept.refl _ _).alloc _).trans k1
    go_wp2_with (refine wpList_load_agg 30 rfl rfl rfl _ Try.underlying30 rfl (cntList c) (by rw [cntList_len]; kernel_rfl) (fun j v hv => by rw [cell_of_heap hbox, Nat.zero_add]; simpa using hv) ?_)
    refine (load_bad size c _ i hi1 hi2 hi3).mono ?_
    rintro e w2 ⟨rfl, k2⟩
    go_wp2_with fail
    go_ret
    exact ⟨rfl, k0.trans k2⟩
  have hz : ∀ i, clampN size ≤ i → i < 240 → c i = 0 := fun i h1 h2 => by
    by_cases h : c i = 0
    · exact h
    · exact absurd ⟨i, h1, h2, h⟩ hbad
  clear hbad
  have hget' := Lib.hid hget; clear hget
  have hc' := Lib.hid hc; clear hc
  have hz' := Lib.hid hz; clear hz
  have hc240' := Lib.hid hc240; clear hc240
  go_enter Try.func7, Try.ntmps7
  go_wp2_with fail
  refine (poolAlive_any _).mono ?_
  rintro e w1 ⟨rfl, k1⟩
  have hbox : w1.heap[w.heap.size]? = some (.cells (cntList c).toArray 30 (0, 0)) := k1.get (heap_alloc_new w _) id
  have k0 : Fresh w w1 := ((Kept.refl _ _).alloc _).trans k1
  go_wp2_with (refine wpList_load_agg 30 rfl rfl rfl _ Try.underlying30 rfl (cntList c) (by rw [cntList_len]; kernel_rfl) (fun j v hv => by rw [cell_of_heap hbox, Nat.zero_add]; simpa using hv) ?_)
  refine (load_ok size c _ hc'.out hz'.out).mono ?_
  rintro e w2 ⟨b, rfl, h2⟩
  obtain ⟨P, hP⟩ : ∃ P, P = PM.loaded (clampN size) c := ⟨_, rfl⟩
  rw [← hP] at h2
  have hP' := Lib.hid hP; clear hP
  have k2 := k0.trans h2.kept
  have hb : w.heap.size ≤ b := by have := k0.size; have := h2.new; omega
  go_wp2_with fail
  have hcv : Hid (P.cntVals = cntList c) := by show P.cntVals = _; rw [hP'.out]; rfl
  have cc := counts_any h2.pool
  rw [hcv.out] at cc
  refine cc.mono ?_
  rintro e w3 ⟨rfl, h3⟩
  clear cc
  have p3 := h2.pool.kept h3 id
  have k3 := k2.trans h3
  have hbx : w3.heap.size ≠ b := by have := lt_of_heap p3.heap; omega
  go_wp2_with (first | (refine wpList_alloc_as 41 rfl rfl (.agg cntZero) cnt_zero ?_) | (refine wpList_store_whole 41 rfl rfl rfl (cntList c) rfl (by rw [cntList_len, cnt_cells]) 41 cntZero (heap_alloc_new w3 _) (by rw [cntList_len, cntZero_size]) (cntList_one c) ?_))
  obtain ⟨x, hx⟩ : ∃ x, x = w3.heap.size := ⟨_, rfl⟩
  obtain ⟨w4, hw4⟩ : ∃ w4, w4 = (w3.alloc (.cells cntZero 41)).setRow w3.heap.size (cntList c).toArray := ⟨_, rfl⟩
  rw [← hw4]
  have k34 : Fresh w3 w4 := by rw [hw4]; exact ((Kept.refl _ _).alloc _).setRowNew (Nat.le_refl _) _
  have hx4 : w4.heap[x]? = some (.cells (cntList c).toArray 41 (0, 0)) := by
    rw [hw4, hx, setRow_heap _ _ cntZero _ 41 (0, 0) (heap_alloc_new w3 _)]
  have hxw : w.heap.size ≤ x := by rw [hx]; exact k3.size
  rw [← hx] at hbx ⊢
  have p4 := p3.kept k34 id
  have k4 := k3.trans k34
  clear hw4 hx h3 p3 k3 k34 k2 k0 k1 hbox
  have hs0 : SafeInv P c := by
    rw [hP'.out]
    refine ⟨fun i hi => .inl ⟨hi, rfl⟩, fun i hi => ?_⟩
    have hi' : clampN size ≤ i := hi
    rcases Nat.lt_or_ge i 240 with h | h
    · exact hz'.out i hi' h
    · exact hc240'.out i h
  have I0 : Inv w4 w4 b x l.length P c := ⟨p4, hx4, hc'.out, Kept.refl _ _, hs0⟩
  clear hs0 p4 hx4
  go_loopw [36] (fun i wr => ∃ k : Nat, k ≤ l.length ∧ i = .int .i64 k ∧ ∃ Q B, Inv w4 wr b x l.length Q B) (fun i _ => l.length - (intOf i).toNat)
  case atStart => exact ⟨0, Nat.zero_le _, rfl, P, c, I0⟩
  case round =>
    obtain ⟨k, hk, rfl, Q, B, hI⟩ := hrel
    by_cases hlt : k < l.length
    · obtain ⟨y, hy⟩ : ∃ y, l[k]? = some y := ⟨_, List.getElem?_eq_getElem hlt⟩
      obtain ⟨ab, ao, rfl, hab, c1, c2⟩ := hget'.out k y hy
      have c1' := hI.kept.cell (k4.cell c1 id) (fun e => by simp at e; omega)
      have c2' := hI.kept.cell (k4.cell c2 id) (fun e => by simp at e; omega)
      have hIa := fun o => hI.alloc o
      have hIa' := Lib.hid hIa; clear hIa
      clear c1 c2
      have hy' := Lib.hid hy; clear hy
      obtain ⟨x1, x2⟩ := y
      dsimp only at c1' c2'
      by_cases g0 : x1 = 0
      · subst g0
        have ts := hI.safe.take
        have tk := fun o => take_all (hIa'.out o).pool
        rcases hti : Q.takeIx with _ | i
        · have e1 : Q.takeErr = 71 := by simp [PM.takeErr, hti]
          rw [e1] at tk
          have tk' := Lib.hid tk; clear tk e1
          have ts' := Lib.hid ts; clear ts hti
          go_wp2_with fail
          refine (tk'.out _).mono ?_
          rintro e w5 ⟨rfl, h5⟩
          go_wp2_with fail
          go_roundw
          case rel => exact ⟨k + 1, by omega, by go_num, _, _, (hIa'.out _).to hbx h5 ts'.out.1⟩
          case measure => simp [intOf]; omega
        · have e1 : Q.takeErr = 0 := by simp [PM.takeErr, hti]
          have e2 : Q.takeAns = i := by simp [PM.takeAns, hti]
          have hil : i < 240 := Nat.lt_of_lt_of_le (PM.takeN_some hti).1 hI.pool.hsize
          have hB0 := ts.2 i hti
          rw [e1, e2] at tk
          have tk' := Lib.hid tk; clear tk e1 e2
          have ts' := Lib.hid ts; clear ts hti
          have hB0' := Lib.hid hB0; clear hB0
          go_wp2_with fail
          refine (tk'.out _).mono ?_
          rintro e w5 ⟨rfl, h5⟩
          have i5 := (hIa'.out _).to hbx h5 ts'.out.1
          have hcell : w5.cell? ⟨x, i, none⟩ = some (.int .u8 0) := by
            rw [cell_of_heap i5.base]
            have := cntList_get B i hil
            rw [hB0'.out] at this
            simpa using this
          have hil' : (i : Int) < 240 := by omega
          go_wp2_with fail
          go_roundw
          case rel => exact ⟨k + 1, by omega, by go_num, _, _, i5⟩
          case measure => simp [intOf]; omega
      by_cases g1 : x1 = 1
      · subst g1
        go_wp2_with fail
        refine (hold_all (hIa'.out _).pool x2).mono ?_
        rintro e w5 ⟨rfl, h5⟩
        go_wp2_with fail
        go_roundw
        case rel => exact ⟨k + 1, by omega, by go_num, _, _, (hIa'.out _).to hbx h5 (hI.safe.hold x2)⟩
        case measure => simp [intOf]; omega
      by_cases g2 : x1 = 2
      · subst g2
        go_wp2_with fail
        refine (drop_all (hIa'.out _).pool x2).mono ?_
        rintro e w5 ⟨rfl, h5⟩
        go_wp2_with fail
        go_roundw
        case rel => exact ⟨k + 1, by omega, by go_num, _, _, (hIa'.out _).to hbx h5 (hI.safe.drop x2)⟩
        case measure => simp [intOf]; omega
      by_cases g5 : x1 = 5
      · subst g5
        go_wp2_with fail
        refine (mark_any (hIa'.out _).pool).mono ?_
        rintro e w5 ⟨c5, rfl, hc5, hp5, h5⟩
        go_wp2_with fail
        go_roundw
        case rel => exact ⟨k + 1, by omega, by go_num, _, _, (hIa'.out _).to hbx h5 (hI.safe.turn (by omega) (by omega))⟩
        case measure => simp [intOf]; omega
      by_cases g6 : x1 = 6
      · subst g6
        go_wp2_with fail
        refine (tidy_any (hIa'.out _).pool).mono ?_
        rintro e w5 ⟨rfl, h5⟩
        go_wp2_with fail
        go_roundw
        case rel => exact ⟨k + 1, by omega, by go_num, _, _, (hIa'.out _).to hbx h5 (hI.safe.turn (by omega) (by omega))⟩
        case measure => simp [intOf]; omega
      by_cases g3 : x1 = 3
      · subst g3
        have hqs := hI.pool.hsize
        have hfc := free_commit hI.pool.hsize hI.safe.out
        have hfc' := Lib.hid hfc; clear hfc
        have hqc := hI.pool.hcnt
        have hqc' := Lib.hid hqc; clear hqc
        go_wp2_with fail
        refine (commit_any (hIa'.out _).pool).mono ?_
        rintro e w5 ⟨rfl, h5⟩
        go_wp2_with fail
        refine (counts_any h5.pool).mono ?_
        rintro e w6 ⟨rfl, h6⟩
        have hb6 : w6.heap[x]? = some (.cells (cntList B).toArray 41 (0, 0)) := h6.get (h5.kept.get (hIa'.out _).base hbx) id
        have p6 := h5.pool.kept h6 id
        have k6 := ((hIa'.out _).kept.trans (h5.kept.mono fun _ e => .inl e)).trans (h6.mono fun _ e => e.elim)
        go_wp2_with (first | (refine wpList_store_whole 41 rfl rfl rfl (cntList Q.cnt) rfl (by rw [cntList_len, cnt_cells]) 41 (cntList B).toArray hb6 (by rw [cntList_len, List.size_toArray, cntList_len]) (cntList_one _) ?_) | (refine wpList_load_agg 41 rfl rfl rfl _ Try.underlying41 rfl (cntList Q.cnt) (by rw [cntList_len, cnt_cells]) (fun j v hv => by rw [cell_of_heap (setRow_heap _ _ _ _ _ _ hb6), Nat.zero_add]; simpa using hv) ?_))
        obtain ⟨w7, hw7⟩ : ∃ w7, w7 = w6.setRow x (cntList Q.cnt).toArray := ⟨_, rfl⟩
        rw [← hw7]
        have hx7 : w7.heap[x]? = some (.cells (cntList Q.cnt).toArray 41 (0, 0)) := by rw [hw7, setRow_heap _ _ _ _ _ _ hb6]
        have k67 : Kept (fun j => j = x) w6 w7 := by rw [hw7]; exact Kept.setRow (S := fun j => j = x) (Kept.refl _ _) rfl _
        have p7 := p6.kept k67 (fun e => hbx e.symm)
        have i7 : Inv w4 w7 b x l.length Q.committed Q.cnt := ⟨p7, hx7, hqc'.out, k6.trans (k67.mono fun _ e => .inr e), hI.safe.commit⟩
        clear hw7 hb6 p6 k6 k67
        have hget2 := fun j hj => cntList_get Q.cnt j hj
        have hget2' := Lib.hid hget2; clear hget2
        go_loop [14, 92] (fun n i => ∃ q : Nat, q ≤ 240 ∧ i = .int .i64 q ∧ n = .int .i64 (heldN Q.cnt q)) (fun _ i => 240 - (intOf i).toNat)
        case atStart => exact ⟨0, by omega, rfl, rfl⟩
        case round =>
          obtain ⟨q, hq, rfl, rfl⟩ := hrel
          have hle := heldN_le Q.cnt q
          by_cases hlt2 : q < 240
          · have hix := fun wx => run_index_agg (P := Try.prog) Try.underlying41 Try.underlying5 rfl (by kernel_rfl) (cntList Q.cnt) hlt2 (hget2'.out q hlt2) .i64 wx
            by_cases hpos : 0 < Q.cnt q
            · have HS : Hid (heldN Q.cnt (q + 1) = heldN Q.cnt q + 1) := by show heldN Q.cnt q + _ = _; rw [if_pos hpos]
              go_wp2_with fail
              go_round
              case rel => exact ⟨q + 1, by omega, by go_num, by rw [HS.out]; go_num⟩
              case measure => simp [intOf]; omega
            · have HS : Hid (heldN Q.cnt (q + 1) = heldN Q.cnt q) := by show heldN Q.cnt q + _ = _; rw [if_neg hpos]; rfl
              go_wp2_with fail
              go_round
              case rel => exact ⟨q + 1, by omega, by go_num, by rw [HS.out]⟩
              case measure => simp [intOf]; omega
          · obtain rfl : q = 240 := by omega
            have fc := freeCount_any p7
            rw [hfc'.out] at fc
            have fc' := Lib.hid fc; clear fc
            go_wp2_with fail
            refine (fc'.out).mono ?_
            rintro e w8 ⟨rfl, rfl⟩
            go_wp2_with fail
            refine (size_any p7).mono ?_
            rintro e w8 ⟨rfl, rfl⟩
            have hsz : Hid (Q.committed.size = Q.size) := rfl
            rw [hsz.out]
            go_wp2_with fail
            go_roundw
            case rel => exact ⟨k + 1, by omega, by go_num, _, _, i7⟩
            case measure => simp [intOf]; omega
      have e0 : (x1 == 0) = false := by simpa using g0
      have e1 : (x1 == 1) = false := by simpa using g1
      have e2 : (x1 == 2) = false := by simpa using g2
      have e3 : (x1 == 3) = false := by simpa using g3
      have e5 : (x1 == 5) = false := by simpa using g5
      have e6 : (x1 == 6) = false := by simpa using g6
      clear g0 g1 g2 g3 g5 g6
      go_wp2_with fail
      go_roundw
      case rel => exact ⟨k + 1, by omega, by go_num, Q, B, hIa'.out _⟩
      case measure => simp [intOf]; omega
    · go_wp2_with fail
      go_ret
      exact ⟨rfl, k4.then_new hI.kept (fun j e => by rcases e with rfl | rfl; exact hb; exact hxw)⟩
set_option maxRecDepth 100000 in
theorem lifted (os : Os) (started : os.Started) (H : Type) (enc : TypeId × Value → H) :
    ReturnsInHanded {} Try.checked os 7 .any (Rows.poolSafeSpec.pre6 enc Try.prog Try.f7 Rows.poolSafeRow.domain false) (Rows.poolSafeSpec.post enc Try.prog Try.f7 false true false false) := by
  refine law_lift os started 7 Try.f7 Try.func7 (by kernel_rfl) Rows.poolSafeSpec rfl ?_ rfl (by kernel_rfl)
    (ChangeSpec.witness6 (enc := enc) (C := Try.checked) false ⟨#[], #[.int .i64 0, .agg (Array.replicate 240 (.int .u8 0)), .slice none 0 0], []⟩ 8 (by kernel_rfl) (by kernel_rfl) (by kernel_rfl) (by kernel_rfl)) ?_
  · intro ds hds
    rw [Try.params7] at hds
    match ds, hds with
    | [_, _, _], _ => rfl
  · intro W base args ds p hval hA
    rw [Try.params7] at hA hval
    obtain ⟨v0, vs0, d0, ds0, p0, q0, hargs, rfl, rfl, h0, r0⟩ := trodAll_cons hA
    obtain ⟨v1, vs1, d1, ds1, p1, q1, rfl, rfl, rfl, h1, r1⟩ := trodAll_cons r0
    obtain ⟨v2, vs2, d2, ds2, p2, q2, rfl, rfl, rfl, h2, r2⟩ := trodAll_cons r1
    obtain ⟨rfl, rfl, rfl⟩ := trodAll_nil r2
    obtain rfl : args = #[v0, v1, v2] := by cases args; simp_all
    obtain ⟨a0, rfl, rfl, rfl, w0⟩ := open_int Try.underlying3 (hval 0 3 v0 rfl rfl) h0
    obtain ⟨a1, rfl, w1, z1⟩ := open_bytes (n := 240) Try.underlying30 Try.underlying5 (by kernel_rfl) (by kernel_rfl) (hval 1 30 v1 rfl rfl) h1
    obtain ⟨a2, w2⟩ := open_pairs Try.underlying37 Try.underlying39 rfl rfl rfl Try.underlying3 Try.underlying3 (by kernel_rfl) (by kernel_rfl) (by kernel_rfl) (hval 2 37 v2 rfl rfl) h2
    exact (walk a0 (wf_i64 w0) a1 w1 z1 v2 a2 w2).mono fun e W' ⟨he, hk⟩ => ⟨he, hk.below (Nat.le_refl _) (fun _ _ h => h)⟩

theorem over : Rows.poolSafeRow.holds Try.pinned (OpenSpec.ofChange Rows.poolSafeSpec) :=
  OpenClaim.holds_of_wide 7 Try.f7 rfl rfl rfl rfl rfl rfl rfl ⟨rfl, rfl, rfl, rfl, rfl⟩ rfl rfl rfl rfl rfl (by kernel_rfl) Try.func7 (joined_of _ _ _ _ rfl rfl rfl (by kernel_rfl))
    (of_decide_eq_true (by kernel_rfl)) (by unfold Func.isWrapper; rw [if_neg (by decide +kernel)]; exact ⟨rfl, rfl⟩)
    (fun os started H enc _ => lifted os started H enc)

theorem proved : Rows.PoolSafeSaid := over
#print axioms proved
end Go.Proofs.Ytgajongbbaccjaa.poolSafe
