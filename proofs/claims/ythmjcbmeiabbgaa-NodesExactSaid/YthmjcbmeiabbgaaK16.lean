/-
  Trees (package tree): Build.
-/
import Derived.Test.YthmjcbmeiabbgaaK03
import Derived.Test.YthmjcbmeiabbgaaK13
import Derived.Test.YthmjcbmeiabbgaaK15
set_option linter.unusedVariables false
set_option linter.unusedSimpArgs false
namespace Go.Proofs.Ythmjcbmeiabbgaa
open Go.RowKit
set_option maxRecDepth 100000

theorem put_log (M : SM) (root key page : Int) : (M.put root key page).1.log.length ≤ M.log.length + 22 := by
  unfold SM.put
  dsimp only
  split
  · dsimp only; omega
  · split
    · have := top_bound M ⟨2, List.replicate 16 0, [(key, page)]⟩
      omega
    · have h1 := putF_log 9 M root (key, page)
      split
      · have := top_bound (SM.putF 9 M root (key, page)).1 (SM.putF 9 M root (key, page)).2.1
        omega
      · dsimp only; omega
theorem swap_log (M : SM) (a b : Int) : (M.swap a b).1.log = M.log := by
  unfold SM.swap
  dsimp only
  have h1 : (if b = -1 then (M, 0) else M.hold b).1.log = M.log := by split <;> rfl
  obtain ⟨R, hR⟩ : ∃ R, (if b = -1 then (M, 0) else M.hold b) = R := ⟨_, rfl⟩
  rw [hR] at h1 ⊢
  split
  · split
    · exact h1
    · unfold SM.drop
      rw [(dropF_live 241 R.1 a).2.1]; exact h1
  · exact h1
/-- Build from somewhere in the list on. -/
theorem build_cons (x : Int × Int) (l : List (Int × Int)) (M : SM) (root : Int) : SM.build (x :: l) M root =
    if (M.put root x.1 x.2).2.2 = 0 then (if ((M.put root x.1 x.2).1.swap root (M.put root x.1 x.2).2.1).2 = 0 then SM.build l ((M.put root x.1 x.2).1.swap root (M.put root x.1 x.2).2.1).1 (M.put root x.1 x.2).2.1 else (((M.put root x.1 x.2).1.swap root (M.put root x.1 x.2).2.1).1, -1, ((M.put root x.1 x.2).1.swap root (M.put root x.1 x.2).2.1).2)) else ((M.put root x.1 x.2).1, -1, (M.put root x.1 x.2).2.2) := rfl

set_option maxHeartbeats 4000000 in
theorem treeBuild {w : World} {A : SA} {M : SM} (h : StoreAt w A M) {v : Value} {l : List (Int × Int)} (hv : EntsOff w A v l) (hl : l.length ≤ 1000) (hfew : M.log.length + 100000 < 100000000) :
    Calls Try.prog 18 #[.agg #[.pointer (some ⟨A.sb, 0, none⟩)], v] w fun e w' => ∃ A', e = .returned (.tuple #[.int .i64 (SM.build l M (-1)).2.1, .int .i64 (SM.build l M (-1)).2.2]) ∧ StoreTo A A' (SM.build l M (-1)).1 w w' := by
  obtain ⟨Av, cap, rfl, hf1, hf2⟩ := hv.at_.form
  unfold maxLen at hf2
  obtain ⟨w1, hw1⟩ : ∃ w1, w.alloc (.cells #[.pointer (some ⟨A.sb, 0, none⟩)] 26) = w1 := ⟨_, rfl⟩
  have k1 : Kept (fun _ => False) w w1 := by rw [← hw1]; exact (Kept.refl _ _).alloc _
  have s1 : w1.heap.size = w.heap.size + 1 := by rw [← hw1]; simp
  have t1 : w1.heap[w.heap.size]? = some (.cells #[.pointer (some ⟨A.sb, 0, none⟩)] 26 (0, 0)) := by rw [← hw1]; exact heap_alloc_new _ _
  have hw1' := Lib.hid hw1
  have st1 : Safe w1 A w.heap.size := Safe.new h (Nat.le_refl _) (by omega)
  have I0 : Hid (StoreTo A A M w w1 ∧ w1.heap[w.heap.size]? = some (.cells #[.pointer (some ⟨A.sb, 0, none⟩)] 26 (0, 0)) ∧ Safe w1 A w.heap.size ∧ EntsOff w1 A (.slice Av l.length cap) l ∧ M.log.length ≤ M.log.length + 22 * 0) := Lib.hid ⟨(StoreTo.refl h).fresh k1, t1, st1, hv.fresh k1, Nat.le_refl _⟩
  have h' := Lib.hid h
  clear hw1 k1 s1 t1 st1 h hv
  go_enter Try.func18, Try.ntmps18
  go_wp2_with (first | (refine wpList_box_named 26 rfl rfl _ rfl hw1'.out ?_))
  go_loopw [6, 13] (fun r x wr => ∃ (k : Nat) (A' : SA) (M' : SM) (root : Int), k ≤ l.length ∧ x = .int .i64 k ∧ r = .int .i64 root ∧ Hid (SM.build (l.drop k) M' root = SM.build l M (-1)) ∧ Hid (StoreTo A A' M' w wr ∧ wr.heap[w.heap.size]? = some (.cells #[.pointer (some ⟨A.sb, 0, none⟩)] 26 (0, 0)) ∧ Safe wr A' w.heap.size ∧ EntsOff wr A' (.slice Av l.length cap) l ∧ M'.log.length ≤ M.log.length + 22 * k)) (fun _ x _ => l.length - (intOf x).toNat)
  case atStart => exact ⟨0, A, M, -1, Nat.zero_le _, rfl, rfl, Lib.hid rfl, I0⟩
  case round =>
    obtain ⟨k, A', M', root, hk, rfl, rfl, hq, hI⟩ := hrel
    by_cases hlt : k < l.length
    · obtain ⟨x, hx⟩ : ∃ x, l[k]? = some x := ⟨_, List.getElem?_eq_getElem hlt⟩
      have hd : Hid (l.drop k = x :: l.drop (k + 1)) := Lib.hid (by
        obtain ⟨hkl, hxe⟩ := List.getElem?_eq_some_iff.1 hx
        rw [List.drop_eq_getElem_cons hkl, hxe])
      have hstep := hq.out
      rw [hd.out, build_cons] at hstep
      obtain ⟨hT, htb, hsafe, hents, hlog⟩ := hI.out
      obtain ⟨b, off, hAv, hbl, hx1, hx2⟩ := EntsAt.get hents.at_ hx
      cases hAv
      obtain ⟨xb, hxb⟩ : ∃ xb, wr.heap.size = xb := ⟨_, rfl⟩
      obtain ⟨w2, hw2⟩ : ∃ w2, (wr.alloc (.cells #[.int .i64 0, .int .i64 0] 35)).setRow xb #[.int .i64 x.1, .int .i64 x.2] = w2 := ⟨_, rfl⟩
      have k2 : Kept (fun _ => False) wr w2 := by rw [← hw2]; exact ((Kept.refl _ _).alloc _).setRowNew (by omega) _
      have x2 : w2.heap[xb]? = some (.cells #[.int .i64 x.1, .int .i64 x.2] 35 (0, 0)) := by rw [← hw2, ← hxb]; exact setRow_heap _ _ _ _ _ _ (heap_alloc_new _ _)
      have t2 := k2.get htb id
      have c1 := cell_of_heap x2 0
      have c2 := cell_of_heap x2 1
      simp at c1 c2
      have hT2 := hT.fresh k2
      have hP := treePut hT2.store root x.1 x.2 (by omega)
      rw [hT.sb] at hP
      have hlogP := put_log M' root x.1 x.2
      obtain ⟨R, hR⟩ : ∃ R, M'.put root x.1 x.2 = R := ⟨_, rfl⟩
      rw [hR] at hP hstep hlogP
      obtain ⟨M2, next, er⟩ := R
      dsimp only at hP hstep hlogP
      have hloade : Hid (∀ j v, [Value.int .i64 x.1, .int .i64 x.2][j]? = some v → (wr.alloc (.cells #[.int .i64 0, .int .i64 0] 35)).cell? ⟨b, off + k * 2 + j, none⟩ = some v ∧ wr.cell? ⟨b, off + k * 2 + j, none⟩ = some v) := Lib.hid (fun j v hj => by
        have kA := (Kept.refl (fun _ => False) wr).alloc (.cells #[.int .i64 0, .int .i64 0] 35)
        match j, hj with
        | 0, hj => cases hj; exact ⟨kA.cell hx1 id, hx1⟩
        | 1, hj => cases hj; exact ⟨kA.cell hx2 id, hx2⟩)
      have hloadt : Hid (∀ j v, [Value.pointer (some ⟨A.sb, 0, none⟩)][j]? = some v → w2.cell? ⟨w.heap.size, 0 + j, none⟩ = some v) := Lib.hid (fun j v hj => by rw [Nat.zero_add, cell_of_heap t2]; simpa using hj)
      have hP' := Lib.hid hP
      have hstep' := Lib.hid hstep
      have hxb' := Lib.hid hxb
      have hw2' := Lib.hid hw2
      have hT2' := Lib.hid hT2
      have sf2 := Lib.hid (hsafe.fresh k2)
      have t2' := Lib.hid t2
      have he2 := Lib.hid (hents.fresh k2)
      have hki : (k : Int) < (l.length : Int) := by omega
      clear hx hR hP hstep hT htb hsafe hents hxb hw2 k2 x2 t2 hT2 hx1 hx2 hI hq
      go_wp2_with (first | (refine wpList_alloc_as 35 rfl rfl #[.int .i64 0, .int .i64 0] entry_zero ?_; rw [hxb'.out]) | (refine wpList_store_whole 35 rfl rfl rfl [.int .i64 x.1, .int .i64 x.2] rfl entry_size 35 #[.int .i64 0, .int .i64 0] (by rw [← hxb'.out]; exact heap_alloc_new _ _) rfl (by intro c hc; simp at hc; rcases hc with rfl | rfl <;> rfl) ?_; rw [hw2'.out]) | (refine wpList_load_agg 26 rfl rfl rfl _ Try.underlying26 rfl [.pointer (some ⟨A.sb, 0, none⟩)] (by kernel_rfl) hloadt.out ?_) | (refine wpList_load_agg 35 rfl rfl rfl _ Try.underlying35 rfl [.int .i64 x.1, .int .i64 x.2] (by kernel_rfl) (fun j v hj => (hloade.out j v hj).2) ?_))
      refine hP'.out.mono ?_
      rintro e w3 ⟨A3, rfl, hT3⟩
      have hT23 := hT2'.out.trans hT3
      have t3 := hT3.get t2'.out sf2.out
      have sf3 := Lib.hid (sf2.out.to hT3)
      have he3 := Lib.hid (he2.out.to hT3)
      have t3' := Lib.hid t3
      have hT23' := Lib.hid hT23
      have hsb3 := hT23.sb
      have hloadt3 : Hid (∀ j v, [Value.pointer (some ⟨A.sb, 0, none⟩)][j]? = some v → w3.cell? ⟨w.heap.size, 0 + j, none⟩ = some v) := Lib.hid (fun j v hj => by rw [Nat.zero_add, cell_of_heap t3]; simpa using hj)
      clear hT3 t3 hT23
      by_cases h0 : er = 0
      · subst h0
        rw [if_pos rfl] at hstep'
        have hS := treeSwap hT23'.out.store root next
        rw [hsb3] at hS
        have hlogS := swap_log M2 root next
        obtain ⟨R, hR⟩ : ∃ R, M2.swap root next = R := ⟨_, rfl⟩
        rw [hR] at hS hstep' hlogS
        obtain ⟨M3, es⟩ := R
        dsimp only at hS hstep' hlogS
        have hS' := Lib.hid hS
        have hlogS' := Lib.hid hlogS
        clear hR hS hsb3 hlogS
        go_wp2_with (first | (refine wpList_load_agg 26 rfl rfl rfl _ Try.underlying26 rfl [.pointer (some ⟨A.sb, 0, none⟩)] (by kernel_rfl) hloadt3.out ?_))
        refine hS'.out.mono ?_
        rintro e w4 ⟨rfl, hT4⟩
        have hT34 := Lib.hid (hT23'.out.trans hT4)
        have t4 := Lib.hid (hT4.get t3'.out sf3.out)
        have sf4 := Lib.hid (sf3.out.to hT4)
        have he4 := Lib.hid (he3.out.to hT4)
        clear hT4
        by_cases h1 : es = 0
        · subst h1
          rw [if_pos rfl] at hstep'
          go_wp2_with fail
          go_roundw
          case rel => exact ⟨k + 1, A3, M3, next, by omega, by go_num, rfl, hstep', Lib.hid ⟨hT34.out, t4.out, sf4.out, he4.out, by rw [hlogS'.out]; omega⟩⟩
          case measure => simp [intOf]; omega
        · rw [if_neg h1] at hstep'
          have h1' : ((es : Int) == 0) = false := by simp; omega
          clear h1
          go_wp2_with fail
          go_ret2
          exact ⟨A3, by rw [← hstep'.out]; rfl, by rw [← hstep'.out]; exact hT34.out⟩
      · rw [if_neg h0] at hstep'
        have h0' : ((er : Int) == 0) = false := by simp; omega
        clear h0 hsb3
        go_wp2_with fail
        go_ret2
        exact ⟨A3, by rw [← hstep'.out]; rfl, by rw [← hstep'.out]; exact hT23'.out⟩
    · obtain rfl : k = l.length := by omega
      have hend : Hid (SM.build l M (-1) = (M', root, 0)) := Lib.hid (by rw [← hq.out, List.drop_length]; rfl)
      have hT := Lib.hid hI.out.1
      clear hI hq
      go_wp2_with fail
      go_ret2
      exact ⟨A', by rw [hend.out]; rfl, by rw [hend.out]; exact hT.out⟩
end Go.Proofs.Ythmjcbmeiabbgaa
/-
  Layer 10's laws: an empty store with a page of a block.
-/
namespace Go.Proofs.Ythmjcbmeiabbgaa
open Go.RowKit
set_option maxRecDepth 100000

/-- A block's node. -/
def dataN (b : Nat) : NM := ⟨1, b :: List.replicate 15 0, []⟩
theorem dataN_ok (b : Nat) (hb : b < 256) : (dataN b).ok := by
  refine ⟨rfl, rfl, ?_⟩
  intro c hc
  simp only [dataN, List.mem_cons] at hc
  rcases hc with rfl | hc
  · exact hb
  · rw [List.eq_of_mem_replicate hc]; decide
/-- A store with a page of a block, held once. -/
def madeM (s b : Nat) : SM := ⟨((PM.fresh0 s).setSt 0 1).setCnt 0 1, [(0, dataN b)]⟩
theorem fresh0_take (s : Nat) (hs : 0 < s) : (PM.fresh0 s).takeIx = some 0 := by
  have : ∀ n, (PM.fresh0 s).takeN (n + 1) = some 0 := by
    intro n
    induction n with
    | zero => rfl
    | succ n ih => rw [PM.takeN, ih]
  obtain ⟨k, rfl⟩ : ∃ k, s = k + 1 := ⟨s - 1, by omega⟩
  exact this k
theorem make_first (s b : Nat) (hs : 0 < s) : SM.make ⟨PM.fresh0 s, []⟩ (dataN b) = (⟨(PM.fresh0 s).setSt 0 1, [(0, dataN b)]⟩, 0, 0) := by
  unfold SM.make
  rw [if_pos (by rfl), if_neg (by simp [dataN])]
  rw [show (SM.mk (PM.fresh0 s) []).pool.takeIx = some 0 from fresh0_take s hs]
  rfl
theorem hold_first (s b : Nat) (hs : 0 < s) : SM.hold ⟨(PM.fresh0 s).setSt 0 1, [(0, dataN b)]⟩ 0 = (madeM s b, 0) := by
  have hh : ((PM.fresh0 s).setSt 0 1).heldB ((0 : Nat) : Int) = true := by
    rw [heldB_nat]
    simp [PM.live, PM.setSt, PM.fresh0, hs]
  have hh' : ((PM.fresh0 s).setSt 0 1).heldB 0 = true := hh
  unfold SM.hold PM.holdTo PM.holdErr
  dsimp only
  rw [hh']
  rfl

theorem tree_zero : (Try.prog.info? 26).map (·.zero) = some (some (.agg #[.pointer none])) := by kernel_rfl
set_option maxHeartbeats 4000000 in
theorem made10 (x : Int) (h0 : 5 ≤ x) (h1 : x ≤ 1000) (w : World) :
    Calls Try.prog 14 #[.int .i64 x] w fun e w' => ∃ A, e = .returned (.tuple #[.agg #[.pointer (some ⟨A.sb, 0, none⟩)], .int .i64 0]) ∧ StoreAt w' A (madeM (min x 244 - 4).toNat 9) ∧ Kept (fun _ => False) w w' ∧ ∀ k, A.own k → w.heap.size ≤ k := by
  obtain ⟨s, hs⟩ : ∃ s, (min x 244 - 4).toNat = s := ⟨_, rfl⟩
  have hsz : Hid (clampN (max 0 (min x 244 - 4)) = s) := Lib.hid (by unfold clampN; omega)
  have hdn : Hid (max 0 (min x 244) = ((s + 4 : Nat) : Int)) := Lib.hid (by omega)
  have hs0 : 0 < s := by omega
  have hs1 : s ≤ 240 := by omega
  obtain ⟨w1, hw1⟩ : ∃ w1, w.alloc (.cells #[.pointer none] 26) = w1 := ⟨_, rfl⟩
  have k1 := Lib.hid (show Kept (fun _ => False) w w1 by rw [← hw1]; exact (Kept.refl _ _).alloc _)
  have t1 := Lib.hid (show w1.heap[w.heap.size]? = some (.cells #[.pointer none] 26 (0, 0)) by rw [← hw1]; exact heap_alloc_new _ _)
  have z1 : Hid (w1.heap.size = w.heap.size + 1) := Lib.hid (by rw [← hw1]; simp)
  have hw1' := Lib.hid hw1
  have hb1 : Hid (∀ w, (Instr.build 30 #[(0, .int .u8 9)]).run Try.prog w = .ok (.agg (blockCells (dataN 9).block).toArray) w) := Lib.hid (fun w => run_build _ _ _ _ (by kernel_rfl))
  have hb2 : Hid (∀ w, (Instr.build 33 #[(0, .int .i64 1), (1, .agg (blockCells (dataN 9).block).toArray)]).run Try.prog w = .ok (.agg (nodeCells (dataN 9) (.slice none 0 0)).toArray) w) := Lib.hid (fun w => run_build _ _ _ _ (by kernel_rfl))
  obtain ⟨B, hB⟩ : ∃ B, blockCells (dataN 9).block = B := ⟨_, rfl⟩
  obtain ⟨C, hC⟩ : ∃ C, nodeCells (dataN 9) (.slice none 0 0) = C := ⟨_, rfl⟩
  rw [hB] at hb1 hb2
  rw [hC] at hb2
  have hC' := Lib.hid hC
  rw [hs]
  clear hw1 hB hC hs
  go_enter Try.func14, Try.ntmps14
  go_wp2_with (first | (refine wpList_alloc_as 26 rfl rfl #[.pointer none] tree_zero ?_; rw [hw1'.out]))
  refine (diskNew (s + 4) (by omega) x hdn.out _).mono ?_
  rintro e w2 ⟨D, rfl, hD, hDn, hDp, hDo, hk2⟩
  have hD' := Lib.hid hD
  have hDn' := Lib.hid hDn
  have hDp' := Lib.hid hDp
  have hDo' := Lib.hid hDo
  have hk2' := Lib.hid hk2
  clear hD hDn hDp hDo hk2
  go_wp2_with fail
  refine (nodesSize x _ (by omega) h1).mono ?_
  rintro e w3 ⟨rfl, rfl⟩
  go_wp2_with fail
  refine (new_any _ _).mono ?_
  rintro e w3 ⟨c, rfl, hnew⟩
  have hP := hnew.pool
  rw [hsz.out] at hP
  have hP' := Lib.hid hP
  have hck := hnew.new
  have hk3 := Lib.hid hnew.kept
  clear hnew hP
  go_wp2_with fail
  refine (nodesNew (hD'.out.fresh hk3.out) hP'.out hDp'.out (fun e => by have := hD'.out.lt _ e; omega) (.inr (by rw [hDn'.out]; exact Nat.le_refl _))).mono ?_
  rintro e w4 ⟨A, rfl, hA, hk4, hAo⟩
  have hA' := Lib.hid hA
  have hk14 := Lib.hid (((hk2'.out.trans hk3.out).trans hk4))
  have hAo' : Hid (∀ k, A.own k → w1.heap.size ≤ k) := Lib.hid (fun k hk => by
    rcases hAo k hk with rfl | h | h
    · have := hk2'.out.size; omega
    · exact hDo'.out _ h
    · have := hk2'.out.size; have := hk3.out.size; omega)
  have hmk := storeMake (n := dataN 9) (sv := .slice none 0 0) hA ⟨sliceNil (by decide), fun _ b hb => by simp [Value.ownBlock] at hb⟩ rfl (dataN_ok 9 (by decide)).2.2 (by show 0 < 100000000; omega)
  rw [make_first s 9 hs0, hC'.out] at hmk
  have hmk' := Lib.hid hmk
  clear hA hk4 hAo hmk
  go_wp2_with (first | (refine wpList_exec rfl (exec_build 30 #[(0, .const (.int .u8 9))] _ rfl (by simp [Act.eval]) (hb1.out _)) ?_) | (refine wpList_exec rfl (exec_build 33 #[(0, .const (.int .i64 1)), (1, .tmp 18)] _ rfl (by simp [Act.eval, Act.put]) (hb2.out _)) ?_))
  refine hmk'.out.mono ?_
  rintro e w5 ⟨A5, rfl, hT5⟩
  have hsb5 := hT5.sb
  have hh := storeHold hT5.store 0
  rw [hold_first s 9 hs0, hsb5] at hh
  have hh' := Lib.hid hh
  have hT5' := Lib.hid hT5
  clear hh hT5 hsb5
  go_wp2_with fail
  refine hh'.out.mono ?_
  rintro e w6 ⟨rfl, hT6⟩
  have hT := Lib.hid (hT5'.out.trans hT6)
  have t6 := Lib.hid (hT.out.kept.get (hk14.out.get t1.out id) (fun e => by have := hAo'.out _ (.inl e); have := z1.out; omega))
  have hk6 : Hid (Kept (fun _ => False) w w6) := Lib.hid ((k1.out.trans hk14.out).trans_new hT.out.kept (fun i hi e => by have := hAo'.out _ (.inl e); have := z1.out; omega))
  have c6 := cell_of_heap t6.out 0
  have f6 := free_of_heap t6.out 0
  simp at c6
  have hk46 : Hid (∀ k, A5.own k → w.heap.size + 1 ≤ k) := Lib.hid (fun k hk => by
    have hz := z1.out
    have hsz4 := hk14.out.size
    rcases hk with hk | hk | hk
    · rcases hT.out.foot k hk with h | h
      · have := hAo'.out _ (.inl h); omega
      · omega
    · rw [hT.out.fix.2] at hk
      have := hAo'.out _ (.inr (.inl hk)); omega
    · rw [hT.out.fix.1] at hk
      have := hAo'.out _ (.inr (.inr hk)); omega)
  have hsb : A5.sb = A.sb := hT.out.sb
  have hbt : Hid (∀ w, (Instr.build 26 #[(0, .pointer (some ⟨A.sb, 0, none⟩))]).run Try.prog w = .ok (.agg [Value.pointer (some ⟨A.sb, 0, none⟩)].toArray) w) := Lib.hid (fun w => run_build _ _ _ _ (by kernel_rfl))
  clear hT6
  go_wp2_with (first | (refine wpList_exec rfl (exec_build 26 #[(0, .tmp 32)] _ rfl (by simp [Act.eval, Act.put]) (hbt.out _)) ?_) | (refine wpList_store_whole 26 rfl rfl rfl [.pointer (some ⟨A.sb, 0, none⟩)] rfl (by kernel_rfl) 26 #[.pointer none] t6.out rfl (by intro c hc; simp at hc; subst hc; rfl) ?_))
  refine bodyPost_ret (results_row_tmp rfl _ _ w.heap.size 26 #[.pointer (some ⟨A.sb, 0, none⟩)] (0, 0) _ rfl (setRow_heap _ _ _ _ 26 (0, 0) t6.out) Try.underlying26 rfl (by kernel_rfl)) rfl ?_
  have kS := (Kept.refl (fun i => i = w.heap.size) w6).setRow rfl #[.pointer (some ⟨A.sb, 0, none⟩)]
  exact ⟨A5, by rw [hsb]; rfl, hT.out.store.kept kS (fun i hi e => by have := hk46.out i hi; omega), hk6.out.setRowNew (Nat.le_refl _) _, fun k hk => by have := hk46.out k hk; omega⟩
end Go.Proofs.Ythmjcbmeiabbgaa
/-
  Trees in a store, plain: the store that a law begins with; what is in a tree; how high one is.
-/
namespace Go.Proofs.Ythmjcbmeiabbgaa
open Go.RowKit

def extOne : Nat → Nat := fun p => if p = 0 then 1 else 0
theorem made_live (s b q : Nat) (hs : 0 < s) : (madeM s b).live q = decide (q = 0) := by
  unfold madeM SM.live PM.live PM.setCnt PM.setSt PM.fresh0
  by_cases hq : q = 0
  · subst hq; simp [hs]
  · simp [hq]
theorem made_node (s b : Nat) : (madeM s b).nodeAt 0 = some (dataN b) := rfl
theorem made_ents (s b q : Nat) : (madeM s b).ents q = [] := by
  unfold SM.ents SM.nodeAt madeM logAt
  simp only [List.foldl_cons, List.foldl_nil]
  by_cases hq : 0 = q
  · rw [if_pos hq]; rfl
  · rw [if_neg hq]
theorem made_exact (s b : Nat) (hs : 0 < s) (h240 : s ≤ 240) (hb : b < 256) : Exact (madeM s b) extOne := by
  refine ⟨h240, fun p => ?_, fun p hp => ?_, fun q hq => ?_, fun q hq x hx => ?_, fun _ => 0, fun q hq x hx => ?_⟩
  · unfold madeM PM.setCnt PM.setSt PM.fresh0
    dsimp only
    split <;> omega
  · have hr : (madeM s b).refs p = 0 := sumN_zero fun q _ => by
      rw [made_ents]
      split <;> rfl
    rw [hr]
    unfold madeM PM.setCnt PM.setSt PM.fresh0 extOne
    dsimp only
    omega
  · rw [made_live s b q hs, decide_eq_true_eq] at hq
    subst hq
    exact ⟨dataN b, rfl, dataN_ok b hb⟩
  · rw [made_ents] at hx; cases hx
  · rw [made_ents] at hx; cases hx
theorem made_free (s b : Nat) (hs : 0 < s) : (madeM s b).pool.freeCount = s - 1 := by
  have : ∀ n, (madeM s b).pool.freeN (n + 1) = n := by
    intro n
    induction n with
    | zero => rfl
    | succ n ih =>
      show (madeM s b).pool.freeN (n + 1) + _ = _
      rw [ih]
      rfl
  obtain ⟨k, rfl⟩ : ∃ k, s = k + 1 := ⟨s - 1, by omega⟩
  exact this k
theorem made_sum (s b : Nat) : (madeM s b).sum = 0 := sumN_zero fun q _ => by
  rw [made_ents]
  split <;> rfl
theorem made_loose (s b : Nat) (hs : 0 < s) (E : List (Int × Int)) : Loose (madeM s b) E := fun q hq hc => by
  rw [made_live s b q hs, decide_eq_true_eq] at hq
  subst hq
  cases hc
theorem made_held (s b : Nat) (hs : 0 < s) : (madeM s b).pool.heldB 0 = true := by
  have h := heldB_nat (madeM s b).pool 0
  have h2 := made_live s b 0 hs
  unfold SM.live at h2
  rw [h2] at h
  exact h

/-- What is in a tree. -/
theorem list_ok {m : Nat} {M : SM} : ∀ (h d : Nat) (p : Int) (l : List (Int × Int)), h + d ≤ 8 → Tr m M h p l → SM.listF (9 - d) M p = (l, 0)
  | 0, _, _, _, _, t => t.elim
  | h + 1, d, p, l, hd, t => by
    obtain ⟨n, hn, hna, hok, k⟩ := tnode_tr t (d := d) (by omega)
    rw [show 9 - d = (8 - d) + 1 by omega, listF_succ, show 8 - (8 - d) = d by omega, hn]
    dsimp only
    rcases k with ⟨_, hk, hl⟩ | ⟨h0, hk, hK⟩
    · rw [if_neg (fun e => e.2 hk), hl]
    · rw [if_pos ⟨rfl, by omega⟩]
      have key : ∀ (es a acc : List (Int × Int)), Kids (Sub m M h) es a → (es.map (·.2)).foldl (listStep (8 - d) M) (acc, 0) = (acc ++ a, 0) := by
        intro es
        induction es with
        | nil => intro a acc hk; rw [show a = [] from hk, List.append_nil]; rfl
        | cons e es ih =>
          intro a acc hk
          obtain ⟨c, b, x, h1, h2, h3, h4, h5⟩ := hk
          have hc := list_ok h (d + 1) e.2 c (by omega) h2.1
          rw [show 9 - (d + 1) = 8 - d by omega] at hc
          rw [List.map_cons, List.foldl_cons, listStep, if_pos rfl, hc, if_pos rfl, ih _ _ h5, h1, List.append_assoc]
      rw [key _ _ _ hK, List.nil_append]
theorem listR_ok {m : Nat} {M : SM} {root : Int} {l : List (Int × Int)} {h : Nat} (t : Rooted m M root l h) (h8 : h ≤ 8) : M.list root = (l, 0) := by
  unfold SM.list
  rcases t with ⟨rfl, rfl, _⟩ | t
  · rw [if_pos rfl]
  · have hne : root ≠ -1 := fun e => by have := (heldB_int t.held).1; omega
    rw [if_neg hne]
    exact list_ok h 0 root l (by omega) t

/-- So many entries has a tree at least. -/
theorem sub_len {M : SM} : ∀ (h : Nat) (p : Int) (l : List (Int × Int)), Sub 3 M h p l → 3 ^ h ≤ l.length
  | 0, _, _, t => t.1.elim
  | h + 1, p, l, ⟨⟨hp, n, hn, hok, k⟩, hm⟩ => by
    rw [entN_of hn] at hm
    have hk := kids_len h
    rcases k with ⟨h0, _, hl⟩ | ⟨_, _, hK⟩
    · subst h0; rw [← hl]; simpa using hm
    · have := hk _ _ hK
      have h3 : 3 * 3 ^ h ≤ n.ents.length * 3 ^ h := Nat.mul_le_mul_right _ hm
      rw [Nat.pow_succ]; omega
where
  kids_len (h : Nat) : ∀ (es l : List (Int × Int)), Kids (Sub 3 M h) es l → es.length * 3 ^ h ≤ l.length
    | [], _, _ => by simp
    | e :: es, l, ⟨a, b, x, h1, h2, h3, h4, h5⟩ => by
      have i1 := sub_len h e.2 a h2
      have i2 := kids_len h es b h5
      rw [h1, List.length_append, List.length_cons, Nat.add_mul]
      omega
theorem tr_len {M : SM} {h : Nat} {p : Int} {l : List (Int × Int)} (t : Tr 3 M (h + 1) p l) (h0 : 0 < h) : 3 ^ h ≤ l.length := by
  obtain ⟨hp, n, hn, hok, k⟩ := t
  rcases k with ⟨h1, _⟩ | ⟨_, _, hK⟩
  · omega
  · have hin := innerOk_of hok (by omega)
    have hpos := hin.pos
    cases he : n.ents with
    | nil => rw [he] at hpos; simp at hpos
    | cons e es =>
      rw [he] at hK
      obtain ⟨a, b, x, h1, h2, _⟩ := hK
      have := sub_len h e.2 a h2
      rw [h1, List.length_append]; omega
theorem rises_len {l : List (Int × Int)} (hr : RisesK l) (hb : ∀ y ∈ l, 0 ≤ y.1 ∧ y.1 < 64) : l.length ≤ 64 := by
  have key : ∀ (l : List (Int × Int)) (c : Int), RisesK l → (∀ y ∈ l, c ≤ y.1 ∧ y.1 < 64) → 0 ≤ c → c ≤ 64 → (l.length : Int) ≤ 64 - c := by
    intro l
    induction l with
    | nil => intro c _ _ _ h; simpa using h
    | cons y l ih =>
      intro c hr hb h0 hc
      have hr' := List.pairwise_cons.1 hr
      have hy := hb y (List.mem_cons_self ..)
      have := ih (y.1 + 1) hr'.2 (fun z hz => ⟨by have := hr'.1 z hz; omega, (hb z (List.mem_cons_of_mem _ hz)).2⟩) (by omega) (by omega)
      rw [List.length_cons]
      omega
  have := key l 0 hr hb (by omega) (by omega)
  omega
theorem tr_high {M : SM} {h : Nat} {p : Int} {l : List (Int × Int)} (t : Tr 3 M h p l) (g : Good M l) : h ≤ 4 := by
  by_cases h1 : h ≤ 1
  · exact Nat.le_trans h1 (by decide)
  · obtain ⟨k, rfl⟩ : ∃ k, h = k + 1 := ⟨h - 1, by omega⟩
    have h2 := tr_len t (by omega)
    have h3 := rises_len g.1 fun y hy => ⟨(g.2 y hy).1, (g.2 y hy).2.1⟩
    by_cases h4 : k ≤ 3
    · omega
    · have : 3 ^ 4 ≤ 3 ^ k := Nat.pow_le_pow_right (by omega) (by omega)
      omega
/-- What a leaf of a split is. -/
theorem leaf_get {m : Nat} {M : SM} {p : Int} {l : List (Int × Int)} (t : Tr m M 1 p l) : ∃ n, M.get p = (n, 0) ∧ n.kind = 2 ∧ n.ents = l ∧ 1 ≤ l.length ∧ l.length ≤ 6 := by
  obtain ⟨hp, n, hn, hok, k⟩ := t
  rcases k with ⟨_, hk, hl⟩ | ⟨h0, _⟩
  · have hin := innerOk_of hok (by omega)
    refine ⟨n, ?_, hk, hl, by rw [← hl]; exact hin.pos, by rw [← hl]; exact hin.le⟩
    unfold SM.get
    rw [if_pos hp, hn]
  · exact absurd h0 (Nat.lt_irrefl 0)
end Go.Proofs.Ythmjcbmeiabbgaa
/-
  Trees in a store, plain: a mark, and what is undone; a root that is held.
-/
namespace Go.Proofs.Ythmjcbmeiabbgaa
open Go.RowKit

/-- What was there at a mark isn't taken, and is as it was written. -/
structure Marked (M0 M : SM) : Prop where
  size : M.pool.size = M0.pool.size
  st : ∀ q, M0.live q = true → M.pool.st q ≠ 1 ∧ (0 < M.pool.cnt q ∨ M.pool.st q = 2 ∨ M.pool.st q = 3 ∨ M.pool.st q = 4)
  node : ∀ q, M0.live q = true → M.nodeAt q = M0.nodeAt q
theorem marked_closed (M0 : SM) : Closed (Marked M0) := by
  refine ⟨fun M i n hi h => ?_, fun M i h => ?_, fun M i hi h => ?_⟩
  · obtain ⟨_, hf⟩ := takeIx_free hi
    simp only [PM.freeB, Bool.and_eq_true, beq_iff_eq] at hf
    have hne : ∀ q, M0.live q = true → q ≠ i := fun q hq e => by
      subst e
      have := h.st q hq
      omega
    refine ⟨h.size, fun q hq => ?_, fun q hq => ?_⟩
    · have := h.st q hq
      simp only [PM.setSt, if_neg (hne q hq)]
      exact this
    · show logAt (M.log ++ [(i, n)]) q = _
      rw [logAt_put, if_neg (fun e => hne q hq e.symm)]
      exact h.node q hq
  · refine ⟨by show (M.pool.holdTo i).size = _; rw [holdTo_size]; exact h.size, fun q hq => ?_, h.node⟩
    have := h.st q hq
    show (M.pool.holdTo i).st q ≠ 1 ∧ (0 < (M.pool.holdTo i).cnt q ∨ (M.pool.holdTo i).st q = 2 ∨ (M.pool.holdTo i).st q = 3 ∨ (M.pool.holdTo i).st q = 4)
    unfold PM.holdTo
    split
    · simp only [PM.setCnt]
      split
      · exact ⟨this.1, .inl (Nat.succ_pos _)⟩
      · exact this
    · exact this
  · refine ⟨by show (M.pool.dropTo i.toNat).size = _; rw [dropTo_size]; exact h.size, fun q hq => ?_, h.node⟩
    have := h.st q hq
    show (M.pool.dropTo i.toNat).st q ≠ 1 ∧ (0 < (M.pool.dropTo i.toNat).cnt q ∨ (M.pool.dropTo i.toNat).st q = 2 ∨ (M.pool.dropTo i.toNat).st q = 3 ∨ (M.pool.dropTo i.toNat).st q = 4)
    unfold PM.dropTo
    split
    · simp only [PM.setCnt]
      split
      · exact ⟨this.1, .inl (by omega)⟩
      · exact this
    · simp only [PM.setCnt, PM.setSt]
      by_cases e : q = i.toNat
      · subst e
        simp only [if_true]
        unfold PM.lastSt
        rw [if_neg this.1]
        split <;> omega
      · simp only [if_neg e]
        exact this

def markM (M : SM) : SM := { M with pool := M.pool.turned 1 2 }
theorem mark_live (M : SM) (q : Nat) : (markM M).live q = M.live q := by
  unfold markM SM.live PM.live PM.turned
  dsimp only
  by_cases h : M.pool.st q = 1
  · simp [h]
  · simp [h]
theorem mark_free (M : SM) : (markM M).pool.freeCount = M.pool.freeCount := by
  unfold PM.freeCount
  show (M.pool.turned 1 2).freeN M.pool.size = _
  rw [freeN_sum, freeN_sum]
  refine sumN_congr fun i _ => ?_
  have : (M.pool.turned 1 2).freeB i = M.pool.freeB i := by
    unfold PM.freeB PM.turned
    dsimp only
    by_cases h : M.pool.st i = 1
    · rw [if_pos h, h]; rfl
    · rw [if_neg h]
  rw [this]
theorem mark_start (M : SM) : Marked (markM M) (markM M) := by
  refine ⟨rfl, fun q hq => ?_, fun _ _ => rfl⟩
  simp only [SM.live, PM.live, Bool.and_eq_true, Bool.or_eq_true, decide_eq_true_eq, beq_iff_eq] at hq
  have hs : ∀ q, (markM M).pool.st q ≠ 1 := fun q => by
    show (if M.pool.st q = 1 then 2 else M.pool.st q) ≠ 1
    split <;> omega
  refine ⟨hs q, ?_⟩
  rcases hq.2 with h | h | h
  · exact .inl h
  · exact absurd h (hs q)
  · exact .inr (.inl h)
/-- Pools that hold the same, and logs that say the same of what is there. -/
theorem exact_same {M N : SM} {ext : Nat → Nat} (h : Exact M ext) (hs : N.pool.size = M.pool.size) (hc : ∀ q, N.pool.cnt q = M.pool.cnt q) (hl : ∀ q, N.live q = M.live q) (hn : ∀ q, M.live q = true → N.nodeAt q = M.nodeAt q) : Exact N ext := by
  have he : ∀ q, M.live q = true → N.ents q = M.ents q := fun q hq => by unfold SM.ents; rw [hn q hq]
  refine ⟨by rw [hs]; exact h.size, fun p => by rw [hc]; exact h.cntLe p, fun p hp => ?_, fun q hq => ?_, fun q hq x hx => ?_, ?_⟩
  · rw [hc, h.cnt p (by rw [← hs]; exact hp)]
    unfold SM.refs
    rw [hs]
    have : sumN (fun q => if M.live q then occ (M.ents q) p else 0) M.pool.size = sumN (fun q => if N.live q then occ (N.ents q) p else 0) M.pool.size := sumN_congr fun q _ => by
      rw [hl]
      by_cases hq : M.live q = true
      · rw [if_pos hq, if_pos hq, he q hq]
      · rw [if_neg hq, if_neg hq]
    rw [this]
  · rw [hl] at hq
    rw [hn q hq]; exact h.node q hq
  · rw [hl] at hq ⊢
    rw [he q hq] at hx
    exact h.kids q hq x hx
  · obtain ⟨r, hr⟩ := h.rank
    exact ⟨r, fun q hq x hx => by rw [hl] at hq; rw [he q hq] at hx; exact hr q hq x hx⟩
theorem grown_same {M N : SM} (hs : N.pool.size = M.pool.size) (hl : ∀ q, N.live q = M.live q) (hn : ∀ q, M.live q = true → N.nodeAt q = M.nodeAt q) : Grown M N := ⟨hs, fun q hq => by rw [hl]; exact hq, hn⟩

theorem Kids.in {T : Int → List (Int × Int) → Prop} : ∀ {es l : List (Int × Int)}, Kids T es l → ∀ y ∈ l, ∃ e ∈ es, ∃ a, T e.2 a ∧ y ∈ a
  | [], l, h, y, hy => by rw [show l = [] from h] at hy; cases hy
  | e :: es, _, ⟨a, b, x, h1, h2, h3, h4, h5⟩, y, hy => by
    rw [h1] at hy
    rcases List.mem_append.1 hy with hy | hy
    · exact ⟨e, List.mem_cons_self .., a, h2, hy⟩
    · obtain ⟨f, hf, c, hc, hyc⟩ := Kids.in h5 y hy
      exact ⟨f, List.mem_cons_of_mem _ hf, c, hc, hyc⟩
/-- What is in a tree is there. -/
theorem tr_held {m : Nat} {M : SM} {ext : Nat → Nat} (E : Exact M ext) : ∀ {h : Nat} {p : Int} {l : List (Int × Int)}, Tr m M h p l → ∀ y ∈ l, M.pool.heldB y.2 = true
  | 0, _, _, t, _, _ => t.elim
  | h + 1, p, l, ⟨hp, n, hn, hok, k⟩, y, hy => by
    rcases k with ⟨_, _, hl⟩ | ⟨_, _, hK⟩
    · have hlv := (heldB_int hp).2
      have hy' : y ∈ M.ents p.toNat := by unfold SM.ents; rw [hn]; show y ∈ n.ents; rw [hl]; exact hy
      have h1 := E.kids _ hlv y hy'
      have h0 := E.pos hlv hy'
      obtain ⟨c, hc⟩ := Int.eq_ofNat_of_zero_le h0
      rw [hc] at h1 ⊢
      rw [heldB_nat]
      exact h1
    · obtain ⟨e, _, a, ha, hya⟩ := hK.in y hy
      exact tr_held E ha.1 y hya
theorem ext_held {M : SM} {ext : Nat → Nat} (E : Exact M ext) {p : Nat} (hp : p < M.pool.size) (he : 0 < ext p) : M.pool.heldB (p : Int) = true := by
  rw [heldB_nat]
  have := E.cnt p hp
  unfold PM.live
  simp only [hp, decide_true, Bool.true_and]
  rw [Bool.or_eq_true]
  left
  rw [decide_eq_true_eq]
  omega

/-- Who holds: the block's page once, the root once. -/
def extR (root : Int) : Nat → Nat := fun p => extOne p + (if (p : Int) = root then 1 else 0)
/-- A store with one tree, whose root is held. -/
structure RoomInv (s : Nat) (M : SM) (root : Int) (l : List (Int × Int)) : Prop where
  exact : Exact M (extR root)
  size : M.pool.size = s
  rooted : ∃ h, Rooted 3 M root l h
  keys : RisesK l ∧ ∀ y ∈ l, 0 ≤ y.1 ∧ y.1 < 64
  loose : Loose M []
theorem RoomInv.good {s : Nat} {M : SM} {root : Int} {l : List (Int × Int)} (h : RoomInv s M root l) : Good M l := by
  refine ⟨h.keys.1, fun y hy => ⟨(h.keys.2 y hy).1, (h.keys.2 y hy).2, ?_⟩⟩
  obtain ⟨k, hr⟩ := h.rooted
  rcases hr with ⟨_, hl, _⟩ | hr
  · rw [hl] at hy; cases hy
  · exact tr_held h.exact hr y hy
theorem RoomInv.high {s : Nat} {M : SM} {root : Int} {l : List (Int × Int)} (h : RoomInv s M root l) : ∃ k, Rooted 3 M root l k ∧ k ≤ 4 := by
  obtain ⟨k, hr⟩ := h.rooted
  rcases hr with hr | hr
  · exact ⟨k, .inl hr, by rw [hr.2.2]; exact Nat.zero_le _⟩
  · exact ⟨k, .inr hr, tr_high hr h.good⟩
theorem RoomInv.list {s : Nat} {M : SM} {root : Int} {l : List (Int × Int)} (h : RoomInv s M root l) : M.list root = (l, 0) := by
  obtain ⟨k, hr, hk⟩ := h.high
  exact listR_ok hr (by omega)
theorem RoomInv.same {s : Nat} {M N : SM} {root : Int} {l : List (Int × Int)} (h : RoomInv s M root l) (hs : N.pool.size = M.pool.size) (hc : ∀ q, N.pool.cnt q = M.pool.cnt q) (hl : ∀ q, N.live q = M.live q) (hn : ∀ q, M.live q = true → N.nodeAt q = M.nodeAt q) : RoomInv s N root l := by
  have g := grown_same hs hl hn
  refine ⟨exact_same h.exact hs hc hl hn, hs.trans h.size, ?_, h.keys, fun q hq hq0 => h.loose q (by rw [← hl]; exact hq) (by rw [← hc]; exact hq0)⟩
  obtain ⟨k, hr⟩ := h.rooted
  exact ⟨k, hr.imp id fun t => Tr.grown g t⟩
theorem room_start (s : Nat) (hs : 0 < s) (h240 : s ≤ 240) : RoomInv s (madeM s 9) (-1) [] := by
  refine ⟨exact_congr (made_exact s 9 hs h240 (by decide)) (fun p _ => ?_), rfl, ⟨0, .inl ⟨rfl, rfl, rfl⟩⟩, ⟨List.Pairwise.nil, fun y hy => by cases hy⟩, made_loose s 9 hs []⟩
  unfold extR
  rw [if_neg (by omega)]
  rfl
theorem room_mark {s : Nat} {M : SM} {root : Int} {l : List (Int × Int)} (h : RoomInv s M root l) : RoomInv s (markM M) root l := h.same rfl (fun _ => rfl) (mark_live M) (fun _ _ => rfl)
/-- What is undone is as it was at the mark. -/
theorem room_undo {s : Nat} {M N : SM} {root : Int} {l : List (Int × Int)} (h : RoomInv s M root l) (k : Marked M N) : RoomInv s ⟨M.pool, N.log⟩ root l :=
  h.same rfl (fun _ => rfl) (fun _ => rfl) (fun q hq => k.node q hq)

/-- A key is put, and the new root held in the place of the old one. -/
theorem room_put {s : Nat} {M : SM} {root : Int} {l : List (Int × Int)} (hs : 0 < s) (h : RoomInv s M root l) {key : Int} (k0 : 0 ≤ key) (k1 : key < 64) :
    ((M.put root key 0).2.2 = 0 ∧ ((M.put root key 0).1.swap root (M.put root key 0).2.1).2 = 0 ∧ RoomInv s ((M.put root key 0).1.swap root (M.put root key 0).2.1).1 (M.put root key 0).2.1 (putL l (key, 0))) ∨
      ((M.put root key 0).2.2 = 71 ∧ M.pool.freeCount ≤ 10) ∨ ((M.put root key 0).2.2 = 72 ∧ ∃ c, 255 < M.sum + 31 + extR root c) := by
  obtain ⟨k, hr, hk⟩ := h.high
  have hx : M.pool.heldB 0 = true := ext_held h.exact (p := 0) (by rw [h.size]; exact hs) (by unfold extR extOne; rw [if_pos rfl]; omega)
  rcases put_ok (by decide) h.exact hr (by omega) h.good h.loose hx k0 k1 with ⟨e, T⟩ | ⟨_, e, hf⟩ | ⟨_, e, c, hc⟩
  · refine .inl ⟨e, ?_⟩
    obtain ⟨M1, hM1⟩ : ∃ M1, (M.put root key 0).1 = M1 := ⟨_, rfl⟩
    obtain ⟨next, hnext⟩ : ∃ next, (M.put root key 0).2.1 = next := ⟨_, rfl⟩
    rw [hM1, hnext] at T ⊢
    obtain ⟨h', t, hh'⟩ := T.tr
    have hn := t.held
    have hn0 := (heldB_int hn).1
    have hold : root = -1 ∨ (M1.pool.heldB root = true ∧ 0 < extR root root.toNat) := by
      rcases hr with ⟨hr, _⟩ | hr
      · exact .inl hr
      · have h0 := (heldB_int hr.held).1
        exact .inr ⟨T.grown.held hr.held, by unfold extR; rw [if_pos (by omega)]; omega⟩
    obtain ⟨r1, E2, hlog, hsz, hlv, hlo⟩ := swap_ok T.exact (.inr ⟨hn, by rw [T.zero]; decide⟩) hold
    obtain ⟨M2, hM2⟩ : ∃ M2, (M1.swap root next).1 = M2 := ⟨_, rfl⟩
    rw [hM2] at E2 hlog hsz hlv hlo ⊢
    have E2' : Exact M2 (extR next) := exact_congr E2 (fun p _ => by
      unfold swapE extR
      by_cases e1 : (p : Int) = root <;> by_cases e2 : (p : Int) = next <;> simp [e1, e2] <;> omega)
    have hs2 : M2.pool.size = s := by rw [hsz, T.grown.size, h.size]
    have hnext2 : M2.pool.heldB next = true := by
      obtain ⟨c, hc⟩ := Int.eq_ofNat_of_zero_le hn0
      rw [hc]
      refine ext_held E2' ?_ (by unfold extR; rw [if_pos hc.symm]; omega)
      rw [hsz]
      have := live_lt (M := M1) (heldB_int hn).2
      rw [hc, Int.toNat_natCast] at this
      exact this
    refine ⟨r1, E2', hs2, ⟨h', .inr (Tr.stays E2' hlog t hnext2)⟩, ?_, fun q hq hc => ?_⟩
    · have g := h.good.put (x := (key, 0)) k0 k1 hx
      exact ⟨g.1, fun y hy => ⟨(g.2 y hy).1, (g.2 y hy).2.1⟩⟩
    · obtain ⟨c1, c2⟩ := hlo q hq hc
      obtain ⟨x, hx, he⟩ := T.loose [] rfl q (hlv q hq) c1
      rw [List.nil_append, List.mem_singleton] at hx
      rw [hx] at he
      exact absurd he.symm c2
  · exact .inr (.inl ⟨e, by omega⟩)
  · exact .inr (.inr ⟨e, c, by omega⟩)
end Go.Proofs.Ythmjcbmeiabbgaa
/-
  Trees in a store, plain: which pages a tree has; two trees in a store without marks.
-/
namespace Go.Proofs.Ythmjcbmeiabbgaa
open Go.RowKit

/-- All that is there was taken since the last commit, and what isn't there is free. -/
def Clean (M : SM) : Prop := ∀ q, (M.pool.st q = 0 ∨ M.pool.st q = 1) ∧ (0 < M.pool.cnt q → M.pool.st q = 1)
theorem clean_live {M : SM} (h : Clean M) {i : Int} (hi : M.pool.heldB i = true) : M.pool.st i.toNat = 1 := by
  have hl := (heldB_int hi).2
  have := h i.toNat
  simp only [PM.live, Bool.and_eq_true, Bool.or_eq_true, decide_eq_true_eq, beq_iff_eq] at hl
  rcases hl.2 with h1 | h1 | h1
  · exact this.2 h1
  · exact h1
  · omega
theorem clean_closed : Closed Clean := by
  refine ⟨fun M i n hi h q => ?_, fun M i h q => ?_, fun M i hi h q => ?_⟩
  · have := h q
    by_cases e : q = i
    · subst e; simp [PM.setSt]
    · simp only [PM.setSt, if_neg e]; exact this
  · have := h q
    show ((M.pool.holdTo i).st q = 0 ∨ (M.pool.holdTo i).st q = 1) ∧ (0 < (M.pool.holdTo i).cnt q → (M.pool.holdTo i).st q = 1)
    unfold PM.holdTo
    split
    · rename_i hc
      simp only [Bool.and_eq_true] at hc
      have hs := clean_live h hc.1
      simp only [PM.setCnt]
      refine ⟨this.1, fun hq => ?_⟩
      split at hq
      · rename_i e; rw [e]; exact hs
      · exact this.2 hq
    · exact this
  · have := h q
    have hs := clean_live h hi
    show ((M.pool.dropTo i.toNat).st q = 0 ∨ (M.pool.dropTo i.toNat).st q = 1) ∧ (0 < (M.pool.dropTo i.toNat).cnt q → (M.pool.dropTo i.toNat).st q = 1)
    unfold PM.dropTo
    split
    · simp only [PM.setCnt]
      refine ⟨this.1, fun hq => ?_⟩
      split at hq
      · rename_i e; rw [e]; exact hs
      · exact this.2 hq
    · simp only [PM.setCnt, PM.setSt]
      by_cases e : q = i.toNat
      · subst e
        simp only [if_true]
        rw [hs]
        exact ⟨.inl rfl, fun h => by omega⟩
      · simp only [if_neg e]
        exact this
theorem clean_free {M : SM} (h : Clean M) : M.pool.freeCount + M.liveN = M.pool.size := by
  unfold PM.freeCount SM.liveN
  rw [freeN_sum, ← sumN_add]
  have : ∀ n, n ≤ M.pool.size → sumN (fun i => (if M.pool.freeB i then 1 else 0) + if M.live i then 1 else 0) n = n := by
    intro n
    induction n with
    | zero => intro _; rfl
    | succ n ih =>
      intro hn
      unfold sumN
      rw [ih (by omega)]
      have hq := h n
      by_cases hl : M.live n = true
      · have hf : M.pool.freeB n = false := by
          simp only [SM.live, PM.live, Bool.and_eq_true, Bool.or_eq_true, decide_eq_true_eq, beq_iff_eq] at hl
          unfold PM.freeB
          rw [Bool.and_eq_false_iff]
          rcases hl.2 with h1 | h1 | h1
          · left; simp; omega
          · right; rw [h1]; rfl
          · right; rw [h1]; rfl
        rw [hf, hl]; simp
      · have hf : M.pool.freeB n = true := by
          simp only [SM.live, PM.live, Bool.and_eq_true, Bool.or_eq_true, decide_eq_true_eq, beq_iff_eq, not_and, not_or] at hl
          have := hl (by omega)
          unfold PM.freeB
          simp
          omega
        have hl' : M.live n = false := by simpa using hl
        rw [hf, hl']; simp
  exact this _ (Nat.le_refl _)

/-- A tree's pages. -/
def pagesF (M : SM) : Nat → Int → List Nat
  | 0, _ => []
  | h + 1, p => p.toNat :: (if h = 0 then [] else (M.ents p.toNat).flatMap fun e => pagesF M h e.2)
theorem pages_self {M : SM} {h : Nat} {p : Int} (h0 : 0 < h) : p.toNat ∈ pagesF M h p := by
  obtain ⟨k, rfl⟩ : ∃ k, h = k + 1 := ⟨h - 1, by omega⟩
  exact List.mem_cons_self ..
theorem tr_pos {m : Nat} {M : SM} {h : Nat} {p : Int} {l : List (Int × Int)} (t : Tr m M h p l) : 0 < h := by
  cases h with
  | zero => exact t.elim
  | succ h => omega
theorem ents_of {M : SM} {q : Nat} {n : NM} (h : M.nodeAt q = some n) : M.ents q = n.ents := by unfold SM.ents; rw [h]
theorem pages_closed {m : Nat} {M : SM} : ∀ {h : Nat} {p : Int} {l : List (Int × Int)}, Tr m M h p l → ∀ q ∈ pagesF M h p, ∀ x ∈ M.ents q, x.2.toNat ∈ pagesF M h p ∨ x ∈ l
  | 0, _, _, t, _, _, _, _ => t.elim
  | h + 1, p, l, ⟨hp, n, hn, hok, k⟩, q, hq, x, hx => by
    have he := ents_of hn
    unfold pagesF at hq ⊢
    rcases k with ⟨h0, _, hl⟩ | ⟨h0, _, hK⟩
    · rw [if_pos h0, List.mem_singleton] at hq
      subst hq
      rw [he, hl] at hx
      exact .inr hx
    · rw [if_neg (by omega)] at hq ⊢
      rcases List.mem_cons.1 hq with rfl | hq
      · rw [he] at hx
        left
        refine List.mem_cons_of_mem _ (List.mem_flatMap.2 ⟨x, by rw [he]; exact hx, pages_self h0⟩)
      · obtain ⟨e, hee, hqe⟩ := List.mem_flatMap.1 hq
        rw [he] at hee
        obtain ⟨a, ha, hal⟩ := hK.each e hee
        rcases pages_closed ha.1 q hqe x hx with h1 | h1
        · exact .inl (List.mem_cons_of_mem _ (List.mem_flatMap.2 ⟨e, by rw [he]; exact hee, h1⟩))
        · exact .inr (hal x h1)
def entSum (M : SM) (L : List Nat) : Nat := (L.map fun q => (M.ents q).length).sum
theorem entSum_append (M : SM) (a b : List Nat) : entSum M (a ++ b) = entSum M a + entSum M b := by unfold entSum; rw [List.map_append, List.sum_append]
/-- A tree below another one has few pages; all nodes' entries are its own and its pages. -/
theorem sub_pages {M : SM} : ∀ {h : Nat} {p : Int} {l : List (Int × Int)}, Sub 3 M h p l → 2 * (pagesF M h p).length + 1 ≤ l.length ∧ entSum M (pagesF M h p) + 1 = l.length + (pagesF M h p).length
  | 0, _, _, t => t.1.elim
  | h + 1, p, l, ⟨⟨hp, n, hn, hok, k⟩, hm⟩ => by
    have he := ents_of hn
    rw [entN_of hn] at hm
    unfold pagesF
    rcases k with ⟨h0, _, hl⟩ | ⟨h0, _, hK⟩
    · rw [if_pos h0]
      unfold entSum
      simp only [List.map_cons, List.map_nil, List.sum_cons, List.sum_nil, List.length_cons, List.length_nil]
      rw [he, hl]
      rw [hl] at hm
      omega
    · rw [if_neg (by omega), he]
      obtain ⟨i1, i2⟩ := kids_pages (fun e a h => sub_pages h) n.ents l hK
      have e1 : entSum M (p.toNat :: n.ents.flatMap fun e => pagesF M h e.2) = n.ents.length + entSum M (n.ents.flatMap fun e => pagesF M h e.2) := by
        unfold entSum
        rw [List.map_cons, List.sum_cons, he]
      rw [e1, List.length_cons]
      omega
where
  kids_pages {h : Nat} (ih : ∀ (p : Int) (l : List (Int × Int)), Sub 3 M h p l → 2 * (pagesF M h p).length + 1 ≤ l.length ∧ entSum M (pagesF M h p) + 1 = l.length + (pagesF M h p).length) :
      ∀ (es l : List (Int × Int)), Kids (Sub 3 M h) es l → 2 * (es.flatMap fun e => pagesF M h e.2).length + es.length ≤ l.length ∧ entSum M (es.flatMap fun e => pagesF M h e.2) + es.length = l.length + (es.flatMap fun e => pagesF M h e.2).length
    | [], l, hk => by rw [show l = [] from hk]; exact ⟨Nat.le_refl _, rfl⟩
    | e :: es, l, ⟨a, b, x, h1, h2, h3, h4, h5⟩ => by
      obtain ⟨i1, i2⟩ := ih e.2 a h2
      obtain ⟨j1, j2⟩ := kids_pages ih es b h5
      rw [List.flatMap_cons, entSum_append, List.length_append, List.length_cons, h1, List.length_append]
      omega
theorem tr_pages {M : SM} {h : Nat} {p : Int} {l : List (Int × Int)} (t : Tr 3 M h p l) : 2 * (pagesF M h p).length ≤ l.length + 2 ∧ entSum M (pagesF M h p) + 1 = l.length + (pagesF M h p).length := by
  cases h with
  | zero => exact t.elim
  | succ h =>
    obtain ⟨hp, n, hn, hok, k⟩ := t
    have he := ents_of hn
    unfold pagesF
    rcases k with ⟨h0, _, hl⟩ | ⟨h0, _, hK⟩
    · rw [if_pos h0]
      unfold entSum
      simp only [List.map_cons, List.map_nil, List.sum_cons, List.sum_nil, List.length_cons, List.length_nil]
      rw [he, hl]
      omega
    · rw [if_neg (by omega), he]
      obtain ⟨i1, i2⟩ := sub_pages.kids_pages (fun e a h => sub_pages h) n.ents l hK
      have e1 : entSum M (p.toNat :: n.ents.flatMap fun e => pagesF M h e.2) = n.ents.length + entSum M (n.ents.flatMap fun e => pagesF M h e.2) := by
        unfold entSum
        rw [List.map_cons, List.sum_cons, he]
      rw [e1, List.length_cons]
      omega

/-- What is there can be reached. -/
theorem reach_all {M : SM} {ext : Nat → Nat} (E : Exact M ext) (hl : Loose M []) {L : List Nat} (h1 : ∀ q, q < M.pool.size → 0 < ext q → q ∈ L) (h2 : ∀ q ∈ L, ∀ x ∈ M.ents q, x.2.toNat ∈ L) : ∀ q, M.live q = true → q ∈ L := by
  obtain ⟨r, hr⟩ := E.rank
  have hb : ∀ q, M.live q = true → r q ≤ sumN r M.pool.size := fun q hq => sumN_get (live_lt hq)
  have key : ∀ d q, M.live q = true → sumN r M.pool.size - r q ≤ d → q ∈ L := by
    intro d
    induction d with
    | zero =>
      intro q hq hd
      refine Classical.byContradiction fun hn => ?_
      have hc : 0 < M.pool.cnt q := by
        rcases Nat.eq_zero_or_pos (M.pool.cnt q) with h0 | h0
        · obtain ⟨x, hx, _⟩ := hl q hq h0; cases hx
        · exact h0
      have he : ext q = 0 := by
        rcases Nat.eq_zero_or_pos (ext q) with h0 | h0
        · exact h0
        · exact absurd (h1 q (live_lt hq) h0) hn
      rw [E.cnt q (live_lt hq), he, Nat.add_zero] at hc
      obtain ⟨p, hp, x, hx, hxe⟩ := refs_pos hc
      have := hr p hp x hx
      rw [hxe] at this
      have := hb p hp
      have := hb q hq
      omega
    | succ d ih =>
      intro q hq hd
      refine Classical.byContradiction fun hn => ?_
      have hc : 0 < M.pool.cnt q := by
        rcases Nat.eq_zero_or_pos (M.pool.cnt q) with h0 | h0
        · obtain ⟨x, hx, _⟩ := hl q hq h0; cases hx
        · exact h0
      have he : ext q = 0 := by
        rcases Nat.eq_zero_or_pos (ext q) with h0 | h0
        · exact h0
        · exact absurd (h1 q (live_lt hq) h0) hn
      rw [E.cnt q (live_lt hq), he, Nat.add_zero] at hc
      obtain ⟨p, hp, x, hx, hxe⟩ := refs_pos hc
      have := hr p hp x hx
      rw [hxe] at this
      have hpL := ih p hp (by omega)
      have := h2 p hpL x hx
      rw [hxe] at this
      exact hn this
  exact fun q hq => key _ q hq (Nat.le_refl _)
where
  refs_pos {M : SM} {q : Nat} (h : 0 < M.refs q) : ∃ p, M.live p = true ∧ ∃ x ∈ M.ents p, x.2.toNat = q := by
    refine Classical.byContradiction fun hn => ?_
    have : M.refs q = 0 := sumN_zero fun p _ => by
      by_cases hp : M.live p = true
      · rw [if_pos hp]
        rcases Nat.eq_zero_or_pos (occ (M.ents p) q) with h0 | h0
        · exact h0
        · obtain ⟨x, hx, he⟩ := List.countP_pos_iff.1 h0
          exact absurd ⟨p, hp, x, hx, by rw [show x.2 = (q : Int) by simpa using he]; exact Int.toNat_natCast q⟩ hn
      · rw [if_neg hp]
    omega
/-- A sum over what is there is at most one over a list that has it all. -/
theorem sum_list {f : Nat → Nat} {b : Nat → Bool} : ∀ (L : List Nat) (n : Nat), (∀ q, q < n → b q = true → q ∈ L) → sumN (fun q => if b q then f q else 0) n ≤ (L.map f).sum
  | [], n, h => by
    rw [sumN_zero fun q hq => by
      by_cases hb : b q = true
      · exact absurd (h q hq hb) (by simp)
      · rw [if_neg hb]]
    exact Nat.zero_le _
  | a :: L, n, h => by
    have ih := sum_list (f := f) (b := fun q => b q && decide (q ≠ a)) L n (fun q hq hb => by
      simp only [Bool.and_eq_true, decide_eq_true_eq] at hb
      rcases List.mem_cons.1 (h q hq hb.1) with e | e
      · exact absurd e hb.2
      · exact e)
    rw [List.map_cons, List.sum_cons]
    by_cases ha : a < n
    · have := sumN_set (f := fun q => if b q then f q else 0) (g := fun q => if (b q && decide (q ≠ a)) then f q else 0) ha (fun j _ hj => by simp [hj])
      have e1 : (if (b a && decide (a ≠ a)) = true then f a else 0) = 0 := by simp
      rw [e1] at this
      have : (if b a = true then f a else 0) ≤ f a := by split <;> omega
      omega
    · have : sumN (fun q => if b q then f q else 0) n = sumN (fun q => if (b q && decide (q ≠ a)) then f q else 0) n := sumN_congr fun q hq => by
        have hqa : q ≠ a := by omega
        rw [decide_eq_true hqa, Bool.and_true]
      omega
theorem liveN_list {M : SM} {L : List Nat} (h : ∀ q, M.live q = true → q ∈ L) : M.liveN ≤ L.length := by
  have := sum_list (f := fun _ => 1) (b := M.live) L M.pool.size (fun q _ hq => h q hq)
  have e : ∀ L : List Nat, (L.map fun _ => 1).sum = L.length := fun L => by
    induction L with
    | nil => rfl
    | cons a L ih => rw [List.map_cons, List.sum_cons, ih, List.length_cons]; omega
  rw [e] at this
  exact this
theorem sumE_list {M : SM} {L : List Nat} (h : ∀ q, M.live q = true → q ∈ L) : M.sum ≤ entSum M L := sum_list L M.pool.size (fun q _ hq => h q hq)
end Go.Proofs.Ythmjcbmeiabbgaa
/-
  What can be reached in a store that is exact, plain: all that is asked is there.
-/
namespace Go.Proofs.Ythmjcbmeiabbgaa
open Go.RowKit

theorem risesB_len {l : List (Int × Int)} (h : risesB l = true) : 1 ≤ l.length ∧ l.length ≤ 6 := by
  simp only [risesB, Bool.and_eq_true, decide_eq_true_eq] at h
  exact ⟨h.1.2, h.2⟩
theorem NM.ok.len6 {n : NM} (h : n.ok) : n.ents.length ≤ 6 := by
  have h1 := h.1
  unfold NM.rightB at h1
  split at h1
  · have : n.ents.length = 0 := by simpa using h1
    omega
  · split at h1
    · simp only [Bool.and_eq_true] at h1
      exact (risesB_len h1.2).2
    · cases h1
theorem get_live {M : SM} {ext : Nat → Nat} (E : Exact M ext) {x : Int} (hx : M.pool.heldB x = true) : ∃ n, M.nodeAt x.toNat = some n ∧ n.ok ∧ M.get x = (n, 0) := by
  obtain ⟨n, hn, hok⟩ := E.node x.toNat (heldB_int hx).2
  refine ⟨n, hn, hok, ?_⟩
  unfold SM.get
  rw [if_pos hx, hn]
theorem held_of_live {M : SM} {x : Int} (h0 : 0 ≤ x) (h : M.live x.toNat = true) : M.pool.heldB x = true := by
  obtain ⟨k, rfl⟩ := Int.eq_ofNat_of_zero_le h0
  rw [heldB_nat]
  rw [Int.toNat_natCast] at h
  exact h
/-- What was reached. -/
structure Reached (M : SM) (seen next l : List Int) : Prop where
  nodup : l.Nodup
  live : ∀ x ∈ l, M.pool.heldB x = true
  seen : ∀ x ∈ seen, x ∈ l
  next : ∀ x ∈ next, x ≠ -1 → x ∈ l
  kids : ∀ x ∈ l, ∀ y ∈ M.ents x.toNat, y.2 ∈ l
theorem reachF_ok {M : SM} {ext : Nat → Nat} (E : Exact M ext) : ∀ (f : Nat) (seen next : List Int), ReachInv seen next f → (∀ x ∈ seen, M.pool.heldB x = true) → (∀ x ∈ next, x = -1 ∨ M.pool.heldB x = true) →
    (∀ x ∈ seen, ∀ y ∈ M.ents x.toNat, y.2 ∈ seen ∨ y.2 ∈ next) → ∃ l, M.reachF f seen next = (l, 0) ∧ Reached M seen next l
  | 0, _, _, hI, _, _, _ => by have := hI.fuel; omega
  | f + 1, seen, next, hI, hs, hn, hk => by
    rcases List.eq_nil_or_concat next with rfl | ⟨rest, x, hc⟩
    · exact ⟨seen, reachF_nil M f seen, hI.nodup, hs, fun _ h => h, fun x hx => (by cases hx), fun x hx y hy => (hk x hx y hy).elim id fun h => (by cases h)⟩
    · rw [List.concat_eq_append] at hc
      subst hc
      rw [reachF_snoc]
      by_cases hx : x = -1 ∨ x ∈ seen
      · rw [if_pos hx]
        obtain ⟨l, e, R⟩ := reachF_ok E f seen rest hI.skip hs (fun y hy => hn y (List.mem_append_left _ hy)) (fun a ha y hy => by
          rcases hk a ha y hy with h | h
          · exact .inl h
          · rcases List.mem_append.1 h with h | h
            · exact .inr h
            · rw [List.mem_singleton] at h
              rcases hx with hx | hx
              · have h0 := E.pos (heldB_int (hs a ha)).2 hy
                omega
              · exact .inl (h ▸ hx))
        refine ⟨l, e, R.nodup, R.live, R.seen, fun y hy hne => ?_, R.kids⟩
        rcases List.mem_append.1 hy with h | h
        · exact R.next y h hne
        · rw [List.mem_singleton] at h
          rcases hx with hx | hx
          · exact absurd (h.trans hx) hne
          · exact R.seen y (h ▸ hx)
      · rw [if_neg hx]
        have hx1 : x ≠ -1 := fun e => hx (.inl e)
        have hxs : x ∉ seen := fun e => hx (.inr e)
        have hxh : M.pool.heldB x = true := (hn x (List.mem_append_right _ (List.mem_singleton.2 rfl))).resolve_left hx1
        obtain ⟨n, hnn, hok, hg⟩ := get_live E hxh
        have hb := held_bound E hxh
        have he : M.ents x.toNat = n.ents := ents_of hnn
        rw [hg]
        dsimp only
        rw [if_pos rfl]
        obtain ⟨l, e, R⟩ := reachF_ok E f (seen ++ [x]) (rest ++ n.ents.map (·.2)) (hI.more hxs hb.1 hb.2 (by rw [List.length_map]; exact hok.len6))
          (fun y hy => by
            rcases List.mem_append.1 hy with h | h
            · exact hs y h
            · rw [List.mem_singleton.1 h]; exact hxh)
          (fun y hy => by
            rcases List.mem_append.1 hy with h | h
            · exact hn y (List.mem_append_left _ h)
            · obtain ⟨z, hz, rfl⟩ := List.mem_map.1 h
              right
              have hlv := (heldB_int hxh).2
              have hz' : z ∈ M.ents x.toNat := by rw [he]; exact hz
              exact held_of_live (E.pos hlv hz') (E.kids _ hlv z hz'))
          (fun a ha y hy => by
            rcases List.mem_append.1 ha with h | h
            · rcases hk a h y hy with h2 | h2
              · exact .inl (List.mem_append_left _ h2)
              · rcases List.mem_append.1 h2 with h3 | h3
                · exact .inr (List.mem_append_left _ h3)
                · exact .inl (List.mem_append_right _ h3)
            · rw [List.mem_singleton.1 h, he] at hy
              exact .inr (List.mem_append_right _ (List.mem_map.2 ⟨y, hy, rfl⟩)))
        refine ⟨l, e, R.nodup, R.live, fun y hy => R.seen y (List.mem_append_left _ hy), fun y hy hne => ?_, R.kids⟩
        rcases List.mem_append.1 hy with h | h
        · exact R.next y (List.mem_append_left _ h) hne
        · rw [List.mem_singleton.1 h]
          exact R.seen x (List.mem_append_right _ (List.mem_singleton.2 rfl))
theorem reach_ok {M : SM} {ext : Nat → Nat} (E : Exact M ext) {roots : List Int} (hr : ∀ r ∈ roots, r = -1 ∨ M.pool.heldB r = true) : ∃ l, M.reach roots = (l, 0) ∧ Reached M [] roots l := by
  obtain ⟨l, e, R⟩ := reachF_ok E (1700 + roots.length) [] roots (reach_start roots) (fun x hx => by cases hx) hr (fun x hx => by cases hx)
  refine ⟨l.mergeSort leB, ?_, ?_⟩
  · unfold SM.reach
    rw [e]
    rfl
  · have hp := List.mergeSort_perm l leB
    exact ⟨hp.nodup_iff.2 R.nodup, fun x hx => R.live x (hp.mem_iff.1 hx), fun x hx => (by cases hx), fun x hx hne => hp.mem_iff.2 (R.next x hx hne), fun x hx y hy => hp.mem_iff.2 (R.kids x (hp.mem_iff.1 hx) y hy)⟩
/-- A sum over what is there is that over a list of just that. -/
theorem sum_list_eq {f : Nat → Nat} : ∀ (L : List Nat) (b : Nat → Bool) (n : Nat), L.Nodup → (∀ q ∈ L, q < n ∧ b q = true) → (∀ q, q < n → b q = true → q ∈ L) → sumN (fun q => if b q then f q else 0) n = (L.map f).sum
  | [], b, n, _, _, h => by
    rw [sumN_zero fun q hq => by
      by_cases hb : b q = true
      · exact absurd (h q hq hb) (by simp)
      · rw [if_neg hb]]
    rfl
  | a :: L, b, n, hd, h1, h => by
    have hd' := List.nodup_cons.1 hd
    obtain ⟨ha, hba⟩ := h1 a (List.mem_cons_self ..)
    have ih := sum_list_eq (f := f) L (fun q => b q && decide (q ≠ a)) n hd'.2 (fun q hq => by
        have := h1 q (List.mem_cons_of_mem _ hq)
        have hne : q ≠ a := fun e => hd'.1 (e ▸ hq)
        simp [this.1, this.2, hne])
      (fun q hq hb => by
        simp only [Bool.and_eq_true, decide_eq_true_eq] at hb
        rcases List.mem_cons.1 (h q hq hb.1) with e | e
        · exact absurd e hb.2
        · exact e)
    rw [List.map_cons, List.sum_cons]
    have := sumN_set (f := fun q => if b q then f q else 0) (g := fun q => if (b q && decide (q ≠ a)) then f q else 0) ha (fun j _ hj => by simp [hj])
    have e1 : (if (b a && decide (a ≠ a)) = true then f a else 0) = 0 := by simp
    rw [e1, hba] at this
    simp only [if_true] at this
    omega
/-- All that is there is reached, if all that is held elsewhere is asked for. -/
theorem reached_all {M : SM} {ext : Nat → Nat} (E : Exact M ext) (hl : Loose M []) {roots l : List Int} (R : Reached M [] roots l) (he : ∀ q : Nat, q < M.pool.size → 0 < ext q → (q : Int) ∈ roots) (q : Nat) (hq : M.live q = true) : (q : Int) ∈ l := by
  have := reach_all E hl (L := l.map Int.toNat) (fun q hq h => List.mem_map.2 ⟨q, R.next _ (he q hq h) (by omega), Int.toNat_natCast q⟩) (fun q hq x hx => by
    obtain ⟨y, hy, rfl⟩ := List.mem_map.1 hq
    exact List.mem_map.2 ⟨x.2, R.kids y hy x hx, rfl⟩) q hq
  obtain ⟨y, hy, e⟩ := List.mem_map.1 this
  have h0 := (heldB_int (R.live y hy)).1
  rw [show (q : Int) = y by omega]
  exact hy
/-- What is reached has each page as often as it is held, but for the roots. -/
theorem reached_refs {M : SM} {ext : Nat → Nat} (E : Exact M ext) (hl : Loose M []) {roots l : List Int} (R : Reached M [] roots l) (he : ∀ q : Nat, q < M.pool.size → 0 < ext q → (q : Int) ∈ roots) (p : Nat) :
    (l.map fun x => occ (M.ents x.toNat) p).sum = M.refs p := by
  have h := sum_list_eq (f := fun q => occ (M.ents q) p) (l.map Int.toNat) M.live M.pool.size
    (by
      rw [List.nodup_iff_pairwise_ne, List.pairwise_map]
      refine R.nodup.imp_of_mem fun ha hb hne => ?_
      have h0 := (heldB_int (R.live _ ha)).1
      have h1 := (heldB_int (R.live _ hb)).1
      omega)
    (fun q hq => by
      obtain ⟨y, hy, rfl⟩ := List.mem_map.1 hq
      have := (heldB_int (R.live y hy)).2
      exact ⟨live_lt this, this⟩)
    (fun q _ hq => List.mem_map.2 ⟨q, reached_all E hl R he q hq, Int.toNat_natCast q⟩)
  unfold SM.refs
  rw [h, List.map_map]
  rfl
end Go.Proofs.Ythmjcbmeiabbgaa
/-
  Trees in a store, plain: two trees, one built behind the other, where there is room enough.
-/
namespace Go.Proofs.Ythmjcbmeiabbgaa
open Go.RowKit

/-- Who holds: the block's page once, two roots once each. -/
def extT (a root : Int) : Nat → Nat := fun p => extOne p + (if (p : Int) = a then 1 else 0) + (if (p : Int) = root then 1 else 0)
def KeyedL (l : List (Int × Int)) : Prop := RisesK l ∧ ∀ y ∈ l, 0 ≤ y.1 ∧ y.1 < 64 ∧ y.2 = 0
/-- A store with two trees of one block's page, whose roots are held. -/
structure TwoInv (M : SM) (a : Int) (la : List (Int × Int)) (root : Int) (l : List (Int × Int)) : Prop where
  exact : Exact M (extT a root)
  size : M.pool.size = 240
  clean : Clean M
  node0 : M.nodeAt 0 = some (dataN 9)
  ra : ∃ h, Rooted 3 M a la h
  rr : ∃ h, Rooted 3 M root l h
  ka : KeyedL la
  kr : KeyedL l
  loose : Loose M []
theorem keyed_held {M : SM} {l : List (Int × Int)} (h0 : M.pool.heldB 0 = true) (h : KeyedL l) : Good M l := ⟨h.1, fun y hy => ⟨(h.2 y hy).1, (h.2 y hy).2.1, by rw [(h.2 y hy).2.2]; exact h0⟩⟩
theorem TwoInv.held0 {M : SM} {a root : Int} {la l : List (Int × Int)} (h : TwoInv M a la root l) : M.pool.heldB 0 = true := ext_held h.exact (p := 0) (by rw [h.size]; decide) (by unfold extT extOne; rw [if_pos rfl]; omega)
theorem TwoInv.swap {M : SM} {a root : Int} {la l : List (Int × Int)} (h : TwoInv M a la root l) : TwoInv M root l a la :=
  ⟨exact_congr h.exact (fun p _ => by unfold extT; omega), h.size, h.clean, h.node0, h.rr, h.ra, h.kr, h.ka, h.loose⟩
theorem rooted_high {M : SM} {root : Int} {l : List (Int × Int)} (h : ∃ h, Rooted 3 M root l h) (g : Good M l) : ∃ k, Rooted 3 M root l k ∧ k ≤ 4 := by
  obtain ⟨k, hr⟩ := h
  rcases hr with hr | hr
  · exact ⟨k, .inl hr, by rw [hr.2.2]; exact Nat.zero_le _⟩
  · exact ⟨k, .inr hr, tr_high hr g⟩
theorem TwoInv.list {M : SM} {a root : Int} {la l : List (Int × Int)} (h : TwoInv M a la root l) : M.list root = (l, 0) := by
  obtain ⟨k, hr, hk⟩ := rooted_high h.rr (keyed_held h.held0 h.kr)
  exact listR_ok hr (by omega)
theorem dataN_ents {M : SM} (h : M.nodeAt 0 = some (dataN 9)) : M.ents 0 = [] := by rw [ents_of h]; rfl
/-- The pages of a tree, or none. -/
theorem rooted_pages {M : SM} {root : Int} {l : List (Int × Int)} (hr : ∃ h, Rooted 3 M root l h) (hk : KeyedL l) :
    ∃ L : List Nat, (root = -1 ∨ root.toNat ∈ L) ∧ (∀ q ∈ L, ∀ x ∈ M.ents q, x.2.toNat ∈ L ∨ x.2 = 0) ∧ L.length ≤ 33 ∧ entSum M L ≤ 96 := by
  have h64 := rises_len hk.1 fun y hy => ⟨(hk.2 y hy).1, (hk.2 y hy).2.1⟩
  obtain ⟨h, hr⟩ := hr
  rcases hr with ⟨e, _⟩ | t
  · exact ⟨[], .inl e, (fun q hq => by cases hq), Nat.zero_le _, Nat.zero_le _⟩
  · obtain ⟨p1, p2⟩ := tr_pages t
    refine ⟨pagesF M h root, .inr (pages_self (tr_pos t)), fun q hq x hx => ?_, by omega, by omega⟩
    rcases pages_closed t q hq x hx with h1 | h1
    · exact .inl h1
    · exact .inr (hk.2 x h1).2.2
theorem TwoInv.room {M : SM} {a root : Int} {la l : List (Int × Int)} (h : TwoInv M a la root l) : 173 ≤ M.pool.freeCount ∧ M.sum ≤ 192 := by
  obtain ⟨La, a1, a2, a3, a4⟩ := rooted_pages h.ra h.ka
  obtain ⟨Lr, r1, r2, r3, r4⟩ := rooted_pages h.rr h.kr
  have hall := reach_all h.exact h.loose (L := 0 :: (La ++ Lr)) (fun q _ hq => by
    unfold extT extOne at hq
    by_cases e0 : q = 0
    · rw [e0]; exact List.mem_cons_self ..
    · refine List.mem_cons_of_mem _ ?_
      by_cases e1 : (q : Int) = a
      · rcases a1 with e | e
        · omega
        · rw [← e1, Int.toNat_natCast] at e
          exact List.mem_append_left _ e
      · by_cases e2 : (q : Int) = root
        · rcases r1 with e | e
          · omega
          · rw [← e2, Int.toNat_natCast] at e
            exact List.mem_append_right _ e
        · rw [if_neg e0, if_neg e1, if_neg e2] at hq; omega) (fun q hq x hx => by
    rcases List.mem_cons.1 hq with rfl | hq
    · rw [dataN_ents h.node0] at hx; cases hx
    · rcases List.mem_append.1 hq with hq | hq
      · rcases a2 q hq x hx with e | e
        · exact List.mem_cons_of_mem _ (List.mem_append_left _ e)
        · rw [e]; exact List.mem_cons_self ..
      · rcases r2 q hq x hx with e | e
        · exact List.mem_cons_of_mem _ (List.mem_append_right _ e)
        · rw [e]; exact List.mem_cons_self ..)
  have c1 := clean_free h.clean
  have c2 := liveN_list hall
  have c3 := sumE_list hall
  rw [h.size] at c1
  rw [List.length_cons, List.length_append] at c2
  have e1 : entSum M (0 :: (La ++ Lr)) = entSum M La + entSum M Lr := by
    have : entSum M (0 :: (La ++ Lr)) = (M.ents 0).length + entSum M (La ++ Lr) := by unfold entSum; rw [List.map_cons, List.sum_cons]
    rw [this, dataN_ents h.node0, entSum_append, List.length_nil]; omega
  omega

theorem two_put {M : SM} {a root : Int} {la l : List (Int × Int)} (h : TwoInv M a la root l) {key : Int} (k0 : 0 ≤ key) (k1 : key < 64) :
    (M.put root key 0).2.2 = 0 ∧ ((M.put root key 0).1.swap root (M.put root key 0).2.1).2 = 0 ∧ TwoInv ((M.put root key 0).1.swap root (M.put root key 0).2.1).1 a la (M.put root key 0).2.1 (putL l (key, 0)) := by
  have g := keyed_held h.held0 h.kr
  obtain ⟨k, hr, hk⟩ := rooted_high h.rr g
  obtain ⟨hroom, hsum⟩ := h.room
  rcases put_ok (by decide) h.exact hr (by omega) g h.loose h.held0 k0 k1 with ⟨e, T⟩ | ⟨_, e, hf⟩ | ⟨_, e, c, hc⟩
  · refine ⟨e, ?_⟩
    have hcl1 := clean_closed.put root key 0 h.clean
    obtain ⟨M1, hM1⟩ : ∃ M1, (M.put root key 0).1 = M1 := ⟨_, rfl⟩
    obtain ⟨next, hnext⟩ : ∃ next, (M.put root key 0).2.1 = next := ⟨_, rfl⟩
    rw [hM1] at hcl1
    rw [hM1, hnext] at T ⊢
    obtain ⟨h', t, hh'⟩ := T.tr
    have hn := t.held
    have hn0 := (heldB_int hn).1
    have hold : root = -1 ∨ (M1.pool.heldB root = true ∧ 0 < extT a root root.toNat) := by
      rcases hr with ⟨hr, _⟩ | hr
      · exact .inl hr
      · have h0 := (heldB_int hr.held).1
        exact .inr ⟨T.grown.held hr.held, by unfold extT; rw [if_pos (show ((root.toNat : Nat) : Int) = root by omega)]; omega⟩
    obtain ⟨r1, E2, hlog, hsz, hlv, hlo⟩ := swap_ok T.exact (.inr ⟨hn, by rw [T.zero]; decide⟩) hold
    have hcl2 := clean_closed.swap root next hcl1
    obtain ⟨M2, hM2⟩ : ∃ M2, (M1.swap root next).1 = M2 := ⟨_, rfl⟩
    rw [hM2] at E2 hlog hsz hlv hlo hcl2 ⊢
    have E2' : Exact M2 (extT a next) := exact_congr E2 (fun p _ => by
      unfold swapE extT
      by_cases e1 : (p : Int) = root <;> by_cases e2 : (p : Int) = next <;> simp [e1, e2] <;> omega)
    have hs2 : M2.pool.size = 240 := by rw [hsz, T.grown.size, h.size]
    have live2 : ∀ p : Int, M1.pool.heldB p = true → 0 < extT a next p.toNat → M2.pool.heldB p = true := fun p hp he => by
      obtain ⟨c, hc⟩ := Int.eq_ofNat_of_zero_le (heldB_int hp).1
      rw [hc] at he ⊢
      rw [Int.toNat_natCast] at he
      refine ext_held E2' ?_ he
      rw [hsz]
      have := live_lt (M := M1) (heldB_int hp).2
      rw [hc, Int.toNat_natCast] at this
      exact this
    have hl0 : M.live 0 = true := (heldB_int h.held0).2
    refine ⟨r1, E2', hs2, hcl2, ?_, ?_, ⟨h', .inr (Tr.stays E2' hlog t (live2 _ hn (by unfold extT; rw [if_pos (show ((next.toNat : Nat) : Int) = next by omega)]; omega)))⟩, h.ka, ?_, fun q hq hc => ?_⟩
    · have : M2.nodeAt 0 = M1.nodeAt 0 := by unfold SM.nodeAt; rw [hlog]
      rw [this, T.grown.node 0 hl0, h.node0]
    · obtain ⟨ka, ta⟩ := h.ra
      rcases ta with ta | ta
      · exact ⟨ka, .inl ta⟩
      · have ta1 := Tr.grown T.grown ta
        have ha0 := (heldB_int ta1.held).1
        exact ⟨ka, .inr (Tr.stays E2' hlog ta1 (live2 _ ta1.held (by unfold extT; rw [if_pos (show ((a.toNat : Nat) : Int) = a by omega)]; omega)))⟩
    · refine ⟨putL_rises h.kr.1 _, fun y hy => ?_⟩
      rcases putL_mem hy with rfl | hy
      · exact ⟨k0, k1, rfl⟩
      · exact h.kr.2 y hy
    · obtain ⟨c1, c2⟩ := hlo q hq hc
      obtain ⟨x, hx, he⟩ := T.loose [] rfl q (hlv q hq) c1
      rw [List.nil_append, List.mem_singleton] at hx
      rw [hx] at he
      exact absurd he.symm c2
  · omega
  · have : extT a root c ≤ 3 := by unfold extT extOne; split <;> split <;> split <;> omega
    omega

theorem build_ok : ∀ (ks : List (Int × Int)) {M : SM} {a root : Int} {la l : List (Int × Int)}, TwoInv M a la root l → (∀ y ∈ ks, 0 ≤ y.1 ∧ y.1 < 64 ∧ y.2 = 0) →
    ∃ M' root', SM.build ks M root = (M', root', 0) ∧ TwoInv M' a la root' (ks.foldl putL l) ∧ M'.log.length ≤ M.log.length + 22 * ks.length
  | [], M, _, root, _, _, h, _ => ⟨M, root, rfl, h, Nat.le_refl _⟩
  | x :: ks, M, a, root, la, l, h, hks => by
    have hx := hks x (List.mem_cons_self ..)
    obtain ⟨x1, x2⟩ := x
    dsimp only at hx
    obtain ⟨hx0, hx1, rfl⟩ := hx
    obtain ⟨e1, e2, hI⟩ := two_put h hx0 hx1
    have hl1 := put_log M root x1 0
    have hl2 := swap_log (M.put root x1 0).1 root (M.put root x1 0).2.1
    obtain ⟨M', root', e3, hI', hl⟩ := build_ok ks hI (fun y hy => hks y (List.mem_cons_of_mem _ hy))
    refine ⟨M', root', ?_, hI', by rw [hl2] at hl; rw [List.length_cons]; omega⟩
    rw [build_cons]
    dsimp only
    rw [if_pos e1, if_pos e2, e3]
theorem two_start : TwoInv (madeM 240 9) (-1) [] (-1) [] := by
  refine ⟨exact_congr (made_exact 240 9 (by decide) (by decide) (by decide)) (fun p _ => ?_), rfl, fun q => ?_, rfl, ⟨0, .inl ⟨rfl, rfl, rfl⟩⟩, ⟨0, .inl ⟨rfl, rfl, rfl⟩⟩, ⟨List.Pairwise.nil, fun y hy => by cases hy⟩, ⟨List.Pairwise.nil, fun y hy => by cases hy⟩, made_loose 240 9 (by decide) []⟩
  · unfold extT
    rw [if_neg (by omega)]
    rfl
  · unfold madeM PM.setCnt PM.setSt PM.fresh0
    dsimp only
    by_cases e : q = 0
    · simp [e]
    · simp [e]

/-- The order of the keys tells nothing. -/
theorem putL_in {l : List (Int × Int)} {x y : Int × Int} : y ∈ putL l x ↔ y = x ∨ (y ∈ l ∧ y.1 ≠ x.1) := by
  unfold putL
  simp only [List.mem_append, List.mem_singleton, List.mem_filter, decide_eq_true_eq]
  constructor
  · rintro ((⟨h1, h2⟩ | h) | ⟨h1, h2⟩)
    · exact .inr ⟨h1, by omega⟩
    · exact .inl h
    · exact .inr ⟨h1, by omega⟩
  · rintro (h | ⟨h1, h2⟩)
    · exact .inl (.inr h)
    · rcases Int.lt_or_lt_of_ne h2 with h3 | h3
      · exact .inl (.inl ⟨h1, h3⟩)
      · exact .inr ⟨h1, h3⟩
theorem foldl_in : ∀ (ks l : List (Int × Int)), (∀ y ∈ ks, y.2 = 0) → (∀ y ∈ l, y.2 = 0) → ∀ y, y ∈ ks.foldl putL l ↔ y ∈ l ∨ y ∈ ks
  | [], l, _, _, y => by simp
  | x :: ks, l, hk, hl, y => by
    have hx := hk x (List.mem_cons_self ..)
    rw [List.foldl_cons, foldl_in ks (putL l x) (fun z hz => hk z (List.mem_cons_of_mem _ hz)) (fun z hz => by
      rcases putL_mem hz with rfl | hz
      · exact hx
      · exact hl z hz), putL_in, List.mem_cons]
    constructor
    · rintro ((h | ⟨h, _⟩) | h)
      · exact .inr (.inl h)
      · exact .inl h
      · exact .inr (.inr h)
    · rintro (h | h | h)
      · by_cases e : y.1 = x.1
        · exact .inl (.inl (Prod.ext e (by rw [hl y h, hx])))
        · exact .inl (.inr ⟨h, e⟩)
      · exact .inl (.inl h)
      · exact .inr h
theorem rises_eq : ∀ {a b : List (Int × Int)}, RisesK a → RisesK b → (∀ y, y ∈ a ↔ y ∈ b) → a = b
  | [], [], _, _, _ => rfl
  | [], y :: b, _, _, h => by have := (h y).2 (List.mem_cons_self ..); cases this
  | x :: a, [], _, _, h => by have := (h x).1 (List.mem_cons_self ..); cases this
  | x :: a, y :: b, ha, hb, h => by
    have ha' := List.pairwise_cons.1 ha
    have hb' := List.pairwise_cons.1 hb
    have hxy : x = y := by
      rcases List.mem_cons.1 ((h x).1 (List.mem_cons_self ..)) with e | e
      · exact e
      · rcases List.mem_cons.1 ((h y).2 (List.mem_cons_self ..)) with e2 | e2
        · exact e2.symm
        · have := hb'.1 x e
          have := ha'.1 y e2
          omega
    subst hxy
    rw [rises_eq ha'.2 hb'.2 fun y => ⟨fun hy => by
      rcases List.mem_cons.1 ((h y).1 (List.mem_cons_of_mem _ hy)) with e | e
      · have := ha'.1 y hy; rw [e] at this; omega
      · exact e, fun hy => by
      rcases List.mem_cons.1 ((h y).2 (List.mem_cons_of_mem _ hy)) with e | e
      · have := hb'.1 y hy; rw [e] at this; omega
      · exact e⟩]
theorem foldl_rises (ks : List (Int × Int)) : ∀ {l : List (Int × Int)}, RisesK l → RisesK (ks.foldl putL l) := by
  induction ks with
  | nil => intro l h; exact h
  | cons x ks ih => intro l h; exact ih (putL_rises h x)
theorem orders_same {ks : List (Int × Int)} (hk : ∀ y ∈ ks, y.2 = 0) (at' : Nat) : ks.foldl putL [] = (ks.drop at' ++ ks.take at').foldl putL [] := by
  refine rises_eq (foldl_rises _ List.Pairwise.nil) (foldl_rises _ List.Pairwise.nil) fun y => ?_
  have hk2 : ∀ y ∈ ks.drop at' ++ ks.take at', y.2 = 0 := fun y hy => by
    rcases List.mem_append.1 hy with h | h
    · exact hk y (List.mem_of_mem_drop h)
    · exact hk y (List.mem_of_mem_take h)
  rw [foldl_in ks [] hk (fun y hy => by cases hy), foldl_in _ [] hk2 (fun y hy => by cases hy)]
  have : y ∈ ks ↔ y ∈ ks.drop at' ++ ks.take at' := by
    rw [List.mem_append]
    constructor
    · intro h
      rw [← List.take_append_drop at' ks] at h
      rcases List.mem_append.1 h with h | h
      · exact .inr h
      · exact .inl h
    · rintro (h | h)
      · exact List.mem_of_mem_drop h
      · exact List.mem_of_mem_take h
  rw [this]
end Go.Proofs.Ythmjcbmeiabbgaa
/-
  NodesUndo, NodesExact, plain: a store and its roots; what acts do.
-/
namespace Go.Proofs.Ythmjcbmeiabbgaa
open Go.RowKit

/-- Something done with a store. -/
structure ActM where
  kind : Int
  at_ : Int
  keys : List Int
  block : List Nat
def ActM.ok (a : ActM) : Prop := a.block.length = 16 ∧ ∀ b ∈ a.block, b < 256
def clampAt (k : Int) (n : Nat) : Nat := (max 0 (min k ((n : Int) - 1))).toNat
theorem clampAt_lt {k : Int} {n : Nat} (h : 0 < n) : clampAt k n < n := by unfold clampAt; omega
/-- The entries behind the first one, of some keys. -/
def moreEnts (roots keys : List Int) (j : Nat) : List (Int × Int) :=
  if roots.length = 0 then [] else (List.range (min j 5)).map fun (i : Nat) => ((i : Int) + 1, roots.getD (clampAt (keys.getD i 0) roots.length) 0)
theorem moreEnts_succ {roots keys : List Int} {j : Nat} {k : Int} (hk : keys[j]? = some k) (hr : 0 < roots.length) (h5 : j < 5) :
    moreEnts roots keys (j + 1) = moreEnts roots keys j ++ [((j : Int) + 1, roots.getD (clampAt k roots.length) 0)] := by
  unfold moreEnts
  rw [if_neg (by omega), if_neg (by omega), show min (j + 1) 5 = j + 1 from by omega, show min j 5 = j from by omega, List.range_succ, List.map_append]
  simp only [List.map_cons, List.map_nil]
  rw [show keys.getD j 0 = k from by rw [List.getD_eq_getElem?_getD, hk]; rfl]
theorem moreEnts_none {roots keys : List Int} {j : Nat} (hr : roots.length = 0) : moreEnts roots keys (j + 1) = moreEnts roots keys j := by
  simp only [moreEnts, if_pos hr]
theorem moreEnts_full {roots keys : List Int} {j : Nat} (h5 : 5 ≤ j) : moreEnts roots keys (j + 1) = moreEnts roots keys j := by
  unfold moreEnts; rw [show min (j + 1) 5 = 5 from by omega, show min j 5 = 5 from by omega]
theorem moreEnts_len (roots keys : List Int) (j : Nat) : (moreEnts roots keys j).length ≤ 5 := by
  unfold moreEnts; split
  · exact Nat.zero_le _
  · rw [List.length_map, List.length_range]; omega
def innerOf (page : Int) (roots keys : List Int) (j : Nat) : NM := ⟨3, zeros16, (0, page) :: moreEnts roots keys j⟩
/-- A node of pages that are there is made, and held. -/
def wmake (M : SM) (roots : List Int) (a : ActM) : SM × List Int × Nat :=
  let m := markM M
  let d := m.make ⟨1, a.block, []⟩
  if d.2.2 = 0 then
    let r := d.1.make (innerOf d.2.1 roots a.keys a.keys.length)
    if r.2.2 = 0 then
      let h := r.1.hold r.2.1
      if h.2 = 0 then (h.1, roots ++ [r.2.1], 0) else (⟨m.pool, h.1.log⟩, roots, h.2)
    else (⟨m.pool, r.1.log⟩, roots, r.2.2)
  else (⟨m.pool, d.1.log⟩, roots, d.2.2)

/-- How often some roots have a page. -/
def extL (roots : List Int) : Nat → Nat := fun p => roots.count (p : Int)
structure WInv (M : SM) (roots : List Int) : Prop where
  exact : Exact M (extL roots)
  loose : Loose M []
  held : ∀ r ∈ roots, M.pool.heldB r = true
theorem WInv.same {M N : SM} {roots : List Int} (h : WInv M roots) (hs : N.pool.size = M.pool.size) (hc : ∀ q, N.pool.cnt q = M.pool.cnt q) (hl : ∀ q, N.live q = M.live q) (hn : ∀ q, M.live q = true → N.nodeAt q = M.nodeAt q) : WInv N roots :=
  ⟨exact_same h.exact hs hc hl hn, fun q hq hq0 => h.loose q (by rw [← hl]; exact hq) (by rw [← hc]; exact hq0), fun r hr => by
    obtain ⟨h0, h1⟩ := heldB_int (h.held r hr)
    exact held_of_live h0 (by rw [hl]; exact h1)⟩
theorem WInv.mark {M : SM} {roots : List Int} (h : WInv M roots) : WInv (markM M) roots := h.same rfl (fun _ => rfl) (mark_live M) (fun _ _ => rfl)
theorem WInv.undo {M N : SM} {roots : List Int} (h : WInv M roots) (k : Marked M N) : WInv ⟨M.pool, N.log⟩ roots := h.same rfl (fun _ => rfl) (fun _ => rfl) (fun q hq => k.node q hq)
theorem winv_start {s : Nat} (h : s ≤ 240) : WInv ⟨PM.fresh0 s, []⟩ [] := by
  have hl : ∀ q, SM.live ⟨PM.fresh0 s, []⟩ q = false := fun q => by simp [SM.live, PM.live, PM.fresh0]
  refine ⟨⟨h, fun _ => Nat.zero_le _, fun p _ => ?_, fun q hq => (by rw [hl] at hq; cases hq), fun q hq => (by rw [hl] at hq; cases hq), ⟨fun _ => 0, fun q hq => (by rw [hl] at hq; cases hq)⟩⟩, fun q hq => (by rw [hl] at hq; cases hq), fun r hr => (by cases hr)⟩
  have : SM.refs ⟨PM.fresh0 s, []⟩ p = 0 := sumN_zero fun q _ => by rw [hl]; rfl
  rw [this]; rfl
theorem WInv.commit {M : SM} {roots : List Int} (h : WInv M roots) : WInv ⟨M.pool.committed, M.log⟩ roots := by
  refine h.same rfl (fun _ => rfl) (fun q => ?_) (fun _ _ => rfl)
  by_cases hq : M.live q = true
  · have hc : 0 < M.pool.cnt q := by
      rcases Nat.eq_zero_or_pos (M.pool.cnt q) with h0 | h0
      · obtain ⟨x, hx, _⟩ := h.loose q hq h0; cases hx
      · exact h0
    rw [hq]
    have := live_lt hq
    simp [SM.live, PM.live, PM.committed, this, hc]
  · have hq' : M.live q = false := by simpa using hq
    rw [hq']
    simp only [SM.live, PM.live, Bool.and_eq_false_iff, Bool.or_eq_false_iff] at hq' ⊢
    rcases hq' with h1 | h1
    · exact .inl h1
    · exact .inr ⟨h1.1, rfl, rfl⟩
theorem extL_append (a b : List Int) (p : Nat) : extL (a ++ b) p = extL a p + extL b p := List.count_append
theorem extL_one (r : Int) (p : Nat) : extL [r] p = if (p : Int) = r then 1 else 0 := by
  unfold extL
  rw [List.count_singleton]
  by_cases h : (p : Int) = r
  · rw [if_pos h, if_pos (by simp [h])]
  · rw [if_neg h, if_neg (by simp; exact fun e => h e.symm)]
theorem data_ok {b : List Nat} (h1 : b.length = 16) (h2 : ∀ x ∈ b, x < 256) : NM.ok ⟨1, b, []⟩ := ⟨by unfold NM.rightB; rw [if_pos rfl]; rfl, h1, h2⟩
theorem more_mem {roots keys : List Int} {j : Nat} {x : Int × Int} (hx : x ∈ moreEnts roots keys j) : 1 ≤ x.1 ∧ x.1 ≤ 5 ∧ x.2 ∈ roots := by
  unfold moreEnts at hx
  split at hx
  · cases hx
  · rename_i hr
    obtain ⟨i, hi, rfl⟩ := List.mem_map.1 hx
    rw [List.mem_range] at hi
    refine ⟨by show (1 : Int) ≤ (i : Int) + 1; omega, by show (i : Int) + 1 ≤ 5; omega, ?_⟩
    have hlt := clampAt_lt (k := keys.getD i 0) (n := roots.length) (by omega)
    rw [show (((i : Int) + 1, roots.getD (clampAt (keys.getD i 0) roots.length) 0) : Int × Int).2 = roots.getD (clampAt (keys.getD i 0) roots.length) 0 from rfl, List.getD_eq_getElem?_getD, List.getElem?_eq_getElem hlt]
    exact List.getElem_mem hlt
theorem more_rises (roots keys : List Int) (j : Nat) : RisesK (moreEnts roots keys j) := by
  unfold moreEnts
  split
  · exact List.Pairwise.nil
  · unfold RisesK
    rw [List.pairwise_map]
    refine List.Pairwise.imp_of_mem (fun _ _ h => ?_) (List.pairwise_lt_range)
    simp only
    omega
theorem wmake_ok {M : SM} {roots : List Int} (h : WInv M roots) {a : ActM} (ha : a.ok) :
    ((wmake M roots a).2.2 = 0 ∨ (wmake M roots a).2.2 = 71 ∨ (wmake M roots a).2.2 = 72) ∧ WInv (wmake M roots a).1 (wmake M roots a).2.1 := by
  have hm := h.mark
  have hC := marked_closed (markM M)
  have k1 := hC.make ⟨1, a.block, []⟩ (mark_start M)
  unfold wmake
  dsimp only
  have d := make_ok hm.exact (n := ⟨1, a.block, []⟩) (data_ok ha.1 ha.2) (fun x hx => by cases hx)
  obtain ⟨D, hD⟩ : ∃ D, (markM M).make ⟨1, a.block, []⟩ = D := ⟨_, rfl⟩
  rw [hD] at d k1 ⊢
  rcases d with ⟨i, e, H⟩ | ⟨e, _⟩ | ⟨e, _⟩
  · rw [e]
    dsimp only
    rw [if_pos rfl]
    obtain ⟨n, hn⟩ : ∃ n, innerOf (i : Int) roots a.keys a.keys.length = n := ⟨_, rfl⟩
    have hhi : D.1.pool.heldB (i : Int) = true := by rw [heldB_nat]; exact H.live
    have hkid : ∀ x ∈ n.ents, D.1.pool.heldB x.2 = true := fun x hx => by
      rw [← hn] at hx
      rcases List.mem_cons.1 hx with e | hx
      · rw [e]; exact hhi
      · exact H.grown.held (hm.held _ (more_mem hx).2.2)
    have hnok : n.ok := by
      rw [← hn]
      refine node_ok (.inr rfl) (List.pairwise_cons.2 ⟨fun x hx => by have := more_mem hx; show (0 : Int) < x.1; omega, more_rises _ _ _⟩) (by simp) (by rw [List.length_cons]; have := moreEnts_len roots a.keys a.keys.length; omega) (fun x hx => ?_)
      have hb := held_bound H.exact (hkid x (by rw [← hn]; exact hx))
      rcases List.mem_cons.1 hx with e | hx
      · rw [e] at hb ⊢; exact ⟨Int.le_refl _, (by show (0 : Int) < 64; decide), hb⟩
      · have := more_mem hx; exact ⟨by omega, by omega, hb⟩
    rw [hn]
    have r := make_ok H.exact hnok hkid
    have k2 := hC.make n k1
    obtain ⟨R, hR⟩ : ∃ R, D.1.make n = R := ⟨_, rfl⟩
    rw [hR] at r k2 ⊢
    rcases r with ⟨q, e2, H2⟩ | ⟨e2, _⟩ | ⟨e2, _⟩
    · rw [e2]
      dsimp only
      rw [if_pos rfl]
      have hz := H2.zero H.exact hkid
      obtain ⟨e3, E3, hl3⟩ := holdE_ok H2.exact H2.live (by omega)
      rw [e3]
      dsimp only
      rw [if_pos rfl]
      refine ⟨.inl rfl, exact_congr E3 (fun p _ => ?_), fun p hp hc => ?_, fun x hx => ?_⟩
      · rw [extL_append, extL_one]
        unfold incE
        by_cases e : p = q
        · rw [if_pos e, if_pos (by omega)]
        · rw [if_neg e, if_neg (by omega)]; rfl
      · rw [hl3] at hp
        have hc' : (if p = q then R.1.pool.cnt q + 1 else R.1.pool.cnt p) = 0 := hc
        split at hc'
        · omega
        · rename_i hne
          rcases H2.only p hp with e | hp
          · exact absurd e hne
          · rw [H2.cnt] at hc'
            rcases H.only p hp with e | hp2
            · subst e
              have : 0 < occ n.ents p := by
                have := occ_pos (l := n.ents) (x := (0, (p : Int))) (by rw [← hn]; exact List.mem_cons_self ..) (by show (0 : Int) ≤ (p : Int); omega)
                simpa using this
              omega
            · rw [H.cnt] at hc'
              exact hm.loose p hp2 (by omega)
      · have hx' : R.1.pool.heldB x = true := by
          rcases List.mem_append.1 hx with h1 | h1
          · exact H2.grown.held (H.grown.held (hm.held x h1))
          · rw [List.mem_singleton.1 h1, heldB_nat]; exact H2.live
        obtain ⟨h0, h1⟩ := heldB_int hx'
        exact held_of_live h0 (by rw [hl3]; exact h1)
    · rw [e2]
      exact ⟨.inr (.inl rfl), hm.undo k2⟩
    · rw [e2]
      exact ⟨.inr (.inr rfl), hm.undo k2⟩
  · rw [e]
    exact ⟨.inr (.inl rfl), hm.undo k1⟩
  · rw [e]
    exact ⟨.inr (.inr rfl), hm.undo k1⟩
theorem make_size (M : SM) (n : NM) : (M.make n).1.pool.size = M.pool.size := by
  have : Closed fun N => N.pool.size = M.pool.size := ⟨fun N i n _ h => h, fun N i h => (holdTo_size _ _).trans h, fun N i _ h => (dropTo_size _ _).trans h⟩
  exact this.make n rfl
theorem wmake_size (M : SM) (roots : List Int) (a : ActM) : (wmake M roots a).1.pool.size = M.pool.size := by
  unfold wmake
  dsimp only
  split
  · split
    · split
      · show (SM.hold _ _).1.pool.size = _
        unfold SM.hold
        dsimp only
        rw [holdTo_size, make_size, make_size]
        rfl
      · rfl
    · rfl
  · rfl
theorem wmake_log (M : SM) (roots : List Int) (a : ActM) : (wmake M roots a).1.log.length ≤ M.log.length + 2 := by
  have h1 := make_log (markM M) ⟨1, a.block, []⟩
  have e : (markM M).log.length = M.log.length := rfl
  unfold wmake
  dsimp only
  obtain ⟨D, hD⟩ : ∃ D, (markM M).make ⟨1, a.block, []⟩ = D := ⟨_, rfl⟩
  rw [hD] at h1 ⊢
  have h2 := make_log D.1 (innerOf D.2.1 roots a.keys a.keys.length)
  split
  · split
    · split
      · show (SM.hold _ _).1.log.length ≤ _
        show (SM.make _ _).1.log.length ≤ _
        omega
      · show (SM.make _ _).1.log.length ≤ _
        omega
    · show (SM.make _ _).1.log.length ≤ _
      omega
  · show D.1.log.length ≤ _
    omega
theorem wmake_roots (M : SM) (roots : List Int) (a : ActM) : (wmake M roots a).2.1.length ≤ roots.length + 1 := by
  unfold wmake
  dsimp only
  split
  · split
    · split
      · rw [List.length_append, List.length_singleton]; exact Nat.le_refl _
      · exact Nat.le_succ _
    · exact Nat.le_succ _
  · exact Nat.le_succ _

/-- A root is dropped. -/
theorem winv_drop {M : SM} {roots : List Int} (h : WInv M roots) {i : Nat} {r : Int} (hr : roots[i]? = some r) :
    (M.drop r).2 = 0 ∧ WInv (M.drop r).1 (roots.take i ++ roots.drop (i + 1)) ∧ (M.drop r).1.log = M.log ∧ (M.drop r).1.pool.size = M.pool.size := by
  have hmem : r ∈ roots := List.mem_of_getElem? hr
  obtain ⟨h0, hl⟩ := heldB_int (h.held r hmem)
  obtain ⟨k, rfl⟩ := Int.eq_ofNat_of_zero_le h0
  rw [Int.toNat_natCast] at hl
  have hi : i < roots.length := (List.getElem?_eq_some_iff.1 hr).1
  have hsplit : roots = roots.take i ++ (k : Int) :: roots.drop (i + 1) := by
    have := (List.getElem?_eq_some_iff.1 hr).2
    rw [← this, List.getElem_cons_drop, List.take_append_drop]
  have hext : ∀ p, extL roots p = extL (roots.take i ++ roots.drop (i + 1)) p + if p = k then 1 else 0 := fun p => by
    have h1 : extL roots p = extL (roots.take i ++ (k : Int) :: roots.drop (i + 1)) p := by rw [← hsplit]
    rw [h1]
    unfold extL
    rw [List.count_append, List.count_append, List.count_cons]
    by_cases e : p = k
    · subst e; simp; omega
    · have e' : ¬ ((k : Int) == (p : Int)) = true := by simp; omega
      rw [if_neg e', if_neg e]
      omega
  obtain ⟨r1, D⟩ := drop_ok h.exact hl (by rw [hext, if_pos rfl]; omega)
  refine ⟨r1, ⟨exact_congr D.exact (fun p _ => ?_), D.loose' h.loose, fun x hx => ?_⟩, D.log, D.size⟩
  · unfold decE
    by_cases e : p = k
    · subst e; rw [if_pos rfl, hext, if_pos rfl]; omega
    · rw [if_neg e, hext, if_neg e]; rfl
  · have hx' : x ∈ roots := by
      rcases List.mem_append.1 hx with h1 | h1
      · exact List.mem_of_mem_take h1
      · exact List.mem_of_mem_drop h1
    obtain ⟨hx0, hxl⟩ := heldB_int (h.held x hx')
    obtain ⟨m, rfl⟩ := Int.eq_ofNat_of_zero_le hx0
    rw [Int.toNat_natCast] at hxl
    refine ext_held (exact_congr (f := extL (roots.take i ++ roots.drop (i + 1))) D.exact fun p _ => ?_) (by rw [D.size]; exact live_lt hxl) ?_
    · unfold decE
      by_cases e : p = k
      · subst e; rw [if_pos rfl, hext, if_pos rfl]; omega
      · rw [if_neg e, hext, if_neg e]; rfl
    · unfold extL
      exact List.count_pos_iff.2 hx
/-- A root is held once more. -/
theorem winv_hold {M : SM} {roots : List Int} (h : WInv M roots) {r : Int} (hr : r ∈ roots) :
    ((M.hold r).2 = 0 ∧ WInv (M.hold r).1 (roots ++ [r])) ∨ ((M.hold r).2 = 72 ∧ (M.hold r).1 = M) := by
  obtain ⟨h0, hl⟩ := heldB_int (h.held r hr)
  have hh := h.held r hr
  obtain ⟨k, rfl⟩ := Int.eq_ofNat_of_zero_le h0
  rw [Int.toNat_natCast] at hl
  by_cases hc : M.pool.cnt k < 255
  · obtain ⟨e3, E3, hl3⟩ := holdE_ok h.exact hl hc
    rw [e3]
    refine .inl ⟨rfl, exact_congr E3 (fun p _ => ?_), fun p hp hc => ?_, fun x hx => ?_⟩
    · rw [extL_append, extL_one]
      unfold incE
      by_cases e : p = k
      · rw [if_pos e, if_pos (by omega)]
      · rw [if_neg e, if_neg (by omega)]; rfl
    · rw [hl3] at hp
      have hc' : (if p = k then M.pool.cnt k + 1 else M.pool.cnt p) = 0 := hc
      split at hc'
      · omega
      · exact h.loose p hp hc'
    · have hx' : x ∈ roots := by
        rcases List.mem_append.1 hx with h1 | h1
        · exact h1
        · rw [List.mem_singleton.1 h1]; exact hr
      obtain ⟨h0, h1⟩ := heldB_int (h.held x hx')
      exact held_of_live h0 (by rw [hl3]; exact h1)
  · right
    simp [SM.hold, PM.holdErr, PM.holdTo, hh, hc]
/-- Each page is held as often as roots and nodes that are reached have it. -/
theorem winv_exact {M : SM} {roots : List Int} (h : WInv M roots) : ∃ l, M.reach roots = (l, 0) ∧ (∀ x ∈ l, 0 ≤ x ∧ x < 240 ∧ ∃ n, M.get x = (n, 0) ∧ M.ents x.toNat = n.ents ∧ n.ok ∧ ∀ y ∈ n.ents, 0 ≤ y.2 ∧ y.2 < 240) ∧
    ∀ p : Nat, M.pool.countI p = ((roots.count (p : Int) + (l.map fun x => occ (M.ents x.toNat) p).sum : Nat) : Int) := by
  obtain ⟨l, e, R⟩ := reach_ok h.exact (roots := roots) (fun r hr => .inr (h.held r hr))
  have he : ∀ q : Nat, q < M.pool.size → 0 < extL roots q → (q : Int) ∈ roots := fun q _ hq => List.count_pos_iff.1 hq
  refine ⟨l, e, fun x hx => ?_, fun p => ?_⟩
  · have hb := held_bound h.exact (R.live x hx)
    obtain ⟨n, hn, hok, hg⟩ := get_live h.exact (R.live x hx)
    exact ⟨hb.1, hb.2, n, hg, ents_of hn, hok, fun y hy => (hok.entry hy).2.2⟩
  · rw [reached_refs h.exact h.loose R he p]
    unfold PM.countI PM.thereB
    by_cases hp : p < M.pool.size
    · rw [if_pos (by simp; omega), Int.toNat_natCast, h.exact.cnt p hp]
      unfold extL
      omega
    · rw [if_neg (by simp; omega)]
      have h1 : roots.count (p : Int) = 0 := by
        rw [List.count_eq_zero]
        intro hm
        have := live_lt (heldB_int (h.held _ hm)).2
        rw [Int.toNat_natCast] at this
        exact hp this
      have h2 : M.refs p = 0 := sumN_zero fun q _ => by
        by_cases hq : M.live q = true
        · rw [if_pos hq]
          rcases Nat.eq_zero_or_pos (occ (M.ents q) p) with h0 | h0
          · exact h0
          · obtain ⟨x, hx, hxe⟩ := List.countP_pos_iff.1 h0
            have := live_lt (h.exact.kids q hq x hx)
            rw [show x.2 = (p : Int) by simpa using hxe, Int.toNat_natCast] at this
            exact absurd this hp
        · rw [if_neg hq]
      rw [h1, h2]
      rfl
/-- Behind the last drop and a commit all is free. -/
theorem winv_end {M : SM} (h : WInv M []) : M.pool.committed.freeCount = M.pool.size := by
  have hno := reach_all h.exact h.loose (L := []) (fun q _ hq => by simp [extL] at hq) (fun q hq => by cases hq)
  have hc : ∀ q, q < M.pool.size → M.pool.cnt q = 0 := fun q hq => by
    have : ¬ M.live q = true := fun hl => by simpa using hno q hl
    simp only [SM.live, PM.live, hq, decide_true, Bool.true_and, Bool.or_eq_true, decide_eq_true_eq, not_or] at this
    omega
  unfold PM.freeCount
  rw [freeN_sum]
  have : ∀ n, n ≤ M.pool.size → sumN (fun i => if M.pool.committed.freeB i then 1 else 0) n = n := by
    intro n
    induction n with
    | zero => intro _; rfl
    | succ n ih =>
      intro hn
      unfold sumN
      rw [ih (by omega)]
      have : M.pool.committed.freeB n = true := by simp [PM.freeB, PM.committed, hc n (by omega)]
      rw [this]
      rfl
  exact this _ (Nat.le_refl _)
end Go.Proofs.Ythmjcbmeiabbgaa
