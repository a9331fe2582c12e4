/-
  The law's own look at a pool and the document's pages: 'alike' answers true where they are one.
-/
import Derived.Test.YtgajongbbaccjaaRefC
namespace Go.Proofs.Ytgajongbbaccjaa
open Go.RowKit
set_option maxRecDepth 100000

set_option maxHeartbeats 2000000 in
theorem alike_any {A : Option Addr} {n cap b : Nat} {p : PM} {w : World} (hp : PoolAt w b p) (h : LeavesAt w (.slice A n cap) p) (hout : ∀ i, p.size ≤ i → p.cnt i = 0) :
    Calls Try.prog 43 #[.pointer (some ⟨b, 0, none⟩), .slice A n cap] w fun e w' => e = .returned (.bool true) ∧ Kept (fun _ => False) w w' := by
  obtain rfl := h.size
  have hs := hp.hsize
  have hst' := Lib.hid hp.hst
  have hcn' := Lib.hid hp.hcnt
  have hget' := Lib.hid p.cntVals_get
  have hp' := Lib.hid hp
  have h' := Lib.hid h
  have hout' := Lib.hid hout
  clear h hout
  go_enter Try.func43, Try.ntmps43
  go_wp2_with fail
  refine (counts_any hp).mono ?_
  rintro e w1 ⟨rfl, k1⟩
  clear hp
  go_wp2_with (first | (refine wpList_alloc_as 41 rfl rfl cntZero cnt_zero ?_) | (refine wpList_store_whole 41 rfl rfl rfl p.cntVals rfl (by rw [p.cntVals_len, cnt_cells]) 41 cntZero (heap_alloc_new w1 _) (by rw [p.cntVals_len, cntZero_size]) p.cntVals_one ?_) | (refine wpList_load_agg 41 rfl rfl rfl _ Try.underlying41 rfl p.cntVals (by rw [p.cntVals_len, cnt_cells]) (fun j v hv => by rw [cell_of_heap (setRow_heap _ _ cntZero _ 41 (0, 0) (heap_alloc_new w1 _)), Nat.zero_add]; simpa using hv) ?_))
  obtain ⟨w2, hw2⟩ : ∃ w2, w2 = (w1.alloc (.cells cntZero 41)).setRow w1.heap.size p.cntVals.toArray := ⟨_, rfl⟩
  rw [← hw2]
  have k2 : Kept (fun _ => False) w w2 := by rw [hw2]; exact k1.trans (((Kept.refl _ _).alloc _).setRowNew (Nat.le_refl _) _)
  clear hw2 k1
  go_loopw [5, 13] (fun f i wr => ∃ k : Nat, k ≤ 240 ∧ i = .int .i64 k ∧ f = .int .i64 (p.freeN (min k p.size)) ∧ Kept (fun _ => False) w wr) (fun _ i _ => 240 - (intOf i).toNat)
  case atStart => exact ⟨0, by omega, rfl, by rw [Nat.zero_min]; rfl, k2⟩
  case round =>
    obtain ⟨k, hk, rfl, rfl, hkk⟩ := hrel
    have hfl := p.freeN_le (min k p.size)
    by_cases hlt : k < 240
    · have hix := fun wx => run_index_agg (P := Try.prog) Try.underlying41 Try.underlying5 rfl (by kernel_rfl) p.cntVals hlt (hget'.out k hlt) .i64 wx
      have hck := hcn'.out k
      have hka := fun o => hkk.alloc o
      have hka' := Lib.hid hka; clear hka
      by_cases hks : k < p.size
      · have hm1 : Hid (min k p.size = k) := Nat.min_eq_left (by omega)
        have hm2 : Hid (min (k + 1) p.size = k + 1) := Nat.min_eq_left (by omega)
        rw [hm1.out] at hfl ⊢
        obtain ⟨ab, ao, rfl, hbl, c0, c1, c2, c3, c4⟩ := LeavesAt.cells (h'.out.fresh hkk) hks
        have hfr := fun wx => refFree_leaf p k (hst'.out k) wx
        have hth : p.thereB k = true := by simp [PM.thereB]; omega
        have hcv : p.countI k = (p.cnt k : Int) := by simp [PM.countI, hth]
        have hfv : p.freshB k = (p.st k == 1 || p.st k == 2) := by simp [PM.freshB, hth]
        have hcc := fun (wx : World) (hx : PoolAt wx b p) => count_any hx k
        have hff := fun (wx : World) (hx : PoolAt wx b p) => fresh_any hx k
        rw [hcv] at hcc
        rw [hfv] at hff
        clear hth hcv hfv
        have hcc' := Lib.hid hcc; clear hcc
        by_cases hfree : p.freeB k = true
        · have hsucc : Hid (p.freeN (k + 1) = p.freeN k + 1) := by show p.freeN k + _ = _; rw [if_pos hfree]
          have hs1 : (p.st k == 1) = false := by simp only [PM.freeB, Bool.and_eq_true, beq_iff_eq] at hfree; simp [hfree.2]
          rw [hfree, hs1] at hfr
          rw [hs1] at c1
          rw [hs1, Bool.false_or] at hff
          have hff' := Lib.hid hff; clear hff hfree hs1
          have hfr' := Lib.hid hfr; clear hfr
          go_wp2_with fail
          refine (hfr'.out _).mono ?_
          rintro e w5 ⟨rfl, k5⟩
          have hb5 := k5.get (heap_alloc_new wr _) id
          have k6 := (hka'.out _).trans k5
          have p6 := hp'.out.kept k6 id
          have d0 : w5.cell? ⟨wr.heap.size, 0, none⟩ = some (.int .i64 (p.cnt k)) := by rw [cell_of_heap hb5]; rfl
          have d1 : w5.cell? ⟨wr.heap.size, 1, none⟩ = some (.bool false) := by rw [cell_of_heap hb5]; rfl
          have d2 : w5.cell? ⟨wr.heap.size, 2, none⟩ = some (.bool (p.st k == 2)) := by rw [cell_of_heap hb5]; rfl
          clear hb5 c0 c1 c2 c3 c4 hix
          go_wp2_with fail
          go_quiet ((first | (go_at_call 31; exact quiet_eq (hcc'.out _ (p6.drewN _))) | (go_at_call 35; exact quiet_eq (hff'.out _ (p6.drewN _)))))
          go_wp2_with fail
          go_roundw
          case rel => exact ⟨k + 1, by omega, by go_num, by rw [hm2.out, hsucc.out]; go_num, k6.drewN _⟩
          case measure => simp [intOf]; omega
        · have hfree' : p.freeB k = false := by simpa using hfree
          have hsucc : Hid (p.freeN (k + 1) = p.freeN k) := by show p.freeN k + _ = _; rw [if_neg hfree]; rfl
          rw [hfree'] at hfr
          clear hfree hfree'
          by_cases hs1 : (p.st k == 1) = true
          · rw [hs1] at c1 hfr
            rw [hs1, Bool.true_or] at hff
            have hff' := Lib.hid hff; clear hff hs1
            have hfr' := Lib.hid hfr; clear hfr
            go_wp2_with fail
            refine (hfr'.out _).mono ?_
            rintro e w5 ⟨rfl, k5⟩
            have hb5 := k5.get (heap_alloc_new wr _) id
            have k6 := (hka'.out _).trans k5
            have p6 := hp'.out.kept k6 id
            have d0 : w5.cell? ⟨wr.heap.size, 0, none⟩ = some (.int .i64 (p.cnt k)) := by rw [cell_of_heap hb5]; rfl
            have d1 : w5.cell? ⟨wr.heap.size, 1, none⟩ = some (.bool true) := by rw [cell_of_heap hb5]; rfl
            have d2 : w5.cell? ⟨wr.heap.size, 2, none⟩ = some (.bool (p.st k == 2)) := by rw [cell_of_heap hb5]; rfl
            clear hb5 c0 c1 c2 c3 c4 hix
            go_wp2_with fail
            go_quiet ((first | (go_at_call 31; exact quiet_eq (hcc'.out _ (p6.drewN _))) | (go_at_call 35; exact quiet_eq (hff'.out _ (p6.drewN _)))))
            go_wp2_with fail
            go_roundw
            case rel => exact ⟨k + 1, by omega, by go_num, by rw [hm2.out, hsucc.out], k6.drewN _⟩
            case measure => simp [intOf]; omega
          · have hs1' : (p.st k == 1) = false := by simpa using hs1
            rw [hs1'] at c1 hfr
            rw [hs1', Bool.false_or] at hff
            have hff' := Lib.hid hff; clear hff hs1 hs1'
            have hfr' := Lib.hid hfr; clear hfr
            go_wp2_with fail
            refine (hfr'.out _).mono ?_
            rintro e w5 ⟨rfl, k5⟩
            have hb5 := k5.get (heap_alloc_new wr _) id
            have k6 := (hka'.out _).trans k5
            have p6 := hp'.out.kept k6 id
            have d0 : w5.cell? ⟨wr.heap.size, 0, none⟩ = some (.int .i64 (p.cnt k)) := by rw [cell_of_heap hb5]; rfl
            have d1 : w5.cell? ⟨wr.heap.size, 1, none⟩ = some (.bool false) := by rw [cell_of_heap hb5]; rfl
            have d2 : w5.cell? ⟨wr.heap.size, 2, none⟩ = some (.bool (p.st k == 2)) := by rw [cell_of_heap hb5]; rfl
            clear hb5 c0 c1 c2 c3 c4 hix
            go_wp2_with fail
            go_quiet ((first | (go_at_call 31; exact quiet_eq (hcc'.out _ (p6.drewN _))) | (go_at_call 35; exact quiet_eq (hff'.out _ (p6.drewN _)))))
            go_wp2_with fail
            go_roundw
            case rel => exact ⟨k + 1, by omega, by go_num, by rw [hm2.out, hsucc.out], k6.drewN _⟩
            case measure => simp [intOf]; omega
      · have hm1 : Hid (min k p.size = p.size) := Nat.min_eq_right (by omega)
        have hm2 : Hid (min (k + 1) p.size = p.size) := Nat.min_eq_right (by omega)
        rw [hm1.out] at hfl ⊢
        have hc0 : p.cnt k = 0 := hout'.out k (by omega)
        rw [hc0] at hix
        have hth : p.thereB k = false := by simp [PM.thereB]; omega
        have hcv : p.countI k = 0 := by simp [PM.countI, hth]
        have hfv : p.freshB k = false := by simp [PM.freshB, hth]
        have hcc := fun (wx : World) (hx : PoolAt wx b p) => count_any hx k
        have hff := fun (wx : World) (hx : PoolAt wx b p) => fresh_any hx k
        rw [hcv] at hcc
        rw [hfv] at hff
        have hcc' := Lib.hid hcc; clear hcc
        have hff' := Lib.hid hff; clear hff
        have hks' : p.size ≤ k := by omega
        clear hth hcv hfv hc0 hck
        have pa := fun o => hp'.out.kept (hka'.out o) id
        have pa' := Lib.hid pa; clear pa
        go_wp2_with fail
        go_quiet ((first | (go_at_call 31; exact quiet_eq (hcc'.out _ ((pa'.out _).drewN _))) | (go_at_call 35; exact quiet_eq (hff'.out _ ((pa'.out _).drewN _)))))
        go_wp2_with fail
        go_roundw
        case rel => exact ⟨k + 1, by omega, by go_num, by rw [hm2.out], (hka'.out _).drewN _⟩
        case measure => simp [intOf]; omega
    · obtain rfl : k = 240 := by omega
      have hm1 : Hid (min 240 p.size = p.size) := Nat.min_eq_right (by omega)
      rw [hm1.out]
      have p6 := hp'.out.kept hkk id
      have e1 : p.countI (-1) = 0 := by simp [PM.countI, PM.thereB]
      have e2 : p.countI 240 = 0 := by
        have : p.thereB 240 = false := by simp [PM.thereB]; omega
        simp [PM.countI, this]
      have q1 := count_any p6 (-1)
      have q2 := count_any p6 240
      rw [e1] at q1
      rw [e2] at q2
      have q1' := Lib.hid q1; clear q1 e1
      have q2' := Lib.hid q2; clear q2 e2
      have hfc : Hid (p.freeN p.size = p.freeCount) := rfl
      rw [hfc.out]
      go_wp2_with fail
      refine (size_any p6).mono ?_
      rintro e w7 ⟨rfl, rfl⟩
      go_wp2_with fail
      refine (freeCount_any p6).mono ?_
      rintro e w7 ⟨rfl, rfl⟩
      go_wp2_with fail
      refine (q1'.out).mono ?_
      rintro e w7 ⟨rfl, rfl⟩
      go_wp2_with fail
      refine (q2'.out).mono ?_
      rintro e w7 ⟨rfl, rfl⟩
      go_wp2_with fail
      go_ret
      exact ⟨rfl, hkk⟩
end Go.Proofs.Ytgajongbbaccjaa
