/-
  NodesExact: the walk.
-/
import Derived.Test.YthmjcbmeiabbgaaK18
import Derived.Test.YthmjcbmeiabbgaaK22
set_option linter.unusedVariables false
set_option linter.unusedSimpArgs false
namespace Go.Proofs.Ythmjcbmeiabbgaa
open Go.RowKit
set_option maxRecDepth 100000

theorem ints_take {w : World} {Av : Option Addr} {cap : Nat} {l : List Int} (h : SliceAt w (.slice Av l.length cap) 1 l.length (l.map (Value.int .i64))) {q : Nat} (hq : q ≤ l.length) : SliceAt w (.slice Av q cap) 1 q ((l.take q).map (Value.int .i64)) := by
  obtain ⟨_, A', cap', hv, h1, h2, h3⟩ := h
  injection hv with e1 e2 e3
  subst e1 e3
  refine ⟨by rw [List.length_map, List.length_take]; omega, _, _, rfl, by omega, h2, fun j u hj => h3 j u ?_⟩
  rw [List.map_take, List.getElem?_take] at hj
  split at hj
  · exact hj
  · cases hj
theorem slice_empty (w : World) (b off : Nat) : SliceAt w (.slice (some ⟨b, off, none⟩) 0 0) 1 0 [] := ⟨rfl, _, 0, rfl, Nat.le_refl _, by decide, fun j u hj => by simp at hj⟩
theorem ints_drop {w : World} {b off cap : Nat} {l : List Int} (h : SliceAt w (.slice (some ⟨b, off, none⟩) l.length cap) 1 l.length (l.map (Value.int .i64))) {q : Nat} (hq : q ≤ l.length) {o2 : Nat} (ho : q < l.length → o2 = off + q) : SliceAt w (.slice (some ⟨b, o2, none⟩) (l.length - q) (cap - q)) 1 (l.length - q) ((l.drop q).map (Value.int .i64)) := by
  obtain ⟨_, A', cap', hv, h1, h2, h3⟩ := h
  injection hv with e1 e2 e3
  subst e1 e3
  refine ⟨by rw [List.length_map, List.length_drop]; omega, _, _, rfl, by omega, by omega, fun j u hj => ?_⟩
  have hjl := (List.getElem?_eq_some_iff.1 hj).1
  rw [List.length_map, List.length_drop] at hjl
  rw [List.map_drop, List.getElem?_drop] at hj
  obtain ⟨b', off', hA, hc⟩ := h3 _ u hj
  cases hA
  exact ⟨b, o2, rfl, by rw [ho (by omega), Nat.add_assoc]; exact hc⟩
set_option maxHeartbeats 16000000 in
theorem nodesExactWalk {w : World} (pages : Int) (va : Value) (al : List ActM) (ha : SliceOf w 19 (ActP w) va al) : Calls Try.prog 11 #[.int .i64 pages, va] w fun e w' => e = .returned (.bool true) ∧ Kept (fun _ => False) w w' := by
  obtain ⟨Aa, ca, rfl, hca1, hca2, hal⟩ := ha
  unfold maxLen at hca2
  have hal' := Lib.hid hal
  clear hal
  by_cases g1 : pages < 4
  · skip
    go_enter Try.func11, Try.ntmps11
    go_wp2_with fail
    refine (alive09 _).mono ?_
    rintro e w1 ⟨rfl, k1⟩
    have k1' := Lib.hid k1
    clear k1
    go_wp2_with fail
    go_ret
    exact ⟨rfl, k1'.out⟩
  have d1 : decide (pages < 4) = false := by rw [decide_eq_false_iff_not]; exact g1
  by_cases g2 : 100 < pages
  · clear g1
    go_enter Try.func11, Try.ntmps11
    go_wp2_with fail
    refine (alive09 _).mono ?_
    rintro e w1 ⟨rfl, k1⟩
    have k1' := Lib.hid k1
    clear k1
    go_wp2_with fail
    go_ret
    exact ⟨rfl, k1'.out⟩
  have d2 : decide (100 < pages) = false := by rw [decide_eq_false_iff_not]; exact g2
  by_cases g4 : 40 < al.length
  · have hb : decide ((40 : Int) < (al.length : Int)) = true := by rw [decide_eq_true_eq]; omega
    clear g1 g2 g4
    go_enter Try.func11, Try.ntmps11
    go_wp2_with fail
    refine (alive09 _).mono ?_
    rintro e w1 ⟨rfl, k1⟩
    have k1' := Lib.hid k1
    clear k1
    go_wp2_with fail
    go_ret
    exact ⟨rfl, k1'.out⟩
  have d4 : decide ((40 : Int) < (al.length : Int)) = false := by rw [decide_eq_false_iff_not]; omega
  have hal40 : al.length ≤ 40 := by omega
  obtain ⟨s, hs⟩ : ∃ s, (min pages 244 - 4).toNat = s := ⟨_, rfl⟩
  have hs240 : s ≤ 240 := by omega
  have hm := fun w => made09 pages (by omega) (by omega) w
  rw [hs] at hm
  have hm' := Lib.hid hm
  obtain ⟨Za, hZ⟩ : ∃ Za, actCells ⟨0, 0, [], zeros16⟩ (.slice none 0 0) = Za := ⟨_, rfl⟩
  have hZa : Hid ((Try.prog.info? 75).map (·.zero) = some (some (.agg Za.toArray))) := Lib.hid (by rw [← hZ]; exact act_zero)
  have hZal : Hid (Za.length = 19) := Lib.hid (by rw [← hZ]; exact actCells_len _ _)
  clear hm hs hZ g1 g2 g4
  go_enter Try.func11, Try.ntmps11
  go_wp2_with fail
  refine (alive09 _).mono ?_
  rintro e w1 ⟨rfl, k1⟩
  have k1' := Lib.hid k1
  clear k1
  go_wp2_with fail
  refine (hm'.out _).mono ?_
  rintro e w2 ⟨A, rfl, hO⟩
  have hO' := Lib.hid hO
  obtain ⟨sb, hsb⟩ : ∃ sb, A.sb = sb := ⟨_, rfl⟩
  obtain ⟨wb, hwb⟩ : ∃ wb, w2.heap.size = wb := ⟨_, rfl⟩
  obtain ⟨w3, hw3⟩ : ∃ w3, w2.alloc (.cells #[.pointer (some ⟨sb, 0, none⟩), .slice none 0 0] 73) = w3 := ⟨_, rfl⟩
  have W3 : WorldSt w1 A (emptyM s) sb wb [] (.slice none 0 0) w3 := by
    have k : Kept (fun _ => False) w2 w3 := by rw [← hw3]; exact (Kept.refl _ _).alloc _
    refine ⟨hO.fresh k, hsb, by rw [← hw3, ← hwb]; exact heap_alloc_new _ _, by rw [← hwb]; exact hO.kept.size, fun e => by have := hO.store.lt e; omega, World.ownsRow_nil _ _ _ _, fun b hb => by simp [Value.ownBlock] at hb⟩
  have I3 : Hid (∃ A M roots v, WorldSt w1 A M sb wb roots v w3 ∧ WInv M roots ∧ roots.length ≤ 0 ∧ M.log.length ≤ 2 * (0)) := Lib.hid ⟨A, _, [], _, W3, winv_start hs240, Nat.le_refl _, Nat.le_refl _⟩
  have hwb' := Lib.hid hwb
  have hw3' := Lib.hid hw3
  rw [hsb]
  clear hO hsb hwb hw3 W3
  go_wp2_with (refine wpList_box_named 73 rfl rfl _ rfl hw3'.out ?_; rw [hwb'.out])
  go_loopw [31] (fun i wr => ∃ (k : Nat), k ≤ al.length ∧ i = .int .i64 k ∧ Hid (∃ A M roots v, WorldSt w1 A M sb wb roots v wr ∧ WInv M roots ∧ roots.length ≤ k ∧ M.log.length ≤ 2 * (k))) (fun i _ => al.length - (intOf i).toNat)
  case atStart => exact ⟨0, Nat.zero_le _, rfl, I3⟩
  case round =>
    obtain ⟨k, hkl, rfl, hI⟩ := hrel
    by_cases hlt : k < al.length
    · obtain ⟨A2, M2, kr, kv2, St2, hWI, hkr, hM2⟩ := hI.out
      obtain ⟨Av, ck, rfl, hck1, hck2⟩ := St2.form
      unfold maxLen at hck2
      have St2' := Lib.hid St2
      have hWI' := Lib.hid hWI
      have hkw := k1'.out.trans St2.own.kept
      have hkw' := Lib.hid hkw
      obtain ⟨a, hx⟩ : ∃ a, al[k]? = some a := ⟨_, List.getElem?_eq_getElem hlt⟩
      obtain ⟨gb, go, cs, rfl, hgb, hcs, ⟨haok, kv, hcsE, hkeys⟩, hcc⟩ := hal'.out k a hx
      have hcl : Hid (cs.length = 19) := Lib.hid hcs
      have hc1 : Hid (∀ v ∈ cs, v.oneCell' = true) := Lib.hid (by rw [hcsE]; exact actCells_one a kv (by obtain ⟨_, A', c', e, _⟩ := hkeys; rw [e]; rfl))
      have hin : Hid (∀ j v, cs[j]? = some v → wr.cell? ⟨gb, go + k * 19 + j, none⟩ = some v) := Lib.hid (fun j v hj => hkw'.out.cell (hcc j v hj) id)
      have hki : (k : Int) < (al.length : Int) := by omega
      obtain ⟨xb, hxb⟩ : ∃ xb, wr.heap.size = xb := ⟨_, rfl⟩
      obtain ⟨wx, hwx⟩ : ∃ wx, (wr.alloc (.cells Za.toArray 75)).setRow xb cs.toArray = wx := ⟨_, rfl⟩
      have kx : Kept (fun _ => False) wr wx := by rw [← hwx]; exact ((Kept.refl _ _).alloc _).setRowNew (by omega) _
      have qx : wx.heap[xb]? = some (.cells cs.toArray 75 (0, 0)) := by rw [← hwx, ← hxb]; exact setRow_heap _ _ _ _ _ _ (heap_alloc_new _ _)
      have cx0 : wx.cell? ⟨xb, 0, none⟩ = some (.int .i64 a.kind) := by rw [cell_of_heap qx, hcsE]; rfl
      have cx1 : wx.cell? ⟨xb, 1, none⟩ = some (.int .i64 a.at_) := by rw [cell_of_heap qx, hcsE]; rfl
      have hloadx : Hid (∀ j v, cs[j]? = some v → wx.cell? ⟨xb, 0 + j, none⟩ = some v) := Lib.hid (fun j v hj => by rw [cell_of_heap qx, Nat.zero_add]; simpa using hj)
      have hxb' := Lib.hid hxb
      have hwx' := Lib.hid hwx
      have hcsE' := Lib.hid hcsE
      have hkeys' := Lib.hid hkeys
      have haok' := Lib.hid haok
      have kx' := Lib.hid kx
      have qx' := Lib.hid qx
      clear hx hcs hcsE hkeys haok hcc hxb hwx kx qx
      have Sx := Lib.hid (St2'.out.fresh kx'.out)
      have ck0 := Sx.out.c0
      have ck1 := Sx.out.c1
      clear St2 hI hkw hWI
      by_cases hk0 : a.kind = 0
      · rw [hk0] at cx0
        clear hk0
        have hMk := worldMake Sx.out haok'.out (SliceAt.fresh hkeys'.out k1'.out) (by omega) (by omega)
        rw [← hcsE'.out] at hMk
        have hlg := wmake_log M2 kr a
        have hrl := wmake_roots M2 kr a
        have hwi := wmake_ok hWI'.out haok'.out
        obtain ⟨R, hR⟩ : ∃ R, wmake M2 kr a = R := ⟨_, rfl⟩
        rw [hR] at hMk hlg hrl hwi
        clear hR
        obtain ⟨M3, kr3, er⟩ := R
        dsimp only at hMk hlg hrl hwi
        have hMk' := Lib.hid hMk
        obtain ⟨her, hwi⟩ := hwi
        have hwi' := Lib.hid hwi
        clear hMk hwi
        go_wp2_with (first | (refine wpList_load_agg 75 rfl rfl rfl _ Try.underlying75 rfl cs (by rw [hcl.out]; exact act_size) hin.out ?_) | (refine wpList_alloc_as 75 rfl rfl Za.toArray hZa.out ?_; rw [hxb'.out]) | (refine wpList_store_whole 75 rfl rfl rfl cs rfl (by rw [hcl.out]; exact act_size) 75 _ (by rw [← hxb'.out]; exact heap_alloc_new _ _) (by simp [hcl.out, hZal.out]) hc1.out ?_; rw [hwx'.out]) | (refine wpList_load_agg 75 rfl rfl rfl _ Try.underlying75 rfl cs (by rw [hcl.out]; exact act_size) hloadx.out ?_))
        refine hMk'.out.mono ?_
        rintro e w9 ⟨A9, v9, rfl, W9, _, _⟩
        have W9' := Lib.hid W9
        clear W9
        have hEx := Lib.hid (worldExact W9'.out hwi'.out (by omega))
        rcases her with rfl | rfl | rfl
        all_goals
          go_wp2_with fail
          refine hEx.out.mono ?_
          rintro e wy ⟨rfl, ky⟩
          have fin : Hid (∃ A M roots v, WorldSt w1 A M sb wb roots v wy ∧ WInv M roots ∧ roots.length ≤ k + 1 ∧ M.log.length ≤ 2 * (k + 1)) := Lib.hid ⟨_, _, _, _, W9'.out.fresh ky, hwi'.out, by omega, by omega⟩
          clear ky
          go_wp2_with fail
          go_roundw
          case rel => exact ⟨k + 1, by omega, by go_num, fin⟩
          case measure => simp [intOf]; omega
      by_cases hk2 : a.kind = 2
      · rw [hk2] at cx0
        clear hk0 hk2
        have hpl := storePool Sx.out.own.store
        rw [Sx.out.eq] at hpl
        have hpl' := Lib.hid hpl
        have hcm := Lib.hid (commit_any Sx.out.own.store.pool)
        clear hpl
        go_wp2_with (first | (refine wpList_load_agg 75 rfl rfl rfl _ Try.underlying75 rfl cs (by rw [hcl.out]; exact act_size) hin.out ?_) | (refine wpList_alloc_as 75 rfl rfl Za.toArray hZa.out ?_; rw [hxb'.out]) | (refine wpList_store_whole 75 rfl rfl rfl cs rfl (by rw [hcl.out]; exact act_size) 75 _ (by rw [← hxb'.out]; exact heap_alloc_new _ _) (by simp [hcl.out, hZal.out]) hc1.out ?_; rw [hwx'.out]))
        refine hpl'.out.mono ?_
        rintro e wp ⟨rfl, rfl⟩
        go_wp2_with fail
        refine hcm.out.mono ?_
        rintro e wc ⟨rfl, hTc⟩
        have Wc := Lib.hid (Sx.out.to (Sx.out.own.store.pooled hTc rfl))
        have hwi : Hid (WInv ⟨M2.pool.committed, M2.log⟩ kr) := Lib.hid hWI'.out.commit
        clear hTc
        have hEx := Lib.hid (worldExact Wc.out hwi.out (by omega))
        go_wp2_with fail
        refine hEx.out.mono ?_
        rintro e wy ⟨rfl, ky⟩
        have fin : Hid (∃ A M roots v, WorldSt w1 A M sb wb roots v wy ∧ WInv M roots ∧ roots.length ≤ k + 1 ∧ M.log.length ≤ 2 * (k + 1)) := Lib.hid ⟨_, _, _, _, Wc.out.fresh ky, hwi.out, by omega, by show M2.log.length ≤ _; omega⟩
        clear ky
        go_wp2_with fail
        go_roundw
        case rel => exact ⟨k + 1, by omega, by go_num, fin⟩
        case measure => simp [intOf]; omega
      by_cases hk13 : a.kind = 1 ∨ a.kind = 3
      · by_cases hr0 : kr.length = 0
        · have hd0 : ((kr.length : Int) == 0) = true := by rw [beq_iff_eq]; omega
          have fin : Hid (∃ A M roots v, WorldSt w1 A M sb wb roots v wx ∧ WInv M roots ∧ roots.length ≤ k + 1 ∧ M.log.length ≤ 2 * (k + 1)) := Lib.hid ⟨_, _, _, _, Sx.out, hWI'.out, by omega, by omega⟩
          rcases hk13 with hk1 | hk1
          all_goals
            rw [hk1] at cx0
            clear hk1 hk0 hk2
            go_wp2_with (first | (refine wpList_load_agg 75 rfl rfl rfl _ Try.underlying75 rfl cs (by rw [hcl.out]; exact act_size) hin.out ?_) | (refine wpList_alloc_as 75 rfl rfl Za.toArray hZa.out ?_; rw [hxb'.out]) | (refine wpList_store_whole 75 rfl rfl rfl cs rfl (by rw [hcl.out]; exact act_size) 75 _ (by rw [← hxb'.out]; exact heap_alloc_new _ _) (by simp [hcl.out, hZal.out]) hc1.out ?_; rw [hwx'.out]))
            go_roundw
            case rel => exact ⟨k + 1, by omega, by go_num, fin⟩
            case measure => simp [intOf]; omega
        have hd0 : ((kr.length : Int) == 0) = false := by rw [beq_eq_false_iff_ne]; omega
        obtain ⟨q, hq⟩ : ∃ q, clampAt a.at_ kr.length = q := ⟨_, rfl⟩
        have hql : q < kr.length := by rw [← hq]; exact clampAt_lt (by omega)
        have hqc : max 0 (min a.at_ ((kr.length : Int) - 1)) = (q : Int) := by rw [← hq]; unfold clampAt; omega
        have hwk1 : IntKind.i64.wrap ((kr.length : Int) - 1) = (kr.length : Int) - 1 := by rw [IntKind.wrap_i64]; omega
        obtain ⟨r, hr⟩ : ∃ r, kr[q]? = some r := ⟨_, List.getElem?_eq_getElem hql⟩
        have hr' := Lib.hid hr
        have hr0' := Lib.hid hr0
        have hqi : (q : Int) < (kr.length : Int) := by omega
        clear hq hr hr0
        rcases hk13 with hk1 | hk1
        · rw [hk1] at cx0
          clear hk1 hk0 hk2
          go_wp2_with (first | (refine wpList_load_agg 75 rfl rfl rfl _ Try.underlying75 rfl cs (by rw [hcl.out]; exact act_size) hin.out ?_) | (refine wpList_alloc_as 75 rfl rfl Za.toArray hZa.out ?_; rw [hxb'.out]) | (refine wpList_store_whole 75 rfl rfl rfl cs rfl (by rw [hcl.out]; exact act_size) 75 _ (by rw [← hxb'.out]; exact heap_alloc_new _ _) (by simp [hcl.out, hZal.out]) hc1.out ?_; rw [hwx'.out]))
          refine wp_region_quiet (C := fun w' => Kept (fun _ => False) wx w') (by kernel_rfl) (by kernel_rfl) (Kept.refl _ _).drew ?_
          simp only []
          refine wpQuiet_step (fun K hK => ?_); go_simp; refine ⟨_, fun _ _ => rfl, hK _ ?_⟩; clear hK K
          refine wpQuiet_step (fun K hK => ?_); refine q_on rfl (q_val (.int .i64 a.at_) (fun W hW => by have hc := hW.cell cx1 id; clear hW; go_simp) (hK _ ?_)); clear hK K
          refine wpQuiet_step (fun K hK => ?_); go_simp; refine ⟨_, fun _ _ => rfl, hK _ ?_⟩; clear hK K
          refine wpQuiet_step (fun K hK => ?_); go_simp; refine ⟨_, fun _ _ => rfl, hK _ ?_⟩; clear hK K
          refine wpQuiet_step (fun K hK => ?_); go_simp; refine ⟨_, fun _ _ => rfl, hK _ ?_⟩; clear hK K
          refine wpQuiet_step (fun K hK => ?_); refine q_on rfl (q_val (.slice Av kr.length ck) (fun W hW => by have hc := hW.cell ck1 id; clear hW; go_simp) (hK _ ?_)); clear hK K
          refine wpQuiet_step (fun K hK => ?_); go_simp; refine ⟨_, fun _ _ => rfl, hK _ ?_⟩; clear hK K
          refine wpQuiet_step (fun K hK => ?_); go_simp; refine ⟨_, fun _ _ => rfl, hK _ ?_⟩; clear hK K
          refine wpQuiet_step (fun K hK => ?_); go_simp; refine ⟨_, fun _ _ => rfl, hK _ ?_⟩; clear hK K
          refine wpQuiet_step (fun K hK => ?_); go_simp; refine ⟨_, fun _ _ => rfl, hK _ ?_⟩; clear hK K
          refine wpQuiet_step (fun K hK => ?_); go_simp; refine ⟨_, fun _ _ => rfl, hK _ ?_⟩; clear hK K
          refine wpQuiet_nil ?_
          intro wq hwq
          have Sq := Lib.hid (Sx.out.fresh hwq)
          have cq0 := hwq.cell cx0 id
          obtain ⟨rb, ro, rfl, hrb, hrc⟩ := Sq.out.get rfl hr'.out
          have cq1 := Sq.out.c1
          obtain ⟨hds, hdw, hdl, hdz⟩ := winv_drop hWI'.out hr'.out
          have hdr := storeDrop (Sq.out.fresh (Kept.refl (fun _ => False) wq).drew).own.store r
          rw [Sq.out.eq, hds] at hdr
          have hdr' := Lib.hid hdr
          have hdw' := Lib.hid hdw
          clear hdr hwq hdw hds
          go_wp2_with fail
          refine wp_region_held_drew (S := fun W => W.cell? ⟨wb, 0, none⟩ = some (.pointer (some ⟨sb, 0, none⟩)) ∧ W.cell? ⟨wb, 1, none⟩ = some (.slice (some ⟨rb, ro, none⟩) kr.length ck) ∧ W.cell? ⟨rb, ro + q, none⟩ = some (.int .i64 r)) (by kernel_rfl) ⟨Sq.out.c0, cq1, hrc⟩ (fun hH => ?_)
          refine wpAnyH_take (i := 0) (v := .pointer (some ⟨wb, 0, none⟩)) rfl (by kernel_rfl) (by kernel_rfl) (by kernel_rfl) (fun _ _ _ h => h) (Or.inl ⟨by rfl, fun W hW => by go_simp⟩) (by assumption) ?_
          simp only [Act.put, List.getElem_toArray, List.getElem_cons_zero, List.getElem_cons_succ, List.setIfInBounds_toArray, List.set_cons_zero, List.set_cons_succ]
          refine wpAnyH_take (i := 1) (v := .pointer (some ⟨wb, 0, none⟩)) rfl (by kernel_rfl) (by kernel_rfl) (by kernel_rfl) (fun _ _ _ h => h) (Or.inl ⟨by rfl, fun W hW => by go_simp⟩) (by assumption) ?_
          simp only [Act.put, List.getElem_toArray, List.getElem_cons_zero, List.getElem_cons_succ, List.setIfInBounds_toArray, List.set_cons_zero, List.set_cons_succ]
          refine wpAnyH_take (i := 2) (v := .pointer (some ⟨wb, 0, none⟩)) rfl (by kernel_rfl) (by kernel_rfl) (by kernel_rfl) (fun _ _ _ h => h) (Or.inl ⟨by rfl, fun W hW => by go_simp⟩) (by assumption) ?_
          simp only [Act.put, List.getElem_toArray, List.getElem_cons_zero, List.getElem_cons_succ, List.setIfInBounds_toArray, List.set_cons_zero, List.set_cons_succ]
          refine wpAnyH_take (i := 3) (v := .pointer (some ⟨sb, 0, none⟩)) rfl (by kernel_rfl) (by kernel_rfl) (by kernel_rfl) (fun _ _ _ h => h) (Or.inl ⟨by rfl, fun W hW => by have hc := hW.1; clear hW; go_simp⟩) (by assumption) ?_
          simp only [Act.put, List.getElem_toArray, List.getElem_cons_zero, List.getElem_cons_succ, List.setIfInBounds_toArray, List.set_cons_zero, List.set_cons_succ]
          refine wpAnyH_take (i := 4) (v := .pointer (some ⟨wb, 0, none⟩)) rfl (by kernel_rfl) (by kernel_rfl) (by kernel_rfl) (fun _ _ _ h => h) (Or.inl ⟨by rfl, fun W hW => by go_simp⟩) (by assumption) ?_
          simp only [Act.put, List.getElem_toArray, List.getElem_cons_zero, List.getElem_cons_succ, List.setIfInBounds_toArray, List.set_cons_zero, List.set_cons_succ]
          refine wpAnyH_take (i := 5) (v := .pointer (some ⟨wb, 0, none⟩)) rfl (by kernel_rfl) (by kernel_rfl) (by kernel_rfl) (fun _ _ _ h => h) (Or.inl ⟨by rfl, fun W hW => by go_simp⟩) (by assumption) ?_
          simp only [Act.put, List.getElem_toArray, List.getElem_cons_zero, List.getElem_cons_succ, List.setIfInBounds_toArray, List.set_cons_zero, List.set_cons_succ]
          refine wpAnyH_take (i := 6) (v := .pointer (some ⟨wb, 1, none⟩)) rfl (by kernel_rfl) (by kernel_rfl) (by kernel_rfl) (fun _ _ _ h => h) (Or.inl ⟨by rfl, fun W hW => by go_simp⟩) (by assumption) ?_
          simp only [Act.put, List.getElem_toArray, List.getElem_cons_zero, List.getElem_cons_succ, List.setIfInBounds_toArray, List.set_cons_zero, List.set_cons_succ]
          refine wpAnyH_take (i := 7) (v := .slice (some ⟨rb, ro, none⟩) kr.length ck) rfl (by kernel_rfl) (by kernel_rfl) (by kernel_rfl) (fun _ _ _ h => h) (Or.inl ⟨by rfl, fun W hW => by have hc := hW.2.1; clear hW; go_simp⟩) (by assumption) ?_
          simp only [Act.put, List.getElem_toArray, List.getElem_cons_zero, List.getElem_cons_succ, List.setIfInBounds_toArray, List.set_cons_zero, List.set_cons_succ]
          refine wpAnyH_take (i := 8) (v := .int .i64 q) rfl (by kernel_rfl) (by kernel_rfl) (by kernel_rfl) (fun _ _ _ h => h) (Or.inl ⟨by rfl, fun W hW => by go_simp⟩) (by assumption) ?_
          simp only [Act.put, List.getElem_toArray, List.getElem_cons_zero, List.getElem_cons_succ, List.setIfInBounds_toArray, List.set_cons_zero, List.set_cons_succ]
          refine wpAnyH_take (i := 9) (v := .pointer (some ⟨rb, ro + q, none⟩)) rfl (by kernel_rfl) (by kernel_rfl) (by kernel_rfl) (fun _ _ _ h => h) (Or.inl ⟨by rfl, fun W hW => by clear hW; go_simp⟩) (by assumption) ?_
          simp only [Act.put, List.getElem_toArray, List.getElem_cons_zero, List.getElem_cons_succ, List.setIfInBounds_toArray, List.set_cons_zero, List.set_cons_succ]
          refine wpAnyH_take (i := 10) (v := .int .i64 r) rfl (by kernel_rfl) (by kernel_rfl) (by kernel_rfl) (fun _ _ _ h => h) (Or.inl ⟨by rfl, fun W hW => by have hc := hW.2.2; clear hW; go_simp⟩) (by assumption) ?_
          simp only [Act.put, List.getElem_toArray, List.getElem_cons_zero, List.getElem_cons_succ, List.setIfInBounds_toArray, List.set_cons_zero, List.set_cons_succ]
          refine wpAnyH_ready (rs := [11]) (by kernel_rfl) (by simp) ?_
          refine AllReadyH.cons rfl (fun K hK => ?_) ?_
          · rw [if_pos (by rfl)]
            simp only [Go.wp_at_zero, Go.wp_at_succ]
            go_simp
            refine hdr'.out.mono ?_
            rintro e w9 ⟨rfl, hT9⟩
            have S9 := (Sq.out.fresh (Kept.refl (fun _ => False) wq).drew).to hT9
            refine hK.out _ _ ⟨S9.c0, S9.c1, hT9.kept.cell (show wq.drew.cell? ⟨rb, ro + q, none⟩ = _ from hrc) (fun e => Sq.out.off rb rfl (.inl e))⟩ (fun hH9 => ?_)
            clear hK K
            try simp only [Act.put, List.getElem_toArray, List.getElem_cons_zero, List.getElem_cons_succ, List.setIfInBounds_toArray, List.set_cons_zero, List.set_cons_succ]
            refine wpAnyH_take (i := 12) (v := .bool false) rfl (by kernel_rfl) (by kernel_rfl) (by kernel_rfl) (fun _ _ _ h => h) (Or.inl ⟨by rfl, fun W hW => by go_simp⟩) (by assumption) ?_
            simp only [Act.put, List.getElem_toArray, List.getElem_cons_zero, List.getElem_cons_succ, List.setIfInBounds_toArray, List.set_cons_zero, List.set_cons_succ]
            refine wpAnyH_done (by kernel_rfl) ?_ _
            have S9' := Lib.hid S9
            clear hH hH9 S9 hT9 hrc cq1 cq0
            have c91 := S9'.out.c1
            go_wp2_with fail
            have kB : Kept (fun _ => False) w9 (w9.alloc (.cells #[] 3)).drew := ((Kept.refl _ _).alloc _).drew
            have SB := Lib.hid (S9'.out.fresh kB)
            have cB1 : (w9.alloc (.cells #[] 3)).cell? ⟨wb, 1, none⟩ = some (.slice (some ⟨rb, ro, none⟩) kr.length ck) := SB.out.c1
            have own6 : Hid ((w9.alloc (.cells #[] 3)).drew.ownsRow w9.heap.size 3 1 (.slice (some ⟨w9.heap.size, 0, none⟩) 0 0) 0 []) := Lib.hid (ownsRow.keptOf (owns_empty w9 w9.heap.size w9.heap.size 3 1 (Nat.le_refl _) rfl) ((Kept.refl (fun _ => False) (w9.alloc (.cells #[] 3))).drew) (fun _ _ => id))
            have hsB : Hid (w9.heap.size ≤ (w9.alloc (.cells #[] 3)).drew.heap.size) := Lib.hid kB.size
            have huT := Lib.hid (ints_take (SliceAt.of_owns SB.out.row) (q := q) (by omega))
            have hwq1 : IntKind.i64.wrap ((q : Int) + 1) = (q : Int) + 1 := by rw [IntKind.wrap_i64]; omega
            have hq2 : (q : Int) ≤ (ck : Int) := by omega
            have hq3 : (q : Int) + 1 ≤ (kr.length : Int) := by omega
            have hq4 : (0 : Int) ≤ (q : Int) + 1 := by omega
            have hq6 : (q : Int) ≤ (q : Int) + 1 := by omega
            have hq5 : ((q : Int) + 1).toNat = q + 1 := by omega
            have kB' := Lib.hid kB
            have hdl' := Lib.hid hdl
            clear kB hdl hdz
            by_cases hcap : ck = q + 1
            · subst hcap
              go_region_law (first | (refine step_append_src rfl elemInt (.tmp 117) (.tmp 123) rfl (by rfl) (by rfl) own6.out huT.out (by intro c hc; obtain ⟨y, _, rfl⟩ := List.mem_map.1 hc; rfl) (by omega) (by omega) hsB.out ?_; intro v7 w7 hown7 hg7 hb7; rw [Nat.zero_add, List.nil_append] at hown7; have k7 : Kept (fun _ => False) w9 w7 := kB'.out.trans_new (Kept.of_grown hg7) (fun i hi e => absurd hi (Nat.not_lt.2 (own6.out.lt i e).1)); have S7 := Lib.hid (S9'.out.fresh k7); have c71 := S7.out.c1; have k7' := Lib.hid k7; obtain ⟨_, A7, c7, rfl, _⟩ := SliceAt.of_owns hown7; have own7 := Lib.hid hown7; clear hown7 hg7 hb7 k7) | (refine step_append_src rfl elemInt (.tmp 124) (.tmp 131) rfl (by rfl) (by rfl) own7.out (u := .slice (some ⟨rb, ro, none⟩) 0 0) (m := 0) (ys := []) (slice_empty _ _ _) (by intro c hc; cases hc) (by omega) (by omega) k7'.out.size ?_; intro v8 w8 hown8 hg8 hb8; have k8 : Kept (fun _ => False) w9 w8 := k7'.out.trans_new (Kept.of_grown hg8) (fun i hi e => absurd hi (Nat.not_lt.2 (own7.out.lt i e).1)); have S8 := Lib.hid (S9'.out.fresh k8); have c81 := S8.out.c1; have f81 := free_of_heap S8.out.head 1; rw [Nat.add_zero, List.append_nil] at hown8; obtain ⟨_, A8, c8, rfl, _⟩ := SliceAt.of_owns hown8; have own8 := Lib.hid hown8; clear hown8 hg8 hb8 k8))
              all_goals
                have hlen : (kr.take q ++ kr.drop (q + 1)).length = q + (kr.length - (q + 1)) := by rw [List.length_append, List.length_take, List.length_drop]; omega
                have P8 := S8.out.put (rs := kr.take q ++ kr.drop (q + 1)) (by rw [List.drop_eq_nil_of_le (show kr.length ≤ q + 1 by omega), List.append_nil, show (kr.take q).length = q by rw [List.length_take]; omega]; exact owns_mono own8.out S9'.out.own.kept.size) (fun b hb e => by have h1 := S9'.out.own.store.lt e; have h2 := (own8.out.lt b hb).1; omega)
                have P8' := Lib.hid P8
                clear P8
                have hEx := Lib.hid (worldExact P8'.out hdw'.out (by rw [hlen]; omega))
                go_wp2_with fail
                refine hEx.out.mono ?_
                rintro e wy ⟨rfl, ky⟩
                have fin : Hid (∃ A M roots v, WorldSt w1 A M sb wb roots v wy ∧ WInv M roots ∧ roots.length ≤ k + 1 ∧ M.log.length ≤ 2 * (k + 1)) := Lib.hid ⟨_, _, _, _, P8'.out.fresh ky, hdw'.out, by rw [hlen]; omega, by rw [hdl'.out]; omega⟩
                clear ky
                go_wp2_with fail
                go_roundw
                case rel => exact ⟨k + 1, by omega, by go_num, fin⟩
                case measure => simp [intOf]; omega
            · go_region_law (first | (refine step_append_src rfl elemInt (.tmp 117) (.tmp 123) rfl (by rfl) (by rfl) own6.out huT.out (by intro c hc; obtain ⟨y, _, rfl⟩ := List.mem_map.1 hc; rfl) (by omega) (by omega) hsB.out ?_; intro v7 w7 hown7 hg7 hb7; rw [Nat.zero_add, List.nil_append] at hown7; have k7 : Kept (fun _ => False) w9 w7 := kB'.out.trans_new (Kept.of_grown hg7) (fun i hi e => absurd hi (Nat.not_lt.2 (own6.out.lt i e).1)); have S7 := Lib.hid (S9'.out.fresh k7); have c71 := S7.out.c1; have k7' := Lib.hid k7; obtain ⟨_, A7, c7, rfl, _⟩ := SliceAt.of_owns hown7; have own7 := Lib.hid hown7; clear hown7 hg7 hb7 k7) | (refine step_append_src rfl elemInt (.tmp 124) (.tmp 131) rfl (by rfl) (by first | rfl | (simp [Act.eval, Act.put])) own7.out (ints_drop (SliceAt.of_owns S7.out.row) (q := q + 1) (by omega) (o2 := ro + (q + 1)) (by omega)) (by intro c hc; obtain ⟨y, _, rfl⟩ := List.mem_map.1 hc; rfl) (by omega) (by omega) k7'.out.size ?_; intro v8 w8 hown8 hg8 hb8; have k8 : Kept (fun _ => False) w9 w8 := k7'.out.trans_new (Kept.of_grown hg8) (fun i hi e => absurd hi (Nat.not_lt.2 (own7.out.lt i e).1)); have S8 := Lib.hid (S9'.out.fresh k8); have c81 := S8.out.c1; have f81 := free_of_heap S8.out.head 1; skip; obtain ⟨_, A8, c8, rfl, _⟩ := SliceAt.of_owns hown8; have own8 := Lib.hid hown8; clear hown8 hg8 hb8 k8))
              all_goals
                have hlen : (kr.take q ++ kr.drop (q + 1)).length = q + (kr.length - (q + 1)) := by rw [List.length_append, List.length_take, List.length_drop]; omega
                have P8 := S8.out.put (rs := kr.take q ++ kr.drop (q + 1)) (by rw [hlen, List.map_append]; exact owns_mono own8.out S9'.out.own.kept.size) (fun b hb e => by have h1 := S9'.out.own.store.lt e; have h2 := (own8.out.lt b hb).1; omega)
                have P8' := Lib.hid P8
                clear P8
                have hEx := Lib.hid (worldExact P8'.out hdw'.out (by rw [hlen]; omega))
                go_wp2_with fail
                refine hEx.out.mono ?_
                rintro e wy ⟨rfl, ky⟩
                have fin : Hid (∃ A M roots v, WorldSt w1 A M sb wb roots v wy ∧ WInv M roots ∧ roots.length ≤ k + 1 ∧ M.log.length ≤ 2 * (k + 1)) := Lib.hid ⟨_, _, _, _, P8'.out.fresh ky, hdw'.out, by rw [hlen]; omega, by rw [hdl'.out]; omega⟩
                clear ky
                go_wp2_with fail
                go_roundw
                case rel => exact ⟨k + 1, by omega, by go_num, fin⟩
                case measure => simp [intOf]; omega
          exact AllReadyH.nil
        · rw [hk1] at cx0
          clear hk1 hk0 hk2
          go_wp2_with (first | (refine wpList_load_agg 75 rfl rfl rfl _ Try.underlying75 rfl cs (by rw [hcl.out]; exact act_size) hin.out ?_) | (refine wpList_alloc_as 75 rfl rfl Za.toArray hZa.out ?_; rw [hxb'.out]) | (refine wpList_store_whole 75 rfl rfl rfl cs rfl (by rw [hcl.out]; exact act_size) 75 _ (by rw [← hxb'.out]; exact heap_alloc_new _ _) (by simp [hcl.out, hZal.out]) hc1.out ?_; rw [hwx'.out]))
          refine wp_region_quiet (C := fun w' => Kept (fun _ => False) wx w') (by kernel_rfl) (by kernel_rfl) (Kept.refl _ _).drew ?_
          simp only []
          refine wpQuiet_step (fun K hK => ?_); go_simp; refine ⟨_, fun _ _ => rfl, hK _ ?_⟩; clear hK K
          refine wpQuiet_step (fun K hK => ?_); refine q_on rfl (q_val (.int .i64 a.at_) (fun W hW => by have hc := hW.cell cx1 id; clear hW; go_simp) (hK _ ?_)); clear hK K
          refine wpQuiet_step (fun K hK => ?_); go_simp; refine ⟨_, fun _ _ => rfl, hK _ ?_⟩; clear hK K
          refine wpQuiet_step (fun K hK => ?_); go_simp; refine ⟨_, fun _ _ => rfl, hK _ ?_⟩; clear hK K
          refine wpQuiet_step (fun K hK => ?_); go_simp; refine ⟨_, fun _ _ => rfl, hK _ ?_⟩; clear hK K
          refine wpQuiet_step (fun K hK => ?_); refine q_on rfl (q_val (.slice Av kr.length ck) (fun W hW => by have hc := hW.cell ck1 id; clear hW; go_simp) (hK _ ?_)); clear hK K
          refine wpQuiet_step (fun K hK => ?_); go_simp; refine ⟨_, fun _ _ => rfl, hK _ ?_⟩; clear hK K
          refine wpQuiet_step (fun K hK => ?_); go_simp; refine ⟨_, fun _ _ => rfl, hK _ ?_⟩; clear hK K
          refine wpQuiet_step (fun K hK => ?_); go_simp; refine ⟨_, fun _ _ => rfl, hK _ ?_⟩; clear hK K
          refine wpQuiet_step (fun K hK => ?_); go_simp; refine ⟨_, fun _ _ => rfl, hK _ ?_⟩; clear hK K
          refine wpQuiet_step (fun K hK => ?_); go_simp; refine ⟨_, fun _ _ => rfl, hK _ ?_⟩; clear hK K
          refine wpQuiet_nil ?_
          intro wq hwq
          have Sq := Lib.hid (Sx.out.fresh hwq)
          have cq0 := hwq.cell cx0 id
          obtain ⟨rb, ro, rfl, hrb, hrc⟩ := Sq.out.get rfl hr'.out
          have cq1 := Sq.out.c1
          have hh := winv_hold hWI'.out (List.mem_of_getElem? hr'.out)
          have hhd := storeHold (Sq.out.fresh (Kept.refl (fun _ => False) wq).drew).own.store r
          rw [Sq.out.eq] at hhd
          have hlh : (M2.hold r).1.log = M2.log := rfl
          obtain ⟨R, hR⟩ : ∃ R, M2.hold r = R := ⟨_, rfl⟩
          rw [hR] at hh hhd hlh
          clear hR
          obtain ⟨M3, er⟩ := R
          dsimp only at hh hhd hlh
          have hhd' := Lib.hid hhd
          have hh' := Lib.hid hh
          clear hhd hwq hh
          go_wp2_with fail
          refine wp_region_held_drew (S := fun W => W.cell? ⟨wb, 0, none⟩ = some (.pointer (some ⟨sb, 0, none⟩)) ∧ W.cell? ⟨wb, 1, none⟩ = some (.slice (some ⟨rb, ro, none⟩) kr.length ck) ∧ W.cell? ⟨rb, ro + q, none⟩ = some (.int .i64 r)) (by kernel_rfl) ⟨Sq.out.c0, cq1, hrc⟩ (fun hH => ?_)
          refine wpAnyH_take (i := 0) (v := .pointer (some ⟨wb, 0, none⟩)) rfl (by kernel_rfl) (by kernel_rfl) (by kernel_rfl) (fun _ _ _ h => h) (Or.inl ⟨by rfl, fun W hW => by go_simp⟩) (by assumption) ?_
          simp only [Act.put, List.getElem_toArray, List.getElem_cons_zero, List.getElem_cons_succ, List.setIfInBounds_toArray, List.set_cons_zero, List.set_cons_succ]
          refine wpAnyH_take (i := 1) (v := .pointer (some ⟨wb, 0, none⟩)) rfl (by kernel_rfl) (by kernel_rfl) (by kernel_rfl) (fun _ _ _ h => h) (Or.inl ⟨by rfl, fun W hW => by go_simp⟩) (by assumption) ?_
          simp only [Act.put, List.getElem_toArray, List.getElem_cons_zero, List.getElem_cons_succ, List.setIfInBounds_toArray, List.set_cons_zero, List.set_cons_succ]
          refine wpAnyH_take (i := 2) (v := .pointer (some ⟨wb, 0, none⟩)) rfl (by kernel_rfl) (by kernel_rfl) (by kernel_rfl) (fun _ _ _ h => h) (Or.inl ⟨by rfl, fun W hW => by go_simp⟩) (by assumption) ?_
          simp only [Act.put, List.getElem_toArray, List.getElem_cons_zero, List.getElem_cons_succ, List.setIfInBounds_toArray, List.set_cons_zero, List.set_cons_succ]
          refine wpAnyH_take (i := 3) (v := .pointer (some ⟨sb, 0, none⟩)) rfl (by kernel_rfl) (by kernel_rfl) (by kernel_rfl) (fun _ _ _ h => h) (Or.inl ⟨by rfl, fun W hW => by have hc := hW.1; clear hW; go_simp⟩) (by assumption) ?_
          simp only [Act.put, List.getElem_toArray, List.getElem_cons_zero, List.getElem_cons_succ, List.setIfInBounds_toArray, List.set_cons_zero, List.set_cons_succ]
          refine wpAnyH_take (i := 4) (v := .pointer (some ⟨wb, 0, none⟩)) rfl (by kernel_rfl) (by kernel_rfl) (by kernel_rfl) (fun _ _ _ h => h) (Or.inl ⟨by rfl, fun W hW => by go_simp⟩) (by assumption) ?_
          simp only [Act.put, List.getElem_toArray, List.getElem_cons_zero, List.getElem_cons_succ, List.setIfInBounds_toArray, List.set_cons_zero, List.set_cons_succ]
          refine wpAnyH_take (i := 5) (v := .pointer (some ⟨wb, 0, none⟩)) rfl (by kernel_rfl) (by kernel_rfl) (by kernel_rfl) (fun _ _ _ h => h) (Or.inl ⟨by rfl, fun W hW => by go_simp⟩) (by assumption) ?_
          simp only [Act.put, List.getElem_toArray, List.getElem_cons_zero, List.getElem_cons_succ, List.setIfInBounds_toArray, List.set_cons_zero, List.set_cons_succ]
          refine wpAnyH_take (i := 6) (v := .pointer (some ⟨wb, 1, none⟩)) rfl (by kernel_rfl) (by kernel_rfl) (by kernel_rfl) (fun _ _ _ h => h) (Or.inl ⟨by rfl, fun W hW => by go_simp⟩) (by assumption) ?_
          simp only [Act.put, List.getElem_toArray, List.getElem_cons_zero, List.getElem_cons_succ, List.setIfInBounds_toArray, List.set_cons_zero, List.set_cons_succ]
          refine wpAnyH_take (i := 7) (v := .slice (some ⟨rb, ro, none⟩) kr.length ck) rfl (by kernel_rfl) (by kernel_rfl) (by kernel_rfl) (fun _ _ _ h => h) (Or.inl ⟨by rfl, fun W hW => by have hc := hW.2.1; clear hW; go_simp⟩) (by assumption) ?_
          simp only [Act.put, List.getElem_toArray, List.getElem_cons_zero, List.getElem_cons_succ, List.setIfInBounds_toArray, List.set_cons_zero, List.set_cons_succ]
          refine wpAnyH_take (i := 8) (v := .int .i64 q) rfl (by kernel_rfl) (by kernel_rfl) (by kernel_rfl) (fun _ _ _ h => h) (Or.inl ⟨by rfl, fun W hW => by go_simp⟩) (by assumption) ?_
          simp only [Act.put, List.getElem_toArray, List.getElem_cons_zero, List.getElem_cons_succ, List.setIfInBounds_toArray, List.set_cons_zero, List.set_cons_succ]
          refine wpAnyH_take (i := 9) (v := .pointer (some ⟨rb, ro + q, none⟩)) rfl (by kernel_rfl) (by kernel_rfl) (by kernel_rfl) (fun _ _ _ h => h) (Or.inl ⟨by rfl, fun W hW => by clear hW; go_simp⟩) (by assumption) ?_
          simp only [Act.put, List.getElem_toArray, List.getElem_cons_zero, List.getElem_cons_succ, List.setIfInBounds_toArray, List.set_cons_zero, List.set_cons_succ]
          refine wpAnyH_take (i := 10) (v := .int .i64 r) rfl (by kernel_rfl) (by kernel_rfl) (by kernel_rfl) (fun _ _ _ h => h) (Or.inl ⟨by rfl, fun W hW => by have hc := hW.2.2; clear hW; go_simp⟩) (by assumption) ?_
          simp only [Act.put, List.getElem_toArray, List.getElem_cons_zero, List.getElem_cons_succ, List.setIfInBounds_toArray, List.set_cons_zero, List.set_cons_succ]
          refine wpAnyH_ready (rs := [11]) (by kernel_rfl) (by simp) ?_
          refine AllReadyH.cons rfl (fun K hK => ?_) ?_
          · rw [if_pos (by rfl)]
            simp only [Go.wp_at_zero, Go.wp_at_succ]
            go_simp
            refine hhd'.out.mono ?_
            rintro e w9 ⟨rfl, hT9⟩
            have S9 := (Sq.out.fresh (Kept.refl (fun _ => False) wq).drew).to hT9
            have hrc9 := hT9.kept.cell (show wq.drew.cell? ⟨rb, ro + q, none⟩ = _ from hrc) (fun e => Sq.out.off rb rfl (.inl e))
            refine hK.out _ _ ⟨S9.c0, S9.c1, hrc9⟩ (fun hH9 => ?_)
            clear hK K
            try simp only [Act.put, List.getElem_toArray, List.getElem_cons_zero, List.getElem_cons_succ, List.setIfInBounds_toArray, List.set_cons_zero, List.set_cons_succ]
            refine wpAnyH_take (i := 12) (v := .bool ((er : Int) == 0)) rfl (by kernel_rfl) (by kernel_rfl) (by kernel_rfl) (fun _ _ _ h => h) (Or.inl ⟨by rfl, fun W hW => by go_simp⟩) (by assumption) ?_
            simp only [Act.put, List.getElem_toArray, List.getElem_cons_zero, List.getElem_cons_succ, List.setIfInBounds_toArray, List.set_cons_zero, List.set_cons_succ]
            refine wpAnyH_done (by kernel_rfl) ?_ _
            have S9' := Lib.hid S9
            have c91 := S9.c1
            clear hH hH9 S9 hT9 hrc cq1 cq0
            rcases hh'.out with ⟨rfl, hwi⟩ | ⟨rfl, rfl⟩
            · have hwi' := Lib.hid hwi
              clear hwi
              go_wp2_with fail
              have S10 := Lib.hid (S9'.out.fresh ((Kept.refl (fun _ => False) w9).drew.alloc (.cells #[.int .i64 r] 3)))
              have cd1 : (w9.alloc (.cells #[.int .i64 r] 3)).cell? ⟨wb, 1, none⟩ = some (.slice (some ⟨rb, ro, none⟩) kr.length ck) := S10.out.c1
              have cdr : (w9.alloc (.cells #[.int .i64 r] 3)).cell? ⟨rb, ro + q, none⟩ = some (.int .i64 r) := ((Kept.refl (fun _ => False) w9).alloc (.cells #[.int .i64 r] 3)).cell hrc9 id
              go_region_law (refine step_append_src rfl elemInt (.tmp 91) (.tmp 99) rfl (by rfl) (by rfl) S10.out.row (SliceAt.block_new (ys := [.int .i64 r]) (m := 1) (heap_alloc_new _ _) (by rfl) (by decide)) (by intro c hc; simp at hc; subst hc; rfl) (by omega) (by omega) S10.out.own.kept.size ?_; intro v2 w10 hown10 hg10 hat10; have hA10 := S10.out.append (r := r) hown10 hg10 hat10; obtain ⟨A10, cap10, rfl, _⟩ := hA10.2.2.form; have c10 := hA10.1; have f10 := hA10.2.1; have fin10 := Lib.hid hA10.2.2; clear hown10 hg10 hat10 hA10)
              all_goals
                have fin : Hid (∃ A M roots v, WorldSt w1 A M sb wb roots v (w10.setCell ⟨wb, 1, none⟩ (.slice A10 (kr.length + 1) cap10)) ∧ WInv M roots ∧ roots.length ≤ k + 1 ∧ M.log.length ≤ 2 * (k + 1)) := Lib.hid ⟨_, _, _, _, by have hf := fin10.out; simp only [List.length_append, List.length_cons, List.length_nil, Nat.zero_add] at hf; exact hf, hwi'.out, by rw [List.length_append, List.length_singleton]; omega, by rw [hlh]; omega⟩
                go_wp2_with fail
                go_roundw
                case rel => exact ⟨k + 1, by omega, by go_num, fin⟩
                case measure => simp [intOf]; omega
            · have fin : Hid (∃ A M roots v, WorldSt w1 A M sb wb roots v w9 ∧ WInv M roots ∧ roots.length ≤ k + 1 ∧ M.log.length ≤ 2 * (k + 1)) := Lib.hid ⟨_, _, _, _, S9'.out, hWI'.out, by omega, by omega⟩
              go_wp2_with fail
              go_roundw
              case rel => exact ⟨k + 1, by omega, by go_num, fin⟩
              case measure => simp [intOf]; omega
          exact AllReadyH.nil
      have e0 : (a.kind == 0) = false := by rw [beq_eq_false_iff_ne]; exact hk0
      have e1 : (a.kind == 1) = false := by rw [beq_eq_false_iff_ne]; exact fun e => hk13 (.inl e)
      have e2 : (a.kind == 2) = false := by rw [beq_eq_false_iff_ne]; exact hk2
      have e3 : (a.kind == 3) = false := by rw [beq_eq_false_iff_ne]; exact fun e => hk13 (.inr e)
      clear hk0 hk2 hk13
      have hEx := Lib.hid (worldExact Sx.out hWI'.out (by omega))
      go_wp2_with (first | (refine wpList_load_agg 75 rfl rfl rfl _ Try.underlying75 rfl cs (by rw [hcl.out]; exact act_size) hin.out ?_) | (refine wpList_alloc_as 75 rfl rfl Za.toArray hZa.out ?_; rw [hxb'.out]) | (refine wpList_store_whole 75 rfl rfl rfl cs rfl (by rw [hcl.out]; exact act_size) 75 _ (by rw [← hxb'.out]; exact heap_alloc_new _ _) (by simp [hcl.out, hZal.out]) hc1.out ?_; rw [hwx'.out]))
      refine hEx.out.mono ?_
      rintro e wy ⟨rfl, ky⟩
      have fin : Hid (∃ A M roots v, WorldSt w1 A M sb wb roots v wy ∧ WInv M roots ∧ roots.length ≤ k + 1 ∧ M.log.length ≤ 2 * (k + 1)) := Lib.hid ⟨_, _, _, _, Sx.out.fresh ky, hWI'.out, by omega, by omega⟩
      clear ky
      go_wp2_with fail
      go_roundw
      case rel => exact ⟨k + 1, by omega, by go_num, fin⟩
      case measure => simp [intOf]; omega
    · obtain rfl : k = al.length := by omega
      obtain ⟨A5, M5, kr, v5, W5, hWI, hkr, hM5⟩ := hI.out
      obtain ⟨Av, capv, rfl, hcv1, hcv2⟩ := W5.form
      unfold maxLen at hcv2
      have c51 := W5.c1
      have I5 : Hid (∃ A M, WorldSt w1 A M sb wb kr (.slice Av kr.length capv) wr ∧ WInv M (kr.drop 0)) := Lib.hid ⟨A5, M5, W5, hWI⟩
      clear hI W5 hWI
      go_wp2_with fail
      go_loopw [152] (fun i wr => ∃ (j : Nat), j ≤ kr.length ∧ i = .int .i64 j ∧ Hid (∃ A M, WorldSt w1 A M sb wb kr (.slice Av kr.length capv) wr ∧ WInv M (kr.drop j))) (fun i _ => kr.length - (intOf i).toNat)
      case atStart => exact ⟨0, Nat.zero_le _, rfl, I5⟩
      case round =>
        obtain ⟨j, hj, rfl, hJ⟩ := hrel
        obtain ⟨A6, M6, W6, hW6⟩ := hJ.out
        have W6' := Lib.hid W6
        have c60 := W6.c0
        by_cases hjt : j < kr.length
        · obtain ⟨r, hr⟩ : ∃ r, kr[j]? = some r := ⟨_, List.getElem?_eq_getElem hjt⟩
          obtain ⟨rb, ro, rfl, hrb, hrc⟩ := W6.get rfl hr
          obtain ⟨hds, hdw, _, _⟩ := winv_drop hW6 (i := 0) (r := r) (by rw [List.getElem?_drop]; simpa using hr)
          rw [List.take_zero, List.nil_append, List.drop_drop] at hdw
          have hdr := storeDrop W6.own.store r
          rw [W6.eq, hds] at hdr
          have hdr' := Lib.hid hdr
          have hdw' := Lib.hid hdw
          have hji : (j : Int) < (kr.length : Int) := by omega
          clear hJ W6 hW6 hr hds hdw hdr
          go_wp2_with fail
          refine hdr'.out.mono ?_
          rintro e w7 ⟨rfl, hT7⟩
          have fin : Hid (∃ A M, WorldSt w1 A M sb wb kr (.slice (some ⟨rb, ro, none⟩) kr.length capv) w7 ∧ WInv M (kr.drop (j + 1))) := Lib.hid ⟨_, _, W6'.out.to hT7, hdw'.out⟩
          clear hT7
          go_wp2_with fail
          go_roundw
          case rel => exact ⟨j + 1, by omega, by go_num, fin⟩
          case measure => simp [intOf]; omega
        · obtain rfl : j = kr.length := by omega
          rw [List.drop_length] at hW6
          have hend := winv_end hW6
          have hpl := storePool W6.own.store
          rw [W6.eq] at hpl
          have hpl' := Lib.hid hpl
          have hcm := Lib.hid (commit_any W6.own.store.pool)
          clear hJ W6 hW6 hpl
          go_wp2_with fail
          refine hpl'.out.mono ?_
          rintro e wp ⟨rfl, rfl⟩
          go_wp2_with fail
          refine hcm.out.mono ?_
          rintro e wc ⟨rfl, hTc⟩
          have Wc := Lib.hid (W6'.out.to (W6'.out.own.store.pooled hTc rfl))
          have cc0 := Lib.hid Wc.out.c0
          obtain ⟨fr, hfr⟩ : ∃ fr, M6.pool.committed.freeCount = fr := ⟨_, rfl⟩
          have hsz : M6.pool.committed.size = fr := by rw [← hfr, hend]; rfl
          have hfr' := Lib.hid hfr
          have hsz' := Lib.hid hsz
          clear hTc c60 hend hfr hsz
          go_wp2_with fail
          refine wp_region_quiet (C := fun w' => Kept (fun _ => False) wc w') (by kernel_rfl) (by kernel_rfl) (Kept.refl _ _).drew ?_
          simp only []
          refine wpQuiet_step (fun K hK => ?_); go_simp; refine ⟨_, fun _ _ => rfl, hK _ ?_⟩; clear hK K
          refine wpQuiet_step (fun K hK => ?_); go_simp; refine ⟨_, fun _ _ => rfl, hK _ ?_⟩; clear hK K
          refine wpQuiet_step (fun K hK => ?_); go_simp; refine ⟨_, fun _ _ => rfl, hK _ ?_⟩; clear hK K
          refine wpQuiet_step (fun K hK => ?_); refine q_on rfl (q_val (.pointer (some ⟨sb, 0, none⟩)) (fun W hW => by have hc := hW.cell cc0.out id; clear hW; go_simp) (hK _ ?_)); clear hK K
          refine wpQuiet_step (fun K hK => ?_); go_simp; refine ⟨_, fun W hW => Calls.stay hW (by have h := storePool (Wc.out.fresh hW).own.store; rw [(Wc.out.fresh hW).eq] at h; exact h), hK _ ?_⟩; clear hK K
          refine wpQuiet_step (fun K hK => ?_); go_simp; refine ⟨_, fun W hW => Calls.stay hW (by have h := freeCount_any (Wc.out.fresh hW).own.store.pool; rw [show (SM.mk M6.pool.committed M6.log).pool.freeCount = fr from hfr'.out] at h; exact h), hK _ ?_⟩; clear hK K
          refine wpQuiet_step (fun K hK => ?_); go_simp; refine ⟨_, fun _ _ => rfl, hK _ ?_⟩; clear hK K
          refine wpQuiet_step (fun K hK => ?_); go_simp; refine ⟨_, fun _ _ => rfl, hK _ ?_⟩; clear hK K
          refine wpQuiet_step (fun K hK => ?_); go_simp; refine ⟨_, fun _ _ => rfl, hK _ ?_⟩; clear hK K
          refine wpQuiet_step (fun K hK => ?_); refine q_on rfl (q_val (.pointer (some ⟨sb, 0, none⟩)) (fun W hW => by have hc := hW.cell cc0.out id; clear hW; go_simp) (hK _ ?_)); clear hK K
          refine wpQuiet_step (fun K hK => ?_); go_simp; refine ⟨_, fun W hW => Calls.stay hW (by have h := storePool (Wc.out.fresh hW).own.store; rw [(Wc.out.fresh hW).eq] at h; exact h), hK _ ?_⟩; clear hK K
          refine wpQuiet_step (fun K hK => ?_); go_simp; refine ⟨_, fun W hW => Calls.stay hW (by have h := size_any (Wc.out.fresh hW).own.store.pool; rw [show (SM.mk M6.pool.committed M6.log).pool.size = fr from hsz'.out] at h; exact h), hK _ ?_⟩; clear hK K
          refine wpQuiet_step (fun K hK => ?_); go_simp; refine ⟨_, fun _ _ => rfl, hK _ ?_⟩; clear hK K
          refine wpQuiet_step (fun K hK => ?_); go_simp; refine ⟨_, fun _ _ => rfl, hK _ ?_⟩; clear hK K
          refine wpQuiet_nil ?_
          intro wq hwq
          go_wp2_with fail
          go_ret
          exact ⟨by simp, k1'.out.trans ((Wc.out.fresh hwq).own.kept)⟩
end Go.Proofs.Ythmjcbmeiabbgaa
