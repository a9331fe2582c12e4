/-
  NodesUndo: the walk.
-/
import Derived.Test.YthmjcbmeiabbgaaK19
import Derived.Test.YthmjcbmeiabbgaaK21
set_option linter.unusedVariables false
set_option linter.unusedSimpArgs false
namespace Go.Proofs.Ythmjcbmeiabbgaa
open Go.RowKit
set_option maxRecDepth 100000

theorem act_size : (Try.prog.info? 75).map (·.size) = some 19 := by kernel_rfl
theorem act_zero : (Try.prog.info? 75).map (·.zero) = some (some (.agg (actCells ⟨0, 0, [], zeros16⟩ (.slice none 0 0)).toArray)) := by kernel_rfl
theorem actCells_one (a : ActM) (kv : Value) (hk : kv.oneCell' = true) : ∀ v ∈ actCells a kv, v.oneCell' = true := by
  intro v hv
  unfold actCells at hv
  rcases List.mem_append.1 hv with h | h
  · simp only [List.mem_cons, List.not_mem_nil, or_false] at h
    rcases h with rfl | rfl | rfl
    · rfl
    · rfl
    · exact hk
  · exact blockCells_one _ v h
theorem drop_log (M : SM) (i : Int) : (M.drop i).1.log = M.log := by unfold SM.drop; exact (dropF_live 241 M i).2.1
theorem drop_size (M : SM) (i : Int) : (M.drop i).1.pool.size = M.pool.size := by unfold SM.drop; exact (dropF_live 241 M i).1
theorem owns_mono {w : World} {base base' : Nat} {e : TypeId} {sz : Nat} {v : Value} {n : Nat} {xs : List Value} (h : w.ownsRow base e sz v n xs) (hb : base' ≤ base) : w.ownsRow base' e sz v n xs :=
  ⟨h.1, h.2.imp id fun ⟨g, cap, cur, h1, h2, h3⟩ => ⟨g, cap, cur, h1, Nat.le_trans hb h2, h3⟩⟩
/-- Two worlds over one store, a pool that was marked, its counts. -/
structure TwoSt (w1 : World) (A : SA) (M : SM) (sb wb kb : Nat) (roots : List Int) (v : Value) (kr : List Int) (kv : Value) (c : Nat) (P : PM) (cb : Nat) (cc : List Value) (wr : World) : Prop where
  wk : WorldSt w1 A M sb kb kr kv wr
  ww : WorldSt w1 A M sb wb roots v wr
  po : PoolOff wr A c P
  ch : wr.heap[cb]? = some (.cells cc.toArray 78 (0, 0))
  cn : ¬ A.foot cb
  ne : wb ≠ kb
  dis : ∀ b, v.ownBlock = some b → kv.ownBlock ≠ some b
section
variable {w1 : World} {A : SA} {M : SM} {sb wb kb : Nat} {roots : List Int} {v : Value} {kr : List Int} {kv : Value} {c : Nat} {P : PM} {cb : Nat} {cc : List Value} {wr : World}
theorem TwoSt.fresh {w' : World} (h : TwoSt w1 A M sb wb kb roots v kr kv c P cb cc wr) (k : Kept (fun _ => False) wr w') : TwoSt w1 A M sb wb kb roots v kr kv c P cb cc w' :=
  ⟨h.wk.fresh k, h.ww.fresh k, h.po.fresh k, k.get h.ch id, h.cn, h.ne, h.dis⟩
theorem TwoSt.to {A' : SA} {M' : SM} {w' : World} (h : TwoSt w1 A M sb wb kb roots v kr kv c P cb cc wr) (k : StoreTo A A' M' wr w') : TwoSt w1 A' M' sb wb kb roots v kr kv c P cb cc w' :=
  ⟨h.wk.to k, h.ww.to k, h.po.to k, k.get h.ch ⟨lt_of_heap h.ch, h.cn⟩, fun e => (k.foot cb e).elim h.cn fun e => absurd (lt_of_heap h.ch) (Nat.not_lt.2 e), h.ne, h.dis⟩
theorem TwoSt.made {A' : SA} {M' : SM} {w' : World} {kr' : List Int} {kv' : Value} (h : TwoSt w1 A M sb wb kb roots v kr kv c P cb cc wr) (k : WorldSt w1 A' M' sb kb kr' kv' w') (o : Off wr A kb kv A' w') (hb : kv'.ownBlock = kv.ownBlock ∨ ∃ b, kv'.ownBlock = some b ∧ wr.heap.size ≤ b) : TwoSt w1 A' M' sb wb kb roots v kr' kv' c P cb cc w' := by
  have hc := o c _ h.po.pool.heap h.po.off (fun e => by have h1 := h.po.pool.heap; rw [e, h.wk.head] at h1; injection h1 with h1; injection h1 with _ h2; exact absurd h2 (by decide)) (ownsRow.ne_type h.wk.row h.po.pool.heap (by decide))
  have hd := o cb _ h.ch h.cn (fun e => by have h1 := h.ch; rw [e, h.wk.head] at h1; injection h1 with h1; injection h1 with _ h2; exact absurd h2 (by decide)) (ownsRow.ne_type h.wk.row h.ch (by decide))
  refine ⟨k, WorldSt.other h.ww h.wk k o h.ne h.dis, ⟨⟨hc.1, h.po.pool.hsize, h.po.pool.hcnt, h.po.pool.hst⟩, hc.2.1⟩, hd.1, hd.2.1, h.ne, fun b hvb e => ?_⟩
  rcases hb with hb | ⟨b', hb, hle⟩
  · exact h.dis b hvb (by rw [← hb]; exact e)
  · rw [hb] at e
    cases e
    exact absurd (h.ww.row.lt _ hvb).2 (Nat.not_lt.2 hle)
end
/-- What holds ahead of a turn. -/
structure OneSt (w1 : World) (A : SA) (M : SM) (sb wb : Nat) (roots : List Int) (v : Value) (c : Nat) (P : PM) (cb : Nat) (cc : List Value) (wr : World) : Prop where
  ww : WorldSt w1 A M sb wb roots v wr
  po : PoolOff wr A c P
  ch : wr.heap[cb]? = some (.cells cc.toArray 78 (0, 0))
  cn : ¬ A.foot cb
section
variable {w1 : World} {A : SA} {M : SM} {sb wb : Nat} {roots : List Int} {v : Value} {c : Nat} {P : PM} {cb : Nat} {cc : List Value} {wr : World}
theorem OneSt.fresh {w' : World} (h : OneSt w1 A M sb wb roots v c P cb cc wr) (k : Kept (fun _ => False) wr w') : OneSt w1 A M sb wb roots v c P cb cc w' :=
  ⟨h.ww.fresh k, h.po.fresh k, k.get h.ch id, h.cn⟩
theorem OneSt.start {kr : List Int} {kv : Value} {base : Nat} (h : OneSt w1 A M sb wb roots v c P cb cc wr) (hrow : wr.ownsRow base 3 1 kv kr.length (kr.map (Value.int .i64))) (hnew : ∀ b, kv.ownBlock = some b → base ≤ b) (hb1 : w1.heap.size ≤ base) (hoff : ∀ b, kv.ownBlock = some b → ¬ A.own b) (hdis : ∀ b, v.ownBlock = some b → kv.ownBlock ≠ some b) :
    TwoSt w1 A M sb wb wr.heap.size roots v kr kv c P cb cc (wr.alloc (.cells #[.pointer (some ⟨sb, 0, none⟩), kv] 73)) := by
  have k : Kept (fun _ => False) wr (wr.alloc (.cells #[.pointer (some ⟨sb, 0, none⟩), kv] 73)) := (Kept.refl _ _).alloc _
  have h' := h.fresh k
  refine ⟨⟨h'.ww.own, h.ww.eq, heap_alloc_new _ _, h.ww.own.kept.size, fun e => Nat.lt_irrefl _ (h.ww.own.store.lt e), ownsRow.keptOf (owns_mono hrow hb1) k (fun _ _ => id), hoff⟩, h'.ww, h'.po, h'.ch, h'.cn, fun e => ?_, hdis⟩
  have := h.ww.lt
  omega
end
set_option maxHeartbeats 16000000 in
theorem nodesUndoWalk {w : World} (pages : Int) (va vb : Value) (fl al : List ActM) (hf : SliceOf w 19 (ActP w) va fl) (ha : SliceOf w 19 (ActP w) vb al) : Calls Try.prog 10 #[.int .i64 pages, va, vb] w fun e w' => e = .returned (.bool true) ∧ Kept (fun _ => False) w w' := by
  obtain ⟨Aa, ca, rfl, hca1, hca2, hfl⟩ := hf
  obtain ⟨Ab, cb0, rfl, hcb1, hcb2, hbl⟩ := ha
  unfold maxLen at hca2 hcb2
  have hfl' := Lib.hid hfl
  have hbl' := Lib.hid hbl
  clear hfl hbl
  by_cases g1 : pages < 4
  · skip
    go_enter Try.func10, Try.ntmps10
    go_wp2_with fail
    refine (alive09 _).mono ?_
    rintro e w1 ⟨rfl, k1⟩
    have k1' := Lib.hid k1
    clear k1
    go_wp2_with fail
    go_ret
    exact ⟨rfl, k1'.out⟩
  have d1 : decide (pages < 4) = false := by rw [decide_eq_false_iff_not]; exact g1
  by_cases g2 : 100 < pages
  · clear g1
    go_enter Try.func10, Try.ntmps10
    go_wp2_with fail
    refine (alive09 _).mono ?_
    rintro e w1 ⟨rfl, k1⟩
    have k1' := Lib.hid k1
    clear k1
    go_wp2_with fail
    go_ret
    exact ⟨rfl, k1'.out⟩
  have d2 : decide (100 < pages) = false := by rw [decide_eq_false_iff_not]; exact g2
  by_cases g3 : 30 < fl.length
  · have hb : decide ((30 : Int) < (fl.length : Int)) = true := by rw [decide_eq_true_eq]; omega
    clear g1 g2 g3
    go_enter Try.func10, Try.ntmps10
    go_wp2_with fail
    refine (alive09 _).mono ?_
    rintro e w1 ⟨rfl, k1⟩
    have k1' := Lib.hid k1
    clear k1
    go_wp2_with fail
    go_ret
    exact ⟨rfl, k1'.out⟩
  have d3 : decide ((30 : Int) < (fl.length : Int)) = false := by rw [decide_eq_false_iff_not]; omega
  by_cases g4 : 30 < al.length
  · have hb : decide ((30 : Int) < (al.length : Int)) = true := by rw [decide_eq_true_eq]; omega
    clear g1 g2 g3 g4
    go_enter Try.func10, Try.ntmps10
    go_wp2_with fail
    refine (alive09 _).mono ?_
    rintro e w1 ⟨rfl, k1⟩
    have k1' := Lib.hid k1
    clear k1
    go_wp2_with fail
    go_ret
    exact ⟨rfl, k1'.out⟩
  have d4 : decide ((30 : Int) < (al.length : Int)) = false := by rw [decide_eq_false_iff_not]; omega
  have hfl30 : fl.length ≤ 30 := by omega
  have hal30 : al.length ≤ 30 := by omega
  obtain ⟨s, hs⟩ : ∃ s, (min pages 244 - 4).toNat = s := ⟨_, rfl⟩
  have hs240 : s ≤ 240 := by omega
  have hm := fun w => made09 pages (by omega) (by omega) w
  rw [hs] at hm
  have hm' := Lib.hid hm
  obtain ⟨Za, hZ⟩ : ∃ Za, actCells ⟨0, 0, [], zeros16⟩ (.slice none 0 0) = Za := ⟨_, rfl⟩
  have hZa : Hid ((Try.prog.info? 75).map (·.zero) = some (some (.agg Za.toArray))) := Lib.hid (by rw [← hZ]; exact act_zero)
  have hZal : Hid (Za.length = 19) := Lib.hid (by rw [← hZ]; exact actCells_len _ _)
  clear hm hs hZ g1 g2 g3 g4
  go_enter Try.func10, Try.ntmps10
  go_wp2_with fail
  refine (alive09 _).mono ?_
  rintro e w1 ⟨rfl, k1⟩
  have k1' := Lib.hid k1
  clear k1
  go_wp2_with fail
  refine (hm'.out _).mono ?_
  rintro e w2 ⟨A, rfl, hO⟩
  have hO' := Lib.hid hO
  obtain ⟨sb, hsb⟩ : ∃ sb, A.sb = sb := ⟨_, rfl⟩
  obtain ⟨wb, hwb⟩ : ∃ wb, w2.heap.size = wb := ⟨_, rfl⟩
  obtain ⟨w3, hw3⟩ : ∃ w3, w2.alloc (.cells #[.pointer (some ⟨sb, 0, none⟩), .slice none 0 0] 73) = w3 := ⟨_, rfl⟩
  have W3 : WorldSt w1 A (emptyM s) sb wb [] (.slice none 0 0) w3 := by
    have k : Kept (fun _ => False) w2 w3 := by rw [← hw3]; exact (Kept.refl _ _).alloc _
    refine ⟨hO.fresh k, hsb, by rw [← hw3, ← hwb]; exact heap_alloc_new _ _, by rw [← hwb]; exact hO.kept.size, fun e => by have := hO.store.lt e; omega, World.ownsRow_nil _ _ _ _, fun b hb => by simp [Value.ownBlock] at hb⟩
  have I3 : Hid (∃ A M roots v, WorldSt w1 A M sb wb roots v w3 ∧ roots.length ≤ 0 ∧ M.log.length ≤ 2 * 0 ∧ M.pool.size = s) := Lib.hid ⟨A, _, [], _, W3, Nat.le_refl _, Nat.le_refl _, rfl⟩
  have hwb' := Lib.hid hwb
  have hw3' := Lib.hid hw3
  rw [hsb]
  clear hO hsb hwb hw3 W3
  go_wp2_with (refine wpList_box_named 73 rfl rfl _ rfl hw3'.out ?_; rw [hwb'.out])
  go_loopw [41] (fun i wr => ∃ (k : Nat), k ≤ fl.length ∧ i = .int .i64 k ∧ Hid (∃ A M roots v, WorldSt w1 A M sb wb roots v wr ∧ roots.length ≤ k ∧ M.log.length ≤ 2 * k ∧ M.pool.size = s)) (fun i _ => fl.length - (intOf i).toNat)
  case atStart => exact ⟨0, Nat.zero_le _, rfl, I3⟩
  case round =>
    obtain ⟨k, hkl, rfl, hI⟩ := hrel
    by_cases hlt : k < fl.length
    · obtain ⟨A2, M2, kr, kv2, St2, hkr, hM2, hsz2⟩ := hI.out
      have St2' := Lib.hid St2
      have hkw := k1'.out.trans St2.own.kept
      have hkw' := Lib.hid hkw
      obtain ⟨a, hx⟩ : ∃ a, fl[k]? = some a := ⟨_, List.getElem?_eq_getElem hlt⟩
      obtain ⟨gb, go, cs, rfl, hgb, hcs, ⟨haok, kv, hcsE, hkeys⟩, hcc⟩ := hfl'.out k a hx
      have hcl : Hid (cs.length = 19) := Lib.hid hcs
      have hc1 : Hid (∀ v ∈ cs, v.oneCell' = true) := Lib.hid (by rw [hcsE]; exact actCells_one a kv (by obtain ⟨_, A', c', e, _⟩ := hkeys; rw [e]; rfl))
      have hin : Hid (∀ j v, cs[j]? = some v → wr.cell? ⟨gb, go + k * 19 + j, none⟩ = some v) := Lib.hid (fun j v hj => hkw'.out.cell (hcc j v hj) id)
      have hki : (k : Int) < (fl.length : Int) := by omega
      obtain ⟨xb, hxb⟩ : ∃ xb, wr.heap.size = xb := ⟨_, rfl⟩
      obtain ⟨wx, hwx⟩ : ∃ wx, (wr.alloc (.cells Za.toArray 75)).setRow xb cs.toArray = wx := ⟨_, rfl⟩
      have kx : Kept (fun _ => False) wr wx := by rw [← hwx]; exact ((Kept.refl _ _).alloc _).setRowNew (by omega) _
      have qx : wx.heap[xb]? = some (.cells cs.toArray 75 (0, 0)) := by rw [← hwx, ← hxb]; exact setRow_heap _ _ _ _ _ _ (heap_alloc_new _ _)
      have cx0 : wx.cell? ⟨xb, 0, none⟩ = some (.int .i64 a.kind) := by rw [cell_of_heap qx, hcsE]; rfl
      have cx1 : wx.cell? ⟨xb, 1, none⟩ = some (.int .i64 a.at_) := by rw [cell_of_heap qx, hcsE]; rfl
      have hloadx : Hid (∀ j v, cs[j]? = some v → wx.cell? ⟨xb, 0 + j, none⟩ = some v) := Lib.hid (fun j v hj => by rw [cell_of_heap qx, Nat.zero_add]; simpa using hj)
      have hxb' := Lib.hid hxb
      have hwx' := Lib.hid hwx
      have hcsE' := Lib.hid hcsE
      have hkeys' := Lib.hid hkeys
      have haok' := Lib.hid haok
      have kx' := Lib.hid kx
      have qx' := Lib.hid qx
      clear hx hcs hcsE hkeys haok hcc hxb hwx kx qx
      have Sx := Lib.hid (St2'.out.fresh kx'.out)
      have ck0 := Sx.out.c0
      clear St2 hI hkw
      by_cases hk0 : a.kind = 0
      · rw [hk0] at cx0
        clear hk0
        have hMk := worldMake Sx.out haok'.out (SliceAt.fresh hkeys'.out k1'.out) (by omega) (by omega)
        rw [← hcsE'.out] at hMk
        have hlg := wmake_log M2 kr a
        have hrl := wmake_roots M2 kr a
        have hwz := wmake_size M2 kr a
        obtain ⟨R, hR⟩ : ∃ R, wmake M2 kr a = R := ⟨_, rfl⟩
        rw [hR] at hMk hlg hrl hwz
        clear hR
        obtain ⟨M3, kr3, er⟩ := R
        dsimp only at hMk hlg hrl hwz
        have hMk' := Lib.hid hMk
        clear hMk
        go_wp2_with (first | (refine wpList_load_agg 75 rfl rfl rfl _ Try.underlying75 rfl cs (by rw [hcl.out]; exact act_size) hin.out ?_) | (refine wpList_alloc_as 75 rfl rfl Za.toArray hZa.out ?_; rw [hxb'.out]) | (refine wpList_store_whole 75 rfl rfl rfl cs rfl (by rw [hcl.out]; exact act_size) 75 _ (by rw [← hxb'.out]; exact heap_alloc_new _ _) (by simp [hcl.out, hZal.out]) hc1.out ?_; rw [hwx'.out]) | (refine wpList_load_agg 75 rfl rfl rfl _ Try.underlying75 rfl cs (by rw [hcl.out]; exact act_size) hloadx.out ?_))
        refine hMk'.out.mono ?_
        rintro e w9 ⟨A9, v9, rfl, W9, _, _⟩
        have fin : Hid (∃ A M roots v, WorldSt w1 A M sb wb roots v w9 ∧ roots.length ≤ k + 1 ∧ M.log.length ≤ 2 * (k + 1) ∧ M.pool.size = s) := Lib.hid ⟨A9, M3, kr3, v9, W9, by omega, by omega, by omega⟩
        clear W9
        go_wp2_with fail
        go_roundw
        case rel => exact ⟨k + 1, by omega, by go_num, fin⟩
        case measure => simp [intOf]; omega
      have e0 : (a.kind == 0) = false := by rw [beq_eq_false_iff_ne]; exact hk0
      clear hk0
      have fin : Hid (∃ A M roots v, WorldSt w1 A M sb wb roots v wx ∧ roots.length ≤ k + 1 ∧ M.log.length ≤ 2 * (k + 1) ∧ M.pool.size = s) := Lib.hid ⟨A2, M2, kr, kv2, Sx.out, by omega, by omega, by omega⟩
      go_wp2_with (first | (refine wpList_load_agg 75 rfl rfl rfl _ Try.underlying75 rfl cs (by rw [hcl.out]; exact act_size) hin.out ?_) | (refine wpList_alloc_as 75 rfl rfl Za.toArray hZa.out ?_; rw [hxb'.out]) | (refine wpList_store_whole 75 rfl rfl rfl cs rfl (by rw [hcl.out]; exact act_size) 75 _ (by rw [← hxb'.out]; exact heap_alloc_new _ _) (by simp [hcl.out, hZal.out]) hc1.out ?_; rw [hwx'.out]))
      go_roundw
      case rel => exact ⟨k + 1, by omega, by go_num, fin⟩
      case measure => simp [intOf]; omega
    · obtain rfl : k = fl.length := by omega
      obtain ⟨A5, M5, roots, v5, W5, hroots, hM5, hsz5⟩ := hI.out
      obtain ⟨Av, capv, rfl, hcv1, hcv2⟩ := W5.form
      unfold maxLen at hcv2
      have c50 := W5.c0
      have hMk := storeMark W5.own.store
      rw [W5.eq] at hMk
      have hMk' := Lib.hid hMk
      have W5' := Lib.hid W5
      clear hI W5 hMk
      obtain ⟨P, hP⟩ : ∃ P, M5.pool.turned 1 2 = P := ⟨_, rfl⟩
      have hPs : P.size = s := by rw [← hP]; exact hsz5
      have hP' := Lib.hid hP
      clear hP
      go_wp2_with fail
      refine hMk'.out.mono ?_
      rintro e w6 ⟨c, rfl, hT6, hpo6⟩
      rw [hP'.out] at hpo6 hT6
      have W6 : Hid (WorldSt w1 A5 ⟨P, M5.log⟩ sb wb roots (.slice Av roots.length capv) w6) := Lib.hid (W5'.out.to hT6)
      have P6 := Lib.hid hpo6
      have c60 := W6.out.c0
      have hp6 := storePool W6.out.own.store
      rw [W6.out.eq] at hp6
      have hp6' := Lib.hid hp6
      have hc6 := Lib.hid (counts_any W6.out.own.store.pool)
      obtain ⟨cc, hcc⟩ : ∃ cc, P.cntVals = cc := ⟨_, rfl⟩
      have hccl : Hid (cc.length = 240) := Lib.hid (by rw [← hcc]; exact P.cntVals_len)
      have hcc1 : Hid (∀ v ∈ cc, v.oneCell' = true) := Lib.hid (by rw [← hcc]; exact P.cntVals_one)
      have hcc' := Lib.hid hcc
      have hc6' : Hid (Calls Try.prog 40 #[.pointer (some ⟨A5.pb, 0, none⟩)] w6 fun e w' => e = .returned (.agg cc.toArray) ∧ Kept (fun _ => False) w6 w') := Lib.hid (by have h := hc6.out; rw [show (SM.mk P M5.log).pool.cntVals = cc from hcc] at h; exact h)
      clear hT6 hpo6 hp6 hcc c50
      go_wp2_with fail
      refine hp6'.out.mono ?_
      rintro e w6' ⟨rfl, rfl⟩
      go_wp2_with fail
      refine hc6'.out.mono ?_
      rintro e w7 ⟨rfl, k7⟩
      obtain ⟨cb, hcb⟩ : ∃ cb, w7.heap.size = cb := ⟨_, rfl⟩
      obtain ⟨w8, hw8⟩ : ∃ w8, (w7.alloc (.cells cntZero 78)).setRow cb cc.toArray = w8 := ⟨_, rfl⟩
      have k8 : Kept (fun _ => False) w7 w8 := by rw [← hw8]; exact ((Kept.refl _ _).alloc _).setRowNew (by omega) _
      have q8 : w8.heap[cb]? = some (.cells cc.toArray 78 (0, 0)) := by rw [← hw8, ← hcb]; exact setRow_heap _ _ _ _ _ _ (heap_alloc_new _ _)
      have O8 : OneSt w1 A5 ⟨P, M5.log⟩ sb wb roots (.slice Av roots.length capv) c P cb cc w8 := ⟨(W6.out.fresh k7).fresh k8, (P6.out.fresh k7).fresh k8, q8, fun e => by have h1 := W6.out.own.store.lt (.inl e); have h2 := k7.size; omega⟩
      have O8' := Lib.hid O8
      have c80 := O8.ww.c0
      have hp8 := storePool O8.ww.own.store
      rw [O8.ww.eq] at hp8
      have hp8' := Lib.hid hp8
      have hf8 := Lib.hid (freeCount_any O8.ww.own.store.pool)
      obtain ⟨fr, hfr⟩ : ∃ fr, P.freeCount = fr := ⟨_, rfl⟩
      have hfr' := Lib.hid hfr
      have hf8' : Hid (Calls Try.prog 24 #[.pointer (some ⟨A5.pb, 0, none⟩)] w8 fun e w' => e = .returned (.int .i64 fr) ∧ w8 = w') := Lib.hid (by have h := hf8.out; rw [show (SM.mk P M5.log).pool.freeCount = fr from hfr] at h; exact h)
      have hcb' := Lib.hid hcb
      have hw8' := Lib.hid hw8
      clear k7 k8 q8 O8 hp8 hcb hw8 hfr c60
      go_wp2_with (first | (refine wpList_alloc_as 78 rfl rfl cntZero cnt_zero ?_; rw [hcb'.out]) | (refine wpList_store_whole 78 rfl rfl rfl cc rfl (by rw [hccl.out]; exact cnt_cells) 78 _ (by rw [← hcb'.out]; exact heap_alloc_new _ _) (by rw [hccl.out]; exact cntZero_size.symm) hcc1.out ?_; rw [hw8'.out]))
      refine hp8'.out.mono ?_
      rintro e w9 ⟨rfl, rfl⟩
      go_wp2_with fail
      refine hf8'.out.mono ?_
      rintro e w9 ⟨rfl, rfl⟩
      go_wp2_with fail
      go_loopw [13] (fun i wr => ∃ (t : Nat), t ≤ 2 ∧ i = .int .i64 t ∧ Hid (∃ A L, OneSt w1 A ⟨P, L⟩ sb wb roots (.slice Av roots.length capv) c P cb cc wr ∧ L.length ≤ 60 + 60 * t)) (fun i _ => 2 - (intOf i).toNat)
      case atStart => exact ⟨0, Nat.zero_le _, rfl, Lib.hid ⟨A5, _, O8'.out, by show M5.log.length ≤ _; omega⟩⟩
      case round =>
        obtain ⟨t, ht, rfl, hI⟩ := hrel
        by_cases ht2 : t < 2
        · obtain ⟨A, L, hSt, hL⟩ := hI.out
          have St := Lib.hid hSt
          clear hSt hI
          have hti : (t : Int) < 2 := by omega
          go_wp2_with fail
          refine wp_region_held_drew (S := fun W => W.cell? ⟨wb, 0, none⟩ = some (.pointer (some ⟨sb, 0, none⟩)) ∧ W.cell? ⟨wb, 1, none⟩ = some (.slice Av roots.length capv)) (by kernel_rfl) ⟨St.out.ww.c0, St.out.ww.c1⟩ (fun hH => ?_)
          refine wpAnyH_take (i := 0) (v := .pointer (some ⟨wb, 0, none⟩)) rfl (by kernel_rfl) (by kernel_rfl) (by kernel_rfl) (fun _ _ _ h => h) (Or.inl ⟨by rfl, fun W hW => by go_simp⟩) (by assumption) ?_
          simp only [Act.put, List.getElem_toArray, List.getElem_cons_zero, List.getElem_cons_succ, List.setIfInBounds_toArray, List.set_cons_zero, List.set_cons_succ]
          refine wpAnyH_take (i := 1) (v := .pointer (some ⟨wb, 0, none⟩)) rfl (by kernel_rfl) (by kernel_rfl) (by kernel_rfl) (fun _ _ _ h => h) (Or.inl ⟨by rfl, fun W hW => by go_simp⟩) (by assumption) ?_
          simp only [Act.put, List.getElem_toArray, List.getElem_cons_zero, List.getElem_cons_succ, List.setIfInBounds_toArray, List.set_cons_zero, List.set_cons_succ]
          refine wpAnyH_take (i := 2) (v := .pointer (some ⟨wb, 0, none⟩)) rfl (by kernel_rfl) (by kernel_rfl) (by kernel_rfl) (fun _ _ _ h => h) (Or.inl ⟨by rfl, fun W hW => by go_simp⟩) (by assumption) ?_
          simp only [Act.put, List.getElem_toArray, List.getElem_cons_zero, List.getElem_cons_succ, List.setIfInBounds_toArray, List.set_cons_zero, List.set_cons_succ]
          refine wpAnyH_take (i := 3) (v := .pointer (some ⟨sb, 0, none⟩)) rfl (by kernel_rfl) (by kernel_rfl) (by kernel_rfl) (fun _ _ _ h => h) (Or.inl ⟨by rfl, fun W hW => by have hc := hW.1; clear hW; go_simp⟩) (by assumption) ?_
          simp only [Act.put, List.getElem_toArray, List.getElem_cons_zero, List.getElem_cons_succ, List.setIfInBounds_toArray, List.set_cons_zero, List.set_cons_succ]
          refine wpAnyH_take (i := 5) (v := .pointer (some ⟨wb, 0, none⟩)) rfl (by kernel_rfl) (by kernel_rfl) (by kernel_rfl) (fun _ _ _ h => h) (Or.inl ⟨by rfl, fun W hW => by go_simp⟩) (by assumption) ?_
          simp only [Act.put, List.getElem_toArray, List.getElem_cons_zero, List.getElem_cons_succ, List.setIfInBounds_toArray, List.set_cons_zero, List.set_cons_succ]
          refine wpAnyH_take (i := 6) (v := .pointer (some ⟨wb, 0, none⟩)) rfl (by kernel_rfl) (by kernel_rfl) (by kernel_rfl) (fun _ _ _ h => h) (Or.inl ⟨by rfl, fun W hW => by go_simp⟩) (by assumption) ?_
          simp only [Act.put, List.getElem_toArray, List.getElem_cons_zero, List.getElem_cons_succ, List.setIfInBounds_toArray, List.set_cons_zero, List.set_cons_succ]
          refine wpAnyH_take (i := 7) (v := .pointer (some ⟨wb, 1, none⟩)) rfl (by kernel_rfl) (by kernel_rfl) (by kernel_rfl) (fun _ _ _ h => h) (Or.inl ⟨by rfl, fun W hW => by go_simp⟩) (by assumption) ?_
          simp only [Act.put, List.getElem_toArray, List.getElem_cons_zero, List.getElem_cons_succ, List.setIfInBounds_toArray, List.set_cons_zero, List.set_cons_succ]
          refine wpAnyH_take (i := 8) (v := .slice Av roots.length capv) rfl (by kernel_rfl) (by kernel_rfl) (by kernel_rfl) (fun _ _ _ h => h) (Or.inl ⟨by rfl, fun W hW => by have hc := hW.2; clear hW; go_simp⟩) (by assumption) ?_
          simp only [Act.put, List.getElem_toArray, List.getElem_cons_zero, List.getElem_cons_succ, List.setIfInBounds_toArray, List.set_cons_zero, List.set_cons_succ]
          refine wpAnyH_ready (rs := [4]) (by kernel_rfl) (by simp) ?_
          refine AllReadyH.cons rfl (fun K hK => ?_) ?_
          · rw [if_pos (by rfl)]
            simp only [Go.wp_at_zero, Go.wp_at_succ]
            go_simp
            have k6 : Kept (fun _ => False) wr (wr.alloc (.cells #[] 3)).drew := ((Kept.refl _ _).alloc _).drew
            have own6 : (wr.alloc (.cells #[] 3)).drew.ownsRow wr.heap.size 3 1 (.slice (some ⟨wr.heap.size, 0, none⟩) 0 0) 0 [] := ownsRow.keptOf (owns_empty wr wr.heap.size wr.heap.size 3 1 (Nat.le_refl _) rfl) ((Kept.refl (fun _ => False) (wr.alloc (.cells #[] 3))).drew) (fun _ _ => id)
            have St6 := St.out.fresh k6
            have hs6 : (wr.alloc (.cells #[] 3)).drew.heap.size = wr.heap.size + 1 := by show (wr.alloc _).heap.size = _; simp
            refine hK.out _ _ ⟨St6.ww.c0, St6.ww.c1⟩ (fun hH6 => ?_)
            clear hK K
            try simp only [Act.put, List.getElem_toArray, List.getElem_cons_zero, List.getElem_cons_succ, List.setIfInBounds_toArray, List.set_cons_zero, List.set_cons_succ]
            obtain ⟨w6, hw6⟩ : ∃ w6, (wr.alloc (.cells #[] 3)).drew = w6 := ⟨_, rfl⟩
            rw [hw6] at k6 own6 St6 hs6 hH6 ⊢
            refine wpAnyH_ready (rs := [9]) (by kernel_rfl) (by simp) ?_
            refine AllReadyH.cons rfl (fun K hK => ?_) ?_
            · refine step_append_src rfl elemInt (.tmp 77) (.tmp 81) rfl (by rfl) (by rfl) own6 (SliceAt.of_owns St6.ww.row) (by intro c hc; obtain ⟨y, _, rfl⟩ := List.mem_map.1 hc; rfl) (by omega) (by omega) (by omega) ?_
              intro v7 w7 hown7 hg7 hb7
              rw [Nat.zero_add, List.nil_append] at hown7
              have k7 : Kept (fun _ => False) wr w7 := k6.trans_new (Kept.of_grown hg7) (fun i hi e => by have h1 := (own6.lt i e).1; omega)
              have St7 := St.out.fresh k7
              have hnew7 : ∀ b, v7.ownBlock = some b → wr.heap.size ≤ b ∧ b < w7.heap.size := fun b hb => hown7.lt b hb
              obtain ⟨_, A7, c7, rfl, _⟩ := SliceAt.of_owns hown7
              refine hK.out _ _ ⟨St7.ww.c0, St7.ww.c1⟩ (fun hH7 => ?_)
              clear hK K
              try simp only [Act.put, List.getElem_toArray, List.getElem_cons_zero, List.getElem_cons_succ, List.setIfInBounds_toArray, List.set_cons_zero, List.set_cons_succ]
              refine wpAnyH_take (i := 10) (v := .agg #[.pointer (some ⟨sb, 0, none⟩), .slice A7 roots.length c7]) rfl (by kernel_rfl) (by kernel_rfl) (by kernel_rfl) (fun _ _ _ h => h) (Or.inl ⟨by rfl, fun W hW => by go_simp⟩) (by assumption) ?_
              simp only [Act.put, List.getElem_toArray, List.getElem_cons_zero, List.getElem_cons_succ, List.setIfInBounds_toArray, List.set_cons_zero, List.set_cons_succ]
              refine wpAnyH_ready (rs := [11]) (by kernel_rfl) (by simp) ?_
              refine AllReadyH.cons rfl (fun K hK => ?_) ?_
              · rw [if_pos (by rfl)]
                simp only [Go.wp_at_zero, Go.wp_at_succ]
                go_simp
                have K8 := St7.start hown7 (fun b hb => (hnew7 b hb).1) St.out.ww.own.kept.size (fun b hb e => by have h1 := St.out.ww.own.store.lt e; have h2 := (hnew7 b hb).1; omega) (fun b hb e => by have h1 := (St.out.ww.row.lt b hb).2; have h2 := (hnew7 b e).1; omega)
                refine hK.out _ _ ⟨K8.ww.c0, K8.ww.c1⟩ (fun hH8 => ?_)
                clear hK K
                try simp only [Act.put, List.getElem_toArray, List.getElem_cons_zero, List.getElem_cons_succ, List.setIfInBounds_toArray, List.set_cons_zero, List.set_cons_succ]
                refine wpAnyH_take (i := 12) (v := .pointer (some ⟨w7.heap.size, 0, none⟩)) rfl (by kernel_rfl) (by kernel_rfl) (by kernel_rfl) (fun _ _ _ h => h) (Or.inl ⟨by rfl, fun W hW => by go_simp⟩) (by assumption) ?_
                simp only [Act.put, List.getElem_toArray, List.getElem_cons_zero, List.getElem_cons_succ, List.setIfInBounds_toArray, List.set_cons_zero, List.set_cons_succ]
                refine wpAnyH_done (by kernel_rfl) ?_ _
                obtain ⟨w8, hw8⟩ : ∃ w8, w7.alloc (.cells #[.pointer (some ⟨sb, 0, none⟩), .slice A7 roots.length c7] 73) = w8 := ⟨_, rfl⟩
                obtain ⟨kb, hkb⟩ : ∃ kb, w7.heap.size = kb := ⟨_, rfl⟩
                rw [hw8] at K8
                rw [hkb] at K8
                simp only [hw8, hkb]
                have K8' := Lib.hid K8
                clear K8 hw8 hkb hH8 hH7 hH6 hH St7 St6 k7 k6 own6 hown7 hg7 hb7 hnew7 hs6 hw6
                go_wp2_with fail
                go_loopw [87] (fun i wr => ∃ (j : Nat), j ≤ al.length ∧ i = .int .i64 j ∧ Hid (∃ A M kr kv, TwoSt w1 A M sb wb kb roots (.slice Av roots.length capv) kr kv c P cb cc wr ∧ kr.length ≤ roots.length + j ∧ M.log.length ≤ L.length + 2 * j ∧ M.pool.size = P.size)) (fun i _ => al.length - (intOf i).toNat)
                case atStart => exact ⟨0, Nat.zero_le _, rfl, Lib.hid ⟨_, _, _, _, K8'.out, Nat.le_refl _, Nat.le_refl _, rfl⟩⟩
                case round =>
                  obtain ⟨k, hkl, rfl, hI⟩ := hrel
                  by_cases hlt : k < al.length
                  · obtain ⟨A2, M2, kr, kv2, St2, hkr, hM2, hsz2⟩ := hI.out
                    have St2' := Lib.hid St2
                    have hkw := k1'.out.trans St2.ww.own.kept
                    have hkw' := Lib.hid hkw
                    obtain ⟨a, hx⟩ : ∃ a, al[k]? = some a := ⟨_, List.getElem?_eq_getElem hlt⟩
                    obtain ⟨gb, go, cs, rfl, hgb, hcs, ⟨haok, kv, hcsE, hkeys⟩, hcc⟩ := hbl'.out k a hx
                    have hcl : Hid (cs.length = 19) := Lib.hid hcs
                    have hc1 : Hid (∀ v ∈ cs, v.oneCell' = true) := Lib.hid (by rw [hcsE]; exact actCells_one a kv (by obtain ⟨_, A', c', e, _⟩ := hkeys; rw [e]; rfl))
                    have hin : Hid (∀ j v, cs[j]? = some v → wr.cell? ⟨gb, go + k * 19 + j, none⟩ = some v) := Lib.hid (fun j v hj => hkw'.out.cell (hcc j v hj) id)
                    have hki : (k : Int) < (al.length : Int) := by omega
                    obtain ⟨xb, hxb⟩ : ∃ xb, wr.heap.size = xb := ⟨_, rfl⟩
                    obtain ⟨wx, hwx⟩ : ∃ wx, (wr.alloc (.cells Za.toArray 75)).setRow xb cs.toArray = wx := ⟨_, rfl⟩
                    have kx : Kept (fun _ => False) wr wx := by rw [← hwx]; exact ((Kept.refl _ _).alloc _).setRowNew (by omega) _
                    have qx : wx.heap[xb]? = some (.cells cs.toArray 75 (0, 0)) := by rw [← hwx, ← hxb]; exact setRow_heap _ _ _ _ _ _ (heap_alloc_new _ _)
                    have cx0 : wx.cell? ⟨xb, 0, none⟩ = some (.int .i64 a.kind) := by rw [cell_of_heap qx, hcsE]; rfl
                    have cx1 : wx.cell? ⟨xb, 1, none⟩ = some (.int .i64 a.at_) := by rw [cell_of_heap qx, hcsE]; rfl
                    have hloadx : Hid (∀ j v, cs[j]? = some v → wx.cell? ⟨xb, 0 + j, none⟩ = some v) := Lib.hid (fun j v hj => by rw [cell_of_heap qx, Nat.zero_add]; simpa using hj)
                    have hxb' := Lib.hid hxb
                    have hwx' := Lib.hid hwx
                    have hcsE' := Lib.hid hcsE
                    have hkeys' := Lib.hid hkeys
                    have haok' := Lib.hid haok
                    have kx' := Lib.hid kx
                    have qx' := Lib.hid qx
                    clear hx hcs hcsE hkeys haok hcc hxb hwx kx qx
                    have Sx := Lib.hid (St2'.out.fresh kx'.out)
                    have ck0 := Sx.out.wk.c0
                    have ck1 := Sx.out.wk.c1
                    clear St2 hI hkw
                    have done : ∀ (A M kr' kv wz), TwoSt w1 A M sb wb kb roots (.slice Av roots.length capv) kr' kv c P cb cc wz → kr'.length ≤ roots.length + (k + 1) → M.log.length ≤ L.length + 2 * (k + 1) → M.pool.size = P.size → Hid (∃ A M kr kv, TwoSt w1 A M sb wb kb roots (.slice Av roots.length capv) kr kv c P cb cc wz ∧ kr.length ≤ roots.length + (k + 1) ∧ M.log.length ≤ L.length + 2 * (k + 1) ∧ M.pool.size = P.size) := fun A M kr' kv wz h1 h2 h3 h4 => Lib.hid ⟨A, M, kr', kv, h1, h2, h3, h4⟩
                    have done' := Lib.hid done
                    clear done
                    have hxoff : Hid (¬ A2.foot xb) := Lib.hid (fun e => by have h1 := St2'.out.wk.own.store.lt (.inl e); have h2 := hxb'.out; omega)
                    by_cases hk0 : a.kind = 0
                    · rw [hk0] at cx0
                      clear hk0
                      have hMk := worldMake Sx.out.wk haok'.out (SliceAt.fresh hkeys'.out k1'.out) (by omega) (by omega)
                      rw [← hcsE'.out] at hMk
                      have hlg := wmake_log M2 kr a
                      have hrl := wmake_roots M2 kr a
                      have hwz := wmake_size M2 kr a
                      obtain ⟨R, hR⟩ : ∃ R, wmake M2 kr a = R := ⟨_, rfl⟩
                      rw [hR] at hMk hlg hrl hwz
                      clear hR
                      obtain ⟨M3, kr3, er⟩ := R
                      dsimp only at hMk hlg hrl hwz
                      have hMk' := Lib.hid hMk
                      clear hMk
                      go_wp2_with (first | (refine wpList_load_agg 75 rfl rfl rfl _ Try.underlying75 rfl cs (by rw [hcl.out]; exact act_size) hin.out ?_) | (refine wpList_alloc_as 75 rfl rfl Za.toArray hZa.out ?_; rw [hxb'.out]) | (refine wpList_store_whole 75 rfl rfl rfl cs rfl (by rw [hcl.out]; exact act_size) 75 _ (by rw [← hxb'.out]; exact heap_alloc_new _ _) (by simp [hcl.out, hZal.out]) hc1.out ?_; rw [hwx'.out]) | (refine wpList_load_agg 75 rfl rfl rfl _ Try.underlying75 rfl cs (by rw [hcl.out]; exact act_size) hloadx.out ?_))
                      refine hMk'.out.mono ?_
                      rintro e w9 ⟨A9, v9, rfl, W9, o9, b9⟩
                      have fin := done'.out _ _ _ _ _ (Sx.out.made W9 o9 b9) (by omega) (by omega) (by omega)
                      clear W9 o9 b9
                      go_wp2_with fail
                      go_roundw
                      case rel => exact ⟨k + 1, by omega, by go_num, fin⟩
                      case measure => simp [intOf]; omega
                    by_cases hk1 : a.kind = 1
                    · rw [hk1] at cx0
                      clear hk0 hk1
                      by_cases hr0 : kr.length = 0
                      · have hd0 : decide ((0 : Int) < (kr.length : Int)) = false := by rw [decide_eq_false_iff_not]; omega
                        obtain ⟨Ak, ck, rfl, _⟩ := Sx.out.wk.form
                        have fin := done'.out _ _ _ _ _ Sx.out (by omega) (by omega) (by omega)
                        go_wp2_with (first | (refine wpList_load_agg 75 rfl rfl rfl _ Try.underlying75 rfl cs (by rw [hcl.out]; exact act_size) hin.out ?_) | (refine wpList_alloc_as 75 rfl rfl Za.toArray hZa.out ?_; rw [hxb'.out]) | (refine wpList_store_whole 75 rfl rfl rfl cs rfl (by rw [hcl.out]; exact act_size) 75 _ (by rw [← hxb'.out]; exact heap_alloc_new _ _) (by simp [hcl.out, hZal.out]) hc1.out ?_; rw [hwx'.out]))
                        go_roundw
                        case rel => exact ⟨k + 1, by omega, by go_num, fin⟩
                        case measure => simp [intOf]; omega
                      · have hd0 : decide ((0 : Int) < (kr.length : Int)) = true := by rw [decide_eq_true_eq]; omega
                        obtain ⟨q, hq⟩ : ∃ q, clampAt a.at_ kr.length = q := ⟨_, rfl⟩
                        have hql : q < kr.length := by rw [← hq]; exact clampAt_lt (by omega)
                        have hqc : max 0 (min a.at_ ((kr.length : Int) - 1)) = (q : Int) := by rw [← hq]; unfold clampAt; omega
                        obtain ⟨r, hr⟩ : ∃ r, kr[q]? = some r := ⟨_, List.getElem?_eq_getElem hql⟩
                        obtain ⟨Ak, ck, hvk, hck1, hck2⟩ := Sx.out.wk.form
                        obtain ⟨rb, ro, rfl, hrb, hrc⟩ := Sx.out.wk.get hvk hr
                        rw [hvk] at ck1
                        have hwk1 : IntKind.i64.wrap ((kr.length : Int) - 1) = (kr.length : Int) - 1 := by rw [IntKind.wrap_i64]; omega
                        unfold maxLen at hck2
                        have hqi : (q : Int) < (kr.length : Int) := by omega
                        have hvk' := Lib.hid hvk
                        have hdr := storeDrop (Sx.out.fresh (Kept.refl (fun _ => False) wx).drew).wk.own.store r
                        rw [Sx.out.wk.eq] at hdr
                        have hdl := drop_log M2 r
                        have hds := drop_size M2 r
                        have hdr' := Lib.hid hdr
                        clear hdr hq hr hvk
                        go_wp2_with (first | (refine wpList_load_agg 75 rfl rfl rfl _ Try.underlying75 rfl cs (by rw [hcl.out]; exact act_size) hin.out ?_) | (refine wpList_alloc_as 75 rfl rfl Za.toArray hZa.out ?_; rw [hxb'.out]) | (refine wpList_store_whole 75 rfl rfl rfl cs rfl (by rw [hcl.out]; exact act_size) 75 _ (by rw [← hxb'.out]; exact heap_alloc_new _ _) (by simp [hcl.out, hZal.out]) hc1.out ?_; rw [hwx'.out]))
                        refine wp_region_held_drew (S := fun W => W.cell? ⟨kb, 0, none⟩ = some (.pointer (some ⟨sb, 0, none⟩)) ∧ W.cell? ⟨kb, 1, none⟩ = some (.slice (some ⟨rb, ro, none⟩) kr.length ck) ∧ W.cell? ⟨xb, 1, none⟩ = some (.int .i64 a.at_) ∧ W.cell? ⟨rb, ro + q, none⟩ = some (.int .i64 r)) (by kernel_rfl) ⟨ck0, ck1, cx1, hrc⟩ (fun hH => ?_)
                        refine wpAnyH_take (i := 0) (v := .pointer (some ⟨kb, 0, none⟩)) rfl (by kernel_rfl) (by kernel_rfl) (by kernel_rfl) (fun _ _ _ h => h) (Or.inl ⟨by rfl, fun W hW => by go_simp⟩) (by assumption) ?_
                        simp only [Act.put, List.getElem_toArray, List.getElem_cons_zero, List.getElem_cons_succ, List.setIfInBounds_toArray, List.set_cons_zero, List.set_cons_succ]
                        refine wpAnyH_take (i := 1) (v := .pointer (some ⟨kb, 0, none⟩)) rfl (by kernel_rfl) (by kernel_rfl) (by kernel_rfl) (fun _ _ _ h => h) (Or.inl ⟨by rfl, fun W hW => by go_simp⟩) (by assumption) ?_
                        simp only [Act.put, List.getElem_toArray, List.getElem_cons_zero, List.getElem_cons_succ, List.setIfInBounds_toArray, List.set_cons_zero, List.set_cons_succ]
                        refine wpAnyH_take (i := 2) (v := .pointer (some ⟨kb, 0, none⟩)) rfl (by kernel_rfl) (by kernel_rfl) (by kernel_rfl) (fun _ _ _ h => h) (Or.inl ⟨by rfl, fun W hW => by go_simp⟩) (by assumption) ?_
                        simp only [Act.put, List.getElem_toArray, List.getElem_cons_zero, List.getElem_cons_succ, List.setIfInBounds_toArray, List.set_cons_zero, List.set_cons_succ]
                        refine wpAnyH_take (i := 3) (v := .pointer (some ⟨sb, 0, none⟩)) rfl (by kernel_rfl) (by kernel_rfl) (by kernel_rfl) (fun _ _ _ h => h) (Or.inl ⟨by rfl, fun W hW => by have hc := hW.1; clear hW; go_simp⟩) (by assumption) ?_
                        simp only [Act.put, List.getElem_toArray, List.getElem_cons_zero, List.getElem_cons_succ, List.setIfInBounds_toArray, List.set_cons_zero, List.set_cons_succ]
                        refine wpAnyH_take (i := 4) (v := .pointer (some ⟨kb, 0, none⟩)) rfl (by kernel_rfl) (by kernel_rfl) (by kernel_rfl) (fun _ _ _ h => h) (Or.inl ⟨by rfl, fun W hW => by go_simp⟩) (by assumption) ?_
                        simp only [Act.put, List.getElem_toArray, List.getElem_cons_zero, List.getElem_cons_succ, List.setIfInBounds_toArray, List.set_cons_zero, List.set_cons_succ]
                        refine wpAnyH_take (i := 5) (v := .pointer (some ⟨kb, 0, none⟩)) rfl (by kernel_rfl) (by kernel_rfl) (by kernel_rfl) (fun _ _ _ h => h) (Or.inl ⟨by rfl, fun W hW => by go_simp⟩) (by assumption) ?_
                        simp only [Act.put, List.getElem_toArray, List.getElem_cons_zero, List.getElem_cons_succ, List.setIfInBounds_toArray, List.set_cons_zero, List.set_cons_succ]
                        refine wpAnyH_take (i := 6) (v := .pointer (some ⟨kb, 1, none⟩)) rfl (by kernel_rfl) (by kernel_rfl) (by kernel_rfl) (fun _ _ _ h => h) (Or.inl ⟨by rfl, fun W hW => by go_simp⟩) (by assumption) ?_
                        simp only [Act.put, List.getElem_toArray, List.getElem_cons_zero, List.getElem_cons_succ, List.setIfInBounds_toArray, List.set_cons_zero, List.set_cons_succ]
                        refine wpAnyH_take (i := 7) (v := .slice (some ⟨rb, ro, none⟩) kr.length ck) rfl (by kernel_rfl) (by kernel_rfl) (by kernel_rfl) (fun _ _ _ h => h) (Or.inl ⟨by rfl, fun W hW => by have hc := hW.2.1; clear hW; go_simp⟩) (by assumption) ?_
                        simp only [Act.put, List.getElem_toArray, List.getElem_cons_zero, List.getElem_cons_succ, List.setIfInBounds_toArray, List.set_cons_zero, List.set_cons_succ]
                        refine wpAnyH_take (i := 8) (v := .pointer (some ⟨xb, 1, none⟩)) rfl (by kernel_rfl) (by kernel_rfl) (by kernel_rfl) (fun _ _ _ h => h) (Or.inl ⟨by rfl, fun W hW => by go_simp⟩) (by assumption) ?_
                        simp only [Act.put, List.getElem_toArray, List.getElem_cons_zero, List.getElem_cons_succ, List.setIfInBounds_toArray, List.set_cons_zero, List.set_cons_succ]
                        refine wpAnyH_take (i := 9) (v := .int .i64 a.at_) rfl (by kernel_rfl) (by kernel_rfl) (by kernel_rfl) (fun _ _ _ h => h) (Or.inl ⟨by rfl, fun W hW => by have hc := hW.2.2.1; clear hW; go_simp⟩) (by assumption) ?_
                        simp only [Act.put, List.getElem_toArray, List.getElem_cons_zero, List.getElem_cons_succ, List.setIfInBounds_toArray, List.set_cons_zero, List.set_cons_succ]
                        refine wpAnyH_take (i := 10) (v := .pointer (some ⟨kb, 0, none⟩)) rfl (by kernel_rfl) (by kernel_rfl) (by kernel_rfl) (fun _ _ _ h => h) (Or.inl ⟨by rfl, fun W hW => by go_simp⟩) (by assumption) ?_
                        simp only [Act.put, List.getElem_toArray, List.getElem_cons_zero, List.getElem_cons_succ, List.setIfInBounds_toArray, List.set_cons_zero, List.set_cons_succ]
                        refine wpAnyH_take (i := 11) (v := .pointer (some ⟨kb, 0, none⟩)) rfl (by kernel_rfl) (by kernel_rfl) (by kernel_rfl) (fun _ _ _ h => h) (Or.inl ⟨by rfl, fun W hW => by go_simp⟩) (by assumption) ?_
                        simp only [Act.put, List.getElem_toArray, List.getElem_cons_zero, List.getElem_cons_succ, List.setIfInBounds_toArray, List.set_cons_zero, List.set_cons_succ]
                        refine wpAnyH_take (i := 12) (v := .pointer (some ⟨kb, 1, none⟩)) rfl (by kernel_rfl) (by kernel_rfl) (by kernel_rfl) (fun _ _ _ h => h) (Or.inl ⟨by rfl, fun W hW => by go_simp⟩) (by assumption) ?_
                        simp only [Act.put, List.getElem_toArray, List.getElem_cons_zero, List.getElem_cons_succ, List.setIfInBounds_toArray, List.set_cons_zero, List.set_cons_succ]
                        refine wpAnyH_take (i := 13) (v := .slice (some ⟨rb, ro, none⟩) kr.length ck) rfl (by kernel_rfl) (by kernel_rfl) (by kernel_rfl) (fun _ _ _ h => h) (Or.inl ⟨by rfl, fun W hW => by have hc := hW.2.1; clear hW; go_simp⟩) (by assumption) ?_
                        simp only [Act.put, List.getElem_toArray, List.getElem_cons_zero, List.getElem_cons_succ, List.setIfInBounds_toArray, List.set_cons_zero, List.set_cons_succ]
                        refine wpAnyH_take (i := 14) (v := .int .i64 kr.length) rfl (by kernel_rfl) (by kernel_rfl) (by kernel_rfl) (fun _ _ _ h => h) (Or.inl ⟨by rfl, fun W hW => by go_simp⟩) (by assumption) ?_
                        simp only [Act.put, List.getElem_toArray, List.getElem_cons_zero, List.getElem_cons_succ, List.setIfInBounds_toArray, List.set_cons_zero, List.set_cons_succ]
                        refine wpAnyH_take (i := 15) (v := .int .i64 ((kr.length : Int) - 1)) rfl (by kernel_rfl) (by kernel_rfl) (by kernel_rfl) (fun _ _ _ h => h) (Or.inl ⟨by rfl, fun W hW => by clear hW; go_simp⟩) (by assumption) ?_
                        simp only [Act.put, List.getElem_toArray, List.getElem_cons_zero, List.getElem_cons_succ, List.setIfInBounds_toArray, List.set_cons_zero, List.set_cons_succ]
                        refine wpAnyH_take (i := 16) (v := .int .i64 (min a.at_ ((kr.length : Int) - 1))) rfl (by kernel_rfl) (by kernel_rfl) (by kernel_rfl) (fun _ _ _ h => h) (Or.inl ⟨by rfl, fun W hW => by clear hW; go_simp⟩) (by assumption) ?_
                        simp only [Act.put, List.getElem_toArray, List.getElem_cons_zero, List.getElem_cons_succ, List.setIfInBounds_toArray, List.set_cons_zero, List.set_cons_succ]
                        refine wpAnyH_take (i := 17) (v := .int .i64 q) rfl (by kernel_rfl) (by kernel_rfl) (by kernel_rfl) (fun _ _ _ h => h) (Or.inl ⟨by rfl, fun W hW => by clear hW; go_simp⟩) (by assumption) ?_
                        simp only [Act.put, List.getElem_toArray, List.getElem_cons_zero, List.getElem_cons_succ, List.setIfInBounds_toArray, List.set_cons_zero, List.set_cons_succ]
                        refine wpAnyH_take (i := 18) (v := .pointer (some ⟨rb, ro + q, none⟩)) rfl (by kernel_rfl) (by kernel_rfl) (by kernel_rfl) (fun _ _ _ h => h) (Or.inl ⟨by rfl, fun W hW => by clear hW; go_simp⟩) (by assumption) ?_
                        simp only [Act.put, List.getElem_toArray, List.getElem_cons_zero, List.getElem_cons_succ, List.setIfInBounds_toArray, List.set_cons_zero, List.set_cons_succ]
                        refine wpAnyH_take (i := 19) (v := .int .i64 r) rfl (by kernel_rfl) (by kernel_rfl) (by kernel_rfl) (fun _ _ _ h => h) (Or.inl ⟨by rfl, fun W hW => by have hc := hW.2.2.2; clear hW; go_simp⟩) (by assumption) ?_
                        simp only [Act.put, List.getElem_toArray, List.getElem_cons_zero, List.getElem_cons_succ, List.setIfInBounds_toArray, List.set_cons_zero, List.set_cons_succ]
                        refine wpAnyH_ready (rs := [20]) (by kernel_rfl) (by simp) ?_
                        refine AllReadyH.cons rfl (fun K hK => ?_) ?_
                        · rw [if_pos (by rfl)]
                          simp only [Go.wp_at_zero, Go.wp_at_succ]
                          go_simp
                          refine hdr'.out.mono ?_
                          rintro e w9 ⟨rfl, hT9⟩
                          have S9 := (Sx.out.fresh (Kept.refl (fun _ => False) wx).drew).to hT9
                          have c91 := S9.wk.c1
                          rw [hvk'.out] at c91
                          refine hK.out _ _ ⟨S9.wk.c0, c91, hT9.kept.cell (show wx.drew.cell? ⟨xb, 1, none⟩ = _ from cx1) hxoff.out, hT9.kept.cell (show wx.drew.cell? ⟨rb, ro + q, none⟩ = _ from hrc) (fun e => Sx.out.wk.off rb (by rw [hvk'.out]; rfl) (.inl e))⟩ (fun hH9 => ?_)
                          clear hK K
                          try simp only [Act.put, List.getElem_toArray, List.getElem_cons_zero, List.getElem_cons_succ, List.setIfInBounds_toArray, List.set_cons_zero, List.set_cons_succ]
                          refine wpAnyH_done (by kernel_rfl) ?_ _
                          have fin := done'.out _ _ _ _ _ S9 (by omega) (by rw [hdl]; omega) (by rw [hds]; exact hsz2)
                          clear hH hH9 S9 hT9 c91
                          go_wp2_with fail
                          go_roundw
                          case rel => exact ⟨k + 1, by omega, by go_num, fin⟩
                          case measure => simp [intOf]; omega
                        exact AllReadyH.nil
                    by_cases hk2 : a.kind = 2
                    · rw [hk2] at cx0
                      clear hk0 hk1 hk2
                      have hhd := storeHold (Sx.out.fresh (Kept.refl (fun _ => False) wx).drew).wk.own.store (max 0 (min a.at_ 200))
                      rw [Sx.out.wk.eq] at hhd
                      have hhd' := Lib.hid hhd
                      clear hhd
                      go_wp2_with (first | (refine wpList_load_agg 75 rfl rfl rfl _ Try.underlying75 rfl cs (by rw [hcl.out]; exact act_size) hin.out ?_) | (refine wpList_alloc_as 75 rfl rfl Za.toArray hZa.out ?_; rw [hxb'.out]) | (refine wpList_store_whole 75 rfl rfl rfl cs rfl (by rw [hcl.out]; exact act_size) 75 _ (by rw [← hxb'.out]; exact heap_alloc_new _ _) (by simp [hcl.out, hZal.out]) hc1.out ?_; rw [hwx'.out]))
                      refine wp_region_held_drew (S := fun W => W.cell? ⟨kb, 0, none⟩ = some (.pointer (some ⟨sb, 0, none⟩)) ∧ W.cell? ⟨xb, 1, none⟩ = some (.int .i64 a.at_)) (by kernel_rfl) ⟨ck0, cx1⟩ (fun hH => ?_)
                      refine wpAnyH_take (i := 0) (v := .pointer (some ⟨kb, 0, none⟩)) rfl (by kernel_rfl) (by kernel_rfl) (by kernel_rfl) (fun _ _ _ h => h) (Or.inl ⟨by rfl, fun W hW => by go_simp⟩) (by assumption) ?_
                      simp only [Act.put, List.getElem_toArray, List.getElem_cons_zero, List.getElem_cons_succ, List.setIfInBounds_toArray, List.set_cons_zero, List.set_cons_succ]
                      refine wpAnyH_take (i := 1) (v := .pointer (some ⟨kb, 0, none⟩)) rfl (by kernel_rfl) (by kernel_rfl) (by kernel_rfl) (fun _ _ _ h => h) (Or.inl ⟨by rfl, fun W hW => by go_simp⟩) (by assumption) ?_
                      simp only [Act.put, List.getElem_toArray, List.getElem_cons_zero, List.getElem_cons_succ, List.setIfInBounds_toArray, List.set_cons_zero, List.set_cons_succ]
                      refine wpAnyH_take (i := 2) (v := .pointer (some ⟨kb, 0, none⟩)) rfl (by kernel_rfl) (by kernel_rfl) (by kernel_rfl) (fun _ _ _ h => h) (Or.inl ⟨by rfl, fun W hW => by go_simp⟩) (by assumption) ?_
                      simp only [Act.put, List.getElem_toArray, List.getElem_cons_zero, List.getElem_cons_succ, List.setIfInBounds_toArray, List.set_cons_zero, List.set_cons_succ]
                      refine wpAnyH_take (i := 3) (v := .pointer (some ⟨sb, 0, none⟩)) rfl (by kernel_rfl) (by kernel_rfl) (by kernel_rfl) (fun _ _ _ h => h) (Or.inl ⟨by rfl, fun W hW => by have hc := hW.1; clear hW; go_simp⟩) (by assumption) ?_
                      simp only [Act.put, List.getElem_toArray, List.getElem_cons_zero, List.getElem_cons_succ, List.setIfInBounds_toArray, List.set_cons_zero, List.set_cons_succ]
                      refine wpAnyH_take (i := 4) (v := .pointer (some ⟨xb, 1, none⟩)) rfl (by kernel_rfl) (by kernel_rfl) (by kernel_rfl) (fun _ _ _ h => h) (Or.inl ⟨by rfl, fun W hW => by go_simp⟩) (by assumption) ?_
                      simp only [Act.put, List.getElem_toArray, List.getElem_cons_zero, List.getElem_cons_succ, List.setIfInBounds_toArray, List.set_cons_zero, List.set_cons_succ]
                      refine wpAnyH_take (i := 5) (v := .int .i64 a.at_) rfl (by kernel_rfl) (by kernel_rfl) (by kernel_rfl) (fun _ _ _ h => h) (Or.inl ⟨by rfl, fun W hW => by have hc := hW.2; clear hW; go_simp⟩) (by assumption) ?_
                      simp only [Act.put, List.getElem_toArray, List.getElem_cons_zero, List.getElem_cons_succ, List.setIfInBounds_toArray, List.set_cons_zero, List.set_cons_succ]
                      refine wpAnyH_take (i := 6) (v := .int .i64 (min a.at_ 200)) rfl (by kernel_rfl) (by kernel_rfl) (by kernel_rfl) (fun _ _ _ h => h) (Or.inl ⟨by rfl, fun W hW => by clear hW; go_simp⟩) (by assumption) ?_
                      simp only [Act.put, List.getElem_toArray, List.getElem_cons_zero, List.getElem_cons_succ, List.setIfInBounds_toArray, List.set_cons_zero, List.set_cons_succ]
                      refine wpAnyH_take (i := 7) (v := .int .i64 (max 0 (min a.at_ 200))) rfl (by kernel_rfl) (by kernel_rfl) (by kernel_rfl) (fun _ _ _ h => h) (Or.inl ⟨by rfl, fun W hW => by clear hW; go_simp⟩) (by assumption) ?_
                      simp only [Act.put, List.getElem_toArray, List.getElem_cons_zero, List.getElem_cons_succ, List.setIfInBounds_toArray, List.set_cons_zero, List.set_cons_succ]
                      refine wpAnyH_ready (rs := [8]) (by kernel_rfl) (by simp) ?_
                      refine AllReadyH.cons rfl (fun K hK => ?_) ?_
                      · rw [if_pos (by rfl)]
                        simp only [Go.wp_at_zero, Go.wp_at_succ]
                        go_simp
                        refine hhd'.out.mono ?_
                        rintro e w9 ⟨rfl, hT9⟩
                        have S9 := (Sx.out.fresh (Kept.refl (fun _ => False) wx).drew).to hT9
                        refine hK.out _ _ ⟨S9.wk.c0, hT9.kept.cell (show wx.drew.cell? ⟨xb, 1, none⟩ = _ from cx1) hxoff.out⟩ (fun hH9 => ?_)
                        clear hK K
                        try simp only [Act.put, List.getElem_toArray, List.getElem_cons_zero, List.getElem_cons_succ, List.setIfInBounds_toArray, List.set_cons_zero, List.set_cons_succ]
                        refine wpAnyH_done (by kernel_rfl) ?_ _
                        have fin := done'.out _ _ _ _ _ S9 (by omega) (show M2.log.length ≤ _ by omega) (by show (M2.hold _).1.pool.size = _; unfold SM.hold; dsimp only; rw [holdTo_size]; exact hsz2)
                        clear hH hH9 S9 hT9
                        go_wp2_with fail
                        go_roundw
                        case rel => exact ⟨k + 1, by omega, by go_num, fin⟩
                        case measure => simp [intOf]; omega
                      exact AllReadyH.nil
                    have e0 : (a.kind == 0) = false := by rw [beq_eq_false_iff_ne]; exact hk0
                    have e1 : (a.kind == 1) = false := by rw [beq_eq_false_iff_ne]; exact hk1
                    have e2 : (a.kind == 2) = false := by rw [beq_eq_false_iff_ne]; exact hk2
                    clear hk0 hk1 hk2
                    have fin := done'.out _ _ _ _ _ Sx.out (by omega) (by omega) (by omega)
                    go_wp2_with (first | (refine wpList_load_agg 75 rfl rfl rfl _ Try.underlying75 rfl cs (by rw [hcl.out]; exact act_size) hin.out ?_) | (refine wpList_alloc_as 75 rfl rfl Za.toArray hZa.out ?_; rw [hxb'.out]) | (refine wpList_store_whole 75 rfl rfl rfl cs rfl (by rw [hcl.out]; exact act_size) 75 _ (by rw [← hxb'.out]; exact heap_alloc_new _ _) (by simp [hcl.out, hZal.out]) hc1.out ?_; rw [hwx'.out]))
                    go_roundw
                    case rel => exact ⟨k + 1, by omega, by go_num, fin⟩
                    case measure => simp [intOf]; omega
                  · obtain rfl : k = al.length := by omega
                    obtain ⟨A2, M2, kr, kv2, St2, hkr, hM2, hsz2⟩ := hI.out
                    have c20 := St2.ww.c0
                    have hU := storeUndo St2.ww.own.store St2.po.pool hsz2.symm
                    rw [St2.ww.eq] at hU
                    have hU' := Lib.hid hU
                    have St2' := Lib.hid St2
                    clear hI hU St2
                    go_wp2_with fail
                    refine hU'.out.mono ?_
                    rintro e w9 ⟨v9, A9, rfl, hT9⟩
                    have T9 := St2'.out.to hT9
                    have O9 : Hid (OneSt w1 A9 ⟨P, M2.log⟩ sb wb roots (.slice Av roots.length capv) c P cb cc w9) := Lib.hid ⟨T9.ww, T9.po, T9.ch, T9.cn⟩
                    have c90 := Lib.hid O9.out.ww.c0
                    clear hT9 T9 c20
                    go_wp2_with fail
                    refine wp_region_quiet (C := fun w' => Kept (fun _ => False) w9 w') (by kernel_rfl) (by kernel_rfl) (Kept.refl _ _).drew ?_
                    simp only []
                    refine wpQuiet_step (fun K hK => ?_); go_simp; refine ⟨_, fun _ _ => rfl, hK _ ?_⟩; clear hK K
                    refine wpQuiet_step (fun K hK => ?_); go_simp; refine ⟨_, fun _ _ => rfl, hK _ ?_⟩; clear hK K
                    refine wpQuiet_step (fun K hK => ?_); go_simp; refine ⟨_, fun _ _ => rfl, hK _ ?_⟩; clear hK K
                    refine wpQuiet_step (fun K hK => ?_); refine q_on rfl (q_val (.pointer (some ⟨sb, 0, none⟩)) (fun W hW => by have hc := hW.cell c90.out id; clear hW; go_simp) (hK _ ?_)); clear hK K
                    refine wpQuiet_step (fun K hK => ?_); go_simp; refine ⟨_, fun W hW => Calls.stay hW (by have h := storePool (O9.out.ww.fresh hW).own.store; rw [(O9.out.ww.fresh hW).eq] at h; exact h), hK _ ?_⟩; clear hK K
                    refine wpQuiet_step (fun K hK => ?_); go_simp; refine ⟨_, fun W hW => (by have h := counts_any (O9.out.ww.fresh hW).own.store.pool; rw [show (SM.mk P M2.log).pool.cntVals = cc from hcc'.out] at h; exact h.mono fun _ _ ⟨he, hk⟩ => ⟨he, hW.trans hk⟩), hK _ ?_⟩; clear hK K
                    refine wpQuiet_step (fun K hK => ?_); refine q_on rfl (q_val (.agg cc.toArray) (fun W hW => exec_load_agg (g := cb) (off := 0) rfl rfl cc Try.underlying78 rfl (by rw [hccl.out]; exact cnt_cells) (fun j v hv => by rw [cell_of_heap (hW.get O9.out.ch id), Nat.zero_add]; simpa using hv)) (hK _ ?_)); clear hK K
                    refine wpQuiet_step (fun K hK => ?_); refine q_on rfl (q_val (.bool false) (fun W hW => by rw [exec_neq_arr (P := Try.prog) (k := .u8) rfl (fun i => (P.cnt i : Int)) (fun i => (P.cnt i : Int)) (by show Value.agg cc.toArray = _; rw [← hcc'.out]; rfl) (by show Value.agg cc.toArray = _; rw [← hcc'.out]; rfl) (by kernel_rfl) Try.underlying78 Try.underlying5 (by kernel_rfl)]; simp) (hK _ ?_)); clear hK K
                    refine wpQuiet_step (fun K hK => ?_); go_simp; refine ⟨_, fun _ _ => rfl, hK _ ?_⟩; clear hK K
                    refine wpQuiet_step (fun K hK => ?_); go_simp; refine ⟨_, fun _ _ => rfl, hK _ ?_⟩; clear hK K
                    refine wpQuiet_step (fun K hK => ?_); go_simp; refine ⟨_, fun _ _ => rfl, hK _ ?_⟩; clear hK K
                    refine wpQuiet_step (fun K hK => ?_); go_simp; refine ⟨_, fun _ _ => rfl, hK _ ?_⟩; clear hK K
                    refine wpQuiet_step (fun K hK => ?_); refine q_on rfl (q_val (.pointer (some ⟨sb, 0, none⟩)) (fun W hW => by have hc := hW.cell c90.out id; clear hW; go_simp) (hK _ ?_)); clear hK K
                    refine wpQuiet_step (fun K hK => ?_); go_simp; refine ⟨_, fun W hW => Calls.stay hW (by have h := storePool (O9.out.ww.fresh hW).own.store; rw [(O9.out.ww.fresh hW).eq] at h; exact h), hK _ ?_⟩; clear hK K
                    refine wpQuiet_step (fun K hK => ?_); go_simp; refine ⟨_, fun W hW => Calls.stay hW (by have h := freeCount_any (O9.out.ww.fresh hW).own.store.pool; rw [show (SM.mk P M2.log).pool.freeCount = fr from hfr'.out] at h; exact h), hK _ ?_⟩; clear hK K
                    refine wpQuiet_step (fun K hK => ?_); go_simp; refine ⟨_, fun _ _ => rfl, hK _ ?_⟩; clear hK K
                    refine wpQuiet_step (fun K hK => ?_); go_simp; refine ⟨_, fun _ _ => rfl, hK _ ?_⟩; clear hK K
                    refine wpQuiet_step (fun K hK => ?_); go_simp; refine ⟨_, fun _ _ => rfl, hK _ ?_⟩; clear hK K
                    refine wpQuiet_nil ?_
                    intro wq hwq
                    have fin : Hid (∃ A L, OneSt w1 A ⟨P, L⟩ sb wb roots (.slice Av roots.length capv) c P cb cc wq ∧ L.length ≤ 60 + 60 * (t + 1)) := Lib.hid ⟨A9, M2.log, O9.out.fresh hwq, by omega⟩
                    clear hwq
                    go_wp2_with fail
                    go_roundw
                    case rel => exact ⟨t + 1, by omega, by go_num, fin⟩
                    case measure => simp [intOf]; omega
              exact AllReadyH.nil
            exact AllReadyH.nil
          exact AllReadyH.nil
        · obtain rfl : t = 2 := by omega
          have hkk : Hid (Kept (fun _ => False) w1 wr) := Lib.hid (by obtain ⟨A, L, hSt, _⟩ := hI.out; exact hSt.ww.own.kept)
          clear hI
          go_wp2_with fail
          go_ret
          exact ⟨rfl, k1'.out.trans hkk.out⟩
end Go.Proofs.Ythmjcbmeiabbgaa
