/-
 ImageRuns: a root and a want more.
-/
import Derived.Test.YtidlchciehdefaaGreatK07
import Derived.Test.YtidlchciehdefaaGreatK18
import Derived.Test.YtidlchciehdefaaGreatK19
import Derived.Test.YtidlchciehdefaaGreatK21
import Derived.Test.YtidlchciehdefaaGreatK23
import Derived.Great.FillDense
import Derived.Great.BuildSlice
import Derived.Deep.RegionHeld3
import Derived.WalkArith
set_option linter.unusedVariables false
set_option linter.unusedSimpArgs false
namespace Go.Proofs.YtidlchciehdefaaGreat
open Go.RowKit
set_option maxRecDepth 100000

section
variable {w0 wr w' : World} {wb sb rb rc vb vc xb tb : Nat} {rs : List Int} {ws : List (Int → List Nat)} {D : List Value} {f : Int → List Nat} {A A' : SA} {M M' : SM}
theorem RunSt.pushRoot (h : RunSt w0 wb sb rs ws rb rc vb vc wr A M) {v' : Value} {x : Int} (hrow : w'.ownsRow w0.heap.size 3 1 v' (rs.length + 1) (rs.map (Value.int .i64) ++ [.int .i64 x])) (hg : wr.grownBy w' (Value.slice (some ⟨rb, 0, none⟩) rs.length rc).ownBlock)
  (hb : v'.ownBlock = (Value.slice (some ⟨rb, 0, none⟩) rs.length rc).ownBlock ∨ v'.ownBlock = some wr.heap.size) :
  ∃ g cap, v' = .slice (some ⟨g, 0, none⟩) (rs.length + 1) cap ∧ (g = rb ∨ g = wr.heap.size) ∧ w'.cell? ⟨wb, 1, none⟩ = some (.slice (some ⟨rb, 0, none⟩) rs.length rc) ∧ w'.frozen? ⟨wb, 1, none⟩ = false ∧ RunSt w0 wb sb (rs ++ [x]) ws g cap vb vc (w'.setCell ⟨wb, 1, none⟩ v') A M := by
 obtain ⟨n1, n2, n3⟩ := h.ne
 obtain ⟨b1, b2⟩ := h.rbase
 have kg : Kept (fun i => i = rb) wr w' := (Kept.of_grown hg).mono fun i e => by simp [Value.ownBlock] at e; exact e.symm
 rcases hrow.2 with ⟨_, e0⟩ | ⟨g, cap, cur, rfl, hbase, hgg, _⟩
 ·omega
 have hgr : g = rb ∨ g = wr.heap.size := by
  rcases hb with e | e
  ·simp [Value.ownBlock] at e; exact .inl e
  ·simp [Value.ownBlock] at e; exact .inr e
 have hbox := kg.get h.box (fun e => n1 e.symm)
 have k := (Kept.refl (fun i => i = wb) w').setCell (p := ⟨wb, 1, none⟩) rfl (.slice (some ⟨g, 0, none⟩) (rs.length + 1) cap)
 have hgne : g ≠ wb := by have := h.wap.lt; rcases hgr with e | e <;> omega
 have hwr' : wr.heap.size ≤ w'.heap.size := kg.size
 have hgap : Apart w' A g := by
  rcases hgr with e | e
  ·rw [e]; exact h.rap.kept kg
  ·exact ⟨lt_of_heap hgg, fun ho => by have := h.own.store.lt ho; omega⟩
 have hle : (rs ++ [x]).length = rs.length + 1 := by simp
 refine ⟨g, cap, rfl, hgr, by rw [cell_of_heap hbox]; rfl, free_of_heap hbox 1, ⟨?_, h.eq, ?_, (h.wap.kept kg).kept k, ?_, ?_, hgap.kept k, (h.vap.kept kg).kept k, h.base⟩⟩
 ·exact ⟨(h.own.store.kept kg (fun i hi e => h.rap.off (e ▸ hi))).kept k (fun i hi e => h.wap.off (e ▸ hi)), (h.own.kept.trans_new kg (fun i hi e => by omega)).trans_new k (fun i hi e => by have := h.base; omega), h.own.new⟩
 ·rw [heap_setCell_same hbox, hle]; rfl
 ·rw [hle, List.map_append]
  exact ownsRow.keptOf hrow k (fun b hb e => hgne (by simp [Value.ownBlock] at hb; omega))
 ·exact ownsRow.keptOf (ownsRow.keptOf h.wants kg (fun b hb e => n3 (by simp [Value.ownBlock] at hb; omega))) k (fun b hb e => n2 (by simp [Value.ownBlock] at hb; omega))
theorem RunSt.pushWant (h : RunSt w0 wb sb rs ws rb rc vb vc wr A M) {v' : Value} {g0 : Int → List Nat} (hrow : w'.ownsRow w0.heap.size 37 1024 v' (ws.length + 1) (ws.flatMap imgCells ++ imgCells g0)) (hg : wr.grownBy w' (Value.slice (some ⟨vb, 0, none⟩) ws.length vc).ownBlock)
  (hb : v'.ownBlock = (Value.slice (some ⟨vb, 0, none⟩) ws.length vc).ownBlock ∨ v'.ownBlock = some wr.heap.size) :
  ∃ g cap, v' = .slice (some ⟨g, 0, none⟩) (ws.length + 1) cap ∧ (g = vb ∨ g = wr.heap.size) ∧ w'.cell? ⟨wb, 2, none⟩ = some (.slice (some ⟨vb, 0, none⟩) ws.length vc) ∧ w'.frozen? ⟨wb, 2, none⟩ = false ∧ RunSt w0 wb sb rs (ws ++ [g0]) rb rc g cap (w'.setCell ⟨wb, 2, none⟩ v') A M := by
 obtain ⟨n1, n2, n3⟩ := h.ne
 obtain ⟨b1, b2⟩ := h.rbase
 have kg : Kept (fun i => i = vb) wr w' := (Kept.of_grown hg).mono fun i e => by simp [Value.ownBlock] at e; exact e.symm
 rcases hrow.2 with ⟨_, e0⟩ | ⟨g, cap, cur, rfl, hbase, hgg, _⟩
 ·omega
 have hgr : g = vb ∨ g = wr.heap.size := by
  rcases hb with e | e
  ·simp [Value.ownBlock] at e; exact .inl e
  ·simp [Value.ownBlock] at e; exact .inr e
 have hbox := kg.get h.box (fun e => n2 e.symm)
 have k := (Kept.refl (fun i => i = wb) w').setCell (p := ⟨wb, 2, none⟩) rfl (.slice (some ⟨g, 0, none⟩) (ws.length + 1) cap)
 have hgne : g ≠ wb := by have := h.wap.lt; rcases hgr with e | e <;> omega
 have hwr' : wr.heap.size ≤ w'.heap.size := kg.size
 have hgap : Apart w' A g := by
  rcases hgr with e | e
  ·rw [e]; exact h.vap.kept kg
  ·exact ⟨lt_of_heap hgg, fun ho => by have := h.own.store.lt ho; omega⟩
 have hle : (ws ++ [g0]).length = ws.length + 1 := by simp
 refine ⟨g, cap, rfl, hgr, by rw [cell_of_heap hbox]; rfl, free_of_heap hbox 2, ⟨?_, h.eq, ?_, (h.wap.kept kg).kept k, ?_, ?_, (h.rap.kept kg).kept k, hgap.kept k, h.base⟩⟩
 ·exact ⟨(h.own.store.kept kg (fun i hi e => h.vap.off (e ▸ hi))).kept k (fun i hi e => h.wap.off (e ▸ hi)), (h.own.kept.trans_new kg (fun i hi e => by omega)).trans_new k (fun i hi e => by have := h.base; omega), h.own.new⟩
 ·rw [heap_setCell_same hbox, hle]; rfl
 ·exact ownsRow.keptOf (ownsRow.keptOf h.roots kg (fun b hb e => n3 (by simp [Value.ownBlock] at hb; omega))) k (fun b hb e => n1 (by simp [Value.ownBlock] at hb; omega))
 ·rw [hle, List.flatMap_append]
  have := ownsRow.keptOf hrow k (fun b hb e => hgne (by simp [Value.ownBlock] at hb; omega))
  simpa using this
end
def badB (ks : List Int) : Bool := ks.any fun y => !decide (0 ≤ y ∧ y < 64)
theorem badB_take {ks : List Int} {j : Nat} {y : Int} (h : ks[j]? = some y) : badB (ks.take (j + 1)) = (badB (ks.take j) || !decide (0 ≤ y ∧ y < 64)) := by
 obtain ⟨hj, rfl⟩ := List.getElem?_eq_some_iff.1 h
 unfold badB
 rw [List.take_add_one, List.getElem?_eq_getElem hj, List.any_append]
 simp
theorem badB_true {ks : List Int} (h : badB ks = true) : ∃ x ∈ ks, x < 0 ∨ 63 < x := by
 unfold badB at h
 obtain ⟨x, hx, hb⟩ := List.any_eq_true.1 h
 exact ⟨x, hx, by simp at hb; omega⟩
theorem badB_false {ks : List Int} (h : badB ks = false) : ∀ x ∈ ks, 0 ≤ x ∧ x ≤ 63 := by
 intro x hx
 unfold badB at h
 have := List.any_eq_false.1 h x hx
 simp at this
 omega
theorem img_info : (Tryz.prog.info? 37).map (fun i => (i.zero, i.size, i.bytes)) = some (some (.agg (List.replicate 1024 (Value.int .u8 0)).toArray), 1024, 1024) := by kernel_rfl
theorem run_buildSlice_img (w : World) {I : List Value} (hI : I.length = 1024) : (Instr.buildSlice 101 1 #[(0, .agg I.toArray)]).run Tryz.prog w = .ok (.slice (some ⟨w.heap.size, 0, none⟩) 1 1) (w.alloc (.cells I.toArray 37)) := by
 obtain ⟨i0, hi0, hz0, hz1, hz2⟩ := info_parts img_info
 refine run_buildSlice w _ _ 1 _ _ i0 _ Tryz.underlying101 hi0 hz0 (by rw [hz1]; omega) (by rw [hz1]; omega) ?_
 rw [hz1]
 refine (Go.Great.fill_whole (s := 1024) (by omega) [.agg I.toArray] _ ?_ ?_).trans ?_
 ·intro v hv
  rw [List.mem_singleton.1 hv]
  simpa [Value.cells] using hI
 ·simp
 ·simp [Value.cells]
set_option maxHeartbeats 40000000 in
theorem runDo {w0 w : World} {A : SA} {M : SM} {wb sb rb rc vb vc k : Nat} {is : List IM} (St : RunSt w0 wb sb (is.map IM.root) (is.map IM.w) rb rc vb vc w A M) (hP : RunP k M is) (hk50 : k ≤ 50) {x : ActI} {kA : Option Addr} {kn kc : Nat} (hok : x.ok) (hks : IntsOff w A (.slice kA kn kc) x.keys) (h70 : x.keys.length ≤ 70) :
  Calls Tryz.prog 54 #[.pointer (some ⟨wb, 0, none⟩), .agg (actICells x (.slice kA kn kc)).toArray] w fun e w' => e = .returned (.bool true) ∧ RunTo w0 wb sb k M w' := by
 obtain ⟨_, _, _, e0, hkc1, hkc2, _⟩ := id hks.at_
 cases e0
 unfold maxLen at hkc2
 obtain ⟨rs, hrs⟩ : ∃ rs, is.map IM.root = rs := ⟨_, rfl⟩
 obtain ⟨ws, hws⟩ : ∃ ws, is.map IM.w = ws := ⟨_, rfl⟩
 rw [hrs, hws] at St
 have hlr : rs.length = is.length := by rw [← hrs, List.length_map]
 have hlw : ws.length = is.length := by rw [← hws, List.length_map]
 have hpos := hP.pos
 have hsix := hP.six
 obtain ⟨n, hn⟩ : ∃ n, atR x.at_ rs.length = n := ⟨_, rfl⟩
 have hnl : n < rs.length := by rw [← hn]; exact atR_lt (by omega)
 have hqc : max 0 (min x.at_ ((rs.length : Int) - 1)) = (n : Int) := by rw [← hn]; unfold atR; omega
 obtain ⟨i, hi⟩ : ∃ i, is[n]? = some i := ⟨_, List.getElem?_eq_getElem (by omega)⟩
 obtain ⟨r, hr⟩ : ∃ r, i.root = r := ⟨_, rfl⟩
 obtain ⟨f, hf⟩ : ∃ f, i.w = f := ⟨_, rfl⟩
 have hrn : Hid (rs[n]? = some r) := h_ (by rw [← hrs, List.getElem?_map, hi, ← hr]; rfl)
 have hwn : Hid (ws[n]? = some f) := h_ (by rw [← hws, List.getElem?_map, hi, ← hf]; rfl)
 have hBw : Hid (∀ g ∈ ws, Bytes g) := h_ (fun g hg => by rw [← hws] at hg; obtain ⟨j, hj, rfl⟩ := List.mem_map.1 hg; exact hP.bytes j hj)
 have hBf : Hid (Bytes f) := h_ (hBw.out f (List.mem_of_getElem? hwn.out))
 have hcaps := St.caps
 have hwl : IntKind.i64.wrap ((rs.length : Int) - 1) = (rs.length : Int) - 1 := by rw [IntKind.wrap_i64]; omega
 have hni : (n : Int) < (rs.length : Int) := by omega
 have hnw : (n : Int) < (ws.length : Int) := by omega
 obtain ⟨D, hD⟩ : ∃ D, actICells x (.slice kA x.keys.length kc) = D := ⟨_, rfl⟩
 obtain ⟨C, hC⟩ : ∃ C, blockCells x.block = C := ⟨_, rfl⟩
 have hCl : Hid (C.length = 16) := h_ (by rw [← hC]; exact blockCells_len _)
 obtain ⟨I, hI⟩ : ∃ I, imgCells f = I := ⟨_, rfl⟩
 have hIl : Hid (I.length = 1024) := h_ (by rw [← hI]; exact imgCells_len hBf.out)
 have hI1 : Hid (∀ v ∈ I, v.oneCell' = true) := h_ (by rw [← hI]; exact byteCells_one _)
 obtain ⟨Z, hZ⟩ : ∃ Z, List.replicate 1024 (Value.int .u8 0) = Z := ⟨_, rfl⟩
 have hZl : Hid (Z.length = 1024) := h_ (by rw [← hZ]; exact List.length_replicate)
 have hZ0 := h_ hZ
 have hZz : Hid ((Tryz.prog.info? 37).map (·.zero) = some (some (.agg Z.toArray))) := h_ (by rw [← hZ]; exact img_zero)
 obtain ⟨xb, hxb⟩ : ∃ xb, w.heap.size = xb := ⟨_, rfl⟩
 obtain ⟨w1, hw1⟩ : ∃ w1, w.alloc (.cells D.toArray 40) = w1 := ⟨_, rfl⟩
 have k1 : Kept (fun _ => False) w w1 := by rw [← hw1]; exact (Kept.refl _ _).alloc _
 have q1 : w1.heap[xb]? = some (.cells D.toArray 40 (0, 0)) := by rw [← hw1, ← hxb]; exact heap_alloc_new _ _
 have xap1 : Apart w1 A xb := Apart.new St.own.store (by omega) (lt_of_heap q1)
 have S1 := h_ (St.fresh k1)
 have cells : ∀ (W : World), W.heap[xb]? = some (.cells D.toArray 40 (0, 0)) → W.cell? ⟨xb, 0, none⟩ = some (.int .i64 x.kind) ∧ W.cell? ⟨xb, 1, none⟩ = some (.int .i64 x.at_) ∧ W.cell? ⟨xb, 2, none⟩ = some (.int .i64 x.key) ∧ W.cell? ⟨xb, 3, none⟩ = some (.slice kA x.keys.length kc) ∧ ∀ j u, C[j]? = some u → W.cell? ⟨xb, 4 + j, none⟩ = some u := fun W q => by
  have := act_box (a := x) (kv := .slice kA x.keys.length kc) (wx := W) (xb := xb) (by rw [hD]; exact q)
  rw [hC] at this
  exact this
 have hks1 := h_ (hks.fresh k1)
 have cx1 := h_ (cells _ q1).2.1
 have q1' := h_ q1
 have xap1' := h_ xap1
 have cells' := h_ cells
 have hbase : Hid (w0.heap.size ≤ xb ∧ rb < xb) := h_ ⟨by have := St.own.kept.size; omega, by have := St.rap.lt; omega⟩
 have hw1' := h_ hw1
 have hxb' := h_ hxb
 have hD' := h_ hD
 have hC' := h_ hC
 have hI' := h_ hI
 have hi' := h_ hi
 have hr' := h_ hr
 have hf' := h_ hf
 have hP' := h_ hP
 have hrs' := h_ hrs
 have hws' := h_ hws
 have hok' := h_ hok
 have hlens : Hid (rs.length = is.length ∧ ws.length = is.length ∧ n < is.length) := h_ ⟨hlr, hlw, by omega⟩
 have hcaps' := h_ hcaps
 have hr1 : rs.length ≤ 6 := by omega
 have hr2 : ws.length ≤ 6 := by omega
 have hcr1 : rs.length ≤ rc := hcaps.1
 have hcr2 : rc ≤ 9223372036854775807 := hcaps.2.1
 have hcv1 : ws.length ≤ vc := hcaps.2.2.1
 have hcv2 : vc ≤ 9223372036854775807 := hcaps.2.2.2
 have hlg : Hid (M.log.length ≤ 1500 * k) := h_ hP.log
 rw [hD]
 clear hks hrs hws hlr hlw hpos hsix hn hi hr hf hD hC hI hZ hxb hw1 k1 q1 xap1 cells hcaps hP hok St
 go_enter Tryz.func54, Tryz.ntmps54
 go_wp2_with (first | (refine wpList_box_named 40 rfl rfl _ rfl hw1'.out ?_; rw [hxb'.out]))
 refine wp_region_quiet (C := fun w' => Kept (fun _ => False) w1 w') (by kernel_rfl) (by kernel_rfl) (Kept.refl _ _).drew ?_
 simp only []
 refine wpQuiet_step (fun K hK => ?_); go_simp; refine ⟨_, fun _ _ => rfl, hK _ ?_⟩; clear hK K
 refine wpQuiet_step (fun K hK => ?_); refine q_on rfl (q_val (.int .i64 x.at_) (fun W hW => by have hc := hW.cell cx1.out id; clear hW; go_simp) (hK _ ?_)); clear hK K
 refine wpQuiet_step (fun K hK => ?_); go_simp; refine ⟨_, fun _ _ => rfl, hK _ ?_⟩; clear hK K
 refine wpQuiet_step (fun K hK => ?_); go_simp; refine ⟨_, fun _ _ => rfl, hK _ ?_⟩; clear hK K
 refine wpQuiet_step (fun K hK => ?_); go_simp; refine ⟨_, fun _ _ => rfl, hK _ ?_⟩; clear hK K
 refine wpQuiet_step (fun K hK => ?_); refine q_on rfl (q_val (.slice (some ⟨rb, 0, none⟩) rs.length rc) (fun W hW => by have hc := hW.cell S1.out.c1 id; clear hW; go_simp) (hK _ ?_)); clear hK K
 refine wpQuiet_step (fun K hK => ?_); go_simp; refine ⟨_, fun _ _ => rfl, hK _ ?_⟩; clear hK K
 refine wpQuiet_step (fun K hK => ?_); go_simp; refine ⟨_, fun _ _ => rfl, hK _ ?_⟩; clear hK K
 refine wpQuiet_step (fun K hK => ?_); go_simp; refine ⟨_, fun _ _ => rfl, hK _ ?_⟩; clear hK K
 refine wpQuiet_step (fun K hK => ?_); go_simp; refine ⟨_, fun _ _ => rfl, hK _ ?_⟩; clear hK K
 refine wpQuiet_step (fun K hK => ?_); go_simp; refine ⟨_, fun _ _ => rfl, hK _ ?_⟩; clear hK K
 refine wpQuiet_nil ?_
 intro wq hwq
 have S2 := h_ (S1.out.fresh hwq)
 have q2 := h_ (hwq.get q1'.out id)
 have xap2 := h_ (xap1'.out.fresh hwq)
 have hks2 := h_ (hks1.out.fresh hwq)
 have d0 := S2.out.c0
 have d1 := S2.out.c1
 have d2 := (S2.out.root hrn.out).1
 have hPl := storePool S2.out.own.store
 rw [S2.out.eq] at hPl
 have hPl' := h_ hPl
 clear hwq hPl S1 q1' xap1' hks1 cx1
 go_wp2_with fail
 refine hPl'.out.mono ?_
 rintro e w2 ⟨rfl, rfl⟩
 go_wp2_with fail
 refine (tidy_any S2.out.own.store.pool).mono ?_
 rintro e w3 ⟨rfl, hT⟩
 have T3 : StoreTo A A M.tidy wq w3 := S2.out.own.store.pooled hT rfl
 have S3 := h_ (S2.out.to T3)
 have q3 := h_ (T3.get q2.out xap2.out.safe)
 have xap3 := h_ (xap2.out.to T3)
 have hks3 := h_ (hks2.out.to T3)
 have e0 := S3.out.c0
 have hPl := storePool S3.out.own.store
 rw [S3.out.eq] at hPl
 have hPl3 := h_ hPl
 clear hT T3 hPl hPl' d0 d1 d2 S2 q2 xap2 hks2
 go_wp2_with fail
 refine hPl3.out.mono ?_
 rintro e w2 ⟨rfl, rfl⟩
 go_wp2_with fail
 refine (freeCount_any S3.out.own.store.pool).mono ?_
 rintro e w2 ⟨rfl, rfl⟩
 obtain ⟨fr, hfr⟩ : ∃ fr, M.tidy.pool.freeCount = fr := ⟨_, rfl⟩
 rw [hfr]
 have hfr' := h_ hfr
 have hwt := S3.out.want hBw.out hwn.out
 rw [hI'.out] at hwt
 have hwtA := h_ hwt
 have hwtB : Hid (∀ j v, I[j]? = some v → w3.cell? ⟨vb, n * 1024 + j, none⟩ = some v) := h_ (fun j v hj => by have := hwt j v hj; rw [Nat.zero_add] at this; exact this)
 obtain ⟨tb, htb⟩ : ∃ tb, w3.heap.size = tb := ⟨_, rfl⟩
 obtain ⟨w4, hw4⟩ : ∃ w4, (w3.alloc (.cells Z.toArray 37)).setRow tb I.toArray = w4 := ⟨_, rfl⟩
 have k4 : Kept (fun _ => False) w3 w4 := by rw [← hw4]; exact ((Kept.refl _ _).alloc _).setRowNew (by omega) _
 have q4 : w4.heap[tb]? = some (.cells I.toArray 37 (0, 0)) := by rw [← hw4, ← htb]; exact setRow_heap _ _ _ _ _ _ (heap_alloc_new _ _)
 have E4 : DoSt w0 wb sb rs ws rb rc vb vc xb tb D f w4 A M.tidy := ⟨S3.out.fresh k4, k4.get q3.out id, xap3.out.fresh k4, by rw [hI'.out]; exact q4, Apart.new S3.out.own.store (by omega) (lt_of_heap q4), ⟨hbase.out.1, by have := S3.out.own.kept.size; omega⟩, ⟨by have := xap3.out.lt; omega, by have := hbase.out.2; omega, by have := S3.out.wap.lt; omega, by have := S3.out.rap.lt; omega, by have := S3.out.vap.lt; omega⟩⟩
 have hks4 := h_ (hks3.out.fresh k4)
 have E4' := h_ E4
 have e1 := S3.out.c2
 have hw4' := h_ hw4
 have htb' := h_ htb
 have g0 := (cells'.out _ E4.act).1
 clear hfr hwt k4 q4 hw4 htb E4 e0 hPl3 hks3
 by_cases hk0 : x.kind = 0
 ·rw [hk0] at g0
  clear hk0
  go_wp2_with (first | (refine wpList_load_agg 37 rfl rfl rfl _ Tryz.underlying37 rfl I (by rw [hIl.out]; exact img_size) hwtA.out ?_) | (refine wpList_load_agg 37 rfl rfl rfl _ Tryz.underlying37 rfl I (by rw [hIl.out]; exact img_size) hwtB.out ?_) | (refine wpList_alloc_as 37 rfl rfl Z.toArray hZz.out ?_; rw [htb'.out]) | (refine wpList_store_whole 37 rfl rfl rfl I rfl (by rw [hIl.out]; exact img_size) 37 Z.toArray (by rw [← htb'.out]; exact heap_alloc_new _ _) (by simp [hZl.out, hIl.out]) hI1.out ?_; rw [hw4'.out]))
  clear S3 q3 xap3 hwtA hwtB e1 hw4' htb'
  have g2 := (cells'.out _ E4'.out.act).2.2.1
  have g4 := (cells'.out _ E4'.out.act).2.2.2.2
  obtain ⟨R, hR⟩ : ∃ R, M.tidy.write r x.key x.block = R := ⟨_, rfl⟩
  have hWr := imageWrite (E4'.out.run.own.store.fresh ((Kept.refl (fun _ => False) w4).drew)) r x.key hok'.out.1 hok'.out.2 (by show M.log.length + 100100 < _; have := hlg.out; omega)
  rw [hC'.out, E4'.out.run.eq, hR] at hWr
  obtain ⟨Mw, next, er⟩ := R
  dsimp only at hWr
  have hWr' := h_ hWr
  have hR' := h_ hR
  clear hWr hR
  refine wp_region_held_drew (S := fun W => W.cell? ⟨wb, 0, none⟩ = some (.pointer (some ⟨sb, 0, none⟩)) ∧ W.cell? ⟨xb, 2, none⟩ = some (.int .i64 x.key) ∧ ∀ j v, C[j]? = some v → W.cell? ⟨xb, 4 + j, none⟩ = some v) (by kernel_rfl) ⟨E4'.out.run.c0, g2, g4⟩ (fun hS => ?_)
  refine wpAnyH_take (i := 0) (v := .pointer (some ⟨wb, 0, none⟩)) rfl (by kernel_rfl) (by kernel_rfl) (by kernel_rfl) (fun _ _ _ h => h) (Or.inl ⟨by rfl, fun W hW => by go_simp⟩) (by assumption) ?_
  simp only [Act.put, q1_, q2_, q3_, List.setIfInBounds_toArray, q5_, q6_]
  refine wpAnyH_take (i := 1) (v := .pointer (some ⟨wb, 0, none⟩)) rfl (by kernel_rfl) (by kernel_rfl) (by kernel_rfl) (fun _ _ _ h => h) (Or.inl ⟨by rfl, fun W hW => by go_simp⟩) (by assumption) ?_
  simp only [Act.put, q1_, q2_, q3_, List.setIfInBounds_toArray, q5_, q6_]
  refine wpAnyH_take (i := 2) (v := .pointer (some ⟨wb, 0, none⟩)) rfl (by kernel_rfl) (by kernel_rfl) (by kernel_rfl) (fun _ _ _ h => h) (Or.inl ⟨by rfl, fun W hW => by go_simp⟩) (by assumption) ?_
  simp only [Act.put, q1_, q2_, q3_, List.setIfInBounds_toArray, q5_, q6_]
  refine wpAnyH_take (i := 3) (v := .agg #[.pointer (some ⟨sb, 0, none⟩)]) rfl (by kernel_rfl) (by kernel_rfl) (by kernel_rfl) (fun _ _ _ h => h) (Or.inl ⟨by rfl, fun W hW => exec_load_agg rfl (by rfl) [.pointer (some ⟨sb, 0, none⟩)] Tryz.underlying32 rfl (by kernel_rfl) (fun j v hj => by have := hW.1; cases j with | zero => simpa [this] using hj | succ j => simp at hj)⟩) (by assumption) ?_
  simp only [Act.put, q1_, q2_, q3_, List.setIfInBounds_toArray, q5_, q6_]
  refine wpAnyH_take (i := 4) (v := .int .i64 r) rfl (by kernel_rfl) (by kernel_rfl) (by kernel_rfl) (fun _ _ _ h => h) (Or.inl ⟨by rfl, fun W hW => by go_simp⟩) (by assumption) ?_
  simp only [Act.put, q1_, q2_, q3_, List.setIfInBounds_toArray, q5_, q6_]
  refine wpAnyH_take (i := 5) (v := .pointer (some ⟨xb, 2, none⟩)) rfl (by kernel_rfl) (by kernel_rfl) (by kernel_rfl) (fun _ _ _ h => h) (Or.inl ⟨by rfl, fun W hW => by go_simp⟩) (by assumption) ?_
  simp only [Act.put, q1_, q2_, q3_, List.setIfInBounds_toArray, q5_, q6_]
  refine wpAnyH_take (i := 6) (v := .int .i64 x.key) rfl (by kernel_rfl) (by kernel_rfl) (by kernel_rfl) (fun _ _ _ h => h) (Or.inl ⟨by rfl, fun W hW => by have hc := hW.2.1; clear hW; go_simp⟩) (by assumption) ?_
  simp only [Act.put, q1_, q2_, q3_, List.setIfInBounds_toArray, q5_, q6_]
  refine wpAnyH_take (i := 7) (v := .pointer (some ⟨xb, 4, none⟩)) rfl (by kernel_rfl) (by kernel_rfl) (by kernel_rfl) (fun _ _ _ h => h) (Or.inl ⟨by rfl, fun W hW => by go_simp⟩) (by assumption) ?_
  simp only [Act.put, q1_, q2_, q3_, List.setIfInBounds_toArray, q5_, q6_]
  refine wpAnyH_take (i := 8) (v := .agg C.toArray) rfl (by kernel_rfl) (by kernel_rfl) (by kernel_rfl) (fun _ _ _ h => h) (Or.inl ⟨by rfl, fun W hW => exec_load_agg rfl (by rfl) C Tryz.underlying35 rfl (by rw [hCl.out]; exact block_size) hW.2.2⟩) (by assumption) ?_
  simp only [Act.put, q1_, q2_, q3_, List.setIfInBounds_toArray, q5_, q6_]
  refine wpAnyH_ready (rs := [9]) (by kernel_rfl) (by simp) ?_
  refine AllReadyH.cons rfl (fun K hK => ?_) ?_
  ·rw [if_pos (by rfl)]
   simp only [Go.wp_at_zero, Go.wp_at_succ]
   go_simp
   refine hWr'.out.mono ?_
   rintro e w5 ⟨A5, rfl, hT5⟩
   have E5 := (E4'.out.fresh ((Kept.refl (fun _ => False) w4).drew)).to hT5
   have g := cells'.out _ E5.act
   refine hK.out _ _ ⟨E5.run.c0, g.2.2.1, g.2.2.2.2⟩ (fun hS5 => ?_)
   clear hK K
   try simp only [Act.put, q1_, q2_, q3_, List.setIfInBounds_toArray, q5_, q6_]
   have E5 := h_ E5
   refine wpAnyH_take (i := 10) (v := .tuple #[.int .i64 next, .int .i64 er]) rfl (by kernel_rfl) (by kernel_rfl) (by kernel_rfl) (fun _ _ _ h => h) (Or.inl ⟨by rfl, fun W hW => by go_simp⟩) (by assumption) ?_
   simp only [Act.put, q1_, q2_, q3_, List.setIfInBounds_toArray, q5_, q6_]
   refine wpAnyH_take (i := 11) (v := .int .i64 next) rfl (by kernel_rfl) (by kernel_rfl) (by kernel_rfl) (fun _ _ _ h => h) (Or.inl ⟨by rfl, fun W hW => by go_simp⟩) (by assumption) ?_
   simp only [Act.put, q1_, q2_, q3_, List.setIfInBounds_toArray, q5_, q6_]
   refine wpAnyH_take (i := 12) (v := .int .i64 er) rfl (by kernel_rfl) (by kernel_rfl) (by kernel_rfl) (fun _ _ _ h => h) (Or.inl ⟨by rfl, fun W hW => by go_simp⟩) (by assumption) ?_
   simp only [Act.put, q1_, q2_, q3_, List.setIfInBounds_toArray, q5_, q6_]
   refine wpAnyH_take (i := 13) (v := .int .i64 next) rfl (by kernel_rfl) (by kernel_rfl) (by kernel_rfl) (fun _ _ _ h => h) (Or.inl ⟨by rfl, fun W hW => by go_simp⟩) (by assumption) ?_
   simp only [Act.put, q1_, q2_, q3_, List.setIfInBounds_toArray, q5_, q6_]
   refine wpAnyH_take (i := 14) (v := .int .i64 er) rfl (by kernel_rfl) (by kernel_rfl) (by kernel_rfl) (fun _ _ _ h => h) (Or.inl ⟨by rfl, fun W hW => by go_simp⟩) (by assumption) ?_
   simp only [Act.put, q1_, q2_, q3_, List.setIfInBounds_toArray, q5_, q6_]
   refine wpAnyH_done (by kernel_rfl) ?_ _
   clear hS hS5 hT5 hWr' g g0 g2 g4
   have g2 := (cells'.out _ E5.out.act).2.2.1
   by_cases hth : 0 ≤ x.key ∧ x.key < 64
   ·go_wp2_with fail
    refine (ref13There_ok hth w5).mono ?_
    rintro e w6 ⟨rfl, rfl⟩
    have hth' := h_ hth
    obtain ⟨kk, hkk⟩ := Int.eq_ofNat_of_zero_le hth.1
    have hspec := runs_write hP'.out (by omega) hi'.out hth.1 hth.2 hok'.out.1 hok'.out.2
    rw [hr'.out, hR'.out, hf'.out] at hspec
    have hWt := ref13Write (w := w5) hBf.out (k := kk) (by omega) hok'.out.1
    rw [← hkk, hI'.out, hC'.out] at hWt
    have hBg : Hid (Bytes (upd f x.key x.block)) := h_ (hBf.out.upd x.key hok'.out.1 hok'.out.2)
    obtain ⟨J, hJ⟩ : ∃ J, imgCells (upd f x.key x.block) = J := ⟨_, rfl⟩
    have hJl : Hid (J.length = 1024) := h_ (by rw [← hJ]; exact imgCells_len hBg.out)
    have hJ1 : Hid (∀ v ∈ J, v.oneCell' = true) := h_ (by rw [← hJ]; exact byteCells_one _)
    have hJe := h_ hJ
    rw [hJ] at hWt
    have hWt' := h_ hWt
    have hl5 := E5.out.tload
    rw [hI'.out] at hl5
    have hl5 := h_ hl5
    have hb5 := h_ (cells'.out _ E5.out.act).2.2.2.2
    have hspec' := h_ hspec
    clear hth hWt hJ hspec hkk
    go_wp2_with (first | (refine wpList_load_agg 37 rfl rfl rfl _ Tryz.underlying37 rfl I (by rw [hIl.out]; exact img_size) hl5.out ?_) | (refine wpList_load_agg 35 rfl rfl rfl _ Tryz.underlying35 rfl C (by rw [hCl.out]; exact block_size) hb5.out ?_))
    refine hWt'.out.mono ?_
    rintro e w6 ⟨rfl, kw6⟩
    have E6 := E5.out.fresh kw6
    have q6 := h_ E6.tbox
    have E7 := E6.setT (upd f x.key x.block)
    rw [hJe.out] at E7
    obtain ⟨w7, hw7⟩ : ∃ w7, w6.setRow tb J.toArray = w7 := ⟨_, rfl⟩
    rw [hw7] at E7
    have E7 := h_ E7
    have hw7' := h_ hw7
    have q6' : Hid (w6.heap[tb]? = some (.cells I.toArray 37 (0, 0))) := h_ (by rw [← hI'.out]; exact q6.out)
    clear kw6 E6 q6 hw7 hWt' g2
    rcases hspec'.out with ⟨M', nx, i', e, hRun, hroot, hw, hsz⟩ | ⟨M', er', e, he, hRun, hfree, hsz⟩
    ·cases e
     have hRun := h_ hRun
     have hrw := h_ (And.intro hroot hw)
     have hsz := h_ hsz
     clear hroot hw
     obtain ⟨w8, hw8⟩ : ∃ w8, w7.setCell ⟨rb, n, none⟩ (.int .i64 next) = w8 := ⟨_, rfl⟩
     have E8 := E7.out.root (show n < rs.length by omega) next
     rw [hw8] at E8
     have E8 := h_ E8
     have m1 := E7.out.run.c1
     have m2 := (E7.out.run.root hrn.out).1
     have m3 := (E7.out.run.root hrn.out).2
     go_wp2_with (first | (refine wpList_store_whole 37 rfl rfl rfl J rfl (by rw [hJl.out]; exact img_size) 37 I.toArray q6'.out (by simp [hIl.out, hJl.out]) hJ1.out ?_; rw [hw7'.out]))
     try rw [hw8]
     clear m1 m2 m3 hw8
     obtain ⟨cur, hcur, hcl, R9⟩ := (E8.out.run.fresh ((Kept.refl (fun _ => False) w8).drew)).setWant hBw.out (show n < ws.length by omega) hBg.out
     rw [hJe.out] at R9
     have R9 := h_ R9
     have hcur := h_ hcur
     have tl := E8.out.tload
     rw [hJe.out] at tl
     have tl := h_ tl
     refine wp_region_held_drew (S := fun W => W.cell? ⟨wb, 2, none⟩ = some (.slice (some ⟨vb, 0, none⟩) ws.length vc) ∧ ∀ j v, J[j]? = some v → W.cell? ⟨tb, 0 + j, none⟩ = some v) (by kernel_rfl) ⟨E8.out.run.c2, tl.out⟩ (fun hS => ?_)
     refine wpAnyH_take (i := 0) (v := .pointer (some ⟨wb, 0, none⟩)) rfl (by kernel_rfl) (by kernel_rfl) (by kernel_rfl) (fun _ _ _ h => h) (Or.inl ⟨by rfl, fun W hW => by go_simp⟩) (by assumption) ?_
     simp only [Act.put, q1_, q2_, q3_, List.setIfInBounds_toArray, q5_, q6_]
     refine wpAnyH_take (i := 1) (v := .pointer (some ⟨wb, 0, none⟩)) rfl (by kernel_rfl) (by kernel_rfl) (by kernel_rfl) (fun _ _ _ h => h) (Or.inl ⟨by rfl, fun W hW => by go_simp⟩) (by assumption) ?_
     simp only [Act.put, q1_, q2_, q3_, List.setIfInBounds_toArray, q5_, q6_]
     refine wpAnyH_take (i := 2) (v := .pointer (some ⟨wb, 2, none⟩)) rfl (by kernel_rfl) (by kernel_rfl) (by kernel_rfl) (fun _ _ _ h => h) (Or.inl ⟨by rfl, fun W hW => by go_simp⟩) (by assumption) ?_
     simp only [Act.put, q1_, q2_, q3_, List.setIfInBounds_toArray, q5_, q6_]
     refine wpAnyH_take (i := 3) (v := .slice (some ⟨vb, 0, none⟩) ws.length vc) rfl (by kernel_rfl) (by kernel_rfl) (by kernel_rfl) (fun _ _ _ h => h) (Or.inl ⟨by rfl, fun W hW => by have hc := hW.1; clear hW; go_simp⟩) (by assumption) ?_
     simp only [Act.put, q1_, q2_, q3_, List.setIfInBounds_toArray, q5_, q6_]
     refine wpAnyH_take (i := 4) (v := .int .i64 (n : Int)) rfl (by kernel_rfl) (by kernel_rfl) (by kernel_rfl) (fun _ _ _ h => h) (Or.inl ⟨by rfl, fun W hW => by go_simp⟩) (by assumption) ?_
     simp only [Act.put, q1_, q2_, q3_, List.setIfInBounds_toArray, q5_, q6_]
     refine wpAnyH_take (i := 5) (v := .agg J.toArray) rfl (by kernel_rfl) (by kernel_rfl) (by kernel_rfl) (fun _ _ _ h => h) (Or.inl ⟨by rfl, fun W hW => exec_load_agg rfl (by rfl) J Tryz.underlying37 rfl (by rw [hJl.out]; exact img_size) hW.2⟩) (by assumption) ?_
     simp only [Act.put, q1_, q2_, q3_, List.setIfInBounds_toArray, q5_, q6_]
     refine wpAnyH_take (i := 6) (v := .pointer (some ⟨vb, n * 1024, none⟩)) rfl (by kernel_rfl) (by kernel_rfl) (by kernel_rfl) (fun _ _ _ h => h) (Or.inl ⟨by rfl, fun W hW => by go_simp⟩) (by assumption) ?_
     simp only [Act.put, q1_, q2_, q3_, List.setIfInBounds_toArray, q5_, q6_]
     refine wpAnyH_ready (rs := [7]) (by kernel_rfl) (by simp) ?_
     refine AllReadyH.cons rfl (fun K hK => ?_) ?_
     ·refine step_store_agg 37 rfl rfl (g := vb) (off := n * 1024) (by rfl) J (by rfl) (by rw [hJl.out]; exact img_size) 37 cur hcur.out (by rw [hJl.out]; omega) hJ1.out ?_
      rw [hJl.out]
      have kS := Kept.setRow (S := fun j => j = vb) (Kept.refl _ w8.drew) rfl (cur.take (n * 1024) ++ (J ++ cur.drop (n * 1024 + 1024))).toArray
      refine hK.out _ _ ⟨kS.cell (show w8.drew.cell? ⟨wb, 2, none⟩ = _ from E8.out.run.c2) (fun e => E8.out.run.ne.2.1 e.symm), fun j v hj => kS.cell (show w8.drew.cell? ⟨tb, 0 + j, none⟩ = _ from tl.out j v hj) E8.out.ne.2.2.2.2⟩ (fun hS9 => ?_)
      clear hK K
      try simp only [Act.put, q1_, q2_, q3_, List.setIfInBounds_toArray, q5_, q6_]
      refine wpAnyH_done (by kernel_rfl) ?_ _
      clear hS hS9 kS
      go_wp2_with fail
      go_ret
      exact ⟨rfl, A5, Mw, is.set n i', rb, rc, vb, vc, by rw [(maps_set _ _ _).1, (maps_set _ _ _).2, hrs'.out, hws'.out, hrw.out.1, hrw.out.2]; have := R9.out; exact this, hRun.out, hsz.out⟩
     exact AllReadyH.nil
    ·cases e
     have hRun := h_ hRun
     have hsz := h_ hsz
     rw [hfr'.out] at hfree
     have hfree := h_ hfree
     rcases he with rfl | rfl
     ·have c0 := E7.out.run.c0
      have hPl := storePool E7.out.run.own.store
      rw [E7.out.run.eq] at hPl
      have hPl5 := h_ hPl
      have hFr := freeCount_any E7.out.run.own.store.pool
      rw [hfree.out] at hFr
      have hFr5 := h_ hFr
      clear hPl hFr
      go_wp2_with (first | (refine wpList_store_whole 37 rfl rfl rfl J rfl (by rw [hJl.out]; exact img_size) 37 I.toArray q6'.out (by simp [hIl.out, hJl.out]) hJ1.out ?_; rw [hw7'.out]))
      refine hPl5.out.mono ?_
      rintro e w2 ⟨rfl, rfl⟩
      go_wp2_with fail
      refine hFr5.out.mono ?_
      rintro e w2 ⟨rfl, rfl⟩
      go_wp2_with fail
      go_ret
      exact ⟨rfl, A5, Mw, is, rb, rc, vb, vc, by rw [hrs'.out, hws'.out]; exact E7.out.run, hRun.out, hsz.out⟩
     ·have c0 := E7.out.run.c0
      have hPl := storePool E7.out.run.own.store
      rw [E7.out.run.eq] at hPl
      have hPl5 := h_ hPl
      have hFr := freeCount_any E7.out.run.own.store.pool
      rw [hfree.out] at hFr
      have hFr5 := h_ hFr
      clear hPl hFr
      go_wp2_with (first | (refine wpList_store_whole 37 rfl rfl rfl J rfl (by rw [hJl.out]; exact img_size) 37 I.toArray q6'.out (by simp [hIl.out, hJl.out]) hJ1.out ?_; rw [hw7'.out]))
      refine hPl5.out.mono ?_
      rintro e w2 ⟨rfl, rfl⟩
      go_wp2_with fail
      refine hFr5.out.mono ?_
      rintro e w2 ⟨rfl, rfl⟩
      go_wp2_with fail
      go_ret
      exact ⟨rfl, A5, Mw, is, rb, rc, vb, vc, by rw [hrs'.out, hws'.out]; exact E7.out.run, hRun.out, hsz.out⟩
   ·have hbad := runs_write_bad M.tidy r hth x.block
    rw [hR'.out] at hbad
    cases hbad
    have c0 := E5.out.run.c0
    have hPl := storePool E5.out.run.own.store
    rw [E5.out.run.eq] at hPl
    have hPl5 := h_ hPl
    have hFr := freeCount_any E5.out.run.own.store.pool
    rw [hfr'.out] at hFr
    have hFr5 := h_ hFr
    clear hPl hFr
    go_wp2_with fail
    refine (ref13There_bad hth w5).mono ?_
    rintro e w6 ⟨rfl, rfl⟩
    clear hth
    go_wp2_with fail
    refine hPl5.out.mono ?_
    rintro e w2 ⟨rfl, rfl⟩
    go_wp2_with fail
    refine hFr5.out.mono ?_
    rintro e w2 ⟨rfl, rfl⟩
    go_wp2_with fail
    go_ret
    exact ⟨rfl, A5, M.tidy, is, rb, rc, vb, vc, by rw [hrs'.out, hws'.out]; exact E5.out.run, hP'.out.tidy.more, rfl⟩
  exact AllReadyH.nil
 by_cases hk1 : x.kind = 1
 ·rw [hk1] at g0
  clear hk0
  clear hk1
  go_wp2_with (first | (refine wpList_load_agg 37 rfl rfl rfl _ Tryz.underlying37 rfl I (by rw [hIl.out]; exact img_size) hwtA.out ?_) | (refine wpList_load_agg 37 rfl rfl rfl _ Tryz.underlying37 rfl I (by rw [hIl.out]; exact img_size) hwtB.out ?_) | (refine wpList_alloc_as 37 rfl rfl Z.toArray hZz.out ?_; rw [htb'.out]) | (refine wpList_store_whole 37 rfl rfl rfl I rfl (by rw [hIl.out]; exact img_size) 37 Z.toArray (by rw [← htb'.out]; exact heap_alloc_new _ _) (by simp [hZl.out, hIl.out]) hI1.out ?_; rw [hw4'.out]))
  clear S3 q3 xap3 hwtA hwtB e1 hw4' htb'
  have g3 := (cells'.out _ E4'.out.act).2.2.2.1
  obtain ⟨R, hR⟩ : ∃ R, M.tidy.clear r x.keys = R := ⟨_, rfl⟩
  have hWr := imageClear (E4'.out.run.own.store.fresh ((Kept.refl (fun _ => False) w4).drew)) r (hks4.out.fresh ((Kept.refl (fun _ => False) w4).drew)) (by omega) (by show M.log.length + 100000 < _; have := hlg.out; omega)
  rw [E4'.out.run.eq, hR] at hWr
  obtain ⟨Mw, next, er⟩ := R
  dsimp only at hWr
  have hWr' := h_ hWr
  have hR' := h_ hR
  clear hWr hR
  refine wp_region_held_drew (S := fun W => W.cell? ⟨wb, 0, none⟩ = some (.pointer (some ⟨sb, 0, none⟩)) ∧ W.cell? ⟨xb, 3, none⟩ = some (.slice kA x.keys.length kc)) (by kernel_rfl) ⟨E4'.out.run.c0, g3⟩ (fun hS => ?_)
  refine wpAnyH_take (i := 0) (v := .pointer (some ⟨wb, 0, none⟩)) rfl (by kernel_rfl) (by kernel_rfl) (by kernel_rfl) (fun _ _ _ h => h) (Or.inl ⟨by rfl, fun W hW => by go_simp⟩) (by assumption) ?_
  simp only [Act.put, q1_, q2_, q3_, List.setIfInBounds_toArray, q5_, q6_]
  refine wpAnyH_take (i := 1) (v := .pointer (some ⟨wb, 0, none⟩)) rfl (by kernel_rfl) (by kernel_rfl) (by kernel_rfl) (fun _ _ _ h => h) (Or.inl ⟨by rfl, fun W hW => by go_simp⟩) (by assumption) ?_
  simp only [Act.put, q1_, q2_, q3_, List.setIfInBounds_toArray, q5_, q6_]
  refine wpAnyH_take (i := 2) (v := .pointer (some ⟨wb, 0, none⟩)) rfl (by kernel_rfl) (by kernel_rfl) (by kernel_rfl) (fun _ _ _ h => h) (Or.inl ⟨by rfl, fun W hW => by go_simp⟩) (by assumption) ?_
  simp only [Act.put, q1_, q2_, q3_, List.setIfInBounds_toArray, q5_, q6_]
  refine wpAnyH_take (i := 3) (v := .agg #[.pointer (some ⟨sb, 0, none⟩)]) rfl (by kernel_rfl) (by kernel_rfl) (by kernel_rfl) (fun _ _ _ h => h) (Or.inl ⟨by rfl, fun W hW => exec_load_agg rfl (by rfl) [.pointer (some ⟨sb, 0, none⟩)] Tryz.underlying32 rfl (by kernel_rfl) (fun j v hj => by have := hW.1; cases j with | zero => simpa [this] using hj | succ j => simp at hj)⟩) (by assumption) ?_
  simp only [Act.put, q1_, q2_, q3_, List.setIfInBounds_toArray, q5_, q6_]
  refine wpAnyH_take (i := 4) (v := .int .i64 r) rfl (by kernel_rfl) (by kernel_rfl) (by kernel_rfl) (fun _ _ _ h => h) (Or.inl ⟨by rfl, fun W hW => by go_simp⟩) (by assumption) ?_
  simp only [Act.put, q1_, q2_, q3_, List.setIfInBounds_toArray, q5_, q6_]
  refine wpAnyH_take (i := 5) (v := .pointer (some ⟨xb, 3, none⟩)) rfl (by kernel_rfl) (by kernel_rfl) (by kernel_rfl) (fun _ _ _ h => h) (Or.inl ⟨by rfl, fun W hW => by go_simp⟩) (by assumption) ?_
  simp only [Act.put, q1_, q2_, q3_, List.setIfInBounds_toArray, q5_, q6_]
  refine wpAnyH_take (i := 6) (v := .slice kA x.keys.length kc) rfl (by kernel_rfl) (by kernel_rfl) (by kernel_rfl) (fun _ _ _ h => h) (Or.inl ⟨by rfl, fun W hW => by have hc := hW.2; clear hW; go_simp⟩) (by assumption) ?_
  simp only [Act.put, q1_, q2_, q3_, List.setIfInBounds_toArray, q5_, q6_]
  refine wpAnyH_ready (rs := [7]) (by kernel_rfl) (by simp) ?_
  refine AllReadyH.cons rfl (fun K hK => ?_) ?_
  ·rw [if_pos (by rfl)]
   simp only [Go.wp_at_zero, Go.wp_at_succ]
   go_simp
   refine hWr'.out.mono ?_
   rintro e w5 ⟨A5, rfl, hT5⟩
   have E5 := (E4'.out.fresh ((Kept.refl (fun _ => False) w4).drew)).to hT5
   have g := cells'.out _ E5.act
   have hks5 := h_ ((hks4.out.fresh ((Kept.refl (fun _ => False) w4).drew)).to hT5)
   refine hK.out _ _ ⟨E5.run.c0, g.2.2.2.1⟩ (fun hS5 => ?_)
   clear hK K
   try simp only [Act.put, q1_, q2_, q3_, List.setIfInBounds_toArray, q5_, q6_]
   have E5 := h_ E5
   refine wpAnyH_take (i := 8) (v := .tuple #[.int .i64 next, .int .i64 er]) rfl (by kernel_rfl) (by kernel_rfl) (by kernel_rfl) (fun _ _ _ h => h) (Or.inl ⟨by rfl, fun W hW => by go_simp⟩) (by assumption) ?_
   simp only [Act.put, q1_, q2_, q3_, List.setIfInBounds_toArray, q5_, q6_]
   refine wpAnyH_take (i := 9) (v := .int .i64 next) rfl (by kernel_rfl) (by kernel_rfl) (by kernel_rfl) (fun _ _ _ h => h) (Or.inl ⟨by rfl, fun W hW => by go_simp⟩) (by assumption) ?_
   simp only [Act.put, q1_, q2_, q3_, List.setIfInBounds_toArray, q5_, q6_]
   refine wpAnyH_take (i := 10) (v := .int .i64 er) rfl (by kernel_rfl) (by kernel_rfl) (by kernel_rfl) (fun _ _ _ h => h) (Or.inl ⟨by rfl, fun W hW => by go_simp⟩) (by assumption) ?_
   simp only [Act.put, q1_, q2_, q3_, List.setIfInBounds_toArray, q5_, q6_]
   refine wpAnyH_take (i := 11) (v := .int .i64 next) rfl (by kernel_rfl) (by kernel_rfl) (by kernel_rfl) (fun _ _ _ h => h) (Or.inl ⟨by rfl, fun W hW => by go_simp⟩) (by assumption) ?_
   simp only [Act.put, q1_, q2_, q3_, List.setIfInBounds_toArray, q5_, q6_]
   refine wpAnyH_take (i := 12) (v := .int .i64 er) rfl (by kernel_rfl) (by kernel_rfl) (by kernel_rfl) (fun _ _ _ h => h) (Or.inl ⟨by rfl, fun W hW => by go_simp⟩) (by assumption) ?_
   simp only [Act.put, q1_, q2_, q3_, List.setIfInBounds_toArray, q5_, q6_]
   refine wpAnyH_done (by kernel_rfl) ?_ _
   clear hS hS5 hT5 hWr' g g0 g3
   have g3 := (cells'.out _ E5.out.act).2.2.2.1
   go_wp2_with fail
   go_loopw [10, 106] (fun b j wr => ∃ (m : Nat), m ≤ x.keys.length ∧ j = .int .i64 m ∧ b = .bool (badB (x.keys.take m)) ∧ wr = w5) (fun _ j _ => x.keys.length - (intOf j).toNat)
   case atStart => exact ⟨0, Nat.zero_le _, rfl, rfl, rfl⟩
   case round =>
    obtain ⟨m, hm, rfl, rfl, rfl⟩ := hrel
    by_cases hlt : m < x.keys.length
    ·obtain ⟨y, hy⟩ : ∃ y, x.keys[m]? = some y := ⟨_, List.getElem?_eq_getElem hlt⟩
     obtain ⟨yb, yo, rfl, hyb, hyc⟩ := ints_at hks5.out.at_ hy
     have hmi : (m : Int) < (x.keys.length : Int) := by omega
     have hbt := badB_take hy
     cases hb : badB (x.keys.take m) with
     | true =>
      rw [hb, Bool.true_or] at hbt
      have hbt' := h_ hbt
      clear hy hbt hyb hb
      go_wp2_with fail
      go_roundw
      case rel => exact ⟨m + 1, by omega, by go_num, by rw [hbt'.out], by first | trivial | rfl⟩
      case measure => simp [intOf] <;> omega
     | false =>
      rw [hb, Bool.false_or] at hbt
      by_cases hth : 0 ≤ y ∧ y < 64
      ·rw [decide_eq_true hth] at hbt
       have hbt' := h_ hbt
       have hTh := h_ (ref13There_ok hth wr)
       clear hy hbt hyb hb hth
       go_wp2_with fail
       refine hTh.out.mono ?_
       rintro e w6 ⟨rfl, rfl⟩
       go_wp2_with fail
       go_roundw
       case rel => exact ⟨m + 1, by omega, by go_num, by rw [hbt'.out]; rfl, by first | trivial | rfl⟩
       case measure => simp [intOf] <;> omega
      ·rw [decide_eq_false hth] at hbt
       have hbt' := h_ hbt
       have hTh := h_ (ref13There_bad hth wr)
       clear hy hbt hyb hb hth
       go_wp2_with fail
       refine hTh.out.mono ?_
       rintro e w6 ⟨rfl, rfl⟩
       go_wp2_with fail
       go_roundw
       case rel => exact ⟨m + 1, by omega, by go_num, by rw [hbt'.out]; rfl, by first | trivial | rfl⟩
       case measure => simp [intOf] <;> omega
    ·have hmm : m = x.keys.length := by omega
     subst hmm
     have hmi : ¬ ((x.keys.length : Int) < (x.keys.length : Int)) := by omega
     rw [List.take_length] at *
     cases hb : badB x.keys with
     | false =>
      have hkk := badB_false hb
      have hspec := runs_clear hP'.out (by omega) hi'.out hkk h70
      rw [hr'.out, hR'.out, hf'.out] at hspec
      have hWt := ref13Clear (w := wr) hBf.out hks5.out.at_ hkk
      rw [hI'.out] at hWt
      have hBg : Hid (Bytes (x.keys.foldl wipe f)) := h_ (wipes_bytes hBf.out x.keys)
      obtain ⟨J, hJ⟩ : ∃ J, imgCells (x.keys.foldl wipe f) = J := ⟨_, rfl⟩
      have hJl : Hid (J.length = 1024) := h_ (by rw [← hJ]; exact imgCells_len hBg.out)
      have hJ1 : Hid (∀ v ∈ J, v.oneCell' = true) := h_ (by rw [← hJ]; exact byteCells_one _)
      have hJe := h_ hJ
      rw [hJ] at hWt
      have hWt' := h_ hWt
      have hl5 := E5.out.tload
      rw [hI'.out] at hl5
      have hl5 := h_ hl5
      have hspec' := h_ hspec
      clear hkk hWt hJ hspec hb
      go_wp2_with (first | (refine wpList_load_agg 37 rfl rfl rfl _ Tryz.underlying37 rfl I (by rw [hIl.out]; exact img_size) hl5.out ?_))
      refine hWt'.out.mono ?_
      rintro e w6 ⟨rfl, kw6⟩
      have E6 := E5.out.fresh kw6
      have q6 := h_ E6.tbox
      have E7 := E6.setT (x.keys.foldl wipe f)
      rw [hJe.out] at E7
      obtain ⟨w7, hw7⟩ : ∃ w7, w6.setRow tb J.toArray = w7 := ⟨_, rfl⟩
      rw [hw7] at E7
      have E7 := h_ E7
      have hw7' := h_ hw7
      have q6' : Hid (w6.heap[tb]? = some (.cells I.toArray 37 (0, 0))) := h_ (by rw [← hI'.out]; exact q6.out)
      clear kw6 E6 q6 hw7 hWt' g3
      rcases hspec'.out with ⟨M', nx, i', e, hRun, hroot, hw, hsz⟩ | ⟨M', er', e, he, hRun, hfree, hsz⟩
      ·cases e
       have hRun := h_ hRun
       have hrw := h_ (And.intro hroot hw)
       have hsz := h_ hsz
       clear hroot hw
       obtain ⟨w8, hw8⟩ : ∃ w8, w7.setCell ⟨rb, n, none⟩ (.int .i64 next) = w8 := ⟨_, rfl⟩
       have E8 := E7.out.root (show n < rs.length by omega) next
       rw [hw8] at E8
       have E8 := h_ E8
       have m1 := E7.out.run.c1
       have m2 := (E7.out.run.root hrn.out).1
       have m3 := (E7.out.run.root hrn.out).2
       go_wp2_with (first | (refine wpList_store_whole 37 rfl rfl rfl J rfl (by rw [hJl.out]; exact img_size) 37 I.toArray q6'.out (by simp [hIl.out, hJl.out]) hJ1.out ?_; rw [hw7'.out]))
       try rw [hw8]
       clear m1 m2 m3 hw8
       obtain ⟨cur, hcur, hcl, R9⟩ := (E8.out.run.fresh ((Kept.refl (fun _ => False) w8).drew)).setWant hBw.out (show n < ws.length by omega) hBg.out
       rw [hJe.out] at R9
       have R9 := h_ R9
       have hcur := h_ hcur
       have tl := E8.out.tload
       rw [hJe.out] at tl
       have tl := h_ tl
       refine wp_region_held_drew (S := fun W => W.cell? ⟨wb, 2, none⟩ = some (.slice (some ⟨vb, 0, none⟩) ws.length vc) ∧ ∀ j v, J[j]? = some v → W.cell? ⟨tb, 0 + j, none⟩ = some v) (by kernel_rfl) ⟨E8.out.run.c2, tl.out⟩ (fun hS => ?_)
       refine wpAnyH_take (i := 0) (v := .pointer (some ⟨wb, 0, none⟩)) rfl (by kernel_rfl) (by kernel_rfl) (by kernel_rfl) (fun _ _ _ h => h) (Or.inl ⟨by rfl, fun W hW => by go_simp⟩) (by assumption) ?_
       simp only [Act.put, q1_, q2_, q3_, List.setIfInBounds_toArray, q5_, q6_]
       refine wpAnyH_take (i := 1) (v := .pointer (some ⟨wb, 0, none⟩)) rfl (by kernel_rfl) (by kernel_rfl) (by kernel_rfl) (fun _ _ _ h => h) (Or.inl ⟨by rfl, fun W hW => by go_simp⟩) (by assumption) ?_
       simp only [Act.put, q1_, q2_, q3_, List.setIfInBounds_toArray, q5_, q6_]
       refine wpAnyH_take (i := 2) (v := .pointer (some ⟨wb, 2, none⟩)) rfl (by kernel_rfl) (by kernel_rfl) (by kernel_rfl) (fun _ _ _ h => h) (Or.inl ⟨by rfl, fun W hW => by go_simp⟩) (by assumption) ?_
       simp only [Act.put, q1_, q2_, q3_, List.setIfInBounds_toArray, q5_, q6_]
       refine wpAnyH_take (i := 3) (v := .slice (some ⟨vb, 0, none⟩) ws.length vc) rfl (by kernel_rfl) (by kernel_rfl) (by kernel_rfl) (fun _ _ _ h => h) (Or.inl ⟨by rfl, fun W hW => by have hc := hW.1; clear hW; go_simp⟩) (by assumption) ?_
       simp only [Act.put, q1_, q2_, q3_, List.setIfInBounds_toArray, q5_, q6_]
       refine wpAnyH_take (i := 4) (v := .int .i64 (n : Int)) rfl (by kernel_rfl) (by kernel_rfl) (by kernel_rfl) (fun _ _ _ h => h) (Or.inl ⟨by rfl, fun W hW => by go_simp⟩) (by assumption) ?_
       simp only [Act.put, q1_, q2_, q3_, List.setIfInBounds_toArray, q5_, q6_]
       refine wpAnyH_take (i := 5) (v := .agg J.toArray) rfl (by kernel_rfl) (by kernel_rfl) (by kernel_rfl) (fun _ _ _ h => h) (Or.inl ⟨by rfl, fun W hW => exec_load_agg rfl (by rfl) J Tryz.underlying37 rfl (by rw [hJl.out]; exact img_size) hW.2⟩) (by assumption) ?_
       simp only [Act.put, q1_, q2_, q3_, List.setIfInBounds_toArray, q5_, q6_]
       refine wpAnyH_take (i := 6) (v := .pointer (some ⟨vb, n * 1024, none⟩)) rfl (by kernel_rfl) (by kernel_rfl) (by kernel_rfl) (fun _ _ _ h => h) (Or.inl ⟨by rfl, fun W hW => by go_simp⟩) (by assumption) ?_
       simp only [Act.put, q1_, q2_, q3_, List.setIfInBounds_toArray, q5_, q6_]
       refine wpAnyH_ready (rs := [7]) (by kernel_rfl) (by simp) ?_
       refine AllReadyH.cons rfl (fun K hK => ?_) ?_
       ·refine step_store_agg 37 rfl rfl (g := vb) (off := n * 1024) (by rfl) J (by rfl) (by rw [hJl.out]; exact img_size) 37 cur hcur.out (by rw [hJl.out]; omega) hJ1.out ?_
        rw [hJl.out]
        have kS := Kept.setRow (S := fun j => j = vb) (Kept.refl _ w8.drew) rfl (cur.take (n * 1024) ++ (J ++ cur.drop (n * 1024 + 1024))).toArray
        refine hK.out _ _ ⟨kS.cell (show w8.drew.cell? ⟨wb, 2, none⟩ = _ from E8.out.run.c2) (fun e => E8.out.run.ne.2.1 e.symm), fun j v hj => kS.cell (show w8.drew.cell? ⟨tb, 0 + j, none⟩ = _ from tl.out j v hj) E8.out.ne.2.2.2.2⟩ (fun hS9 => ?_)
        clear hK K
        try simp only [Act.put, q1_, q2_, q3_, List.setIfInBounds_toArray, q5_, q6_]
        refine wpAnyH_done (by kernel_rfl) ?_ _
        clear hS hS9 kS
        go_wp2_with fail
        go_ret
        exact ⟨rfl, A5, Mw, is.set n i', rb, rc, vb, vc, by rw [(maps_set _ _ _).1, (maps_set _ _ _).2, hrs'.out, hws'.out, hrw.out.1, hrw.out.2]; have := R9.out; exact this, hRun.out, hsz.out⟩
       exact AllReadyH.nil
      ·cases e
       have hRun := h_ hRun
       have hsz := h_ hsz
       rw [hfr'.out] at hfree
       have hfree := h_ hfree
       rcases he with rfl | rfl
       ·have c0 := E7.out.run.c0
        have hPl := storePool E7.out.run.own.store
        rw [E7.out.run.eq] at hPl
        have hPl5 := h_ hPl
        have hFr := freeCount_any E7.out.run.own.store.pool
        rw [hfree.out] at hFr
        have hFr5 := h_ hFr
        clear hPl hFr
        go_wp2_with (first | (refine wpList_store_whole 37 rfl rfl rfl J rfl (by rw [hJl.out]; exact img_size) 37 I.toArray q6'.out (by simp [hIl.out, hJl.out]) hJ1.out ?_; rw [hw7'.out]))
        refine hPl5.out.mono ?_
        rintro e w2 ⟨rfl, rfl⟩
        go_wp2_with fail
        refine hFr5.out.mono ?_
        rintro e w2 ⟨rfl, rfl⟩
        go_wp2_with fail
        go_ret
        exact ⟨rfl, A5, Mw, is, rb, rc, vb, vc, by rw [hrs'.out, hws'.out]; exact E7.out.run, hRun.out, hsz.out⟩
       ·have c0 := E7.out.run.c0
        have hPl := storePool E7.out.run.own.store
        rw [E7.out.run.eq] at hPl
        have hPl5 := h_ hPl
        have hFr := freeCount_any E7.out.run.own.store.pool
        rw [hfree.out] at hFr
        have hFr5 := h_ hFr
        clear hPl hFr
        go_wp2_with (first | (refine wpList_store_whole 37 rfl rfl rfl J rfl (by rw [hJl.out]; exact img_size) 37 I.toArray q6'.out (by simp [hIl.out, hJl.out]) hJ1.out ?_; rw [hw7'.out]))
        refine hPl5.out.mono ?_
        rintro e w2 ⟨rfl, rfl⟩
        go_wp2_with fail
        refine hFr5.out.mono ?_
        rintro e w2 ⟨rfl, rfl⟩
        go_wp2_with fail
        go_ret
        exact ⟨rfl, A5, Mw, is, rb, rc, vb, vc, by rw [hrs'.out, hws'.out]; exact E7.out.run, hRun.out, hsz.out⟩
     | true =>
      have hbad := runs_clear_bad M.tidy r (badB_true hb)
      rw [hR'.out] at hbad
      cases hbad
      have c0 := E5.out.run.c0
      have hPl := storePool E5.out.run.own.store
      rw [E5.out.run.eq] at hPl
      have hPl5 := h_ hPl
      have hFr := freeCount_any E5.out.run.own.store.pool
      rw [hfr'.out] at hFr
      have hFr5 := h_ hFr
      clear hPl hFr
      go_wp2_with fail
      refine hPl5.out.mono ?_
      rintro e w2 ⟨rfl, rfl⟩
      go_wp2_with fail
      refine hFr5.out.mono ?_
      rintro e w2 ⟨rfl, rfl⟩
      go_wp2_with fail
      go_ret
      exact ⟨rfl, A5, M.tidy, is, rb, rc, vb, vc, by rw [hrs'.out, hws'.out]; exact E5.out.run, hP'.out.tidy.more, rfl⟩
  exact AllReadyH.nil
 by_cases hk2 : x.kind = 2
 ·rw [hk2] at g0
  clear hk0
  clear hk1
  clear hk2
  have d1 := E4'.out.run.c1
  by_cases h6 : 5 < rs.length
  ·have hd : decide ((5 : Int) < (rs.length : Int)) = true := by rw [decide_eq_true_eq]; omega
   go_wp2_with (first | (refine wpList_load_agg 37 rfl rfl rfl _ Tryz.underlying37 rfl I (by rw [hIl.out]; exact img_size) hwtA.out ?_) | (refine wpList_load_agg 37 rfl rfl rfl _ Tryz.underlying37 rfl I (by rw [hIl.out]; exact img_size) hwtB.out ?_) | (refine wpList_alloc_as 37 rfl rfl Z.toArray hZz.out ?_; rw [htb'.out]) | (refine wpList_store_whole 37 rfl rfl rfl I rfl (by rw [hIl.out]; exact img_size) 37 Z.toArray (by rw [← htb'.out]; exact heap_alloc_new _ _) (by simp [hZl.out, hIl.out]) hI1.out ?_; rw [hw4'.out]))
   go_ret
   exact ⟨rfl, A, M.tidy, is, rb, rc, vb, vc, by rw [hrs'.out, hws'.out]; exact E4'.out.run, hP'.out.tidy.more, rfl⟩
  ·have hd : decide ((5 : Int) < (rs.length : Int)) = false := by rw [decide_eq_false_iff_not]; omega
   have hcp := runs_copy hP'.out.tidy (by omega) hi'.out (by have := hlens.out.1; omega)
   rw [hr'.out] at hcp
   have hC0 := imageCopy E4'.out.run.own.store r
   have hro : (if r = -1 then r else if (M.tidy.hold r).2 = 0 then r else -1) = r := by
    by_cases e : r = -1
    ·rw [if_pos e]
    ·rw [if_neg e]
     have h0 := hcp.1
     rw [if_neg e] at h0
     rw [if_pos h0]
   rw [E4'.out.run.eq, hro, hcp.1] at hC0
   obtain ⟨Mc, hMc⟩ : ∃ Mc, (if r = -1 then M.tidy else (M.tidy.hold r).1) = Mc := ⟨_, rfl⟩
   rw [hMc] at hC0 hcp
   have hC0' := h_ hC0
   have hRun := h_ hcp.2.1
   have hsz := h_ hcp.2.2
   have ld := h_ E4'.out.run.load
   clear hC0 hcp hMc hro
   go_wp2_with (first | (refine wpList_load_agg 37 rfl rfl rfl _ Tryz.underlying37 rfl I (by rw [hIl.out]; exact img_size) hwtA.out ?_) | (refine wpList_load_agg 37 rfl rfl rfl _ Tryz.underlying37 rfl I (by rw [hIl.out]; exact img_size) hwtB.out ?_) | (refine wpList_alloc_as 37 rfl rfl Z.toArray hZz.out ?_; rw [htb'.out]) | (refine wpList_store_whole 37 rfl rfl rfl I rfl (by rw [hIl.out]; exact img_size) 37 Z.toArray (by rw [← htb'.out]; exact heap_alloc_new _ _) (by simp [hZl.out, hIl.out]) hI1.out ?_; rw [hw4'.out]) | (refine wpList_load_agg 32 rfl rfl rfl _ Tryz.underlying32 rfl [.pointer (some ⟨sb, 0, none⟩)] (by kernel_rfl) ld.out ?_))
   refine hC0'.out.mono ?_
   rintro e w5 ⟨rfl, hT5⟩
   have E5 := h_ (E4'.out.to hT5)
   clear hT5 hC0' d1 ld
   obtain ⟨w6, hw6⟩ : ∃ w6, w5.alloc (.cells #[.int .i64 r] 3) = w6 := ⟨_, rfl⟩
   have k6 : Kept (fun _ => False) w5 w6 := by rw [← hw6]; exact (Kept.refl _ _).alloc _
   have E6 := h_ (E5.out.fresh k6)
   have hsl6 : SliceAt w6 (.slice (some ⟨w5.heap.size, 0, none⟩) 1 1) 1 1 [.int .i64 r] := SliceAt.block_new (by rw [← hw6]; exact heap_alloc_new _ _) rfl (by decide)
   have hsl6 := h_ hsl6
   have hw6' := h_ hw6
   have d1 := E5.out.run.c1
   have d0 := E5.out.run.box
   have s6 : Hid (w0.heap.size ≤ w6.heap.size) := h_ E6.out.run.own.kept.size
   clear k6 hw6 d0
   go_wp2_with (at_builtin; rw [hw6'.out]; refine wpList_append_src rfl elemInt (.tmp 144) (.tmp 146) rfl (by rfl) (by rfl) E6.out.run.roots hsl6.out (by intro c hc; simp at hc; subst hc; rfl) (by omega) (by omega) s6.out ?_; intro v7 w7 hown7 hg7 hat7; obtain ⟨g7, cap7, rfl, hgr7, m7, f7, R7⟩ := E6.out.run.pushRoot hown7 hg7 hat7)
   obtain ⟨w8, hw8⟩ : ∃ w8, w7.setCell ⟨wb, 1, none⟩ (.slice (some ⟨g7, 0, none⟩) (rs.length + 1) cap7) = w8 := ⟨_, rfl⟩
   rw [hw8] at R7 ⊢
   have kg : Kept (fun i => i = rb) w6 w7 := (Kept.of_grown hg7).mono fun i e => by simp [Value.ownBlock] at e; exact e.symm
   have k8 : Kept (fun i => i = wb) w7 w8 := by rw [← hw8]; exact Kept.setCell (S := fun i => i = wb) (Kept.refl _ _) (p := ⟨wb, 1, none⟩) rfl _
   have t8 : w8.heap[tb]? = some (.cells I.toArray 37 (0, 0)) := k8.get (kg.get (by rw [← hI'.out]; exact E6.out.tbox) E6.out.ne.2.2.2.1) E6.out.ne.2.2.1
   have tap8 : Apart w8 A tb := (E6.out.tap.kept kg).kept k8
   obtain ⟨w9, hw9⟩ : ∃ w9, w8.drew.alloc (.cells I.toArray 37) = w9 := ⟨_, rfl⟩
   have k9 : Kept (fun _ => False) w8 w9 := by rw [← hw9]; exact (Kept.refl _ _).drew.alloc _
   have R9 := h_ (R7.fresh k9)
   have t9 := k9.get t8 id
   have tl8 : Hid (∀ j v, I[j]? = some v → w8.drew.cell? ⟨tb, 0 + j, none⟩ = some v) := h_ (fun j v hj => by show w8.cell? _ = _; rw [Nat.zero_add, cell_of_heap t8]; simpa using hj)
   have hsl9 : Hid (SliceAt w9 (.slice (some ⟨w8.drew.heap.size, 0, none⟩) 1 1) 1024 1 I) := h_ (SliceAt.block_new (by rw [← hw9]; exact heap_alloc_new _ _) (by rw [hIl.out]) (by decide))
   have cA : w8.drew.cell? ⟨wb, 2, none⟩ = some (.slice (some ⟨vb, 0, none⟩) ws.length vc) := R7.c2
   have cA' := R7.c2
   have cB := R9.out.c2
   have hw9' := h_ hw9
   have hs9 : Hid (w0.heap.size ≤ w9.heap.size) := h_ R9.out.own.kept.size
   clear hg7 hat7 hown7 hw8 kg k8 t8 tap8 hw9 k9 t9 m7 f7 hsl6 s6 hw6' E6 R7 hgr7 d1
   refine wp_region_any (by kernel_rfl) ?_
   change wpAny _ _ _ _ _ _ _ (World.drew _)
   refine wpAny_take (i := 0) (v := .pointer (some ⟨wb, 0, none⟩)) rfl (by kernel_rfl) (by kernel_rfl) (by kernel_rfl) (fun _ _ _ h => h) (.inl ⟨by rfl, fun w => by go_simp⟩) ?_
   simp only [Act.put, q1_, q2_, q3_, List.setIfInBounds_toArray, q5_, q6_]
   refine wpAny_take (i := 1) (v := .pointer (some ⟨wb, 0, none⟩)) rfl (by kernel_rfl) (by kernel_rfl) (by kernel_rfl) (fun _ _ _ h => h) (.inl ⟨by rfl, fun w => by go_simp⟩) ?_
   simp only [Act.put, q1_, q2_, q3_, List.setIfInBounds_toArray, q5_, q6_]
   refine wpAny_take (i := 2) (v := .pointer (some ⟨wb, 0, none⟩)) rfl (by kernel_rfl) (by kernel_rfl) (by kernel_rfl) (fun _ _ _ h => h) (.inl ⟨by rfl, fun w => by go_simp⟩) ?_
   simp only [Act.put, q1_, q2_, q3_, List.setIfInBounds_toArray, q5_, q6_]
   refine wpAny_take (i := 3) (v := .pointer (some ⟨wb, 2, none⟩)) rfl (by kernel_rfl) (by kernel_rfl) (by kernel_rfl) (fun _ _ _ h => h) (.inl ⟨by rfl, fun w => by go_simp⟩) ?_
   simp only [Act.put, q1_, q2_, q3_, List.setIfInBounds_toArray, q5_, q6_]
   refine wpAny_ready (rs := [4, 5]) (by kernel_rfl) (by simp) ?_
   refine AllReady.cons rfl (fun K hK => ?_) ?_
   ·rw [if_pos (by rfl)]
    simp only [Go.wp_at_zero, Go.wp_at_succ]
    go_simp
    refine hK _ _ ?_
    clear hK K
    try simp only [Act.put, q1_, q2_, q3_, List.setIfInBounds_toArray, q5_, q6_]
    refine wpAny_ready (rs := [5]) (by kernel_rfl) (by simp) ?_
    refine AllReady.cons rfl (fun K hK => ?_) ?_
    ·rw [if_pos (by rfl)]
     simp only [Go.wp_at_zero, Go.wp_at_succ]
     refine wp_exec (exec_load_agg (ty := 37) (x := .tmp 11) rfl (g := tb) (off := 0) (by rfl) I Tryz.underlying37 rfl (by rw [hIl.out]; exact img_size) tl8.out) ?_
     refine hK _ _ ?_
     clear hK K
     try simp only [Act.put, q1_, q2_, q3_, List.setIfInBounds_toArray, q5_, q6_]
     refine wpAny_ready (rs := [6]) (by kernel_rfl) (by simp) ?_
     refine AllReady.cons rfl (fun K hK => ?_) ?_
     ·rw [if_pos (by rfl)]
      simp only [Go.wp_at_zero, Go.wp_at_succ]
      refine wp_exec (exec_buildSlice 101 1 #[(0, .tmp 155)] _ rfl (by simp [Act.eval]) (run_buildSlice_img _ hIl.out)) ?_
      rw [hw9'.out]
      refine hK _ _ ?_
      clear hK K
      try simp only [Act.put, q1_, q2_, q3_, List.setIfInBounds_toArray, q5_, q6_]
      refine wpAny_ready (rs := [7]) (by kernel_rfl) (by simp) ?_
      refine AllReady.cons rfl (fun K hK => ?_) ?_
      ·refine step_append_big rfl elemImg (.tmp 154) (.tmp 156) rfl (by rfl) (by rfl) R9.out.wants hsl9.out hI1.out (by omega) (by omega) hs9.out (by decide) ?_
       intro v10 w10 hown10 hg10 hat10
       rw [← hI'.out] at hown10
       obtain ⟨g10, cap10, rfl, hgr10, m10, f10, R10⟩ := R9.out.pushWant hown10 hg10 hat10
       have R10 := h_ R10
       clear hown10 hg10 hat10
       refine hK _ _ ?_
       clear hK K
       try simp only [Act.put, q1_, q2_, q3_, List.setIfInBounds_toArray, q5_, q6_]
       refine wpAny_take (i := 8) (v := .pointer (some ⟨wb, 0, none⟩)) rfl (by kernel_rfl) (by kernel_rfl) (by kernel_rfl) (fun _ _ _ h => h) (.inl ⟨by rfl, fun w => by go_simp⟩) ?_
       simp only [Act.put, q1_, q2_, q3_, List.setIfInBounds_toArray, q5_, q6_]
       refine wpAny_take (i := 9) (v := .pointer (some ⟨wb, 2, none⟩)) rfl (by kernel_rfl) (by kernel_rfl) (by kernel_rfl) (fun _ _ _ h => h) (.inl ⟨by rfl, fun w => by go_simp⟩) ?_
       simp only [Act.put, q1_, q2_, q3_, List.setIfInBounds_toArray, q5_, q6_]
       refine wpAny_ready (rs := [10]) (by kernel_rfl) (by simp) ?_
       refine AllReady.cons rfl (fun K hK => ?_) ?_
       ·rw [if_pos (by rfl)]
        simp only [Go.wp_at_zero, Go.wp_at_succ]
        go_simp
        refine hK _ _ ?_
        clear hK K
        try simp only [Act.put, q1_, q2_, q3_, List.setIfInBounds_toArray, q5_, q6_]
        refine wpAny_done (by kernel_rfl) ?_ _
        go_wp2_with fail
        go_ret
        exact ⟨rfl, A, Mc, is ++ [i], g7, cap7, g10, cap10, by have h9 := R10.out; rw [List.map_append, List.map_append, hrs'.out, hws'.out]; simp only [List.map_cons, List.map_nil]; rw [hr'.out, hf'.out]; exact h9, hRun.out, hsz.out⟩
       exact AllReady.nil
      exact AllReady.nil
     exact AllReady.nil
    exact AllReady.nil
   refine AllReady.cons rfl (fun K hK => ?_) ?_
   ·rw [if_pos (by rfl)]
    simp only [Go.wp_at_zero, Go.wp_at_succ]
    refine wp_exec (exec_load_agg (ty := 37) (x := .tmp 11) rfl (g := tb) (off := 0) (by rfl) I Tryz.underlying37 rfl (by rw [hIl.out]; exact img_size) tl8.out) ?_
    refine hK _ _ ?_
    clear hK K
    try simp only [Act.put, q1_, q2_, q3_, List.setIfInBounds_toArray, q5_, q6_]
    refine wpAny_ready (rs := [4, 6]) (by kernel_rfl) (by simp) ?_
    refine AllReady.cons rfl (fun K hK => ?_) ?_
    ·rw [if_pos (by rfl)]
     simp only [Go.wp_at_zero, Go.wp_at_succ]
     go_simp
     refine hK _ _ ?_
     clear hK K
     try simp only [Act.put, q1_, q2_, q3_, List.setIfInBounds_toArray, q5_, q6_]
     refine wpAny_ready (rs := [6]) (by kernel_rfl) (by simp) ?_
     refine AllReady.cons rfl (fun K hK => ?_) ?_
     ·rw [if_pos (by rfl)]
      simp only [Go.wp_at_zero, Go.wp_at_succ]
      refine wp_exec (exec_buildSlice 101 1 #[(0, .tmp 155)] _ rfl (by simp [Act.eval]) (run_buildSlice_img _ hIl.out)) ?_
      rw [hw9'.out]
      refine hK _ _ ?_
      clear hK K
      try simp only [Act.put, q1_, q2_, q3_, List.setIfInBounds_toArray, q5_, q6_]
      refine wpAny_ready (rs := [7]) (by kernel_rfl) (by simp) ?_
      refine AllReady.cons rfl (fun K hK => ?_) ?_
      ·refine step_append_big rfl elemImg (.tmp 154) (.tmp 156) rfl (by rfl) (by rfl) R9.out.wants hsl9.out hI1.out (by omega) (by omega) hs9.out (by decide) ?_
       intro v10 w10 hown10 hg10 hat10
       rw [← hI'.out] at hown10
       obtain ⟨g10, cap10, rfl, hgr10, m10, f10, R10⟩ := R9.out.pushWant hown10 hg10 hat10
       have R10 := h_ R10
       clear hown10 hg10 hat10
       refine hK _ _ ?_
       clear hK K
       try simp only [Act.put, q1_, q2_, q3_, List.setIfInBounds_toArray, q5_, q6_]
       refine wpAny_take (i := 8) (v := .pointer (some ⟨wb, 0, none⟩)) rfl (by kernel_rfl) (by kernel_rfl) (by kernel_rfl) (fun _ _ _ h => h) (.inl ⟨by rfl, fun w => by go_simp⟩) ?_
       simp only [Act.put, q1_, q2_, q3_, List.setIfInBounds_toArray, q5_, q6_]
       refine wpAny_take (i := 9) (v := .pointer (some ⟨wb, 2, none⟩)) rfl (by kernel_rfl) (by kernel_rfl) (by kernel_rfl) (fun _ _ _ h => h) (.inl ⟨by rfl, fun w => by go_simp⟩) ?_
       simp only [Act.put, q1_, q2_, q3_, List.setIfInBounds_toArray, q5_, q6_]
       refine wpAny_ready (rs := [10]) (by kernel_rfl) (by simp) ?_
       refine AllReady.cons rfl (fun K hK => ?_) ?_
       ·rw [if_pos (by rfl)]
        simp only [Go.wp_at_zero, Go.wp_at_succ]
        go_simp
        refine hK _ _ ?_
        clear hK K
        try simp only [Act.put, q1_, q2_, q3_, List.setIfInBounds_toArray, q5_, q6_]
        refine wpAny_done (by kernel_rfl) ?_ _
        go_wp2_with fail
        go_ret
        exact ⟨rfl, A, Mc, is ++ [i], g7, cap7, g10, cap10, by have h9 := R10.out; rw [List.map_append, List.map_append, hrs'.out, hws'.out]; simp only [List.map_cons, List.map_nil]; rw [hr'.out, hf'.out]; exact h9, hRun.out, hsz.out⟩
       exact AllReady.nil
      exact AllReady.nil
     exact AllReady.nil
    refine AllReady.cons rfl (fun K hK => ?_) ?_
    ·rw [if_pos (by rfl)]
     simp only [Go.wp_at_zero, Go.wp_at_succ]
     refine wp_exec (exec_buildSlice 101 1 #[(0, .tmp 155)] _ rfl (by simp [Act.eval]) (run_buildSlice_img _ hIl.out)) ?_
     rw [hw9'.out]
     refine hK _ _ ?_
     clear hK K
     try simp only [Act.put, q1_, q2_, q3_, List.setIfInBounds_toArray, q5_, q6_]
     refine wpAny_ready (rs := [4]) (by kernel_rfl) (by simp) ?_
     refine AllReady.cons rfl (fun K hK => ?_) ?_
     ·rw [if_pos (by rfl)]
      simp only [Go.wp_at_zero, Go.wp_at_succ]
      go_simp
      refine hK _ _ ?_
      clear hK K
      try simp only [Act.put, q1_, q2_, q3_, List.setIfInBounds_toArray, q5_, q6_]
      refine wpAny_ready (rs := [7]) (by kernel_rfl) (by simp) ?_
      refine AllReady.cons rfl (fun K hK => ?_) ?_
      ·refine step_append_big rfl elemImg (.tmp 154) (.tmp 156) rfl (by rfl) (by rfl) R9.out.wants hsl9.out hI1.out (by omega) (by omega) hs9.out (by decide) ?_
       intro v10 w10 hown10 hg10 hat10
       rw [← hI'.out] at hown10
       obtain ⟨g10, cap10, rfl, hgr10, m10, f10, R10⟩ := R9.out.pushWant hown10 hg10 hat10
       have R10 := h_ R10
       clear hown10 hg10 hat10
       refine hK _ _ ?_
       clear hK K
       try simp only [Act.put, q1_, q2_, q3_, List.setIfInBounds_toArray, q5_, q6_]
       refine wpAny_take (i := 8) (v := .pointer (some ⟨wb, 0, none⟩)) rfl (by kernel_rfl) (by kernel_rfl) (by kernel_rfl) (fun _ _ _ h => h) (.inl ⟨by rfl, fun w => by go_simp⟩) ?_
       simp only [Act.put, q1_, q2_, q3_, List.setIfInBounds_toArray, q5_, q6_]
       refine wpAny_take (i := 9) (v := .pointer (some ⟨wb, 2, none⟩)) rfl (by kernel_rfl) (by kernel_rfl) (by kernel_rfl) (fun _ _ _ h => h) (.inl ⟨by rfl, fun w => by go_simp⟩) ?_
       simp only [Act.put, q1_, q2_, q3_, List.setIfInBounds_toArray, q5_, q6_]
       refine wpAny_ready (rs := [10]) (by kernel_rfl) (by simp) ?_
       refine AllReady.cons rfl (fun K hK => ?_) ?_
       ·rw [if_pos (by rfl)]
        simp only [Go.wp_at_zero, Go.wp_at_succ]
        go_simp
        refine hK _ _ ?_
        clear hK K
        try simp only [Act.put, q1_, q2_, q3_, List.setIfInBounds_toArray, q5_, q6_]
        refine wpAny_done (by kernel_rfl) ?_ _
        go_wp2_with fail
        go_ret
        exact ⟨rfl, A, Mc, is ++ [i], g7, cap7, g10, cap10, by have h9 := R10.out; rw [List.map_append, List.map_append, hrs'.out, hws'.out]; simp only [List.map_cons, List.map_nil]; rw [hr'.out, hf'.out]; exact h9, hRun.out, hsz.out⟩
       exact AllReady.nil
      exact AllReady.nil
     exact AllReady.nil
    exact AllReady.nil
   exact AllReady.nil
 by_cases hk3 : x.kind = 3
 ·rw [hk3] at g0
  clear hk0
  clear hk1
  clear hk2
  clear hk3
  have hdr := runs_drop hP'.out.tidy hi'.out
  rw [hr'.out] at hdr
  have hZ' : Hid (List.replicate 1024 (Value.int .u8 0) = Z) := hZ0
  have hbz : Hid (∀ w, (Instr.build 37 #[]).run Tryz.prog w = .ok (.agg Z.toArray) w) := h_ (fun w => by rw [← hZ'.out]; exact run_build_img w)
  by_cases hr0 : r = -1
  ·rw [if_pos hr0, if_pos hr0] at hdr
   have hRun := h_ hdr.2.1
   have hsz := h_ hdr.2.2
   subst hr0
   clear hdr
   obtain ⟨w8, hw8⟩ : ∃ w8, w4.setCell ⟨rb, n, none⟩ (.int .i64 (-1)) = w8 := ⟨_, rfl⟩
   have E8 := E4'.out.root (show n < rs.length by omega) (-1)
   rw [hw8] at E8
   have E8 := h_ E8
   have m1 := E4'.out.run.c1
   have m2 := (E4'.out.run.root hrn.out).1
   have m3 := (E4'.out.run.root hrn.out).2
   have m4 := E8.out.run.c2
   obtain ⟨cur, hcur, hcl, R9⟩ := E8.out.run.setWant hBw.out (show n < ws.length by omega) Bytes.zero
   rw [zero_cells, hZ'.out] at R9
   have hcur := h_ hcur
   obtain ⟨w9, hw9⟩ : ∃ w9, w8.setRow vb (cur.take (n * 1024) ++ (Z ++ cur.drop (n * 1024 + 1024))).toArray = w9 := ⟨_, rfl⟩
   rw [hw9] at R9
   have R9 := h_ R9
   have hw9' := h_ hw9
   clear hw9
   have hZ1 : Hid (∀ v ∈ Z, v.oneCell' = true) := h_ (by rw [← hZ'.out, ← zero_cells]; exact byteCells_one _)
   go_wp2_with (first | (refine wpList_exec rfl (exec_build 37 #[] _ rfl (by simp [Act.eval]) (hbz.out _)) ?_) | (refine wpList_store_agg 37 rfl rfl (g := vb) (off := n * 1024) (by rfl) Z rfl (by rw [hZl.out]; exact img_size) 37 cur.toArray hcur.out (by simp only [List.size_toArray, hZl.out]; omega) hZ1.out ?_; rw [hZl.out]; simp only [List.append_assoc]; rw [hw9'.out]) | (refine wpList_load_agg 37 rfl rfl rfl _ Tryz.underlying37 rfl I (by rw [hIl.out]; exact img_size) hwtA.out ?_) | (refine wpList_load_agg 37 rfl rfl rfl _ Tryz.underlying37 rfl I (by rw [hIl.out]; exact img_size) hwtB.out ?_) | (refine wpList_alloc_as 37 rfl rfl Z.toArray hZz.out ?_; rw [htb'.out]) | (refine wpList_store_whole 37 rfl rfl rfl I rfl (by rw [hIl.out]; exact img_size) 37 Z.toArray (by rw [← htb'.out]; exact heap_alloc_new _ _) (by simp [hZl.out, hIl.out]) hI1.out ?_; rw [hw4'.out]))
   go_ret
   exact ⟨rfl, A, M.tidy, is.set n .none, rb, rc, vb, vc, by rw [(maps_set _ _ _).1, (maps_set _ _ _).2, hrs'.out, hws'.out]; exact R9.out, hRun.out, rfl⟩
  ·rw [if_neg hr0, if_neg hr0] at hdr
   have herr := hdr.1
   have hRun := h_ hdr.2.1
   have hsz := h_ hdr.2.2
   have hrb : (r == -1) = false := by rw [beq_eq_false_iff_ne]; exact hr0
   have hrc : (r != -1) = true := by simp [bne, hrb]
   have hrd : decide (r = -1) = false := decide_eq_false hr0
   have hre : (!(r == -1)) = true := by rw [hrb]; rfl
   have hD := storeDrop E4'.out.run.own.store r
   rw [E4'.out.run.eq, herr] at hD
   have hD' := h_ hD
   clear hdr herr hD hr0
   have d0 := E4'.out.run.c0
   go_wp2_with (first | (refine wpList_load_agg 37 rfl rfl rfl _ Tryz.underlying37 rfl I (by rw [hIl.out]; exact img_size) hwtA.out ?_) | (refine wpList_load_agg 37 rfl rfl rfl _ Tryz.underlying37 rfl I (by rw [hIl.out]; exact img_size) hwtB.out ?_) | (refine wpList_alloc_as 37 rfl rfl Z.toArray hZz.out ?_; rw [htb'.out]) | (refine wpList_store_whole 37 rfl rfl rfl I rfl (by rw [hIl.out]; exact img_size) 37 Z.toArray (by rw [← htb'.out]; exact heap_alloc_new _ _) (by simp [hZl.out, hIl.out]) hI1.out ?_; rw [hw4'.out]))
   clear S3 q3 xap3 hwtA hwtB e1 hw4' htb'
   refine hD'.out.mono ?_
   rintro e w5 ⟨rfl, hT5⟩
   have E5 := h_ (E4'.out.to hT5)
   clear hT5 hD' d0
   obtain ⟨w8, hw8⟩ : ∃ w8, w5.setCell ⟨rb, n, none⟩ (.int .i64 (-1)) = w8 := ⟨_, rfl⟩
   have E8 := E5.out.root (show n < rs.length by omega) (-1)
   rw [hw8] at E8
   have E8 := h_ E8
   have m1 := E5.out.run.c1
   have m2 := (E5.out.run.root hrn.out).1
   have m3 := (E5.out.run.root hrn.out).2
   have m4 := E8.out.run.c2
   obtain ⟨cur, hcur, hcl, R9⟩ := E8.out.run.setWant hBw.out (show n < ws.length by omega) Bytes.zero
   rw [zero_cells, hZ'.out] at R9
   have hcur := h_ hcur
   obtain ⟨w9, hw9⟩ : ∃ w9, w8.setRow vb (cur.take (n * 1024) ++ (Z ++ cur.drop (n * 1024 + 1024))).toArray = w9 := ⟨_, rfl⟩
   rw [hw9] at R9
   have R9 := h_ R9
   have hw9' := h_ hw9
   clear hw9
   have hZ1 : Hid (∀ v ∈ Z, v.oneCell' = true) := h_ (by rw [← hZ'.out, ← zero_cells]; exact byteCells_one _)
   go_wp2_with (first | (refine wpList_exec rfl (exec_build 37 #[] _ rfl (by simp [Act.eval]) (hbz.out _)) ?_) | (refine wpList_store_agg 37 rfl rfl (g := vb) (off := n * 1024) (by rfl) Z rfl (by rw [hZl.out]; exact img_size) 37 cur.toArray hcur.out (by simp only [List.size_toArray, hZl.out]; omega) hZ1.out ?_; rw [hZl.out]; simp only [List.append_assoc]; rw [hw9'.out]))
   go_ret
   exact ⟨rfl, A, _, is.set n .none, rb, rc, vb, vc, by rw [(maps_set _ _ _).1, (maps_set _ _ _).2, hrs'.out, hws'.out]; exact R9.out, hRun.out, hsz.out⟩
 by_cases hk4 : x.kind = 4
 ·rw [hk4] at g0
  clear hk0
  clear hk1
  clear hk2
  clear hk3
  clear hk4
  have d0 := E4'.out.run.c0
  have hPl := storePool E4'.out.run.own.store
  rw [E4'.out.run.eq] at hPl
  have hPl' := h_ hPl
  clear hPl
  go_wp2_with (first | (refine wpList_load_agg 37 rfl rfl rfl _ Tryz.underlying37 rfl I (by rw [hIl.out]; exact img_size) hwtA.out ?_) | (refine wpList_load_agg 37 rfl rfl rfl _ Tryz.underlying37 rfl I (by rw [hIl.out]; exact img_size) hwtB.out ?_) | (refine wpList_alloc_as 37 rfl rfl Z.toArray hZz.out ?_; rw [htb'.out]) | (refine wpList_store_whole 37 rfl rfl rfl I rfl (by rw [hIl.out]; exact img_size) 37 Z.toArray (by rw [← htb'.out]; exact heap_alloc_new _ _) (by simp [hZl.out, hIl.out]) hI1.out ?_; rw [hw4'.out]))
  clear S3 q3 xap3 hwtA hwtB e1 hw4' htb'
  refine hPl'.out.mono ?_
  rintro e w2 ⟨rfl, rfl⟩
  go_wp2_with fail
  refine (commit_any E4'.out.run.own.store.pool).mono ?_
  rintro e w5 ⟨rfl, hpt⟩
  have hT5 : StoreTo A A M.tidy.commit w4 w5 := E4'.out.run.own.store.pooled hpt rfl
  have S5 := h_ (E4'.out.run.to hT5)
  clear hpt hT5
  go_wp2_with fail
  go_ret
  have h := hP'.out.tidy
  exact ⟨rfl, A, M.tidy.commit, is, rb, rc, vb, vc, by rw [hrs'.out, hws'.out]; exact S5.out, ⟨h.imgs.commit, h.bytes, fun i hi => Nat.le_succ_of_le (h.puts i hi), h.pos, h.six, by have := h.log; show M.tidy.log.length ≤ _; omega⟩, rfl⟩
 have hkind' := h_ (And.intro hk0 (And.intro hk1 (And.intro hk2 (And.intro hk3 hk4))))
 clear hk0 hk1 hk2 hk3 hk4
 have hb0 : (x.kind == 0) = false := by rw [beq_eq_false_iff_ne]; exact hkind'.out.1
 have hb1 : (x.kind == 1) = false := by rw [beq_eq_false_iff_ne]; exact hkind'.out.2.1
 have hb2 : (x.kind == 2) = false := by rw [beq_eq_false_iff_ne]; exact hkind'.out.2.2.1
 have hb3 : (x.kind == 3) = false := by rw [beq_eq_false_iff_ne]; exact hkind'.out.2.2.2.1
 have hb4 : (x.kind == 4) = false := by rw [beq_eq_false_iff_ne]; exact hkind'.out.2.2.2.2
 have hBg : Hid (Bytes f) := hBf
 obtain ⟨J, hJ⟩ : ∃ J, imgCells f = J := ⟨_, rfl⟩
 have hJl : Hid (J.length = 1024) := h_ (by rw [← hJ]; exact imgCells_len hBg.out)
 have hJ1 : Hid (∀ v ∈ J, v.oneCell' = true) := h_ (by rw [← hJ]; exact byteCells_one _)
 have hJe := h_ hJ
 clear hJ
 obtain ⟨w8, hw8⟩ : ∃ w8, w4.setCell ⟨rb, n, none⟩ (.int .i64 r) = w8 := ⟨_, rfl⟩
 have E8 := E4'.out.root (show n < rs.length by omega) r
 rw [hw8] at E8
 have E8 := h_ E8
 have m1 := E4'.out.run.c1
 have m2 := (E4'.out.run.root hrn.out).1
 have m3 := (E4'.out.run.root hrn.out).2
 go_wp2_with (first | (refine wpList_load_agg 37 rfl rfl rfl _ Tryz.underlying37 rfl I (by rw [hIl.out]; exact img_size) hwtA.out ?_) | (refine wpList_load_agg 37 rfl rfl rfl _ Tryz.underlying37 rfl I (by rw [hIl.out]; exact img_size) hwtB.out ?_) | (refine wpList_alloc_as 37 rfl rfl Z.toArray hZz.out ?_; rw [htb'.out]) | (refine wpList_store_whole 37 rfl rfl rfl I rfl (by rw [hIl.out]; exact img_size) 37 Z.toArray (by rw [← htb'.out]; exact heap_alloc_new _ _) (by simp [hZl.out, hIl.out]) hI1.out ?_; rw [hw4'.out]))
 clear S3 q3 xap3 hwtA hwtB e1 hw4' htb'
 try rw [hw8]
 clear m1 m2 m3 hw8
 obtain ⟨cur, hcur, hcl, R9⟩ := (E8.out.run.fresh ((Kept.refl (fun _ => False) w8).drew)).setWant hBw.out (show n < ws.length by omega) hBf.out
 rw [hJe.out] at R9
 have R9 := h_ R9
 have hcur := h_ hcur
 have tl := E8.out.tload
 rw [hJe.out] at tl
 have tl := h_ tl
 refine wp_region_held_drew (S := fun W => W.cell? ⟨wb, 2, none⟩ = some (.slice (some ⟨vb, 0, none⟩) ws.length vc) ∧ ∀ j v, J[j]? = some v → W.cell? ⟨tb, 0 + j, none⟩ = some v) (by kernel_rfl) ⟨E8.out.run.c2, tl.out⟩ (fun hS => ?_)
 refine wpAnyH_take (i := 0) (v := .pointer (some ⟨wb, 0, none⟩)) rfl (by kernel_rfl) (by kernel_rfl) (by kernel_rfl) (fun _ _ _ h => h) (Or.inl ⟨by rfl, fun W hW => by go_simp⟩) (by assumption) ?_
 simp only [Act.put, q1_, q2_, q3_, List.setIfInBounds_toArray, q5_, q6_]
 refine wpAnyH_take (i := 1) (v := .pointer (some ⟨wb, 0, none⟩)) rfl (by kernel_rfl) (by kernel_rfl) (by kernel_rfl) (fun _ _ _ h => h) (Or.inl ⟨by rfl, fun W hW => by go_simp⟩) (by assumption) ?_
 simp only [Act.put, q1_, q2_, q3_, List.setIfInBounds_toArray, q5_, q6_]
 refine wpAnyH_take (i := 2) (v := .pointer (some ⟨wb, 2, none⟩)) rfl (by kernel_rfl) (by kernel_rfl) (by kernel_rfl) (fun _ _ _ h => h) (Or.inl ⟨by rfl, fun W hW => by go_simp⟩) (by assumption) ?_
 simp only [Act.put, q1_, q2_, q3_, List.setIfInBounds_toArray, q5_, q6_]
 refine wpAnyH_take (i := 3) (v := .slice (some ⟨vb, 0, none⟩) ws.length vc) rfl (by kernel_rfl) (by kernel_rfl) (by kernel_rfl) (fun _ _ _ h => h) (Or.inl ⟨by rfl, fun W hW => by have hc := hW.1; clear hW; go_simp⟩) (by assumption) ?_
 simp only [Act.put, q1_, q2_, q3_, List.setIfInBounds_toArray, q5_, q6_]
 refine wpAnyH_take (i := 4) (v := .int .i64 (n : Int)) rfl (by kernel_rfl) (by kernel_rfl) (by kernel_rfl) (fun _ _ _ h => h) (Or.inl ⟨by rfl, fun W hW => by go_simp⟩) (by assumption) ?_
 simp only [Act.put, q1_, q2_, q3_, List.setIfInBounds_toArray, q5_, q6_]
 refine wpAnyH_take (i := 5) (v := .agg J.toArray) rfl (by kernel_rfl) (by kernel_rfl) (by kernel_rfl) (fun _ _ _ h => h) (Or.inl ⟨by rfl, fun W hW => exec_load_agg rfl (by rfl) J Tryz.underlying37 rfl (by rw [hJl.out]; exact img_size) hW.2⟩) (by assumption) ?_
 simp only [Act.put, q1_, q2_, q3_, List.setIfInBounds_toArray, q5_, q6_]
 refine wpAnyH_take (i := 6) (v := .pointer (some ⟨vb, n * 1024, none⟩)) rfl (by kernel_rfl) (by kernel_rfl) (by kernel_rfl) (fun _ _ _ h => h) (Or.inl ⟨by rfl, fun W hW => by go_simp⟩) (by assumption) ?_
 simp only [Act.put, q1_, q2_, q3_, List.setIfInBounds_toArray, q5_, q6_]
 refine wpAnyH_ready (rs := [7]) (by kernel_rfl) (by simp) ?_
 refine AllReadyH.cons rfl (fun K hK => ?_) ?_
 ·refine step_store_agg 37 rfl rfl (g := vb) (off := n * 1024) (by rfl) J (by rfl) (by rw [hJl.out]; exact img_size) 37 cur hcur.out (by rw [hJl.out]; omega) hJ1.out ?_
  rw [hJl.out]
  have kS := Kept.setRow (S := fun j => j = vb) (Kept.refl _ w8.drew) rfl (cur.take (n * 1024) ++ (J ++ cur.drop (n * 1024 + 1024))).toArray
  refine hK.out _ _ ⟨kS.cell (show w8.drew.cell? ⟨wb, 2, none⟩ = _ from E8.out.run.c2) (fun e => E8.out.run.ne.2.1 e.symm), fun j v hj => kS.cell (show w8.drew.cell? ⟨tb, 0 + j, none⟩ = _ from tl.out j v hj) E8.out.ne.2.2.2.2⟩ (fun hS9 => ?_)
  clear hK K
  try simp only [Act.put, q1_, q2_, q3_, List.setIfInBounds_toArray, q5_, q6_]
  refine wpAnyH_done (by kernel_rfl) ?_ _
  clear hS hS9 kS
  go_wp2_with fail
  go_ret
  exact ⟨rfl, A, M.tidy, is, rb, rc, vb, vc, by have h9 := R9.out; rw [set_same hrn.out, set_same hwn.out] at h9; rw [hrs'.out, hws'.out]; exact h9, hP'.out.tidy.more, rfl⟩
 exact AllReadyH.nil
end Go.Proofs.YtidlchciehdefaaGreat
/-
 Nodes in a store: what can be reached: the walk.
-/
namespace Go.Proofs.YtidlchciehdefaaGreat
open Go.RowKit Go.Maps
set_option maxRecDepth 100000

set_option maxHeartbeats 8000000 in
theorem reachAny {w : World} {A : SA} {M : SM} (h : StoreAt w A M) {v : Value} {l : List Int} (hv : SliceAt w v 1 l.length (l.map (Value.int .i64))) (hn : l.length ≤ 1000) (hwf : ∀ x ∈ l, -9223372036854775808 ≤ x ∧ x ≤ 9223372036854775807) :
  Calls Tryz.prog 94 #[.pointer (some ⟨A.sb, 0, none⟩), v] w fun e w' => ∃ u, e = .returned (.tuple #[u, .int .i64 (M.reach l).2]) ∧
   w'.ownsRow w.heap.size 3 1 u (M.reach l).1.length ((M.reach l).1.map (Value.int .i64)) ∧ Kept (fun _ => False) w w' := by
 have K : Keyed Tryz.prog 3 := int_keyed Tryz.underlying3
 obtain ⟨R, hR⟩ : ∃ R, M.reachF (1700 + l.length) [] l = R := ⟨_, rfl⟩
 have hreach : Hid (M.reach l = if R.2 = 0 then (R.1.mergeSort leB, 0) else ([], R.2)) := h_ (by unfold SM.reach; rw [hR])
 obtain ⟨Z, hZ⟩ : ∃ Z, nodeCells NM.zero (.slice none 0 0) = Z := ⟨_, rfl⟩
 have hZz : Hid ((Tryz.prog.info? 115).map (·.zero) = some (some (.agg Z.toArray))) := h_ (by rw [← hZ]; exact node_zero)
 have hZl : Hid (Z.length = 18) := h_ (by rw [← hZ]; exact nodeCells_len _ _)
 obtain ⟨mb, hmb⟩ : ∃ mb, w.heap.size = mb := ⟨_, rfl⟩
 obtain ⟨w1, hw1⟩ : ∃ w1, w.alloc (.map #[] 0) = w1 := ⟨_, rfl⟩
 have k1 : Kept (fun _ => False) w w1 := by rw [← hw1]; exact (Kept.refl _ _).alloc _
 have s1 : w1.heap.size = mb + 1 := by rw [← hw1, ← hmb]; simp
 have m1 : w1.ownsMap Tryz.prog 3 (plainElem Tryz.prog 3) mb 0 (seenD []) := by rw [← hw1, ← hmb]; exact World.ownsMap_made w Tryz.prog 3 _
 have hcl := h_ (cloneInts (SliceAt.fresh hv k1) hn)
 obtain ⟨hl, Av, capv, rfl, hcv1, hcv2, _⟩ := id hv
 have hw1' := h_ hw1
 have hmb' := h_ hmb
 have h' := h_ h
 have k1' := h_ k1
 have m1' := h_ m1
 have s1' := h_ s1
 have hR' := h_ hR
 have hwf' := h_ hwf
 have K' := h_ K
 clear h hv hl hw1 hmb k1 m1 s1 hR hwf hZ K
 go_enter Tryz.func94, Tryz.ntmps94
 go_wp2_with (simp only [run_makeMap, hw1'.out, hmb'.out])
 refine hcl.out.mono ?_
 rintro e w2 ⟨u, rfl, hown2, hk2⟩
 rw [s1'.out] at hown2
 have r2 := h_ (show ReachRel w M R mb (mb + 1) (1700 + l.length) u w2 from ⟨by omega, [], l, hR'.out, reach_start l, (by obtain ⟨es, clock, hb, F, hs, hD⟩ := m1'.out; exact ⟨es, clock, hk2.get hb id, F, hs, hD⟩), hown2, hwf'.out, k1'.out.trans hk2⟩)
 obtain ⟨Au, cu, rfl, _⟩ := ownsRow.slice hown2
 clear hown2 hk2
 go_wp2_with fail
 go_loopw [7] (fun v wr => ∃ f, ReachRel w M R mb (mb + 1) f v wr) (fun v wr => leastF fun f => ReachRel w M R mb (mb + 1) f v wr)
 case atStart => exact ⟨_, r2.out⟩
 case round =>
  obtain ⟨f, hf, hfb, seen, next, hat⟩ := least_split hrel
  obtain ⟨An, cn, rfl, hnz, hc1, hc2⟩ := ownsRow.slice hat.next_
  obtain ⟨f, rfl⟩ : ∃ f', f = f' + 1 := ⟨f - 1, by have := hat.inv.fuel; omega⟩
  unfold maxLen at hc2
  rcases List.eq_nil_or_concat next with rfl | ⟨rest, x, hrx⟩
  ·have hres : R = (seen, 0) := by rw [← hat.res, reachF_nil]
   have hsz := World.ownsMap.size_le hat.seen_
   have hsl : seen.length ≤ 240 := by have := hat.inv.len; omega
   have hperm := seenD_keys hat.seen_ hat.inv.nodup
   have hsc := h_ (sortedCall mb seen.length (seenD seen) _ wr hat.seen_ (by unfold maxLen; omega) (by omega))
   have hk := h_ hat.kept
   have hkc := h_ (keysCall (some mb) wr)
   have hreach' : Hid (M.reach l = (seen.mergeSort leB, 0)) := h_ (by rw [hreach.out, hres, if_pos rfl])
   have hperm' := h_ hperm
   clear hsz hperm hres hat hf hrel hnz
   simp only [List.length_nil]
   go_wp2_with fail
   refine hkc.out.mono ?_
   rintro e w3 ⟨rfl, rfl⟩
   go_wp2_with fail
   refine hsc.out.mono ?_
   rintro e w4 ⟨v4, ss, rfl, hS, hrow, hk4⟩
   have hs4 := hk.out.size
   go_wp2_with fail
   go_ret2
   have e1 : ss.mergeSort (fun x y => decide (x ≤ y)) = seen.mergeSort leB := mergeSort_of_perm_i (hS.trans hperm'.out.symm)
   have e2 : ss.length = (seen.mergeSort leB).length := by rw [List.length_mergeSort]; exact (hS.trans hperm'.out.symm).length_eq
   rw [e1, e2] at hrow
   exact ⟨v4, by rw [hreach'.out]; rfl, by rw [hreach'.out]; exact owns_weaken hrow (by omega), hk.out.trans hk4⟩
  ·rw [List.concat_eq_append] at hrx
   subst hrx
   obtain ⟨m, hm⟩ : ∃ m, rest.length = m := ⟨_, rfl⟩
   have hlen : (rest ++ [x]).length = m + 1 := by rw [List.length_append, hm]; rfl
   obtain ⟨g, rfl⟩ := hnz (by omega)
   have hown := hat.next_
   rw [hlen, List.map_append, List.map_singleton] at hown
   have cx : wr.cell? ⟨g, m, none⟩ = some (.int .i64 x) := by
    have := hown.cells (g := g) rfl m (.int .i64 x) (by rw [List.getElem?_append_right (by rw [List.length_map]; omega), List.length_map, hm, Nat.sub_self]; rfl)
    rw [addr_add, Nat.zero_add] at this
    exact this
   have hown' := owns_pop hown
   have hres := hat.res
   rw [reachF_snoc] at hres
   have hxw := hat.wf x (List.mem_append_right _ (List.mem_singleton.2 rfl))
   have hfm : m ≤ 10000 := by have := hat.inv.fuel; rw [hlen] at this; omega
   have hwl : IntKind.i64.wrap ((m : Int) + 1 - 1) = (m : Int) := by rw [IntKind.wrap_i64]; omega
   have hm0 : (0 : Int) < (m : Int) + 1 := by omega
   have hm1 : (m : Int) < (m : Int) + 1 := by omega
   have hm2 : (m : Int) ≤ (m : Int) + 1 := by omega
   have hm3 : (m : Int) ≤ (cn : Int) := by omega
   rw [hlen] at hc1 hf ⊢
   have hkey : keyOf Tryz.prog 3 (.int .i64 x) = some (.int .i64 x) := keyOf_int_mk Tryz.underlying3 (WalkArith.wf_i64 hxw)
   obtain ⟨c, hlook, hcat, _⟩ := hat.seen_.lookup_int K'.out Tryz.underlying145 Tryz.underlying3 (Tryz.zeroValue3 wr) hkey
   rw [seenD_at] at hcat
   have hcx : c = if x ∈ seen then 1 else 0 := by injection hcat with h; injection h with _ h; exact h.symm
   have hat' := h_ hat
   have hf' := h_ hf
   have hwf2 := h_ (fun y hy => hat.wf y (List.mem_append_left [x] hy))
   have hown2 := h_ hown'
   have hkey' := h_ hkey
   clear hat hf hrel hown hown' hnz hcat hlen hxw hkey
   by_cases hx1 : x = -1
   ·rw [if_pos (.inl hx1)] at hres
    subst hx1
    have hnew := h_ (show ReachRel w M R mb (mb + 1) f (.slice (some ⟨g, 0, none⟩) m cn) wr from ⟨by omega, seen, rest, hres, hat'.out.inv.skip, hat'.out.seen_, by rw [hm]; exact hown2.out, hwf2.out, hat'.out.kept⟩)
    clear hres hcx hlook
    go_wp2_with fail
    go_roundw
    case rel => exact ⟨f, hnew.out⟩
    case measure => exact Nat.lt_of_le_of_lt (leastF_le hnew.out) (by rw [hf'.out]; omega)
   ·have hx1b : (x == -1) = false := by simpa using hx1
    by_cases hxs : x ∈ seen
    ·rw [if_pos (.inr hxs)] at hres
     rw [if_pos hxs] at hcx
     subst hcx
     have hnew := h_ (show ReachRel w M R mb (mb + 1) f (.slice (some ⟨g, 0, none⟩) m cn) wr from ⟨by omega, seen, rest, hres, hat'.out.inv.skip, hat'.out.seen_, by rw [hm]; exact hown2.out, hwf2.out, hat'.out.kept⟩)
     clear hres hxs hx1
     go_wp2_with fail
     go_roundw
     case rel => exact ⟨f, hnew.out⟩
     case measure => exact Nat.lt_of_le_of_lt (leastF_le hnew.out) (by rw [hf'.out]; omega)
    ·rw [if_neg (by intro h; exact h.elim hx1 hxs)] at hres
     rw [if_neg hxs] at hcx
     subst hcx
     have hgt := get_any (h'.out.fresh hat'.out.kept) x
     have hok := fun h0 => get_ok h'.out (x := x) h0
     obtain ⟨N, hN⟩ : ∃ N, M.get x = N := ⟨_, rfl⟩
     simp only [hN] at hgt hok hres
     obtain ⟨n, er⟩ := N
     dsimp only at hgt hok hres
     have hgt' := h_ hgt
     have hok' := h_ hok
     have hres' := h_ hres
     have hxs' := h_ hxs
     clear hgt hok hres hN hxs hx1
     go_wp2_with fail
     refine hgt'.out.mono ?_
     rintro e w3 ⟨v3, rfl, hown3, hk3⟩
     obtain ⟨A3, c3, rfl, _⟩ := EntsAt.form (show EntsAt w3 v3 n.ents from SliceAt.of_owns hown3)
     obtain ⟨F, hF⟩ : ∃ F, nodeCells n (.slice A3 n.ents.length c3) = F := ⟨_, rfl⟩
     have hFl : Hid (F.length = 18) := h_ (by rw [← hF]; exact nodeCells_len _ _)
     have hF1 : Hid (∀ v ∈ F, v.oneCell' = true) := h_ (by rw [← hF]; exact nodeCells_one _ _ _ _)
     obtain ⟨nb, hnb⟩ : ∃ nb, w3.heap.size = nb := ⟨_, rfl⟩
     obtain ⟨w4, hw4⟩ : ∃ w4, (w3.alloc (.cells Z.toArray 115)).setRow nb F.toArray = w4 := ⟨_, rfl⟩
     have k4 : Kept (fun _ => False) w3 w4 := by rw [← hw4]; exact ((Kept.refl _ _).alloc _).setRowNew (by omega) _
     have q4 := h_ (show w4.heap[nb]? = some (.cells F.toArray 115 (0, 0)) by rw [← hw4, ← hnb]; exact setRow_heap _ _ _ _ _ _ (heap_alloc_new _ _))
     have hE4 := h_ (SliceAt.fresh (SliceAt.of_owns hown3) k4 : EntsAt w4 (.slice A3 n.ents.length c3) n.ents)
     have hs3 := hk3.size
     have kr4 := h_ (hk3.trans k4)
     have hm4 := ownsMap_kept hat'.out.seen_ kr4.out id
     obtain ⟨c4, hlook4, hcat4, _⟩ := hm4.lookup_int K'.out Tryz.underlying145 Tryz.underlying3 (Tryz.zeroValue3 w4) hkey'.out
     rw [seenD_at, if_neg hxs'.out] at hcat4
     obtain rfl : c4 = 0 := by injection hcat4 with h; injection h with _ h; exact h.symm
     have hm4' := h_ hm4
     have hown4 := h_ (ownsRow.keptOf hown2.out kr4.out (fun _ _ => id))
     have hF' := h_ hF
     have hw4' := h_ hw4
     have hnb' := h_ hnb
     rw [hF]
     have hsl : seen.length ≤ 240 := by have := hat'.out.inv.len; omega
     have hnbg : mb + 1 ≤ nb := by have := hat'.out.kept.size; have := hmb'.out; have := (hown2.out.lt g rfl).1; have := (hown2.out.lt g rfl).2; omega
     have hb3 := h_ (fun b (hb : (Value.slice A3 n.ents.length c3).ownBlock = some b) => (hown3.lt b hb).1)
     have hmw : mb < wr.heap.size := hat'.out.seen_.lt
     clear hown3 hk3 hF k4 hw4 hnb hm4 hcat4 hlook
     by_cases h0 : er = 0
     ·subst h0
      have hr0 := hres'.out
      rw [if_pos rfl] at hr0
      have hr0' := h_ hr0
      obtain ⟨hx0, hx240, hn6, hpg⟩ := hok'.out rfl
      have hpg' := h_ hpg
      have hval : plainElem (H := Unit) Tryz.prog 3 (.int .i64 1) = some (.lit (.int .i64 1), []) := plainElem_int Tryz.underlying3 (WalkArith.wf_i64 (by omega))
      have hval' := h_ hval
      clear hr0 hpg hval
      go_wp2_with (first | (refine wpList_alloc_as 115 rfl rfl Z.toArray hZz.out ?_; rw [hnb'.out]) | (refine wpList_store_whole 115 rfl rfl rfl F rfl (by rw [hFl.out]; exact node_size) 115 _ (by rw [← hnb'.out]; exact heap_alloc_new _ _) (by simp [hFl.out, hZl.out]) hF1.out ?_; rw [hw4'.out]) | (refine wpList_mapUpdate_own w4 rfl (.tmp 45) (.tmp 46) (.tmp 48) 145 rfl 3 3 K'.out Tryz.underlying145 (plainElem Tryz.prog 3) mb seen.length (seenD seen) (by rfl) hm4'.out (by unfold maxLen; omega) (.int .i64 x) (.int .i64 1) (.int .i64 x) (by rfl) (by rfl) hkey'.out (.lit (.int .i64 1)) [] hval'.out ?_; intro w5 hm5 hg5) | (refine wpList_load_agg 115 rfl rfl rfl _ Tryz.underlying115 rfl F (by rw [hFl.out]; exact node_size) (fun j v hv => by rw [cell_of_heap ((Kept.of_grown hg5).get q4.out (fun e => by injection e with e; omega)), Nat.zero_add]; simpa using hv) ?_))
      have k45 := Kept.of_grown hg5
      have hE5 : EntsAt w5 (.slice A3 n.ents.length c3) n.ents := SliceAt.kept hE4.out k45 (fun b hb e => by injection e with e; have := hb3.out b hb; omega)
      have hC := children_any (n := n) hE5 (by omega)
      rw [hF'.out] at hC
      have hC' := h_ hC
      clear hC
      refine hC'.out.mono ?_
      rintro e w6 ⟨u6, rfl, hown6, hk6⟩
      obtain ⟨A6, c6, rfl, _⟩ := ownsRow.slice hown6
      have hg1 := (hown2.out.lt g rfl).1
      have hown6n := h_ (ownsRow.keptOf (ownsRow.keptOf hown4.out k45 (fun b hb e => by injection e with e; have := (hown4.out.lt b hb).1; omega)) hk6 (fun _ _ => id))
      have hsl6 := h_ (SliceAt.of_owns hown6)
      have hone6 : Hid (∀ c ∈ pageCellsOf n.ents, c.oneCell' = true) := h_ (fun c hc => by unfold pageCellsOf at hc; obtain ⟨y, _, rfl⟩ := List.mem_map.1 hc; rfl)
      have hw6 := h_ ((((hat'.out.kept.trans kr4.out).grown hg5 (fun k e => .inr (by injection e with e; have := hmb'.out; omega))).trans hk6))
      have hs6 : mb + 1 ≤ w6.heap.size := by have := hw6.out.size; have := kr4.out.size; have := k45.size; have := hk6.size; omega
      have hm6 := h_ (ownsMap_kept hm5 hk6 id)
      clear hown6 hk6 hE5 k45 hm5 hg5
      go_wp2_with (at_builtin; refine wpList_append_src rfl elemInt (.tmp 49) (.tmp 51) rfl (by rfl) (by rfl) hown6n.out hsl6.out hone6.out (by omega) (by omega) hs6 ?_; intro v7 w7 hown7 hg7 hat7)
      have hm7 := ownsMap_kept hm6.out (Kept.of_grown hg7) (fun e => by have := (hown6n.out.lt mb e).1; omega)
      have hnew := h_ (show ReachRel w M R mb (mb + 1) f v7 w7 from ⟨by omega, seen ++ [x], rest ++ n.ents.map (·.2), hr0'.out, hat'.out.inv.more hxs'.out hx0 hx240 (by rw [List.length_map]; exact hn6),
       by rw [seenD_snoc, List.length_append]; exact hm7, by
        have e1 : (rest ++ n.ents.map (·.2)).length = m + n.ents.length := by rw [List.length_append, List.length_map, hm]
        have e2 : (rest ++ n.ents.map (·.2)).map (Value.int .i64) = rest.map (Value.int .i64) ++ pageCellsOf n.ents := by rw [List.map_append, List.map_map]; rfl
        rw [e1, e2]; exact hown7,
       fun y hy => by
        rcases List.mem_append.1 hy with hy | hy
        ·exact hwf2.out y hy
        ·obtain ⟨z, hz, rfl⟩ := List.mem_map.1 hy
         have := hpg'.out z hz
         omega,
       hw6.out.grown hg7 (fun k e => .inr (by have := (hown6n.out.lt k e).1; have := hmb'.out; omega))⟩)
      clear hown7 hg7 hat7 hm7
      go_roundw
      case rel => exact ⟨f, hnew.out⟩
      case measure => exact Nat.lt_of_le_of_lt (leastF_le hnew.out) (by rw [hf'.out]; omega)
     ·have hR2 : R = ([], er) := by rw [← hres'.out, if_neg h0]
      have hreach' : Hid (M.reach l = ([], er)) := h_ (by rw [hreach.out, hR2, if_neg h0])
      have h0' : ((er : Int) == 0) = false := by rw [beq_eq_false_iff_ne]; omega
      clear h0 hR2
      go_wp2_with (first | (refine wpList_alloc_as 115 rfl rfl Z.toArray hZz.out ?_; rw [hnb'.out]) | (refine wpList_store_whole 115 rfl rfl rfl F rfl (by rw [hFl.out]; exact node_size) 115 _ (by rw [← hnb'.out]; exact heap_alloc_new _ _) (by simp [hFl.out, hZl.out]) hF1.out ?_; rw [hw4'.out]))
      go_ret2
      exact ⟨_, by rw [hreach'.out]; rfl, by rw [hreach'.out]; exact World.ownsRow_nil _ _ _ _, hat'.out.kept.trans kr4.out⟩
end Go.Proofs.YtidlchciehdefaaGreat
/-
 ImageRuns: is all right at the end?
-/
namespace Go.Proofs.YtidlchciehdefaaGreat
open Go.RowKit
set_option maxRecDepth 100000
def usedN (p : PM) (k : Nat) : Nat := sumN (fun q => if 0 < p.countI (q : Int) then 1 else 0) k
theorem usedN_succ (p : PM) (k : Nat) : usedN p (k + 1) = usedN p k + if 0 < p.countI (k : Int) then 1 else 0 := rfl
theorem usedN_le (p : PM) : ∀ k, usedN p k ≤ k
 | 0 => Nat.le_refl _
 | k + 1 => by
  have := usedN_le p k
  rw [usedN_succ]
  split <;> omega
theorem usedN_all (p : PM) (h : p.size ≤ 240) : usedN p 240 = sumN (fun q => if decide (0 < p.cnt q) then 1 else 0) p.size := by
 have key : ∀ k, p.size ≤ k → usedN p k = sumN (fun q => if decide (0 < p.cnt q) then 1 else 0) p.size := by
  intro k
  induction k with
  | zero =>
   intro h0
   have : p.size = 0 := by omega
   rw [this]
   rfl
  | succ k ih =>
   intro hk
   by_cases e : p.size = k + 1
   ·rw [e]
    unfold usedN
    refine sumN_congr fun q hq => ?_
    have ht : p.thereB (q : Int) = true := by unfold PM.thereB; rw [decide_eq_true_eq]; omega
    have hci : p.countI (q : Int) = p.cnt q := by unfold PM.countI; rw [ht]; simp
    rw [hci]
    by_cases h0 : 0 < p.cnt q
    ·rw [if_pos (by omega), if_pos (by simpa using h0)]
    ·rw [if_neg (by omega), if_neg (by simpa using h0)]
   ·rw [usedN_succ, ih (by omega)]
    have : p.countI (k : Int) = 0 := by
     have ht : p.thereB (k : Int) = false := by unfold PM.thereB; rw [decide_eq_false_iff_not]; omega
     unfold PM.countI; rw [ht]; simp
    rw [this, if_neg (by omega)]
    rfl
 exact key 240 h
set_option maxHeartbeats 16000000 in
theorem runRight {w0 w : World} {A : SA} {M : SM} {wb sb rb rc vb vc k : Nat} {is : List IM} (St : RunSt w0 wb sb (is.map IM.root) (is.map IM.w) rb rc vb vc w A M) (hP : RunP k M is) (hk50 : k ≤ 60) (hsz : M.pool.size ≤ 240) :
  Calls Tryz.prog 55 #[.pointer (some ⟨wb, 0, none⟩)] w fun e w' => e = .returned (.bool true) ∧ Kept (fun _ => False) w w' := by
 obtain ⟨rs, hrs⟩ : ∃ rs, is.map IM.root = rs := ⟨_, rfl⟩
 obtain ⟨ws, hws⟩ : ∃ ws, is.map IM.w = ws := ⟨_, rfl⟩
 rw [hrs, hws] at St
 have hlr : rs.length = is.length := by rw [← hrs, List.length_map]
 have hlw : ws.length = is.length := by rw [← hws, List.length_map]
 have hsix := hP.six
 have hcaps := St.caps
 have hr1 : rs.length ≤ 6 := by omega
 have hr2 : ws.length ≤ 6 := by omega
 have hcr1 : rs.length ≤ rc := hcaps.1
 have hcr2 : rc ≤ 9223372036854775807 := hcaps.2.1
 have hcv1 : ws.length ≤ vc := hcaps.2.2.1
 have hcv2 : vc ≤ 9223372036854775807 := hcaps.2.2.2
 obtain ⟨L, hL, hLl⟩ := imgs_reach hP.imgs
 rw [hrs] at hL
 rw [← usedN_all M.pool hsz] at hLl
 have hul := usedN_le M.pool 240
 have d1 := St.c1
 have hBw : Hid (∀ g ∈ ws, Bytes g) := h_ (fun g hg => by rw [← hws] at hg; obtain ⟨j, hj, rfl⟩ := List.mem_map.1 hg; exact hP.bytes j hj)
 have St' := h_ St
 have hP' := h_ hP
 have hrs' := h_ hrs
 have hws' := h_ hws
 have hlens := h_ (And.intro hlr hlw)
 have hL' := h_ hL
 have hLl' := h_ hLl
 have hul' := h_ hul
 clear St hP hrs hws hlr hlw hcaps hsix hL hLl hul
 go_enter Tryz.func55, Tryz.ntmps55
 go_wp2_with fail
 go_loopw [18] (fun j wr => ∃ (m : Nat), m ≤ rs.length ∧ j = .int .i64 m ∧ Hid (Kept (fun _ => False) w wr)) (fun j _ => rs.length - (intOf j).toNat)
 case atStart => exact ⟨0, Nat.zero_le _, rfl, h_ (Kept.refl _ _)⟩
 case round =>
  obtain ⟨m, hm, rfl, hK'⟩ := hrel
  have S1 := h_ (St'.out.fresh hK'.out)
  by_cases hlt : m < rs.length
  ·obtain ⟨i, hi⟩ : ∃ i, is[m]? = some i := ⟨_, List.getElem?_eq_getElem (by have := hlens.out.1; omega)⟩
   have hr : Hid (rs[m]? = some i.root) := h_ (by rw [← hrs'.out, List.getElem?_map, hi]; rfl)
   have hw : Hid (ws[m]? = some i.w) := h_ (by rw [← hws'.out, List.getElem?_map, hi]; rfl)
   have hmi : (m : Int) < (rs.length : Int) := by omega
   have hmw : (m : Int) < (ws.length : Int) := by have := hlens.out; omega
   have hmem : i ∈ is := List.mem_of_getElem? hi
   have hImg := hP'.out.imgs.img i hmem
   have hBi := hP'.out.bytes i hmem
   have hPi : i.P ≤ 240 := by have := hP'.out.puts i hmem; omega
   have hAll := imageAll S1.out.own.store hImg hP'.out.imgs.exact hPi hBi
   rw [S1.out.eq] at hAll
   have hAll' := h_ hAll
   obtain ⟨r, hrr⟩ : ∃ r, i.root = r := ⟨_, rfl⟩
   obtain ⟨f, hf⟩ : ∃ f, i.w = f := ⟨_, rfl⟩
   have hImg' := h_ hImg
   have hPi' := h_ hPi
   rw [hf] at hBi hw
   have hB := h_ hBi
   have hrr' := h_ hrr
   have hf' := h_ hf
   have d0 := S1.out.c0
   have d2 := (S1.out.root hr.out).1
   rw [hrr] at d2 hAll'
   rw [hf] at hAll'
   have ld1 := h_ S1.out.load
   clear hAll hImg hBi hPi hmem hi hrr hf d1
   go_wp2_with (first | (refine wpList_load_agg 32 rfl rfl rfl _ Tryz.underlying32 rfl [.pointer (some ⟨sb, 0, none⟩)] (by kernel_rfl) ld1.out ?_))
   refine hAll'.out.mono ?_
   rintro e w2 ⟨gb, rfl, hgb, hgh, k2⟩
   have S2 := h_ (S1.out.fresh k2)
   have hSm := imageSum S2.out.own.store hImg'.out hP'.out.imgs.exact hPi'.out (by rw [hf'.out]; exact hB.out)
   rw [S2.out.eq, hrr'.out, hf'.out] at hSm
   have hSm' := h_ hSm
   have ld2 := h_ S2.out.load
   have hgh2 := h_ hgh
   have k2' := h_ k2
   clear hgh k2 hSm hgb hAll' d0 d2
   go_wp2_with (first | (refine wpList_load_agg 32 rfl rfl rfl _ Tryz.underlying32 rfl [.pointer (some ⟨sb, 0, none⟩)] (by kernel_rfl) ld2.out ?_))
   refine hSm'.out.mono ?_
   rintro e w3 ⟨rfl, k3⟩
   have S3 := h_ (S2.out.fresh k3)
   have hgh3 := k3.get hgh2.out id
   have hSa := ref13Same hB.out hgh3
   obtain ⟨J, hJ⟩ : ∃ J, imgCells f = J := ⟨_, rfl⟩
   have hJl : Hid (J.length = 1024) := h_ (by rw [← hJ]; exact imgCells_len hB.out)
   rw [hJ] at hSa
   have hSa' := h_ hSa
   have hJ' := h_ hJ
   have lw := S3.out.want hBw.out hw.out
   rw [hJ] at lw
   have lwA := h_ lw
   have lwB : Hid (∀ j v, J[j]? = some v → w3.cell? ⟨vb, m * 1024 + j, none⟩ = some v) := h_ (fun j v hj => by have := lw j v hj; rw [Nat.zero_add] at this; exact this)
   have d3 := S3.out.c2
   have k3' := h_ k3
   obtain ⟨cr, hcr⟩ : ∃ cr, crcOf (imgBytes f) = cr := ⟨_, rfl⟩
   rw [hcr]
   have hcr' := h_ hcr
   clear hgh3 hSa hJ lw k3 hSm' hcr
   go_wp2_with (first | (refine wpList_exec_g (by rfl) (exec_load_agg (g := vb) (off := m * 1024) rfl (by rfl) J Tryz.underlying37 rfl (by rw [hJl.out]; exact img_size) lwB.out) ?_) | (refine wpList_exec_g (by rfl) (exec_load_agg (g := vb) (off := 0 + m * 1024) rfl (by rfl) J Tryz.underlying37 rfl (by rw [hJl.out]; exact img_size) lwA.out) ?_))
   refine hSa'.out.mono ?_
   rintro e w4 ⟨rfl, k4⟩
   have S4 := h_ (S3.out.fresh k4)
   have lw4A : Hid (∀ j v, J[j]? = some v → w4.cell? ⟨vb, 0 + m * 1024 + j, none⟩ = some v) := h_ (fun j v hj => k4.cell (lwA.out j v hj) id)
   have lw4B : Hid (∀ j v, J[j]? = some v → w4.cell? ⟨vb, m * 1024 + j, none⟩ = some v) := h_ (fun j v hj => k4.cell (lwB.out j v hj) id)
   have d4 := S4.out.c2
   have hSd := ref13Sum (w := w4) hB.out
   rw [hJ'.out, hcr'.out] at hSd
   have hSd' := h_ hSd
   have k4' := h_ k4
   clear k4 hSd hSa' d3
   go_wp2_with (first | (refine wpList_exec_g (by rfl) (exec_load_agg (g := vb) (off := m * 1024) rfl (by rfl) J Tryz.underlying37 rfl (by rw [hJl.out]; exact img_size) lw4B.out) ?_) | (refine wpList_exec_g (by rfl) (exec_load_agg (g := vb) (off := 0 + m * 1024) rfl (by rfl) J Tryz.underlying37 rfl (by rw [hJl.out]; exact img_size) lw4A.out) ?_))
   refine hSd'.out.mono ?_
   rintro e w5 ⟨rfl, k5⟩
   have fin := h_ ((((hK'.out.trans k2'.out).trans k3'.out).trans k4'.out).trans k5)
   have hb : (cr == cr) = true := by simp
   clear k5 hSd' d4
   go_wp2_with fail
   go_roundw
   case rel => exact ⟨m + 1, by omega, by go_num, fin⟩
   case measure => simp [intOf] <;> omega
  ·have hmi : ¬ ((m : Int) < (rs.length : Int)) := by omega
   clear hlt d1
   go_wp2_with fail
   have hRe := reachAny (S1.out.own.store.fresh ((Kept.refl (fun _ => False) wr).drew)) (SliceAt.of_owns (S1.out.fresh ((Kept.refl (fun _ => False) wr).drew)).roots) (by omega) (fun x hx => by
    rw [← hrs'.out] at hx
    obtain ⟨j, hj, rfl⟩ := List.mem_map.1 hx
    have hT := (hP'.out.imgs.img j hj).tree
    rcases hT.root with ⟨e, _⟩ | ⟨_, t, _⟩
    ·omega
    ·have := held_bound hP'.out.imgs.exact t.held
     omega)
   rw [S1.out.eq, hL'.out] at hRe
   dsimp only at hRe
   have hRe' := h_ hRe
   clear hRe
   refine wp_region_held_drew (S := fun W => W.cell? ⟨wb, 0, none⟩ = some (.pointer (some ⟨sb, 0, none⟩)) ∧ W.cell? ⟨wb, 1, none⟩ = some (.slice (some ⟨rb, 0, none⟩) rs.length rc)) (by kernel_rfl) ⟨S1.out.c0, S1.out.c1⟩ (fun hS => ?_)
   refine wpAnyH_take (i := 0) (v := .pointer (some ⟨wb, 0, none⟩)) rfl (by kernel_rfl) (by kernel_rfl) (by kernel_rfl) (fun _ _ _ h => h) (Or.inl ⟨by rfl, fun W hW => by go_simp⟩) (by assumption) ?_
   simp only [Act.put, q1_, q2_, q3_, List.setIfInBounds_toArray, q5_, q6_]
   refine wpAnyH_take (i := 1) (v := .pointer (some ⟨wb, 0, none⟩)) rfl (by kernel_rfl) (by kernel_rfl) (by kernel_rfl) (fun _ _ _ h => h) (Or.inl ⟨by rfl, fun W hW => by go_simp⟩) (by assumption) ?_
   simp only [Act.put, q1_, q2_, q3_, List.setIfInBounds_toArray, q5_, q6_]
   refine wpAnyH_take (i := 2) (v := .pointer (some ⟨wb, 0, none⟩)) rfl (by kernel_rfl) (by kernel_rfl) (by kernel_rfl) (fun _ _ _ h => h) (Or.inl ⟨by rfl, fun W hW => by go_simp⟩) (by assumption) ?_
   simp only [Act.put, q1_, q2_, q3_, List.setIfInBounds_toArray, q5_, q6_]
   refine wpAnyH_take (i := 3) (v := .pointer (some ⟨wb, 0, none⟩)) rfl (by kernel_rfl) (by kernel_rfl) (by kernel_rfl) (fun _ _ _ h => h) (Or.inl ⟨by rfl, fun W hW => by go_simp⟩) (by assumption) ?_
   simp only [Act.put, q1_, q2_, q3_, List.setIfInBounds_toArray, q5_, q6_]
   refine wpAnyH_take (i := 4) (v := .pointer (some ⟨wb, 0, none⟩)) rfl (by kernel_rfl) (by kernel_rfl) (by kernel_rfl) (fun _ _ _ h => h) (Or.inl ⟨by rfl, fun W hW => by go_simp⟩) (by assumption) ?_
   simp only [Act.put, q1_, q2_, q3_, List.setIfInBounds_toArray, q5_, q6_]
   refine wpAnyH_take (i := 5) (v := .pointer (some ⟨wb, 0, none⟩)) rfl (by kernel_rfl) (by kernel_rfl) (by kernel_rfl) (fun _ _ _ h => h) (Or.inl ⟨by rfl, fun W hW => by go_simp⟩) (by assumption) ?_
   simp only [Act.put, q1_, q2_, q3_, List.setIfInBounds_toArray, q5_, q6_]
   refine wpAnyH_take (i := 6) (v := .pointer (some ⟨wb, 0, none⟩)) rfl (by kernel_rfl) (by kernel_rfl) (by kernel_rfl) (fun _ _ _ h => h) (Or.inl ⟨by rfl, fun W hW => by go_simp⟩) (by assumption) ?_
   simp only [Act.put, q1_, q2_, q3_, List.setIfInBounds_toArray, q5_, q6_]
   refine wpAnyH_take (i := 7) (v := .pointer (some ⟨sb, 0, none⟩)) rfl (by kernel_rfl) (by kernel_rfl) (by kernel_rfl) (fun _ _ _ h => h) (Or.inl ⟨by rfl, fun W hW => by have hc := hW.1; clear hW; go_simp⟩) (by assumption) ?_
   simp only [Act.put, q1_, q2_, q3_, List.setIfInBounds_toArray, q5_, q6_]
   refine wpAnyH_take (i := 8) (v := .pointer (some ⟨wb, 0, none⟩)) rfl (by kernel_rfl) (by kernel_rfl) (by kernel_rfl) (fun _ _ _ h => h) (Or.inl ⟨by rfl, fun W hW => by go_simp⟩) (by assumption) ?_
   simp only [Act.put, q1_, q2_, q3_, List.setIfInBounds_toArray, q5_, q6_]
   refine wpAnyH_take (i := 9) (v := .pointer (some ⟨wb, 0, none⟩)) rfl (by kernel_rfl) (by kernel_rfl) (by kernel_rfl) (fun _ _ _ h => h) (Or.inl ⟨by rfl, fun W hW => by go_simp⟩) (by assumption) ?_
   simp only [Act.put, q1_, q2_, q3_, List.setIfInBounds_toArray, q5_, q6_]
   refine wpAnyH_take (i := 10) (v := .pointer (some ⟨wb, 1, none⟩)) rfl (by kernel_rfl) (by kernel_rfl) (by kernel_rfl) (fun _ _ _ h => h) (Or.inl ⟨by rfl, fun W hW => by go_simp⟩) (by assumption) ?_
   simp only [Act.put, q1_, q2_, q3_, List.setIfInBounds_toArray, q5_, q6_]
   refine wpAnyH_take (i := 11) (v := .slice (some ⟨rb, 0, none⟩) rs.length rc) rfl (by kernel_rfl) (by kernel_rfl) (by kernel_rfl) (fun _ _ _ h => h) (Or.inl ⟨by rfl, fun W hW => by have hc := hW.2; clear hW; go_simp⟩) (by assumption) ?_
   simp only [Act.put, q1_, q2_, q3_, List.setIfInBounds_toArray, q5_, q6_]
   refine wpAnyH_ready (rs := [12]) (by kernel_rfl) (by simp) ?_
   refine AllReadyH.cons rfl (fun K hK => ?_) ?_
   ·rw [if_pos (by rfl)]
    simp only [Go.wp_at_zero, Go.wp_at_succ]
    go_simp
    refine hRe'.out.mono ?_
    rintro e w5 ⟨u, rfl, hu, k5⟩
    have kq := ((Kept.refl (fun _ => False) wr).drew).trans k5
    have S5 := S1.out.fresh kq
    refine hK.out _ _ ⟨S5.c0, S5.c1⟩ (fun hS5 => ?_)
    clear hK K
    try simp only [Act.put, q1_, q2_, q3_, List.setIfInBounds_toArray, q5_, q6_]
    obtain ⟨_, Au, cu, rfl, hu1, hu2, _⟩ := SliceAt.of_owns hu
    unfold maxLen at hu2
    have S5 := h_ S5
    have kq := h_ (hK'.out.trans kq)
    refine wpAnyH_take (i := 13) (v := .tuple #[.slice Au L.length cu, .int .i64 0]) rfl (by kernel_rfl) (by kernel_rfl) (by kernel_rfl) (fun _ _ _ h => h) (Or.inl ⟨by rfl, fun W hW => by go_simp⟩) (by assumption) ?_
    simp only [Act.put, q1_, q2_, q3_, List.setIfInBounds_toArray, q5_, q6_]
    refine wpAnyH_take (i := 14) (v := .slice Au L.length cu) rfl (by kernel_rfl) (by kernel_rfl) (by kernel_rfl) (fun _ _ _ h => h) (Or.inl ⟨by rfl, fun W hW => by go_simp⟩) (by assumption) ?_
    simp only [Act.put, q1_, q2_, q3_, List.setIfInBounds_toArray, q5_, q6_]
    refine wpAnyH_take (i := 15) (v := .int .i64 0) rfl (by kernel_rfl) (by kernel_rfl) (by kernel_rfl) (fun _ _ _ h => h) (Or.inl ⟨by rfl, fun W hW => by go_simp⟩) (by assumption) ?_
    simp only [Act.put, q1_, q2_, q3_, List.setIfInBounds_toArray, q5_, q6_]
    refine wpAnyH_take (i := 16) (v := .slice Au L.length cu) rfl (by kernel_rfl) (by kernel_rfl) (by kernel_rfl) (fun _ _ _ h => h) (Or.inl ⟨by rfl, fun W hW => by go_simp⟩) (by assumption) ?_
    simp only [Act.put, q1_, q2_, q3_, List.setIfInBounds_toArray, q5_, q6_]
    refine wpAnyH_take (i := 17) (v := .int .i64 0) rfl (by kernel_rfl) (by kernel_rfl) (by kernel_rfl) (fun _ _ _ h => h) (Or.inl ⟨by rfl, fun W hW => by go_simp⟩) (by assumption) ?_
    simp only [Act.put, q1_, q2_, q3_, List.setIfInBounds_toArray, q5_, q6_]
    refine wpAnyH_done (by kernel_rfl) ?_ _
    clear hS hS5 hu k5 hRe'
    go_wp2_with fail
    go_loopw [11, 12] (fun cu2 j w6 => ∃ (q : Nat), q ≤ 240 ∧ j = .int .i64 q ∧ cu2 = .int .i64 ((usedN M.pool q : Nat) : Int) ∧ w6 = w5) (fun _ j _ => 240 - (intOf j).toNat)
    case atStart => exact ⟨0, Nat.zero_le _, rfl, rfl, by first | trivial | rfl⟩
    case round =>
     obtain ⟨q, hq, rfl, rfl, rfl⟩ := hrel
     have d0 := S5.out.c0
     by_cases hlt : q < 240
     ·have hqi : (q : Int) < 240 := by omega
      have hPl := storePool S5.out.own.store
      rw [S5.out.eq] at hPl
      have hPl' := h_ hPl
      have hCn := h_ (count_any S5.out.own.store.pool (q : Int))
      have hus := usedN_succ M.pool q
      have hul := usedN_le M.pool q
      obtain ⟨U, hU⟩ : ∃ U, usedN M.pool q = U := ⟨_, rfl⟩
      rw [hU] at hus hul ⊢
      have hwu : IntKind.i64.wrap ((U : Int) + 1) = (U : Int) + 1 := by rw [IntKind.wrap_i64]; omega
      have hus' := h_ hus
      clear hPl hus hU
      go_wp2_with fail
      refine hPl'.out.mono ?_
      rintro e w7 ⟨rfl, rfl⟩
      go_wp2_with fail
      refine hCn.out.mono ?_
      rintro e w7 ⟨rfl, rfl⟩
      by_cases hc : 0 < M.pool.countI (q : Int)
      ·have hd : decide ((0 : Int) < M.pool.countI (q : Int)) = true := decide_eq_true hc
       have hus2 : Hid (usedN M.pool (q + 1) = U + 1) := h_ (by rw [hus'.out, if_pos hc])
       clear hc
       go_wp2_with fail
       go_roundw
       case rel =>
        refine ⟨_, _, _, _, _, _, _, _, _, _, _, _, _, _, _, _, _, _, _, _, And.intro ?_ rfl⟩
        exact ⟨q + 1, by omega, by go_num, by rw [hus2.out]; go_num, by first | trivial | rfl⟩
       case measure => simp [intOf] <;> omega
      ·have hd : decide ((0 : Int) < M.pool.countI (q : Int)) = false := decide_eq_false hc
       have hus2 : Hid (usedN M.pool (q + 1) = U) := h_ (by rw [hus'.out, if_neg hc, Nat.add_zero])
       clear hc
       go_wp2_with fail
       go_roundw
       case rel =>
        refine ⟨_, _, _, _, _, _, _, _, _, _, _, _, _, _, _, _, _, _, _, _, And.intro ?_ rfl⟩
        exact ⟨q + 1, by omega, by go_num, by rw [hus2.out], by first | trivial | rfl⟩
       case measure => simp [intOf] <;> omega
     ·have hqq : q = 240 := by omega
      subst hqq
      have hle := hLl'.out
      have hb : (((usedN M.pool 240 : Nat) : Int) == (L.length : Int)) = true := by rw [← hle]; simp
      have hb' := h_ hb
      clear hle
      go_wp2_with fail
      go_ret
      exact ⟨by simp [hLl'.out], kq.out⟩
   exact AllReadyH.nil
theorem made_img : madeCells (List.replicate 1024 (Value.int .u8 0)).toArray (1 * 1024) = (List.replicate 1024 (Value.int .u8 0)).toArray := by
 obtain ⟨Z, hZ⟩ : ∃ Z, List.replicate 1024 (Value.int .u8 0) = Z := ⟨_, rfl⟩
 have hz : ∀ i, i < 1024 → Z[i]? = some (.int .u8 0) := fun i hi => by rw [← hZ, List.getElem?_replicate, if_pos hi]
 have hl : Z.toArray.size = 1024 := by rw [← hZ]; simp
 have hll : Z.length = 1024 := by rw [← hZ]; simp
 rw [hZ]
 refine Array.ext_getElem? fun j => ?_
 by_cases hj : j < 1024
 ·have := hz (j % 1024) (Nat.mod_lt _ (by omega))
  have e : Z.toArray[j]? = some (.int .u8 0) := by rw [List.getElem?_toArray, hz j hj]
  rw [e]
  simp [madeCells, hj, hll, Array.getElem!_eq_getD, this]
 ·rw [Array.getElem?_eq_none (by simp [madeCells]; omega), Array.getElem?_eq_none (by simp [hll]; omega)]
theorem exec_make_img {o : Oper} {a : Act} {w : World} (ho : o.op = .makeSlice 101 (.const (.int .i64 1)) (.const (.int .i64 1))) :
  (execOp a.eval o).run Tryz.prog w = .ok (.value (.slice (some ⟨w.heap.size, 0, none⟩) 1 1)) (w.alloc (.cells (List.replicate 1024 (Value.int .u8 0)).toArray 37)) := by
 obtain ⟨i0, hi0, hz0, hz1, hz2⟩ := info_parts img_info
 have hr := run_make (P := Tryz.prog) w 101 37 i0 (.agg (List.replicate 1024 (Value.int .u8 0)).toArray) Tryz.underlying101 hi0 hz0 .i64 .i64 ((1 : Nat) : Int) ((1 : Nat) : Int) (by omega) (by omega) (by rw [hz2]; omega) (by omega)
 unfold execOp
 have hx' : a.eval (.const (.int .i64 1)) = .int .i64 ((1 : Nat) : Int) := rfl
 simp only [ho, hx', Sem.run_bind, hr, Result.andThen_ok, Int.toNat_natCast, hz1]
 rw [show madeCells (Value.agg (List.replicate 1024 (Value.int .u8 0)).toArray).cells (1 * 1024) = (List.replicate 1024 (Value.int .u8 0)).toArray from made_img]
 rfl
theorem runNew {w0 W : World} {A : SA} {M : SM} {sb rb vb : Nat} (hO : OwnStore w0 A M W) (hs : A.sb = sb) (hR : W.heap[rb]? = some (.cells #[.int .i64 (-1)] 3 (0, 0))) (hV : W.heap[vb]? = some (.cells (List.replicate 1024 (Value.int .u8 0)).toArray 37 (0, 0))) (r0 : w0.heap.size ≤ rb) (v0 : w0.heap.size ≤ vb) (rn : ¬ A.own rb) (vn : ¬ A.own vb) :
  RunSt w0 W.heap.size sb [-1] [fun _ => zeros16] rb 1 vb 1 (W.alloc (.cells #[.pointer (some ⟨sb, 0, none⟩), .slice (some ⟨rb, 0, none⟩) 1 1, .slice (some ⟨vb, 0, none⟩) 1 1] 103)) A M := by
 have k : Kept (fun _ => False) W (W.alloc (.cells #[.pointer (some ⟨sb, 0, none⟩), .slice (some ⟨rb, 0, none⟩) 1 1, .slice (some ⟨vb, 0, none⟩) 1 1] 103)) := (Kept.refl _ _).alloc _
 have r1 := lt_of_heap hR
 have v1 := lt_of_heap hV
 refine ⟨hO.fresh k, hs, heap_alloc_new _ _, Apart.new hO.store (Nat.le_refl _) (by simp), ⟨rfl, .inr ⟨rb, 1, _, rfl, r0, k.get hR id, Nat.le_refl _, by decide, rfl, rfl⟩⟩, ⟨?_, .inr ⟨vb, 1, _, rfl, v0, k.get hV id, Nat.le_refl _, by decide, by simp, ?_⟩⟩, ⟨Nat.lt_of_lt_of_le r1 k.size, rn⟩, ⟨Nat.lt_of_lt_of_le v1 k.size, vn⟩, hO.kept.size⟩
 ·simp [imgCells_len Bytes.zero]
 ·simp [zero_cells]
theorem newRun (s : Nat) (h : s ≤ 240) : RunP 0 (newM s) [.none] :=
 ⟨newM_imgs 1 h, fun i hi => (by rw [List.mem_singleton.1 hi]; exact Bytes.zero), fun i hi => (by rw [List.mem_singleton.1 hi]; exact Nat.le_refl _), by decide, by decide, Nat.le_refl _⟩
set_option maxHeartbeats 16000000 in
theorem runsWalk {w : World} (p : Int) (hpb : -9223372036854775808 ≤ p ∧ p ≤ 9223372036854775807) (va : Value) (l : List ActI) (hl : ActsI w va l) : Calls Tryz.prog 15 #[.int .i64 p, va] w fun e w' => e = .returned (.bool true) ∧ Kept (fun _ => False) w w' := by
 obtain ⟨Aa, ca, rfl, hc1, hc2, hget⟩ := hl
 unfold maxLen at hc2
 have hget' := h_ hget
 clear hget
 by_cases hbad : p < 4 ∨ 244 < p ∨ 50 < l.length
 ·have hcases : (decide (p < 4) = true) ∨ (decide (p < 4) = false ∧ decide ((244 : Int) < p) = true) ∨ (decide (p < 4) = false ∧ decide ((244 : Int) < p) = false ∧ decide ((50 : Int) < (l.length : Int)) = true) := by simp only [decide_eq_true_eq, decide_eq_false_iff_not]; omega
  clear hbad
  rcases hcases with h1 | ⟨h1, h2⟩ | ⟨h1, h2, h3⟩
  all_goals
   go_enter Tryz.func15, Tryz.ntmps15
   go_wp2_with fail
   refine (imageAlive _).mono ?_
   rintro e w1 ⟨rfl, k1⟩
   have k1' := h_ k1
   clear k1
   go_wp2_with fail
   go_ret
   exact ⟨rfl, k1'.out⟩
 have hb1 : decide (p < 4) = false := by rw [decide_eq_false_iff_not]; omega
 have hb2 : decide ((244 : Int) < p) = false := by rw [decide_eq_false_iff_not]; omega
 have hb3 : decide ((50 : Int) < (l.length : Int)) = false := by rw [decide_eq_false_iff_not]; omega
 have hshort : l.length ≤ 50 := by omega
 have hm := fun w => made13 p (by omega) (by omega) w
 obtain ⟨s, hs⟩ : ∃ s, (min p 244 - 4).toNat = s := ⟨_, rfl⟩
 rw [hs] at hm
 have hs240 : s ≤ 240 := by omega
 have hm' := h_ hm
 have hnb := h_ hbad
 clear hm hs hbad hpb
 go_enter Tryz.func15, Tryz.ntmps15
 go_wp2_with fail
 refine (imageAlive _).mono ?_
 rintro e w0 ⟨rfl, k0⟩
 have k0' := h_ k0
 clear k0
 go_wp2_with fail
 have kc0 : Kept (fun _ => False) w0 w0.drew := (Kept.refl _ _).drew
 refine Code.wp_mono (Q := fun e a W => e = .normal ∧ ∃ A wb rb vb, a = { tmps := #[.int .i64 p, .slice Aa l.length ca, undef, undef, .bool false, .pointer (some ⟨wb, 0, none⟩), undef, undef, .bool true, .bool false, .int .i64 p, .bool false, .bool false, .int .i64 p, .bool false, .bool false, .bool false, .slice Aa l.length ca, .int .i64 (l.length : Int), .bool false, .bool false, .int .i64 p, .agg #[.pointer (some ⟨A.sb, 0, none⟩)], .slice (some ⟨rb, 0, none⟩) 1 1, .slice (some ⟨vb, 0, none⟩) 1 1, .agg #[.pointer (some ⟨A.sb, 0, none⟩), .slice (some ⟨rb, 0, none⟩) 1 1, .slice (some ⟨vb, 0, none⟩) 1 1], .pointer (some ⟨wb, 0, none⟩), undef, undef, undef, undef, undef, undef, undef, undef, undef, undef, undef, undef, undef, undef, undef, undef, undef], defers := [] } ∧ RunSt w0 wb A.sb [-1] [fun _ => zeros16] rb 1 vb 1 W A (newM s)) ?_ ?_
 ·rintro e a w2 ⟨rfl, A, wb, rb, vb, rfl, hSt⟩
  obtain ⟨sb, hsb⟩ : ∃ sb, A.sb = sb := ⟨_, rfl⟩
  rw [hsb] at hSt ⊢
  obtain ⟨D0, hD0⟩ : ∃ D0, actICells ⟨0, 0, 0, [], zeros16⟩ (.slice none 0 0) = D0 := ⟨_, rfl⟩
  have hDz : Hid ((Tryz.prog.info? 40).map (·.zero) = some (some (.agg D0.toArray))) := h_ (by rw [← hD0]; exact act_zero)
  have hDl : Hid (D0.length = 20) := h_ (by rw [← hD0]; exact actICells_len _ _)
  have I2 : Hid (∃ A M is rb rc vb vc, RunSt w0 wb sb (is.map IM.root) (is.map IM.w) rb rc vb vc w2 A M ∧ RunP 0 M is ∧ M.pool.size = s) := h_ ⟨A, newM s, [.none], rb, 1, vb, 1, hSt, newRun s hs240, rfl⟩
  clear hD0 hSt hsb
  go_wp2_with fail
  go_loopw [29] (fun j wr => ∃ (k : Nat), k ≤ l.length ∧ j = .int .i64 k ∧ Hid (∃ A M is rb rc vb vc, RunSt w0 wb sb (is.map IM.root) (is.map IM.w) rb rc vb vc wr A M ∧ RunP k M is ∧ M.pool.size = s)) (fun j _ => l.length - (intOf j).toNat)
  case atStart => exact ⟨0, Nat.zero_le _, rfl, I2⟩
  case round =>
   obtain ⟨k, hk, rfl, hI⟩ := hrel
   obtain ⟨A3, M3, is, rb3, rc3, vb3, vc3, St, hP, hsz⟩ := hI.out
   by_cases hlt : k < l.length
   ·obtain ⟨x, hx⟩ : ∃ x, l[k]? = some x := ⟨_, List.getElem?_eq_getElem hlt⟩
    obtain ⟨eb, eo, kA, kn, kc, rfl, heb, hok, hcs, hks⟩ := hget'.out k x hx
    obtain ⟨_, _, _, e0, hkc1, hkc2, _⟩ := id hks
    cases e0
    unfold maxLen at hkc2
    have hki : (k : Int) < (l.length : Int) := by omega
    obtain ⟨D, hD⟩ : ∃ D, actICells x (.slice kA x.keys.length kc) = D := ⟨_, rfl⟩
    have hDDl : Hid (D.length = 20) := h_ (by rw [← hD]; exact actICells_len _ _)
    have hDD1 : Hid (∀ v ∈ D, v.oneCell' = true) := h_ (by rw [← hD]; exact actICells_one _ _ _ _)
    rw [hD] at hcs
    have kw := k0'.out.trans St.own.kept
    have hlo : Hid (∀ j v, D[j]? = some v → wr.cell? ⟨eb, eo + k * 20 + j, none⟩ = some v) := h_ (fun j v hj => kw.cell (hcs j v hj) id)
    obtain ⟨xb, hxb⟩ : ∃ xb, wr.heap.size = xb := ⟨_, rfl⟩
    obtain ⟨wx, hwx⟩ : ∃ wx, (wr.alloc (.cells D0.toArray 40)).setRow xb D.toArray = wx := ⟨_, rfl⟩
    have kx : Kept (fun _ => False) wr wx := by rw [← hwx]; exact ((Kept.refl _ _).alloc _).setRowNew (by omega) _
    have qx : wx.heap[xb]? = some (.cells D.toArray 40 (0, 0)) := by rw [← hwx, ← hxb]; exact setRow_heap _ _ _ _ _ _ (heap_alloc_new _ _)
    have cx3 := (act_box (a := x) (kv := .slice kA x.keys.length kc) (by rw [hD]; exact qx)).2.2.2.1
    have Sx := h_ (St.fresh kx)
    have hlx : Hid (∀ j v, D[j]? = some v → wx.cell? ⟨xb, 0 + j, none⟩ = some v) := h_ (fun j v hj => by rw [Nat.zero_add, cell_of_heap qx]; simpa using hj)
    have hkoff : Hid (IntsOff wx A3 (.slice kA x.keys.length kc) x.keys) := h_ ⟨SliceAt.fresh hks (kw.trans kx), fun hne b hb => by
     have hpos : 0 < x.keys.length * 1 := by
      cases hkk : x.keys with
      | nil => exact absurd hkk hne
      | cons y ys => simp
     obtain ⟨b', hb', hlt'⟩ := hks.block hpos
     rw [hb] at hb'
     cases hb'
     exact ⟨Nat.lt_of_lt_of_le hlt' (kw.trans kx).size, fun e => by have h1 := St.own.new b (.inl e); have h2 := k0'.out.size; omega⟩⟩
    have hwx' := h_ hwx
    have hxb' := h_ hxb
    have kxx := h_ (k0'.out.trans (Sx.out.own.kept))
    have hok' := h_ hok
    have hPk := h_ hP
    have hsz' := h_ hsz
    have hD' := h_ hD
    by_cases hlong : 70 < x.keys.length
    ·have hd7 : decide ((70 : Int) < (x.keys.length : Int)) = true := by rw [decide_eq_true_eq]; omega
     clear hx hcs hks kw kx qx hxb hwx hI St hP hsz hok hD I2 hlong
     go_wp2_with (first | (refine wpList_load_agg 40 rfl rfl rfl _ Tryz.underlying40 rfl D (by rw [hDDl.out]; exact act_size) hlx.out ?_) | (refine wpList_load_agg 40 rfl rfl rfl _ Tryz.underlying40 rfl D (by rw [hDDl.out]; exact act_size) hlo.out ?_) | (refine wpList_alloc_as 40 rfl rfl D0.toArray hDz.out ?_; rw [hxb'.out]) | (refine wpList_store_whole 40 rfl rfl rfl D rfl (by rw [hDDl.out]; exact act_size) 40 D0.toArray (by rw [← hxb'.out]; exact heap_alloc_new _ _) (by simp [hDl.out, hDDl.out]) hDD1.out ?_; rw [hwx'.out]))
     go_ret
     exact ⟨rfl, kxx.out⟩
    ·have hd7 : decide ((70 : Int) < (x.keys.length : Int)) = false := by rw [decide_eq_false_iff_not]; omega
     have hDo := runDo Sx.out hP (by omega) hok hkoff.out (by omega)
     rw [hD] at hDo
     have hDo' := h_ hDo
     clear hx hcs hks kw kx qx hxb hwx hI St hP hsz hok hD I2 hlong hDo
     go_wp2_with (first | (refine wpList_load_agg 40 rfl rfl rfl _ Tryz.underlying40 rfl D (by rw [hDDl.out]; exact act_size) hlx.out ?_) | (refine wpList_load_agg 40 rfl rfl rfl _ Tryz.underlying40 rfl D (by rw [hDDl.out]; exact act_size) hlo.out ?_) | (refine wpList_alloc_as 40 rfl rfl D0.toArray hDz.out ?_; rw [hxb'.out]) | (refine wpList_store_whole 40 rfl rfl rfl D rfl (by rw [hDDl.out]; exact act_size) 40 D0.toArray (by rw [← hxb'.out]; exact heap_alloc_new _ _) (by simp [hDl.out, hDDl.out]) hDD1.out ?_; rw [hwx'.out]))
     refine hDo'.out.mono ?_
     rintro e w5 ⟨rfl, A5, M5, is5, rb5, rc5, vb5, vc5, St5, hP5, hsz5⟩
     have fin : Hid (∃ A M is rb rc vb vc, RunSt w0 wb sb (is.map IM.root) (is.map IM.w) rb rc vb vc w5 A M ∧ RunP (k + 1) M is ∧ M.pool.size = s) := h_ ⟨A5, M5, is5, rb5, rc5, vb5, vc5, St5, hP5, hsz5.trans hsz'.out⟩
     clear St5 hP5 hsz5 hDo'
     go_wp2_with fail
     go_roundw
     case rel => exact ⟨k + 1, by omega, by go_num, fin⟩
     case measure => simp [intOf] <;> omega
   ·have hki : ¬ ((k : Int) < (l.length : Int)) := by omega
    have hRt := runRight St hP (by omega) (by omega)
    have hRt' := h_ hRt
    have kk := h_ (k0'.out.trans St.own.kept)
    clear hRt hI St hP hsz I2
    go_wp2_with fail
    refine hRt'.out.mono ?_
    rintro e w5 ⟨rfl, k5⟩
    have kk5 := h_ (kk.out.trans k5)
    clear k5
    go_wp2_with fail
    go_ret
    exact ⟨rfl, kk5.out⟩
 ·refine wp_region_any (by kernel_rfl) ?_
  change wpAny _ _ _ _ _ _ _ (World.drew _)
  obtain ⟨v0, hv0⟩ : ∃ v0, w0.drew = v0 := ⟨_, rfl⟩
  rw [hv0] at kc0 ⊢
  clear hv0
  refine wpAny_take (i := 0) (v := .int .i64 p) rfl (by kernel_rfl) (by kernel_rfl) (by kernel_rfl) (fun _ _ _ h => by cases h.1) (.inl ⟨by rfl, fun w => by go_simp⟩) ?_
  simp only [Act.put, q1_, q2_, q3_, List.setIfInBounds_toArray, q5_, q6_]
  refine wpAny_ready (rs := [1, 2, 3]) (by kernel_rfl) (by simp) ?_
  refine AllReady.cons rfl (fun K hK => ?_) ?_
  ·rw [if_pos (by rfl)]
   simp only [Go.wp_at_zero, Go.wp_at_succ]
   go_simp
   refine (hm'.out _).mono ?_
   rintro e v1 ⟨A, rfl, hA1, hk1, hn1⟩
   have kc1 : Kept (fun _ => False) w0 v1 := kc0.trans hk1
   have hn0 : ∀ k, A.own k → w0.heap.size ≤ k := fun k e => Nat.le_trans kc0.size (hn1 k e)
   refine hK _ _ ?_
   clear hK K
   try simp only [Act.put, q1_, q2_, q3_, List.setIfInBounds_toArray, q5_, q6_]
   refine wpAny_ready (rs := [2, 3]) (by kernel_rfl) (by simp) ?_
   refine AllReady.cons rfl (fun K hK => ?_) ?_
   ·rw [if_pos (by rfl)]
    simp only [Go.wp_at_zero, Go.wp_at_succ]
    go_simp
    obtain ⟨rb, hrb⟩ : ∃ rb, v1.heap.size = rb := ⟨_, rfl⟩
    obtain ⟨v2, hw2⟩ : ∃ v2, v1.alloc (.cells #[.int .i64 (-1)] 3) = v2 := ⟨_, rfl⟩
    have kk2 : Kept (fun _ => False) v1 v2 := by rw [← hw2]; exact (Kept.refl _ _).alloc _
    have hR2 : v2.heap[rb]? = some (.cells #[.int .i64 (-1)] 3 (0, 0)) := by rw [← hw2, ← hrb]; exact heap_alloc_new _ _
    have r0 : w0.heap.size ≤ rb := by have := kc1.size; omega
    have kc2 := kc1.trans kk2
    have hA2 := hA1.fresh kk2
    have rn : ¬ A.own rb := fun e => by have h1 := hA1.lt e; omega
    try simp only [hw2, hrb]
    clear hw2 hrb
    refine hK _ _ ?_
    clear hK K
    try simp only [Act.put, q1_, q2_, q3_, List.setIfInBounds_toArray, q5_, q6_]
    refine wpAny_ready (rs := [3]) (by kernel_rfl) (by simp) ?_
    refine AllReady.cons rfl (fun K hK => ?_) ?_
    ·rw [if_pos (by rfl)]
     simp only [Go.wp_at_zero, Go.wp_at_succ]
     refine wp_exec (exec_make_img rfl) ?_
     obtain ⟨vb, hvb⟩ : ∃ vb, v2.heap.size = vb := ⟨_, rfl⟩
     obtain ⟨v3, hw3⟩ : ∃ v3, v2.alloc (.cells (List.replicate 1024 (Value.int .u8 0)).toArray 37) = v3 := ⟨_, rfl⟩
     have kk3 : Kept (fun _ => False) v2 v3 := by rw [← hw3]; exact (Kept.refl _ _).alloc _
     have hV3 : v3.heap[vb]? = some (.cells (List.replicate 1024 (Value.int .u8 0)).toArray 37 (0, 0)) := by rw [← hw3, ← hvb]; exact heap_alloc_new _ _
     have v0 : w0.heap.size ≤ vb := by have := kc2.size; omega
     have kc3 := kc2.trans kk3
     have hR3 := kk3.get hR2 id
     have hA3 := hA2.fresh kk3
     have vn : ¬ A.own vb := fun e => by have h1 := hA2.lt e; omega
     try simp only [hw3, hvb]
     clear hw3 hvb
     refine hK _ _ ?_
     clear hK K
     try simp only [Act.put, q1_, q2_, q3_, List.setIfInBounds_toArray, q5_, q6_]
     refine wpAny_take (i := 4) (v := .agg #[.pointer (some ⟨A.sb, 0, none⟩), .slice (some ⟨rb, 0, none⟩) 1 1, .slice (some ⟨vb, 0, none⟩) 1 1]) rfl (by kernel_rfl) (by kernel_rfl) (by kernel_rfl) (fun _ _ _ h => by cases h.1) (.inl ⟨by rfl, fun w => exec_build 103 #[(0, .tmp 22), (1, .tmp 23), (2, .tmp 24)] #[(0, .agg #[.pointer (some ⟨A.sb, 0, none⟩)]), (1, .slice (some ⟨rb, 0, none⟩) 1 1), (2, .slice (some ⟨vb, 0, none⟩) 1 1)] rfl (by simp [Act.eval]) (run_build _ _ _ _ (by kernel_rfl))⟩) ?_
     simp only [Act.put, q1_, q2_, q3_, List.setIfInBounds_toArray, q5_, q6_]
     refine wpAny_ready (rs := [5]) (by kernel_rfl) (by simp) ?_
     refine AllReady.cons rfl (fun K hK => ?_) ?_
     ·rw [if_pos (by rfl)]
      simp only [Go.wp_at_zero, Go.wp_at_succ]
      go_simp
      refine hK _ _ ?_
      clear hK K
      try simp only [Act.put, q1_, q2_, q3_, List.setIfInBounds_toArray, q5_, q6_]
      refine wpAny_take (i := 6) (v := .pointer (some ⟨v3.heap.size, 0, none⟩)) rfl (by kernel_rfl) (by kernel_rfl) (by kernel_rfl) (fun _ _ _ h => by cases h.1) (.inl ⟨by rfl, fun w => by go_simp⟩) ?_
      simp only [Act.put, q1_, q2_, q3_, List.setIfInBounds_toArray, q5_, q6_]
      refine wpAny_done (by kernel_rfl) ?_ _
      exact ⟨rfl, A, v3.heap.size, rb, vb, rfl, runNew ⟨hA3, kc3, hn0⟩ rfl hR3 hV3 r0 v0 rn vn⟩
     exact AllReady.nil
    exact AllReady.nil
   refine AllReady.cons rfl (fun K hK => ?_) ?_
   ·rw [if_pos (by rfl)]
    simp only [Go.wp_at_zero, Go.wp_at_succ]
    refine wp_exec (exec_make_img rfl) ?_
    obtain ⟨vb, hvb⟩ : ∃ vb, v1.heap.size = vb := ⟨_, rfl⟩
    obtain ⟨v2, hw2⟩ : ∃ v2, v1.alloc (.cells (List.replicate 1024 (Value.int .u8 0)).toArray 37) = v2 := ⟨_, rfl⟩
    have kk2 : Kept (fun _ => False) v1 v2 := by rw [← hw2]; exact (Kept.refl _ _).alloc _
    have hV2 : v2.heap[vb]? = some (.cells (List.replicate 1024 (Value.int .u8 0)).toArray 37 (0, 0)) := by rw [← hw2, ← hvb]; exact heap_alloc_new _ _
    have v0 : w0.heap.size ≤ vb := by have := kc1.size; omega
    have kc2 := kc1.trans kk2
    have hA2 := hA1.fresh kk2
    have vn : ¬ A.own vb := fun e => by have h1 := hA1.lt e; omega
    try simp only [hw2, hvb]
    clear hw2 hvb
    refine hK _ _ ?_
    clear hK K
    try simp only [Act.put, q1_, q2_, q3_, List.setIfInBounds_toArray, q5_, q6_]
    refine wpAny_ready (rs := [2]) (by kernel_rfl) (by simp) ?_
    refine AllReady.cons rfl (fun K hK => ?_) ?_
    ·rw [if_pos (by rfl)]
     simp only [Go.wp_at_zero, Go.wp_at_succ]
     go_simp
     obtain ⟨rb, hrb⟩ : ∃ rb, v2.heap.size = rb := ⟨_, rfl⟩
     obtain ⟨v3, hw3⟩ : ∃ v3, v2.alloc (.cells #[.int .i64 (-1)] 3) = v3 := ⟨_, rfl⟩
     have kk3 : Kept (fun _ => False) v2 v3 := by rw [← hw3]; exact (Kept.refl _ _).alloc _
     have hR3 : v3.heap[rb]? = some (.cells #[.int .i64 (-1)] 3 (0, 0)) := by rw [← hw3, ← hrb]; exact heap_alloc_new _ _
     have r0 : w0.heap.size ≤ rb := by have := kc2.size; omega
     have kc3 := kc2.trans kk3
     have hV3 := kk3.get hV2 id
     have hA3 := hA2.fresh kk3
     have rn : ¬ A.own rb := fun e => by have h1 := hA2.lt e; omega
     try simp only [hw3, hrb]
     clear hw3 hrb
     refine hK _ _ ?_
     clear hK K
     try simp only [Act.put, q1_, q2_, q3_, List.setIfInBounds_toArray, q5_, q6_]
     refine wpAny_take (i := 4) (v := .agg #[.pointer (some ⟨A.sb, 0, none⟩), .slice (some ⟨rb, 0, none⟩) 1 1, .slice (some ⟨vb, 0, none⟩) 1 1]) rfl (by kernel_rfl) (by kernel_rfl) (by kernel_rfl) (fun _ _ _ h => by cases h.1) (.inl ⟨by rfl, fun w => exec_build 103 #[(0, .tmp 22), (1, .tmp 23), (2, .tmp 24)] #[(0, .agg #[.pointer (some ⟨A.sb, 0, none⟩)]), (1, .slice (some ⟨rb, 0, none⟩) 1 1), (2, .slice (some ⟨vb, 0, none⟩) 1 1)] rfl (by simp [Act.eval]) (run_build _ _ _ _ (by kernel_rfl))⟩) ?_
     simp only [Act.put, q1_, q2_, q3_, List.setIfInBounds_toArray, q5_, q6_]
     refine wpAny_ready (rs := [5]) (by kernel_rfl) (by simp) ?_
     refine AllReady.cons rfl (fun K hK => ?_) ?_
     ·rw [if_pos (by rfl)]
      simp only [Go.wp_at_zero, Go.wp_at_succ]
      go_simp
      refine hK _ _ ?_
      clear hK K
      try simp only [Act.put, q1_, q2_, q3_, List.setIfInBounds_toArray, q5_, q6_]
      refine wpAny_take (i := 6) (v := .pointer (some ⟨v3.heap.size, 0, none⟩)) rfl (by kernel_rfl) (by kernel_rfl) (by kernel_rfl) (fun _ _ _ h => by cases h.1) (.inl ⟨by rfl, fun w => by go_simp⟩) ?_
      simp only [Act.put, q1_, q2_, q3_, List.setIfInBounds_toArray, q5_, q6_]
      refine wpAny_done (by kernel_rfl) ?_ _
      exact ⟨rfl, A, v3.heap.size, rb, vb, rfl, runNew ⟨hA3, kc3, hn0⟩ rfl hR3 hV3 r0 v0 rn vn⟩
     exact AllReady.nil
    exact AllReady.nil
   exact AllReady.nil
  refine AllReady.cons rfl (fun K hK => ?_) ?_
  ·rw [if_pos (by rfl)]
   simp only [Go.wp_at_zero, Go.wp_at_succ]
   go_simp
   obtain ⟨rb, hrb⟩ : ∃ rb, v0.heap.size = rb := ⟨_, rfl⟩
   obtain ⟨v1, hw1⟩ : ∃ v1, v0.alloc (.cells #[.int .i64 (-1)] 3) = v1 := ⟨_, rfl⟩
   have kk1 : Kept (fun _ => False) v0 v1 := by rw [← hw1]; exact (Kept.refl _ _).alloc _
   have hR1 : v1.heap[rb]? = some (.cells #[.int .i64 (-1)] 3 (0, 0)) := by rw [← hw1, ← hrb]; exact heap_alloc_new _ _
   have r0 : w0.heap.size ≤ rb := by have := kc0.size; omega
   have kc1 := kc0.trans kk1
   try simp only [hw1, hrb]
   clear hw1 hrb
   refine hK _ _ ?_
   clear hK K
   try simp only [Act.put, q1_, q2_, q3_, List.setIfInBounds_toArray, q5_, q6_]
   refine wpAny_ready (rs := [1, 3]) (by kernel_rfl) (by simp) ?_
   refine AllReady.cons rfl (fun K hK => ?_) ?_
   ·rw [if_pos (by rfl)]
    simp only [Go.wp_at_zero, Go.wp_at_succ]
    go_simp
    refine (hm'.out _).mono ?_
    rintro e v2 ⟨A, rfl, hA2, hk2, hn2⟩
    have kc2 : Kept (fun _ => False) w0 v2 := kc1.trans hk2
    have hn0 : ∀ k, A.own k → w0.heap.size ≤ k := fun k e => Nat.le_trans kc1.size (hn2 k e)
    have hR2 := hk2.get hR1 id
    have rn : ¬ A.own rb := fun e => by have h1 := hn2 rb e; have h2 := lt_of_heap hR1; omega
    refine hK _ _ ?_
    clear hK K
    try simp only [Act.put, q1_, q2_, q3_, List.setIfInBounds_toArray, q5_, q6_]
    refine wpAny_ready (rs := [3]) (by kernel_rfl) (by simp) ?_
    refine AllReady.cons rfl (fun K hK => ?_) ?_
    ·rw [if_pos (by rfl)]
     simp only [Go.wp_at_zero, Go.wp_at_succ]
     refine wp_exec (exec_make_img rfl) ?_
     obtain ⟨vb, hvb⟩ : ∃ vb, v2.heap.size = vb := ⟨_, rfl⟩
     obtain ⟨v3, hw3⟩ : ∃ v3, v2.alloc (.cells (List.replicate 1024 (Value.int .u8 0)).toArray 37) = v3 := ⟨_, rfl⟩
     have kk3 : Kept (fun _ => False) v2 v3 := by rw [← hw3]; exact (Kept.refl _ _).alloc _
     have hV3 : v3.heap[vb]? = some (.cells (List.replicate 1024 (Value.int .u8 0)).toArray 37 (0, 0)) := by rw [← hw3, ← hvb]; exact heap_alloc_new _ _
     have v0 : w0.heap.size ≤ vb := by have := kc2.size; omega
     have kc3 := kc2.trans kk3
     have hR3 := kk3.get hR2 id
     have hA3 := hA2.fresh kk3
     have vn : ¬ A.own vb := fun e => by have h1 := hA2.lt e; omega
     try simp only [hw3, hvb]
     clear hw3 hvb
     refine hK _ _ ?_
     clear hK K
     try simp only [Act.put, q1_, q2_, q3_, List.setIfInBounds_toArray, q5_, q6_]
     refine wpAny_take (i := 4) (v := .agg #[.pointer (some ⟨A.sb, 0, none⟩), .slice (some ⟨rb, 0, none⟩) 1 1, .slice (some ⟨vb, 0, none⟩) 1 1]) rfl (by kernel_rfl) (by kernel_rfl) (by kernel_rfl) (fun _ _ _ h => by cases h.1) (.inl ⟨by rfl, fun w => exec_build 103 #[(0, .tmp 22), (1, .tmp 23), (2, .tmp 24)] #[(0, .agg #[.pointer (some ⟨A.sb, 0, none⟩)]), (1, .slice (some ⟨rb, 0, none⟩) 1 1), (2, .slice (some ⟨vb, 0, none⟩) 1 1)] rfl (by simp [Act.eval]) (run_build _ _ _ _ (by kernel_rfl))⟩) ?_
     simp only [Act.put, q1_, q2_, q3_, List.setIfInBounds_toArray, q5_, q6_]
     refine wpAny_ready (rs := [5]) (by kernel_rfl) (by simp) ?_
     refine AllReady.cons rfl (fun K hK => ?_) ?_
     ·rw [if_pos (by rfl)]
      simp only [Go.wp_at_zero, Go.wp_at_succ]
      go_simp
      refine hK _ _ ?_
      clear hK K
      try simp only [Act.put, q1_, q2_, q3_, List.setIfInBounds_toArray, q5_, q6_]
      refine wpAny_take (i := 6) (v := .pointer (some ⟨v3.heap.size, 0, none⟩)) rfl (by kernel_rfl) (by kernel_rfl) (by kernel_rfl) (fun _ _ _ h => by cases h.1) (.inl ⟨by rfl, fun w => by go_simp⟩) ?_
      simp only [Act.put, q1_, q2_, q3_, List.setIfInBounds_toArray, q5_, q6_]
      refine wpAny_done (by kernel_rfl) ?_ _
      exact ⟨rfl, A, v3.heap.size, rb, vb, rfl, runNew ⟨hA3, kc3, hn0⟩ rfl hR3 hV3 r0 v0 rn vn⟩
     exact AllReady.nil
    exact AllReady.nil
   refine AllReady.cons rfl (fun K hK => ?_) ?_
   ·rw [if_pos (by rfl)]
    simp only [Go.wp_at_zero, Go.wp_at_succ]
    refine wp_exec (exec_make_img rfl) ?_
    obtain ⟨vb, hvb⟩ : ∃ vb, v1.heap.size = vb := ⟨_, rfl⟩
    obtain ⟨v2, hw2⟩ : ∃ v2, v1.alloc (.cells (List.replicate 1024 (Value.int .u8 0)).toArray 37) = v2 := ⟨_, rfl⟩
    have kk2 : Kept (fun _ => False) v1 v2 := by rw [← hw2]; exact (Kept.refl _ _).alloc _
    have hV2 : v2.heap[vb]? = some (.cells (List.replicate 1024 (Value.int .u8 0)).toArray 37 (0, 0)) := by rw [← hw2, ← hvb]; exact heap_alloc_new _ _
    have v0 : w0.heap.size ≤ vb := by have := kc1.size; omega
    have kc2 := kc1.trans kk2
    have hR2 := kk2.get hR1 id
    try simp only [hw2, hvb]
    clear hw2 hvb
    refine hK _ _ ?_
    clear hK K
    try simp only [Act.put, q1_, q2_, q3_, List.setIfInBounds_toArray, q5_, q6_]
    refine wpAny_ready (rs := [1]) (by kernel_rfl) (by simp) ?_
    refine AllReady.cons rfl (fun K hK => ?_) ?_
    ·rw [if_pos (by rfl)]
     simp only [Go.wp_at_zero, Go.wp_at_succ]
     go_simp
     refine (hm'.out _).mono ?_
     rintro e v3 ⟨A, rfl, hA3, hk3, hn3⟩
     have kc3 : Kept (fun _ => False) w0 v3 := kc2.trans hk3
     have hn0 : ∀ k, A.own k → w0.heap.size ≤ k := fun k e => Nat.le_trans kc2.size (hn3 k e)
     have hR3 := hk3.get hR2 id
     have rn : ¬ A.own rb := fun e => by have h1 := hn3 rb e; have h2 := lt_of_heap hR2; omega
     have hV3 := hk3.get hV2 id
     have vn : ¬ A.own vb := fun e => by have h1 := hn3 vb e; have h2 := lt_of_heap hV2; omega
     refine hK _ _ ?_
     clear hK K
     try simp only [Act.put, q1_, q2_, q3_, List.setIfInBounds_toArray, q5_, q6_]
     refine wpAny_take (i := 4) (v := .agg #[.pointer (some ⟨A.sb, 0, none⟩), .slice (some ⟨rb, 0, none⟩) 1 1, .slice (some ⟨vb, 0, none⟩) 1 1]) rfl (by kernel_rfl) (by kernel_rfl) (by kernel_rfl) (fun _ _ _ h => by cases h.1) (.inl ⟨by rfl, fun w => exec_build 103 #[(0, .tmp 22), (1, .tmp 23), (2, .tmp 24)] #[(0, .agg #[.pointer (some ⟨A.sb, 0, none⟩)]), (1, .slice (some ⟨rb, 0, none⟩) 1 1), (2, .slice (some ⟨vb, 0, none⟩) 1 1)] rfl (by simp [Act.eval]) (run_build _ _ _ _ (by kernel_rfl))⟩) ?_
     simp only [Act.put, q1_, q2_, q3_, List.setIfInBounds_toArray, q5_, q6_]
     refine wpAny_ready (rs := [5]) (by kernel_rfl) (by simp) ?_
     refine AllReady.cons rfl (fun K hK => ?_) ?_
     ·rw [if_pos (by rfl)]
      simp only [Go.wp_at_zero, Go.wp_at_succ]
      go_simp
      refine hK _ _ ?_
      clear hK K
      try simp only [Act.put, q1_, q2_, q3_, List.setIfInBounds_toArray, q5_, q6_]
      refine wpAny_take (i := 6) (v := .pointer (some ⟨v3.heap.size, 0, none⟩)) rfl (by kernel_rfl) (by kernel_rfl) (by kernel_rfl) (fun _ _ _ h => by cases h.1) (.inl ⟨by rfl, fun w => by go_simp⟩) ?_
      simp only [Act.put, q1_, q2_, q3_, List.setIfInBounds_toArray, q5_, q6_]
      refine wpAny_done (by kernel_rfl) ?_ _
      exact ⟨rfl, A, v3.heap.size, rb, vb, rfl, runNew ⟨hA3, kc3, hn0⟩ rfl hR3 hV3 r0 v0 rn vn⟩
     exact AllReady.nil
    exact AllReady.nil
   exact AllReady.nil
  refine AllReady.cons rfl (fun K hK => ?_) ?_
  ·rw [if_pos (by rfl)]
   simp only [Go.wp_at_zero, Go.wp_at_succ]
   refine wp_exec (exec_make_img rfl) ?_
   obtain ⟨vb, hvb⟩ : ∃ vb, v0.heap.size = vb := ⟨_, rfl⟩
   obtain ⟨v1, hw1⟩ : ∃ v1, v0.alloc (.cells (List.replicate 1024 (Value.int .u8 0)).toArray 37) = v1 := ⟨_, rfl⟩
   have kk1 : Kept (fun _ => False) v0 v1 := by rw [← hw1]; exact (Kept.refl _ _).alloc _
   have hV1 : v1.heap[vb]? = some (.cells (List.replicate 1024 (Value.int .u8 0)).toArray 37 (0, 0)) := by rw [← hw1, ← hvb]; exact heap_alloc_new _ _
   have v0 : w0.heap.size ≤ vb := by have := kc0.size; omega
   have kc1 := kc0.trans kk1
   try simp only [hw1, hvb]
   clear hw1 hvb
   refine hK _ _ ?_
   clear hK K
   try simp only [Act.put, q1_, q2_, q3_, List.setIfInBounds_toArray, q5_, q6_]
   refine wpAny_ready (rs := [1, 2]) (by kernel_rfl) (by simp) ?_
   refine AllReady.cons rfl (fun K hK => ?_) ?_
   ·rw [if_pos (by rfl)]
    simp only [Go.wp_at_zero, Go.wp_at_succ]
    go_simp
    refine (hm'.out _).mono ?_
    rintro e v2 ⟨A, rfl, hA2, hk2, hn2⟩
    have kc2 : Kept (fun _ => False) w0 v2 := kc1.trans hk2
    have hn0 : ∀ k, A.own k → w0.heap.size ≤ k := fun k e => Nat.le_trans kc1.size (hn2 k e)
    have hV2 := hk2.get hV1 id
    have vn : ¬ A.own vb := fun e => by have h1 := hn2 vb e; have h2 := lt_of_heap hV1; omega
    refine hK _ _ ?_
    clear hK K
    try simp only [Act.put, q1_, q2_, q3_, List.setIfInBounds_toArray, q5_, q6_]
    refine wpAny_ready (rs := [2]) (by kernel_rfl) (by simp) ?_
    refine AllReady.cons rfl (fun K hK => ?_) ?_
    ·rw [if_pos (by rfl)]
     simp only [Go.wp_at_zero, Go.wp_at_succ]
     go_simp
     obtain ⟨rb, hrb⟩ : ∃ rb, v2.heap.size = rb := ⟨_, rfl⟩
     obtain ⟨v3, hw3⟩ : ∃ v3, v2.alloc (.cells #[.int .i64 (-1)] 3) = v3 := ⟨_, rfl⟩
     have kk3 : Kept (fun _ => False) v2 v3 := by rw [← hw3]; exact (Kept.refl _ _).alloc _
     have hR3 : v3.heap[rb]? = some (.cells #[.int .i64 (-1)] 3 (0, 0)) := by rw [← hw3, ← hrb]; exact heap_alloc_new _ _
     have r0 : w0.heap.size ≤ rb := by have := kc2.size; omega
     have kc3 := kc2.trans kk3
     have hV3 := kk3.get hV2 id
     have hA3 := hA2.fresh kk3
     have rn : ¬ A.own rb := fun e => by have h1 := hA2.lt e; omega
     try simp only [hw3, hrb]
     clear hw3 hrb
     refine hK _ _ ?_
     clear hK K
     try simp only [Act.put, q1_, q2_, q3_, List.setIfInBounds_toArray, q5_, q6_]
     refine wpAny_take (i := 4) (v := .agg #[.pointer (some ⟨A.sb, 0, none⟩), .slice (some ⟨rb, 0, none⟩) 1 1, .slice (some ⟨vb, 0, none⟩) 1 1]) rfl (by kernel_rfl) (by kernel_rfl) (by kernel_rfl) (fun _ _ _ h => by cases h.1) (.inl ⟨by rfl, fun w => exec_build 103 #[(0, .tmp 22), (1, .tmp 23), (2, .tmp 24)] #[(0, .agg #[.pointer (some ⟨A.sb, 0, none⟩)]), (1, .slice (some ⟨rb, 0, none⟩) 1 1), (2, .slice (some ⟨vb, 0, none⟩) 1 1)] rfl (by simp [Act.eval]) (run_build _ _ _ _ (by kernel_rfl))⟩) ?_
     simp only [Act.put, q1_, q2_, q3_, List.setIfInBounds_toArray, q5_, q6_]
     refine wpAny_ready (rs := [5]) (by kernel_rfl) (by simp) ?_
     refine AllReady.cons rfl (fun K hK => ?_) ?_
     ·rw [if_pos (by rfl)]
      simp only [Go.wp_at_zero, Go.wp_at_succ]
      go_simp
      refine hK _ _ ?_
      clear hK K
      try simp only [Act.put, q1_, q2_, q3_, List.setIfInBounds_toArray, q5_, q6_]
      refine wpAny_take (i := 6) (v := .pointer (some ⟨v3.heap.size, 0, none⟩)) rfl (by kernel_rfl) (by kernel_rfl) (by kernel_rfl) (fun _ _ _ h => by cases h.1) (.inl ⟨by rfl, fun w => by go_simp⟩) ?_
      simp only [Act.put, q1_, q2_, q3_, List.setIfInBounds_toArray, q5_, q6_]
      refine wpAny_done (by kernel_rfl) ?_ _
      exact ⟨rfl, A, v3.heap.size, rb, vb, rfl, runNew ⟨hA3, kc3, hn0⟩ rfl hR3 hV3 r0 v0 rn vn⟩
     exact AllReady.nil
    exact AllReady.nil
   refine AllReady.cons rfl (fun K hK => ?_) ?_
   ·rw [if_pos (by rfl)]
    simp only [Go.wp_at_zero, Go.wp_at_succ]
    go_simp
    obtain ⟨rb, hrb⟩ : ∃ rb, v1.heap.size = rb := ⟨_, rfl⟩
    obtain ⟨v2, hw2⟩ : ∃ v2, v1.alloc (.cells #[.int .i64 (-1)] 3) = v2 := ⟨_, rfl⟩
    have kk2 : Kept (fun _ => False) v1 v2 := by rw [← hw2]; exact (Kept.refl _ _).alloc _
    have hR2 : v2.heap[rb]? = some (.cells #[.int .i64 (-1)] 3 (0, 0)) := by rw [← hw2, ← hrb]; exact heap_alloc_new _ _
    have r0 : w0.heap.size ≤ rb := by have := kc1.size; omega
    have kc2 := kc1.trans kk2
    have hV2 := kk2.get hV1 id
    try simp only [hw2, hrb]
    clear hw2 hrb
    refine hK _ _ ?_
    clear hK K
    try simp only [Act.put, q1_, q2_, q3_, List.setIfInBounds_toArray, q5_, q6_]
    refine wpAny_ready (rs := [1]) (by kernel_rfl) (by simp) ?_
    refine AllReady.cons rfl (fun K hK => ?_) ?_
    ·rw [if_pos (by rfl)]
     simp only [Go.wp_at_zero, Go.wp_at_succ]
     go_simp
     refine (hm'.out _).mono ?_
     rintro e v3 ⟨A, rfl, hA3, hk3, hn3⟩
     have kc3 : Kept (fun _ => False) w0 v3 := kc2.trans hk3
     have hn0 : ∀ k, A.own k → w0.heap.size ≤ k := fun k e => Nat.le_trans kc2.size (hn3 k e)
     have hR3 := hk3.get hR2 id
     have rn : ¬ A.own rb := fun e => by have h1 := hn3 rb e; have h2 := lt_of_heap hR2; omega
     have hV3 := hk3.get hV2 id
     have vn : ¬ A.own vb := fun e => by have h1 := hn3 vb e; have h2 := lt_of_heap hV2; omega
     refine hK _ _ ?_
     clear hK K
     try simp only [Act.put, q1_, q2_, q3_, List.setIfInBounds_toArray, q5_, q6_]
     refine wpAny_take (i := 4) (v := .agg #[.pointer (some ⟨A.sb, 0, none⟩), .slice (some ⟨rb, 0, none⟩) 1 1, .slice (some ⟨vb, 0, none⟩) 1 1]) rfl (by kernel_rfl) (by kernel_rfl) (by kernel_rfl) (fun _ _ _ h => by cases h.1) (.inl ⟨by rfl, fun w => exec_build 103 #[(0, .tmp 22), (1, .tmp 23), (2, .tmp 24)] #[(0, .agg #[.pointer (some ⟨A.sb, 0, none⟩)]), (1, .slice (some ⟨rb, 0, none⟩) 1 1), (2, .slice (some ⟨vb, 0, none⟩) 1 1)] rfl (by simp [Act.eval]) (run_build _ _ _ _ (by kernel_rfl))⟩) ?_
     simp only [Act.put, q1_, q2_, q3_, List.setIfInBounds_toArray, q5_, q6_]
     refine wpAny_ready (rs := [5]) (by kernel_rfl) (by simp) ?_
     refine AllReady.cons rfl (fun K hK => ?_) ?_
     ·rw [if_pos (by rfl)]
      simp only [Go.wp_at_zero, Go.wp_at_succ]
      go_simp
      refine hK _ _ ?_
      clear hK K
      try simp only [Act.put, q1_, q2_, q3_, List.setIfInBounds_toArray, q5_, q6_]
      refine wpAny_take (i := 6) (v := .pointer (some ⟨v3.heap.size, 0, none⟩)) rfl (by kernel_rfl) (by kernel_rfl) (by kernel_rfl) (fun _ _ _ h => by cases h.1) (.inl ⟨by rfl, fun w => by go_simp⟩) ?_
      simp only [Act.put, q1_, q2_, q3_, List.setIfInBounds_toArray, q5_, q6_]
      refine wpAny_done (by kernel_rfl) ?_ _
      exact ⟨rfl, A, v3.heap.size, rb, vb, rfl, runNew ⟨hA3, kc3, hn0⟩ rfl hR3 hV3 r0 v0 rn vn⟩
     exact AllReady.nil
    exact AllReady.nil
   exact AllReady.nil
  exact AllReady.nil
end Go.Proofs.YtidlchciehdefaaGreat
