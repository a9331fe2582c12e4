/-
  understudylaw12.diffAlive: the chapter's example.
-/
import Derived.Test.YtidlchciehdefaaGreatK02
import Derived.Test.YtidlchciehdefaaGreatK12
import Derived.Test.YtidlchciehdefaaGreatK17
import Derived.Test.YtidlchciehdefaaGreatK18
import Derived.Deep.RegionHeld3
set_option linter.unusedVariables false
set_option linter.unusedSimpArgs false
namespace Go.Proofs.YtidlchciehdefaaGreat
open Go.RowKit
set_option maxRecDepth 100000

theorem run_equalIn_change (d : Nat) (p q : Int × Int) (w : World) : (Op.equalIn (d + 2) 92 (.agg #[.int .i64 p.1, .int .i64 p.2]) (.agg #[.int .i64 q.1, .int .i64 q.2])).run Tryz.prog w = .ok (decide (p = q)) w := by
  obtain ⟨p1, p2⟩ := p
  obtain ⟨q1, q2⟩ := q
  have hi : ∀ w, (isAgg 3).run Tryz.prog w = .ok false w := fun w => by
    unfold isAgg
    rw [Sem.run_bind, run_underlying Tryz.underlying3 w]
    rfl
  have hS : Tryz.prog.underlying 92 = some (.struct (Tryz.prog.fieldsOf 92)) := by kernel_rfl
  have hp : Tryz.prog.stoodInHeld 92 = false := by kernel_rfl
  have hq : ∀ (a b : Int) w, (Op.equalIn (d + 1) 3 (.int .i64 a) (.int .i64 b)).run Tryz.prog w = .ok (a == b) w := fun a b w => run_equalIn_int w d 3 .i64 .i64 a b Tryz.underlying3
  rw [run_equalIn_struct w (d + 1) 92 _ _ hS hp]
  simp only [Program.fieldsOf, Tryz.underlying92]
  by_cases h1 : p1 = q1
  · by_cases h2 : p2 = q2
    · simp [Op.eqFields, part, hi, hq, h1, h2]
    · simp [Op.eqFields, part, hi, hq, h1, h2]
  · simp [Op.eqFields, part, hi, hq, h1]
theorem exec_eql_change {o : Oper} {a : Act} {x y : Operand} {u : TypeId} (ho : o.op = .binOp .eql 92 x y u) (p q : Int × Int) (hx : a.eval x = .agg #[.int .i64 p.1, .int .i64 p.2]) (hy : a.eval y = .agg #[.int .i64 q.1, .int .i64 q.2]) (w : World) :
    (execOp a.eval o).run Tryz.prog w = .ok (.value (.bool (decide (p = q)))) w := by
  unfold execOp
  have hm : Tryz.prog.eqGuardType Tryz.prog.depth 92 = false := by kernel_rfl
  have he := run_equalIn_change 9998 p q w
  simp only [ho, hx, hy, Sem.run_bind, run_eqGuard_agg (hm := hm), Result.andThen_ok, run_eql_struct, he]
  rfl
/-- The differ's variable, the pages, and the store. -/
structure DifSt (w0 : World) (db sb g p0 p1 p2 : Nat) (wr : World) (A : SA) (M : SM) : Prop where
  own : OwnStore w0 A M wr
  box : wr.heap[db]? = some (.cells #[.pointer (some ⟨sb, 0, none⟩)] 30 (0, 0))
  bsafe : Safe wr A db
  eq : A.sb = sb
  c0 : wr.cell? ⟨g, 0, none⟩ = some (.int .i64 p0)
  c1 : wr.cell? ⟨g, 0 + 1, none⟩ = some (.int .i64 p1)
  c2 : wr.cell? ⟨g, 0 + 2, none⟩ = some (.int .i64 p2)
  gsafe : Safe wr A g
theorem DifSt.fresh {w0 wr w' : World} {db sb g p0 p1 p2 : Nat} {A : SA} {M : SM} (h : DifSt w0 db sb g p0 p1 p2 wr A M) (k : Kept (fun _ => False) wr w') : DifSt w0 db sb g p0 p1 p2 w' A M :=
  ⟨h.own.fresh k, k.get h.box id, h.bsafe.fresh k, h.eq, k.cell h.c0 id, k.cell h.c1 id, k.cell h.c2 id, h.gsafe.fresh k⟩
theorem DifSt.to {w0 wr w' : World} {db sb g p0 p1 p2 : Nat} {A A' : SA} {M M' : SM} (h : DifSt w0 db sb g p0 p1 p2 wr A M) (k : StoreTo A A' M' wr w') : DifSt w0 db sb g p0 p1 p2 w' A' M' :=
  ⟨h.own.to k, k.get h.box h.bsafe, h.bsafe.to k, k.sb.trans h.eq, k.kept.cell h.c0 h.gsafe.off, k.kept.cell h.c1 h.gsafe.off, k.kept.cell h.c2 h.gsafe.off, h.gsafe.to k⟩
theorem DifSt.load {w0 wr : World} {db sb g p0 p1 p2 : Nat} {A : SA} {M : SM} (h : DifSt w0 db sb g p0 p1 p2 wr A M) : ∀ j v, [Value.pointer (some ⟨sb, 0, none⟩)][j]? = some v → wr.cell? ⟨db, 0 + j, none⟩ = some v := fun j v hj => by rw [Nat.zero_add, cell_of_heap h.box]; simpa using hj
theorem two_cells {W : World} {b off : Nat} {x y : Value} (h1 : W.cell? ⟨b, off, none⟩ = some x) (h2 : W.cell? ⟨b, off + 1, none⟩ = some y) : ∀ j v, [x, y][j]? = some v → W.cell? ⟨b, off + j, none⟩ = some v
  | 0, v, hj => by rw [Nat.add_zero, h1]; simpa using hj
  | 1, v, hj => by rw [h2]; simpa using hj
  | j + 2, v, hj => by simp at hj
set_option maxHeartbeats 16000000 in
theorem diffAlive (w : World) : Calls Tryz.prog 47 #[] w fun e w' => e = .returned (.bool true) ∧ Kept (fun _ => False) w w' := by
  have hm := made12 w
  have hm' := Lib.hid hm
  clear hm
  go_enter Tryz.func47, Tryz.ntmps47
  go_wp2_with fail
  refine hm'.out.mono ?_
  rintro e w2 ⟨A, M, ns, v, rfl, hA, h4, hone, hnd, hrow, hoff, hlg, hk, hnew⟩
  rcases hrow.2 with ⟨_, h0⟩ | ⟨g, cp, cur, rfl, hb, hg, hn, hm2, hs, ht⟩
  · exact absurd h0 (by decide)
  obtain ⟨p0, p1, p2, p3, rfl⟩ : ∃ p0 p1 p2 p3, ns = [p0, p1, p2, p3] := by
    match ns, h4 with
    | [a, b, c, d], _ => exact ⟨a, b, c, d, rfl⟩
  have hsl := SliceAt.of_owns hrow
  have e0 := hsl.cell0 (j := 0) (v := .int .i64 p0) rfl
  have e1 := hsl.cell0 (j := 1) (v := .int .i64 p1) rfl
  have e2 := hsl.cell0 (j := 2) (v := .int .i64 p2) rfl
  have hgl := (hrow.lt g rfl).2
  obtain ⟨_, _, _, e4, hcp1, hcp2, _⟩ := hsl
  cases e4
  unfold maxLen at hcp2
  obtain ⟨M1, a, hbd, h1, hlg1⟩ := alive12_build hone h4 (p0 := p0) (p1 := p1) (by simp) (by simp)
  obtain ⟨db, hdb⟩ : ∃ db, w2.heap.size = db := ⟨_, rfl⟩
  obtain ⟨w3, hw3⟩ : ∃ w3, (w2.alloc (.cells #[.pointer none] 30)).setRow db #[.pointer (some ⟨A.sb, 0, none⟩)] = w3 := ⟨_, rfl⟩
  have k3 : Kept (fun _ => False) w2 w3 := by rw [← hw3]; exact ((Kept.refl _ _).alloc _).setRowNew (by omega) _
  have q3 : w3.heap[db]? = some (.cells #[.pointer (some ⟨A.sb, 0, none⟩)] 30 (0, 0)) := by rw [← hw3, ← hdb]; exact setRow_heap _ _ _ _ _ _ (heap_alloc_new _ _)
  have S3 : DifSt w db A.sb g p0 p1 p2 w3 A M := ⟨⟨hA.fresh k3, hk.trans k3, hnew⟩, q3, Safe.new hA (by omega) (lt_of_heap q3), rfl, k3.cell e0 id, k3.cell e1 id, k3.cell e2 id, ⟨Nat.lt_of_lt_of_le hgl k3.size, fun e => hoff g rfl (.inl e)⟩⟩
  obtain ⟨sb, hsb⟩ : ∃ sb, A.sb = sb := ⟨_, rfl⟩
  rw [hsb] at hw3 S3 ⊢
  have S3 := Lib.hid S3
  have hw3' := Lib.hid hw3
  have hdb' := Lib.hid hdb
  have hone' := Lib.hid hone
  have h1' := Lib.hid h1
  have hbd' := Lib.hid hbd
  clear hA hone hnd hrow hoff hk hnew hb hg hn hs ht e0 e1 e2 hgl hdb hw3 k3 q3 hbd h1 hm2
  go_wp2_with (first | (refine wpList_alloc_as 30 rfl rfl #[.pointer none] differ_zero ?_; rw [hdb'.out]) | (refine wpList_store_whole 30 rfl rfl rfl [.pointer (some ⟨sb, 0, none⟩)] rfl (by kernel_rfl) 30 #[.pointer none] (by rw [← hdb'.out]; exact heap_alloc_new _ _) rfl (by intro c hc; simp at hc; subst hc; rfl) ?_; rw [hw3'.out]))
  refine wp_region_held_drew (S := fun W => W.heap[db]? = some (.cells #[.pointer (some ⟨sb, 0, none⟩)] 30 (0, 0)) ∧ W.cell? ⟨g, 0, none⟩ = some (.int .i64 p0) ∧ W.cell? ⟨g, 0 + 1, none⟩ = some (.int .i64 p1) ∧ W.cell? ⟨g, 0 + 2, none⟩ = some (.int .i64 p2)) (by kernel_rfl) ⟨S3.out.box, S3.out.c0, S3.out.c1, S3.out.c2⟩ (fun hS => ?_)
  refine wpAnyH_take (i := 0) (v := .pointer (some ⟨db, 0, none⟩)) rfl (by kernel_rfl) (by kernel_rfl) (by kernel_rfl) (fun _ _ _ h => h) (Or.inl ⟨by rfl, fun W hW => by go_simp⟩) (by assumption) ?_
  simp only [Act.put, List.getElem_toArray, List.getElem_cons_zero, List.getElem_cons_succ, List.setIfInBounds_toArray, List.set_cons_zero, List.set_cons_succ]
  refine wpAnyH_take (i := 1) (v := .pointer (some ⟨db, 0, none⟩)) rfl (by kernel_rfl) (by kernel_rfl) (by kernel_rfl) (fun _ _ _ h => h) (Or.inl ⟨by rfl, fun W hW => by go_simp⟩) (by assumption) ?_
  simp only [Act.put, List.getElem_toArray, List.getElem_cons_zero, List.getElem_cons_succ, List.setIfInBounds_toArray, List.set_cons_zero, List.set_cons_succ]
  refine wpAnyH_take (i := 2) (v := .agg #[.pointer (some ⟨sb, 0, none⟩)]) rfl (by kernel_rfl) (by kernel_rfl) (by kernel_rfl) (fun _ _ _ h => h) (Or.inl ⟨by rfl, fun W hW => exec_load_agg rfl (by rfl) [.pointer (some ⟨sb, 0, none⟩)] Tryz.underlying26 rfl (by kernel_rfl) (fun j v hj => by rw [cell_of_heap hW.1, Nat.zero_add]; simpa using hj)⟩) (by assumption) ?_
  simp only [Act.put, List.getElem_toArray, List.getElem_cons_zero, List.getElem_cons_succ, List.setIfInBounds_toArray, List.set_cons_zero, List.set_cons_succ]
  refine wpAnyH_take (i := 3) (v := .slice (some ⟨g, 0, none⟩) 4 cp) rfl (by kernel_rfl) (by kernel_rfl) (by kernel_rfl) (fun _ _ _ h => h) (Or.inl ⟨by rfl, fun W hW => by go_simp⟩) (by assumption) ?_
  simp only [Act.put, List.getElem_toArray, List.getElem_cons_zero, List.getElem_cons_succ, List.setIfInBounds_toArray, List.set_cons_zero, List.set_cons_succ]
  refine wpAnyH_take (i := 4) (v := .pointer (some ⟨g, 0, none⟩)) rfl (by kernel_rfl) (by kernel_rfl) (by kernel_rfl) (fun _ _ _ h => h) (Or.inl ⟨by rfl, fun W hW => by go_simp⟩) (by assumption) ?_
  simp only [Act.put, List.getElem_toArray, List.getElem_cons_zero, List.getElem_cons_succ, List.setIfInBounds_toArray, List.set_cons_zero, List.set_cons_succ]
  refine wpAnyH_take (i := 5) (v := .int .i64 p0) rfl (by kernel_rfl) (by kernel_rfl) (by kernel_rfl) (fun _ _ _ h => h) (Or.inl ⟨by rfl, fun W hW => by have hc := hW.2.1; clear hW; go_simp⟩) (by assumption) ?_
  simp only [Act.put, List.getElem_toArray, List.getElem_cons_zero, List.getElem_cons_succ, List.setIfInBounds_toArray, List.set_cons_zero, List.set_cons_succ]
  refine wpAnyH_take (i := 6) (v := .agg #[.int .i64 1, .int .i64 p0]) rfl (by kernel_rfl) (by kernel_rfl) (by kernel_rfl) (fun _ _ _ h => h) (Or.inl ⟨by rfl, fun W hW => by go_simp⟩) (by assumption) ?_
  simp only [Act.put, List.getElem_toArray, List.getElem_cons_zero, List.getElem_cons_succ, List.setIfInBounds_toArray, List.set_cons_zero, List.set_cons_succ]
  refine wpAnyH_take (i := 7) (v := .slice (some ⟨g, 0, none⟩) 4 cp) rfl (by kernel_rfl) (by kernel_rfl) (by kernel_rfl) (fun _ _ _ h => h) (Or.inl ⟨by rfl, fun W hW => by go_simp⟩) (by assumption) ?_
  simp only [Act.put, List.getElem_toArray, List.getElem_cons_zero, List.getElem_cons_succ, List.setIfInBounds_toArray, List.set_cons_zero, List.set_cons_succ]
  refine wpAnyH_take (i := 8) (v := .pointer (some ⟨g, 0 + 1, none⟩)) rfl (by kernel_rfl) (by kernel_rfl) (by kernel_rfl) (fun _ _ _ h => h) (Or.inl ⟨by rfl, fun W hW => by go_simp⟩) (by assumption) ?_
  simp only [Act.put, List.getElem_toArray, List.getElem_cons_zero, List.getElem_cons_succ, List.setIfInBounds_toArray, List.set_cons_zero, List.set_cons_succ]
  refine wpAnyH_take (i := 9) (v := .int .i64 p1) rfl (by kernel_rfl) (by kernel_rfl) (by kernel_rfl) (fun _ _ _ h => h) (Or.inl ⟨by rfl, fun W hW => by have hc := hW.2.2.1; clear hW; go_simp⟩) (by assumption) ?_
  simp only [Act.put, List.getElem_toArray, List.getElem_cons_zero, List.getElem_cons_succ, List.setIfInBounds_toArray, List.set_cons_zero, List.set_cons_succ]
  refine wpAnyH_take (i := 10) (v := .agg #[.int .i64 2, .int .i64 p1]) rfl (by kernel_rfl) (by kernel_rfl) (by kernel_rfl) (fun _ _ _ h => h) (Or.inl ⟨by rfl, fun W hW => by go_simp⟩) (by assumption) ?_
  simp only [Act.put, List.getElem_toArray, List.getElem_cons_zero, List.getElem_cons_succ, List.setIfInBounds_toArray, List.set_cons_zero, List.set_cons_succ]
  refine wpAnyH_ready (rs := [11]) (by kernel_rfl) (by simp) ?_
  refine AllReadyH.cons rfl (fun K hK => ?_) ?_
  · rw [if_pos (by rfl)]
    simp only [Go.wp_at_zero, Go.wp_at_succ]
    go_simp
    have k4 : Kept (fun _ => False) w3 (w3.drew.alloc (.cells #[.int .i64 1, .int .i64 p0, .int .i64 2, .int .i64 p1] 86)) := (Kept.refl _ _).drew.alloc _
    have S4 := S3.out.fresh k4
    refine hK.out _ _ ⟨S4.box, S4.c0, S4.c1, S4.c2⟩ (fun hS4 => ?_)
    clear hK K
    try simp only [Act.put, List.getElem_toArray, List.getElem_cons_zero, List.getElem_cons_succ, List.setIfInBounds_toArray, List.set_cons_zero, List.set_cons_succ]
    obtain ⟨hS4', hE4⟩ := ents_new (S3.out.fresh ((Kept.refl (fun _ => False) w3).drew)).own.store (exA p0 p1) (by show 2 ≤ 1000; omega)
    have hB := treeBuild hS4' hE4 (by show 2 ≤ 1000; omega) (by omega)
    rw [hbd'.out, S3.out.eq] at hB
    dsimp only at hB
    have hB' := Lib.hid hB
    have S4 := Lib.hid S4
    clear hS4' hE4 hB k4
    refine wpAnyH_ready (rs := [12]) (by kernel_rfl) (by simp) ?_
    refine AllReadyH.cons rfl (fun K hK => ?_) ?_
    · rw [if_pos (by rfl)]
      simp only [Go.wp_at_zero, Go.wp_at_succ]
      go_simp
      refine hB'.out.mono ?_
      rintro e w5 ⟨A5, rfl, hT5⟩
      have S5 := S4.out.to hT5
      refine hK.out _ _ ⟨S5.box, S5.c0, S5.c1, S5.c2⟩ (fun hS5 => ?_)
      clear hK K
      try simp only [Act.put, List.getElem_toArray, List.getElem_cons_zero, List.getElem_cons_succ, List.setIfInBounds_toArray, List.set_cons_zero, List.set_cons_succ]
      have S5 := Lib.hid S5
      refine wpAnyH_take (i := 13) (v := .tuple #[.int .i64 a, .int .i64 0]) rfl (by kernel_rfl) (by kernel_rfl) (by kernel_rfl) (fun _ _ _ h => h) (Or.inl ⟨by rfl, fun W hW => by go_simp⟩) (by assumption) ?_
      simp only [Act.put, List.getElem_toArray, List.getElem_cons_zero, List.getElem_cons_succ, List.setIfInBounds_toArray, List.set_cons_zero, List.set_cons_succ]
      refine wpAnyH_take (i := 14) (v := .int .i64 a) rfl (by kernel_rfl) (by kernel_rfl) (by kernel_rfl) (fun _ _ _ h => h) (Or.inl ⟨by rfl, fun W hW => by go_simp⟩) (by assumption) ?_
      simp only [Act.put, List.getElem_toArray, List.getElem_cons_zero, List.getElem_cons_succ, List.setIfInBounds_toArray, List.set_cons_zero, List.set_cons_succ]
      refine wpAnyH_take (i := 15) (v := .int .i64 0) rfl (by kernel_rfl) (by kernel_rfl) (by kernel_rfl) (fun _ _ _ h => h) (Or.inl ⟨by rfl, fun W hW => by go_simp⟩) (by assumption) ?_
      simp only [Act.put, List.getElem_toArray, List.getElem_cons_zero, List.getElem_cons_succ, List.setIfInBounds_toArray, List.set_cons_zero, List.set_cons_succ]
      refine wpAnyH_take (i := 16) (v := .int .i64 a) rfl (by kernel_rfl) (by kernel_rfl) (by kernel_rfl) (fun _ _ _ h => h) (Or.inl ⟨by rfl, fun W hW => by go_simp⟩) (by assumption) ?_
      simp only [Act.put, List.getElem_toArray, List.getElem_cons_zero, List.getElem_cons_succ, List.setIfInBounds_toArray, List.set_cons_zero, List.set_cons_succ]
      refine wpAnyH_take (i := 17) (v := .int .i64 0) rfl (by kernel_rfl) (by kernel_rfl) (by kernel_rfl) (fun _ _ _ h => h) (Or.inl ⟨by rfl, fun W hW => by go_simp⟩) (by assumption) ?_
      simp only [Act.put, List.getElem_toArray, List.getElem_cons_zero, List.getElem_cons_succ, List.setIfInBounds_toArray, List.set_cons_zero, List.set_cons_succ]
      refine wpAnyH_done (by kernel_rfl) ?_ _
      clear hS hS4 hS5 hT5 hB'
      obtain ⟨M2, b, M3, hpt, hsw, hra, hrb, hlg3⟩ := alive12_put h1'.out h4 (p2 := p2) (by simp) (by simp) (by simp)
      have hra' := Lib.hid hra
      have hrb' := Lib.hid hrb
      have hsw' := Lib.hid hsw
      have hP := treePut (S5.out.fresh ((Kept.refl (fun _ => False) w5).drew)).own.store a 9 (p2 : Int) (by omega)
      rw [hpt, S5.out.eq] at hP
      dsimp only at hP
      have hP' := Lib.hid hP
      clear hpt hra hrb hsw hP
      go_wp2_with fail
      refine wp_region_held_drew (S := fun W => W.heap[db]? = some (.cells #[.pointer (some ⟨sb, 0, none⟩)] 30 (0, 0)) ∧ W.cell? ⟨g, 0, none⟩ = some (.int .i64 p0) ∧ W.cell? ⟨g, 0 + 1, none⟩ = some (.int .i64 p1) ∧ W.cell? ⟨g, 0 + 2, none⟩ = some (.int .i64 p2)) (by kernel_rfl) ⟨S5.out.box, S5.out.c0, S5.out.c1, S5.out.c2⟩ (fun hS => ?_)
      refine wpAnyH_take (i := 0) (v := .pointer (some ⟨db, 0, none⟩)) rfl (by kernel_rfl) (by kernel_rfl) (by kernel_rfl) (fun _ _ _ h => h) (Or.inl ⟨by rfl, fun W hW => by go_simp⟩) (by assumption) ?_
      simp only [Act.put, List.getElem_toArray, List.getElem_cons_zero, List.getElem_cons_succ, List.setIfInBounds_toArray, List.set_cons_zero, List.set_cons_succ]
      refine wpAnyH_take (i := 1) (v := .pointer (some ⟨db, 0, none⟩)) rfl (by kernel_rfl) (by kernel_rfl) (by kernel_rfl) (fun _ _ _ h => h) (Or.inl ⟨by rfl, fun W hW => by go_simp⟩) (by assumption) ?_
      simp only [Act.put, List.getElem_toArray, List.getElem_cons_zero, List.getElem_cons_succ, List.setIfInBounds_toArray, List.set_cons_zero, List.set_cons_succ]
      refine wpAnyH_take (i := 2) (v := .agg #[.pointer (some ⟨sb, 0, none⟩)]) rfl (by kernel_rfl) (by kernel_rfl) (by kernel_rfl) (fun _ _ _ h => h) (Or.inl ⟨by rfl, fun W hW => exec_load_agg rfl (by rfl) [.pointer (some ⟨sb, 0, none⟩)] Tryz.underlying26 rfl (by kernel_rfl) (fun j v hj => by rw [cell_of_heap hW.1, Nat.zero_add]; simpa using hj)⟩) (by assumption) ?_
      simp only [Act.put, List.getElem_toArray, List.getElem_cons_zero, List.getElem_cons_succ, List.setIfInBounds_toArray, List.set_cons_zero, List.set_cons_succ]
      refine wpAnyH_take (i := 3) (v := .int .i64 a) rfl (by kernel_rfl) (by kernel_rfl) (by kernel_rfl) (fun _ _ _ h => h) (Or.inl ⟨by rfl, fun W hW => by go_simp⟩) (by assumption) ?_
      simp only [Act.put, List.getElem_toArray, List.getElem_cons_zero, List.getElem_cons_succ, List.setIfInBounds_toArray, List.set_cons_zero, List.set_cons_succ]
      refine wpAnyH_take (i := 4) (v := .slice (some ⟨g, 0, none⟩) 4 cp) rfl (by kernel_rfl) (by kernel_rfl) (by kernel_rfl) (fun _ _ _ h => h) (Or.inl ⟨by rfl, fun W hW => by go_simp⟩) (by assumption) ?_
      simp only [Act.put, List.getElem_toArray, List.getElem_cons_zero, List.getElem_cons_succ, List.setIfInBounds_toArray, List.set_cons_zero, List.set_cons_succ]
      refine wpAnyH_take (i := 5) (v := .pointer (some ⟨g, 0 + 2, none⟩)) rfl (by kernel_rfl) (by kernel_rfl) (by kernel_rfl) (fun _ _ _ h => h) (Or.inl ⟨by rfl, fun W hW => by go_simp⟩) (by assumption) ?_
      simp only [Act.put, List.getElem_toArray, List.getElem_cons_zero, List.getElem_cons_succ, List.setIfInBounds_toArray, List.set_cons_zero, List.set_cons_succ]
      refine wpAnyH_take (i := 6) (v := .int .i64 p2) rfl (by kernel_rfl) (by kernel_rfl) (by kernel_rfl) (fun _ _ _ h => h) (Or.inl ⟨by rfl, fun W hW => by have hc := hW.2.2.2; clear hW; go_simp⟩) (by assumption) ?_
      simp only [Act.put, List.getElem_toArray, List.getElem_cons_zero, List.getElem_cons_succ, List.setIfInBounds_toArray, List.set_cons_zero, List.set_cons_succ]
      refine wpAnyH_ready (rs := [7]) (by kernel_rfl) (by simp) ?_
      refine AllReadyH.cons rfl (fun K hK => ?_) ?_
      · rw [if_pos (by rfl)]
        simp only [Go.wp_at_zero, Go.wp_at_succ]
        go_simp
        refine hP'.out.mono ?_
        rintro e w6 ⟨A6, rfl, hT6⟩
        have S6 := (S5.out.fresh ((Kept.refl (fun _ => False) w5).drew)).to hT6
        refine hK.out _ _ ⟨S6.box, S6.c0, S6.c1, S6.c2⟩ (fun hS6 => ?_)
        clear hK K
        try simp only [Act.put, List.getElem_toArray, List.getElem_cons_zero, List.getElem_cons_succ, List.setIfInBounds_toArray, List.set_cons_zero, List.set_cons_succ]
        have S6 := Lib.hid S6
        refine wpAnyH_take (i := 8) (v := .tuple #[.int .i64 b, .int .i64 0]) rfl (by kernel_rfl) (by kernel_rfl) (by kernel_rfl) (fun _ _ _ h => h) (Or.inl ⟨by rfl, fun W hW => by go_simp⟩) (by assumption) ?_
        simp only [Act.put, List.getElem_toArray, List.getElem_cons_zero, List.getElem_cons_succ, List.setIfInBounds_toArray, List.set_cons_zero, List.set_cons_succ]
        refine wpAnyH_take (i := 9) (v := .int .i64 b) rfl (by kernel_rfl) (by kernel_rfl) (by kernel_rfl) (fun _ _ _ h => h) (Or.inl ⟨by rfl, fun W hW => by go_simp⟩) (by assumption) ?_
        simp only [Act.put, List.getElem_toArray, List.getElem_cons_zero, List.getElem_cons_succ, List.setIfInBounds_toArray, List.set_cons_zero, List.set_cons_succ]
        refine wpAnyH_take (i := 10) (v := .int .i64 0) rfl (by kernel_rfl) (by kernel_rfl) (by kernel_rfl) (fun _ _ _ h => h) (Or.inl ⟨by rfl, fun W hW => by go_simp⟩) (by assumption) ?_
        simp only [Act.put, List.getElem_toArray, List.getElem_cons_zero, List.getElem_cons_succ, List.setIfInBounds_toArray, List.set_cons_zero, List.set_cons_succ]
        refine wpAnyH_take (i := 11) (v := .int .i64 b) rfl (by kernel_rfl) (by kernel_rfl) (by kernel_rfl) (fun _ _ _ h => h) (Or.inl ⟨by rfl, fun W hW => by go_simp⟩) (by assumption) ?_
        simp only [Act.put, List.getElem_toArray, List.getElem_cons_zero, List.getElem_cons_succ, List.setIfInBounds_toArray, List.set_cons_zero, List.set_cons_succ]
        refine wpAnyH_take (i := 12) (v := .int .i64 0) rfl (by kernel_rfl) (by kernel_rfl) (by kernel_rfl) (fun _ _ _ h => h) (Or.inl ⟨by rfl, fun W hW => by go_simp⟩) (by assumption) ?_
        simp only [Act.put, List.getElem_toArray, List.getElem_cons_zero, List.getElem_cons_succ, List.setIfInBounds_toArray, List.set_cons_zero, List.set_cons_succ]
        refine wpAnyH_done (by kernel_rfl) ?_ _
        clear hS hS6 hT6 hP'
        have hlg3' : M3.log.length ≤ 1000 := by omega
        have hW := treeSwap S6.out.own.store (-1) b
        rw [hsw'.out, S6.out.eq] at hW
        dsimp only at hW
        have hW' := Lib.hid hW
        clear hW
        go_wp2_with (first | (refine wpList_load_agg 26 rfl rfl rfl _ Tryz.underlying26 rfl [.pointer (some ⟨sb, 0, none⟩)] (by kernel_rfl) S6.out.load ?_))
        refine hW'.out.mono ?_
        rintro e w7 ⟨rfl, hT7⟩
        have S7 := Lib.hid (S6.out.to hT7)
        clear hT7 hW'
        have hC := diffChanges S7.out.own.store hra'.out hrb'.out
        rw [S7.out.eq] at hC
        rw [ch_ab] at hC
        have hC' := Lib.hid hC
        clear hC
        go_wp2_with (first | (refine wpList_load_agg 30 rfl rfl rfl _ Tryz.underlying30 rfl [.pointer (some ⟨sb, 0, none⟩)] (by kernel_rfl) S7.out.load ?_))
        refine hC'.out.mono ?_
        rintro e w8 ⟨v8, rfl, hown8, kc8⟩
        have S8 := Lib.hid (S7.out.fresh kc8)
        have hE8 : EntsAt w8 v8 [(9, (p2 : Int))] := SliceAt.of_owns hown8
        obtain ⟨Av8, cap8, rfl, u1, u2⟩ := EntsAt.form hE8
        obtain ⟨b8, off8, rfl, _, c1, c2⟩ := EntsAt.get hE8 (i := 0) (x := (9, (p2 : Int))) rfl
        rw [Nat.zero_mul, Nat.add_zero] at c1 c2
        have c1' := Lib.hid c1
        have c2' := Lib.hid c2
        clear hown8 hE8 kc8 c1 c2 hC'
        have hC := diffChanges S8.out.own.store hrb'.out hra'.out
        rw [S8.out.eq] at hC
        rw [ch_ba] at hC
        have hC' := Lib.hid hC
        clear hC
        go_wp2_with (first | (refine wpList_load_agg 30 rfl rfl rfl _ Tryz.underlying30 rfl [.pointer (some ⟨sb, 0, none⟩)] (by kernel_rfl) S8.out.load ?_))
        refine hC'.out.mono ?_
        rintro e w9 ⟨v9, rfl, hown9, kc9⟩
        have S9 := Lib.hid (S8.out.fresh kc9)
        have hE9 : EntsAt w9 v9 [(9, (-1 : Int))] := SliceAt.of_owns hown9
        obtain ⟨Av9, cap9, rfl, u3, u4⟩ := EntsAt.form hE9
        obtain ⟨b9, off9, rfl, _, c3, c4⟩ := EntsAt.get hE9 (i := 0) (x := (9, (-1 : Int))) rfl
        rw [Nat.zero_mul, Nat.add_zero] at c3 c4
        have c3' := Lib.hid c3
        have c4' := Lib.hid c4
        have c1'' := Lib.hid (kc9.cell c1'.out id)
        have c2'' := Lib.hid (kc9.cell c2'.out id)
        clear hown9 hE9 kc9 c3 c4 hC' c1' c2'
        unfold maxLen at u2 u4
        simp only [List.length_cons, List.length_nil, Nat.zero_add] at u1 u2 u3 u4 ⊢
        go_wp2_with fail
        refine wp_region_quiet (C := fun w' => Kept (fun _ => False) w9 w') (by kernel_rfl) (by kernel_rfl) (Kept.refl _ _).drew ?_
        simp only []
        refine wpQuiet_step (fun K hK => ?_); go_simp; refine ⟨_, fun _ _ => rfl, hK _ ?_⟩; clear hK K
        refine wpQuiet_step (fun K hK => ?_); go_simp; refine ⟨_, fun _ _ => rfl, hK _ ?_⟩; clear hK K
        refine wpQuiet_step (fun K hK => ?_); go_simp; refine ⟨_, fun _ _ => rfl, hK _ ?_⟩; clear hK K
        refine wpQuiet_step (fun K hK => ?_); go_simp; refine ⟨_, fun _ _ => rfl, hK _ ?_⟩; clear hK K
        refine wpQuiet_step (fun K hK => ?_); go_simp; refine ⟨_, fun _ _ => rfl, hK _ ?_⟩; clear hK K
        refine wpQuiet_step (fun K hK => ?_); go_simp; refine ⟨_, fun _ _ => rfl, hK _ ?_⟩; clear hK K
        refine wpQuiet_step (fun K hK => ?_); go_simp; refine ⟨_, fun _ _ => rfl, hK _ ?_⟩; clear hK K
        refine wpQuiet_step (fun K hK => ?_); go_simp; refine ⟨_, fun _ _ => rfl, hK _ ?_⟩; clear hK K
        refine wpQuiet_step (fun K hK => ?_); go_simp; refine ⟨_, fun _ _ => rfl, hK _ ?_⟩; clear hK K
        refine wpQuiet_step (fun K hK => ?_); go_simp; refine ⟨_, fun _ _ => rfl, hK _ ?_⟩; clear hK K
        refine wpQuiet_step (fun K hK => ?_); go_simp; refine ⟨_, fun _ _ => rfl, hK _ ?_⟩; clear hK K
        refine wpQuiet_step (fun K hK => ?_); go_simp; refine ⟨_, fun _ _ => rfl, hK _ ?_⟩; clear hK K
        refine wpQuiet_step (fun K hK => ?_); go_simp; refine ⟨_, fun _ _ => rfl, hK _ ?_⟩; clear hK K
        refine wpQuiet_step (fun K hK => ?_); go_simp; refine ⟨_, fun _ _ => rfl, hK _ ?_⟩; clear hK K
        refine wpQuiet_step (fun K hK => ?_); go_simp; refine ⟨_, fun _ _ => rfl, hK _ ?_⟩; clear hK K
        refine wpQuiet_step (fun K hK => ?_); go_simp; refine ⟨_, fun _ _ => rfl, hK _ ?_⟩; clear hK K
        refine wpQuiet_step (fun K hK => ?_); go_simp; refine ⟨_, fun _ _ => rfl, hK _ ?_⟩; clear hK K
        refine wpQuiet_step (fun K hK => ?_); go_simp; refine ⟨_, fun _ _ => rfl, hK _ ?_⟩; clear hK K
        refine wpQuiet_step (fun K hK => ?_); go_simp; refine ⟨_, fun _ _ => rfl, hK _ ?_⟩; clear hK K
        refine wpQuiet_step (fun K hK => ?_); go_simp; refine ⟨_, fun _ _ => rfl, hK _ ?_⟩; clear hK K
        refine wpQuiet_step (fun K hK => ?_); go_simp; refine ⟨_, fun _ _ => rfl, hK _ ?_⟩; clear hK K
        refine wpQuiet_step (fun K hK => ?_); go_simp; refine ⟨_, fun _ _ => rfl, hK _ ?_⟩; clear hK K
        refine wpQuiet_step (fun K hK => ?_); go_simp; refine ⟨_, fun _ _ => rfl, hK _ ?_⟩; clear hK K
        refine wpQuiet_step (fun K hK => ?_); go_simp; refine ⟨_, fun _ _ => rfl, hK _ ?_⟩; clear hK K
        refine wpQuiet_step (fun K hK => ?_); go_simp; refine ⟨_, fun _ _ => rfl, hK _ ?_⟩; clear hK K
        refine wpQuiet_step (fun K hK => ?_); go_simp; refine ⟨_, fun _ _ => rfl, hK _ ?_⟩; clear hK K
        refine wpQuiet_step (fun K hK => ?_); refine q_on rfl (q_val (.agg #[.int .i64 9, .int .i64 p2]) (fun W hW => exec_load_agg (g := b8) (off := off8) rfl (by rfl) [.int .i64 9, .int .i64 p2] Tryz.underlying92 rfl (by kernel_rfl) (two_cells (hW.cell c1''.out id) (hW.cell c2''.out id))) (hK _ ?_)); clear hK K
        refine wpQuiet_step (fun K hK => ?_); go_simp; refine ⟨_, fun _ _ => rfl, hK _ ?_⟩; clear hK K
        refine wpQuiet_step (fun K hK => ?_); go_simp; refine ⟨_, fun _ _ => rfl, hK _ ?_⟩; clear hK K
        refine wpQuiet_step (fun K hK => ?_); refine q_on rfl (q_val (.int .i64 p2) (fun W hW => by have hc := hW.cell S9.out.c2 id; clear hW; go_simp) (hK _ ?_)); clear hK K
        refine wpQuiet_step (fun K hK => ?_); go_simp; refine ⟨_, fun _ _ => rfl, hK _ ?_⟩; clear hK K
        refine wpQuiet_step (fun K hK => ?_); refine q_on rfl (q_val (.bool true) (fun W hW => by rw [exec_eql_change rfl (9, (p2 : Int)) (9, (p2 : Int)) (by rfl) (by rfl)]; simp) (hK _ ?_)); clear hK K
        refine wpQuiet_step (fun K hK => ?_); go_simp; refine ⟨_, fun _ _ => rfl, hK _ ?_⟩; clear hK K
        refine wpQuiet_step (fun K hK => ?_); go_simp; refine ⟨_, fun _ _ => rfl, hK _ ?_⟩; clear hK K
        refine wpQuiet_step (fun K hK => ?_); go_simp; refine ⟨_, fun _ _ => rfl, hK _ ?_⟩; clear hK K
        refine wpQuiet_step (fun K hK => ?_); go_simp; refine ⟨_, fun _ _ => rfl, hK _ ?_⟩; clear hK K
        refine wpQuiet_step (fun K hK => ?_); go_simp; refine ⟨_, fun _ _ => rfl, hK _ ?_⟩; clear hK K
        refine wpQuiet_step (fun K hK => ?_); go_simp; refine ⟨_, fun _ _ => rfl, hK _ ?_⟩; clear hK K
        refine wpQuiet_step (fun K hK => ?_); go_simp; refine ⟨_, fun _ _ => rfl, hK _ ?_⟩; clear hK K
        refine wpQuiet_step (fun K hK => ?_); go_simp; refine ⟨_, fun _ _ => rfl, hK _ ?_⟩; clear hK K
        refine wpQuiet_step (fun K hK => ?_); go_simp; refine ⟨_, fun _ _ => rfl, hK _ ?_⟩; clear hK K
        refine wpQuiet_step (fun K hK => ?_); refine q_on rfl (q_val (.agg #[.int .i64 9, .int .i64 (-1)]) (fun W hW => exec_load_agg (g := b9) (off := off9) rfl (by rfl) [.int .i64 9, .int .i64 (-1)] Tryz.underlying92 rfl (by kernel_rfl) (two_cells (hW.cell c3'.out id) (hW.cell c4'.out id))) (hK _ ?_)); clear hK K
        refine wpQuiet_step (fun K hK => ?_); go_simp; refine ⟨_, fun _ _ => rfl, hK _ ?_⟩; clear hK K
        refine wpQuiet_step (fun K hK => ?_); refine q_on rfl (q_val (.bool true) (fun W hW => by rw [exec_eql_change rfl (9, (-1 : Int)) (9, (-1 : Int)) (by rfl) (by rfl)]; simp) (hK _ ?_)); clear hK K
        refine wpQuiet_step (fun K hK => ?_); go_simp; refine ⟨_, fun _ _ => rfl, hK _ ?_⟩; clear hK K
        refine wpQuiet_step (fun K hK => ?_); go_simp; refine ⟨_, fun _ _ => rfl, hK _ ?_⟩; clear hK K
        refine wpQuiet_nil ?_
        intro wq hwq
        go_wp2_with fail
        go_ret
        exact ⟨rfl, S9.out.own.kept.trans hwq⟩
      exact AllReadyH.nil
    exact AllReadyH.nil
  exact AllReadyH.nil
end Go.Proofs.YtidlchciehdefaaGreat
/-
  Rows: a number of a slice; two rows of different types are different blocks.
-/
namespace Go.Proofs.YtidlchciehdefaaGreat
open Go.RowKit

theorem ints_at {w : World} {Av : Option Addr} {n cap : Nat} {l : List Int} (h : SliceAt w (.slice Av n cap) 1 l.length (l.map (Value.int .i64))) {i : Nat} {x : Int} (hx : l[i]? = some x) :
    ∃ b off, Av = some ⟨b, off, none⟩ ∧ b < w.heap.size ∧ w.cell? ⟨b, off + i, none⟩ = some (.int .i64 x) := by
  have hi : i < l.length := (List.getElem?_eq_some_iff.1 hx).1
  obtain ⟨_, A', cap', hv, h1, h2, h3⟩ := id h
  injection hv with e1 e2 e3
  subst e2
  obtain ⟨b, off, hA, hb, hc⟩ := SliceAt.elem h hi (by decide)
  refine ⟨b, off, hA, hb, ?_⟩
  have := hc 0 (.int .i64 x) (by decide) (by simp [hx])
  simpa using this
end Go.Proofs.YtidlchciehdefaaGreat
