/-
 understudylaw12.diffAlive: the chapter's example.
-/
import Derived.Test.YtidlchciehdefaaK12
import Derived.Test.YtidlchciehdefaaK16
import Derived.Test.YtidlchciehdefaaK22
import Derived.Test.YtidlchciehdefaaK25
import Derived.Test.YtidlchciehdefaaK26
import Derived.Deep.RegionHeld3
set_option linter.unusedVariables false
set_option linter.unusedSimpArgs false
namespace Go.Proofs.Ytidlchciehdefaa
open Go.RowKit
set_option maxRecDepth 100000

theorem run_equalIn_change (d : Nat) (p q : Int × Int) (w : World) : (Op.equalIn (d + 2) 41 (.agg #[.int .i64 p.1, .int .i64 p.2]) (.agg #[.int .i64 q.1, .int .i64 q.2])).run Try.prog w = .ok (decide (p = q)) w := by
 obtain ⟨p1, p2⟩ := p
 obtain ⟨q1, q2⟩ := q
 have hi : ∀ w, (isAgg 3).run Try.prog w = .ok false w := fun w => by
  unfold isAgg
  rw [Sem.run_bind, run_underlying Try.underlying3 w]
  rfl
 have hS : Try.prog.underlying 41 = some (.struct (Try.prog.fieldsOf 41)) := by kernel_rfl
 have hp : Try.prog.stoodInHeld 41 = false := by kernel_rfl
 have hq : ∀ (a b : Int) w, (Op.equalIn (d + 1) 3 (.int .i64 a) (.int .i64 b)).run Try.prog w = .ok (a == b) w := fun a b w => run_equalIn_int w d 3 .i64 .i64 a b Try.underlying3
 rw [run_equalIn_struct w (d + 1) 41 _ _ hS hp]
 simp only [Program.fieldsOf, Try.underlying41]
 by_cases h1 : p1 = q1
 ·by_cases h2 : p2 = q2
  ·simp [Op.eqFields, part, hi, hq, h1, h2]
  ·simp [Op.eqFields, part, hi, hq, h1, h2]
 ·simp [Op.eqFields, part, hi, hq, h1]
theorem exec_eql_change {o : Oper} {a : Act} {x y : Operand} {u : TypeId} (ho : o.op = .binOp .eql 41 x y u) (p q : Int × Int) (hx : a.eval x = .agg #[.int .i64 p.1, .int .i64 p.2]) (hy : a.eval y = .agg #[.int .i64 q.1, .int .i64 q.2]) (w : World) :
  (execOp a.eval o).run Try.prog w = .ok (.value (.bool (decide (p = q)))) w := by
 unfold execOp
 have hm : Try.prog.eqGuardType Try.prog.depth 41 = false := by kernel_rfl
 have he := run_equalIn_change 9998 p q w
 simp only [ho, hx, hy, Sem.run_bind, run_eqGuard_agg (hm := hm), Result.andThen_ok, run_eql_struct, he]
 rfl
structure DifSt (w0 : World) (db sb g p0 p1 p2 : Nat) (wr : World) (A : SA) (M : SM) : Prop where
 own : OwnStore w0 A M wr
 box : wr.heap[db]? = some (.cells #[.pointer (some ⟨sb, 0, none⟩)] 31 (0, 0))
 bsafe : Safe wr A db
 eq : A.sb = sb
 c0 : wr.cell? ⟨g, 0, none⟩ = some (.int .i64 p0)
 c1 : wr.cell? ⟨g, 0 + 1, none⟩ = some (.int .i64 p1)
 c2 : wr.cell? ⟨g, 0 + 2, none⟩ = some (.int .i64 p2)
 gsafe : Safe wr A g
theorem DifSt.fresh {w0 wr w' : World} {db sb g p0 p1 p2 : Nat} {A : SA} {M : SM} (h : DifSt w0 db sb g p0 p1 p2 wr A M) (k : Kept (fun _ => False) wr w') : DifSt w0 db sb g p0 p1 p2 w' A M :=
 ⟨h.own.fresh k, k.get h.box id, h.bsafe.fresh k, h.eq, k.cell h.c0 id, k.cell h.c1 id, k.cell h.c2 id, h.gsafe.fresh k⟩
theorem DifSt.to {w0 wr w' : World} {db sb g p0 p1 p2 : Nat} {A A' : SA} {M M' : SM} (h : DifSt w0 db sb g p0 p1 p2 wr A M) (k : StoreTo A A' M' wr w') : DifSt w0 db sb g p0 p1 p2 w' A' M' :=
 ⟨h.own.to k, k.get h.box h.bsafe, h.bsafe.to k, k.sb.trans h.eq, k.kept.cell h.c0 h.gsafe.off, k.kept.cell h.c1 h.gsafe.off, k.kept.cell h.c2 h.gsafe.off, h.gsafe.to k⟩
theorem DifSt.load {w0 wr : World} {db sb g p0 p1 p2 : Nat} {A : SA} {M : SM} (h : DifSt w0 db sb g p0 p1 p2 wr A M) : ∀ j v, [Value.pointer (some ⟨sb, 0, none⟩)][j]? = some v → wr.cell? ⟨db, 0 + j, none⟩ = some v := fun j v hj => by rw [Nat.zero_add, cell_of_heap h.box]; simpa using hj
theorem two_cells {W : World} {b off : Nat} {x y : Value} (h1 : W.cell? ⟨b, off, none⟩ = some x) (h2 : W.cell? ⟨b, off + 1, none⟩ = some y) : ∀ j v, [x, y][j]? = some v → W.cell? ⟨b, off + j, none⟩ = some v
 | 0, v, hj => by rw [Nat.add_zero, h1]; simpa using hj
 | 1, v, hj => by rw [h2]; simpa using hj
 | j + 2, v, hj => by simp at hj
set_option maxHeartbeats 16000000 in
theorem diffAlive (w : World) : Calls Try.prog 6 #[] w fun e w' => e = .returned (.bool true) ∧ Kept (fun _ => False) w w' := by
 have hm := made12 w
 have hm' := h_ hm
 clear hm
 go_enter Try.func6, Try.ntmps6
 go_wp2_with fail
 refine hm'.out.mono ?_
 rintro e w2 ⟨A, M, ns, v, rfl, hA, h4, hone, hnd, hrow, hoff, hlg, hk, hnew⟩
 rcases hrow.2 with ⟨_, h0⟩ | ⟨g, cp, cur, rfl, hb, hg, hn, hm2, hs, ht⟩
 ·exact absurd h0 (by decide)
 obtain ⟨p0, p1, p2, p3, rfl⟩ : ∃ p0 p1 p2 p3, ns = [p0, p1, p2, p3] := by
  match ns, h4 with
  | [a, b, c, d], _ => exact ⟨a, b, c, d, rfl⟩
 have hsl := SliceAt.of_owns hrow
 have e0 := hsl.cell0 (j := 0) (v := .int .i64 p0) rfl
 have e1 := hsl.cell0 (j := 1) (v := .int .i64 p1) rfl
 have e2 := hsl.cell0 (j := 2) (v := .int .i64 p2) rfl
 have hgl := (hrow.lt g rfl).2
 obtain ⟨_, _, _, e4, hcp1, hcp2, _⟩ := hsl
 cases e4
 unfold maxLen at hcp2
 obtain ⟨M1, a, hbd, h1, hlg1⟩ := alive12_build hone h4 (p0 := p0) (p1 := p1) (by simp) (by simp)
 obtain ⟨db, hdb⟩ : ∃ db, w2.heap.size = db := ⟨_, rfl⟩
 obtain ⟨w3, hw3⟩ : ∃ w3, (w2.alloc (.cells #[.pointer none] 31)).setRow db #[.pointer (some ⟨A.sb, 0, none⟩)] = w3 := ⟨_, rfl⟩
 have k3 : Kept (fun _ => False) w2 w3 := by rw [← hw3]; exact ((Kept.refl _ _).alloc _).setRowNew (by omega) _
 have q3 : w3.heap[db]? = some (.cells #[.pointer (some ⟨A.sb, 0, none⟩)] 31 (0, 0)) := by rw [← hw3, ← hdb]; exact setRow_heap _ _ _ _ _ _ (heap_alloc_new _ _)
 have S3 : DifSt w db A.sb g p0 p1 p2 w3 A M := ⟨⟨hA.fresh k3, hk.trans k3, hnew⟩, q3, Safe.new hA (by omega) (lt_of_heap q3), rfl, k3.cell e0 id, k3.cell e1 id, k3.cell e2 id, ⟨Nat.lt_of_lt_of_le hgl k3.size, fun e => hoff g rfl (.inl e)⟩⟩
 obtain ⟨sb, hsb⟩ : ∃ sb, A.sb = sb := ⟨_, rfl⟩
 rw [hsb] at hw3 S3 ⊢
 have S3 := h_ S3
 have hw3' := h_ hw3
 have hdb' := h_ hdb
 have hone' := h_ hone
 have h1' := h_ h1
 have hbd' := h_ hbd
 clear hA hone hnd hrow hoff hk hnew hb hg hn hs ht e0 e1 e2 hgl hdb hw3 k3 q3 hbd h1 hm2
 go_wp2_with (first | (refine wpList_alloc_as 31 rfl rfl #[.pointer none] differ_zero ?_; rw [hdb'.out]) | (refine wpList_store_whole 31 rfl rfl rfl [.pointer (some ⟨sb, 0, none⟩)] rfl (by kernel_rfl) 31 #[.pointer none] (by rw [← hdb'.out]; exact heap_alloc_new _ _) rfl (by intro c hc; simp at hc; subst hc; rfl) ?_; rw [hw3'.out]))
 refine wp_region_held_drew (S := fun W => W.heap[db]? = some (.cells #[.pointer (some ⟨sb, 0, none⟩)] 31 (0, 0)) ∧ W.cell? ⟨g, 0, none⟩ = some (.int .i64 p0) ∧ W.cell? ⟨g, 0 + 1, none⟩ = some (.int .i64 p1) ∧ W.cell? ⟨g, 0 + 2, none⟩ = some (.int .i64 p2)) (by kernel_rfl) ⟨S3.out.box, S3.out.c0, S3.out.c1, S3.out.c2⟩ (fun hS => ?_)
 refine wpAnyH_take (i := 0) (v := .pointer (some ⟨db, 0, none⟩)) rfl (by kernel_rfl) (by kernel_rfl) (by kernel_rfl) (fun _ _ _ h => h) (Or.inl ⟨by rfl, fun W hW => by go_simp⟩) (by assumption) ?_
 simp only [Act.put, q1_, q2_, q3_, List.setIfInBounds_toArray, q5_, q6_]
 refine wpAnyH_take (i := 1) (v := .pointer (some ⟨db, 0, none⟩)) rfl (by kernel_rfl) (by kernel_rfl) (by kernel_rfl) (fun _ _ _ h => h) (Or.inl ⟨by rfl, fun W hW => by go_simp⟩) (by assumption) ?_
 simp only [Act.put, q1_, q2_, q3_, List.setIfInBounds_toArray, q5_, q6_]
 refine wpAnyH_take (i := 2) (v := .agg #[.pointer (some ⟨sb, 0, none⟩)]) rfl (by kernel_rfl) (by kernel_rfl) (by kernel_rfl) (fun _ _ _ h => h) (Or.inl ⟨by rfl, fun W hW => exec_load_agg rfl (by rfl) [.pointer (some ⟨sb, 0, none⟩)] Try.underlying27 rfl (by kernel_rfl) (fun j v hj => by rw [cell_of_heap hW.1, Nat.zero_add]; simpa using hj)⟩) (by assumption) ?_
 simp only [Act.put, q1_, q2_, q3_, List.setIfInBounds_toArray, q5_, q6_]
 refine wpAnyH_take (i := 3) (v := .slice (some ⟨g, 0, none⟩) 4 cp) rfl (by kernel_rfl) (by kernel_rfl) (by kernel_rfl) (fun _ _ _ h => h) (Or.inl ⟨by rfl, fun W hW => by go_simp⟩) (by assumption) ?_
 simp only [Act.put, q1_, q2_, q3_, List.setIfInBounds_toArray, q5_, q6_]
 refine wpAnyH_take (i := 4) (v := .pointer (some ⟨g, 0, none⟩)) rfl (by kernel_rfl) (by kernel_rfl) (by kernel_rfl) (fun _ _ _ h => h) (Or.inl ⟨by rfl, fun W hW => by go_simp⟩) (by assumption) ?_
 simp only [Act.put, q1_, q2_, q3_, List.setIfInBounds_toArray, q5_, q6_]
 refine wpAnyH_take (i := 5) (v := .int .i64 p0) rfl (by kernel_rfl) (by kernel_rfl) (by kernel_rfl) (fun _ _ _ h => h) (Or.inl ⟨by rfl, fun W hW => by have hc := hW.2.1; clear hW; go_simp⟩) (by assumption) ?_
 simp only [Act.put, q1_, q2_, q3_, List.setIfInBounds_toArray, q5_, q6_]
 refine wpAnyH_take (i := 6) (v := .agg #[.int .i64 1, .int .i64 p0]) rfl (by kernel_rfl) (by kernel_rfl) (by kernel_rfl) (fun _ _ _ h => h) (Or.inl ⟨by rfl, fun W hW => by go_simp⟩) (by assumption) ?_
 simp only [Act.put, q1_, q2_, q3_, List.setIfInBounds_toArray, q5_, q6_]
 refine wpAnyH_take (i := 7) (v := .slice (some ⟨g, 0, none⟩) 4 cp) rfl (by kernel_rfl) (by kernel_rfl) (by kernel_rfl) (fun _ _ _ h => h) (Or.inl ⟨by rfl, fun W hW => by go_simp⟩) (by assumption) ?_
 simp only [Act.put, q1_, q2_, q3_, List.setIfInBounds_toArray, q5_, q6_]
 refine wpAnyH_take (i := 8) (v := .pointer (some ⟨g, 0 + 1, none⟩)) rfl (by kernel_rfl) (by kernel_rfl) (by kernel_rfl) (fun _ _ _ h => h) (Or.inl ⟨by rfl, fun W hW => by go_simp⟩) (by assumption) ?_
 simp only [Act.put, q1_, q2_, q3_, List.setIfInBounds_toArray, q5_, q6_]
 refine wpAnyH_take (i := 9) (v := .int .i64 p1) rfl (by kernel_rfl) (by kernel_rfl) (by kernel_rfl) (fun _ _ _ h => h) (Or.inl ⟨by rfl, fun W hW => by have hc := hW.2.2.1; clear hW; go_simp⟩) (by assumption) ?_
 simp only [Act.put, q1_, q2_, q3_, List.setIfInBounds_toArray, q5_, q6_]
 refine wpAnyH_take (i := 10) (v := .agg #[.int .i64 2, .int .i64 p1]) rfl (by kernel_rfl) (by kernel_rfl) (by kernel_rfl) (fun _ _ _ h => h) (Or.inl ⟨by rfl, fun W hW => by go_simp⟩) (by assumption) ?_
 simp only [Act.put, q1_, q2_, q3_, List.setIfInBounds_toArray, q5_, q6_]
 refine wpAnyH_ready (rs := [11]) (by kernel_rfl) (by simp) ?_
 refine AllReadyH.cons rfl (fun K hK => ?_) ?_
 ·rw [if_pos (by rfl)]
  simp only [Go.wp_at_zero, Go.wp_at_succ]
  go_simp
  have k4 : Kept (fun _ => False) w3 (w3.drew.alloc (.cells #[.int .i64 1, .int .i64 p0, .int .i64 2, .int .i64 p1] 63)) := (Kept.refl _ _).drew.alloc _
  have S4 := S3.out.fresh k4
  refine hK.out _ _ ⟨S4.box, S4.c0, S4.c1, S4.c2⟩ (fun hS4 => ?_)
  clear hK K
  try simp only [Act.put, q1_, q2_, q3_, List.setIfInBounds_toArray, q5_, q6_]
  obtain ⟨hS4', hE4⟩ := ents_new (S3.out.fresh ((Kept.refl (fun _ => False) w3).drew)).own.store (exA p0 p1) (by show 2 ≤ 1000; omega)
  have hB := treeBuild hS4' hE4 (by show 2 ≤ 1000; omega) (by omega)
  rw [hbd'.out, S3.out.eq] at hB
  dsimp only at hB
  have hB' := h_ hB
  have S4 := h_ S4
  clear hS4' hE4 hB k4
  refine wpAnyH_ready (rs := [12]) (by kernel_rfl) (by simp) ?_
  refine AllReadyH.cons rfl (fun K hK => ?_) ?_
  ·rw [if_pos (by rfl)]
   simp only [Go.wp_at_zero, Go.wp_at_succ]
   go_simp
   refine hB'.out.mono ?_
   rintro e w5 ⟨A5, rfl, hT5⟩
   have S5 := S4.out.to hT5
   refine hK.out _ _ ⟨S5.box, S5.c0, S5.c1, S5.c2⟩ (fun hS5 => ?_)
   clear hK K
   try simp only [Act.put, q1_, q2_, q3_, List.setIfInBounds_toArray, q5_, q6_]
   have S5 := h_ S5
   refine wpAnyH_take (i := 13) (v := .tuple #[.int .i64 a, .int .i64 0]) rfl (by kernel_rfl) (by kernel_rfl) (by kernel_rfl) (fun _ _ _ h => h) (Or.inl ⟨by rfl, fun W hW => by go_simp⟩) (by assumption) ?_
   simp only [Act.put, q1_, q2_, q3_, List.setIfInBounds_toArray, q5_, q6_]
   refine wpAnyH_take (i := 14) (v := .int .i64 a) rfl (by kernel_rfl) (by kernel_rfl) (by kernel_rfl) (fun _ _ _ h => h) (Or.inl ⟨by rfl, fun W hW => by go_simp⟩) (by assumption) ?_
   simp only [Act.put, q1_, q2_, q3_, List.setIfInBounds_toArray, q5_, q6_]
   refine wpAnyH_take (i := 15) (v := .int .i64 0) rfl (by kernel_rfl) (by kernel_rfl) (by kernel_rfl) (fun _ _ _ h => h) (Or.inl ⟨by rfl, fun W hW => by go_simp⟩) (by assumption) ?_
   simp only [Act.put, q1_, q2_, q3_, List.setIfInBounds_toArray, q5_, q6_]
   refine wpAnyH_take (i := 16) (v := .int .i64 a) rfl (by kernel_rfl) (by kernel_rfl) (by kernel_rfl) (fun _ _ _ h => h) (Or.inl ⟨by rfl, fun W hW => by go_simp⟩) (by assumption) ?_
   simp only [Act.put, q1_, q2_, q3_, List.setIfInBounds_toArray, q5_, q6_]
   refine wpAnyH_take (i := 17) (v := .int .i64 0) rfl (by kernel_rfl) (by kernel_rfl) (by kernel_rfl) (fun _ _ _ h => h) (Or.inl ⟨by rfl, fun W hW => by go_simp⟩) (by assumption) ?_
   simp only [Act.put, q1_, q2_, q3_, List.setIfInBounds_toArray, q5_, q6_]
   refine wpAnyH_done (by kernel_rfl) ?_ _
   clear hS hS4 hS5 hT5 hB'
   obtain ⟨M2, b, M3, hpt, hsw, hra, hrb, hlg3⟩ := alive12_put h1'.out h4 (p2 := p2) (by simp) (by simp) (by simp)
   have hra' := h_ hra
   have hrb' := h_ hrb
   have hsw' := h_ hsw
   have hP := treePut (S5.out.fresh ((Kept.refl (fun _ => False) w5).drew)).own.store a 9 (p2 : Int) (by omega)
   rw [hpt, S5.out.eq] at hP
   dsimp only at hP
   have hP' := h_ hP
   clear hpt hra hrb hsw hP
   go_wp2_with fail
   refine wp_region_held_drew (S := fun W => W.heap[db]? = some (.cells #[.pointer (some ⟨sb, 0, none⟩)] 31 (0, 0)) ∧ W.cell? ⟨g, 0, none⟩ = some (.int .i64 p0) ∧ W.cell? ⟨g, 0 + 1, none⟩ = some (.int .i64 p1) ∧ W.cell? ⟨g, 0 + 2, none⟩ = some (.int .i64 p2)) (by kernel_rfl) ⟨S5.out.box, S5.out.c0, S5.out.c1, S5.out.c2⟩ (fun hS => ?_)
   refine wpAnyH_take (i := 0) (v := .pointer (some ⟨db, 0, none⟩)) rfl (by kernel_rfl) (by kernel_rfl) (by kernel_rfl) (fun _ _ _ h => h) (Or.inl ⟨by rfl, fun W hW => by go_simp⟩) (by assumption) ?_
   simp only [Act.put, q1_, q2_, q3_, List.setIfInBounds_toArray, q5_, q6_]
   refine wpAnyH_take (i := 1) (v := .pointer (some ⟨db, 0, none⟩)) rfl (by kernel_rfl) (by kernel_rfl) (by kernel_rfl) (fun _ _ _ h => h) (Or.inl ⟨by rfl, fun W hW => by go_simp⟩) (by assumption) ?_
   simp only [Act.put, q1_, q2_, q3_, List.setIfInBounds_toArray, q5_, q6_]
   refine wpAnyH_take (i := 2) (v := .agg #[.pointer (some ⟨sb, 0, none⟩)]) rfl (by kernel_rfl) (by kernel_rfl) (by kernel_rfl) (fun _ _ _ h => h) (Or.inl ⟨by rfl, fun W hW => exec_load_agg rfl (by rfl) [.pointer (some ⟨sb, 0, none⟩)] Try.underlying27 rfl (by kernel_rfl) (fun j v hj => by rw [cell_of_heap hW.1, Nat.zero_add]; simpa using hj)⟩) (by assumption) ?_
   simp only [Act.put, q1_, q2_, q3_, List.setIfInBounds_toArray, q5_, q6_]
   refine wpAnyH_take (i := 3) (v := .int .i64 a) rfl (by kernel_rfl) (by kernel_rfl) (by kernel_rfl) (fun _ _ _ h => h) (Or.inl ⟨by rfl, fun W hW => by go_simp⟩) (by assumption) ?_
   simp only [Act.put, q1_, q2_, q3_, List.setIfInBounds_toArray, q5_, q6_]
   refine wpAnyH_take (i := 4) (v := .slice (some ⟨g, 0, none⟩) 4 cp) rfl (by kernel_rfl) (by kernel_rfl) (by kernel_rfl) (fun _ _ _ h => h) (Or.inl ⟨by rfl, fun W hW => by go_simp⟩) (by assumption) ?_
   simp only [Act.put, q1_, q2_, q3_, List.setIfInBounds_toArray, q5_, q6_]
   refine wpAnyH_take (i := 5) (v := .pointer (some ⟨g, 0 + 2, none⟩)) rfl (by kernel_rfl) (by kernel_rfl) (by kernel_rfl) (fun _ _ _ h => h) (Or.inl ⟨by rfl, fun W hW => by go_simp⟩) (by assumption) ?_
   simp only [Act.put, q1_, q2_, q3_, List.setIfInBounds_toArray, q5_, q6_]
   refine wpAnyH_take (i := 6) (v := .int .i64 p2) rfl (by kernel_rfl) (by kernel_rfl) (by kernel_rfl) (fun _ _ _ h => h) (Or.inl ⟨by rfl, fun W hW => by have hc := hW.2.2.2; clear hW; go_simp⟩) (by assumption) ?_
   simp only [Act.put, q1_, q2_, q3_, List.setIfInBounds_toArray, q5_, q6_]
   refine wpAnyH_ready (rs := [7]) (by kernel_rfl) (by simp) ?_
   refine AllReadyH.cons rfl (fun K hK => ?_) ?_
   ·rw [if_pos (by rfl)]
    simp only [Go.wp_at_zero, Go.wp_at_succ]
    go_simp
    refine hP'.out.mono ?_
    rintro e w6 ⟨A6, rfl, hT6⟩
    have S6 := (S5.out.fresh ((Kept.refl (fun _ => False) w5).drew)).to hT6
    refine hK.out _ _ ⟨S6.box, S6.c0, S6.c1, S6.c2⟩ (fun hS6 => ?_)
    clear hK K
    try simp only [Act.put, q1_, q2_, q3_, List.setIfInBounds_toArray, q5_, q6_]
    have S6 := h_ S6
    refine wpAnyH_take (i := 8) (v := .tuple #[.int .i64 b, .int .i64 0]) rfl (by kernel_rfl) (by kernel_rfl) (by kernel_rfl) (fun _ _ _ h => h) (Or.inl ⟨by rfl, fun W hW => by go_simp⟩) (by assumption) ?_
    simp only [Act.put, q1_, q2_, q3_, List.setIfInBounds_toArray, q5_, q6_]
    refine wpAnyH_take (i := 9) (v := .int .i64 b) rfl (by kernel_rfl) (by kernel_rfl) (by kernel_rfl) (fun _ _ _ h => h) (Or.inl ⟨by rfl, fun W hW => by go_simp⟩) (by assumption) ?_
    simp only [Act.put, q1_, q2_, q3_, List.setIfInBounds_toArray, q5_, q6_]
    refine wpAnyH_take (i := 10) (v := .int .i64 0) rfl (by kernel_rfl) (by kernel_rfl) (by kernel_rfl) (fun _ _ _ h => h) (Or.inl ⟨by rfl, fun W hW => by go_simp⟩) (by assumption) ?_
    simp only [Act.put, q1_, q2_, q3_, List.setIfInBounds_toArray, q5_, q6_]
    refine wpAnyH_take (i := 11) (v := .int .i64 b) rfl (by kernel_rfl) (by kernel_rfl) (by kernel_rfl) (fun _ _ _ h => h) (Or.inl ⟨by rfl, fun W hW => by go_simp⟩) (by assumption) ?_
    simp only [Act.put, q1_, q2_, q3_, List.setIfInBounds_toArray, q5_, q6_]
    refine wpAnyH_take (i := 12) (v := .int .i64 0) rfl (by kernel_rfl) (by kernel_rfl) (by kernel_rfl) (fun _ _ _ h => h) (Or.inl ⟨by rfl, fun W hW => by go_simp⟩) (by assumption) ?_
    simp only [Act.put, q1_, q2_, q3_, List.setIfInBounds_toArray, q5_, q6_]
    refine wpAnyH_done (by kernel_rfl) ?_ _
    clear hS hS6 hT6 hP'
    have hlg3' : M3.log.length ≤ 1000 := by omega
    have hW := treeSwap S6.out.own.store (-1) b
    rw [hsw'.out, S6.out.eq] at hW
    dsimp only at hW
    have hW' := h_ hW
    clear hW
    go_wp2_with (first | (refine wpList_load_agg 27 rfl rfl rfl _ Try.underlying27 rfl [.pointer (some ⟨sb, 0, none⟩)] (by kernel_rfl) S6.out.load ?_))
    refine hW'.out.mono ?_
    rintro e w7 ⟨rfl, hT7⟩
    have S7 := h_ (S6.out.to hT7)
    clear hT7 hW'
    have hC := diffChanges S7.out.own.store hra'.out hrb'.out
    rw [S7.out.eq] at hC
    rw [ch_ab] at hC
    have hC' := h_ hC
    clear hC
    go_wp2_with (first | (refine wpList_load_agg 31 rfl rfl rfl _ Try.underlying31 rfl [.pointer (some ⟨sb, 0, none⟩)] (by kernel_rfl) S7.out.load ?_))
    refine hC'.out.mono ?_
    rintro e w8 ⟨v8, rfl, hown8, kc8⟩
    have S8 := h_ (S7.out.fresh kc8)
    have hE8 : EntsAt w8 v8 [(9, (p2 : Int))] := SliceAt.of_owns hown8
    obtain ⟨Av8, cap8, rfl, u1, u2⟩ := EntsAt.form hE8
    obtain ⟨b8, off8, rfl, _, c1, c2⟩ := EntsAt.get hE8 (i := 0) (x := (9, (p2 : Int))) rfl
    rw [Nat.zero_mul, Nat.add_zero] at c1 c2
    have c1' := h_ c1
    have c2' := h_ c2
    clear hown8 hE8 kc8 c1 c2 hC'
    have hC := diffChanges S8.out.own.store hrb'.out hra'.out
    rw [S8.out.eq] at hC
    rw [ch_ba] at hC
    have hC' := h_ hC
    clear hC
    go_wp2_with (first | (refine wpList_load_agg 31 rfl rfl rfl _ Try.underlying31 rfl [.pointer (some ⟨sb, 0, none⟩)] (by kernel_rfl) S8.out.load ?_))
    refine hC'.out.mono ?_
    rintro e w9 ⟨v9, rfl, hown9, kc9⟩
    have S9 := h_ (S8.out.fresh kc9)
    have hE9 : EntsAt w9 v9 [(9, (-1 : Int))] := SliceAt.of_owns hown9
    obtain ⟨Av9, cap9, rfl, u3, u4⟩ := EntsAt.form hE9
    obtain ⟨b9, off9, rfl, _, c3, c4⟩ := EntsAt.get hE9 (i := 0) (x := (9, (-1 : Int))) rfl
    rw [Nat.zero_mul, Nat.add_zero] at c3 c4
    have c3' := h_ c3
    have c4' := h_ c4
    have c1'' := h_ (kc9.cell c1'.out id)
    have c2'' := h_ (kc9.cell c2'.out id)
    clear hown9 hE9 kc9 c3 c4 hC' c1' c2'
    unfold maxLen at u2 u4
    simp only [List.length_cons, List.length_nil, Nat.zero_add] at u1 u2 u3 u4 ⊢
    go_wp2_with fail
    refine wp_region_quiet (C := fun w' => Kept (fun _ => False) w9 w') (by kernel_rfl) (by kernel_rfl) (Kept.refl _ _).drew ?_
    simp only []
    refine wpQuiet_step (fun K hK => ?_); go_simp; refine ⟨_, fun _ _ => rfl, hK _ ?_⟩; clear hK K
    refine wpQuiet_step (fun K hK => ?_); go_simp; refine ⟨_, fun _ _ => rfl, hK _ ?_⟩; clear hK K
    refine wpQuiet_step (fun K hK => ?_); go_simp; refine ⟨_, fun _ _ => rfl, hK _ ?_⟩; clear hK K
    refine wpQuiet_step (fun K hK => ?_); go_simp; refine ⟨_, fun _ _ => rfl, hK _ ?_⟩; clear hK K
    refine wpQuiet_step (fun K hK => ?_); go_simp; refine ⟨_, fun _ _ => rfl, hK _ ?_⟩; clear hK K
    refine wpQuiet_step (fun K hK => ?_); go_simp; refine ⟨_, fun _ _ => rfl, hK _ ?_⟩; clear hK K
    refine wpQuiet_step (fun K hK => ?_); go_simp; refine ⟨_, fun _ _ => rfl, hK _ ?_⟩; clear hK K
    refine wpQuiet_step (fun K hK => ?_); go_simp; refine ⟨_, fun _ _ => rfl, hK _ ?_⟩; clear hK K
    refine wpQuiet_step (fun K hK => ?_); go_simp; refine ⟨_, fun _ _ => rfl, hK _ ?_⟩; clear hK K
    refine wpQuiet_step (fun K hK => ?_); go_simp; refine ⟨_, fun _ _ => rfl, hK _ ?_⟩; clear hK K
    refine wpQuiet_step (fun K hK => ?_); go_simp; refine ⟨_, fun _ _ => rfl, hK _ ?_⟩; clear hK K
    refine wpQuiet_step (fun K hK => ?_); go_simp; refine ⟨_, fun _ _ => rfl, hK _ ?_⟩; clear hK K
    refine wpQuiet_step (fun K hK => ?_); go_simp; refine ⟨_, fun _ _ => rfl, hK _ ?_⟩; clear hK K
    refine wpQuiet_step (fun K hK => ?_); go_simp; refine ⟨_, fun _ _ => rfl, hK _ ?_⟩; clear hK K
    refine wpQuiet_step (fun K hK => ?_); go_simp; refine ⟨_, fun _ _ => rfl, hK _ ?_⟩; clear hK K
    refine wpQuiet_step (fun K hK => ?_); go_simp; refine ⟨_, fun _ _ => rfl, hK _ ?_⟩; clear hK K
    refine wpQuiet_step (fun K hK => ?_); go_simp; refine ⟨_, fun _ _ => rfl, hK _ ?_⟩; clear hK K
    refine wpQuiet_step (fun K hK => ?_); go_simp; refine ⟨_, fun _ _ => rfl, hK _ ?_⟩; clear hK K
    refine wpQuiet_step (fun K hK => ?_); go_simp; refine ⟨_, fun _ _ => rfl, hK _ ?_⟩; clear hK K
    refine wpQuiet_step (fun K hK => ?_); go_simp; refine ⟨_, fun _ _ => rfl, hK _ ?_⟩; clear hK K
    refine wpQuiet_step (fun K hK => ?_); go_simp; refine ⟨_, fun _ _ => rfl, hK _ ?_⟩; clear hK K
    refine wpQuiet_step (fun K hK => ?_); go_simp; refine ⟨_, fun _ _ => rfl, hK _ ?_⟩; clear hK K
    refine wpQuiet_step (fun K hK => ?_); go_simp; refine ⟨_, fun _ _ => rfl, hK _ ?_⟩; clear hK K
    refine wpQuiet_step (fun K hK => ?_); go_simp; refine ⟨_, fun _ _ => rfl, hK _ ?_⟩; clear hK K
    refine wpQuiet_step (fun K hK => ?_); go_simp; refine ⟨_, fun _ _ => rfl, hK _ ?_⟩; clear hK K
    refine wpQuiet_step (fun K hK => ?_); go_simp; refine ⟨_, fun _ _ => rfl, hK _ ?_⟩; clear hK K
    refine wpQuiet_step (fun K hK => ?_); refine q_on rfl (q_val (.agg #[.int .i64 9, .int .i64 p2]) (fun W hW => exec_load_agg (g := b8) (off := off8) rfl (by rfl) [.int .i64 9, .int .i64 p2] Try.underlying41 rfl (by kernel_rfl) (two_cells (hW.cell c1''.out id) (hW.cell c2''.out id))) (hK _ ?_)); clear hK K
    refine wpQuiet_step (fun K hK => ?_); go_simp; refine ⟨_, fun _ _ => rfl, hK _ ?_⟩; clear hK K
    refine wpQuiet_step (fun K hK => ?_); go_simp; refine ⟨_, fun _ _ => rfl, hK _ ?_⟩; clear hK K
    refine wpQuiet_step (fun K hK => ?_); refine q_on rfl (q_val (.int .i64 p2) (fun W hW => by have hc := hW.cell S9.out.c2 id; clear hW; go_simp) (hK _ ?_)); clear hK K
    refine wpQuiet_step (fun K hK => ?_); go_simp; refine ⟨_, fun _ _ => rfl, hK _ ?_⟩; clear hK K
    refine wpQuiet_step (fun K hK => ?_); refine q_on rfl (q_val (.bool true) (fun W hW => by rw [exec_eql_change rfl (9, (p2 : Int)) (9, (p2 : Int)) (by rfl) (by rfl)]; simp) (hK _ ?_)); clear hK K
    refine wpQuiet_step (fun K hK => ?_); go_simp; refine ⟨_, fun _ _ => rfl, hK _ ?_⟩; clear hK K
    refine wpQuiet_step (fun K hK => ?_); go_simp; refine ⟨_, fun _ _ => rfl, hK _ ?_⟩; clear hK K
    refine wpQuiet_step (fun K hK => ?_); go_simp; refine ⟨_, fun _ _ => rfl, hK _ ?_⟩; clear hK K
    refine wpQuiet_step (fun K hK => ?_); go_simp; refine ⟨_, fun _ _ => rfl, hK _ ?_⟩; clear hK K
    refine wpQuiet_step (fun K hK => ?_); go_simp; refine ⟨_, fun _ _ => rfl, hK _ ?_⟩; clear hK K
    refine wpQuiet_step (fun K hK => ?_); go_simp; refine ⟨_, fun _ _ => rfl, hK _ ?_⟩; clear hK K
    refine wpQuiet_step (fun K hK => ?_); go_simp; refine ⟨_, fun _ _ => rfl, hK _ ?_⟩; clear hK K
    refine wpQuiet_step (fun K hK => ?_); go_simp; refine ⟨_, fun _ _ => rfl, hK _ ?_⟩; clear hK K
    refine wpQuiet_step (fun K hK => ?_); go_simp; refine ⟨_, fun _ _ => rfl, hK _ ?_⟩; clear hK K
    refine wpQuiet_step (fun K hK => ?_); refine q_on rfl (q_val (.agg #[.int .i64 9, .int .i64 (-1)]) (fun W hW => exec_load_agg (g := b9) (off := off9) rfl (by rfl) [.int .i64 9, .int .i64 (-1)] Try.underlying41 rfl (by kernel_rfl) (two_cells (hW.cell c3'.out id) (hW.cell c4'.out id))) (hK _ ?_)); clear hK K
    refine wpQuiet_step (fun K hK => ?_); go_simp; refine ⟨_, fun _ _ => rfl, hK _ ?_⟩; clear hK K
    refine wpQuiet_step (fun K hK => ?_); refine q_on rfl (q_val (.bool true) (fun W hW => by rw [exec_eql_change rfl (9, (-1 : Int)) (9, (-1 : Int)) (by rfl) (by rfl)]; simp) (hK _ ?_)); clear hK K
    refine wpQuiet_step (fun K hK => ?_); go_simp; refine ⟨_, fun _ _ => rfl, hK _ ?_⟩; clear hK K
    refine wpQuiet_step (fun K hK => ?_); go_simp; refine ⟨_, fun _ _ => rfl, hK _ ?_⟩; clear hK K
    refine wpQuiet_nil ?_
    intro wq hwq
    go_wp2_with fail
    go_ret
    exact ⟨rfl, S9.out.own.kept.trans hwq⟩
   exact AllReadyH.nil
  exact AllReadyH.nil
 exact AllReadyH.nil

structure ShSt (w : World) (db sb : Nat) (wr : World) (A : SA) (M : SM) : Prop where
 own : OwnStore w A M wr
 cd : wr.heap[db]? = some (.cells #[.pointer (some ⟨sb, 0, none⟩)] 31 (0, 0))
 sd : Safe wr A db
 eq : A.sb = sb
theorem ShSt.fresh {w wr w' : World} {db sb : Nat} {A : SA} {M : SM} (h : ShSt w db sb wr A M) (k : Kept (fun _ => False) wr w') : ShSt w db sb w' A M := ⟨h.own.fresh k, k.get h.cd id, h.sd.fresh k, h.eq⟩
theorem ShSt.to {w wr w' : World} {db sb : Nat} {A A' : SA} {M M' : SM} (h : ShSt w db sb wr A M) (k : StoreTo A A' M' wr w') : ShSt w db sb w' A' M' := ⟨h.own.to k, k.get h.cd h.sd, h.sd.to k, k.sb.trans h.eq⟩
theorem ShSt.load {w wr : World} {db sb : Nat} {A : SA} {M : SM} (h : ShSt w db sb wr A M) : ∀ j v, [Value.pointer (some ⟨sb, 0, none⟩)][j]? = some v → wr.cell? ⟨db, 0 + j, none⟩ = some v := ptr_load' h.cd
theorem run_build_two (w : World) (A : Option Addr) (n c : Nat) (A' : Option Addr) (n' c' : Nat) : (Instr.build 23 #[(0, .slice A n c), (1, .slice A' n' c')]).run Try.prog w = .ok (.agg #[.slice A n c, .slice A' n' c']) w := run_build _ _ _ _ (by kernel_rfl)
section
variable {K : SM → Prop} {c : Nat} {ns : List Nat} {M N : SM} {ts : List IM} {t : IM} {k : Nat}
theorem Forest.same {K' : SM → Prop} (h : Forest K ns M ts) (hk : K' N) (hs : N.pool.size = M.pool.size) (hc : ∀ q, N.pool.cnt q = M.pool.cnt q) (hl : ∀ q, N.live q = M.live q) (hn : ∀ q, M.live q = true → N.nodeAt q = M.nodeAt q) : Forest K' ns N ts := by
 have g := grown_same hs hl hn
 refine ⟨exact_same h.exact hs hc hl hn, hs.trans h.size, hk, fun q hq hq0 => h.loose q (by rw [← hl]; exact hq) (by rw [← hc]; exact hq0), fun b hb => ?_, fun i hi => ⟨(h.tree i hi).1.grown g, (h.tree i hi).2⟩⟩
 obtain ⟨a, d, e1, e2, e3⟩ := h.data b hb
 exact ⟨by rw [hl]; exact a, d, by rw [hn b a]; exact e1, e2, e3⟩
theorem Forest.list (h : Forest K ns M ts) (ht : t ∈ ts) (hP : t.P ≤ 240) : M.list t.root = (t.l, 0) := (h.tree t ht).1.list hP
theorem Forest.changes_bad (hB : Besides K c) (hn : ns.Nodup) (h4 : ns.length ≤ 4) : ∀ (cs : List (Int × Int)) {M : SM} {ts : List IM} {t : IM}, Forest K ns M ts → ts.length ≤ 3 → ts[k]? = some t → (∀ t ∈ ts, t.P + cs.length ≤ 239) → (ts.map fun i => i.P + 3).sum + cs.length + 2 * c ≤ 438 → (∀ x ∈ cs, x.2 = -1 ∨ ∃ b ∈ ns, x.2 = ((b : Nat) : Int)) → (∃ x ∈ cs, ¬ (0 ≤ x.1 ∧ x.1 < 64)) →
  ∃ M', SM.changes cs M t.root = (M', -1, 101)
 | [], _, _, _, _, _, _, _, _, _, ⟨_, hx, _⟩ => by cases hx
 | x :: cs, M, ts, t, h, h3, hi, hP, hs, hx, hbad => by
  rw [List.length_cons] at hP hs
  have hk : k < ts.length := (List.getElem?_eq_some_iff.1 hi).1
  by_cases hx0 : 0 ≤ x.1 ∧ x.1 < 64
  ·obtain ⟨M1, next, e, _, h1⟩ := h.change hB hn h4 h3 hi (fun t ht => by have := hP t ht; omega) (by omega) hx0.1 hx0.2 (hx x (List.mem_cons_self ..))
   have hi1 : (ts.set k ⟨next, chgL t.l x, t.P + 1, t.w⟩)[k]? = some ⟨next, chgL t.l x, t.P + 1, t.w⟩ := List.getElem?_set_self hk
   obtain ⟨M2, e2⟩ := Forest.changes_bad hB hn h4 cs h1 (by rw [List.length_set]; exact h3) hi1 (fun j hj => by
    rcases List.mem_or_eq_of_mem_set hj with hj | rfl
    ·have := hP j hj; omega
    ·have := hP t (List.mem_of_getElem? hi)
     show t.P + 1 + _ ≤ _; omega) (by rw [sum_set hi rfl]; omega) (fun y hy => hx y (List.mem_cons_of_mem _ hy)) (by
    obtain ⟨y, hy, hyb⟩ := hbad
    rcases List.mem_cons.1 hy with rfl | hy
    ·exact absurd hx0 hyb
    ·exact ⟨y, hy, hyb⟩)
   refine ⟨M2, ?_⟩
   unfold SM.changes
   rw [e]
   dsimp only
   rw [if_pos rfl]
   exact e2
  ·refine ⟨M, ?_⟩
   have := change_bad M t.root (c := x) (by omega)
   unfold SM.changes
   rw [this, if_neg (show ¬ (101 : Nat) = 0 by decide)]
end
def MarkK (G : List Nat) (M : SM) : Prop := M.pool.size = 240 ∧ MarksS 240 G M
theorem markK_besides (G : List Nat) : Besides (MarkK G) G.length := by
 have C := marks_closedS 240 G
 refine ⟨⟨fun M i n hi h => ⟨h.1, C.take M i n hi h.2⟩, fun M i h => ⟨?_, C.hold M i h.2⟩, fun M i hi h => ⟨?_, C.drop M i hi h.2⟩⟩, fun M h => ?_⟩
 ·show (M.pool.holdTo i).size = 240
  rw [holdTo_size]; exact h.1
 ·show (M.pool.dropTo i.toNat).size = 240
  have : (M.pool.dropTo i.toNat).size = M.pool.size := by unfold PM.dropTo; split <;> rfl
  rw [this]; exact h.1
 ·have := marks_roomS (G := G) (M := M) (by rw [h.1]; exact h.2)
  exact this
theorem clean_marked {M : SM} (h : Clean M) : M.tidy = M := by
 unfold SM.tidy PM.turned
 have : (fun j => if M.pool.st j = 3 then 0 else M.pool.st j) = M.pool.st := by
  funext j
  have := (h j).1
  split <;> omega
 rw [this]
structure AppliesOk (ns : List Nat) (l : List (Int × Int)) (cs : List (Int × Int)) (M M1 M2 : SM) (r0 : Int) : Prop where
 h0 : SM.changes (ownL ns l) M (-1) = (M1, r0, 0)
 hh : (if r0 = -1 then (M1, 0) else M1.hold r0) = (M2, 0)
 g2 : M2.log.length ≤ 10000
 list0 : M2.list r0 = ((ownL ns l).foldl chgL [], 0)
 keys : RisesK ((ownL ns l).foldl chgL []) ∧ ∀ y ∈ (ownL ns l).foldl chgL [], 0 ≤ y.1 ∧ y.1 < 64
 good : (∀ x ∈ cs, 0 ≤ x.1 ∧ x.1 < 64) → ∃ M3 r, SM.changes cs (markM M2) r0 = (M3, r, 0) ∧ M3.list r = (cs.foldl chgL ((ownL ns l).foldl chgL []), 0)
 bad : (∃ x ∈ cs, ¬ (0 ≤ x.1 ∧ x.1 < 64)) → ∃ M3, SM.changes cs (markM M2) r0 = (M3, -1, 101) ∧ M3.pool.size = (markM M2).pool.size ∧ SM.list ⟨(markM M2).pool, M3.log⟩ r0 = ((ownL ns l).foldl chgL [], 0)
theorem applies_ok {ns : List Nat} {M : SM} (h : OneTree Clean 240 ns M (-1) [] 0) (h4 : ns.length = 4) (hn : ns.Nodup) (hlog : M.log.length ≤ 4) {l cs : List (Int × Int)} (hl : l.length ≤ 70) (hcs : cs.length ≤ 70) (hx : ∀ x ∈ cs, x.2 = -1 ∨ ∃ b ∈ ns, x.2 = ((b : Nat) : Int)) :
  ∃ M1 M2 r0, AppliesOk ns l cs M M1 M2 r0 := by
 have hB := clean_besides
 have hown := ownL_len ns l
 have hgood := ownL_good h4 l
 have F0 : Forest Clean ns M [.none] := (Forest.of_one h).none
 obtain ⟨M1, t0, e0, l0, p0, F1⟩ := Forest.changes (k := 0) hB hn (by omega) (ownL ns l) F0 (by decide) rfl (fun t ht => by rw [List.mem_singleton.1 ht]; show 0 + _ ≤ _; omega) (by show (0 + 3 + 0) + _ + _ ≤ _; omega) hgood
 have F1 : Forest Clean ns M1 [t0] := F1
 have e0 : SM.changes (ownL ns l) M (-1) = (M1, t0.root, 0) := e0
 have l0 : t0.l = (ownL ns l).foldl chgL [] := l0
 have p0 : t0.P ≤ 70 := by rw [p0]; show 0 + _ ≤ _; omega
 have g1 : M1.log.length ≤ 2000 := by
  have := changes_logS (ownL ns l) M (-1)
  rw [e0] at this
  dsimp only at this
  omega
 obtain ⟨M2, eh, Fh, hlg⟩ := F1.hold hB hn (by show 1 ≤ 3; decide) (fun t ht => by rw [List.mem_singleton.1 ht]; omega) (List.mem_singleton.2 rfl)
 have Fh : Forest Clean ns M2 [t0, t0] := Fh
 obtain ⟨a1, a2, a3⟩ := Fh.each (fun t ht => by simp at ht; rw [ht]; omega)
 obtain ⟨L, q1, q2, _⟩ := forest_pages Fh.exact Fh.loose [t0, t0] a1 a2 a3 0 ns (fun i hi y hy => by
  obtain ⟨b, hb, e⟩ := (Fh.tree i hi).2 y hy
  rw [e, Int.toNat_natCast]; exact hb) a2
 have q2 : 2 * L.length ≤ (t0.P + 3) + ((t0.P + 3) + 0) := q2
 obtain ⟨G, hG⟩ : ∃ G, ns ++ ns ++ L = G := ⟨_, rfl⟩
 rw [hG] at q1
 have hGl : G.length ≤ 81 := by rw [← hG, List.length_append, List.length_append]; omega
 have ht : M2.tidy = M2 := clean_marked Fh.kk
 have hgone : Gone M2.pool.size [] M2 := fun q _ => by
  have := Fh.kk q
  refine ⟨by omega, fun h => by omega, fun h => ⟨by omega, fun h' => by have := this.2 h; omega⟩⟩
 have hmk : MarksS M2.pool.size G M2.marked := marks_markedS hgone q1
 have hmm : M2.marked = markM M2 := by unfold SM.marked; rw [ht]
 rw [hmm, Fh.size] at hmk
 have Fm : Forest (MarkK G) ns (markM M2) [t0, t0] := Fh.same ⟨Fh.size, hmk⟩ rfl (fun _ => rfl) (mark_live M2) (fun _ _ => rfl)
 have hBm := markK_besides G
 refine ⟨M1, M2, t0.root, e0, eh, by rw [hlg]; omega, by rw [← l0]; exact Fh.list (List.mem_cons_self ..) (by omega), by rw [← l0]; exact (Fh.tree t0 (List.mem_cons_self ..)).1.keys, fun hk => ?_, fun hk => ?_⟩
 ·obtain ⟨M3, t3, e3, l3, p3, F3⟩ := Forest.changes (k := 0) (t := t0) hBm hn (by omega) cs Fm (by show 2 ≤ 3; decide) rfl (fun t ht => by simp at ht; rw [ht]; omega) (by show (t0.P + 3 + (t0.P + 3 + 0)) + _ + _ ≤ _; omega) (fun x hx' => ⟨(hk x hx').1, (hk x hx').2, hx x hx'⟩)
  have F3 : Forest (MarkK G) ns M3 [t3, t0] := F3
  refine ⟨M3, t3.root, e3, ?_⟩
  rw [← l0, ← l3]
  exact F3.list (List.mem_cons_self ..) (by omega)
 ·obtain ⟨M3, e3⟩ := Forest.changes_bad (k := 0) (t := t0) hBm hn (by omega) cs Fm (by show 2 ≤ 3; decide) rfl (fun t ht => by simp at ht; rw [ht]; omega) (by show (t0.P + 3 + (t0.P + 3 + 0)) + _ + _ ≤ _; omega) hx hk
  have hcl : Marked (markM M2) (SM.changes cs (markM M2) t0.root).1 := changes_closed (marked_closed (markM M2)) cs t0.root (mark_start M2)
  rw [e3] at hcl
  refine ⟨M3, e3, hcl.size, ?_⟩
  have Fu : Forest (fun _ => True) ns ⟨(markM M2).pool, M3.log⟩ [t0, t0] := Fm.same trivial rfl (fun _ => rfl) (fun _ => rfl) (fun q hq => hcl.node q hq)
  rw [← l0]
  exact Fu.list (List.mem_cons_self ..) (by omega)

def ownM (ns : List Nat) (c : Int × Int) : Int × Int := if c.2 = -1 then c else (c.1, ((ns.getD (clampQ c.2) 0 : Nat) : Int))
theorem ownM_none {ns : List Nat} {k : Int} : ownM ns (k, -1) = (k, -1) := by unfold ownM; rw [if_pos rfl]
theorem ownM_some {ns : List Nat} {k p : Int} {q : Nat} (hp : ¬ p = -1) (hq : ns[clampQ p]? = some q) : ownM ns (k, p) = (k, (q : Int)) := by
 unfold ownM
 rw [if_neg hp, List.getD_eq_getElem?_getD, hq]
 rfl
theorem ownM_step {ns : List Nat} {l : List (Int × Int)} {k : Nat} {x : Int × Int} (h : l[k]? = some x) : (l.take (k + 1)).map (ownM ns) = (l.take k).map (ownM ns) ++ [ownM ns x] := by
 rw [List.take_add_one, h, List.map_append]
 rfl
theorem ownM_good {ns : List Nat} (h4 : ns.length = 4) (l : List (Int × Int)) : ∀ x ∈ l.map (ownM ns), x.2 = -1 ∨ ∃ b ∈ ns, x.2 = ((b : Nat) : Int) := fun x hx => by
 obtain ⟨c, _, rfl⟩ := List.mem_map.1 hx
 unfold ownM
 split
 ·rename_i hp
  exact .inl hp
 ·have hq : clampQ c.2 < ns.length := by rw [h4]; unfold clampQ; omega
  refine .inr ⟨ns[clampQ c.2], List.getElem_mem hq, ?_⟩
  show ((ns.getD (clampQ c.2) 0 : Nat) : Int) = _
  rw [List.getD_eq_getElem?_getD, List.getElem?_eq_getElem hq]
  rfl
structure OwnPt (w : World) (pre : List (Int × Int)) (v : Value) (wr : World) : Prop where
 kept : Kept (fun _ => False) w wr
 row : wr.ownsRow w.heap.size 41 2 v pre.length (entCells pre)
section
variable {w wr w' : World} {pre : List (Int × Int)} {v : Value}
theorem OwnPt.fresh (h : OwnPt w pre v wr) (q : Kept (fun _ => False) wr w') : OwnPt w pre v w' := ⟨h.kept.trans q, ownsRow.keptOf h.row q (fun _ _ => id)⟩
theorem OwnPt.later (h : OwnPt w pre v wr) {w1 : World} {xb : Nat} (k1 : Kept (fun _ => False) wr w1) (k2 : Kept (fun j => j = xb) w1 w') (hx : wr.heap.size ≤ xb) (hn : w.heap.size ≤ xb) : OwnPt w pre v w' := by
 have h1 := h.fresh k1
 refine ⟨h1.kept.trans_new k2 (fun i hi e => by omega), ownsRow.keptOf h1.row k2 (fun b hb e => ?_)⟩
 have := (h.row.lt b hb).2
 omega
theorem OwnPt.more (h : OwnPt w pre v wr) {w1 : World} (k1 : Kept (fun _ => False) wr w1) (x : Int × Int) {v7 : Value}
  (ho : w'.ownsRow w.heap.size 41 2 v7 (pre.length + 1) (entCells pre ++ [.int .i64 x.1, .int .i64 x.2])) (hg : w1.grownBy w' v.ownBlock) : OwnPt w (pre ++ [x]) v7 w' := by
 refine ⟨(h.kept.trans k1).trans_new (Kept.of_grown hg) (fun i hi e => ?_), ?_⟩
 ·exact absurd (h.row.lt i e).1 (Nat.not_le.2 hi)
 ·rw [List.length_append, entCells_append]
  exact ho
end
structure ApyS (w : World) (db sb cb rb lb : Nat) (u0 u1 vp : Value) (ns : List Nat) (l1 LL : List (Int × Int)) (r0 : Int) (L0 L1 : Value) (wr : World) (A : SA) (M : SM) : Prop where
 st : ShSt w db sb wr A M
 cl : wr.heap[cb]? = some (.cells #[u0, u1] 23 (0, 0))
 sl : Safe wr A cb
 cr : wr.heap[rb]? = some (.cells #[.int .i64 r0, .int .i64 r0] 35 (0, 0))
 sr : Safe wr A rb
 ct : wr.heap[lb]? = some (.cells #[L0, L1] 37 (0, 0))
 sq : Safe wr A lb
 e1 : EntsOff wr A u1 l1
 eL : EntsOff wr A L0 LL
 pg : PagesAt wr vp ns A
section
variable {w wr w' : World} {db sb cb rb lb : Nat} {u0 u1 vp : Value} {ns : List Nat} {l1 LL : List (Int × Int)} {r0 : Int} {L0 L1 : Value} {A A' : SA} {M M' : SM}
theorem ApyS.fresh (h : ApyS w db sb cb rb lb u0 u1 vp ns l1 LL r0 L0 L1 wr A M) (k : Kept (fun _ => False) wr w') : ApyS w db sb cb rb lb u0 u1 vp ns l1 LL r0 L0 L1 w' A M :=
 ⟨h.st.fresh k, k.get h.cl id, h.sl.fresh k, k.get h.cr id, h.sr.fresh k, k.get h.ct id, h.sq.fresh k, h.e1.fresh k, h.eL.fresh k, h.pg.fresh k⟩
theorem ApyS.to (h : ApyS w db sb cb rb lb u0 u1 vp ns l1 LL r0 L0 L1 wr A M) (hn : ns ≠ []) (k : StoreTo A A' M' wr w') : ApyS w db sb cb rb lb u0 u1 vp ns l1 LL r0 L0 L1 w' A' M' :=
 ⟨h.st.to k, k.get h.cl h.sl, h.sl.to k, k.get h.cr h.sr, h.sr.to k, k.get h.ct h.sq, h.sq.to k, h.e1.to k, h.eL.to k, h.pg.to hn k⟩
end
set_option maxHeartbeats 16000000 in
theorem diffAppliesWalk {w : World} (v0 v1 : Value) (l0 l1 : List (Int × Int)) (hv0 : EntsAt w v0 l0) (hv1 : EntsAt w v1 l1) :
  Calls Try.prog 5 #[.agg #[v0, v1]] w fun e w' => e = .returned (.bool true) ∧ Kept (fun _ => False) w w' := by
 obtain ⟨A0, c0, rfl, ha1, ha2⟩ := hv0.form
 obtain ⟨A1, c1, rfl, hb1, hb2⟩ := hv1.form
 unfold maxLen at ha2 hb2
 obtain ⟨cb, hcb⟩ : ∃ b, w.heap.size = b := ⟨_, rfl⟩
 obtain ⟨wb, hwb⟩ : ∃ u, w.alloc (.cells #[.slice A0 l0.length c0, .slice A1 l1.length c1] 23) = u := ⟨_, rfl⟩
 have kb := h_ (show Kept (fun _ => False) w wb by rw [← hwb]; exact (Kept.refl _ _).alloc _)
 have qb := h_ (show wb.heap[cb]? = some (.cells #[.slice A0 l0.length c0, .slice A1 l1.length c1] 23 (0, 0)) by rw [← hwb, ← hcb]; exact heap_alloc_new _ _)
 have hwb' := h_ hwb
 have hcb' := h_ hcb
 have hv0' := h_ hv0
 have hv1' := h_ hv1
 have hm := fun w => made12 w
 have hm' := h_ hm
 have hcw : Hid (w.heap.size ≤ cb) := h_ (by omega)
 clear hwb hcb hv0 hv1 hm
 by_cases hl : 70 < l0.length
 ·have d0 : decide ((70 : Int) < (l0.length : Int)) = true := decide_eq_true (by omega)
  go_enter Try.func5, Try.ntmps5
  go_wp2_with (first | (refine wpList_box_named 23 rfl rfl _ rfl hwb'.out ?_; rw [hcb'.out]))
  refine (diffAlive _).mono ?_
  rintro e w1 ⟨rfl, k1⟩
  have cc0 := cell_of_heap (k1.get qb.out id) 0
  have cc1 := cell_of_heap (k1.get qb.out id) 1
  simp at cc0 cc1
  have K1 := h_ (kb.out.trans k1)
  have kk1 := h_ k1
  clear k1
  go_wp2_with fail
  go_ret
  exact ⟨rfl, K1.out⟩
 have d0 : decide ((70 : Int) < (l0.length : Int)) = false := decide_eq_false (by omega)
 by_cases hl1 : 70 < l1.length
 ·have d1 : decide ((70 : Int) < (l1.length : Int)) = true := decide_eq_true (by omega)
  go_enter Try.func5, Try.ntmps5
  go_wp2_with (first | (refine wpList_box_named 23 rfl rfl _ rfl hwb'.out ?_; rw [hcb'.out]))
  refine (diffAlive _).mono ?_
  rintro e w1 ⟨rfl, k1⟩
  have cc0 := cell_of_heap (k1.get qb.out id) 0
  have cc1 := cell_of_heap (k1.get qb.out id) 1
  simp at cc0 cc1
  have K1 := h_ (kb.out.trans k1)
  have kk1 := h_ k1
  clear k1
  go_wp2_with fail
  go_ret
  exact ⟨rfl, K1.out⟩
 have d1 : decide ((70 : Int) < (l1.length : Int)) = false := decide_eq_false (by omega)
 go_enter Try.func5, Try.ntmps5
 go_wp2_with (first | (refine wpList_box_named 23 rfl rfl _ rfl hwb'.out ?_; rw [hcb'.out]))
 refine (diffAlive _).mono ?_
 rintro e w1 ⟨rfl, k1⟩
 have cc0 := cell_of_heap (k1.get qb.out id) 0
 have cc1 := cell_of_heap (k1.get qb.out id) 1
 simp at cc0 cc1
 have K1 := h_ (kb.out.trans k1)
 have kk1 := h_ k1
 clear k1
 go_wp2_with fail
 refine (hm'.out _).mono ?_
 rintro e w2 ⟨A, M, ns, vp, rfl, hA, h4, hone, hnd, hrow, hoff, hlg, hk, hnew⟩
 obtain ⟨_, Ap, cp, rfl, hp1, hp2, _⟩ := SliceAt.of_owns hrow
 unfold maxLen at hp2
 obtain ⟨M1, M2, r0, SO⟩ := applies_ok hone h4 hnd hlg (l := l0) (cs := l1.map (ownM ns)) (by omega) (by rw [List.length_map]; omega) (ownM_good h4 l1)
 have SO' := h_ SO
 have h4' := h_ h4
 obtain ⟨db, hdb⟩ : ∃ b, w2.heap.size = b := ⟨_, rfl⟩
 obtain ⟨sb, hsb⟩ : ∃ s, A.sb = s := ⟨_, rfl⟩
 rw [hsb]
 obtain ⟨w3, hw3⟩ : ∃ u, (w2.alloc (.cells #[.pointer none] 31)).setRow db #[.pointer (some ⟨sb, 0, none⟩)] = u := ⟨_, rfl⟩
 have k3 : Kept (fun _ => False) w2 w3 := by rw [← hw3]; exact ((Kept.refl _ _).alloc _).setRowNew (by omega) _
 have q3 : w3.heap[db]? = some (.cells #[.pointer (some ⟨sb, 0, none⟩)] 31 (0, 0)) := by rw [← hw3, ← hdb]; exact setRow_heap _ _ _ _ _ _ (heap_alloc_new _ _)
 have qc := ((kk1.out.trans hk).trans k3).get qb.out id
 have cd0 := cell_of_heap qc 0
 simp at cd0
 have hcbA : cb < w2.heap.size := lt_of_heap ((kk1.out.trans hk).get qb.out id)
 have O3 : OwnStore w A M w3 := ⟨hA.fresh k3, (K1.out.trans hk).trans k3, fun j hj => Nat.le_trans K1.out.size (hnew j hj)⟩
 have hcbO : ¬ A.own cb := fun e => by have := hnew cb e; have := lt_of_heap (kk1.out.get qb.out id); omega
 have hld3 := h_ (ptr_load' q3)
 have S3 : ShSt w db sb w3 A M := ⟨O3, q3, ⟨lt_of_heap q3, fun e => by have := hA.lt (.inl e); omega⟩, hsb⟩
 have old : ∀ (v : Value) (l : List (Int × Int)), EntsAt w v l → EntsOff w3 A v l := fun v l hv => ⟨SliceAt.fresh hv O3.kept, fun hne b hb => by
  obtain ⟨b', e1, e2⟩ := SliceAt.block hv (by have := List.length_pos_iff.2 hne; omega)
  rw [hb] at e1
  cases e1
  exact ⟨Nat.lt_of_lt_of_le e2 O3.kept.size, fun e => by have := O3.new b (.inl e); omega⟩⟩
 have EP : PagesAt w3 (.slice Ap 4 cp) ns A := ⟨SliceAt.fresh (by rw [h4]; exact SliceAt.of_owns hrow) k3, fun _ b hb => ⟨Nat.lt_of_lt_of_le (hrow.lt b hb).2 k3.size, fun e => hoff b hb (.inl e)⟩⟩
 have CT := two12 O3.store h4 EP (old _ _ hv0'.out) (v1 := .slice none 0 0) (l1 := []) ⟨sliceNil (Nat.zero_le _), fun h => absurd rfl h⟩ (by omega) (by show 0 ≤ 70; omega) SO.h0 SO.hh (M2 := M2) (r1 := r0) rfl (by omega) SO.g2
 rw [hsb] at CT
 have CT' := h_ CT
 have E1 := h_ (old _ _ hv1'.out)
 have EP' := h_ EP
 have S3' := h_ S3
 have qc' := h_ qc
 have hcs : Hid (Safe w3 A cb) := h_ ⟨lt_of_heap qc, fun e => hcbO (.inl e)⟩
 have hbt : Hid (∀ w, (Instr.build 23 #[(0, .slice A0 l0.length c0), (1, .slice none 0 0)]).run Try.prog w = .ok (.agg #[.slice A0 l0.length c0, .slice none 0 0]) w) := h_ (fun w => run_build_two w _ _ _ _ _ _)
 have hw3' := h_ hw3
 have hdb' := h_ hdb
 clear hA h4 hone hnd hrow hoff hlg hk hnew hdb hsb hw3 k3 q3 qc hcbA O3 hcbO S3 old EP CT SO
 go_wp2_with (first | (refine wpList_alloc_as 31 rfl rfl #[.pointer none] differ_zero ?_; rw [hdb'.out]) | (refine wpList_store_whole 31 rfl rfl rfl [.pointer (some ⟨sb, 0, none⟩)] rfl differ_size 31 #[.pointer none] (by rw [← hdb'.out]; exact heap_alloc_new _ _) rfl (by intro c hc; simp at hc; subst hc; rfl) ?_; rw [hw3'.out]) | (refine wpList_load_agg 31 rfl rfl rfl _ Try.underlying31 rfl [.pointer (some ⟨sb, 0, none⟩)] (by kernel_rfl) hld3.out ?_) | (refine wpList_exec rfl (exec_build 23 #[(0, .slice A0 l0.length c0), (1, .slice none 0 0)] _ rfl (by simp [Act.eval, Act.put]) (hbt.out _)) ?_))
 refine CT'.out.mono ?_
 rintro e w6 ⟨A6, L0, L1, rfl, hT6, hE0, hE1⟩
 obtain ⟨LL, hLL⟩ : ∃ z, (ownL ns l0).foldl chgL [] = z := ⟨_, rfl⟩
 have hE1 : EntsOff w6 A6 L1 ((ownL ns l0).foldl chgL []) := hE1
 rw [hLL] at hE0 hE1
 obtain ⟨AL, cL, rfl, hL1, hL2⟩ := hE0.at_.form
 obtain ⟨AK, cK, rfl, hK1, hK2⟩ := hE1.at_.form
 have S6 := h_ (S3'.out.to hT6)
 have F6 := h_ hE0
 have G6 := h_ (E1.out.to hT6)
 have P6 := h_ (EP'.out.to (fun e => by have := h4'.out; rw [e] at this; cases this) hT6)
 have Q6 := h_ (hT6.get qc'.out hcs.out)
 have R6 := h_ (hcs.out.to hT6)
 have hLL' := h_ hLL
 obtain ⟨rb, hrb⟩ : ∃ b, w6.heap.size = b := ⟨_, rfl⟩
 obtain ⟨wa, hwa⟩ : ∃ u, w6.alloc (.cells #[.int .i64 0, .int .i64 0] 35) = u := ⟨_, rfl⟩
 obtain ⟨lb, hlb⟩ : ∃ b, wa.heap.size = b := ⟨_, rfl⟩
 obtain ⟨wc, hwc⟩ : ∃ u, (wa.alloc (.cells #[.slice none 0 0, .slice none 0 0] 37)).setRow rb #[.int .i64 r0, .int .i64 r0] = u := ⟨_, rfl⟩
 obtain ⟨wd, hwd⟩ : ∃ u, wc.setRow lb #[.slice AL LL.length cL, .slice AK LL.length cK] = u := ⟨_, rfl⟩
 have ka : Kept (fun _ => False) w6 wa := by rw [← hwa]; exact (Kept.refl _ _).alloc _
 have qa : wa.heap[rb]? = some (.cells #[.int .i64 0, .int .i64 0] 35 (0, 0)) := by rw [← hwa, ← hrb]; exact heap_alloc_new _ _
 have kab : Kept (fun _ => False) wa (wa.alloc (.cells #[.slice none 0 0, .slice none 0 0] 37)) := (Kept.refl _ _).alloc _
 have qb2 := kab.get qa id
 have ql : (wa.alloc (.cells #[.slice none 0 0, .slice none 0 0] 37)).heap[lb]? = some (.cells #[.slice none 0 0, .slice none 0 0] 37 (0, 0)) := by rw [← hlb]; exact heap_alloc_new _ _
 have e1 := lt_of_heap qa
 have kc : Kept (fun j => j = rb) (wa.alloc (.cells #[.slice none 0 0, .slice none 0 0] 37)) wc := by rw [← hwc]; exact Kept.setRow (S := fun j => j = rb) (Kept.refl _ _) rfl _
 have qcr : wc.heap[rb]? = some (.cells #[.int .i64 r0, .int .i64 r0] 35 (0, 0)) := by rw [← hwc]; exact setRow_heap _ _ _ _ _ _ qb2
 have qcl := kc.get ql (by omega)
 have kd : Kept (fun j => j = lb) wc wd := by rw [← hwd]; exact Kept.setRow (S := fun j => j = lb) (Kept.refl _ _) rfl _
 have qdl : wd.heap[lb]? = some (.cells #[.slice AL LL.length cL, .slice AK LL.length cK] 37 (0, 0)) := by rw [← hwd]; exact setRow_heap _ _ _ _ _ _ qcl
 have qdr := kd.get qcr (by omega)
 have k6d : Kept (fun _ => False) w6 wd := ((ka.trans kab).trans_new kc (fun i hi e => by omega)).trans_new kd (fun i hi e => by omega)
 have S7 : Hid (ApyS w db sb cb rb lb (.slice A0 l0.length c0) (.slice A1 l1.length c1) (.slice Ap 4 cp) ns l1 LL r0 (.slice AL LL.length cL) (.slice AK LL.length cK) wd A6 M2) := h_ ⟨S6.out.fresh k6d, k6d.get Q6.out id, R6.out.fresh k6d, qdr, ⟨lt_of_heap qdr, fun e => by have := S6.out.own.store.lt (.inl e); omega⟩, qdl, ⟨lt_of_heap qdl, fun e => by have := S6.out.own.store.lt (.inl e); omega⟩, G6.out.fresh k6d, F6.out.fresh k6d, P6.out.fresh k6d⟩
 have hwa' := h_ hwa
 have hwc' := h_ hwc
 have hwd' := h_ hwd
 have hrb' := h_ hrb
 have hlb' := h_ hlb
 have Qb2 := h_ qb2
 have Qcl := h_ qcl
 obtain ⟨wo, hwo⟩ : ∃ wo, wd.alloc (.cells #[] 41) = wo := ⟨_, rfl⟩
 have O0 : Hid (([] : List (Int × Int)) = (l1.take 0).map (ownM ns) ∧ OwnPt wd [] (.slice (some ⟨wd.heap.size, 0, none⟩) 0 0) wo) := h_ ⟨rfl, by rw [← hwo]; exact (Kept.refl _ _).alloc _, by rw [← hwo]; exact owns_empty wd wd.heap.size wd.heap.size 41 2 (Nat.le_refl _) rfl⟩
 have clo := cell_of_heap (((Kept.refl (fun _ => False) wd).alloc (.cells #[] 41)).get S7.out.cl id) 1
 simp at clo
 have hwo' := h_ hwo
 clear hT6 hE0 hE1 hLL hrb hwa hlb hwc hwd ka qa kab qb2 ql e1 kc qcr qcl kd qdl qdr k6d hwo
 go_wp2_with (first | (refine wpList_alloc_as 35 rfl rfl #[.int .i64 0, .int .i64 0] (by kernel_rfl) ?_; rw [hwa'.out, hrb'.out]) | (refine wpList_alloc_as 37 rfl rfl #[.slice none 0 0, .slice none 0 0] (by kernel_rfl) ?_; rw [hlb'.out]) | (refine wpList_store_whole 35 rfl rfl rfl [.int .i64 r0, .int .i64 r0] rfl (by kernel_rfl) 35 #[.int .i64 0, .int .i64 0] Qb2.out rfl (by intro c hc; simp at hc; rcases hc with rfl | rfl <;> rfl) ?_; rw [hwc'.out]) | (refine wpList_store_whole 37 rfl rfl rfl [.slice AL LL.length cL, .slice AK LL.length cK] rfl (by kernel_rfl) 37 #[.slice none 0 0, .slice none 0 0] Qcl.out rfl (by intro c hc; simp at hc; rcases hc with rfl | rfl <;> rfl) ?_; rw [hwd'.out]))
 rw [hwo'.out]
 obtain ⟨wz, hwz⟩ : ∃ u, wd = u := ⟨_, rfl⟩
 rw [hwz] at S7 O0 clo hwo' hwd' ⊢
 clear hwz
 go_loopw [9, 55] (fun v i wr => ∃ (k : Nat) (pre : List (Int × Int)), k ≤ l1.length ∧ i = .int .i64 k ∧ Hid (pre = (l1.take k).map (ownM ns) ∧ OwnPt wz pre v wr)) (fun _ i _ => l1.length - (intOf i).toNat)
 case atStart => exact ⟨0, [], Nat.zero_le _, rfl, O0⟩
 case round =>
  obtain ⟨k, pre, hk, rfl, hOO⟩ := hrel
  have hpre := h_ hOO.out.1
  have hO := h_ hOO.out.2
  clear hOO
  obtain ⟨_, Av, cv, rfl, hv1, hv2, _⟩ := SliceAt.of_owns hO.out.row
  unfold maxLen at hv2
  have hbnd : pre.length ≤ 70 := by rw [hpre.out, List.length_map, List.length_take]; omega
  by_cases hlt : k < l1.length
  ·obtain ⟨x, hx⟩ : ∃ x, l1[k]? = some x := ⟨_, List.getElem?_eq_getElem hlt⟩
   obtain ⟨xk, xp⟩ := x
   have St := S7.out.fresh hO.out.kept
   obtain ⟨eb, eo, hA1, heb, hx0, hx1⟩ := St.e1.at_.get hx
   have hki : (k : Int) < (l1.length : Int) := by omega
   have hown := ownM_step (ns := ns) hx
   have hlo : Hid (∀ i v, [Value.int .i64 xk, .int .i64 xp][i]? = some v → wr.cell? ⟨eb, eo + k * 2 + i, none⟩ = some v) := h_ (fun i v hi => by
    match i, hi with
    | 0, hi => cases hi; exact hx0
    | 1, hi => cases hi; exact hx1)
   obtain ⟨xb, hxb⟩ : ∃ xb, wr.heap.size = xb := ⟨_, rfl⟩
   obtain ⟨wx, hwx⟩ : ∃ wx, (wr.alloc (.cells #[.int .i64 0, .int .i64 0] 41)).setRow xb #[.int .i64 xk, .int .i64 xp] = wx := ⟨_, rfl⟩
   have kx : Kept (fun _ => False) wr wx := by rw [← hwx]; exact ((Kept.refl _ _).alloc _).setRowNew (by omega) _
   have qx : wx.heap[xb]? = some (.cells #[.int .i64 xk, .int .i64 xp] 41 (0, 0)) := by rw [← hwx, ← hxb]; exact setRow_heap _ _ _ _ _ _ (heap_alloc_new _ _)
   have cx0 := cell_of_heap qx 0
   have cx1 := cell_of_heap qx 1
   simp at cx0 cx1
   have Ox := h_ (hO.out.fresh kx)
   have hxn : Hid (wz.heap.size ≤ xb) := h_ (by have := hO.out.kept.size; omega)
   have hxb' := h_ hxb
   have hwx' := h_ hwx
   by_cases hm : xp = -1
   ·subst hm
    have hfin : Hid (pre ++ [(xk, -1)] = (l1.take (k + 1)).map (ownM ns)) := h_ (by rw [hown, ownM_none, hpre.out])
    have hlx : Hid (∀ i v, [Value.int .i64 xk, .int .i64 (-1)][i]? = some v → wx.cell? ⟨xb, 0 + i, none⟩ = some v) := h_ (fun i v hi => by rw [cell_of_heap qx, Nat.zero_add]; simpa using hi)
    subst hA1
    clear hx hx0 hx1 hO St hown kx qx hxb hwx heb
    go_wp2_with (first | (refine wpList_load_agg 41 rfl rfl rfl _ Try.underlying41 rfl [.int .i64 xk, .int .i64 (-1)] (by kernel_rfl) hlo.out ?_) | (refine wpList_load_agg 41 rfl rfl rfl _ Try.underlying41 rfl [.int .i64 xk, .int .i64 (-1)] (by kernel_rfl) hlx.out ?_) | (refine wpList_alloc_as 41 rfl rfl #[.int .i64 0, .int .i64 0] (by kernel_rfl) ?_; rw [hxb'.out]) | (refine wpList_store_whole 41 rfl rfl rfl [.int .i64 xk, .int .i64 (-1)] rfl (by kernel_rfl) 41 #[.int .i64 0, .int .i64 0] (by rw [← hxb'.out]; exact heap_alloc_new _ _) rfl (by intro c hc; simp at hc; rcases hc with rfl | rfl <;> rfl) ?_; rw [hwx'.out]) | (at_builtin; refine wpList_append_src rfl elemChange (.tmp 70) (.tmp 72) rfl (by rfl) (by rfl) (ownsRow.keptOf Ox.out.row ((Kept.refl (fun _ => False) wx).alloc _) (fun _ _ => id)) (SliceAt.block_new (ys := [.int .i64 xk, .int .i64 (-1)]) (m := 1) (heap_alloc_new _ _) (by rfl) (by decide)) (by intro c hc; simp at hc; rcases hc with rfl | rfl <;> rfl) (by omega) (by omega) (Nat.le_trans Ox.out.kept.size ((Kept.refl (fun _ => False) _).alloc _).size) ?_; intro v7 w7 hown7 hg7 hat7))
    have fin : Hid (pre ++ [(xk, -1)] = (l1.take (k + 1)).map (ownM ns) ∧ OwnPt wz (pre ++ [(xk, -1)]) v7 w7) := h_ ⟨hfin.out, Ox.out.more ((Kept.refl (fun _ => False) wx).alloc _) (xk, -1) hown7 hg7⟩
    clear hown7 hg7 hat7
    go_wp2_with fail
    go_roundw
    case rel => exact ⟨k + 1, _, by omega, by go_num, fin⟩
    case measure => simp [intOf] <;> omega
   ·have hb : (xp == -1) = false := by simp [hm]
    have hb2 : (xp != -1) = true := by simp [hm]
    obtain ⟨q, hq⟩ : ∃ q, clampQ xp = q := ⟨_, rfl⟩
    have hq4 : q < ns.length := by rw [h4'.out, ← hq]; unfold clampQ; omega
    have hqc : max 0 (min xp 3) = (q : Int) := by rw [← hq]; unfold clampQ; omega
    obtain ⟨p, hp⟩ : ∃ p, ns[q]? = some p := ⟨_, List.getElem?_eq_getElem hq4⟩
    obtain ⟨pb, po, hAp, hpb, hcp⟩ := PagesAt.get (St.pg.fresh kx) hp
    have hfin : Hid (pre ++ [(xk, (p : Int))] = (l1.take (k + 1)).map (ownM ns)) := h_ (by rw [hown, ownM_some hm (by rw [hq]; exact hp), hpre.out])
    have hq3 : (q : Int) < 4 := by have := h4'.out; omega
    have fx := free_of_heap qx 1
    obtain ⟨wy, hwy⟩ : ∃ wy, wx.setCell ⟨xb, 1, none⟩ (.int .i64 (p : Int)) = wy := ⟨_, rfl⟩
    have ky : Kept (fun j => j = xb) wx wy := by rw [← hwy]; exact Kept.setCell (S := fun j => j = xb) (Kept.refl _ _) rfl _
    have qy : wy.heap[xb]? = some (.cells #[.int .i64 xk, .int .i64 (p : Int)] 41 (0, 0)) := by rw [← hwy, heap_setCell_same qx]; rfl
    have hly : Hid (∀ i v, [Value.int .i64 xk, .int .i64 (p : Int)][i]? = some v → wy.cell? ⟨xb, 0 + i, none⟩ = some v) := h_ (fun i v hi => by rw [cell_of_heap qy, Nat.zero_add]; simpa using hi)
    have Oy := h_ (hO.out.later kx ky (by omega) hxn.out)
    have hwy' := h_ hwy
    subst hA1 hAp
    clear hx hx0 hx1 hO St hown kx qx hxb hwx heb ky qy hwy hp hq hq4 hpb hm
    go_wp2_with (first | (refine wpList_load_agg 41 rfl rfl rfl _ Try.underlying41 rfl [.int .i64 xk, .int .i64 xp] (by kernel_rfl) hlo.out ?_) | (refine wpList_alloc_as 41 rfl rfl #[.int .i64 0, .int .i64 0] (by kernel_rfl) ?_; rw [hxb'.out]) | (refine wpList_store_whole 41 rfl rfl rfl [.int .i64 xk, .int .i64 xp] rfl (by kernel_rfl) 41 #[.int .i64 0, .int .i64 0] (by rw [← hxb'.out]; exact heap_alloc_new _ _) rfl (by intro c hc; simp at hc; rcases hc with rfl | rfl <;> rfl) ?_; rw [hwx'.out]) | (rw [hwy'.out]; (refine wpList_load_agg 41 rfl rfl rfl _ Try.underlying41 rfl [.int .i64 xk, .int .i64 (p : Int)] (by kernel_rfl) hly.out ?_)) | (refine wpList_load_agg 41 rfl rfl rfl _ Try.underlying41 rfl [.int .i64 xk, .int .i64 (p : Int)] (by kernel_rfl) hly.out ?_) | (at_builtin; refine wpList_append_src rfl elemChange (.tmp 70) (.tmp 72) rfl (by rfl) (by rfl) (ownsRow.keptOf Oy.out.row ((Kept.refl (fun _ => False) wy).alloc _) (fun _ _ => id)) (SliceAt.block_new (ys := [.int .i64 xk, .int .i64 (p : Int)]) (m := 1) (heap_alloc_new _ _) (by rfl) (by decide)) (by intro c hc; simp at hc; rcases hc with rfl | rfl <;> rfl) (by omega) (by omega) (Nat.le_trans Oy.out.kept.size ((Kept.refl (fun _ => False) _).alloc _).size) ?_; intro v7 w7 hown7 hg7 hat7))
    have fin : Hid (pre ++ [(xk, (p : Int))] = (l1.take (k + 1)).map (ownM ns) ∧ OwnPt wz (pre ++ [(xk, (p : Int))]) v7 w7) := h_ ⟨hfin.out, Oy.out.more ((Kept.refl (fun _ => False) wy).alloc _) (xk, (p : Int)) hown7 hg7⟩
    clear hown7 hg7 hat7
    go_wp2_with fail
    go_roundw
    case rel => exact ⟨k + 1, _, by omega, by go_num, fin⟩
    case measure => simp [intOf] <;> omega
  ·obtain rfl : k = l1.length := by omega
   have hki : decide ((l1.length : Int) < (l1.length : Int)) = false := decide_eq_false (by omega)
   have hrow := hO.out.row
   have hkp := hO.out.kept
   have hpe := hpre.out
   rw [List.take_length] at hpe
   have S8 := h_ (S7.out.fresh hkp)
   obtain ⟨cs, hcs2⟩ : ∃ cs, l1.map (ownM ns) = cs := ⟨_, rfl⟩
   have hgood := SO'.out.good
   have hbad := SO'.out.bad
   have hl0 := SO'.out.list0
   have hkeys := SO'.out.keys
   rw [hcs2] at hpe hgood hbad
   subst hpe
   rw [hLL'.out] at hgood hbad hl0 hkeys
   have EC : Hid (EntsOff wr A6 (.slice Av pre.length cv) pre) := h_ ⟨SliceAt.of_owns hrow, fun _ b hb => ⟨(hrow.lt b hb).2, fun e => by have := (hrow.lt b hb).1; have := S7.out.st.own.store.lt (.inl e); omega⟩⟩
   have hgood := h_ hgood
   have hbad := h_ hbad
   have hkeys := h_ hkeys
   have cp0 := S8.out.st.load 0 _ rfl
   rw [Nat.zero_add] at cp0
   have CM := storeMark S8.out.st.own.store
   rw [S8.out.st.eq] at CM
   have CM' : Hid (Calls Try.prog 18 #[.pointer (some ⟨sb, 0, none⟩)] wr fun e w' => ∃ c, e = .returned (.pointer (some ⟨c, 0, none⟩)) ∧ StoreTo A6 A6 (markM M2) wr w' ∧ PoolOff w' A6 c (markM M2).pool) := h_ CM
   have hll : LL.length ≤ 64 := rises_len hkeys.out.1 hkeys.out.2
   clear hO hkp hrow hcs2 CM hl0 hpre
   go_wp2_with fail
   refine CM'.out.mono ?_
   rintro e w9 ⟨mk, rfl, hT9, hmk⟩
   have hns : ns ≠ [] := fun e => by have := h4'.out; rw [e] at this; cases this
   have S9 := h_ (S8.out.to hns hT9)
   have EC9 := h_ (EC.out.to hT9)
   have P9 := h_ hmk
   obtain ⟨Fr, hFr⟩ : ∃ n, (markM M2).pool.freeCount = n := ⟨_, rfl⟩
   have hFr' := h_ hFr
   have cp9 := S9.out.st.load 0 _ rfl
   rw [Nat.zero_add] at cp9
   have CP := storePool S9.out.st.own.store
   rw [S9.out.st.eq] at CP
   have CP' := h_ CP
   have CF := freeCount_any S9.out.st.own.store.pool
   rw [hFr] at CF
   have CF' := h_ CF
   clear hT9 hmk CP CF hFr cp0
   go_wp2_with fail
   refine CP'.out.mono ?_
   rintro e _ ⟨rfl, rfl⟩
   go_wp2_with fail
   refine CF'.out.mono ?_
   rintro e _ ⟨rfl, rfl⟩
   have cr9 := cell_of_heap S9.out.cr 0
   simp at cr9
   have hld9 := h_ S9.out.st.load
   have hlog9 : (markM M2).log.length ≤ 10000 := SO'.out.g2
   have CA := diffApply S9.out.st.own.store r0 EC9.out (by omega) (by omega)
   rw [S9.out.st.eq] at CA
   have CA' := h_ CA
   clear CA
   by_cases hall : ∀ x ∈ pre, 0 ≤ x.1 ∧ x.1 < 64
   ·obtain ⟨M3, r, hch, hls⟩ := hgood.out hall
    have hch := h_ hch
    have hall' := h_ hall
    have hls' := h_ hls
    clear hall hls
    have CA2 := CA'.out
    rw [hch.out] at CA2
    have CA3 : Hid (Calls Try.prog 16 #[.agg #[.pointer (some ⟨sb, 0, none⟩)], .int .i64 r0, .slice Av pre.length cv] w9 fun e w' => ∃ A', e = .returned (.tuple #[.int .i64 r, .int .i64 0]) ∧ StoreTo A6 A' M3 w9 w') := h_ CA2
    clear CA2
    go_wp2_with (first | (refine wpList_load_agg 31 rfl rfl rfl _ Try.underlying31 rfl [.pointer (some ⟨sb, 0, none⟩)] (by kernel_rfl) hld9.out ?_))
    refine CA3.out.mono ?_
    rintro e w10 ⟨A10, rfl, hT10⟩
    have S10 := h_ (S9.out.to hns hT10)
    have EC10 := h_ (EC9.out.to hT10)
    have P10 := h_ (P9.out.to hT10)
    have ct10 := cell_of_heap S10.out.ct 0
    simp at ct10
    clear hT10
    have CB := h_ (ref12Apply S10.out.eL.at_ EC10.out.at_ hkeys.out (by omega) hall'.out)
    go_wp2_with fail
    refine CB.out.mono ?_
    rintro e w11 ⟨u, rfl, R⟩
    have hE := R.ents
    rw [List.take_length] at hE
    obtain ⟨Au, cu, rfl, hu1, hu2⟩ := hE.form
    have hlast := chgs_good pre hkeys.out hall'.out
    have hlen : (pre.foldl chgL LL).length ≤ 64 := rises_len hlast.1 hlast.2
    have EU := h_ hE
    have S11 := h_ (S10.out.fresh R.kept)
    have hld11 := h_ S11.out.st.load
    have CL := treeList S11.out.st.own.store r
    rw [hls'.out, S11.out.st.eq] at CL
    have CL' : Hid (Calls Try.prog 17 #[.agg #[.pointer (some ⟨sb, 0, none⟩)], .int .i64 r] w11 fun e w' => ∃ v, e = .returned (.tuple #[v, .int .i64 0]) ∧ w'.ownsRow w11.heap.size 63 2 v (pre.foldl chgL LL).length (entCells (pre.foldl chgL LL)) ∧ Kept (fun _ => False) w11 w') := h_ CL
    clear R hE CL hlast
    go_wp2_with (first | (refine wpList_load_agg 27 rfl rfl rfl _ Try.underlying27 rfl [.pointer (some ⟨sb, 0, none⟩)] (by kernel_rfl) hld11.out ?_))
    refine CL'.out.mono ?_
    rintro e w12 ⟨v, rfl, hr12, k12⟩
    obtain ⟨_, Aq, cq, rfl, hq1, hq2, _⟩ := SliceAt.of_owns hr12
    have CS := same10 (a := pre.foldl chgL LL) (b := pre.foldl chgL LL) (SliceAt.of_owns hr12) (SliceAt.fresh EU.out k12) (by omega)
    rw [decide_eq_true rfl] at CS
    have CS' := h_ CS
    have K12 := h_ (S11.out.st.own.kept.trans k12)
    clear hr12 k12 CS
    go_wp2_with fail
    refine CS'.out.mono ?_
    rintro e w13 ⟨rfl, k13⟩
    have fin := h_ (K12.out.trans k13)
    clear k13
    go_wp2_with fail
    go_ret
    exact ⟨rfl, fin.out⟩
   ·have hex : ∃ x ∈ pre, ¬ (0 ≤ x.1 ∧ x.1 < 64) := by
     refine Classical.byContradiction fun h => hall fun x hx => Classical.byContradiction fun h' => h ⟨x, hx, h'⟩
    obtain ⟨M3, hch, hsz, hls⟩ := hbad.out hex
    have hch := h_ hch
    have hex' := h_ hex
    have hls' := h_ hls
    have hsz' := h_ hsz
    clear hall hls hex hsz
    have CA2 := CA'.out
    rw [hch.out] at CA2
    have CA3 : Hid (Calls Try.prog 16 #[.agg #[.pointer (some ⟨sb, 0, none⟩)], .int .i64 r0, .slice Av pre.length cv] w9 fun e w' => ∃ A', e = .returned (.tuple #[.int .i64 (-1), .int .i64 101]) ∧ StoreTo A6 A' M3 w9 w') := h_ CA2
    clear CA2
    go_wp2_with (first | (refine wpList_load_agg 31 rfl rfl rfl _ Try.underlying31 rfl [.pointer (some ⟨sb, 0, none⟩)] (by kernel_rfl) hld9.out ?_))
    refine CA3.out.mono ?_
    rintro e w10 ⟨A10, rfl, hT10⟩
    have S10 := h_ (S9.out.to hns hT10)
    have EC10 := h_ (EC9.out.to hT10)
    have P10 := h_ (P9.out.to hT10)
    have ct10 := cell_of_heap S10.out.ct 0
    simp at ct10
    clear hT10
    have CB := h_ (ref12Bad S10.out.eL.at_ EC10.out.at_ hkeys.out (by omega) hex'.out)
    go_wp2_with fail
    refine CB.out.mono ?_
    rintro e w11 ⟨rfl, k11⟩
    have S11 := h_ (S10.out.fresh k11)
    have P11 := h_ (P10.out.fresh k11)
    have cp11 := S11.out.st.load 0 _ rfl
    rw [Nat.zero_add] at cp11
    have CU := storeUndo S11.out.st.own.store P11.out.pool hsz'.out.symm
    rw [S11.out.st.eq] at CU
    have CU' : Hid (Calls Try.prog 21 #[.pointer (some ⟨sb, 0, none⟩), .pointer (some ⟨mk, 0, none⟩)] w11 fun e w' => ∃ v A', e = .returned v ∧ StoreTo A10 A' ⟨(markM M2).pool, M3.log⟩ w11 w') := h_ CU
    clear k11 CU ct10
    go_wp2_with fail
    refine CU'.out.mono ?_
    rintro e w12 ⟨vu, A12, rfl, hT12⟩
    have S12 := h_ (S11.out.to hns hT12)
    have cr12 := cell_of_heap S12.out.cr 0
    simp at cr12
    have hld12 := h_ S12.out.st.load
    have CL := treeList S12.out.st.own.store r0
    rw [hls'.out, S12.out.st.eq] at CL
    have CL' : Hid (Calls Try.prog 17 #[.agg #[.pointer (some ⟨sb, 0, none⟩)], .int .i64 r0] w12 fun e w' => ∃ v, e = .returned (.tuple #[v, .int .i64 0]) ∧ w'.ownsRow w12.heap.size 63 2 v LL.length (entCells LL) ∧ Kept (fun _ => False) w12 w') := h_ CL
    clear hT12 CL cp11
    go_wp2_with (first | (refine wpList_load_agg 27 rfl rfl rfl _ Try.underlying27 rfl [.pointer (some ⟨sb, 0, none⟩)] (by kernel_rfl) hld12.out ?_))
    refine CL'.out.mono ?_
    rintro e w13 ⟨v, rfl, hr13, k13⟩
    obtain ⟨_, Aq, cq, rfl, hq1, hq2, _⟩ := SliceAt.of_owns hr13
    have S13 := h_ (S12.out.fresh k13)
    have ct13 := cell_of_heap S13.out.ct 0
    simp at ct13
    have CS := same10 (a := LL) (b := LL) (SliceAt.of_owns hr13) S13.out.eL.at_ (by omega)
    rw [decide_eq_true rfl] at CS
    have CS' := h_ CS
    clear hr13 k13 CS cr12
    go_wp2_with fail
    refine CS'.out.mono ?_
    rintro e w14 ⟨rfl, k14⟩
    have S14 := h_ (S13.out.fresh k14)
    have cp14 := S14.out.st.load 0 _ rfl
    rw [Nat.zero_add] at cp14
    have CP := storePool S14.out.st.own.store
    rw [S14.out.st.eq] at CP
    have CP' := h_ CP
    have CF := freeCount_any S14.out.st.own.store.pool
    rw [show (SM.mk (markM M2).pool M3.log).pool.freeCount = Fr from hFr'.out] at CF
    have CF' := h_ CF
    have hFF : ((Fr : Int) == (Fr : Int)) = true := by simp
    clear k14 CP CF
    go_wp2_with fail
    refine CP'.out.mono ?_
    rintro e _ ⟨rfl, rfl⟩
    go_wp2_with fail
    refine CF'.out.mono ?_
    rintro e _ ⟨rfl, rfl⟩
    go_wp2_with fail
    go_ret
    exact ⟨rfl, S14.out.st.own.kept⟩
end Go.Proofs.Ytidlchciehdefaa
