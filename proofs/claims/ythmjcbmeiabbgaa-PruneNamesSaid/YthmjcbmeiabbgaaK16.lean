/-
  Trees (package tree): put: an inner node.
-/
import Derived.Test.YthmjcbmeiabbgaaK13
import Derived.Test.YthmjcbmeiabbgaaK15
set_option linter.unusedVariables false
set_option linter.unusedSimpArgs false
namespace Go.Proofs.Ythmjcbmeiabbgaa
open Go.RowKit
set_option maxRecDepth 100000

/-- What an inner node's put comes to. -/
def putRes (n : NM) (i : Nat) (M1 : SM) (n1 : NM) (er : Nat) : SM × NM × Nat :=
  if er = 0 then (if (M1.split n1).2.2 = 0 then ((M1.split n1).1, { n with ents := n.ents.take i ++ (M1.split n1).2.1 ++ n.ents.drop (i + 1) }, 0) else ((M1.split n1).1, n, (M1.split n1).2.2)) else (M1, n, er)
theorem run_max0 (w : World) (ts : Array TypeId) (ty : TypeId) {a : Int} {i : Nat} (h : max a 0 = (i : Int)) : (Builtin.max_ ts ty #[.int .i64 a, .int .i64 0]).run Try.prog w = .ok (.int .i64 i) w := by
  by_cases h0 : a < 0
  · have : (i : Int) = 0 := by omega
    simp [Builtin.max_, Builtin.max2, h0, this]
  · have : (i : Int) = a := by omega
    simp [Builtin.max_, Builtin.max2, h0, this]
theorem wpList_max0 {ops : Array Oper} {rest : List Oper} {o : Oper} {a : Act} {w : World} {Q : Exit → Act → World → Prop} (hgd : o.guard = none) (x y : Operand) (ts : Array TypeId)
    (ho : o.op = .call { callee := .builtin .max, args := #[x, y], argTypes := ts }) {k : Int} {i : Nat} (hk : max k 0 = (i : Int)) (hx : a.eval x = .int .i64 k) (hy : a.eval y = .int .i64 0) (h : wpList Try.prog ops Q rest (a.put o.dst (.int .i64 i)) w) : wpList Try.prog ops Q (o :: rest) a w :=
  wpList_plain hgd fun _ hK => by
    unfold Oper.wp
    simp [execOp, ho, resolve, invoke, builtin, hx, hy, run_max0 w ts o.type hk, Result.andThen]
    exact hK _ _ h
set_option maxHeartbeats 4000000 in
theorem putInner {w : World} {A : SA} {M : SM} (h : StoreAt w A M) (root : Int) (d : Nat) (hd : d ≤ 8) (x : Int × Int) {n : NM} (hR : M.tnode root d = (n, 0)) (hin0 : InnerOk n) (hk2 : n.kind = 3) {i : Nat} (hi : (atI n.ents x.1).toNat = i) {M1 : SM} {n1 : NM} {er : Nat} (hfew : M1.log.length + 2 < 100000000)
    (ih : ∀ (W : World), StoreAt W A M → Calls Try.prog 53 #[.agg #[.pointer (some ⟨A.sb, 0, none⟩)], .int .i64 (n.ents.getD i (0, 0)).2, .int .i64 ((d : Int) + 1), .agg #[.int .i64 x.1, .int .i64 x.2]] W fun e w' =>
      ∃ A' v, e = .returned (.tuple #[.agg (nodeCells n1 v).toArray, .int .i64 er]) ∧ StoreTo A A' M1 W w' ∧ OutAt w' A' W.heap.size v n1.ents) :
    Calls Try.prog 53 #[.agg #[.pointer (some ⟨A.sb, 0, none⟩)], .int .i64 root, .int .i64 d, .agg #[.int .i64 x.1, .int .i64 x.2]] w fun e w' => ∃ A' v, e = .returned (.tuple #[.agg (nodeCells (putRes n i M1 n1 er).2.1 v).toArray, .int .i64 (putRes n i M1 n1 er).2.2]) ∧
      StoreTo A A' (putRes n i M1 n1 er).1 w w' ∧ OutAt w' A' w.heap.size v (putRes n i M1 n1 er).2.1.ents := by
  obtain ⟨Z, hZ⟩ : ∃ Z, nodeCells NM.zero (.slice none 0 0) = Z := ⟨_, rfl⟩
  have hZz : Hid ((Try.prog.info? 33).map (·.zero) = some (some (.agg Z.toArray))) := Lib.hid (by rw [← hZ]; exact node_zero)
  have hZl : Hid (Z.length = 18) := Lib.hid (by rw [← hZ]; exact nodeCells_len _ _)
  obtain ⟨w1, hw1⟩ : ∃ w1, w.alloc (.cells #[.pointer (some ⟨A.sb, 0, none⟩)] 26) = w1 := ⟨_, rfl⟩
  obtain ⟨w2, hw2⟩ : ∃ w2, w1.alloc (.cells #[.int .i64 x.1, .int .i64 x.2] 35) = w2 := ⟨_, rfl⟩
  obtain ⟨w3, hw3⟩ : ∃ w3, w2.alloc (.cells Z.toArray 33) = w3 := ⟨_, rfl⟩
  have k1 : Kept (fun _ => False) w w1 := by rw [← hw1]; exact (Kept.refl _ _).alloc _
  have k2 : Kept (fun _ => False) w1 w2 := by rw [← hw2]; exact (Kept.refl _ _).alloc _
  have k3 : Kept (fun _ => False) w2 w3 := by rw [← hw3]; exact (Kept.refl _ _).alloc _
  have s1 : w1.heap.size = w.heap.size + 1 := by rw [← hw1]; simp
  have s2 : w2.heap.size = w.heap.size + 2 := by rw [← hw2]; simp [s1]
  have s3 : w3.heap.size = w.heap.size + 3 := by rw [← hw3]; simp [s2]
  have t3 : w3.heap[w.heap.size]? = some (.cells #[.pointer (some ⟨A.sb, 0, none⟩)] 26 (0, 0)) := (k2.trans k3).get (by rw [← hw1]; exact heap_alloc_new _ _) id
  have x3 : w3.heap[w.heap.size + 1]? = some (.cells #[.int .i64 x.1, .int .i64 x.2] 35 (0, 0)) := k3.get (by rw [← hw2, ← s1]; exact heap_alloc_new _ _) id
  have r3 : w3.heap[w.heap.size + 2]? = some (.cells Z.toArray 33 (0, 0)) := by rw [← hw3, ← s2]; exact heap_alloc_new _ _
  have k03 := Lib.hid ((k1.trans k2).trans k3)
  have hnd := treeNode (h.fresh k03.out) root d (by omega)
  rw [hR] at hnd
  dsimp only at hnd
  have hnd' := Lib.hid hnd
  have h' := Lib.hid h
  have hw1' := Lib.hid hw1
  have hw2' := Lib.hid hw2
  have hw3' := Lib.hid hw3
  have s1' := Lib.hid s1
  have s2' := Lib.hid s2
  have hload3 : Hid (∀ j v, [Value.pointer (some ⟨A.sb, 0, none⟩)][j]? = some v → w3.cell? ⟨w.heap.size, 0 + j, none⟩ = some v) := Lib.hid (fun j v hj => by rw [Nat.zero_add, cell_of_heap t3]; simpa using hj)
  have t3' := Lib.hid t3
  have x3' := Lib.hid x3
  have r3' := Lib.hid r3
  have s3' := Lib.hid s3
  obtain ⟨x0, x1⟩ := x
  dsimp only at *
  clear hw1 hw2 hw3 k1 k2 k3 s1 s2 s3 t3 x3 r3 hnd h hZ hR
  go_enter Try.func53, Try.ntmps53
  go_wp2_with (first | (refine wpList_box_named 26 rfl rfl _ rfl hw1'.out ?_) | (refine wpList_box_named 35 rfl rfl _ rfl hw2'.out ?_; rw [s1'.out]) | (refine wpList_alloc_as 33 rfl rfl Z.toArray hZz.out ?_; rw [hw3'.out, s2'.out]) | (refine wpList_load_agg 26 rfl rfl rfl _ Try.underlying26 rfl [.pointer (some ⟨A.sb, 0, none⟩)] (by kernel_rfl) hload3.out ?_))
  refine hnd'.out.mono ?_
  rintro e w4 ⟨v, rfl, hown, hk4⟩
  obtain ⟨Av, cap, rfl, hf1, hf2⟩ := EntsAt.form (show EntsAt w4 v n.ents from SliceAt.of_owns hown)
  obtain ⟨F, hF⟩ : ∃ F, nodeCells n (.slice Av n.ents.length cap) = F := ⟨_, rfl⟩
  have hFl : Hid (F.length = 18) := Lib.hid (by rw [← hF]; exact nodeCells_len _ _)
  have hF1 : Hid (∀ v ∈ F, v.oneCell' = true) := Lib.hid (by rw [← hF]; exact nodeCells_one _ _ _ _)
  obtain ⟨nb, hnb⟩ : ∃ nb, w4.heap.size = nb := ⟨_, rfl⟩
  obtain ⟨w5, hw5⟩ : ∃ w5, (w4.alloc (.cells Z.toArray 33)).setRow nb F.toArray = w5 := ⟨_, rfl⟩
  have k5 : Kept (fun _ => False) w4 w5 := by rw [← hw5]; exact ((Kept.refl _ _).alloc _).setRowNew (by omega) _
  have bx5 : NodeBox w5 nb n (.slice Av n.ents.length cap) := ⟨by rw [hF, ← hw5, ← hnb]; exact setRow_heap _ _ _ _ _ _ (heap_alloc_new _ _)⟩
  have hown5 := Lib.hid (ownsRow.keptOf hown k5 (fun _ _ => id))
  have k35 := Lib.hid (hk4.trans k5)
  have t5 := Lib.hid (k35.out.get t3'.out id)
  have x5 := Lib.hid (k35.out.get x3'.out id)
  have r5 := Lib.hid (k35.out.get r3'.out id)
  have q5 := Lib.hid (show w5.heap[nb]? = some (.cells F.toArray 33 (0, 0)) by rw [← hF]; exact bx5.heap)
  have hs4 := hk4.size
  have hs5 : Hid (w5.heap.size = nb + 1) := Lib.hid (by rw [← hw5, ← hnb]; simp [World.setRow])
  rw [hF]
  have bx5' := Lib.hid bx5
  have hw5' := Lib.hid hw5
  have hnb' := Lib.hid hnb
  have hF' := Lib.hid hF
  clear hown hk4 k5 hw5 bx5 hnb hF
  have hk2' := Lib.hid hk2
  have ih' := Lib.hid ih
  clear ih
  have hin := innerOk_of (show n.ok from hin0.ok) (by have := hin0.kind; omega)
  have hlen6 := hin.le
  have hab := atI_bound (l := n.ents) x0
  have hat := at_any (show EntsAt w5 (.slice Av n.ents.length cap) n.ents from SliceAt.of_owns hown5.out) hin.keys x0 (by omega)
  obtain ⟨a, ha⟩ : ∃ a, atI n.ents x0 = a := ⟨_, rfl⟩
  rw [ha] at hat hab
  have hat' := Lib.hid hat
  have c17 := bx5'.out.c17
  have cx0 := cell_of_heap x5.out 0
  simp at cx0
  unfold maxLen at hf2
  obtain ⟨hab1, hab2⟩ := hab
  have hwa : IntKind.i64.wrap (a + 1) = a + 1 := by rw [IntKind.wrap_i64]; omega
  have hpos := hin.pos
  clear hat hin hin0 hk2
  go_wp2_with (first | (refine wpList_alloc_as 33 rfl rfl Z.toArray hZz.out ?_; rw [hnb'.out]) | (refine wpList_store_whole 33 rfl rfl rfl F rfl (by rw [hFl.out]; exact node_size) 33 _ (by rw [← hnb'.out]; exact heap_alloc_new _ _) (by simp [hFl.out, hZl.out]) hF1.out ?_; rw [hw5'.out]))
  refine hat'.out.mono ?_
  rintro e w6 ⟨rfl, hk6⟩
  have hk6' := Lib.hid hk6
  have k36 := Lib.hid (k35.out.trans hk6)
  have t6 := Lib.hid (hk6.get t5.out id)
  have x6 := hk6.get x5.out id
  have x6' := Lib.hid x6
  have hown6 := Lib.hid (ownsRow.keptOf hown5.out hk6 (fun _ _ => id))
  have bx6 := bx5'.out.kept hk6 id
  have bx6' := Lib.hid bx6
  have r6 := Lib.hid (hk6.get r5.out id)
  have hs6 := hk6.size
  have hne7 : nb ≠ w6.heap.size := by have := hs5.out; omega
  have hloadx : Hid (∀ j v, [Value.int .i64 x0, .int .i64 x1][j]? = some v → w6.cell? ⟨w.heap.size + 1, 0 + j, none⟩ = some v) := Lib.hid (fun j v hj => by rw [Nat.zero_add, cell_of_heap x6'.out]; simpa using hj)
  obtain ⟨w7, hw7⟩ : ∃ w7, w6.alloc (.cells #[.int .i64 x0, .int .i64 x1] 35) = w7 := ⟨_, rfl⟩
  have hw7' := Lib.hid hw7
  have k7 : Kept (fun _ => False) w6 w7 := by rw [← hw7]; exact (Kept.refl _ _).alloc _
  have g7 := Lib.hid (show w7.heap[w6.heap.size]? = some (.cells #[.int .i64 x0, .int .i64 x1] 35 (0, 0)) by rw [← hw7]; exact heap_alloc_new _ _)
  have k37 := Lib.hid (k36.out.trans k7)
  have bx7 := bx6.kept k7 id
  have bx7' := Lib.hid bx7
  have c17_7 := bx7.c17
  have c0_7 := bx7.c0
  rw [← hw7, hk2'.out] at c0_7
  have x7 := k7.get x6 id
  have x7' := Lib.hid x7
  have cx7 := cell_of_heap x7 0
  simp at cx7
  have t7 := Lib.hid (k7.get t6.out id)
  have r7 := Lib.hid (k7.get r6.out id)
  have hown7 := Lib.hid (ownsRow.keptOf hown6.out k7 (fun _ _ => id))
  have hs7 : Hid (w7.heap.size = w6.heap.size + 1) := Lib.hid (by rw [← hw7]; simp)
  have k7' := Lib.hid k7
  clear hk6 bx6 x6 hw7 k7 bx7 x7
  obtain ⟨y, hy⟩ : ∃ y, n.ents[i]? = some y := ⟨_, List.getElem?_eq_getElem (by omega)⟩
  obtain ⟨b, off, rfl, hbl, _, cy7⟩ := EntsAt.get (show EntsAt w7 (.slice Av n.ents.length cap) n.ents from SliceAt.of_owns hown7.out) hy
  have hyd : (n.ents.getD i (0, 0)).2 = y.2 := by simp [hy]
  rw [hyd] at ih'
  have hmax : max a 0 = (i : Int) := by omega
  have P7 : PutSt w A (x0, x1) n (.slice (some ⟨b, off, none⟩) n.ents.length cap) nb Z.toArray A M w7 := by
    have s3 := s3'.out
    have hb1 := hnb'.out
    have hsz := hs7.out
    have h5 := hs5.out
    exact ⟨(StoreTo.refl h'.out).fresh (k03.out.trans k37.out), t7.out, Safe.new h'.out (by omega) (by omega), x7'.out, Safe.new h'.out (by omega) (by omega), r7.out, Safe.new h'.out (by omega) (by omega), bx7'.out, Safe.new h'.out (by omega) (by omega),
      ⟨by rw [← s3]; exact hown7.out, fun g hg e => by have := (hown7.out.lt g hg).1; have := h'.out.lt (.inl e); omega⟩, by omega⟩
  have P7' := Lib.hid P7
  have hwd : IntKind.i64.wrap ((d : Int) + 1) = (d : Int) + 1 := by rw [IntKind.wrap_i64]; omega
  have hil : (i : Int) < (n.ents.length : Int) := by omega
  have x6k := Lib.hid x6'.out
  have hy' := Lib.hid hy
  have k03' := Lib.hid k03.out
  clear P7 hnd' k03 k35 t5 x5 r5 hown5 t6 x6' r6 hown6 bx6' hloadx hload3 t3' x3' r3' hy hyd bx5' hs4 cx0 cx7 c17 c17_7 hk6'
  go_wp2_with (first | (refine wpList_max0 rfl (.tmp 40) (.const (.int .i64 0)) #[3, 3] rfl hmax (by rfl) (by rfl) ?_) | (refine wpList_load_agg 35 rfl rfl rfl _ Try.underlying35 rfl [.int .i64 x0, .int .i64 x1] (by kernel_rfl) (fun j v hj => by rw [Nat.zero_add, cell_of_heap x6k.out]; simpa using hj) ?_))
  rw [hw7'.out]
  refine wp_region_held_drew (S := fun W => W.heap[w.heap.size]? = some (.cells #[.pointer (some ⟨A.sb, 0, none⟩)] 26 (0, 0)) ∧ W.heap[nb]? = some (.cells F.toArray 33 (0, 0)) ∧ W.heap[w.heap.size + 1]? = some (.cells #[.int .i64 x0, .int .i64 x1] 35 (0, 0)) ∧ W.cell? ⟨nb, 17, none⟩ = some (.slice (some ⟨b, off, none⟩) n.ents.length cap) ∧ W.cell? ⟨b, off + i * 2 + 1, none⟩ = some (.int .i64 y.2)) (by kernel_rfl) ⟨P7'.out.tb, by rw [← hF'.out]; exact P7'.out.nbx.heap, P7'.out.xb, P7'.out.nbx.c17, cy7⟩ (fun hH => ?_)
  refine wpAnyH_take (i := 0) (v := .agg #[.pointer (some ⟨A.sb, 0, none⟩)]) rfl (by kernel_rfl) (by kernel_rfl) (by kernel_rfl) (fun _ _ _ h => h) (Or.inl ⟨by rfl, fun W hW => exec_load_agg rfl (by rfl) [.pointer (some ⟨A.sb, 0, none⟩)] Try.underlying26 rfl (by kernel_rfl) (fun j v hj => by rw [cell_of_heap hW.1, Nat.zero_add]; simpa using hj)⟩) (by assumption) ?_
  simp only [Act.put, List.getElem_toArray, List.getElem_cons_zero, List.getElem_cons_succ, List.setIfInBounds_toArray, List.set_cons_zero, List.set_cons_succ]
  refine wpAnyH_take (i := 1) (v := .pointer (some ⟨nb, 17, none⟩)) rfl (by kernel_rfl) (by kernel_rfl) (by kernel_rfl) (fun _ _ _ h => h) (Or.inl ⟨by rfl, fun W hW => by go_simp⟩) (by assumption) ?_
  simp only [Act.put, List.getElem_toArray, List.getElem_cons_zero, List.getElem_cons_succ, List.setIfInBounds_toArray, List.set_cons_zero, List.set_cons_succ]
  refine wpAnyH_take (i := 2) (v := .slice (some ⟨b, off, none⟩) n.ents.length cap) rfl (by kernel_rfl) (by kernel_rfl) (by kernel_rfl) (fun _ _ _ h => h) (Or.inl ⟨by rfl, fun W hW => by have hc := hW.2.2.2.1; clear hW; go_simp⟩) (by assumption) ?_
  simp only [Act.put, List.getElem_toArray, List.getElem_cons_zero, List.getElem_cons_succ, List.setIfInBounds_toArray, List.set_cons_zero, List.set_cons_succ]
  refine wpAnyH_take (i := 3) (v := .int .i64 i) rfl (by kernel_rfl) (by kernel_rfl) (by kernel_rfl) (fun _ _ _ h => h) (Or.inl ⟨by rfl, fun W hW => by go_simp⟩) (by assumption) ?_
  simp only [Act.put, List.getElem_toArray, List.getElem_cons_zero, List.getElem_cons_succ, List.setIfInBounds_toArray, List.set_cons_zero, List.set_cons_succ]
  refine wpAnyH_take (i := 4) (v := .pointer (some ⟨b, off + i * 2, none⟩)) rfl (by kernel_rfl) (by kernel_rfl) (by kernel_rfl) (fun _ _ _ h => h) (Or.inl ⟨by rfl, fun W hW => by go_simp⟩) (by assumption) ?_
  simp only [Act.put, List.getElem_toArray, List.getElem_cons_zero, List.getElem_cons_succ, List.setIfInBounds_toArray, List.set_cons_zero, List.set_cons_succ]
  refine wpAnyH_take (i := 5) (v := .pointer (some ⟨b, off + i * 2 + 1, none⟩)) rfl (by kernel_rfl) (by kernel_rfl) (by kernel_rfl) (fun _ _ _ h => h) (Or.inl ⟨by rfl, fun W hW => by go_simp⟩) (by assumption) ?_
  simp only [Act.put, List.getElem_toArray, List.getElem_cons_zero, List.getElem_cons_succ, List.setIfInBounds_toArray, List.set_cons_zero, List.set_cons_succ]
  refine wpAnyH_take (i := 6) (v := .int .i64 y.2) rfl (by kernel_rfl) (by kernel_rfl) (by kernel_rfl) (fun _ _ _ h => h) (Or.inl ⟨by rfl, fun W hW => by have hc := hW.2.2.2.2; clear hW; go_simp⟩) (by assumption) ?_
  simp only [Act.put, List.getElem_toArray, List.getElem_cons_zero, List.getElem_cons_succ, List.setIfInBounds_toArray, List.set_cons_zero, List.set_cons_succ]
  refine wpAnyH_take (i := 7) (v := .int .i64 d) rfl (by kernel_rfl) (by kernel_rfl) (by kernel_rfl) (fun _ _ _ h => h) (Or.inl ⟨by rfl, fun W hW => by go_simp⟩) (by assumption) ?_
  simp only [Act.put, List.getElem_toArray, List.getElem_cons_zero, List.getElem_cons_succ, List.setIfInBounds_toArray, List.set_cons_zero, List.set_cons_succ]
  refine wpAnyH_take (i := 8) (v := .int .i64 ((d : Int) + 1)) rfl (by kernel_rfl) (by kernel_rfl) (by kernel_rfl) (fun _ _ _ h => h) (Or.inl ⟨by rfl, fun W hW => by go_simp⟩) (by assumption) ?_
  simp only [Act.put, List.getElem_toArray, List.getElem_cons_zero, List.getElem_cons_succ, List.setIfInBounds_toArray, List.set_cons_zero, List.set_cons_succ]
  refine wpAnyH_take (i := 9) (v := .agg #[.int .i64 x0, .int .i64 x1]) rfl (by kernel_rfl) (by kernel_rfl) (by kernel_rfl) (fun _ _ _ h => h) (Or.inl ⟨by rfl, fun W hW => exec_load_agg rfl (by rfl) [.int .i64 x0, .int .i64 x1] Try.underlying35 rfl (by kernel_rfl) (fun j v hj => by rw [cell_of_heap hW.2.2.1, Nat.zero_add]; simpa using hj)⟩) (by assumption) ?_
  simp only [Act.put, List.getElem_toArray, List.getElem_cons_zero, List.getElem_cons_succ, List.setIfInBounds_toArray, List.set_cons_zero, List.set_cons_succ]
  refine wpAnyH_ready (rs := [10, 14]) (by kernel_rfl) (by simp) ?_
  refine AllReadyH.cons rfl (fun K hK => ?_) ?_
  · rw [if_pos (by rfl)]
    simp only [Go.wp_at_zero, Go.wp_at_succ]
    go_simp
    refine (ih'.out _ ((h'.out.fresh (k03'.out.trans k37.out)).fresh (Kept.refl _ _).drew)).mono ?_
    rintro e w8 ⟨A8, v8, rfl, hT8, hO8⟩
    obtain ⟨Au, cu, rfl, _⟩ := EntsAt.form hO8.ents.at_
    obtain ⟨C1, hC1⟩ : ∃ C1, nodeCells n1 (.slice Au n1.ents.length cu) = C1 := ⟨_, rfl⟩
    have hC1l : Hid (C1.length = 18) := Lib.hid (by rw [← hC1]; exact nodeCells_len _ _)
    have hC11 : Hid (∀ v ∈ C1, v.oneCell' = true) := Lib.hid (by rw [← hC1]; exact nodeCells_one _ _ _ _)
    rw [hC1]
    have P8 := (P7'.out.fresh (Kept.refl _ _).drew).step hT8
    refine hK.out _ _ (P8.held hF'.out hy'.out) (fun hH8 => ?_)
    clear hK K
    try simp only [Act.put, List.getElem_toArray, List.getElem_cons_zero, List.getElem_cons_succ, List.setIfInBounds_toArray, List.set_cons_zero, List.set_cons_succ]
    refine wpAnyH_take (i := 11) (v := .tuple #[.agg C1.toArray, .int .i64 er]) rfl (by kernel_rfl) (by kernel_rfl) (by kernel_rfl) (fun _ _ _ h => h) (Or.inl ⟨by rfl, fun W hW => by go_simp⟩) (by assumption) ?_
    simp only [Act.put, List.getElem_toArray, List.getElem_cons_zero, List.getElem_cons_succ, List.setIfInBounds_toArray, List.set_cons_zero, List.set_cons_succ]
    refine wpAnyH_take (i := 12) (v := .agg C1.toArray) rfl (by kernel_rfl) (by kernel_rfl) (by kernel_rfl) (fun _ _ _ h => h) (Or.inl ⟨by rfl, fun W hW => by go_simp⟩) (by assumption) ?_
    simp only [Act.put, List.getElem_toArray, List.getElem_cons_zero, List.getElem_cons_succ, List.setIfInBounds_toArray, List.set_cons_zero, List.set_cons_succ]
    refine wpAnyH_take (i := 13) (v := .int .i64 er) rfl (by kernel_rfl) (by kernel_rfl) (by kernel_rfl) (fun _ _ _ h => h) (Or.inl ⟨by rfl, fun W hW => by go_simp⟩) (by assumption) ?_
    simp only [Act.put, List.getElem_toArray, List.getElem_cons_zero, List.getElem_cons_succ, List.setIfInBounds_toArray, List.set_cons_zero, List.set_cons_succ]
    refine wpAnyH_ready (rs := [14]) (by kernel_rfl) (by simp) ?_
    refine AllReadyH.cons rfl (fun K hK => ?_) ?_
    · refine step_alloc_as 33 rfl rfl Z.toArray hZz.out ?_
      obtain ⟨cb, hcbe⟩ : ∃ cb, w8.heap.size = cb := ⟨_, rfl⟩
      have kA := (Kept.refl (fun _ => False) w8).alloc (.cells Z.toArray 33)
      have hcb : (w8.alloc (.cells Z.toArray 33)).heap[cb]? = some (.cells Z.toArray 33 (0, 0)) := by rw [← hcbe]; exact heap_alloc_new _ _
      have P9 := P8.fresh kA
      have O9 := hO8.fresh kA
      have Sc : Safe (w8.alloc (.cells Z.toArray 33)) A8 cb := Safe.new P8.to_.store (by omega) (by simp; omega)
      have hd : ∀ k, A8.own k → k ≠ cb := fun k hk e => by have := P8.to_.store.lt hk; omega
      have hcn : nb < cb := by have := P8.sn.lt; omega
      have B10 := BoxAt.made P9.to_.store O9 hcb Sc
      have P10 := P9.boxed hcn Sc hcb hd (nodeCells n1 (.slice Au n1.ents.length cu)).toArray
      rw [hC1] at B10 P10
      rw [hcbe]
      refine hK.out _ _ (P9.held hF'.out hy'.out) (fun hH9 => ?_)
      clear hK K
      try simp only [Act.put, List.getElem_toArray, List.getElem_cons_zero, List.getElem_cons_succ, List.setIfInBounds_toArray, List.set_cons_zero, List.set_cons_succ]
      refine wpAnyH_ready (rs := [15]) (by kernel_rfl) (by simp) ?_
      refine AllReadyH.cons rfl (fun K hK => ?_) ?_
      · refine step_store_whole 33 rfl rfl (by rfl) C1 (by rfl) (by rw [hC1l.out]; exact node_size) 33 Z.toArray hcb (by simp [hC1l.out, hZl.out]) hC11.out ?_
        refine hK.out _ _ (P10.held hF'.out hy'.out) (fun hH10 => ?_)
        clear hK K
        try simp only [Act.put, List.getElem_toArray, List.getElem_cons_zero, List.getElem_cons_succ, List.setIfInBounds_toArray, List.set_cons_zero, List.set_cons_succ]
        refine wpAnyH_take (i := 16) (v := .int .i64 er) rfl (by kernel_rfl) (by kernel_rfl) (by kernel_rfl) (fun _ _ _ h => h) (Or.inl ⟨by rfl, fun W hW => by go_simp⟩) (by assumption) ?_
        simp only [Act.put, List.getElem_toArray, List.getElem_cons_zero, List.getElem_cons_succ, List.setIfInBounds_toArray, List.set_cons_zero, List.set_cons_succ]
        refine wpAnyH_done (by kernel_rfl) ?_ _
        obtain ⟨w10, hw10⟩ : ∃ w10, (w8.alloc (.cells Z.toArray 33)).setRow cb C1.toArray = w10 := ⟨_, rfl⟩
        rw [hw10] at P10 B10 ⊢
        have P10' := Lib.hid P10
        have B10' := Lib.hid B10
        have hC1' := Lib.hid hC1
        clear P10 B10 hw10 hC1 P8 P9 O9 hd Sc hH hH8 hH9 hH10 hT8 hO8 kA hcb hcn hcbe
        have hsb := P10'.out.to_.sb
        by_cases h0 : er = 0
        · subst h0
          have hsp := treeSplit P10'.out.to_.store B10'.out.ents hfew
          rw [hsb, hC1'.out] at hsp
          have hob := (split_bound M1 n1).2
          have hres : Hid (putRes n i M1 n1 0 = if (M1.split n1).2.2 = 0 then ((M1.split n1).1, { n with ents := n.ents.take i ++ (M1.split n1).2.1 ++ n.ents.drop (i + 1) }, 0) else ((M1.split n1).1, n, (M1.split n1).2.2)) := Lib.hid rfl
          obtain ⟨R, hR⟩ : ∃ R, M1.split n1 = R := ⟨_, rfl⟩
          rw [hR] at hsp hres hob
          obtain ⟨M2, out, er2⟩ := R
          dsimp only at hsp hres hob
          have hsp' := Lib.hid hsp
          have tb10 := Lib.hid P10'.out.tb
          have cb10 := Lib.hid (show w10.heap[cb]? = some (.cells C1.toArray 33 (0, 0)) by rw [← hC1'.out]; exact B10'.out.box.heap)
          clear hsp hR hsb
          go_wp2_with (first | (refine wpList_load_agg 26 rfl rfl rfl _ Try.underlying26 rfl [.pointer (some ⟨A.sb, 0, none⟩)] (by kernel_rfl) (fun j v hj => by rw [Nat.zero_add, cell_of_heap tb10.out]; simpa using hj) ?_) | (refine wpList_load_agg 33 rfl rfl rfl _ Try.underlying33 rfl C1 (by rw [hC1l.out]; exact node_size) (fun j v hv => by rw [cell_of_heap cb10.out, Nat.zero_add]; simpa using hv) ?_))
          refine hsp'.out.mono ?_
          rintro e w11 ⟨A9, v9, rfl, hT9, hO9⟩
          obtain ⟨Ao, co, rfl, _⟩ := EntsAt.form hO9.ents.at_
          have P11 := Lib.hid (P10'.out.step hT9)
          have O11 := Lib.hid hO9
          have q11 := Lib.hid (show w11.heap[nb]? = some (.cells F.toArray 33 (0, 0)) by rw [← hF'.out]; exact P11.out.nbx.heap)
          have r11 := Lib.hid P11.out.rb
          have c11 := P11.out.nbx.c17
          clear hT9 hO9
          by_cases h2 : er2 = 0
          · subst h2
            rw [if_pos rfl] at hres
            go_wp2_with fail
            obtain ⟨C, hC⟩ : ∃ C, n.ents.take i ++ out ++ n.ents.drop (i + 1) = C := ⟨_, rfl⟩
            rw [hC] at hres
            by_cases hci : cap = i + 1
            · have hcc : Hid (∀ W, Kept (fun _ => False) w11 W → Calls Try.prog 73 #[.slice (some ⟨W.heap.size, 0, none⟩) 3 3] (W.alloc (.cells #[.slice (some ⟨b, off, none⟩) i cap, .slice Ao out.length co, .slice (some ⟨b, off, none⟩) 0 0] 31)) fun e w' => ∃ u, e = .returned u ∧ w'.ownsRow w11.heap.size 35 2 u C.length (entCells C) ∧ Kept (fun _ => False) W w') := Lib.hid (fun W kW => by
                have hE7 := SliceAt.fresh P11.out.own.ents.at_ kW
                rw [← hC]
                refine Calls.mono (?_ : Calls _ _ _ _ fun e w' => ∃ u, e = .returned u ∧ w'.ownsRow (W.heap.size + 1) 35 2 u (n.ents.take i ++ out ++ n.ents.drop (i + 1)).length (entCells (n.ents.take i ++ out ++ n.ents.drop (i + 1))) ∧ Kept (fun _ => False) W w') fun e w' ⟨u, he, ho, hk⟩ => ⟨u, he, owns_weaken ho (by have := kW.size; omega), hk⟩
                refine concat3 (entsAt_take (m := i) hE7 (by omega) rfl) (SliceAt.fresh O11.out.ents.at_ kW) ?_ (by simp only [List.length_take, List.length_drop]; omega)
                rw [List.drop_eq_nil_of_le (by omega)]; exact sliceNil (by unfold maxLen; omega))
              have hj0 : (i : Int) ≤ (n.ents.length : Int) := by omega
              have hj4 : (i : Int) + 1 ≤ (n.ents.length : Int) := by omega
              have hj5 : IntKind.i64.wrap ((i : Int) + 1) = (i : Int) + 1 := by rw [IntKind.wrap_i64]; omega
              have hj6 : ((i : Int) + 1).toNat = i + 1 := by omega
              have hj7 : (i : Int) ≤ (cap : Int) := by omega
              have hj8 : (0 : Int) ≤ (i : Int) + 1 := by omega
              have hd0 : n.ents.length - (i + 1) = 0 := by omega
              subst hci
              have hj1 : (n.ents.length : Int) ≤ (i : Int) + 1 := by omega
              have hj2 : (i : Int) ≤ (i : Int) + 1 := by omega
              have hj3 : n.ents.length ≤ i + 1 := by omega
              clear hC
              go_region_law (rw [if_pos (by rfl)]; go_simp; refine (hcc.out _ (by exact (Kept.refl _ _).drew)).mono ?_; rintro e w12 ⟨u, rfl, hown12, hk12⟩; obtain ⟨A3, c3, rfl, _⟩ := EntsAt.form (show EntsAt w12 u C from SliceAt.of_owns hown12); have P12 := P11.out.fresh ((Kept.refl (fun _ => False) w11).drew.trans hk12); have hE := P12.ends h'.out (C := C) (base := w11.heap.size) ⟨hown12, fun g hg e => by have h1 := (hown12.lt g hg).1; have h2 := P11.out.to_.store.lt (.inl e); omega⟩ (P11.out.to_.kept.size); obtain ⟨G, hG⟩ : ∃ G, nodeCells { n with ents := C } (.slice A3 C.length c3) = G := ⟨_, rfl⟩; have hGl : Hid (G.length = 18) := Lib.hid (by rw [← hG]; exact nodeCells_len _ _); have hG1 : Hid (∀ v ∈ G, v.oneCell' = true) := Lib.hid (by rw [← hG]; exact nodeCells_one _ _ _ _); have q13 := Lib.hid (show (w12.setCell ⟨nb, 17, none⟩ (.slice A3 C.length c3)).heap[nb]? = some (.cells G.toArray 33 (0, 0)) by rw [← hG]; exact hE.1.heap); have r13 := Lib.hid hE.2.1; have fin13 := Lib.hid hE.2.2; have c12 := P12.nbx.c17; have f12 := free_of_heap P12.nbx.heap 17; have hG := Lib.hid hG; clear hE P12 hown12 hk12)
              all_goals (
                go_wp2_with (first | (refine wpList_load_agg 33 rfl rfl rfl _ Try.underlying33 rfl G (by rw [hGl.out]; exact node_size) (fun j v hv => by rw [cell_of_heap q13.out, Nat.zero_add]; simpa using hv) ?_) | (refine wpList_store_whole 33 rfl rfl rfl G rfl (by rw [hGl.out]; exact node_size) 33 _ r13.out (by simp [hGl.out, hZl.out]) hG1.out ?_))
                refine bodyPost_ret (results_row_tmp rfl _ _ (w.heap.size + 2) 33 G.toArray (0, 0) _ rfl (setRow_heap _ _ _ _ 33 (0, 0) r13.out) Try.underlying33 rfl (by simp only [List.size_toArray]; rw [hGl.out]; exact node_size)) rfl ?_
                rw [hres.out]
                exact ⟨A9, .slice A3 C.length c3, by rw [← hG.out]; rfl, (fin13.out _).1, (fin13.out _).2⟩)
            · have hcc : Hid (∀ W, Kept (fun _ => False) w11 W → Calls Try.prog 73 #[.slice (some ⟨W.heap.size, 0, none⟩) 3 3] (W.alloc (.cells #[.slice (some ⟨b, off, none⟩) i cap, .slice Ao out.length co, .slice (some ⟨b, off + (i + 1) * 2, none⟩) (n.ents.length - (i + 1)) (cap - (i + 1))] 31)) fun e w' => ∃ u, e = .returned u ∧ w'.ownsRow w11.heap.size 35 2 u C.length (entCells C) ∧ Kept (fun _ => False) W w') := Lib.hid (fun W kW => by
                have hE7 := SliceAt.fresh P11.out.own.ents.at_ kW
                rw [← hC]
                refine Calls.mono (?_ : Calls _ _ _ _ fun e w' => ∃ u, e = .returned u ∧ w'.ownsRow (W.heap.size + 1) 35 2 u (n.ents.take i ++ out ++ n.ents.drop (i + 1)).length (entCells (n.ents.take i ++ out ++ n.ents.drop (i + 1))) ∧ Kept (fun _ => False) W w') fun e w' ⟨u, he, ho, hk⟩ => ⟨u, he, owns_weaken ho (by have := kW.size; omega), hk⟩
                refine concat3 (entsAt_take (m := i) hE7 (by omega) rfl) (SliceAt.fresh O11.out.ents.at_ kW) ?_ (by simp only [List.length_take, List.length_drop]; omega)
                exact entsAt_drop (m := i + 1) hE7 (by omega) rfl)
              have hj0 : (i : Int) ≤ (n.ents.length : Int) := by omega
              have hj4 : (i : Int) + 1 ≤ (n.ents.length : Int) := by omega
              have hj5 : IntKind.i64.wrap ((i : Int) + 1) = (i : Int) + 1 := by rw [IntKind.wrap_i64]; omega
              have hj6 : ((i : Int) + 1).toNat = i + 1 := by omega
              have hj7 : (i : Int) ≤ (cap : Int) := by omega
              have hj8 : (0 : Int) ≤ (i : Int) + 1 := by omega
              clear hC
              go_region_law (rw [if_pos (by rfl)]; go_simp; refine (hcc.out _ (by exact (Kept.refl _ _).drew)).mono ?_; rintro e w12 ⟨u, rfl, hown12, hk12⟩; obtain ⟨A3, c3, rfl, _⟩ := EntsAt.form (show EntsAt w12 u C from SliceAt.of_owns hown12); have P12 := P11.out.fresh ((Kept.refl (fun _ => False) w11).drew.trans hk12); have hE := P12.ends h'.out (C := C) (base := w11.heap.size) ⟨hown12, fun g hg e => by have h1 := (hown12.lt g hg).1; have h2 := P11.out.to_.store.lt (.inl e); omega⟩ (P11.out.to_.kept.size); obtain ⟨G, hG⟩ : ∃ G, nodeCells { n with ents := C } (.slice A3 C.length c3) = G := ⟨_, rfl⟩; have hGl : Hid (G.length = 18) := Lib.hid (by rw [← hG]; exact nodeCells_len _ _); have hG1 : Hid (∀ v ∈ G, v.oneCell' = true) := Lib.hid (by rw [← hG]; exact nodeCells_one _ _ _ _); have q13 := Lib.hid (show (w12.setCell ⟨nb, 17, none⟩ (.slice A3 C.length c3)).heap[nb]? = some (.cells G.toArray 33 (0, 0)) by rw [← hG]; exact hE.1.heap); have r13 := Lib.hid hE.2.1; have fin13 := Lib.hid hE.2.2; have c12 := P12.nbx.c17; have f12 := free_of_heap P12.nbx.heap 17; have hG := Lib.hid hG; clear hE P12 hown12 hk12)
              all_goals (
                go_wp2_with (first | (refine wpList_load_agg 33 rfl rfl rfl _ Try.underlying33 rfl G (by rw [hGl.out]; exact node_size) (fun j v hv => by rw [cell_of_heap q13.out, Nat.zero_add]; simpa using hv) ?_) | (refine wpList_store_whole 33 rfl rfl rfl G rfl (by rw [hGl.out]; exact node_size) 33 _ r13.out (by simp [hGl.out, hZl.out]) hG1.out ?_))
                refine bodyPost_ret (results_row_tmp rfl _ _ (w.heap.size + 2) 33 G.toArray (0, 0) _ rfl (setRow_heap _ _ _ _ 33 (0, 0) r13.out) Try.underlying33 rfl (by simp only [List.size_toArray]; rw [hGl.out]; exact node_size)) rfl ?_
                rw [hres.out]
                exact ⟨A9, .slice A3 C.length c3, by rw [← hG.out]; rfl, (fin13.out _).1, (fin13.out _).2⟩)
          · rw [if_neg h2] at hres
            have h2' : ((er2 : Int) == 0) = false := by simp; omega
            clear h2
            go_wp2_with (first | (refine wpList_load_agg 33 rfl rfl rfl _ Try.underlying33 rfl F (by rw [hFl.out]; exact node_size) (fun j v hv => by rw [cell_of_heap q11.out, Nat.zero_add]; simpa using hv) ?_) | (refine wpList_store_whole 33 rfl rfl rfl F rfl (by rw [hFl.out]; exact node_size) 33 _ r11.out (by simp [hFl.out, hZl.out]) hF1.out ?_))
            refine bodyPost_ret (results_row_tmp rfl _ _ (w.heap.size + 2) 33 F.toArray (0, 0) _ rfl (setRow_heap _ _ _ _ 33 (0, 0) r11.out) Try.underlying33 rfl (by simp only [List.size_toArray]; rw [hFl.out]; exact node_size)) rfl ?_
            have hS := P11.out.stop h'.out F.toArray
            rw [hres.out]
            exact ⟨A9, .slice (some ⟨b, off, none⟩) n.ents.length cap, by rw [← hF'.out]; rfl, hS.1, hS.2⟩
        · have hres : Hid (putRes n i M1 n1 er = (M1, n, er)) := Lib.hid (by unfold putRes; rw [if_neg h0])
          have h0' : ((er : Int) == 0) = false := by simp; omega
          have q10 := Lib.hid (show w10.heap[nb]? = some (.cells F.toArray 33 (0, 0)) by rw [← hF'.out]; exact P10'.out.nbx.heap)
          have r10 := Lib.hid P10'.out.rb
          clear h0
          go_wp2_with (first | (refine wpList_load_agg 33 rfl rfl rfl _ Try.underlying33 rfl F (by rw [hFl.out]; exact node_size) (fun j v hv => by rw [cell_of_heap q10.out, Nat.zero_add]; simpa using hv) ?_) | (refine wpList_store_whole 33 rfl rfl rfl F rfl (by rw [hFl.out]; exact node_size) 33 _ r10.out (by simp [hFl.out, hZl.out]) hF1.out ?_))
          refine bodyPost_ret (results_row_tmp rfl _ _ (w.heap.size + 2) 33 F.toArray (0, 0) _ rfl (setRow_heap _ _ _ _ 33 (0, 0) r10.out) Try.underlying33 rfl (by simp only [List.size_toArray]; rw [hFl.out]; exact node_size)) rfl ?_
          have hS := P10'.out.stop h'.out F.toArray
          rw [hres.out]
          exact ⟨A8, .slice (some ⟨b, off, none⟩) n.ents.length cap, by rw [← hF'.out]; rfl, hS.1, hS.2⟩
      exact AllReadyH.nil
    exact AllReadyH.nil
  refine AllReadyH.cons rfl (fun K hK => ?_) ?_
  · refine step_alloc_as 33 rfl rfl Z.toArray hZz.out ?_
    obtain ⟨cb, hcbe⟩ : ∃ cb, w7.drew.heap.size = cb := ⟨_, rfl⟩
    have kA := (Kept.refl (fun _ => False) w7).drew.alloc (.cells Z.toArray 33)
    have hcb0 : (w7.drew.alloc (.cells Z.toArray 33)).heap[cb]? = some (.cells Z.toArray 33 (0, 0)) := by rw [← hcbe]; exact heap_alloc_new _ _
    have P8 := P7'.out.fresh kA
    have hcs : cb < (w7.drew.alloc (.cells Z.toArray 33)).heap.size := by rw [← hcbe]; simp
    have h7s := P7'.out.to_.store
    have hA : ∀ j, A.own j → j < cb := fun j hj => by have := h7s.lt hj; rw [← hcbe]; exact this
    have Sc0 : Safe (w7.drew.alloc (.cells Z.toArray 33)) A cb := ⟨hcs, fun e => Nat.lt_irrefl _ (hA _ (.inl e))⟩
    have hcn : nb < cb := by have := P7'.out.sn.lt; rw [← hcbe]; exact this
    rw [hcbe]
    obtain ⟨w8, hw8⟩ : ∃ w8, w7.drew.alloc (.cells Z.toArray 33) = w8 := ⟨_, rfl⟩
    rw [hw8] at P8 hcb0 hcs Sc0 ⊢
    refine hK.out _ _ (P8.held hF'.out hy'.out) (fun hH8 => ?_)
    clear hK K
    try simp only [Act.put, List.getElem_toArray, List.getElem_cons_zero, List.getElem_cons_succ, List.setIfInBounds_toArray, List.set_cons_zero, List.set_cons_succ]
    refine wpAnyH_ready (rs := [10]) (by kernel_rfl) (by simp) ?_
    refine AllReadyH.cons rfl (fun K hK => ?_) ?_
    · rw [if_pos (by rfl)]
      simp only [Go.wp_at_zero, Go.wp_at_succ]
      go_simp
      refine (ih'.out _ P8.to_.store).mono ?_
      rintro e w9 ⟨A8, v8, rfl, hT8, hO8⟩
      obtain ⟨Au, cu, rfl, _⟩ := EntsAt.form hO8.ents.at_
      obtain ⟨C1, hC1⟩ : ∃ C1, nodeCells n1 (.slice Au n1.ents.length cu) = C1 := ⟨_, rfl⟩
      have hC1l : Hid (C1.length = 18) := Lib.hid (by rw [← hC1]; exact nodeCells_len _ _)
      have hC11 : Hid (∀ v ∈ C1, v.oneCell' = true) := Lib.hid (by rw [← hC1]; exact nodeCells_one _ _ _ _)
      rw [hC1]
      have P9 := P8.step hT8
      have hcb := hT8.get hcb0 Sc0
      have Sc := Sc0.to hT8
      have hd := hT8.own_ne hA hcs
      have O9 := hO8
      have B10 := BoxAt.made P9.to_.store O9 hcb Sc
      have P10 := P9.boxed hcn Sc hcb hd (nodeCells n1 (.slice Au n1.ents.length cu)).toArray
      rw [hC1] at B10 P10
      refine hK.out _ _ (P9.held hF'.out hy'.out) (fun hH9 => ?_)
      clear hK K
      try simp only [Act.put, List.getElem_toArray, List.getElem_cons_zero, List.getElem_cons_succ, List.setIfInBounds_toArray, List.set_cons_zero, List.set_cons_succ]
      refine wpAnyH_take (i := 11) (v := .tuple #[.agg C1.toArray, .int .i64 er]) rfl (by kernel_rfl) (by kernel_rfl) (by kernel_rfl) (fun _ _ _ h => h) (Or.inl ⟨by rfl, fun W hW => by go_simp⟩) (by assumption) ?_
      simp only [Act.put, List.getElem_toArray, List.getElem_cons_zero, List.getElem_cons_succ, List.setIfInBounds_toArray, List.set_cons_zero, List.set_cons_succ]
      refine wpAnyH_take (i := 12) (v := .agg C1.toArray) rfl (by kernel_rfl) (by kernel_rfl) (by kernel_rfl) (fun _ _ _ h => h) (Or.inl ⟨by rfl, fun W hW => by go_simp⟩) (by assumption) ?_
      simp only [Act.put, List.getElem_toArray, List.getElem_cons_zero, List.getElem_cons_succ, List.setIfInBounds_toArray, List.set_cons_zero, List.set_cons_succ]
      refine wpAnyH_take (i := 13) (v := .int .i64 er) rfl (by kernel_rfl) (by kernel_rfl) (by kernel_rfl) (fun _ _ _ h => h) (Or.inl ⟨by rfl, fun W hW => by go_simp⟩) (by assumption) ?_
      simp only [Act.put, List.getElem_toArray, List.getElem_cons_zero, List.getElem_cons_succ, List.setIfInBounds_toArray, List.set_cons_zero, List.set_cons_succ]
      refine wpAnyH_ready (rs := [15]) (by kernel_rfl) (by simp) ?_
      refine AllReadyH.cons rfl (fun K hK => ?_) ?_
      · refine step_store_whole 33 rfl rfl (by rfl) C1 (by rfl) (by rw [hC1l.out]; exact node_size) 33 Z.toArray hcb (by simp [hC1l.out, hZl.out]) hC11.out ?_
        refine hK.out _ _ (P10.held hF'.out hy'.out) (fun hH10 => ?_)
        clear hK K
        try simp only [Act.put, List.getElem_toArray, List.getElem_cons_zero, List.getElem_cons_succ, List.setIfInBounds_toArray, List.set_cons_zero, List.set_cons_succ]
        refine wpAnyH_take (i := 16) (v := .int .i64 er) rfl (by kernel_rfl) (by kernel_rfl) (by kernel_rfl) (fun _ _ _ h => h) (Or.inl ⟨by rfl, fun W hW => by go_simp⟩) (by assumption) ?_
        simp only [Act.put, List.getElem_toArray, List.getElem_cons_zero, List.getElem_cons_succ, List.setIfInBounds_toArray, List.set_cons_zero, List.set_cons_succ]
        refine wpAnyH_done (by kernel_rfl) ?_ _
        obtain ⟨w10, hw10⟩ : ∃ w10, w9.setRow cb C1.toArray = w10 := ⟨_, rfl⟩
        rw [hw10] at P10 B10 ⊢
        have P10' := Lib.hid P10
        have B10' := Lib.hid B10
        have hC1' := Lib.hid hC1
        clear P10 B10 hw10 hC1 P8 P9 O9 hd Sc Sc0 hH hH8 hH9 hH10 hT8 hO8 kA hcb hcb0 hcn hcbe hcs h7s hA hw8
        have hsb := P10'.out.to_.sb
        by_cases h0 : er = 0
        · subst h0
          have hsp := treeSplit P10'.out.to_.store B10'.out.ents hfew
          rw [hsb, hC1'.out] at hsp
          have hob := (split_bound M1 n1).2
          have hres : Hid (putRes n i M1 n1 0 = if (M1.split n1).2.2 = 0 then ((M1.split n1).1, { n with ents := n.ents.take i ++ (M1.split n1).2.1 ++ n.ents.drop (i + 1) }, 0) else ((M1.split n1).1, n, (M1.split n1).2.2)) := Lib.hid rfl
          obtain ⟨R, hR⟩ : ∃ R, M1.split n1 = R := ⟨_, rfl⟩
          rw [hR] at hsp hres hob
          obtain ⟨M2, out, er2⟩ := R
          dsimp only at hsp hres hob
          have hsp' := Lib.hid hsp
          have tb10 := Lib.hid P10'.out.tb
          have cb10 := Lib.hid (show w10.heap[cb]? = some (.cells C1.toArray 33 (0, 0)) by rw [← hC1'.out]; exact B10'.out.box.heap)
          clear hsp hR hsb
          go_wp2_with (first | (refine wpList_load_agg 26 rfl rfl rfl _ Try.underlying26 rfl [.pointer (some ⟨A.sb, 0, none⟩)] (by kernel_rfl) (fun j v hj => by rw [Nat.zero_add, cell_of_heap tb10.out]; simpa using hj) ?_) | (refine wpList_load_agg 33 rfl rfl rfl _ Try.underlying33 rfl C1 (by rw [hC1l.out]; exact node_size) (fun j v hv => by rw [cell_of_heap cb10.out, Nat.zero_add]; simpa using hv) ?_))
          refine hsp'.out.mono ?_
          rintro e w11 ⟨A9, v9, rfl, hT9, hO9⟩
          obtain ⟨Ao, co, rfl, _⟩ := EntsAt.form hO9.ents.at_
          have P11 := Lib.hid (P10'.out.step hT9)
          have O11 := Lib.hid hO9
          have q11 := Lib.hid (show w11.heap[nb]? = some (.cells F.toArray 33 (0, 0)) by rw [← hF'.out]; exact P11.out.nbx.heap)
          have r11 := Lib.hid P11.out.rb
          have c11 := P11.out.nbx.c17
          clear hT9 hO9
          by_cases h2 : er2 = 0
          · subst h2
            rw [if_pos rfl] at hres
            go_wp2_with fail
            obtain ⟨C, hC⟩ : ∃ C, n.ents.take i ++ out ++ n.ents.drop (i + 1) = C := ⟨_, rfl⟩
            rw [hC] at hres
            by_cases hci : cap = i + 1
            · have hcc : Hid (∀ W, Kept (fun _ => False) w11 W → Calls Try.prog 73 #[.slice (some ⟨W.heap.size, 0, none⟩) 3 3] (W.alloc (.cells #[.slice (some ⟨b, off, none⟩) i cap, .slice Ao out.length co, .slice (some ⟨b, off, none⟩) 0 0] 31)) fun e w' => ∃ u, e = .returned u ∧ w'.ownsRow w11.heap.size 35 2 u C.length (entCells C) ∧ Kept (fun _ => False) W w') := Lib.hid (fun W kW => by
                have hE7 := SliceAt.fresh P11.out.own.ents.at_ kW
                rw [← hC]
                refine Calls.mono (?_ : Calls _ _ _ _ fun e w' => ∃ u, e = .returned u ∧ w'.ownsRow (W.heap.size + 1) 35 2 u (n.ents.take i ++ out ++ n.ents.drop (i + 1)).length (entCells (n.ents.take i ++ out ++ n.ents.drop (i + 1))) ∧ Kept (fun _ => False) W w') fun e w' ⟨u, he, ho, hk⟩ => ⟨u, he, owns_weaken ho (by have := kW.size; omega), hk⟩
                refine concat3 (entsAt_take (m := i) hE7 (by omega) rfl) (SliceAt.fresh O11.out.ents.at_ kW) ?_ (by simp only [List.length_take, List.length_drop]; omega)
                rw [List.drop_eq_nil_of_le (by omega)]; exact sliceNil (by unfold maxLen; omega))
              have hj0 : (i : Int) ≤ (n.ents.length : Int) := by omega
              have hj4 : (i : Int) + 1 ≤ (n.ents.length : Int) := by omega
              have hj5 : IntKind.i64.wrap ((i : Int) + 1) = (i : Int) + 1 := by rw [IntKind.wrap_i64]; omega
              have hj6 : ((i : Int) + 1).toNat = i + 1 := by omega
              have hj7 : (i : Int) ≤ (cap : Int) := by omega
              have hj8 : (0 : Int) ≤ (i : Int) + 1 := by omega
              have hd0 : n.ents.length - (i + 1) = 0 := by omega
              subst hci
              have hj1 : (n.ents.length : Int) ≤ (i : Int) + 1 := by omega
              have hj2 : (i : Int) ≤ (i : Int) + 1 := by omega
              have hj3 : n.ents.length ≤ i + 1 := by omega
              clear hC
              go_region_law (rw [if_pos (by rfl)]; go_simp; refine (hcc.out _ (by exact (Kept.refl _ _).drew)).mono ?_; rintro e w12 ⟨u, rfl, hown12, hk12⟩; obtain ⟨A3, c3, rfl, _⟩ := EntsAt.form (show EntsAt w12 u C from SliceAt.of_owns hown12); have P12 := P11.out.fresh ((Kept.refl (fun _ => False) w11).drew.trans hk12); have hE := P12.ends h'.out (C := C) (base := w11.heap.size) ⟨hown12, fun g hg e => by have h1 := (hown12.lt g hg).1; have h2 := P11.out.to_.store.lt (.inl e); omega⟩ (P11.out.to_.kept.size); obtain ⟨G, hG⟩ : ∃ G, nodeCells { n with ents := C } (.slice A3 C.length c3) = G := ⟨_, rfl⟩; have hGl : Hid (G.length = 18) := Lib.hid (by rw [← hG]; exact nodeCells_len _ _); have hG1 : Hid (∀ v ∈ G, v.oneCell' = true) := Lib.hid (by rw [← hG]; exact nodeCells_one _ _ _ _); have q13 := Lib.hid (show (w12.setCell ⟨nb, 17, none⟩ (.slice A3 C.length c3)).heap[nb]? = some (.cells G.toArray 33 (0, 0)) by rw [← hG]; exact hE.1.heap); have r13 := Lib.hid hE.2.1; have fin13 := Lib.hid hE.2.2; have c12 := P12.nbx.c17; have f12 := free_of_heap P12.nbx.heap 17; have hG := Lib.hid hG; clear hE P12 hown12 hk12)
              all_goals (
                go_wp2_with (first | (refine wpList_load_agg 33 rfl rfl rfl _ Try.underlying33 rfl G (by rw [hGl.out]; exact node_size) (fun j v hv => by rw [cell_of_heap q13.out, Nat.zero_add]; simpa using hv) ?_) | (refine wpList_store_whole 33 rfl rfl rfl G rfl (by rw [hGl.out]; exact node_size) 33 _ r13.out (by simp [hGl.out, hZl.out]) hG1.out ?_))
                refine bodyPost_ret (results_row_tmp rfl _ _ (w.heap.size + 2) 33 G.toArray (0, 0) _ rfl (setRow_heap _ _ _ _ 33 (0, 0) r13.out) Try.underlying33 rfl (by simp only [List.size_toArray]; rw [hGl.out]; exact node_size)) rfl ?_
                rw [hres.out]
                exact ⟨A9, .slice A3 C.length c3, by rw [← hG.out]; rfl, (fin13.out _).1, (fin13.out _).2⟩)
            · have hcc : Hid (∀ W, Kept (fun _ => False) w11 W → Calls Try.prog 73 #[.slice (some ⟨W.heap.size, 0, none⟩) 3 3] (W.alloc (.cells #[.slice (some ⟨b, off, none⟩) i cap, .slice Ao out.length co, .slice (some ⟨b, off + (i + 1) * 2, none⟩) (n.ents.length - (i + 1)) (cap - (i + 1))] 31)) fun e w' => ∃ u, e = .returned u ∧ w'.ownsRow w11.heap.size 35 2 u C.length (entCells C) ∧ Kept (fun _ => False) W w') := Lib.hid (fun W kW => by
                have hE7 := SliceAt.fresh P11.out.own.ents.at_ kW
                rw [← hC]
                refine Calls.mono (?_ : Calls _ _ _ _ fun e w' => ∃ u, e = .returned u ∧ w'.ownsRow (W.heap.size + 1) 35 2 u (n.ents.take i ++ out ++ n.ents.drop (i + 1)).length (entCells (n.ents.take i ++ out ++ n.ents.drop (i + 1))) ∧ Kept (fun _ => False) W w') fun e w' ⟨u, he, ho, hk⟩ => ⟨u, he, owns_weaken ho (by have := kW.size; omega), hk⟩
                refine concat3 (entsAt_take (m := i) hE7 (by omega) rfl) (SliceAt.fresh O11.out.ents.at_ kW) ?_ (by simp only [List.length_take, List.length_drop]; omega)
                exact entsAt_drop (m := i + 1) hE7 (by omega) rfl)
              have hj0 : (i : Int) ≤ (n.ents.length : Int) := by omega
              have hj4 : (i : Int) + 1 ≤ (n.ents.length : Int) := by omega
              have hj5 : IntKind.i64.wrap ((i : Int) + 1) = (i : Int) + 1 := by rw [IntKind.wrap_i64]; omega
              have hj6 : ((i : Int) + 1).toNat = i + 1 := by omega
              have hj7 : (i : Int) ≤ (cap : Int) := by omega
              have hj8 : (0 : Int) ≤ (i : Int) + 1 := by omega
              clear hC
              go_region_law (rw [if_pos (by rfl)]; go_simp; refine (hcc.out _ (by exact (Kept.refl _ _).drew)).mono ?_; rintro e w12 ⟨u, rfl, hown12, hk12⟩; obtain ⟨A3, c3, rfl, _⟩ := EntsAt.form (show EntsAt w12 u C from SliceAt.of_owns hown12); have P12 := P11.out.fresh ((Kept.refl (fun _ => False) w11).drew.trans hk12); have hE := P12.ends h'.out (C := C) (base := w11.heap.size) ⟨hown12, fun g hg e => by have h1 := (hown12.lt g hg).1; have h2 := P11.out.to_.store.lt (.inl e); omega⟩ (P11.out.to_.kept.size); obtain ⟨G, hG⟩ : ∃ G, nodeCells { n with ents := C } (.slice A3 C.length c3) = G := ⟨_, rfl⟩; have hGl : Hid (G.length = 18) := Lib.hid (by rw [← hG]; exact nodeCells_len _ _); have hG1 : Hid (∀ v ∈ G, v.oneCell' = true) := Lib.hid (by rw [← hG]; exact nodeCells_one _ _ _ _); have q13 := Lib.hid (show (w12.setCell ⟨nb, 17, none⟩ (.slice A3 C.length c3)).heap[nb]? = some (.cells G.toArray 33 (0, 0)) by rw [← hG]; exact hE.1.heap); have r13 := Lib.hid hE.2.1; have fin13 := Lib.hid hE.2.2; have c12 := P12.nbx.c17; have f12 := free_of_heap P12.nbx.heap 17; have hG := Lib.hid hG; clear hE P12 hown12 hk12)
              all_goals (
                go_wp2_with (first | (refine wpList_load_agg 33 rfl rfl rfl _ Try.underlying33 rfl G (by rw [hGl.out]; exact node_size) (fun j v hv => by rw [cell_of_heap q13.out, Nat.zero_add]; simpa using hv) ?_) | (refine wpList_store_whole 33 rfl rfl rfl G rfl (by rw [hGl.out]; exact node_size) 33 _ r13.out (by simp [hGl.out, hZl.out]) hG1.out ?_))
                refine bodyPost_ret (results_row_tmp rfl _ _ (w.heap.size + 2) 33 G.toArray (0, 0) _ rfl (setRow_heap _ _ _ _ 33 (0, 0) r13.out) Try.underlying33 rfl (by simp only [List.size_toArray]; rw [hGl.out]; exact node_size)) rfl ?_
                rw [hres.out]
                exact ⟨A9, .slice A3 C.length c3, by rw [← hG.out]; rfl, (fin13.out _).1, (fin13.out _).2⟩)
          · rw [if_neg h2] at hres
            have h2' : ((er2 : Int) == 0) = false := by simp; omega
            clear h2
            go_wp2_with (first | (refine wpList_load_agg 33 rfl rfl rfl _ Try.underlying33 rfl F (by rw [hFl.out]; exact node_size) (fun j v hv => by rw [cell_of_heap q11.out, Nat.zero_add]; simpa using hv) ?_) | (refine wpList_store_whole 33 rfl rfl rfl F rfl (by rw [hFl.out]; exact node_size) 33 _ r11.out (by simp [hFl.out, hZl.out]) hF1.out ?_))
            refine bodyPost_ret (results_row_tmp rfl _ _ (w.heap.size + 2) 33 F.toArray (0, 0) _ rfl (setRow_heap _ _ _ _ 33 (0, 0) r11.out) Try.underlying33 rfl (by simp only [List.size_toArray]; rw [hFl.out]; exact node_size)) rfl ?_
            have hS := P11.out.stop h'.out F.toArray
            rw [hres.out]
            exact ⟨A9, .slice (some ⟨b, off, none⟩) n.ents.length cap, by rw [← hF'.out]; rfl, hS.1, hS.2⟩
        · have hres : Hid (putRes n i M1 n1 er = (M1, n, er)) := Lib.hid (by unfold putRes; rw [if_neg h0])
          have h0' : ((er : Int) == 0) = false := by simp; omega
          have q10 := Lib.hid (show w10.heap[nb]? = some (.cells F.toArray 33 (0, 0)) by rw [← hF'.out]; exact P10'.out.nbx.heap)
          have r10 := Lib.hid P10'.out.rb
          clear h0
          go_wp2_with (first | (refine wpList_load_agg 33 rfl rfl rfl _ Try.underlying33 rfl F (by rw [hFl.out]; exact node_size) (fun j v hv => by rw [cell_of_heap q10.out, Nat.zero_add]; simpa using hv) ?_) | (refine wpList_store_whole 33 rfl rfl rfl F rfl (by rw [hFl.out]; exact node_size) 33 _ r10.out (by simp [hFl.out, hZl.out]) hF1.out ?_))
          refine bodyPost_ret (results_row_tmp rfl _ _ (w.heap.size + 2) 33 F.toArray (0, 0) _ rfl (setRow_heap _ _ _ _ 33 (0, 0) r10.out) Try.underlying33 rfl (by simp only [List.size_toArray]; rw [hFl.out]; exact node_size)) rfl ?_
          have hS := P10'.out.stop h'.out F.toArray
          rw [hres.out]
          exact ⟨A8, .slice (some ⟨b, off, none⟩) n.ents.length cap, by rw [← hF'.out]; rfl, hS.1, hS.2⟩
      exact AllReadyH.nil
    exact AllReadyH.nil
  exact AllReadyH.nil
end Go.Proofs.Ythmjcbmeiabbgaa
/-
  Nodes in a store, plain: what is closed under a store's steps; making a node keeps the store exact.
-/
namespace Go.Proofs.Ythmjcbmeiabbgaa
open Go.RowKit

/-- What a store's steps keep. -/
structure Closed (Q : SM → Prop) : Prop where
  take : ∀ (M : SM) (i : Nat) (n : NM), M.pool.takeIx = some i → Q M → Q ⟨M.pool.setSt i 1, M.log ++ [(i, n)]⟩
  hold : ∀ (M : SM) (i : Int), Q M → Q ⟨M.pool.holdTo i, M.log⟩
  drop : ∀ (M : SM) (i : Int), M.pool.heldB i = true → Q M → Q ⟨M.pool.dropTo i.toNat, M.log⟩
theorem Closed.holds {Q : SM → Prop} (C : Closed Q) : ∀ (cs : List Int) (p : PM) (L : List (Nat × NM)), Q ⟨p, L⟩ → Q ⟨(Go.Proofs.Ythmjcbmeiabbgaa.holds p cs).1, L⟩
  | [], _, _, h => h
  | c :: cs, p, L, h => by
    unfold Go.Proofs.Ythmjcbmeiabbgaa.holds
    split
    · exact Closed.holds C cs _ _ (C.hold ⟨p, L⟩ c h)
    · exact h
theorem Closed.make {Q : SM → Prop} (C : Closed Q) {M : SM} (n : NM) (h : Q M) : Q (M.make n).1 := by
  unfold SM.make
  split
  · split
    · exact h
    · split
      · exact h
      · rename_i i hi
        exact C.holds _ _ _ (C.take M i n hi h)
  · exact h
theorem Closed.makes {Q : SM → Prop} (C : Closed Q) (kind : Int) : ∀ (ps : List (List (Int × Int))) (M : SM) (out : List (Int × Int)), Q M → Q (SM.makes kind ps M out).1
  | [], _, _, h => h
  | p :: ps, M, out, h => by
    unfold SM.makes
    dsimp only
    split
    · exact Closed.makes C kind ps _ _ (C.make _ h)
    · exact C.make _ h
theorem Closed.split {Q : SM → Prop} (C : Closed Q) {M : SM} (n : NM) (h : Q M) : Q (M.split n).1 := by
  unfold SM.split
  split
  · exact h
  · exact C.makes _ _ _ _ h
theorem Closed.putF {Q : SM → Prop} (C : Closed Q) : ∀ (f : Nat) (M : SM) (r : Int) (x : Int × Int), Q M → Q (SM.putF f M r x).1
  | 0, _, _, _, h => h
  | f + 1, M, r, x, h => by
    unfold SM.putF
    dsimp only
    split
    · split
      · split
        · split
          · exact C.split _ (Closed.putF C f _ _ _ h)
          · exact C.split _ (Closed.putF C f _ _ _ h)
        · exact Closed.putF C f _ _ _ h
      · split <;> exact h
    · exact h
theorem Closed.top {Q : SM → Prop} (C : Closed Q) {M : SM} (n : NM) (h : Q M) : Q (M.top n).1 := by
  unfold SM.top
  dsimp only
  split
  · split
    · split <;> exact C.split _ (C.split _ h)
    · exact C.split _ h
  · exact C.split _ h
theorem Closed.put {Q : SM → Prop} (C : Closed Q) {M : SM} (r k p : Int) (h : Q M) : Q (M.put r k p).1 := by
  unfold SM.put
  dsimp only
  split
  · exact h
  · split
    · exact C.top _ h
    · split
      · exact C.top _ (C.putF _ _ _ _ h)
      · exact C.putF _ _ _ _ h
theorem Closed.dropF {Q : SM → Prop} (C : Closed Q) : ∀ (f : Nat) (M : SM) (i : Int), Q M → Q (SM.dropF f M i).1
  | 0, _, _, h => h
  | f + 1, M, i, h => by
    rw [dropF_succ]
    split
    · rename_i hh
      have h1 := C.drop M i hh h
      split
      · split
        · exact h1
        · rename_i n _
          have : ∀ (l : List Int) (s : SM × Nat), Q s.1 → Q (dropAllF f s l).1 := by
            intro l
            induction l with
            | nil => intro s hs; exact hs
            | cons c l ih =>
              intro s hs
              unfold dropAllF
              rw [List.foldl_cons]
              split
              · exact ih _ (Closed.dropF C f _ _ hs)
              · exact ih _ hs
          exact this _ _ h1
      · exact h1
    · exact h
theorem Closed.swap {Q : SM → Prop} (C : Closed Q) {M : SM} (a b : Int) (h : Q M) : Q (M.swap a b).1 := by
  unfold SM.swap
  dsimp only
  have h1 : Q (if b = -1 then (M, 0) else M.hold b).1 := by
    split
    · exact h
    · exact C.hold M b h
  obtain ⟨R, hR⟩ : ∃ R, (if b = -1 then (M, 0) else M.hold b) = R := ⟨_, rfl⟩
  rw [hR] at h1 ⊢
  split
  · split
    · exact h1
    · exact C.dropF _ _ _ h1
  · exact h1

theorem sumN_zero {f : Nat → Nat} : ∀ {n}, (∀ i, i < n → f i = 0) → sumN f n = 0
  | 0, _ => rfl
  | n + 1, h => by unfold sumN; rw [sumN_zero (fun i hi => h i (by omega)), h n (by omega)]
theorem freeN_sum (p : PM) : ∀ n, p.freeN n = sumN (fun i => if p.freeB i then 1 else 0) n
  | 0 => rfl
  | n + 1 => by unfold PM.freeN sumN; rw [freeN_sum p n]
theorem takeIx_free {p : PM} {i : Nat} (h : p.takeIx = some i) : i < p.size ∧ p.freeB i = true := ⟨(PM.takeN_some h).1, (PM.takeN_some h).2.1⟩
theorem free_zero {p : PM} (h : p.takeIx = none) : p.freeCount = 0 := by
  unfold PM.freeCount
  rw [freeN_sum]
  exact sumN_zero fun i hi => by rw [PM.takeN_none h i hi]; rfl
theorem free_not_live {p : PM} {i : Nat} (h : p.freeB i = true) : p.live i = false := by
  simp only [PM.freeB, Bool.and_eq_true, beq_iff_eq] at h
  simp [PM.live, h.1, h.2]

/-- What holding some pages does, where it is done. -/
structure Held (p : PM) (cs : List Int) (p' : PM) : Prop where
  size : p'.size = p.size
  st : p'.st = p.st
  cnt : ∀ j, p'.cnt j = p.cnt j + cs.countP fun c => c == (j : Int)
theorem Held.live {p p' : PM} {cs : List Int} (h : Held p cs p') (hl : ∀ c ∈ cs, p.heldB c = true) (q : Nat) : p'.live q = p.live q := by
  unfold PM.live
  rw [h.size, h.st, h.cnt q]
  by_cases hz : cs.countP (fun c => c == (q : Int)) = 0
  · rw [hz, Nat.add_zero]
  · obtain ⟨c, hc, he⟩ := List.countP_pos_iff.1 (Nat.pos_of_ne_zero hz)
    have hq := hl c hc
    rw [show c = (q : Int) by simpa using he, heldB_nat] at hq
    unfold PM.live at hq
    rw [hq]
    simp only [Bool.and_eq_true, decide_eq_true_eq] at hq
    simp [hq.1]; omega
theorem holds_split (p : PM) : ∀ (cs : List Int), (∀ c ∈ cs, p.heldB c = true) → (∀ j, p.cnt j ≤ 255) →
    ((holds p cs).2 = 0 ∧ Held p cs (holds p cs).1 ∧ ∀ j, (holds p cs).1.cnt j ≤ 255) ∨ ((holds p cs).2 = 72 ∧ ∃ c ∈ cs, 255 < p.cnt c.toNat + cs.length) := by
  intro cs
  induction cs generalizing p with
  | nil => intro _ hb; exact .inl ⟨rfl, ⟨rfl, rfl, fun j => by simp [holds]⟩, hb⟩
  | cons c cs ih =>
    intro hl hb
    have hc := hl c (List.mem_cons_self ..)
    obtain ⟨h0, hcl⟩ := heldB_int hc
    obtain ⟨k, rfl⟩ := Int.eq_ofNat_of_zero_le h0
    simp only [Int.toNat_natCast] at hcl
    unfold holds
    by_cases hlt : p.cnt k < 255
    · have he : p.holdErr (k : Int) = 0 := by simp [PM.holdErr, hc, hlt]
      have ht : p.holdTo (k : Int) = p.setCnt k (p.cnt k + 1) := by simp [PM.holdTo, hc, hlt]
      rw [if_pos he, ht]
      have hone : Held p [(k : Int)] (p.setCnt k (p.cnt k + 1)) := ⟨rfl, rfl, fun j => by
        unfold PM.setCnt
        by_cases hj : j = k
        · subst hj; simp
        · simp [hj]; omega⟩
      have hlv := hone.live (fun x hx => by rw [List.mem_singleton.1 hx]; exact hc)
      rcases ih (p.setCnt k (p.cnt k + 1)) (fun x hx => by
          have := hl x (List.mem_cons_of_mem _ hx)
          obtain ⟨h0, _⟩ := heldB_int this
          obtain ⟨m, rfl⟩ := Int.eq_ofNat_of_zero_le h0
          rw [heldB_nat] at this ⊢
          rw [hlv]; exact this) (fun j => by unfold PM.setCnt; dsimp only; split; omega; exact hb j) with ⟨e, H, hb'⟩ | ⟨e, d, hd, hs⟩
      · refine .inl ⟨e, ⟨H.size, H.st, fun j => ?_⟩, hb'⟩
        rw [H.cnt, hone.cnt, List.countP_cons, List.countP_cons, List.countP_nil]
        omega
      · refine .inr ⟨e, d, List.mem_cons_of_mem _ hd, ?_⟩
        have : (p.setCnt k (p.cnt k + 1)).cnt d.toNat ≤ p.cnt d.toNat + 1 := by unfold PM.setCnt; dsimp only; split; (rename_i e; rw [e]; omega); omega
        rw [List.length_cons]
        omega
    · have he : p.holdErr (k : Int) = 72 := by simp [PM.holdErr, hc, hlt]
      rw [if_neg (by rw [he]; decide), he]
      refine .inr ⟨rfl, (k : Int), List.mem_cons_self .., ?_⟩
      have := hb k
      simp only [Int.toNat_natCast, List.length_cons]
      omega

/-- How many entries there are. -/
def SM.sum (M : SM) : Nat := sumN (fun q => if M.live q then (M.ents q).length else 0) M.pool.size
theorem occ_le (l : List (Int × Int)) (p : Nat) : occ l p ≤ l.length := List.countP_le_length
theorem SM.refs_le (M : SM) (p : Nat) : M.refs p ≤ M.sum := by
  unfold SM.refs SM.sum
  refine sumN_le fun q _ => ?_
  split
  · exact occ_le _ _
  · exact Nat.le_refl _
theorem Exact.cnt_le {M : SM} {ext : Nat → Nat} (h : Exact M ext) {p : Nat} (hp : M.live p = true) : M.pool.cnt p ≤ M.sum + ext p := by
  have := h.cnt p (live_lt hp)
  have := M.refs_le p
  omega

/-- All that was there is there as it was. -/
structure Grown (M M' : SM) : Prop where
  size : M'.pool.size = M.pool.size
  live : ∀ q, M.live q = true → M'.live q = true
  node : ∀ q, M.live q = true → M'.nodeAt q = M.nodeAt q
theorem Grown.refl (M : SM) : Grown M M := ⟨rfl, fun _ h => h, fun _ _ => rfl⟩
theorem Grown.trans {A B C : SM} (h : Grown A B) (k : Grown B C) : Grown A C := ⟨k.size.trans h.size, fun q hq => k.live q (h.live q hq), fun q hq => (k.node q (h.live q hq)).trans (h.node q hq)⟩
theorem Grown.held {M M' : SM} (h : Grown M M') {i : Int} (hi : M.pool.heldB i = true) : M'.pool.heldB i = true := by
  obtain ⟨h0, h1⟩ := heldB_int hi
  obtain ⟨n, rfl⟩ := Int.eq_ofNat_of_zero_le h0
  rw [heldB_nat]
  exact h.live n h1

/-- What is there and not held yet. -/
def Loose (M : SM) (E : List (Int × Int)) : Prop := ∀ q, M.live q = true → M.pool.cnt q = 0 → ∃ x ∈ E, x.2 = (q : Int)

/-- A node that was made. -/
structure Made (M : SM) (n : NM) (ext : Nat → Nat) (M' : SM) (i : Nat) : Prop where
  exact : Exact M' ext
  grown : Grown M M'
  new : M.live i = false
  live : M'.live i = true
  node : M'.nodeAt i = some n
  free : M.pool.freeCount = M'.pool.freeCount + 1
  sum : M'.sum = M.sum + n.ents.length
  cnt : ∀ q, M'.pool.cnt q = M.pool.cnt q + occ n.ents q
  only : ∀ q, M'.live q = true → q = i ∨ M.live q = true

theorem make_ok {M : SM} {ext : Nat → Nat} (h : Exact M ext) {n : NM} (hn : n.ok) (hk : ∀ x ∈ n.ents, M.pool.heldB x.2 = true) :
    (∃ i : Nat, (M.make n).2 = ((i : Int), 0) ∧ Made M n ext (M.make n).1 i) ∨ ((M.make n).2 = (-1, 71) ∧ M.pool.freeCount = 0) ∨ ((M.make n).2 = (-1, 72) ∧ ∃ c, 255 < M.sum + n.ents.length + ext c) := by
  unfold SM.make
  rw [if_pos hn.1]
  have hany : ¬ (n.ents.any (fun x => !M.pool.heldB x.2) = true) := by
    rw [List.any_eq_true]
    rintro ⟨x, hx, hb⟩
    rw [hk x hx] at hb
    cases hb
  rw [if_neg hany]
  cases hti : M.pool.takeIx with
  | none => exact .inr (.inl ⟨rfl, free_zero hti⟩)
  | some i =>
    dsimp only
    obtain ⟨hil, hif⟩ := takeIx_free hti
    have hnl := free_not_live hif
    have hif' := hif
    simp only [PM.freeB, Bool.and_eq_true, beq_iff_eq] at hif'
    have hs1 : (M.pool.setSt i 1).size = M.pool.size := rfl
    have hc1 : (M.pool.setSt i 1).cnt = M.pool.cnt := rfl
    have hl1 : ∀ q, (M.pool.setSt i 1).live q = (M.pool.live q || decide (q = i)) := by
      intro q
      unfold PM.live PM.setSt
      dsimp only
      by_cases hq : q = i
      · subst hq; simp [hil]
      · simp [hq]
    have hk1 : ∀ c ∈ n.ents.map (·.2), (M.pool.setSt i 1).heldB c = true := by
      intro c hc
      obtain ⟨x, hx, rfl⟩ := List.mem_map.1 hc
      have := hk x hx
      obtain ⟨h0, h2⟩ := heldB_int this
      obtain ⟨m, hm⟩ := Int.eq_ofNat_of_zero_le h0
      rw [hm] at h2 ⊢
      rw [heldB_nat, hl1]
      simp only [Int.toNat_natCast] at h2
      rw [h2]; rfl
    rcases holds_split (M.pool.setSt i 1) (n.ents.map (·.2)) hk1 (fun j => by rw [hc1]; exact h.cntLe j) with ⟨he, H, hb⟩ | ⟨he, c, hc, hs⟩
    · refine .inl ⟨i, by rw [he]; rfl, ?_⟩
      obtain ⟨p', hp'⟩ : ∃ p', (holds (M.pool.setSt i 1) (n.ents.map (·.2))).1 = p' := ⟨_, rfl⟩
      rw [hp'] at H hb ⊢
      have hlive : ∀ q, SM.live ⟨p', M.log ++ [(i, n)]⟩ q = (M.live q || decide (q = i)) := fun q => by
        show p'.live q = _
        rw [H.live hk1, hl1]; rfl
      have hnode : ∀ q, SM.nodeAt ⟨p', M.log ++ [(i, n)]⟩ q = if i = q then some n else M.nodeAt q := fun q => logAt_put _ _ _ _
      have hents : ∀ q, SM.ents ⟨p', M.log ++ [(i, n)]⟩ q = if i = q then n.ents else M.ents q := fun q => by
        unfold SM.ents
        rw [hnode]
        by_cases e : i = q
        · rw [if_pos e, if_pos e]
        · rw [if_neg e, if_neg e]
      have hcnt : ∀ q, p'.cnt q = M.pool.cnt q + occ n.ents q := fun q => by
        rw [H.cnt, hc1]
        unfold occ
        rw [List.countP_map]
        rfl
      have hfun : ∀ (g : List (Int × Int) → Nat), sumN (fun q => if SM.live ⟨p', M.log ++ [(i, n)]⟩ q then g (SM.ents ⟨p', M.log ++ [(i, n)]⟩ q) else 0) M.pool.size = sumN (fun q => if M.live q then g (M.ents q) else 0) M.pool.size + g n.ents := fun g => by
        have := sumN_set (f := fun q => if M.live q then g (M.ents q) else 0) (g := fun q => if SM.live ⟨p', M.log ++ [(i, n)]⟩ q then g (SM.ents ⟨p', M.log ++ [(i, n)]⟩ q) else 0) hil
          (fun j _ hj => by have hj' : ¬ i = j := fun e => hj e.symm; rw [hlive, hents]; simp [hj, hj'])
        rw [hlive, hents] at this
        simp only [decide_true, Bool.or_true, if_true, show M.live i = false from hnl] at this
        simpa using this
      have hsz : p'.size = M.pool.size := H.size
      have hrefs : ∀ q, SM.refs ⟨p', M.log ++ [(i, n)]⟩ q = M.refs q + occ n.ents q := fun q => by
        unfold SM.refs
        show sumN _ p'.size = _
        rw [hsz]
        exact hfun fun l => occ l q
      have hkl : ∀ x ∈ n.ents, M.live x.2.toNat = true := fun x hx => (heldB_int (hk x hx)).2
      refine ⟨⟨by show p'.size ≤ 240; rw [hsz]; exact h.size, hb, fun q hq => ?_, fun q hq => ?_, fun q hq x hx => ?_, ?_⟩, ⟨hsz, fun q hq => ?_, fun q hq => ?_⟩, hnl, ?_, ?_, ?_, ?_, hcnt, fun q hq => ?_⟩
      · show p'.cnt q = _
        rw [hcnt, hrefs]
        have hq' : q < M.pool.size := by rw [← hsz]; exact hq
        have := h.cnt q hq'
        omega
      · rw [hlive] at hq
        rw [hnode]
        by_cases e : i = q
        · rw [if_pos e]; exact ⟨n, rfl, hn⟩
        · rw [if_neg e]
          have e' : ¬ q = i := fun z => e z.symm
          simp [e'] at hq
          exact h.node q hq
      · rw [hlive] at hq ⊢
        rw [hents] at hx
        by_cases e : i = q
        · rw [if_pos e] at hx
          rw [hkl x hx]; rfl
        · rw [if_neg e] at hx
          have e' : ¬ q = i := fun z => e z.symm
          simp [e'] at hq
          rw [h.kids q hq x hx]; rfl
      · obtain ⟨r, hr⟩ := h.rank
        refine ⟨fun q => if q = i then sumN r M.pool.size + 1 else r q, fun q hq x hx => ?_⟩
        rw [hlive] at hq
        rw [hents] at hx
        have hne : ∀ y, M.live y = true → y ≠ i := fun y hy e => by rw [e] at hy; rw [show M.live i = false from hnl] at hy; cases hy
        by_cases e : i = q
        · rw [if_pos e] at hx
          have h1 := hkl x hx
          simp only [if_neg (hne _ h1), if_pos e.symm]
          exact Nat.lt_succ_of_le (sumN_get (f := r) (live_lt h1))
        · rw [if_neg e] at hx
          have e' : ¬ q = i := fun z => e z.symm
          simp [e'] at hq
          simp only [if_neg (hne _ (h.kids q hq x hx)), if_neg e']
          exact hr q hq x hx
      · rw [hlive, hq]; rfl
      · rw [hnode, if_neg (fun e => by rw [← e, show M.live i = false from hnl] at hq; cases hq)]
      · rw [hlive]; simp
      · rw [hnode, if_pos rfl]
      · show M.pool.freeN M.pool.size = p'.freeN p'.size + 1
        rw [hsz, freeN_sum, freeN_sum]
        have hfr : ∀ q, M.live q = true → occ n.ents q = 0 ∨ True := fun _ _ => .inr trivial
        have := sumN_set (f := fun q => if M.pool.freeB q then 1 else 0) (g := fun q => if p'.freeB q then 1 else 0) hil
          (fun j hj hji => by
            have : p'.freeB j = M.pool.freeB j := by
              unfold PM.freeB
              rw [hcnt, H.st]
              have hst : (M.pool.setSt i 1).st j = M.pool.st j := by unfold PM.setSt; simp [hji]
              rw [hst]
              by_cases ho : occ n.ents j = 0
              · rw [ho, Nat.add_zero]
              · unfold occ at ho
                obtain ⟨x, hx, he⟩ := List.countP_pos_iff.1 (Nat.pos_of_ne_zero ho)
                have hlx := hkl x hx
                rw [show x.2 = (j : Int) by simpa using he, Int.toNat_natCast] at hlx
                simp only [SM.live, PM.live, Bool.and_eq_true, decide_eq_true_eq, Bool.or_eq_true, beq_iff_eq] at hlx
                rw [Bool.eq_iff_iff]
                simp only [Bool.and_eq_true, beq_iff_eq]
                constructor <;> intro hz <;> omega
            rw [this])
        rw [hif] at this
        have hnf : p'.freeB i = false := by
          unfold PM.freeB
          rw [H.st]
          simp [PM.setSt]
        rw [hnf] at this
        simp at this
        omega
      · unfold SM.sum
        show sumN _ p'.size = _
        rw [hsz]
        exact hfun List.length
      · rw [hlive] at hq
        simp only [Bool.or_eq_true, decide_eq_true_eq] at hq
        exact hq.symm
    · refine .inr (.inr ⟨by rw [he]; rfl, c.toNat, ?_⟩)
      obtain ⟨x, hx, rfl⟩ := List.mem_map.1 hc
      have hl := (heldB_int (hk x hx)).2
      have := h.cnt_le hl
      rw [hc1, List.length_map] at hs
      omega
theorem Made.loose {M M' : SM} {n : NM} {ext : Nat → Nat} {i : Nat} (h : Made M n ext M' i) (hk : ∀ x ∈ n.ents, M.pool.heldB x.2 = true) {E : List (Int × Int)} (hl : Loose M (n.ents ++ E)) (k : Int) : Loose M' (E ++ [(k, (i : Int))]) := by
  intro q hq hc
  rcases h.only q hq with rfl | hq
  · exact ⟨_, List.mem_append_right _ (List.mem_singleton.2 rfl), rfl⟩
  · rw [h.cnt] at hc
    obtain ⟨x, hx, he⟩ := hl q hq (by omega)
    rcases List.mem_append.1 hx with hx | hx
    · have h0 : 0 ≤ x.2 := (heldB_int (hk x hx)).1
      have := occ_pos hx h0
      rw [he, Int.toNat_natCast] at this
      omega
    · exact ⟨x, List.mem_append_left _ hx, he⟩
end Go.Proofs.Ythmjcbmeiabbgaa
/-
  Trees in a store, plain: what a tree of a height is; entries with one more.
-/
namespace Go.Proofs.Ythmjcbmeiabbgaa
open Go.RowKit

/-- The entries with one for a key. -/
def putL (l : List (Int × Int)) (x : Int × Int) : List (Int × Int) := l.filter (fun y => decide (y.1 < x.1)) ++ [x] ++ l.filter (fun y => decide (x.1 < y.1))
theorem filter_all {l : List (Int × Int)} {p : Int × Int → Bool} (h : ∀ y ∈ l, p y = true) : l.filter p = l := List.filter_eq_self.2 h
theorem filter_none {l : List (Int × Int)} {p : Int × Int → Bool} (h : ∀ y ∈ l, p y = false) : l.filter p = [] := List.filter_eq_nil_iff.2 fun y hy => by rw [h y hy]; decide
theorem putL_mid {a b c : List (Int × Int)} {x : Int × Int} (ha : ∀ y ∈ a, y.1 < x.1) (hc : ∀ y ∈ c, x.1 < y.1) : putL (a ++ b ++ c) x = a ++ putL b x ++ c := by
  unfold putL
  simp only [List.filter_append]
  rw [filter_all (l := a) (p := fun y => decide (y.1 < x.1)) (fun y hy => by simpa using ha y hy), filter_none (l := a) (p := fun y => decide (x.1 < y.1)) (fun y hy => by have := ha y hy; simp; omega),
    filter_none (l := c) (p := fun y => decide (y.1 < x.1)) (fun y hy => by have := hc y hy; simp; omega), filter_all (l := c) (p := fun y => decide (x.1 < y.1)) (fun y hy => by simpa using hc y hy)]
  simp
theorem putL_rises {l : List (Int × Int)} (h : RisesK l) (x : Int × Int) : RisesK (putL l x) := by
  unfold putL RisesK
  rw [List.append_assoc]
  refine List.pairwise_append.2 ⟨List.Pairwise.filter _ h, List.pairwise_append.2 ⟨List.pairwise_singleton _ _, List.Pairwise.filter _ h, fun a ha b hb => ?_⟩, fun a ha b hb => ?_⟩
  · rw [List.mem_singleton.1 ha]
    simp at hb; exact hb.2
  · simp at ha
    rcases List.mem_append.1 hb with hb | hb
    · rw [List.mem_singleton.1 hb]; exact ha.2
    · simp at hb; omega
theorem putL_mem {l : List (Int × Int)} {x y : Int × Int} (h : y ∈ putL l x) : y = x ∨ y ∈ l := by
  unfold putL at h
  simp only [List.mem_append, List.mem_singleton, List.mem_filter] at h
  rcases h with (h | h) | h
  · exact .inr h.1
  · exact .inl h
  · exact .inr h.1
theorem rises_cut {l : List (Int × Int)} (h : RisesK l) (i : Nat) : (∀ y ∈ l.take i, ∀ z ∈ l.drop i, y.1 < z.1) := by
  have : RisesK (l.take i ++ l.drop i) := by rw [List.take_append_drop]; exact h
  exact fun y hy z hz => (List.pairwise_append.1 this).2.2 y hy z hz
theorem putL_take {l : List (Int × Int)} {x : Int × Int} {i j : Nat} (hij : i ≤ j) (h1 : ∀ y ∈ l.take i, y.1 < x.1) (h2 : ∀ y ∈ l.drop j, x.1 < y.1) (h3 : ∀ y ∈ (l.drop i).take (j - i), y.1 = x.1) :
    l.take i ++ [x] ++ l.drop j = putL l x := by
  have e : l = l.take i ++ (l.drop i).take (j - i) ++ l.drop j := by
    rw [List.append_assoc]
    have : (l.drop i).take (j - i) ++ l.drop j = l.drop i := by
      have := List.take_append_drop (j - i) (l.drop i)
      rw [List.drop_drop, show i + (j - i) = j by omega] at this
      exact this
    rw [this, List.take_append_drop]
  have hm : putL ((l.drop i).take (j - i)) x = [x] := by
    unfold putL
    rw [filter_none (fun y hy => by have := h3 y hy; simp; omega), filter_none (fun y hy => by have := h3 y hy; simp; omega)]
    rfl
  conv => rhs; rw [e]
  rw [putL_mid h1 h2, hm]

/-- Where a key belongs: what is ahead of it and what isn't. -/
theorem atI_cut {l : List (Int × Int)} (h : RisesK l) (key : Int) {c : Nat} (hc : (c : Int) = atI l key + 1) : c ≤ l.length ∧ (∀ y ∈ l.take c, y.1 ≤ key) ∧ (∀ y ∈ l.drop c, key < y.1) := by
  have hlen : c = (l.filter fun x => decide (x.1 ≤ key)).length := by unfold atI at hc; omega
  clear hc
  subst hlen
  have key' : ∀ {l : List (Int × Int)}, RisesK l → l.take (l.filter fun x => decide (x.1 ≤ key)).length = l.filter (fun x => decide (x.1 ≤ key)) ∧ l.drop (l.filter fun x => decide (x.1 ≤ key)).length = l.filter (fun x => decide (key < x.1)) := by
    intro l
    induction l with
    | nil => intro _; exact ⟨rfl, rfl⟩
    | cons y l ih =>
      intro hr
      have hr' := List.pairwise_cons.1 hr
      by_cases hy : y.1 ≤ key
      · rw [List.filter_cons_of_pos (by simpa using hy), List.length_cons, List.take_succ_cons, List.drop_succ_cons, (ih hr'.2).1, (ih hr'.2).2, List.filter_cons_of_neg (by simp; omega)]
        exact ⟨rfl, rfl⟩
      · have hall : l.filter (fun x => decide (x.1 ≤ key)) = [] := List.filter_eq_nil_iff.2 fun z hz => by have := hr'.1 z hz; simp; omega
        have hall2 : l.filter (fun x => decide (key < x.1)) = l := filter_all fun z hz => by have := hr'.1 z hz; simp; omega
        rw [List.filter_cons_of_neg (by simpa using hy), hall, List.filter_cons_of_pos (by simp; omega), hall2]
        exact ⟨rfl, rfl⟩
  refine ⟨List.length_filter_le _ _, fun y hy => ?_, fun y hy => ?_⟩
  · rw [(key' h).1] at hy; simp at hy; exact hy.2
  · rw [(key' h).2] at hy; simp at hy; exact hy.2

/-- Children, each with its own part of the entries. -/
def Kids (T : Int → List (Int × Int) → Prop) : List (Int × Int) → List (Int × Int) → Prop
  | [], l => l = []
  | e :: es, l => ∃ a b x, l = a ++ b ∧ T e.2 a ∧ a.head? = some x ∧ x.1 = e.1 ∧ Kids T es b
theorem Kids.append {T : Int → List (Int × Int) → Prop} : ∀ {es fs l m : List (Int × Int)}, Kids T es l → Kids T fs m → Kids T (es ++ fs) (l ++ m)
  | [], _, _, _, h, k => by rw [show _ = [] from h]; exact k
  | _ :: _, _, _, _, ⟨a, b, x, h1, h2, h3, h4, h5⟩, k => ⟨a, b ++ _, x, by rw [h1, List.append_assoc], h2, h3, h4, Kids.append h5 k⟩
theorem Kids.cut {T : Int → List (Int × Int) → Prop} : ∀ {es fs l : List (Int × Int)}, Kids T (es ++ fs) l → ∃ a b, l = a ++ b ∧ Kids T es a ∧ Kids T fs b
  | [], _, l, h => ⟨[], l, rfl, rfl, h⟩
  | _ :: _, _, _, ⟨a, b, x, h1, h2, h3, h4, h5⟩ => by
    obtain ⟨c, d, e1, e2, e3⟩ := Kids.cut h5
    exact ⟨a ++ c, d, by rw [h1, e1, List.append_assoc], ⟨a, c, x, rfl, h2, h3, h4, e2⟩, e3⟩
theorem Kids.mono {T U : Int → List (Int × Int) → Prop} : ∀ {es l : List (Int × Int)}, (∀ e ∈ es, ∀ a, T e.2 a → U e.2 a) → Kids T es l → Kids U es l
  | [], _, _, h => h
  | _ :: _, _, h, ⟨a, b, x, h1, h2, h3, h4, h5⟩ => ⟨a, b, x, h1, h _ (List.mem_cons_self ..) _ h2, h3, h4, Kids.mono (fun e he => h e (List.mem_cons_of_mem _ he)) h5⟩
/-- The first key is the first entry's. -/
theorem Kids.head {T : Int → List (Int × Int) → Prop} {e : Int × Int} {es l : List (Int × Int)} (h : Kids T (e :: es) l) : ∃ x, l.head? = some x ∧ x.1 = e.1 := by
  obtain ⟨a, b, x, h1, h2, h3, h4, h5⟩ := h
  refine ⟨x, ?_, h4⟩
  cases a with
  | nil => cases h3
  | cons y a => rw [h1]; exact h3
theorem Kids.each {T : Int → List (Int × Int) → Prop} : ∀ {es l : List (Int × Int)}, Kids T es l → ∀ e ∈ es, ∃ a, T e.2 a ∧ ∀ y ∈ a, y ∈ l
  | [], _, _, _, he => by cases he
  | _ :: _, _, ⟨a, b, x, h1, h2, h3, h4, h5⟩, e, he => by
    rcases List.mem_cons.1 he with rfl | he
    · exact ⟨a, h2, fun y hy => by rw [h1]; exact List.mem_append_left _ hy⟩
    · obtain ⟨c, hc, hm⟩ := Kids.each h5 e he
      exact ⟨c, hc, fun y hy => by rw [h1]; exact List.mem_append_right _ (hm y hy)⟩
theorem head_le {l : List (Int × Int)} (h : RisesK l) {x : Int × Int} (hx : l.head? = some x) : ∀ y ∈ l, x.1 ≤ y.1 := by
  cases l with
  | nil => cases hx
  | cons z l =>
    cases hx
    intro y hy
    rcases List.mem_cons.1 hy with rfl | hy
    · exact Int.le_refl _
    · exact Int.le_of_lt ((List.pairwise_cons.1 h).1 y hy)

/-- A node that stands for entries: a leaf (h = 0), or children of height h. -/
def NTr (T : Int → List (Int × Int) → Prop) (h : Nat) (n : NM) (l : List (Int × Int)) : Prop := (h = 0 ∧ n.kind = 2 ∧ n.ents = l) ∨ (0 < h ∧ n.kind = 3 ∧ Kids T n.ents l)
def SM.entN (M : SM) (p : Int) : Nat := (M.ents p.toNat).length
/-- A tree of a height at a page, with entries; each node but the root has m entries at least. -/
def Tr (m : Nat) (M : SM) : Nat → Int → List (Int × Int) → Prop
  | 0, _, _ => False
  | h + 1, p, l => M.pool.heldB p = true ∧ ∃ n, M.nodeAt p.toNat = some n ∧ n.ok ∧ NTr (fun q a => Tr m M h q a ∧ m ≤ M.entN q) h n l
/-- A tree that stands below another one. -/
def Sub (m : Nat) (M : SM) (h : Nat) (q : Int) (a : List (Int × Int)) : Prop := Tr m M h q a ∧ m ≤ M.entN q
theorem entN_of {M : SM} {p : Int} {n : NM} (h : M.nodeAt p.toNat = some n) : M.entN p = n.ents.length := by unfold SM.entN SM.ents; rw [h]
theorem NTr.mono {T U : Int → List (Int × Int) → Prop} {h : Nat} {n : NM} {l : List (Int × Int)} (k : NTr T h n l) (f : ∀ e ∈ n.ents, ∀ a, T e.2 a → U e.2 a) : NTr U h n l := by
  rcases k with k | ⟨h0, hk, k⟩
  · exact .inl k
  · exact .inr ⟨h0, hk, Kids.mono f k⟩
theorem Tr.held {m : Nat} {M : SM} {h : Nat} {p : Int} {l : List (Int × Int)} (t : Tr m M h p l) : M.pool.heldB p = true := by
  cases h with
  | zero => exact t.elim
  | succ h => exact t.1
theorem Tr.grown {m : Nat} {M M' : SM} (g : Grown M M') : ∀ {h : Nat} {p : Int} {l : List (Int × Int)}, Tr m M h p l → Tr m M' h p l
  | 0, _, _, t => t
  | h + 1, p, l, ⟨hp, n, hn, hok, k⟩ => by
    have hl := (heldB_int hp).2
    refine ⟨g.held hp, n, by rw [g.node _ hl]; exact hn, hok, k.mono fun e _ a ha => ⟨Tr.grown g ha.1, ?_⟩⟩
    have h2 := (heldB_int ha.1.held).2
    unfold SM.entN SM.ents
    rw [g.node _ h2]
    exact ha.2
theorem Sub.grown {m : Nat} {M M' : SM} (g : Grown M M') {h : Nat} {p : Int} {l : List (Int × Int)} (t : Sub m M h p l) : Sub m M' h p l := by
  refine ⟨Tr.grown g t.1, ?_⟩
  have h2 := (heldB_int t.1.held).2
  unfold SM.entN SM.ents
  rw [g.node _ h2]
  exact t.2
/-- What is held still is the tree that it was. -/
theorem Tr.stays {m : Nat} {M M' : SM} {ext : Nat → Nat} (E : Exact M' ext) (hlog : M'.log = M.log) : ∀ {h : Nat} {p : Int} {l : List (Int × Int)}, Tr m M h p l → M'.pool.heldB p = true → Tr m M' h p l
  | 0, _, _, t, _ => t
  | h + 1, p, l, ⟨hp, n, hn, hok, k⟩, hp' => by
    have hn' : M'.nodeAt p.toNat = some n := by unfold SM.nodeAt; rw [hlog]; exact hn
    have hl := (heldB_int hp').2
    have hents : M'.ents p.toNat = n.ents := by unfold SM.ents; rw [hn']
    refine ⟨hp', n, hn', hok, k.mono fun e he a ha => ?_⟩
    have hc : M'.pool.heldB e.2 = true := by
      have h0 := (heldB_int ha.1.held).1
      have h1 := E.kids _ hl e (by rw [hents]; exact he)
      obtain ⟨c, hc⟩ := Int.eq_ofNat_of_zero_le h0
      rw [hc] at h1 ⊢
      rw [heldB_nat]
      exact h1
    refine ⟨Tr.stays E hlog ha.1 hc, ?_⟩
    have : M'.entN e.2 = M.entN e.2 := by unfold SM.entN SM.ents SM.nodeAt; rw [hlog]
    rw [this]; exact ha.2
theorem Sub.stays {m : Nat} {M M' : SM} {ext : Nat → Nat} (E : Exact M' ext) (hlog : M'.log = M.log) {h : Nat} {p : Int} {l : List (Int × Int)} (t : Sub m M h p l) (hp : M'.pool.heldB p = true) : Sub m M' h p l := by
  refine ⟨Tr.stays E hlog t.1 hp, ?_⟩
  have : M'.entN p = M.entN p := by unfold SM.entN SM.ents SM.nodeAt; rw [hlog]
  rw [this]; exact t.2

/-- Is a list of entries one that a node can have? -/
theorem rises_right {l : List (Int × Int)} (hr : RisesK l) (h1 : 1 ≤ l.length) (h6 : l.length ≤ 6) (hb : ∀ x ∈ l, 0 ≤ x.1 ∧ x.1 < 64 ∧ 0 ≤ x.2 ∧ x.2 < 240) : risesB l = true := by
  rw [risesB_all]
  · simp [h1, h6]
  · intro i hi
    have hm := hb l[i] (List.getElem_mem hi)
    simp only [entB, List.getElem?_eq_getElem hi, Bool.and_eq_true, decide_eq_true_eq, Bool.or_eq_true, beq_iff_eq]
    refine ⟨⟨⟨⟨hm.1, hm.2.1⟩, hm.2.2.1⟩, hm.2.2.2⟩, ?_⟩
    by_cases h0 : i = 0
    · exact .inl h0
    · refine .inr ?_
      have : (l.getD (i - 1) (0, 0)) = l[i - 1] := by simp [List.getD, List.getElem?_eq_getElem (show i - 1 < l.length by omega)]
      rw [this]
      exact List.pairwise_iff_getElem.1 hr (i - 1) i (by omega) hi (by omega)
theorem zeros_ok : zeros16.length = 16 ∧ (∀ b ∈ zeros16, b < 256) ∧ zeros16.all (· == 0) = true := by
  unfold zeros16
  refine ⟨by decide, ?_, by decide⟩
  intro b hb
  rw [List.eq_of_mem_replicate hb]; decide
theorem node_ok {k : Int} (hk : k = 2 ∨ k = 3) {l : List (Int × Int)} (hr : RisesK l) (h1 : 1 ≤ l.length) (h6 : l.length ≤ 6) (hb : ∀ x ∈ l, 0 ≤ x.1 ∧ x.1 < 64 ∧ 0 ≤ x.2 ∧ x.2 < 240) : NM.ok ⟨k, zeros16, l⟩ := by
  refine ⟨?_, zeros_ok.1, zeros_ok.2.1⟩
  unfold NM.rightB
  rw [if_neg (by dsimp only; omega), if_pos hk]
  simp only [zeros_ok.2.2, rises_right hr h1 h6 hb, Bool.and_self]
end Go.Proofs.Ythmjcbmeiabbgaa
/-
  Trees in a store, plain: nodes are made of entries; splitting.
-/
namespace Go.Proofs.Ythmjcbmeiabbgaa
open Go.RowKit

/-- Entries that a tree can have: keys that rise, pages that are there. -/
def Good (M : SM) (l : List (Int × Int)) : Prop := RisesK l ∧ ∀ y ∈ l, 0 ≤ y.1 ∧ y.1 < 64 ∧ M.pool.heldB y.2 = true
theorem Good.grown {M M' : SM} (g : Grown M M') {l : List (Int × Int)} (h : Good M l) : Good M' l := ⟨h.1, fun y hy => ⟨(h.2 y hy).1, (h.2 y hy).2.1, g.held (h.2 y hy).2.2⟩⟩
theorem Good.left {M : SM} {a b : List (Int × Int)} (h : Good M (a ++ b)) : Good M a := ⟨(List.pairwise_append.1 h.1).1, fun y hy => h.2 y (List.mem_append_left _ hy)⟩
theorem Good.right {M : SM} {a b : List (Int × Int)} (h : Good M (a ++ b)) : Good M b := ⟨(List.pairwise_append.1 h.1).2.1, fun y hy => h.2 y (List.mem_append_right _ hy)⟩
theorem Good.put {M : SM} {l : List (Int × Int)} (h : Good M l) {x : Int × Int} (h0 : 0 ≤ x.1) (h1 : x.1 < 64) (hx : M.pool.heldB x.2 = true) : Good M (putL l x) :=
  ⟨putL_rises h.1 x, fun y hy => by rcases putL_mem hy with rfl | hy; exact ⟨h0, h1, hx⟩; exact h.2 y hy⟩
theorem Kids.good {M : SM} {T : Int → List (Int × Int) → Prop} (hT : ∀ q a, T q a → M.pool.heldB q = true) : ∀ {es l : List (Int × Int)}, Kids T es l → Good M l → Good M es ∧ (∀ e ∈ es, ∃ y ∈ l, y.1 = e.1)
  | [], _, _, _ => ⟨⟨List.Pairwise.nil, fun y hy => by cases hy⟩, fun y hy => by cases hy⟩
  | e :: es, l, ⟨a, b, x, h1, h2, h3, h4, h5⟩, g => by
    subst h1
    obtain ⟨⟨r1, r2⟩, r3⟩ := Kids.good hT h5 g.right
    have hxa : x ∈ a := List.mem_of_mem_head? (by rw [h3]; rfl)
    refine ⟨⟨List.pairwise_cons.2 ⟨fun f hf => ?_, r1⟩, fun f hf => ?_⟩, fun f hf => ?_⟩
    · obtain ⟨y, hy, he⟩ := r3 f hf
      rw [← he, ← h4]
      exact (List.pairwise_append.1 g.1).2.2 x hxa y hy
    · rcases List.mem_cons.1 hf with rfl | hf
      · have := g.2 x (List.mem_append_left _ hxa)
        rw [h4] at this
        exact ⟨this.1, this.2.1, hT _ _ h2⟩
      · exact r2 f hf
    · rcases List.mem_cons.1 hf with rfl | hf
      · exact ⟨x, List.mem_append_left _ hxa, h4⟩
      · obtain ⟨y, hy, he⟩ := r3 f hf
        exact ⟨y, List.mem_append_right _ hy, he⟩
theorem NTr.good {m : Nat} {M : SM} {h : Nat} {n : NM} {l : List (Int × Int)} (k : NTr (Sub m M h) h n l) (g : Good M l) : Good M n.ents := by
  rcases k with ⟨_, _, k⟩ | ⟨_, _, k⟩
  · rw [k]; exact g
  · exact (k.good (fun q a hq => hq.1.held) g).1
theorem NTr.kind {T : Int → List (Int × Int) → Prop} {h : Nat} {n : NM} {l : List (Int × Int)} (k : NTr T h n l) : n.kind = 2 ∨ n.kind = 3 := by
  rcases k with ⟨_, k, _⟩ | ⟨_, k, _⟩
  · exact .inl k
  · exact .inr k
theorem NTr.head {T : Int → List (Int × Int) → Prop} {h : Nat} {n : NM} {l : List (Int × Int)} (k : NTr T h n l) (h1 : 1 ≤ n.ents.length) : ∃ x, l.head? = some x ∧ x.1 = (n.ents.getD 0 (0, 0)).1 := by
  rcases k with ⟨_, _, k⟩ | ⟨_, _, k⟩
  · rw [k] at h1 ⊢
    cases l with
    | nil => simp at h1
    | cons y l => exact ⟨y, rfl, rfl⟩
  · cases he : n.ents with
    | nil => rw [he] at h1; simp at h1
    | cons e es => rw [he] at k; exact k.head
theorem NTr.parts {T : Int → List (Int × Int) → Prop} {h : Nat} {n : NM} {l : List (Int × Int)} (k : NTr T h n l) {e1 e2 : List (Int × Int)} (he : n.ents = e1 ++ e2) :
    ∃ l1 l2, l = l1 ++ l2 ∧ NTr T h ⟨n.kind, zeros16, e1⟩ l1 ∧ NTr T h ⟨n.kind, zeros16, e2⟩ l2 := by
  rcases k with ⟨h0, hk, k⟩ | ⟨h0, hk, k⟩
  · exact ⟨e1, e2, by rw [← k, he], .inl ⟨h0, hk, rfl⟩, .inl ⟨h0, hk, rfl⟩⟩
  · rw [he] at k
    obtain ⟨a, b, h1, h2, h3⟩ := k.cut
    exact ⟨a, b, h1, .inr ⟨h0, hk, h2⟩, .inr ⟨h0, hk, h3⟩⟩
theorem held_bound {M : SM} {ext : Nat → Nat} (h : Exact M ext) {i : Int} (hi : M.pool.heldB i = true) : 0 ≤ i ∧ i < 240 := by
  have := heldB_pos hi
  have := h.size
  omega

/-- A node made of entries is a tree, a level higher. -/
theorem make_tr {m : Nat} {M : SM} {ext : Nat → Nat} (E : Exact M ext) {h : Nat} {k : Int} {es l : List (Int × Int)} (t : NTr (Sub m M h) h ⟨k, zeros16, es⟩ l) (g : Good M l) (h1 : 1 ≤ es.length) (h6 : es.length ≤ 6) :
    (∃ i : Nat, (M.make ⟨k, zeros16, es⟩).2 = ((i : Int), 0) ∧ Made M ⟨k, zeros16, es⟩ ext (M.make ⟨k, zeros16, es⟩).1 i ∧ Tr m (M.make ⟨k, zeros16, es⟩).1 (h + 1) i l ∧ (M.make ⟨k, zeros16, es⟩).1.entN i = es.length) ∨
      ((M.make ⟨k, zeros16, es⟩).2 = (-1, 71) ∧ M.pool.freeCount = 0) ∨ ((M.make ⟨k, zeros16, es⟩).2 = (-1, 72) ∧ ∃ c, 255 < M.sum + es.length + ext c) := by
  have ge := t.good g
  have hok : NM.ok ⟨k, zeros16, es⟩ := node_ok t.kind ge.1 h1 h6 (fun x hx => by
    have := ge.2 x hx
    have := held_bound E this.2.2
    exact ⟨(ge.2 x hx).1, (ge.2 x hx).2.1, this.1, this.2⟩)
  rcases make_ok E hok (fun x hx => (ge.2 x hx).2.2) with ⟨i, e, H⟩ | e | e
  · refine .inl ⟨i, e, H, ⟨?_, _, by rw [Int.toNat_natCast]; exact H.node, hok, t.mono fun e _ a ha => Sub.grown H.grown ha⟩, ?_⟩
    · rw [heldB_nat]; exact H.live
    · rw [entN_of (by rw [Int.toNat_natCast]; exact H.node)]
  · exact .inr (.inl e)
  · exact .inr (.inr e)

/-- What splitting a node's entries leaves. -/
structure SplitOk (m : Nat) (M : SM) (ext : Nat → Nat) (h : Nat) (n : NM) (l : List (Int × Int)) (M' : SM) (out : List (Int × Int)) : Prop where
  exact : Exact M' ext
  grown : Grown M M'
  len : out.length = if 6 < n.ents.length then 2 else 1
  free : M.pool.freeCount = M'.pool.freeCount + out.length
  sum : M'.sum = M.sum + n.ents.length
  loose : ∀ E, Loose M (n.ents ++ E) → Loose M' (E ++ out)
  one : n.ents.length ≤ 6 → ∃ (k : Int) (i : Nat), out = [(k, (i : Int))] ∧ Tr m M' (h + 1) i l ∧ M'.pool.cnt i = 0 ∧ M.live i = false
  kids : m ≤ 3 → m ≤ n.ents.length → Kids (Sub m M' (h + 1)) out l

theorem Made.zero {M M' : SM} {n : NM} {ext : Nat → Nat} {i : Nat} (h : Made M n ext M' i) (E : Exact M ext) (hk : ∀ x ∈ n.ents, M.pool.heldB x.2 = true) : M'.pool.cnt i = 0 := by
  have hl := live_lt h.live
  rw [show M'.pool.size = M.pool.size from h.grown.size] at hl
  rw [h.cnt]
  have h1 : M.pool.cnt i = 0 := by
    have := h.new
    simp only [SM.live, PM.live, hl, decide_true, Bool.true_and, Bool.or_eq_false_iff, decide_eq_false_iff_not] at this
    omega
  have h2 : occ n.ents i = 0 := by
    rcases Nat.eq_zero_or_pos (occ n.ents i) with h0 | h0
    · exact h0
    · obtain ⟨x, hx, he⟩ := List.countP_pos_iff.1 h0
      have := (heldB_int (hk x hx)).2
      rw [show x.2 = (i : Int) by simpa using he, Int.toNat_natCast] at this
      have h3 := h.new
      rw [show M.live i = M.pool.live i from rfl, this] at h3
      cases h3
  omega

theorem makes_nil (k : Int) (M : SM) (out : List (Int × Int)) : SM.makes k [] M out = (M, out, 0) := rfl
theorem split_ok {m : Nat} {M : SM} {ext : Nat → Nat} (E : Exact M ext) {h : Nat} {n : NM} {l : List (Int × Int)} (t : NTr (Sub m M h) h n l) (g : Good M l) (h1 : 1 ≤ n.ents.length) (h12 : n.ents.length ≤ 12) :
    ((M.split n).2.2 = 0 ∧ SplitOk m M ext h n l (M.split n).1 (M.split n).2.1) ∨ ((M.split n).2.2 = 71 ∧ M.pool.freeCount < if 6 < n.ents.length then 2 else 1) ∨ ((M.split n).2.2 = 72 ∧ ∃ c, 255 < M.sum + n.ents.length + ext c) := by
  unfold SM.split
  rw [if_neg (by omega)]
  by_cases h6 : n.ents.length ≤ 6
  · have hp : partsOf n.ents = [n.ents] := by unfold partsOf; rw [if_neg (by omega), if_neg (by omega)]
    rw [hp, makes_cons]
    have t' : NTr (Sub m M h) h ⟨n.kind, zeros16, n.ents⟩ l := by
      rcases t with ⟨a, b, c⟩ | ⟨a, b, c⟩
      · exact .inl ⟨a, b, c⟩
      · exact .inr ⟨a, b, c⟩
    have ge := t'.good g
    rcases make_tr E t' g h1 h6 with ⟨i, e, H, hT, hN⟩ | ⟨e, hf⟩ | ⟨e, hc⟩
    · obtain ⟨M', hM'⟩ : ∃ M', (M.make ⟨n.kind, zeros16, n.ents⟩).1 = M' := ⟨_, rfl⟩
      rw [hM'] at H hT hN ⊢
      rw [e]
      dsimp only
      rw [if_pos rfl, makes_nil]
      refine .inl ⟨rfl, ⟨H.exact, H.grown, ?_, H.free, H.sum, fun F hF => H.loose (fun x hx => (ge.2 x hx).2.2) hF _, fun _ => ⟨_, i, rfl, hT, H.zero E (fun x hx => (ge.2 x hx).2.2), H.new⟩, fun _ hm => ?_⟩⟩
      · rw [if_neg (by omega)]; rfl
      · obtain ⟨x, hx, hxe⟩ := t'.head h1
        exact ⟨l, [], x, (List.append_nil l).symm, ⟨hT, by rw [hN]; exact hm⟩, hx, hxe, rfl⟩
    · rw [e]
      dsimp only
      rw [if_neg (by decide)]
      exact .inr (.inl ⟨rfl, by split <;> omega⟩)
    · rw [e]
      dsimp only
      rw [if_neg (by decide)]
      exact .inr (.inr ⟨rfl, hc⟩)
  · have hp : partsOf n.ents = [n.ents.take (n.ents.length / 2), n.ents.drop (n.ents.length / 2)] := by unfold partsOf; rw [if_neg (by omega), if_pos (by omega)]
    rw [hp, makes_cons]
    obtain ⟨e1, he1⟩ : ∃ e1, n.ents.take (n.ents.length / 2) = e1 := ⟨_, rfl⟩
    obtain ⟨e2, he2⟩ : ∃ e2, n.ents.drop (n.ents.length / 2) = e2 := ⟨_, rfl⟩
    have hee : n.ents = e1 ++ e2 := by rw [← he1, ← he2, List.take_append_drop]
    have hl1 : e1.length = n.ents.length / 2 := by rw [← he1, List.length_take]; omega
    have hl2 : e2.length = n.ents.length - n.ents.length / 2 := by rw [← he2, List.length_drop]
    rw [he1, he2]
    obtain ⟨l1, l2, hll, t1, t2⟩ := t.parts hee
    have g1 : Good M l1 := Good.left (b := l2) (by rw [← hll]; exact g)
    have g2 : Good M l2 := Good.right (a := l1) (by rw [← hll]; exact g)
    have ge1 := t1.good g1
    rcases make_tr E t1 g1 (by omega) (by omega) with ⟨i, e, H, hT, hN⟩ | ⟨e, hf⟩ | ⟨e, hc⟩
    · obtain ⟨M', hM'⟩ : ∃ M', (M.make ⟨n.kind, zeros16, e1⟩).1 = M' := ⟨_, rfl⟩
      rw [hM'] at H hT hN ⊢
      rw [e]
      dsimp only
      rw [if_pos rfl, makes_cons]
      have t2' : NTr (Sub m M' h) h ⟨n.kind, zeros16, e2⟩ l2 := t2.mono fun e _ a ha => Sub.grown H.grown ha
      have g2' := g2.grown H.grown
      have ge2 := t2'.good g2'
      rcases make_tr H.exact t2' g2' (by omega) (by omega) with ⟨j, f, K, kT, kN⟩ | ⟨f, hf⟩ | ⟨f, hc⟩
      · obtain ⟨M2, hM2⟩ : ∃ M2, (M'.make ⟨n.kind, zeros16, e2⟩).1 = M2 := ⟨_, rfl⟩
        rw [hM2] at K kT kN ⊢
        rw [f]
        dsimp only
        rw [if_pos rfl, makes_nil]
        have hH : Sub m M' (h + 1) i l1 → Sub m M2 (h + 1) i l1 := Sub.grown K.grown
        refine .inl ⟨rfl, ⟨K.exact, H.grown.trans K.grown, ?_, ?_, ?_, fun F hF => ?_, fun hh => absurd hh h6, fun hm hm2 => ?_⟩⟩
        · rw [if_pos (by omega)]; rfl
        · have a1 := H.free
          have a2 := K.free
          show _ = M2.pool.freeCount + 2
          omega
        · have a1 := H.sum
          have a2 := K.sum
          dsimp only at a1 a2
          show M2.sum = _
          omega
        · have a1 := H.loose (fun x hx => (ge1.2 x hx).2.2) (E := e2 ++ F) (by rw [← List.append_assoc, ← hee]; exact hF) ((e1.getD 0 (0, 0)).1)
          rw [List.append_assoc] at a1
          have a2 := K.loose (fun x hx => (ge2.2 x hx).2.2) a1 ((e2.getD 0 (0, 0)).1)
          rw [List.append_assoc] at a2
          exact a2
        · obtain ⟨x, hx, hxe⟩ := t1.head (by show 1 ≤ e1.length; omega)
          obtain ⟨y, hy, hye⟩ := t2.head (by show 1 ≤ e2.length; omega)
          exact ⟨l1, l2, x, hll, hH ⟨hT, by rw [hN]; omega⟩, hx, hxe, l2, [], y, (List.append_nil _).symm, ⟨kT, by rw [kN]; omega⟩, hy, hye, rfl⟩
      · rw [f]
        dsimp only
        rw [if_neg (by decide)]
        have a1 := H.free
        exact .inr (.inl ⟨rfl, by split <;> omega⟩)
      · rw [f]
        dsimp only
        rw [if_neg (by decide)]
        have a1 := H.sum
        dsimp only at a1
        obtain ⟨c, hc⟩ := hc
        exact .inr (.inr ⟨rfl, c, by omega⟩)
    · rw [e]
      dsimp only
      rw [if_neg (by decide)]
      exact .inr (.inl ⟨rfl, by split <;> omega⟩)
    · rw [e]
      dsimp only
      rw [if_neg (by decide)]
      obtain ⟨c, hc⟩ := hc
      exact .inr (.inr ⟨rfl, c, by omega⟩)
end Go.Proofs.Ythmjcbmeiabbgaa
/-
  Trees in a store, plain: putting a page for a key.
-/
namespace Go.Proofs.Ythmjcbmeiabbgaa
open Go.RowKit

/-- The step of put. -/
theorem putF_succ (f : Nat) (M : SM) (root : Int) (x : Int × Int) : SM.putF (f + 1) M root x =
    (if (M.tnode root (8 - f)).2 = 0 then
      (if (M.tnode root (8 - f)).1.kind = 3 then
        (if (SM.putF f M ((M.tnode root (8 - f)).1.ents.getD (atI (M.tnode root (8 - f)).1.ents x.1).toNat (0, 0)).2 x).2.2 = 0 then
          (if ((SM.putF f M ((M.tnode root (8 - f)).1.ents.getD (atI (M.tnode root (8 - f)).1.ents x.1).toNat (0, 0)).2 x).1.split (SM.putF f M ((M.tnode root (8 - f)).1.ents.getD (atI (M.tnode root (8 - f)).1.ents x.1).toNat (0, 0)).2 x).2.1).2.2 = 0 then
            (((SM.putF f M ((M.tnode root (8 - f)).1.ents.getD (atI (M.tnode root (8 - f)).1.ents x.1).toNat (0, 0)).2 x).1.split (SM.putF f M ((M.tnode root (8 - f)).1.ents.getD (atI (M.tnode root (8 - f)).1.ents x.1).toNat (0, 0)).2 x).2.1).1,
              { (M.tnode root (8 - f)).1 with ents := (M.tnode root (8 - f)).1.ents.take (atI (M.tnode root (8 - f)).1.ents x.1).toNat ++ ((SM.putF f M ((M.tnode root (8 - f)).1.ents.getD (atI (M.tnode root (8 - f)).1.ents x.1).toNat (0, 0)).2 x).1.split (SM.putF f M ((M.tnode root (8 - f)).1.ents.getD (atI (M.tnode root (8 - f)).1.ents x.1).toNat (0, 0)).2 x).2.1).2.1 ++ (M.tnode root (8 - f)).1.ents.drop ((atI (M.tnode root (8 - f)).1.ents x.1).toNat + 1) }, 0)
          else (((SM.putF f M ((M.tnode root (8 - f)).1.ents.getD (atI (M.tnode root (8 - f)).1.ents x.1).toNat (0, 0)).2 x).1.split (SM.putF f M ((M.tnode root (8 - f)).1.ents.getD (atI (M.tnode root (8 - f)).1.ents x.1).toNat (0, 0)).2 x).2.1).1, (M.tnode root (8 - f)).1,
            ((SM.putF f M ((M.tnode root (8 - f)).1.ents.getD (atI (M.tnode root (8 - f)).1.ents x.1).toNat (0, 0)).2 x).1.split (SM.putF f M ((M.tnode root (8 - f)).1.ents.getD (atI (M.tnode root (8 - f)).1.ents x.1).toNat (0, 0)).2 x).2.1).2.2))
        else ((SM.putF f M ((M.tnode root (8 - f)).1.ents.getD (atI (M.tnode root (8 - f)).1.ents x.1).toNat (0, 0)).2 x).1, (M.tnode root (8 - f)).1, (SM.putF f M ((M.tnode root (8 - f)).1.ents.getD (atI (M.tnode root (8 - f)).1.ents x.1).toNat (0, 0)).2 x).2.2))
      else if 0 ≤ atI (M.tnode root (8 - f)).1.ents x.1 ∧ ((M.tnode root (8 - f)).1.ents.getD (atI (M.tnode root (8 - f)).1.ents x.1).toNat (0, 0)).1 = x.1 then
        (M, { (M.tnode root (8 - f)).1 with ents := (M.tnode root (8 - f)).1.ents.take (atI (M.tnode root (8 - f)).1.ents x.1).toNat ++ [x] ++ (M.tnode root (8 - f)).1.ents.drop ((atI (M.tnode root (8 - f)).1.ents x.1).toNat + 1) }, 0)
      else (M, { (M.tnode root (8 - f)).1 with ents := (M.tnode root (8 - f)).1.ents.take (atI (M.tnode root (8 - f)).1.ents x.1 + 1).toNat ++ [x] ++ (M.tnode root (8 - f)).1.ents.drop (atI (M.tnode root (8 - f)).1.ents x.1 + 1).toNat }, 0))
    else (M, (M.tnode root (8 - f)).1, (M.tnode root (8 - f)).2)) := rfl

theorem tnode_tr {m : Nat} {M : SM} {h : Nat} {p : Int} {l : List (Int × Int)} (t : Tr m M (h + 1) p l) {d : Nat} (hd : d < 8) :
    ∃ n, M.tnode p d = (n, 0) ∧ M.nodeAt p.toNat = some n ∧ n.ok ∧ NTr (Sub m M h) h n l := by
  obtain ⟨hp, n, hn, hok, k⟩ := t
  refine ⟨n, ?_, hn, hok, k⟩
  have hk := NTr.kind k
  unfold SM.tnode SM.get
  rw [if_pos hp, hn]
  dsimp only
  rw [if_pos rfl, if_neg (by omega)]

/-- The leaf's own way. -/
theorem leaf_put {l : List (Int × Int)} (h : RisesK l) (x : Int × Int) :
    (if 0 ≤ atI l x.1 ∧ (l.getD (atI l x.1).toNat (0, 0)).1 = x.1 then l.take (atI l x.1).toNat ++ [x] ++ l.drop ((atI l x.1).toNat + 1) else l.take (atI l x.1 + 1).toNat ++ [x] ++ l.drop (atI l x.1 + 1).toNat) = putL l x := by
  have hb := (atI_bound (l := l) x.1).1
  obtain ⟨c, hc⟩ := Int.eq_ofNat_of_zero_le (show 0 ≤ atI l x.1 + 1 by omega)
  obtain ⟨hcl, hc1, hc2⟩ := atI_cut h x.1 hc.symm
  by_cases hy : 0 ≤ atI l x.1 ∧ (l.getD (atI l x.1).toNat (0, 0)).1 = x.1
  · rw [if_pos hy]
    have e1 : (atI l x.1).toNat = c - 1 := by omega
    rw [e1] at hy ⊢
    have hlt : c - 1 < l.length := by omega
    have hg : l.getD (c - 1) (0, 0) = l[c - 1] := by simp [List.getD, List.getElem?_eq_getElem hlt]
    rw [hg] at hy
    have hd : l.drop (c - 1) = l[c - 1] :: l.drop c := by rw [List.drop_eq_getElem_cons hlt, show c - 1 + 1 = c by omega]
    refine putL_take (by omega) (fun y hyy => ?_) (fun y hyy => hc2 y (by rw [show c = c - 1 + 1 by omega]; exact hyy)) (fun y hyy => ?_)
    · have := rises_cut h (c - 1) y hyy l[c - 1] (by rw [hd]; exact List.mem_cons_self ..)
      omega
    · rw [show c - 1 + 1 - (c - 1) = 1 by omega, hd] at hyy
      simp at hyy
      rw [hyy]; exact hy.2
  · rw [if_neg hy]
    have e1 : (atI l x.1 + 1).toNat = c := by omega
    rw [e1]
    refine putL_take (Nat.le_refl _) (fun y hyy => ?_) hc2 (fun y hyy => by rw [Nat.sub_self] at hyy; cases hyy)
    have h1 := hc1 y hyy
    refine (Int.lt_or_eq_of_le h1).resolve_right fun he => hy ?_
    obtain ⟨j, hj, rfl⟩ := List.getElem_of_mem hyy
    rw [List.length_take] at hj
    rw [List.getElem_take] at he
    have hc0 : 0 < c := by omega
    refine ⟨by omega, ?_⟩
    rw [show (atI l x.1).toNat = c - 1 by omega]
    have hlt : c - 1 < l.length := by omega
    have hg : l.getD (c - 1) (0, 0) = l[c - 1] := by simp [List.getD, List.getElem?_eq_getElem hlt]
    rw [hg]
    have h2 : l[c - 1].1 ≤ x.1 := hc1 _ (by
      rw [List.mem_take_iff_getElem]
      exact ⟨c - 1, by omega, rfl⟩)
    by_cases hjc : j = c - 1
    · subst hjc; exact he
    · have := List.pairwise_iff_getElem.1 h j (c - 1) (by omega) hlt (by omega)
      omega

structure PutOk (m : Nat) (M : SM) (ext : Nat → Nat) (h : Nat) (root : Int) (l : List (Int × Int)) (M' : SM) (n' : NM) : Prop where
  exact : Exact M' ext
  grown : Grown M M'
  tr : NTr (Sub m M' h) h n' l
  lo : M.entN root ≤ n'.ents.length
  hi : n'.ents.length ≤ M.entN root + 1
  entN : 1 ≤ M.entN root ∧ M.entN root ≤ 6
  free : M.pool.freeCount ≤ M'.pool.freeCount + 2 * h
  sum : M'.sum + n'.ents.length ≤ M.sum + 7 * (h + 1)
  loose : ∀ E, Loose M E → Loose M' (n'.ents ++ E)

theorem putF_ok {m : Nat} (hm : m ≤ 3) {ext : Nat → Nat} {x : Int × Int} (x0 : 0 ≤ x.1) (x1 : x.1 < 64) : ∀ (h d : Nat) (M : SM) (l : List (Int × Int)) (root : Int), h + 1 + d ≤ 8 → Exact M ext → Tr m M (h + 1) root l → Good M l → M.pool.heldB x.2 = true →
    ((SM.putF (9 - d) M root x).2.2 = 0 ∧ PutOk m M ext h root (putL l x) (SM.putF (9 - d) M root x).1 (SM.putF (9 - d) M root x).2.1) ∨
      ((SM.putF (9 - d) M root x).2.2 = 71 ∧ M.pool.freeCount < 2 * h) ∨ ((SM.putF (9 - d) M root x).2.2 = 72 ∧ ∃ c, 255 < M.sum + 7 * h + ext c) := by
  intro h
  induction h with
  | zero =>
    intro d M l root hd E t g hx
    obtain ⟨n, hn, hna, hok, k⟩ := tnode_tr t (d := d) (by omega)
    have hin := innerOk_of hok (by have := k.kind; omega)
    rw [show 9 - d = (8 - d) + 1 by omega, putF_succ, show 8 - (8 - d) = d by omega, hn]
    dsimp only
    rcases k with ⟨_, hk, hl⟩ | ⟨h0, _⟩
    · rw [if_pos rfl, if_neg (by omega)]
      have hp := leaf_put (l := n.ents) (by rw [hl]; exact g.1) x
      have hlen : ∀ c i j, c = n.ents.take i ++ [x] ++ n.ents.drop j → i ≤ n.ents.length → (j = i ∨ j = i + 1) → n.ents.length ≤ c.length ∧ c.length ≤ n.ents.length + 1 := by
        intro c i j hc hi hj
        rw [hc]
        simp only [List.length_append, List.length_take, List.length_drop, List.length_singleton]
        omega
      have hb := atI_bound (l := n.ents) x.1
      have hen := entN_of hna
      have fin : ∀ c : List (Int × Int), c = putL n.ents x → n.ents.length ≤ c.length ∧ c.length ≤ n.ents.length + 1 → PutOk m M ext 0 root (putL l x) M { n with ents := c } := by
        intro c hc hlc
        refine ⟨E, Grown.refl _, .inl ⟨rfl, hk, by rw [← hl]; exact hc⟩, by rw [hen]; exact hlc.1, by rw [hen]; exact hlc.2, by rw [hen]; exact ⟨hin.pos, hin.le⟩, by omega, ?_, fun F hF q hq hc => ?_⟩
        · have := hin.le
          show M.sum + c.length ≤ _
          omega
        · obtain ⟨y, hy, he⟩ := hF q hq hc
          exact ⟨y, List.mem_append_right _ hy, he⟩
      by_cases hy : 0 ≤ atI n.ents x.1 ∧ (n.ents.getD (atI n.ents x.1).toNat (0, 0)).1 = x.1
      · rw [if_pos hy] at hp ⊢
        exact .inl ⟨rfl, fin _ hp (hlen _ _ _ rfl (by omega) (.inr rfl))⟩
      · rw [if_neg hy] at hp ⊢
        exact .inl ⟨rfl, fin _ hp (hlen _ _ _ rfl (by omega) (.inl rfl))⟩
    · omega
  | succ h ih =>
    intro d M l root hd E t g hx
    obtain ⟨n, hn, hna, hok, k⟩ := tnode_tr t (d := d) (by omega)
    have hin := innerOk_of hok (by have := k.kind; omega)
    have ge := k.good g
    rw [show 9 - d = (8 - d) + 1 by omega, putF_succ, show 8 - (8 - d) = d by omega, hn]
    dsimp only
    rcases k with ⟨h0, _⟩ | ⟨_, hk, hK⟩
    · omega
    · rw [if_pos rfl, if_pos hk]
      have hb := atI_bound (l := n.ents) x.1
      obtain ⟨c, hc⟩ := Int.eq_ofNat_of_zero_le (show 0 ≤ atI n.ents x.1 + 1 by omega)
      obtain ⟨hcl, hc1, hc2⟩ := atI_cut ge.1 x.1 hc.symm
      obtain ⟨i, hi⟩ : ∃ i, (atI n.ents x.1).toNat = i := ⟨_, rfl⟩
      have hic : i = c - 1 := by omega
      have hil : i < n.ents.length := by have := hin.pos; omega
      rw [hi]
      have hg : n.ents.getD i (0, 0) = n.ents[i] := by simp [List.getD, List.getElem?_eq_getElem hil]
      have hes : n.ents = n.ents.take i ++ n.ents[i] :: n.ents.drop (i + 1) := by rw [← List.drop_eq_getElem_cons hil, List.take_append_drop]
      rw [hg]
      obtain ⟨e, he⟩ : ∃ e, n.ents[i] = e := ⟨_, rfl⟩
      obtain ⟨es1, he1⟩ : ∃ es1, n.ents.take i = es1 := ⟨_, rfl⟩
      obtain ⟨es2, he2⟩ : ∃ es2, n.ents.drop (i + 1) = es2 := ⟨_, rfl⟩
      have hl1 : es1.length = i := by rw [← he1, List.length_take]; omega
      have hl2 : es2.length = n.ents.length - (i + 1) := by rw [← he2, List.length_drop]
      have hee1 : 0 < c → e.1 ≤ x.1 := fun h0 => hc1 e (by rw [← he, List.mem_take_iff_getElem]; exact ⟨i, by omega, rfl⟩)
      have hee2 : ∀ f ∈ es2, x.1 < f.1 := fun f hf => hc2 f (by
        rw [← he2] at hf
        by_cases h0 : c = 0
        · rw [h0, List.drop_zero]; exact List.mem_of_mem_drop hf
        · rw [show c = i + 1 by omega]; exact hf)
      rw [he, he1, he2] at hes ⊢
      rw [hes] at hK
      obtain ⟨a, b, hab, hK1, s, tt, y, hst, hT, hy, hye, hK2⟩ := hK.cut
      subst hab hst
      have ga : ∀ z ∈ a, z.1 < x.1 := fun z hz => by
        by_cases h0 : c = 0
        · have : es1 = [] := List.eq_nil_of_length_eq_zero (by omega)
          rw [this] at hK1
          rw [show a = [] from hK1] at hz
          cases hz
        · have h1 := hee1 (by omega)
          have hys : y ∈ s ++ tt := List.mem_append_left _ (List.mem_of_mem_head? (by rw [hy]; rfl))
          have := (List.pairwise_append.1 g.1).2.2 z hz y hys
          omega
      have gt : ∀ z ∈ tt, x.1 < z.1 := fun z hz => by
        cases es2 with
        | nil => rw [show tt = [] from hK2] at hz; cases hz
        | cons f es2 =>
          obtain ⟨u, hu, hue⟩ := hK2.head
          have h1 := hee2 f (List.mem_cons_self ..)
          have h2 := head_le g.right.right.1 hu z hz
          omega
      have hput : putL (a ++ (s ++ tt)) x = a ++ putL s x ++ tt := by rw [← List.append_assoc]; exact putL_mid ga gt
      rw [hput]
      have gs : Good M s := g.right.left
      have hr := ih (d + 1) M s e.2 (by omega) E hT.1 gs hx
      rw [show 9 - (d + 1) = 8 - d by omega] at hr
      obtain ⟨R, hR⟩ : ∃ R, SM.putF (8 - d) M e.2 x = R := ⟨_, rfl⟩
      rw [hR] at hr ⊢
      obtain ⟨M1, n1, er⟩ := R
      dsimp only at hr ⊢
      rcases hr with ⟨rfl, P⟩ | ⟨rfl, hf⟩ | ⟨rfl, hf⟩
      · rw [if_pos rfl]
        have hen := P.entN
        have hlo := P.lo
        have hhi := P.hi
        have gs' : Good M1 (putL s x) := (gs.put x0 x1 hx).grown P.grown
        have hsp := split_ok P.exact P.tr gs' (by omega) (by omega)
        obtain ⟨R, hR2⟩ : ∃ R, M1.split n1 = R := ⟨_, rfl⟩
        rw [hR2] at hsp ⊢
        obtain ⟨M2, out, er⟩ := R
        dsimp only at hsp ⊢
        have a1 := P.free
        have a2 := P.sum
        rcases hsp with ⟨rfl, S⟩ | ⟨rfl, hf⟩ | ⟨rfl, hf⟩
        · rw [if_pos rfl]
          have G := P.grown.trans S.grown
          have b1 := S.free
          have b2 := S.sum
          have b3 := S.len
          have hen2 := entN_of hna
          have hn6 := hin.le
          have hn1 := hin.pos
          have hlen : (es1 ++ out ++ es2).length + 1 = n.ents.length + out.length := by simp only [List.length_append]; omega
          have ho : 1 ≤ out.length ∧ out.length ≤ 2 := by split at b3 <;> omega
          refine .inl ⟨rfl, ⟨S.exact, G, .inr ⟨by omega, hk, ?_⟩, ?_, ?_, ?_, ?_, ?_, fun F hF => ?_⟩⟩
          · refine Kids.append (Kids.append (hK1.mono fun f _ z hz => Sub.grown G hz) (S.kids hm ?_)) (hK2.mono fun f _ z hz => Sub.grown G hz)
            have := hT.2
            omega
          · rw [hen2]; show _ ≤ (es1 ++ out ++ es2).length; omega
          · rw [hen2]; show (es1 ++ out ++ es2).length ≤ _; omega
          · rw [hen2]; exact ⟨hn1, hn6⟩
          · show _ ≤ M2.pool.freeCount + _; omega
          · show M2.sum + (es1 ++ out ++ es2).length ≤ _; omega
          · have := S.loose _ (P.loose _ hF)
            intro q hq hc
            obtain ⟨z, hz, hze⟩ := this q hq hc
            refine ⟨z, ?_, hze⟩
            show z ∈ es1 ++ out ++ es2 ++ F
            rcases List.mem_append.1 hz with hz | hz
            · exact List.mem_append_right _ hz
            · exact List.mem_append_left _ (List.mem_append_left _ (List.mem_append_right _ hz))
        · rw [if_neg (by decide)]
          exact .inr (.inl ⟨rfl, by split at hf <;> omega⟩)
        · rw [if_neg (by decide)]
          obtain ⟨c, hf⟩ := hf
          exact .inr (.inr ⟨rfl, c, by omega⟩)
      · rw [if_neg (by decide)]
        exact .inr (.inl ⟨rfl, by omega⟩)
      · rw [if_neg (by decide)]
        obtain ⟨c, hf⟩ := hf
        exact .inr (.inr ⟨rfl, c, by omega⟩)

/-- What a tree's new root leaves. -/
structure TopOk (m : Nat) (M : SM) (ext : Nat → Nat) (h : Nat) (l : List (Int × Int)) (a b : Nat) (M' : SM) (p : Int) : Prop where
  exact : Exact M' ext
  grown : Grown M M'
  tr : ∃ h', Tr m M' h' p l ∧ h' ≤ h + 2
  free : M.pool.freeCount ≤ M'.pool.freeCount + a
  sum : M'.sum ≤ M.sum + b
  zero : M'.pool.cnt p.toNat = 0
  loose : ∀ F, F = [] → Loose M' (F ++ [((0 : Int), p)])

theorem top_ok {m : Nat} (hm : m ≤ 3) {M : SM} {ext : Nat → Nat} (E : Exact M ext) {h : Nat} {n : NM} {l : List (Int × Int)} (t : NTr (Sub m M h) h n l) (g : Good M l) (h1 : 1 ≤ n.ents.length) (h12 : n.ents.length ≤ 12) (hl : Loose M n.ents) :
    ((M.top n).2.2 = 0 ∧ TopOk m M ext h l 3 (n.ents.length + 2) (M.top n).1 (M.top n).2.1) ∨ ((M.top n).2.1 = -1 ∧ (M.top n).2.2 = 71 ∧ M.pool.freeCount < 3) ∨ ((M.top n).2.1 = -1 ∧ (M.top n).2.2 = 72 ∧ ∃ c, 255 < M.sum + n.ents.length + 2 + ext c) := by
  unfold SM.top
  dsimp only
  have hsp := split_ok E t g h1 h12
  obtain ⟨R, hR⟩ : ∃ R, M.split n = R := ⟨_, rfl⟩
  rw [hR] at hsp ⊢
  obtain ⟨M1, out, er⟩ := R
  dsimp only at hsp ⊢
  rcases hsp with ⟨rfl, S⟩ | ⟨rfl, hf⟩ | ⟨rfl, hf⟩
  · rw [if_pos rfl]
    have b1 := S.free
    have b2 := S.sum
    have b3 := S.len
    by_cases h6 : n.ents.length ≤ 6
    · rw [if_neg (by omega)] at b3
      rw [if_neg (by omega), if_neg (by omega)]
      obtain ⟨k, i, ho, hT, hz, _⟩ := S.one h6
      rw [ho]
      refine .inl ⟨rfl, ⟨S.exact, S.grown, ⟨h + 1, hT, by omega⟩, by show _ ≤ M1.pool.freeCount + _; omega, by show M1.sum ≤ _; omega, ?_, fun F hF => ?_⟩⟩
      · show M1.pool.cnt (Int.toNat (i : Int)) = 0
        rw [Int.toNat_natCast]; exact hz
      · subst hF
        have := S.loose [] (by rw [List.append_nil]; exact hl)
        rw [ho] at this
        intro q hq hc
        obtain ⟨y, hy, he⟩ := this q hq hc
        simp at hy
        exact ⟨_, List.mem_singleton.2 rfl, by rw [hy] at he; exact he⟩
    · rw [if_pos (by omega)] at b3
      rw [if_pos (by omega)]
      have hK := S.kids hm (by omega)
      have g1 := g.grown S.grown
      have t2 : NTr (Sub m M1 (h + 1)) (h + 1) ⟨3, List.replicate 16 0, out⟩ l := .inr ⟨by omega, rfl, hK⟩
      have hsp2 := split_ok S.exact t2 g1 (by show 1 ≤ out.length; omega) (by show out.length ≤ 12; omega)
      obtain ⟨R, hR⟩ : ∃ R, M1.split ⟨3, List.replicate 16 0, out⟩ = R := ⟨_, rfl⟩
      rw [hR] at hsp2 ⊢
      obtain ⟨M2, out2, er⟩ := R
      dsimp only at hsp2 ⊢
      rcases hsp2 with ⟨rfl, S2⟩ | ⟨rfl, hf⟩ | ⟨rfl, hf⟩
      · rw [if_pos rfl]
        have c1 := S2.free
        have c2 := S2.sum
        have c3 := S2.len
        dsimp only at c2 c3
        rw [if_neg (by omega)] at c3
        rw [if_neg (by omega)]
        obtain ⟨k, i, ho, hT, hz, _⟩ := S2.one (by show out.length ≤ 6; omega)
        rw [ho]
        refine .inl ⟨rfl, ⟨S2.exact, S.grown.trans S2.grown, ⟨h + 2, hT, Nat.le_refl _⟩, by show _ ≤ M2.pool.freeCount + _; omega, by show M2.sum ≤ _; omega, ?_, fun F hF => ?_⟩⟩
        · show M2.pool.cnt (Int.toNat (i : Int)) = 0
          rw [Int.toNat_natCast]; exact hz
        · subst hF
          have h3 := S.loose [] (by rw [List.append_nil]; exact hl)
          have := S2.loose [] (by rw [List.append_nil]; exact h3)
          rw [ho] at this
          intro q hq hc
          obtain ⟨y, hy, he⟩ := this q hq hc
          simp at hy
          exact ⟨_, List.mem_singleton.2 rfl, by rw [hy] at he; exact he⟩
      · rw [if_neg (by decide)]
        exact .inr (.inl ⟨rfl, rfl, by rw [if_neg (by show ¬ 6 < out.length; omega)] at hf; omega⟩)
      · rw [if_neg (by decide)]
        obtain ⟨c, hc⟩ := hf
        exact .inr (.inr ⟨rfl, rfl, c, by omega⟩)
  · rw [if_neg (by decide)]
    exact .inr (.inl ⟨rfl, rfl, by split at hf <;> omega⟩)
  · rw [if_neg (by decide)]
    obtain ⟨c, hc⟩ := hf
    exact .inr (.inr ⟨rfl, rfl, c, by omega⟩)

/-- A tree, or none. -/
def Rooted (m : Nat) (M : SM) (root : Int) (l : List (Int × Int)) (h : Nat) : Prop := (root = -1 ∧ l = [] ∧ h = 0) ∨ Tr m M h root l
theorem put_ok {m : Nat} (hm : m ≤ 3) {M : SM} {ext : Nat → Nat} (E : Exact M ext) {h : Nat} {root key page : Int} {l : List (Int × Int)} (t : Rooted m M root l h) (h8 : h ≤ 8) (g : Good M l) (hl : Loose M []) (hx : M.pool.heldB page = true) (k0 : 0 ≤ key) (k1 : key < 64) :
    ((M.put root key page).2.2 = 0 ∧ TopOk m M ext (h - 1) (putL l (key, page)) (2 * h + 3) (7 * h + 3) (M.put root key page).1 (M.put root key page).2.1) ∨
      ((M.put root key page).2.1 = -1 ∧ (M.put root key page).2.2 = 71 ∧ M.pool.freeCount < 2 * h + 3) ∨ ((M.put root key page).2.1 = -1 ∧ (M.put root key page).2.2 = 72 ∧ ∃ c, 255 < M.sum + 7 * h + 3 + ext c) := by
  unfold SM.put
  rw [if_neg (by omega)]
  rcases t with ⟨rfl, rfl, rfl⟩ | t
  · rw [if_pos rfl]
    have t0 : NTr (Sub m M 0) 0 ⟨2, List.replicate 16 0, [(key, page)]⟩ (putL [] (key, page)) := .inl ⟨rfl, rfl, rfl⟩
    rcases top_ok hm E t0 (g.put k0 k1 hx) (by show 1 ≤ 1; omega) (by show 1 ≤ 12; omega) (fun q hq hc => by obtain ⟨y, hy, _⟩ := hl q hq hc; cases hy) with ⟨e, T⟩ | ⟨e1, e, hf⟩ | ⟨e1, e, c, hc⟩
    · have b1 := T.free
      have b2 := T.sum
      dsimp only [List.length_cons, List.length_nil] at b2
      exact .inl ⟨e, ⟨T.exact, T.grown, T.tr, by omega, by omega, T.zero, T.loose⟩⟩
    · exact .inr (.inl ⟨e1, e, by omega⟩)
    · exact .inr (.inr ⟨e1, e, c, by dsimp only [List.length_cons, List.length_nil] at hc; omega⟩)
  · have hne : root ≠ -1 := fun e => by have := (heldB_int t.held).1; omega
    rw [if_neg hne]
    cases h with
    | zero => exact t.elim
    | succ h =>
      have hp := putF_ok hm (x := (key, page)) k0 k1 h 0 M l root (by omega) E t g hx
      rw [Nat.sub_zero] at hp
      obtain ⟨R, hR⟩ : ∃ R, SM.putF 9 M root (key, page) = R := ⟨_, rfl⟩
      rw [hR] at hp ⊢
      obtain ⟨M1, n1, er⟩ := R
      dsimp only at hp ⊢
      rcases hp with ⟨rfl, P⟩ | ⟨rfl, hf⟩ | ⟨rfl, hf⟩
      · rw [if_pos rfl]
        have a1 := P.free
        have a2 := P.sum
        have hen := P.entN
        have hlo := P.lo
        have hhi := P.hi
        have hL := P.loose [] hl
        rw [List.append_nil] at hL
        rcases top_ok hm P.exact P.tr ((g.put k0 k1 hx).grown P.grown) (by omega) (by omega) hL with ⟨e, T⟩ | ⟨e1, e, hf⟩ | ⟨e1, e, c, hc⟩
        · have b1 := T.free
          have b2 := T.sum
          exact .inl ⟨e, ⟨T.exact, P.grown.trans T.grown, T.tr, by omega, by omega, T.zero, T.loose⟩⟩
        · exact .inr (.inl ⟨e1, e, by omega⟩)
        · exact .inr (.inr ⟨e1, e, c, by omega⟩)
      · rw [if_neg (by decide)]
        exact .inr (.inl ⟨rfl, rfl, by omega⟩)
      · rw [if_neg (by decide)]
        obtain ⟨c, hc⟩ := hf
        exact .inr (.inr ⟨rfl, rfl, c, by omega⟩)
end Go.Proofs.Ythmjcbmeiabbgaa
/-
  Trees (package tree): put, whole.
-/
namespace Go.Proofs.Ythmjcbmeiabbgaa
open Go.RowKit
set_option maxRecDepth 100000

theorem putF_log : ∀ (f : Nat) (M : SM) (r : Int) (x : Int × Int), (SM.putF f M r x).1.log.length ≤ M.log.length + 2 * f
  | 0, _, _, _ => by simp [SM.putF]
  | f + 1, M, r, x => by
    rw [putF_succ]
    split
    · split
      · have h1 := putF_log f M ((M.tnode r (8 - f)).1.ents.getD (atI (M.tnode r (8 - f)).1.ents x.1).toNat (0, 0)).2 x
        have h2 := (split_bound (SM.putF f M ((M.tnode r (8 - f)).1.ents.getD (atI (M.tnode r (8 - f)).1.ents x.1).toNat (0, 0)).2 x).1 (SM.putF f M ((M.tnode r (8 - f)).1.ents.getD (atI (M.tnode r (8 - f)).1.ents x.1).toNat (0, 0)).2 x).2.1).1
        split
        · split <;> (dsimp only; omega)
        · dsimp only; omega
      · split <;> (dsimp only; omega)
    · dsimp only; omega
theorem putF_inner {f : Nat} {M : SM} {root : Int} {x : Int × Int} {n : NM} (hR : M.tnode root (8 - f) = (n, 0)) (hk : n.kind = 3) :
    SM.putF (f + 1) M root x = putRes n (atI n.ents x.1).toNat (SM.putF f M (n.ents.getD (atI n.ents x.1).toNat (0, 0)).2 x).1 (SM.putF f M (n.ents.getD (atI n.ents x.1).toNat (0, 0)).2 x).2.1 (SM.putF f M (n.ents.getD (atI n.ents x.1).toNat (0, 0)).2 x).2.2 := by
  rw [putF_succ, hR]
  dsimp only
  rw [if_pos rfl, if_pos hk]
  rfl

theorem treePutF : ∀ (f : Nat), 0 < f → f ≤ 9 → ∀ {w : World} {A : SA} {M : SM} (root : Int) (x : Int × Int), StoreAt w A M → M.log.length + 2 * f + 2 < 100000000 →
    Calls Try.prog 53 #[.agg #[.pointer (some ⟨A.sb, 0, none⟩)], .int .i64 root, .int .i64 ((9 - f : Nat) : Int), .agg #[.int .i64 x.1, .int .i64 x.2]] w fun e w' =>
      ∃ A' v, e = .returned (.tuple #[.agg (nodeCells (SM.putF f M root x).2.1 v).toArray, .int .i64 (SM.putF f M root x).2.2]) ∧ StoreTo A A' (SM.putF f M root x).1 w w' ∧ OutAt w' A' w.heap.size v (SM.putF f M root x).2.1.ents
  | 0, h0, _, _, _, _, _, _, _, _ => by omega
  | f + 1, _, hf, w, A, M, root, x, h, hfew => by
    have ht := fun h0 => tnode_ok h (i := root) (d := 8 - f) h0
    have still : ∀ {n : NM} {er : Nat} {w' : World} {v : Value}, w'.ownsRow w.heap.size 35 2 v n.ents.length (entCells n.ents) → Kept (fun _ => False) w w' → SM.putF (f + 1) M root x = (M, n, er) →
        StoreTo A A (SM.putF (f + 1) M root x).1 w w' ∧ OutAt w' A w.heap.size v (SM.putF (f + 1) M root x).2.1.ents := fun ho hk e => by
      rw [e]
      exact ⟨(StoreTo.refl h).fresh hk, ho, fun b hb e => by have := (ho.lt b hb).1; have := h.lt (.inl e); omega⟩
    have e9 : 9 - (f + 1) = 8 - f := by omega
    rw [e9]
    obtain ⟨R, hR⟩ : ∃ R, M.tnode root (8 - f) = R := ⟨_, rfl⟩
    rw [hR] at ht
    obtain ⟨n, er⟩ := R
    dsimp only at ht
    by_cases h0 : er = 0
    · subst h0
      obtain ⟨hin, hd⟩ := ht rfl
      rcases hin.kind with hk | hk
      · have hs : SM.putF (f + 1) M root x = if 0 ≤ atI n.ents x.1 ∧ (n.ents.getD (atI n.ents x.1).toNat (0, 0)).1 = x.1 then
            (M, { n with ents := n.ents.take (atI n.ents x.1).toNat ++ [x] ++ n.ents.drop ((atI n.ents x.1).toNat + 1) }, 0)
          else (M, { n with ents := n.ents.take (atI n.ents x.1 + 1).toNat ++ [x] ++ n.ents.drop (atI n.ents x.1 + 1).toNat }, 0) := by
          rw [putF_succ, hR]
          dsimp only
          rw [if_pos rfl, if_neg (by omega)]
        have hb := (atI_bound (l := n.ents) x.1).1
        by_cases hneg : atI n.ents x.1 = -1
        · have e : SM.putF (f + 1) M root x = (M, { n with ents := n.ents.take 0 ++ [x] ++ n.ents.drop 0 }, 0) := by
            rw [hs, if_neg (by omega), hneg]
            rfl
          refine (putLess h root (8 - f) (by omega) x hR hin hk hneg rfl).mono ?_
          rintro e' w' ⟨v, he, ho, hk⟩
          have hst := still (n := { n with ents := n.ents.take 0 ++ [x] ++ n.ents.drop 0 }) ho hk e
          exact ⟨A, v, by rw [he, e]; rfl, hst.1, hst.2⟩
        · obtain ⟨i, hi⟩ := Int.eq_ofNat_of_zero_le (show 0 ≤ atI n.ents x.1 by omega)
          rw [hi] at hs
          simp only [Int.toNat_natCast] at hs
          by_cases hy : (n.ents.getD i (0, 0)).1 = x.1
          · have e : SM.putF (f + 1) M root x = (M, { n with ents := n.ents.take i ++ [x] ++ n.ents.drop (i + 1) }, 0) := by
              rw [hs, if_pos ⟨by omega, hy⟩]
            refine (putSame h root (8 - f) (by omega) x hR hin hk hi hy rfl).mono ?_
            rintro e' w' ⟨v, he, ho, hk⟩
            have hst := still (n := { n with ents := n.ents.take i ++ [x] ++ n.ents.drop (i + 1) }) ho hk e
            exact ⟨A, v, by rw [he, e]; rfl, hst.1, hst.2⟩
          · have e : SM.putF (f + 1) M root x = (M, { n with ents := n.ents.take (i + 1) ++ [x] ++ n.ents.drop (i + 1) }, 0) := by
              rw [hs, if_neg (fun h => hy h.2), show ((i : Int) + 1).toNat = i + 1 by omega]
            refine (putMore h root (8 - f) (by omega) x hR hin hk hi hy rfl).mono ?_
            rintro e' w' ⟨v, he, ho, hk⟩
            have hst := still (n := { n with ents := n.ents.take (i + 1) ++ [x] ++ n.ents.drop (i + 1) }) ho hk e
            exact ⟨A, v, by rw [he, e]; rfl, hst.1, hst.2⟩
      · rw [putF_inner hR hk]
        have hlog := putF_log f M (n.ents.getD (atI n.ents x.1).toNat (0, 0)).2 x
        refine putInner h root (8 - f) (by omega) x hR hin hk rfl (by omega) fun W hW => ?_
        have := treePutF f (by omega) (by omega) (n.ents.getD (atI n.ents x.1).toNat (0, 0)).2 x hW (by omega)
        rw [show 9 - f = 8 - f + 1 by omega, Int.natCast_add, Int.natCast_one] at this
        exact this
    · have e : SM.putF (f + 1) M root x = (M, n, er) := by
        rw [putF_succ, hR]
        dsimp only
        rw [if_neg h0]
      refine (putErr h root (8 - f) (by omega) x hR h0).mono ?_
      rintro e' w' ⟨v, he, ho, hk⟩
      have hst := still (n := n) (er := er) ho hk e
      exact ⟨A, v, by rw [he, e], hst.1, hst.2⟩
end Go.Proofs.Ythmjcbmeiabbgaa
/-
  Trees (package tree): Put.
-/
namespace Go.Proofs.Ythmjcbmeiabbgaa
open Go.RowKit
set_option maxRecDepth 100000

theorem entry_zero : (Try.prog.info? 35).map (·.zero) = some (some (.agg #[.int .i64 0, .int .i64 0])) := by kernel_rfl
theorem entry_size : (Try.prog.info? 35).map (·.size) = some 2 := by kernel_rfl

set_option maxHeartbeats 4000000 in
theorem treePut {w : World} {A : SA} {M : SM} (h : StoreAt w A M) (root key page : Int) (hfew : M.log.length + 30 < 100000000) :
    Calls Try.prog 20 #[.agg #[.pointer (some ⟨A.sb, 0, none⟩)], .int .i64 root, .int .i64 key, .int .i64 page] w fun e w' => ∃ A', e = .returned (.tuple #[.int .i64 (M.put root key page).2.1, .int .i64 (M.put root key page).2.2]) ∧ StoreTo A A' (M.put root key page).1 w w' := by
  obtain ⟨w1, hw1⟩ : ∃ w1, w.alloc (.cells #[.pointer (some ⟨A.sb, 0, none⟩)] 26) = w1 := ⟨_, rfl⟩
  have k1 : Kept (fun _ => False) w w1 := by rw [← hw1]; exact (Kept.refl _ _).alloc _
  have s1 : w1.heap.size = w.heap.size + 1 := by rw [← hw1]; simp
  have t1 : w1.heap[w.heap.size]? = some (.cells #[.pointer (some ⟨A.sb, 0, none⟩)] 26 (0, 0)) := by rw [← hw1]; exact heap_alloc_new _ _
  have k1' := Lib.hid k1
  have hw1' := Lib.hid hw1
  have h' := Lib.hid h
  by_cases hk0 : key < 0
  · have e : Hid (M.put root key page = (M, -1, 101)) := Lib.hid (by unfold SM.put; rw [if_pos (.inl hk0)])
    clear hw1 k1 s1 t1 h
    go_enter Try.func20, Try.ntmps20
    go_wp2_with (first | (refine wpList_box_named 26 rfl rfl _ rfl hw1'.out ?_))
    go_ret2
    first | exact ⟨A, by rw [e.out]; rfl, by rw [e.out]; exact (StoreTo.refl h'.out).fresh k1'.out⟩ | exact ⟨by rw [e.out]; rfl, A, by rw [e.out]; exact (StoreTo.refl h'.out).fresh k1'.out⟩
  by_cases hk1 : 64 ≤ key
  · have e : Hid (M.put root key page = (M, -1, 101)) := Lib.hid (by unfold SM.put; rw [if_pos (.inr hk1)])
    clear hw1 k1 s1 t1 h
    go_enter Try.func20, Try.ntmps20
    go_wp2_with (first | (refine wpList_box_named 26 rfl rfl _ rfl hw1'.out ?_))
    go_ret2
    first | exact ⟨A, by rw [e.out]; rfl, by rw [e.out]; exact (StoreTo.refl h'.out).fresh k1'.out⟩ | exact ⟨by rw [e.out]; rfl, A, by rw [e.out]; exact (StoreTo.refl h'.out).fresh k1'.out⟩
  have hput : Hid (M.put root key page = if root = -1 then M.top ⟨2, zeros16, [(key, page)]⟩ else (if (SM.putF 9 M root (key, page)).2.2 = 0 then (SM.putF 9 M root (key, page)).1.top (SM.putF 9 M root (key, page)).2.1 else ((SM.putF 9 M root (key, page)).1, -1, (SM.putF 9 M root (key, page)).2.2))) := Lib.hid (by unfold SM.put; rw [if_neg (by omega)]; rfl)
  obtain ⟨xb, hxb⟩ : ∃ xb, w1.heap.size = xb := ⟨_, rfl⟩
  obtain ⟨w2, hw2⟩ : ∃ w2, (w1.alloc (.cells #[.int .i64 0, .int .i64 0] 35)).setRow xb #[.int .i64 key, .int .i64 page] = w2 := ⟨_, rfl⟩
  have k2 : Kept (fun _ => False) w1 w2 := by rw [← hw2]; exact ((Kept.refl _ _).alloc _).setRowNew (by omega) _
  have x2 : w2.heap[xb]? = some (.cells #[.int .i64 key, .int .i64 page] 35 (0, 0)) := by rw [← hw2, ← hxb]; exact setRow_heap _ _ _ _ _ _ (heap_alloc_new _ _)
  have s2 : w2.heap.size = w.heap.size + 2 := by rw [← hw2]; simp [World.setRow, s1]
  have t2 := k2.get t1 id
  have hloadt : Hid (∀ j v, [Value.pointer (some ⟨A.sb, 0, none⟩)][j]? = some v → w2.cell? ⟨w.heap.size, 0 + j, none⟩ = some v) := Lib.hid (fun j v hj => by rw [Nat.zero_add, cell_of_heap t2]; simpa using hj)
  have hloadx : Hid (∀ j v, [Value.int .i64 key, .int .i64 page][j]? = some v → w2.cell? ⟨xb, 0 + j, none⟩ = some v) := Lib.hid (fun j v hj => by rw [Nat.zero_add, cell_of_heap x2]; simpa using hj)
  have st2 := Lib.hid (StoreTo.refl h |>.fresh (k1.trans k2))
  have hw2' := Lib.hid hw2
  have hxb' := Lib.hid hxb
  have s2' := Lib.hid s2
  by_cases hr : root = -1
  · subst hr
    have e : Hid (M.put (-1) key page = M.top ⟨2, zeros16, [(key, page)]⟩) := Lib.hid (by rw [hput.out, if_pos rfl])
    obtain ⟨w3, hw3⟩ : ∃ w3, w2.alloc (.cells #[.int .i64 key, .int .i64 page] 35) = w3 := ⟨_, rfl⟩
    have k3 : Kept (fun _ => False) w2 w3 := by rw [← hw3]; exact (Kept.refl _ _).alloc _
    have g3 : w3.heap[w2.heap.size]? = some (.cells #[.int .i64 key, .int .i64 page] 35 (0, 0)) := by rw [← hw3]; exact heap_alloc_new _ _
    have hs3 : w3.heap.size = w2.heap.size + 1 := by rw [← hw3]; simp
    have hv : EntsOff w3 A (.slice (some ⟨w2.heap.size, 0, none⟩) 1 1) [(key, page)] := ⟨SliceAt.block_new (ys := [.int .i64 key, .int .i64 page]) (m := 1) g3 rfl (by decide), fun b hb => by
      simp [Value.ownBlock] at hb
      subst hb
      exact ⟨by omega, fun e => by have := h.lt (.inl e); omega⟩⟩
    have hT := treeTop (n := ⟨2, zeros16, [(key, page)]⟩) (h.fresh ((k1.trans k2).trans k3)) hv (by omega)
    rw [← hw3] at hT
    have hT' := Lib.hid hT
    have k3' := Lib.hid (show Kept (fun _ => False) w (w2.alloc (.cells #[.int .i64 key, .int .i64 page] 35)) by rw [hw3]; exact (k1.trans k2).trans k3)
    clear hw1 k1 s1 t1 hw2 k2 x2 s2 t2 hxb h hw3 k3 g3 hs3 hv hT hput
    go_enter Try.func20, Try.ntmps20
    go_wp2_with (first | (refine wpList_box_named 26 rfl rfl _ rfl hw1'.out ?_) | (refine wpList_alloc_as 35 rfl rfl #[.int .i64 0, .int .i64 0] entry_zero ?_; rw [hxb'.out]) | (refine wpList_store_whole 35 rfl rfl rfl [.int .i64 key, .int .i64 page] rfl entry_size 35 #[.int .i64 0, .int .i64 0] (by rw [← hxb'.out]; exact heap_alloc_new _ _) rfl (by intro c hc; simp at hc; rcases hc with rfl | rfl <;> rfl) ?_; rw [hw2'.out]) | (refine wpList_load_agg 26 rfl rfl rfl _ Try.underlying26 rfl [.pointer (some ⟨A.sb, 0, none⟩)] (by kernel_rfl) hloadt.out ?_) | (refine wpList_load_agg 35 rfl rfl rfl _ Try.underlying35 rfl [.int .i64 key, .int .i64 page] (by kernel_rfl) hloadx.out ?_) | (refine wpList_exec rfl (exec_build 33 #[(0, .const (.int .i64 2)), (2, .tmp 26)] _ rfl (by simp [Act.eval]) (run_build_part _ _ [(key, page)] _ _ _)) ?_))
    refine hT'.out.mono ?_
    rintro e' w4 ⟨A4, rfl, hT4⟩
    have hT4' := Lib.hid hT4
    clear hT4
    go_wp2_with fail
    go_ret2
    exact ⟨A4, by rw [e.out]; rfl, by rw [e.out]; exact StoreTo.before k3'.out hT4'.out⟩
  · have hrb : (root == -1) = false := by simpa using hr
    have hP := treePutF 9 (by omega) (Nat.le_refl _) root (key, page) (h.fresh (k1.trans k2)) (by omega)
    have hlog := putF_log 9 M root (key, page)
    rw [if_neg hr] at hput
    obtain ⟨R, hR⟩ : ∃ R, SM.putF 9 M root (key, page) = R := ⟨_, rfl⟩
    rw [hR] at hP hlog hput
    obtain ⟨M1, n1, er⟩ := R
    dsimp only at hP hlog hput
    have hP' := Lib.hid hP
    obtain ⟨Z, hZ⟩ : ∃ Z, nodeCells NM.zero (.slice none 0 0) = Z := ⟨_, rfl⟩
    have hZz : Hid ((Try.prog.info? 33).map (·.zero) = some (some (.agg Z.toArray))) := Lib.hid (by rw [← hZ]; exact node_zero)
    have hZl : Hid (Z.length = 18) := Lib.hid (by rw [← hZ]; exact nodeCells_len _ _)
    have t2' := Lib.hid t2
    have sf2 : Hid (Safe w2 A w.heap.size) := Lib.hid (Safe.new h (Nat.le_refl _) (by omega))
    have hsz2 : Hid (w.heap.size ≤ w2.heap.size) := Lib.hid (by omega)
    clear hw1 k1 s1 t1 hw2 k2 x2 s2 t2 hxb h hP hR hr hZ
    go_enter Try.func20, Try.ntmps20
    go_wp2_with (first | (refine wpList_box_named 26 rfl rfl _ rfl hw1'.out ?_) | (refine wpList_alloc_as 35 rfl rfl #[.int .i64 0, .int .i64 0] entry_zero ?_; rw [hxb'.out]) | (refine wpList_store_whole 35 rfl rfl rfl [.int .i64 key, .int .i64 page] rfl entry_size 35 #[.int .i64 0, .int .i64 0] (by rw [← hxb'.out]; exact heap_alloc_new _ _) rfl (by intro c hc; simp at hc; rcases hc with rfl | rfl <;> rfl) ?_; rw [hw2'.out]) | (refine wpList_load_agg 26 rfl rfl rfl _ Try.underlying26 rfl [.pointer (some ⟨A.sb, 0, none⟩)] (by kernel_rfl) hloadt.out ?_) | (refine wpList_load_agg 35 rfl rfl rfl _ Try.underlying35 rfl [.int .i64 key, .int .i64 page] (by kernel_rfl) hloadx.out ?_))
    refine hP'.out.mono ?_
    rintro e' w3 ⟨A3, v, rfl, hT3, hO3⟩
    obtain ⟨Av, cap, rfl, _⟩ := EntsAt.form hO3.ents.at_
    obtain ⟨F, hF⟩ : ∃ F, nodeCells n1 (.slice Av n1.ents.length cap) = F := ⟨_, rfl⟩
    have hFl : Hid (F.length = 18) := Lib.hid (by rw [← hF]; exact nodeCells_len _ _)
    have hF1 : Hid (∀ v ∈ F, v.oneCell' = true) := Lib.hid (by rw [← hF]; exact nodeCells_one _ _ _ _)
    obtain ⟨nb, hnb⟩ : ∃ nb, w3.heap.size = nb := ⟨_, rfl⟩
    obtain ⟨w5, hw5⟩ : ∃ w5, (w3.alloc (.cells Z.toArray 33)).setRow nb F.toArray = w5 := ⟨_, rfl⟩
    have k5 : Kept (fun _ => False) w3 w5 := by rw [← hw5]; exact ((Kept.refl _ _).alloc _).setRowNew (by omega) _
    have q5 := Lib.hid (show w5.heap[nb]? = some (.cells F.toArray 33 (0, 0)) by rw [← hw5, ← hnb]; exact setRow_heap _ _ _ _ _ _ (heap_alloc_new _ _))
    have t5 := Lib.hid (k5.get (hT3.get t2'.out sf2.out) id)
    have hT5 := Lib.hid ((st2.out.trans hT3).fresh k5)
    have hsb := hT3.sb
    have hTop := treeTop hT5.out.store (hO3.ents.fresh k5) (by omega)
    rw [hF, hsb] at hTop
    have hTop' := Lib.hid hTop
    have hnb' := Lib.hid hnb
    have hw5' := Lib.hid hw5
    rw [hF]
    clear hT3 hO3 hF hnb hw5 k5 hTop hsb
    by_cases h0 : er = 0
    · subst h0
      rw [if_pos rfl] at hput
      go_wp2_with (first | (refine wpList_alloc_as 33 rfl rfl Z.toArray hZz.out ?_; rw [hnb'.out]) | (refine wpList_store_whole 33 rfl rfl rfl F rfl (by rw [hFl.out]; exact node_size) 33 _ (by rw [← hnb'.out]; exact heap_alloc_new _ _) (by simp [hFl.out, hZl.out]) hF1.out ?_; rw [hw5'.out]) | (refine wpList_load_agg 26 rfl rfl rfl _ Try.underlying26 rfl [.pointer (some ⟨A.sb, 0, none⟩)] (by kernel_rfl) (fun j v hv => by rw [Nat.zero_add, cell_of_heap t5.out]; simpa using hv) ?_) | (refine wpList_load_agg 33 rfl rfl rfl _ Try.underlying33 rfl F (by rw [hFl.out]; exact node_size) (fun j v hv => by rw [cell_of_heap q5.out, Nat.zero_add]; simpa using hv) ?_))
      refine hTop'.out.mono ?_
      rintro e' w6 ⟨A6, rfl, hT6⟩
      have hT6' := Lib.hid hT6
      clear hT6
      go_wp2_with fail
      go_ret2
      exact ⟨A6, by rw [hput.out]; rfl, by rw [hput.out]; exact hT5.out.trans hT6'.out⟩
    · rw [if_neg h0] at hput
      have h0' : ((er : Int) == 0) = false := by simp; omega
      clear h0
      go_wp2_with (first | (refine wpList_alloc_as 33 rfl rfl Z.toArray hZz.out ?_; rw [hnb'.out]) | (refine wpList_store_whole 33 rfl rfl rfl F rfl (by rw [hFl.out]; exact node_size) 33 _ (by rw [← hnb'.out]; exact heap_alloc_new _ _) (by simp [hFl.out, hZl.out]) hF1.out ?_; rw [hw5'.out]))
      go_ret2
      exact ⟨A3, by rw [hput.out]; rfl, by rw [hput.out]; exact hT5.out⟩
end Go.Proofs.Ythmjcbmeiabbgaa
