/-
  Pruners (package prune): cut: nothing to cut; a leaf.
-/
import Derived.Test.YthmjcbmeiabbgaaK12
import Derived.Test.YthmjcbmeiabbgaaK15
import Derived.Test.YthmjcbmeiabbgaaK16
set_option linter.unusedVariables false
set_option linter.unusedSimpArgs false
namespace Go.Proofs.Ythmjcbmeiabbgaa
open Go.RowKit
set_option maxRecDepth 100000

theorem results_row_tmp2 {P : Program} {fn : Func} {p u u2 : Tmp} {ty : TypeId} (h : fn.results = #[.cell p ty, .tmp u, .tmp u2]) (tmps : Array Value) (w : World) (g : Nat) (t : TypeId) (cs : Array Value) (fr : Nat × Nat) (d : TypeDesc)
    (hp : tmps.getD p undef = .pointer (some ⟨g, 0, none⟩)) (hg : w.heap[g]? = some (.cells cs t fr))
    (hu : P.underlying ty = some d) (hd : (match d with | .struct _ | .array _ _ => true | _ => false) = true) (hi : (P.info? ty).map (·.size) = some cs.size) :
    (results fn tmps).run P w = .ok (.tuple #[.agg cs, tmps.getD u undef, tmps.getD u2 undef]) w := by
  have hp' : tmps[p]?.getD undef = .pointer (some ⟨g, 0, none⟩) := by simpa using hp
  simp [results, h, hp', asAddr, run_loadVar_row w g t ty cs fr d hg hu hd hi]
theorem deleteOwn {w : World} {base n cap i : Nat} {A : Option Addr} {l : List (Int × Int)} (hown : w.ownsRow base 35 2 (.slice A n cap) n (entCells l)) (hi : i < n) (hlen : n ≤ 1000) :
    Calls Try.prog 80 #[.slice A n cap, .int .i64 i, .int .i64 ((i : Int) + 1)] w fun e w' => e = .returned (.slice A (n - 1) cap) ∧ w'.ownsRow base 35 2 (.slice A (n - 1) cap) (n - 1) (entCells (l.take i ++ l.drop (i + 1))) ∧ Kept (fun b => (Value.slice A n cap).ownBlock = some b) w w' := by
  have hl : n = l.length := by have := hown.1; rw [entCells_len] at this; omega
  rcases hown.2 with ⟨h1, h2⟩ | ⟨gb, c, cur, h1, h2, h3, h4, h5, h6, h7⟩
  · omega
  · cases h1
    obtain ⟨cl, rfl⟩ : ∃ cl : List Value, cur = cl.toArray := ⟨cur.toList, by simp⟩
    rw [List.size_toArray] at h6
    rw [List.toList_toArray] at h7
    exact (deleteEnt h3 h6 (by rw [h7]) hl h2 h5 hi h4 hlen).mono fun e w' ⟨he, ho, hk⟩ => ⟨he, ho, hk.mono fun b hb => by rw [hb]; rfl⟩

set_option maxHeartbeats 4000000 in
theorem cutStop {w : World} {A : SA} {M : SM} (h : StoreAt w A M) (root : Int) (d : Nat) (hd : d ≤ 8) (key : Int) {n : NM} {er : Nat} (hR : M.tnode root d = (n, er)) (hkeys : RisesK n.ents) (hl6 : n.ents.length ≤ 6) (hst : er ≠ 0 ∨ atI n.ents key < 0) :
    Calls Try.prog 59 #[.agg #[.pointer (some ⟨A.sb, 0, none⟩)], .int .i64 root, .int .i64 d, .int .i64 key] w fun e w' => ∃ v, e = .returned (.tuple #[.agg (nodeCells n v).toArray, .bool false, .int .i64 er]) ∧ w'.ownsRow w.heap.size 35 2 v n.ents.length (entCells n.ents) ∧ Kept (fun _ => False) w w' := by
  obtain ⟨Z, hZ⟩ : ∃ Z, nodeCells NM.zero (.slice none 0 0) = Z := ⟨_, rfl⟩
  have hZz : Hid ((Try.prog.info? 33).map (·.zero) = some (some (.agg Z.toArray))) := Lib.hid (by rw [← hZ]; exact node_zero)
  have hZl : Hid (Z.length = 18) := Lib.hid (by rw [← hZ]; exact nodeCells_len _ _)
  obtain ⟨w1, hw1⟩ : ∃ w1, w.alloc (.cells #[.pointer (some ⟨A.sb, 0, none⟩)] 57) = w1 := ⟨_, rfl⟩
  obtain ⟨w2, hw2⟩ : ∃ w2, w1.alloc (.cells Z.toArray 33) = w2 := ⟨_, rfl⟩
  have k1 : Kept (fun _ => False) w w1 := by rw [← hw1]; exact (Kept.refl _ _).alloc _
  have k2 : Kept (fun _ => False) w1 w2 := by rw [← hw2]; exact (Kept.refl _ _).alloc _
  have s1 : w1.heap.size = w.heap.size + 1 := by rw [← hw1]; simp
  have s2 : w2.heap.size = w.heap.size + 2 := by rw [← hw2]; simp [s1]
  have t2 : w2.heap[w.heap.size]? = some (.cells #[.pointer (some ⟨A.sb, 0, none⟩)] 57 (0, 0)) := k2.get (by rw [← hw1]; exact heap_alloc_new _ _) id
  have r2 : w2.heap[w.heap.size + 1]? = some (.cells Z.toArray 33 (0, 0)) := by rw [← hw2, ← s1]; exact heap_alloc_new _ _
  have k02 := Lib.hid (k1.trans k2)
  have hnd := pruneNode (h.fresh k02.out) root d (by omega)
  rw [hR] at hnd
  dsimp only at hnd
  have hnd' := Lib.hid hnd
  have h' := Lib.hid h
  have hw1' := Lib.hid hw1
  have hw2' := Lib.hid hw2
  have s1' := Lib.hid s1
  have s2' := Lib.hid s2
  have hload2 : Hid (∀ j v, [Value.pointer (some ⟨A.sb, 0, none⟩)][j]? = some v → w2.cell? ⟨w.heap.size, 0 + j, none⟩ = some v) := Lib.hid (fun j v hj => by rw [Nat.zero_add, cell_of_heap t2]; simpa using hj)
  have t2' := Lib.hid t2
  have r2' := Lib.hid r2
  clear hw1 hw2 k1 k2 s1 s2 t2 r2 hnd h hZ hR
  go_enter Try.func59, Try.ntmps59
  go_wp2_with (first | (refine wpList_box_named 57 rfl rfl _ rfl hw1'.out ?_) | (refine wpList_alloc_as 33 rfl rfl Z.toArray hZz.out ?_; rw [hw2'.out, s1'.out]) | (refine wpList_load_agg 57 rfl rfl rfl _ Try.underlying57 rfl [.pointer (some ⟨A.sb, 0, none⟩)] (by kernel_rfl) hload2.out ?_))
  refine hnd'.out.mono ?_
  rintro e w3 ⟨v, rfl, hown, hk3⟩
  obtain ⟨Av, cap, rfl, hf1, hf2⟩ := EntsAt.form (show EntsAt w3 v n.ents from SliceAt.of_owns hown)
  obtain ⟨F, hF⟩ : ∃ F, nodeCells n (.slice Av n.ents.length cap) = F := ⟨_, rfl⟩
  have hFl : Hid (F.length = 18) := Lib.hid (by rw [← hF]; exact nodeCells_len _ _)
  have hF1 : Hid (∀ v ∈ F, v.oneCell' = true) := Lib.hid (by rw [← hF]; exact nodeCells_one _ _ _ _)
  obtain ⟨nb, hnb⟩ : ∃ nb, w3.heap.size = nb := ⟨_, rfl⟩
  obtain ⟨w4, hw4⟩ : ∃ w4, (w3.alloc (.cells Z.toArray 33)).setRow nb F.toArray = w4 := ⟨_, rfl⟩
  have k4 : Kept (fun _ => False) w3 w4 := by rw [← hw4]; exact ((Kept.refl _ _).alloc _).setRowNew (by omega) _
  have bx4 : NodeBox w4 nb n (.slice Av n.ents.length cap) := ⟨by rw [hF, ← hw4, ← hnb]; exact setRow_heap _ _ _ _ _ _ (heap_alloc_new _ _)⟩
  have hown4 := Lib.hid (ownsRow.keptOf hown k4 (fun _ _ => id))
  have k24 := Lib.hid (hk3.trans k4)
  have t4 := Lib.hid (k24.out.get t2'.out id)
  have r4 := Lib.hid (k24.out.get r2'.out id)
  have hs3 := hk3.size
  have hs4 : Hid (w4.heap.size = nb + 1) := Lib.hid (by rw [← hw4, ← hnb]; simp [World.setRow])
  have hb4 : Hid (∀ b, (Value.slice Av n.ents.length cap).ownBlock = some b → b < nb) := Lib.hid (fun b hb => by have := (hown.lt b hb).2; omega)
  rw [hF]
  have bx4' := Lib.hid bx4
  have hw4' := Lib.hid hw4
  have hnb' := Lib.hid hnb
  have hF' := Lib.hid hF
  have hat := at_any (show EntsAt w4 (.slice Av n.ents.length cap) n.ents from SliceAt.of_owns hown4.out) hkeys key (by omega)
  have hab := atI_bound (l := n.ents) key
  obtain ⟨a, ha⟩ : ∃ a, atI n.ents key = a := ⟨_, rfl⟩
  rw [ha] at hat hab
  have hat' := Lib.hid hat
  have c17 := bx4.c17
  unfold maxLen at hf2
  obtain ⟨hab1, hab2⟩ := hab
  clear hown hk3 k4 hw4 bx4 hnb hF hat hkeys
  go_wp2_with (first | (refine wpList_alloc_as 33 rfl rfl Z.toArray hZz.out ?_; rw [hnb'.out]) | (refine wpList_store_whole 33 rfl rfl rfl F rfl (by rw [hFl.out]; exact node_size) 33 _ (by rw [← hnb'.out]; exact heap_alloc_new _ _) (by simp [hFl.out, hZl.out]) hF1.out ?_; rw [hw4'.out]))
  refine hat'.out.mono ?_
  rintro e w5 ⟨rfl, hk5⟩
  have hk5' := Lib.hid hk5
  have k25 := Lib.hid (k24.out.trans hk5)
  have t5 := Lib.hid (hk5.get t4.out id)
  have r5 := Lib.hid (hk5.get r4.out id)
  have hown5 := Lib.hid (ownsRow.keptOf hown4.out hk5 (fun _ _ => id))
  have bx5 := Lib.hid (bx4'.out.kept hk5 id)
  have q5 := Lib.hid (show w5.heap[nb]? = some (.cells F.toArray 33 (0, 0)) by rw [← hF'.out]; exact bx5.out.heap)
  have hs5 := hk5.size
  have c17_5 := bx5.out.c17
  have c0_5 := bx5.out.c0
  clear hk5
  rw [ha] at hst
  by_cases h0 : er = 0
  · subst h0
    obtain rfl : a = -1 := by omega
    clear hst ha
    go_wp2_with (first | (refine wpList_load_agg 33 rfl rfl rfl _ Try.underlying33 rfl F (by rw [hFl.out]; exact node_size) (fun j v hv => by rw [cell_of_heap q5.out, Nat.zero_add]; simpa using hv) ?_) | (refine wpList_store_whole 33 rfl rfl rfl F rfl (by rw [hFl.out]; exact node_size) 33 _ r5.out (by simp [hFl.out, hZl.out]) hF1.out ?_))
    refine bodyPost_ret (results_row_tmp2 rfl _ _ (w.heap.size + 1) 33 F.toArray (0, 0) _ rfl (setRow_heap _ _ _ _ 33 (0, 0) r5.out) Try.underlying33 rfl (by simp only [List.size_toArray]; rw [hFl.out]; exact node_size)) rfl ?_
    have kS := (Kept.refl (fun i => i = w.heap.size + 1) w5).setRow rfl F.toArray
    exact ⟨.slice Av n.ents.length cap, by rw [hF'.out]; rfl, owns_weaken (ownsRow.keptOf hown5.out kS (fun g hg e => by have := (hown5.out.lt g hg).1; have := s2'.out; omega)) (by have := s2'.out; omega), (k02.out.trans k25.out).setRowNew (by omega) _⟩
  · have h0' : ((er : Int) == 0) = false := by rw [beq_eq_false_iff_ne]; omega
    have h0b : ((er : Int) != 0) = true := by rw [bne, h0']; rfl
    clear hst ha h0
    go_wp2_with (first | (refine wpList_load_agg 33 rfl rfl rfl _ Try.underlying33 rfl F (by rw [hFl.out]; exact node_size) (fun j v hv => by rw [cell_of_heap q5.out, Nat.zero_add]; simpa using hv) ?_) | (refine wpList_store_whole 33 rfl rfl rfl F rfl (by rw [hFl.out]; exact node_size) 33 _ r5.out (by simp [hFl.out, hZl.out]) hF1.out ?_))
    refine bodyPost_ret (results_row_tmp2 rfl _ _ (w.heap.size + 1) 33 F.toArray (0, 0) _ rfl (setRow_heap _ _ _ _ 33 (0, 0) r5.out) Try.underlying33 rfl (by simp only [List.size_toArray]; rw [hFl.out]; exact node_size)) rfl ?_
    have kS := (Kept.refl (fun i => i = w.heap.size + 1) w5).setRow rfl F.toArray
    exact ⟨.slice Av n.ents.length cap, by rw [hF'.out]; rfl, owns_weaken (ownsRow.keptOf hown5.out kS (fun g hg e => by have := (hown5.out.lt g hg).1; have := s2'.out; omega)) (by have := s2'.out; omega), (k02.out.trans k25.out).setRowNew (by omega) _⟩

set_option maxHeartbeats 4000000 in
theorem cutOther {w : World} {A : SA} {M : SM} (h : StoreAt w A M) (root : Int) (d : Nat) (hd : d ≤ 8) (key : Int) {n : NM} (hR : M.tnode root d = (n, 0)) (hin0 : InnerOk n) (hk2 : n.kind = 2) {i : Nat} (hi : atI n.ents key = i) (hother : ¬ (n.ents.getD i (0, 0)).1 = key) :
    Calls Try.prog 59 #[.agg #[.pointer (some ⟨A.sb, 0, none⟩)], .int .i64 root, .int .i64 d, .int .i64 key] w fun e w' => ∃ v, e = .returned (.tuple #[.agg (nodeCells n v).toArray, .bool false, .int .i64 0]) ∧ w'.ownsRow w.heap.size 35 2 v n.ents.length (entCells n.ents) ∧ Kept (fun _ => False) w w' := by
  have hkeys := hin0.keys
  have hl6 := hin0.le
  have hk2' := Lib.hid hk2
  clear hk2 hin0
  obtain ⟨Z, hZ⟩ : ∃ Z, nodeCells NM.zero (.slice none 0 0) = Z := ⟨_, rfl⟩
  have hZz : Hid ((Try.prog.info? 33).map (·.zero) = some (some (.agg Z.toArray))) := Lib.hid (by rw [← hZ]; exact node_zero)
  have hZl : Hid (Z.length = 18) := Lib.hid (by rw [← hZ]; exact nodeCells_len _ _)
  obtain ⟨w1, hw1⟩ : ∃ w1, w.alloc (.cells #[.pointer (some ⟨A.sb, 0, none⟩)] 57) = w1 := ⟨_, rfl⟩
  obtain ⟨w2, hw2⟩ : ∃ w2, w1.alloc (.cells Z.toArray 33) = w2 := ⟨_, rfl⟩
  have k1 : Kept (fun _ => False) w w1 := by rw [← hw1]; exact (Kept.refl _ _).alloc _
  have k2 : Kept (fun _ => False) w1 w2 := by rw [← hw2]; exact (Kept.refl _ _).alloc _
  have s1 : w1.heap.size = w.heap.size + 1 := by rw [← hw1]; simp
  have s2 : w2.heap.size = w.heap.size + 2 := by rw [← hw2]; simp [s1]
  have t2 : w2.heap[w.heap.size]? = some (.cells #[.pointer (some ⟨A.sb, 0, none⟩)] 57 (0, 0)) := k2.get (by rw [← hw1]; exact heap_alloc_new _ _) id
  have r2 : w2.heap[w.heap.size + 1]? = some (.cells Z.toArray 33 (0, 0)) := by rw [← hw2, ← s1]; exact heap_alloc_new _ _
  have k02 := Lib.hid (k1.trans k2)
  have hnd := pruneNode (h.fresh k02.out) root d (by omega)
  rw [hR] at hnd
  dsimp only at hnd
  have hnd' := Lib.hid hnd
  have h' := Lib.hid h
  have hw1' := Lib.hid hw1
  have hw2' := Lib.hid hw2
  have s1' := Lib.hid s1
  have s2' := Lib.hid s2
  have hload2 : Hid (∀ j v, [Value.pointer (some ⟨A.sb, 0, none⟩)][j]? = some v → w2.cell? ⟨w.heap.size, 0 + j, none⟩ = some v) := Lib.hid (fun j v hj => by rw [Nat.zero_add, cell_of_heap t2]; simpa using hj)
  have t2' := Lib.hid t2
  have r2' := Lib.hid r2
  clear hw1 hw2 k1 k2 s1 s2 t2 r2 hnd h hZ hR
  go_enter Try.func59, Try.ntmps59
  go_wp2_with (first | (refine wpList_box_named 57 rfl rfl _ rfl hw1'.out ?_) | (refine wpList_alloc_as 33 rfl rfl Z.toArray hZz.out ?_; rw [hw2'.out, s1'.out]) | (refine wpList_load_agg 57 rfl rfl rfl _ Try.underlying57 rfl [.pointer (some ⟨A.sb, 0, none⟩)] (by kernel_rfl) hload2.out ?_))
  refine hnd'.out.mono ?_
  rintro e w3 ⟨v, rfl, hown, hk3⟩
  obtain ⟨Av, cap, rfl, hf1, hf2⟩ := EntsAt.form (show EntsAt w3 v n.ents from SliceAt.of_owns hown)
  obtain ⟨F, hF⟩ : ∃ F, nodeCells n (.slice Av n.ents.length cap) = F := ⟨_, rfl⟩
  have hFl : Hid (F.length = 18) := Lib.hid (by rw [← hF]; exact nodeCells_len _ _)
  have hF1 : Hid (∀ v ∈ F, v.oneCell' = true) := Lib.hid (by rw [← hF]; exact nodeCells_one _ _ _ _)
  obtain ⟨nb, hnb⟩ : ∃ nb, w3.heap.size = nb := ⟨_, rfl⟩
  obtain ⟨w4, hw4⟩ : ∃ w4, (w3.alloc (.cells Z.toArray 33)).setRow nb F.toArray = w4 := ⟨_, rfl⟩
  have k4 : Kept (fun _ => False) w3 w4 := by rw [← hw4]; exact ((Kept.refl _ _).alloc _).setRowNew (by omega) _
  have bx4 : NodeBox w4 nb n (.slice Av n.ents.length cap) := ⟨by rw [hF, ← hw4, ← hnb]; exact setRow_heap _ _ _ _ _ _ (heap_alloc_new _ _)⟩
  have hown4 := Lib.hid (ownsRow.keptOf hown k4 (fun _ _ => id))
  have k24 := Lib.hid (hk3.trans k4)
  have t4 := Lib.hid (k24.out.get t2'.out id)
  have r4 := Lib.hid (k24.out.get r2'.out id)
  have hs3 := hk3.size
  have hs4 : Hid (w4.heap.size = nb + 1) := Lib.hid (by rw [← hw4, ← hnb]; simp [World.setRow])
  have hb4 : Hid (∀ b, (Value.slice Av n.ents.length cap).ownBlock = some b → b < nb) := Lib.hid (fun b hb => by have := (hown.lt b hb).2; omega)
  rw [hF]
  have bx4' := Lib.hid bx4
  have hw4' := Lib.hid hw4
  have hnb' := Lib.hid hnb
  have hF' := Lib.hid hF
  have hat := at_any (show EntsAt w4 (.slice Av n.ents.length cap) n.ents from SliceAt.of_owns hown4.out) hkeys key (by omega)
  have hab := atI_bound (l := n.ents) key
  obtain ⟨a, ha⟩ : ∃ a, atI n.ents key = a := ⟨_, rfl⟩
  rw [ha] at hat hab
  have hat' := Lib.hid hat
  have c17 := bx4.c17
  unfold maxLen at hf2
  obtain ⟨hab1, hab2⟩ := hab
  clear hown hk3 k4 hw4 bx4 hnb hF hat hkeys
  go_wp2_with (first | (refine wpList_alloc_as 33 rfl rfl Z.toArray hZz.out ?_; rw [hnb'.out]) | (refine wpList_store_whole 33 rfl rfl rfl F rfl (by rw [hFl.out]; exact node_size) 33 _ (by rw [← hnb'.out]; exact heap_alloc_new _ _) (by simp [hFl.out, hZl.out]) hF1.out ?_; rw [hw4'.out]))
  refine hat'.out.mono ?_
  rintro e w5 ⟨rfl, hk5⟩
  have hk5' := Lib.hid hk5
  have k25 := Lib.hid (k24.out.trans hk5)
  have t5 := Lib.hid (hk5.get t4.out id)
  have r5 := Lib.hid (hk5.get r4.out id)
  have hown5 := Lib.hid (ownsRow.keptOf hown4.out hk5 (fun _ _ => id))
  have bx5 := Lib.hid (bx4'.out.kept hk5 id)
  have q5 := Lib.hid (show w5.heap[nb]? = some (.cells F.toArray 33 (0, 0)) by rw [← hF'.out]; exact bx5.out.heap)
  have hs5 := hk5.size
  have c17_5 := bx5.out.c17
  have c0_5 := bx5.out.c0
  clear hk5
  have hai : a = i := by omega
  subst hai
  rw [hk2'.out] at c0_5
  have hil : i < n.ents.length := by omega
  obtain ⟨y, hy⟩ : ∃ y, n.ents[i]? = some y := ⟨_, List.getElem?_eq_getElem hil⟩
  obtain ⟨b, off, rfl, hbl, cy5, _⟩ := EntsAt.get (show EntsAt w5 (.slice Av n.ents.length cap) n.ents from SliceAt.of_owns hown5.out) hy
  have hneg : ¬ ((i : Int) < 0) := by omega
  have hi1 : (i : Int) < (n.ents.length : Int) := by omega
  have hwi : IntKind.i64.wrap ((i : Int) + 1) = (i : Int) + 1 := by rw [IntKind.wrap_i64]; omega
  have hy0 : (y.1 == key) = false := by simpa [hy] using hother
  clear hy hother hi ha
  go_wp2_with (first | (refine wpList_load_agg 33 rfl rfl rfl _ Try.underlying33 rfl F (by rw [hFl.out]; exact node_size) (fun j v hv => by rw [cell_of_heap q5.out, Nat.zero_add]; simpa using hv) ?_) | (refine wpList_store_whole 33 rfl rfl rfl F rfl (by rw [hFl.out]; exact node_size) 33 _ r5.out (by simp [hFl.out, hZl.out]) hF1.out ?_))
  refine bodyPost_ret (results_row_tmp2 rfl _ _ (w.heap.size + 1) 33 F.toArray (0, 0) _ rfl (setRow_heap _ _ _ _ 33 (0, 0) r5.out) Try.underlying33 rfl (by simp only [List.size_toArray]; rw [hFl.out]; exact node_size)) rfl ?_
  have kS := (Kept.refl (fun i => i = w.heap.size + 1) w5).setRow rfl F.toArray
  exact ⟨.slice (some ⟨b, off, none⟩) n.ents.length cap, by rw [hF'.out]; rfl, owns_weaken (ownsRow.keptOf hown5.out kS (fun g hg e => by have := (hown5.out.lt g hg).1; have := s2'.out; omega)) (by have := s2'.out; omega), (k02.out.trans k25.out).setRowNew (by omega) _⟩

set_option maxHeartbeats 4000000 in
theorem cutSame {w : World} {A : SA} {M : SM} (h : StoreAt w A M) (root : Int) (d : Nat) (hd : d ≤ 8) (key : Int) {n : NM} (hR : M.tnode root d = (n, 0)) (hin0 : InnerOk n) (hk2 : n.kind = 2) {i : Nat} (hi : atI n.ents key = i) (hsame : (n.ents.getD i (0, 0)).1 = key) {C : List (Int × Int)} (hC : n.ents.take i ++ n.ents.drop (i + 1) = C) :
    Calls Try.prog 59 #[.agg #[.pointer (some ⟨A.sb, 0, none⟩)], .int .i64 root, .int .i64 d, .int .i64 key] w fun e w' => ∃ v, e = .returned (.tuple #[.agg (nodeCells { n with ents := C } v).toArray, .bool true, .int .i64 0]) ∧ w'.ownsRow w.heap.size 35 2 v C.length (entCells C) ∧ Kept (fun _ => False) w w' := by
  have hkeys := hin0.keys
  have hl6 := hin0.le
  have hk2' := Lib.hid hk2
  clear hk2 hin0
  obtain ⟨Z, hZ⟩ : ∃ Z, nodeCells NM.zero (.slice none 0 0) = Z := ⟨_, rfl⟩
  have hZz : Hid ((Try.prog.info? 33).map (·.zero) = some (some (.agg Z.toArray))) := Lib.hid (by rw [← hZ]; exact node_zero)
  have hZl : Hid (Z.length = 18) := Lib.hid (by rw [← hZ]; exact nodeCells_len _ _)
  obtain ⟨w1, hw1⟩ : ∃ w1, w.alloc (.cells #[.pointer (some ⟨A.sb, 0, none⟩)] 57) = w1 := ⟨_, rfl⟩
  obtain ⟨w2, hw2⟩ : ∃ w2, w1.alloc (.cells Z.toArray 33) = w2 := ⟨_, rfl⟩
  have k1 : Kept (fun _ => False) w w1 := by rw [← hw1]; exact (Kept.refl _ _).alloc _
  have k2 : Kept (fun _ => False) w1 w2 := by rw [← hw2]; exact (Kept.refl _ _).alloc _
  have s1 : w1.heap.size = w.heap.size + 1 := by rw [← hw1]; simp
  have s2 : w2.heap.size = w.heap.size + 2 := by rw [← hw2]; simp [s1]
  have t2 : w2.heap[w.heap.size]? = some (.cells #[.pointer (some ⟨A.sb, 0, none⟩)] 57 (0, 0)) := k2.get (by rw [← hw1]; exact heap_alloc_new _ _) id
  have r2 : w2.heap[w.heap.size + 1]? = some (.cells Z.toArray 33 (0, 0)) := by rw [← hw2, ← s1]; exact heap_alloc_new _ _
  have k02 := Lib.hid (k1.trans k2)
  have hnd := pruneNode (h.fresh k02.out) root d (by omega)
  rw [hR] at hnd
  dsimp only at hnd
  have hnd' := Lib.hid hnd
  have h' := Lib.hid h
  have hw1' := Lib.hid hw1
  have hw2' := Lib.hid hw2
  have s1' := Lib.hid s1
  have s2' := Lib.hid s2
  have hload2 : Hid (∀ j v, [Value.pointer (some ⟨A.sb, 0, none⟩)][j]? = some v → w2.cell? ⟨w.heap.size, 0 + j, none⟩ = some v) := Lib.hid (fun j v hj => by rw [Nat.zero_add, cell_of_heap t2]; simpa using hj)
  have t2' := Lib.hid t2
  have r2' := Lib.hid r2
  clear hw1 hw2 k1 k2 s1 s2 t2 r2 hnd h hZ hR
  go_enter Try.func59, Try.ntmps59
  go_wp2_with (first | (refine wpList_box_named 57 rfl rfl _ rfl hw1'.out ?_) | (refine wpList_alloc_as 33 rfl rfl Z.toArray hZz.out ?_; rw [hw2'.out, s1'.out]) | (refine wpList_load_agg 57 rfl rfl rfl _ Try.underlying57 rfl [.pointer (some ⟨A.sb, 0, none⟩)] (by kernel_rfl) hload2.out ?_))
  refine hnd'.out.mono ?_
  rintro e w3 ⟨v, rfl, hown, hk3⟩
  obtain ⟨Av, cap, rfl, hf1, hf2⟩ := EntsAt.form (show EntsAt w3 v n.ents from SliceAt.of_owns hown)
  obtain ⟨F, hF⟩ : ∃ F, nodeCells n (.slice Av n.ents.length cap) = F := ⟨_, rfl⟩
  have hFl : Hid (F.length = 18) := Lib.hid (by rw [← hF]; exact nodeCells_len _ _)
  have hF1 : Hid (∀ v ∈ F, v.oneCell' = true) := Lib.hid (by rw [← hF]; exact nodeCells_one _ _ _ _)
  obtain ⟨nb, hnb⟩ : ∃ nb, w3.heap.size = nb := ⟨_, rfl⟩
  obtain ⟨w4, hw4⟩ : ∃ w4, (w3.alloc (.cells Z.toArray 33)).setRow nb F.toArray = w4 := ⟨_, rfl⟩
  have k4 : Kept (fun _ => False) w3 w4 := by rw [← hw4]; exact ((Kept.refl _ _).alloc _).setRowNew (by omega) _
  have bx4 : NodeBox w4 nb n (.slice Av n.ents.length cap) := ⟨by rw [hF, ← hw4, ← hnb]; exact setRow_heap _ _ _ _ _ _ (heap_alloc_new _ _)⟩
  have hown4 := Lib.hid (ownsRow.keptOf hown k4 (fun _ _ => id))
  have k24 := Lib.hid (hk3.trans k4)
  have t4 := Lib.hid (k24.out.get t2'.out id)
  have r4 := Lib.hid (k24.out.get r2'.out id)
  have hs3 := hk3.size
  have hs4 : Hid (w4.heap.size = nb + 1) := Lib.hid (by rw [← hw4, ← hnb]; simp [World.setRow])
  have hb4 : Hid (∀ b, (Value.slice Av n.ents.length cap).ownBlock = some b → b < nb) := Lib.hid (fun b hb => by have := (hown.lt b hb).2; omega)
  rw [hF]
  have bx4' := Lib.hid bx4
  have hw4' := Lib.hid hw4
  have hnb' := Lib.hid hnb
  have hF' := Lib.hid hF
  have hat := at_any (show EntsAt w4 (.slice Av n.ents.length cap) n.ents from SliceAt.of_owns hown4.out) hkeys key (by omega)
  have hab := atI_bound (l := n.ents) key
  obtain ⟨a, ha⟩ : ∃ a, atI n.ents key = a := ⟨_, rfl⟩
  rw [ha] at hat hab
  have hat' := Lib.hid hat
  have c17 := bx4.c17
  unfold maxLen at hf2
  obtain ⟨hab1, hab2⟩ := hab
  clear hown hk3 k4 hw4 bx4 hnb hF hat hkeys
  go_wp2_with (first | (refine wpList_alloc_as 33 rfl rfl Z.toArray hZz.out ?_; rw [hnb'.out]) | (refine wpList_store_whole 33 rfl rfl rfl F rfl (by rw [hFl.out]; exact node_size) 33 _ (by rw [← hnb'.out]; exact heap_alloc_new _ _) (by simp [hFl.out, hZl.out]) hF1.out ?_; rw [hw4'.out]))
  refine hat'.out.mono ?_
  rintro e w5 ⟨rfl, hk5⟩
  have hk5' := Lib.hid hk5
  have k25 := Lib.hid (k24.out.trans hk5)
  have t5 := Lib.hid (hk5.get t4.out id)
  have r5 := Lib.hid (hk5.get r4.out id)
  have hown5 := Lib.hid (ownsRow.keptOf hown4.out hk5 (fun _ _ => id))
  have bx5 := Lib.hid (bx4'.out.kept hk5 id)
  have q5 := Lib.hid (show w5.heap[nb]? = some (.cells F.toArray 33 (0, 0)) by rw [← hF'.out]; exact bx5.out.heap)
  have hs5 := hk5.size
  have c17_5 := bx5.out.c17
  have c0_5 := bx5.out.c0
  clear hk5
  have hai : a = i := by omega
  subst hai
  rw [hk2'.out] at c0_5
  have hil : i < n.ents.length := by omega
  obtain ⟨y, hy⟩ : ∃ y, n.ents[i]? = some y := ⟨_, List.getElem?_eq_getElem hil⟩
  obtain ⟨b, off, rfl, hbl, cy5, _⟩ := EntsAt.get (show EntsAt w5 (.slice Av n.ents.length cap) n.ents from SliceAt.of_owns hown5.out) hy
  have hneg : ¬ ((i : Int) < 0) := by omega
  have hi1 : (i : Int) < (n.ents.length : Int) := by omega
  have hwi : IntKind.i64.wrap ((i : Int) + 1) = (i : Int) + 1 := by rw [IntKind.wrap_i64]; omega
  have hy0 : y.1 = key := by simpa [hy] using hsame
  rw [hy0] at cy5
  have hD := deleteOwn hown5.out hil (by omega)
  rw [hC, show n.ents.length - 1 = C.length by rw [← hC]; simp only [List.length_append, List.length_take, List.length_drop]; omega] at hD
  have hD' := Lib.hid hD
  clear hD hy hy0 hsame hi ha
  go_wp2_with fail
  refine hD'.out.mono ?_
  rintro e w6 ⟨rfl, hown6, hk6⟩
  have q6 : NodeBox w6 nb n (.slice (some ⟨b, off, none⟩) n.ents.length cap) := bx5.out.kept hk6 (fun e => by have := hb4.out _ e; omega)
  have hE := putEnds q6 (hk6.get r5.out (fun e => by have := (hown5.out.lt _ e).1; have := s2'.out; omega)) (by have := s2'.out; have := hnb'.out; omega) hown6
  obtain ⟨G, hG⟩ : ∃ G, nodeCells { n with ents := C } (.slice (some ⟨b, off, none⟩) C.length cap) = G := ⟨_, rfl⟩
  have hGl : Hid (G.length = 18) := Lib.hid (by rw [← hG]; exact nodeCells_len _ _)
  have hG1 : Hid (∀ v ∈ G, v.oneCell' = true) := Lib.hid (by rw [← hG]; exact nodeCells_one _ _ _ _)
  have q9 := Lib.hid (show (w6.setCell ⟨nb, 17, none⟩ (.slice (some ⟨b, off, none⟩) C.length cap)).heap[nb]? = some (.cells G.toArray 33 (0, 0)) by rw [← hG]; exact hE.1.heap)
  have r9 := Lib.hid hE.2.1
  have o9 := Lib.hid hE.2.2
  have c6 := q6.c17
  have f6 := free_of_heap q6.heap 17
  have hG' := Lib.hid hG
  have k06 := Lib.hid ((k02.out.trans k25.out).trans_new hk6 (fun j hj e => by have := (hown5.out.lt _ e).1; have := s2'.out; omega))
  clear hE q6 hown6 hk6 hG
  go_wp2_with (first | (refine wpList_load_agg 33 rfl rfl rfl _ Try.underlying33 rfl G (by rw [hGl.out]; exact node_size) (fun j v hv => by rw [cell_of_heap q9.out, Nat.zero_add]; simpa using hv) ?_) | (refine wpList_store_whole 33 rfl rfl rfl G rfl (by rw [hGl.out]; exact node_size) 33 _ r9.out (by simp [hGl.out, hZl.out]) hG1.out ?_))
  refine bodyPost_ret (results_row_tmp2 rfl _ _ (w.heap.size + 1) 33 G.toArray (0, 0) _ rfl (setRow_heap _ _ _ _ 33 (0, 0) r9.out) Try.underlying33 rfl (by simp only [List.size_toArray]; rw [hGl.out]; exact node_size)) rfl ?_
  exact ⟨.slice (some ⟨b, off, none⟩) C.length cap, by rw [← hG'.out]; rfl, owns_weaken (o9.out _) (by have := s2'.out; omega), ((k06.out).setNew (by show w.heap.size ≤ nb; have := s2'.out; have := hnb'.out; omega) _).setRowNew (by omega) _⟩
end Go.Proofs.Ythmjcbmeiabbgaa
/-
  Pruners (package prune): cut: an inner node: what holds in the midst of it.
-/
namespace Go.Proofs.Ythmjcbmeiabbgaa
open Go.RowKit
set_option maxRecDepth 100000

/-- What holds in the midst of cut. -/
structure CutSt (w : World) (A : SA) (n : NM) (sv : Value) (nb : Nat) (Z : Array Value) (A' : SA) (M' : SM) (wr : World) : Prop where
  to_ : StoreTo A A' M' w wr
  tb : wr.heap[w.heap.size]? = some (.cells #[.pointer (some ⟨A.sb, 0, none⟩)] 57 (0, 0))
  st : Safe wr A' w.heap.size
  rb : wr.heap[w.heap.size + 1]? = some (.cells Z 33 (0, 0))
  sr : Safe wr A' (w.heap.size + 1)
  nbx : NodeBox wr nb n sv
  sn : Safe wr A' nb
  own : OutAt wr A' (w.heap.size + 2) sv n.ents
  lt : w.heap.size + 1 < nb
section
variable {w : World} {A : SA} {M : SM} {n : NM} {sv : Value} {nb : Nat} {Z : Array Value} {A' : SA} {M' : SM} {wr : World}
theorem CutSt.fresh {w' : World} (h : CutSt w A n sv nb Z A' M' wr) (k : Kept (fun _ => False) wr w') : CutSt w A n sv nb Z A' M' w' :=
  ⟨h.to_.fresh k, k.get h.tb id, h.st.fresh k, k.get h.rb id, h.sr.fresh k, h.nbx.kept k id, h.sn.fresh k, h.own.fresh k, h.lt⟩
theorem CutSt.step {w' : World} {A2 : SA} {M2 : SM} (h : CutSt w A n sv nb Z A' M' wr) (k : StoreTo A' A2 M2 wr w') : CutSt w A n sv nb Z A2 M2 w' :=
  ⟨h.to_.trans k, k.get h.tb h.st, h.st.to k, k.get h.rb h.sr, h.sr.to k, ⟨k.get h.nbx.heap h.sn⟩, h.sn.to k, h.own.to k, h.lt⟩
/-- A new box's filling touches nothing of what holds. -/
theorem CutSt.boxed (h : CutSt w A n sv nb Z A' M' wr) {cb : Nat} (h1 : nb < cb) (hs : Safe wr A' cb) {Z2 : Array Value} (hb : wr.heap[cb]? = some (.cells Z2 33 (0, 0))) (hd : ∀ k, A'.own k → k ≠ cb) (F : Array Value) :
    CutSt w A n sv nb Z A' M' (wr.setRow cb F) := by
  have k := (Kept.refl (fun i => i = cb) wr).setRow rfl F
  have hlt := h.lt
  have hne := h.own.types hb (fun cur e => by cases e)
  have hst := h.to_
  refine ⟨⟨hst.store.kept k hd, hst.kept.trans_new k (fun i hi e => by subst e; omega), hst.foot, hst.sb, hst.fix⟩, k.get h.tb (by omega), ⟨Nat.lt_of_lt_of_le h.st.lt k.size, h.st.off⟩, k.get h.rb (by omega), ⟨Nat.lt_of_lt_of_le h.sr.lt k.size, h.sr.off⟩, h.nbx.kept k (by omega), ⟨Nat.lt_of_lt_of_le h.sn.lt k.size, h.sn.off⟩, ⟨ownsRow.keptOf h.own.own k (fun b hb e => hne (by rw [hb, e])), h.own.off⟩, h.lt⟩
/-- What the drawn region reads. -/
theorem CutSt.held {b off m cap : Nat} (h : CutSt w A n (.slice (some ⟨b, off, none⟩) m cap) nb Z A' M' wr) {i : Nat} {y : Int × Int} (hy : n.ents[i]? = some y) :
    wr.heap[w.heap.size]? = some (.cells #[.pointer (some ⟨A.sb, 0, none⟩)] 57 (0, 0)) ∧ wr.cell? ⟨nb, 17, none⟩ = some (.slice (some ⟨b, off, none⟩) m cap) ∧ wr.cell? ⟨b, off + i * 2 + 1, none⟩ = some (.int .i64 y.2) := by
  refine ⟨h.tb, h.nbx.c17, ?_⟩
  obtain ⟨b', off', hA, _, _, c⟩ := EntsAt.get h.own.ents.at_ hy
  cases hA
  exact c
/-- The node goes back as it was. -/
theorem CutSt.stop (P : CutSt w A n sv nb Z A' M' wr) (h : StoreAt w A M) (F : Array Value) : StoreTo A A' M' w (wr.setRow (w.heap.size + 1) F) ∧ OutAt (wr.setRow (w.heap.size + 1) F) A' w.heap.size sv n.ents := by
  have k := (Kept.refl (fun j => j = w.heap.size + 1) wr).setRow rfl F
  exact ⟨P.to_.touch h (by omega) P.sr.off k, P.own.touch (by omega) (P.own.types P.rb (fun cur e => by cases e)) k⟩
/-- It goes back with other entries. -/
theorem CutSt.ends (P : CutSt w A n sv nb Z A' M' wr) (h : StoreAt w A M) {u : Value} {C : List (Int × Int)} {base : Nat} (ho : OutAt wr A' base u C) (hbase : w.heap.size ≤ base) :
    NodeBox (wr.setCell ⟨nb, 17, none⟩ u) nb { n with ents := C } u ∧ (wr.setCell ⟨nb, 17, none⟩ u).heap[w.heap.size + 1]? = some (.cells Z 33 (0, 0)) ∧
      ∀ F, StoreTo A A' M' w ((wr.setCell ⟨nb, 17, none⟩ u).setRow (w.heap.size + 1) F) ∧ OutAt ((wr.setCell ⟨nb, 17, none⟩ u).setRow (w.heap.size + 1) F) A' w.heap.size u C := by
  have hlt := P.lt
  have k1 := (Kept.refl (fun j => j = nb) wr).setCell (p := ⟨nb, 17, none⟩) rfl u
  have r1 := k1.get P.rb (by omega)
  have T1 := P.to_.touch h (by omega) P.sn.off k1
  have O1 := ho.touch hbase (ho.types P.nbx.heap (fun cur e => by cases e)) k1
  refine ⟨⟨by rw [heap_setCell_same P.nbx.heap, nodeCells_set n C]⟩, r1, fun F => ?_⟩
  have k := (Kept.refl (fun j => j = w.heap.size + 1) (wr.setCell ⟨nb, 17, none⟩ u)).setRow rfl F
  exact ⟨T1.touch h (by omega) P.sr.off k, O1.touch (Nat.le_refl _) (O1.types r1 (fun cur e => by cases e)) k⟩
end
/-- A box that has been filled is filled anew. -/
theorem BoxAt.again {W : World} {A : SA} {cb : Nat} {n J : NM} {v u : Value} (hb : BoxAt W A cb n v) (hu : EntsOff W A u J.ents) (hne : u.ownBlock ≠ some cb) : BoxAt (W.setRow cb (nodeCells J u).toArray) A cb J u := by
  have k := (Kept.refl (fun i => i = cb) W).setRow rfl (nodeCells J u).toArray
  exact ⟨⟨setRow_heap _ _ _ _ _ _ hb.box.heap⟩, ⟨Nat.lt_of_lt_of_le hb.safe.lt k.size, hb.safe.off⟩, ⟨SliceAt.kept hu.at_ k (fun b hb' e => hne (by rw [hb', e])), fun b hb' => ⟨Nat.lt_of_lt_of_le (hu.off b hb').1 k.size, (hu.off b hb').2⟩⟩⟩
theorem BoxAt.fresh {W W' : World} {A : SA} {cb : Nat} {n : NM} {v : Value} (hb : BoxAt W A cb n v) (k : Kept (fun _ => False) W W') : BoxAt W' A cb n v :=
  ⟨hb.box.kept k id, hb.safe.fresh k, hb.ents.fresh k⟩
/-- What an inner node's cut comes to. -/
def cutRes (n : NM) (i d : Nat) (M1 : SM) (n1 : NM) (was : Bool) (er : Nat) : SM × NM × Bool × Nat :=
  if er ≠ 0 ∨ was = false then (M1, n, false, er)
  else if (M1.join n n1 i d).2.2.2 = 0 then
    (if (M1.split (M1.join n n1 i d).1).2.2 = 0 then ((M1.split (M1.join n n1 i d).1).1, { n with ents := n.ents.take (M1.join n n1 i d).2.1 ++ (M1.split (M1.join n n1 i d).1).2.1 ++ n.ents.drop (M1.join n n1 i d).2.2.1 }, true, 0)
     else ((M1.split (M1.join n n1 i d).1).1, n, false, (M1.split (M1.join n n1 i d).1).2.2))
  else (M1, n, false, (M1.join n n1 i d).2.2.2)
theorem joinStep_bound {M : SM} {n c : NM} {i d : Nat} {q : Int} {next : NM × Nat × Nat × Nat} (hi : i < n.ents.length) (hq : q = (i : Int) - 1 ∨ q = (i : Int) + 1) (hc : c.ents.length ≤ 12)
    (h : next.2.1 ≤ next.2.2.1 ∧ next.2.2.1 ≤ n.ents.length ∧ next.1.ents.length ≤ 12) :
    (M.joinStep n c i d q next).2.1 ≤ (M.joinStep n c i d q next).2.2.1 ∧ (M.joinStep n c i d q next).2.2.1 ≤ n.ents.length ∧ (M.joinStep n c i d q next).1.ents.length ≤ 12 := by
  unfold SM.joinStep
  split
  · exact h
  · dsimp only
    split
    · split
      · refine ⟨show min i q.toNat ≤ max i q.toNat + 1 by omega, show max i q.toNat + 1 ≤ n.ents.length by omega, ?_⟩
        dsimp only
        split <;> (rw [List.length_append]; omega)
      · exact h
    · exact ⟨show i ≤ i + 1 by omega, show i + 1 ≤ n.ents.length by omega, hc⟩
theorem join_bound (M : SM) {n c : NM} {i d : Nat} (hi : i < n.ents.length) (hc : c.ents.length ≤ 12) :
    (M.join n c i d).2.1 ≤ (M.join n c i d).2.2.1 ∧ (M.join n c i d).2.2.1 ≤ n.ents.length ∧ (M.join n c i d).1.ents.length ≤ 12 := by
  have h0 : i ≤ i + 1 ∧ i + 1 ≤ n.ents.length ∧ c.ents.length ≤ 12 := ⟨by omega, by omega, hc⟩
  unfold SM.join
  split
  · exact h0
  · exact joinStep_bound hi (.inl rfl) hc (joinStep_bound hi (.inr rfl) hc h0)
end Go.Proofs.Ythmjcbmeiabbgaa
/-
  Pruners (package prune): cut: an inner node.
-/
namespace Go.Proofs.Ythmjcbmeiabbgaa
open Go.RowKit
set_option maxRecDepth 100000

set_option maxHeartbeats 8000000 in
theorem cutInner {w : World} {A : SA} {M : SM} (h : StoreAt w A M) (root : Int) (d : Nat) (hd : d ≤ 8) (key : Int) {n : NM} (hR : M.tnode root d = (n, 0)) (hin0 : InnerOk n) (hk3 : n.kind = 3) {i : Nat} (hi : atI n.ents key = i) {M1 : SM} {n1 : NM} {was : Bool} {er : Nat} (hfew : M1.log.length + 2 < 100000000) (hn1l : n1.ents.length ≤ 12)
    (ih : ∀ (W : World), StoreAt W A M → Calls Try.prog 59 #[.agg #[.pointer (some ⟨A.sb, 0, none⟩)], .int .i64 (n.ents.getD i (0, 0)).2, .int .i64 ((d : Int) + 1), .int .i64 key] W fun e w' =>
      ∃ A' v, e = .returned (.tuple #[.agg (nodeCells n1 v).toArray, .bool was, .int .i64 er]) ∧ StoreTo A A' M1 W w' ∧ OutAt w' A' W.heap.size v n1.ents) :
    Calls Try.prog 59 #[.agg #[.pointer (some ⟨A.sb, 0, none⟩)], .int .i64 root, .int .i64 d, .int .i64 key] w fun e w' => ∃ A' v, e = .returned (.tuple #[.agg (nodeCells (cutRes n i d M1 n1 was er).2.1 v).toArray, .bool (cutRes n i d M1 n1 was er).2.2.1, .int .i64 (cutRes n i d M1 n1 was er).2.2.2]) ∧
      StoreTo A A' (cutRes n i d M1 n1 was er).1 w w' ∧ OutAt w' A' w.heap.size v (cutRes n i d M1 n1 was er).2.1.ents := by
  have hkeys := hin0.keys
  have hl6 := hin0.le
  have hk3' := Lib.hid hk3
  have ih' := Lib.hid ih
  clear hk3 hin0 ih
  obtain ⟨Z, hZ⟩ : ∃ Z, nodeCells NM.zero (.slice none 0 0) = Z := ⟨_, rfl⟩
  have hZz : Hid ((Try.prog.info? 33).map (·.zero) = some (some (.agg Z.toArray))) := Lib.hid (by rw [← hZ]; exact node_zero)
  have hZl : Hid (Z.length = 18) := Lib.hid (by rw [← hZ]; exact nodeCells_len _ _)
  obtain ⟨w1, hw1⟩ : ∃ w1, w.alloc (.cells #[.pointer (some ⟨A.sb, 0, none⟩)] 57) = w1 := ⟨_, rfl⟩
  obtain ⟨w2, hw2⟩ : ∃ w2, w1.alloc (.cells Z.toArray 33) = w2 := ⟨_, rfl⟩
  have k1 : Kept (fun _ => False) w w1 := by rw [← hw1]; exact (Kept.refl _ _).alloc _
  have k2 : Kept (fun _ => False) w1 w2 := by rw [← hw2]; exact (Kept.refl _ _).alloc _
  have s1 : w1.heap.size = w.heap.size + 1 := by rw [← hw1]; simp
  have s2 : w2.heap.size = w.heap.size + 2 := by rw [← hw2]; simp [s1]
  have t2 : w2.heap[w.heap.size]? = some (.cells #[.pointer (some ⟨A.sb, 0, none⟩)] 57 (0, 0)) := k2.get (by rw [← hw1]; exact heap_alloc_new _ _) id
  have r2 : w2.heap[w.heap.size + 1]? = some (.cells Z.toArray 33 (0, 0)) := by rw [← hw2, ← s1]; exact heap_alloc_new _ _
  have k02 := Lib.hid (k1.trans k2)
  have hnd := pruneNode (h.fresh k02.out) root d (by omega)
  rw [hR] at hnd
  dsimp only at hnd
  have hnd' := Lib.hid hnd
  have h' := Lib.hid h
  have hw1' := Lib.hid hw1
  have hw2' := Lib.hid hw2
  have s1' := Lib.hid s1
  have s2' := Lib.hid s2
  have hload2 : Hid (∀ j v, [Value.pointer (some ⟨A.sb, 0, none⟩)][j]? = some v → w2.cell? ⟨w.heap.size, 0 + j, none⟩ = some v) := Lib.hid (fun j v hj => by rw [Nat.zero_add, cell_of_heap t2]; simpa using hj)
  have t2' := Lib.hid t2
  have r2' := Lib.hid r2
  clear hw1 hw2 k1 k2 s1 s2 t2 r2 hnd h hZ hR
  go_enter Try.func59, Try.ntmps59
  go_wp2_with (first | (refine wpList_box_named 57 rfl rfl _ rfl hw1'.out ?_) | (refine wpList_alloc_as 33 rfl rfl Z.toArray hZz.out ?_; rw [hw2'.out, s1'.out]) | (refine wpList_load_agg 57 rfl rfl rfl _ Try.underlying57 rfl [.pointer (some ⟨A.sb, 0, none⟩)] (by kernel_rfl) hload2.out ?_))
  refine hnd'.out.mono ?_
  rintro e w3 ⟨v, rfl, hown, hk3⟩
  obtain ⟨Av, cap, rfl, hf1, hf2⟩ := EntsAt.form (show EntsAt w3 v n.ents from SliceAt.of_owns hown)
  obtain ⟨F, hF⟩ : ∃ F, nodeCells n (.slice Av n.ents.length cap) = F := ⟨_, rfl⟩
  have hFl : Hid (F.length = 18) := Lib.hid (by rw [← hF]; exact nodeCells_len _ _)
  have hF1 : Hid (∀ v ∈ F, v.oneCell' = true) := Lib.hid (by rw [← hF]; exact nodeCells_one _ _ _ _)
  obtain ⟨nb, hnb⟩ : ∃ nb, w3.heap.size = nb := ⟨_, rfl⟩
  obtain ⟨w4, hw4⟩ : ∃ w4, (w3.alloc (.cells Z.toArray 33)).setRow nb F.toArray = w4 := ⟨_, rfl⟩
  have k4 : Kept (fun _ => False) w3 w4 := by rw [← hw4]; exact ((Kept.refl _ _).alloc _).setRowNew (by omega) _
  have bx4 : NodeBox w4 nb n (.slice Av n.ents.length cap) := ⟨by rw [hF, ← hw4, ← hnb]; exact setRow_heap _ _ _ _ _ _ (heap_alloc_new _ _)⟩
  have hown4 := Lib.hid (ownsRow.keptOf hown k4 (fun _ _ => id))
  have k24 := Lib.hid (hk3.trans k4)
  have t4 := Lib.hid (k24.out.get t2'.out id)
  have r4 := Lib.hid (k24.out.get r2'.out id)
  have hs3 := hk3.size
  have hs4 : Hid (w4.heap.size = nb + 1) := Lib.hid (by rw [← hw4, ← hnb]; simp [World.setRow])
  have hb4 : Hid (∀ b, (Value.slice Av n.ents.length cap).ownBlock = some b → b < nb) := Lib.hid (fun b hb => by have := (hown.lt b hb).2; omega)
  rw [hF]
  have bx4' := Lib.hid bx4
  have hw4' := Lib.hid hw4
  have hnb' := Lib.hid hnb
  have hF' := Lib.hid hF
  have hat := at_any (show EntsAt w4 (.slice Av n.ents.length cap) n.ents from SliceAt.of_owns hown4.out) hkeys key (by omega)
  have hab := atI_bound (l := n.ents) key
  obtain ⟨a, ha⟩ : ∃ a, atI n.ents key = a := ⟨_, rfl⟩
  rw [ha] at hat hab
  have hat' := Lib.hid hat
  have c17 := bx4.c17
  unfold maxLen at hf2
  obtain ⟨hab1, hab2⟩ := hab
  clear hown hk3 k4 hw4 bx4 hnb hF hat hkeys
  go_wp2_with (first | (refine wpList_alloc_as 33 rfl rfl Z.toArray hZz.out ?_; rw [hnb'.out]) | (refine wpList_store_whole 33 rfl rfl rfl F rfl (by rw [hFl.out]; exact node_size) 33 _ (by rw [← hnb'.out]; exact heap_alloc_new _ _) (by simp [hFl.out, hZl.out]) hF1.out ?_; rw [hw4'.out]))
  refine hat'.out.mono ?_
  rintro e w5 ⟨rfl, hk5⟩
  have hk5' := Lib.hid hk5
  have k25 := Lib.hid (k24.out.trans hk5)
  have t5 := Lib.hid (hk5.get t4.out id)
  have r5 := Lib.hid (hk5.get r4.out id)
  have hown5 := Lib.hid (ownsRow.keptOf hown4.out hk5 (fun _ _ => id))
  have bx5 := Lib.hid (bx4'.out.kept hk5 id)
  have q5 := Lib.hid (show w5.heap[nb]? = some (.cells F.toArray 33 (0, 0)) by rw [← hF'.out]; exact bx5.out.heap)
  have hs5 := hk5.size
  have c17_5 := bx5.out.c17
  have c0_5 := bx5.out.c0
  clear hk5
  have hai : a = i := by omega
  subst hai
  rw [hk3'.out] at c0_5
  have hiln : i < n.ents.length := by omega
  have hln6 := hl6
  obtain ⟨y, hy⟩ : ∃ y, n.ents[i]? = some y := ⟨_, List.getElem?_eq_getElem hiln⟩
  obtain ⟨b, off, rfl, hbl, _, cy5⟩ := EntsAt.get (show EntsAt w5 (.slice Av n.ents.length cap) n.ents from SliceAt.of_owns hown5.out) hy
  have hyd : (n.ents.getD i (0, 0)).2 = y.2 := by simp [hy]
  rw [hyd] at ih'
  have hneg : ¬ ((i : Int) < 0) := by omega
  have hi1 : (i : Int) < (n.ents.length : Int) := by omega
  have hwd : IntKind.i64.wrap ((d : Int) + 1) = (d : Int) + 1 := by rw [IntKind.wrap_i64]; omega
  have P5 : CutSt w A n (.slice (some ⟨b, off, none⟩) n.ents.length cap) nb Z.toArray A M w5 := by
    have s2 := s2'.out
    have hb1 := hnb'.out
    have h4 := hs4.out
    exact ⟨(StoreTo.refl h'.out).fresh (k02.out.trans k25.out), t5.out, Safe.new h'.out (by omega) (by omega), r5.out, Safe.new h'.out (by omega) (by omega), bx5.out, Safe.new h'.out (by omega) (by omega),
      ⟨by rw [← s2]; exact hown5.out, fun g hg e => by have := (hown5.out.lt g hg).1; have := h'.out.lt (.inl e); omega⟩, by omega⟩
  have P5' := Lib.hid P5
  have hy' := Lib.hid hy
  clear P5 hnd' t5 r5 hown5 bx5 q5 hown4 t4 r4 k24 bx4' hat' hload2 t2' r2' hy hyd hi ha hb4
  go_wp2_with fail
  refine wp_region_held_drew (S := fun W => W.heap[w.heap.size]? = some (.cells #[.pointer (some ⟨A.sb, 0, none⟩)] 57 (0, 0)) ∧ W.cell? ⟨nb, 17, none⟩ = some (.slice (some ⟨b, off, none⟩) n.ents.length cap) ∧ W.cell? ⟨b, off + i * 2 + 1, none⟩ = some (.int .i64 y.2)) (by kernel_rfl) (P5'.out.held hy'.out) (fun hH => ?_)
  refine wpAnyH_take (i := 0) (v := .agg #[.pointer (some ⟨A.sb, 0, none⟩)]) rfl (by kernel_rfl) (by kernel_rfl) (by kernel_rfl) (fun _ _ _ h => h) (Or.inl ⟨by rfl, fun W hW => exec_load_agg rfl (by rfl) [.pointer (some ⟨A.sb, 0, none⟩)] Try.underlying57 rfl (by kernel_rfl) (fun j v hj => by rw [cell_of_heap hW.1, Nat.zero_add]; simpa using hj)⟩) (by assumption) ?_
  simp only [Act.put, List.getElem_toArray, List.getElem_cons_zero, List.getElem_cons_succ, List.setIfInBounds_toArray, List.set_cons_zero, List.set_cons_succ]
  refine wpAnyH_take (i := 1) (v := .pointer (some ⟨nb, 17, none⟩)) rfl (by kernel_rfl) (by kernel_rfl) (by kernel_rfl) (fun _ _ _ h => h) (Or.inl ⟨by rfl, fun W hW => by go_simp⟩) (by assumption) ?_
  simp only [Act.put, List.getElem_toArray, List.getElem_cons_zero, List.getElem_cons_succ, List.setIfInBounds_toArray, List.set_cons_zero, List.set_cons_succ]
  refine wpAnyH_take (i := 2) (v := .slice (some ⟨b, off, none⟩) n.ents.length cap) rfl (by kernel_rfl) (by kernel_rfl) (by kernel_rfl) (fun _ _ _ h => h) (Or.inl ⟨by rfl, fun W hW => by have hc := hW.2.1; clear hW; go_simp⟩) (by assumption) ?_
  simp only [Act.put, List.getElem_toArray, List.getElem_cons_zero, List.getElem_cons_succ, List.setIfInBounds_toArray, List.set_cons_zero, List.set_cons_succ]
  refine wpAnyH_take (i := 3) (v := .int .i64 i) rfl (by kernel_rfl) (by kernel_rfl) (by kernel_rfl) (fun _ _ _ h => h) (Or.inl ⟨by rfl, fun W hW => by go_simp⟩) (by assumption) ?_
  simp only [Act.put, List.getElem_toArray, List.getElem_cons_zero, List.getElem_cons_succ, List.setIfInBounds_toArray, List.set_cons_zero, List.set_cons_succ]
  refine wpAnyH_take (i := 4) (v := .pointer (some ⟨b, off + i * 2, none⟩)) rfl (by kernel_rfl) (by kernel_rfl) (by kernel_rfl) (fun _ _ _ h => h) (Or.inl ⟨by rfl, fun W hW => by go_simp⟩) (by assumption) ?_
  simp only [Act.put, List.getElem_toArray, List.getElem_cons_zero, List.getElem_cons_succ, List.setIfInBounds_toArray, List.set_cons_zero, List.set_cons_succ]
  refine wpAnyH_take (i := 5) (v := .pointer (some ⟨b, off + i * 2 + 1, none⟩)) rfl (by kernel_rfl) (by kernel_rfl) (by kernel_rfl) (fun _ _ _ h => h) (Or.inl ⟨by rfl, fun W hW => by go_simp⟩) (by assumption) ?_
  simp only [Act.put, List.getElem_toArray, List.getElem_cons_zero, List.getElem_cons_succ, List.setIfInBounds_toArray, List.set_cons_zero, List.set_cons_succ]
  refine wpAnyH_take (i := 6) (v := .int .i64 y.2) rfl (by kernel_rfl) (by kernel_rfl) (by kernel_rfl) (fun _ _ _ h => h) (Or.inl ⟨by rfl, fun W hW => by have hc := hW.2.2; clear hW; go_simp⟩) (by assumption) ?_
  simp only [Act.put, List.getElem_toArray, List.getElem_cons_zero, List.getElem_cons_succ, List.setIfInBounds_toArray, List.set_cons_zero, List.set_cons_succ]
  refine wpAnyH_take (i := 7) (v := .int .i64 d) rfl (by kernel_rfl) (by kernel_rfl) (by kernel_rfl) (fun _ _ _ h => h) (Or.inl ⟨by rfl, fun W hW => by go_simp⟩) (by assumption) ?_
  simp only [Act.put, List.getElem_toArray, List.getElem_cons_zero, List.getElem_cons_succ, List.setIfInBounds_toArray, List.set_cons_zero, List.set_cons_succ]
  refine wpAnyH_take (i := 8) (v := .int .i64 ((d : Int) + 1)) rfl (by kernel_rfl) (by kernel_rfl) (by kernel_rfl) (fun _ _ _ h => h) (Or.inl ⟨by rfl, fun W hW => by go_simp⟩) (by assumption) ?_
  simp only [Act.put, List.getElem_toArray, List.getElem_cons_zero, List.getElem_cons_succ, List.setIfInBounds_toArray, List.set_cons_zero, List.set_cons_succ]
  refine wpAnyH_take (i := 9) (v := .int .i64 key) rfl (by kernel_rfl) (by kernel_rfl) (by kernel_rfl) (fun _ _ _ h => h) (Or.inl ⟨by rfl, fun W hW => by go_simp⟩) (by assumption) ?_
  simp only [Act.put, List.getElem_toArray, List.getElem_cons_zero, List.getElem_cons_succ, List.setIfInBounds_toArray, List.set_cons_zero, List.set_cons_succ]
  refine wpAnyH_ready (rs := [10, 15]) (by kernel_rfl) (by simp) ?_
  refine AllReadyH.cons rfl (fun K hK => ?_) ?_
  · rw [if_pos (by rfl)]
    simp only [Go.wp_at_zero, Go.wp_at_succ]
    go_simp
    refine (ih'.out _ (P5'.out.to_.store.fresh (Kept.refl _ _).drew)).mono ?_
    rintro e w8 ⟨A8, v8, rfl, hT8, hO8⟩
    obtain ⟨Au, cu, rfl, _⟩ := EntsAt.form hO8.ents.at_
    obtain ⟨C1, hC1⟩ : ∃ C1, nodeCells n1 (.slice Au n1.ents.length cu) = C1 := ⟨_, rfl⟩
    have hC1l : Hid (C1.length = 18) := Lib.hid (by rw [← hC1]; exact nodeCells_len _ _)
    have hC11 : Hid (∀ v ∈ C1, v.oneCell' = true) := Lib.hid (by rw [← hC1]; exact nodeCells_one _ _ _ _)
    rw [hC1]
    have P8 := (P5'.out.fresh (Kept.refl _ _).drew).step hT8
    refine hK.out _ _ (P8.held hy'.out) (fun hH8 => ?_)
    clear hK K
    try simp only [Act.put, List.getElem_toArray, List.getElem_cons_zero, List.getElem_cons_succ, List.setIfInBounds_toArray, List.set_cons_zero, List.set_cons_succ]
    refine wpAnyH_take (i := 11) (v := .tuple #[.agg C1.toArray, .bool was, .int .i64 er]) rfl (by kernel_rfl) (by kernel_rfl) (by kernel_rfl) (fun _ _ _ h => h) (Or.inl ⟨by rfl, fun W hW => by go_simp⟩) (by assumption) ?_
    simp only [Act.put, List.getElem_toArray, List.getElem_cons_zero, List.getElem_cons_succ, List.setIfInBounds_toArray, List.set_cons_zero, List.set_cons_succ]
    refine wpAnyH_take (i := 12) (v := .agg C1.toArray) rfl (by kernel_rfl) (by kernel_rfl) (by kernel_rfl) (fun _ _ _ h => h) (Or.inl ⟨by rfl, fun W hW => by go_simp⟩) (by assumption) ?_
    simp only [Act.put, List.getElem_toArray, List.getElem_cons_zero, List.getElem_cons_succ, List.setIfInBounds_toArray, List.set_cons_zero, List.set_cons_succ]
    refine wpAnyH_take (i := 13) (v := .bool was) rfl (by kernel_rfl) (by kernel_rfl) (by kernel_rfl) (fun _ _ _ h => h) (Or.inl ⟨by rfl, fun W hW => by go_simp⟩) (by assumption) ?_
    simp only [Act.put, List.getElem_toArray, List.getElem_cons_zero, List.getElem_cons_succ, List.setIfInBounds_toArray, List.set_cons_zero, List.set_cons_succ]
    refine wpAnyH_take (i := 14) (v := .int .i64 er) rfl (by kernel_rfl) (by kernel_rfl) (by kernel_rfl) (fun _ _ _ h => h) (Or.inl ⟨by rfl, fun W hW => by go_simp⟩) (by assumption) ?_
    simp only [Act.put, List.getElem_toArray, List.getElem_cons_zero, List.getElem_cons_succ, List.setIfInBounds_toArray, List.set_cons_zero, List.set_cons_succ]
    refine wpAnyH_ready (rs := [15]) (by kernel_rfl) (by simp) ?_
    refine AllReadyH.cons rfl (fun K hK => ?_) ?_
    · refine step_alloc_as 33 rfl rfl Z.toArray hZz.out ?_
      obtain ⟨cb, hcbe⟩ : ∃ cb, w8.heap.size = cb := ⟨_, rfl⟩
      have kA := (Kept.refl (fun _ => False) w8).alloc (.cells Z.toArray 33)
      have hcb : (w8.alloc (.cells Z.toArray 33)).heap[cb]? = some (.cells Z.toArray 33 (0, 0)) := by rw [← hcbe]; exact heap_alloc_new _ _
      have P9 := P8.fresh kA
      have O9 := hO8.fresh kA
      have Sc : Safe (w8.alloc (.cells Z.toArray 33)) A8 cb := Safe.new P8.to_.store (by omega) (by simp; omega)
      have hd : ∀ k, A8.own k → k ≠ cb := fun k hk e => by have := P8.to_.store.lt hk; omega
      have hcn : nb < cb := by have := P8.sn.lt; omega
      have B10 := BoxAt.made P9.to_.store O9 hcb Sc
      have P10 := P9.boxed hcn Sc hcb hd (nodeCells n1 (.slice Au n1.ents.length cu)).toArray
      have hneC := Lib.hid (O9.types hcb (fun cur e => by cases e))
      rw [hC1] at B10 P10
      rw [hcbe]
      refine hK.out _ _ (P9.held hy'.out) (fun hH9 => ?_)
      clear hK K
      try simp only [Act.put, List.getElem_toArray, List.getElem_cons_zero, List.getElem_cons_succ, List.setIfInBounds_toArray, List.set_cons_zero, List.set_cons_succ]
      refine wpAnyH_ready (rs := [16]) (by kernel_rfl) (by simp) ?_
      refine AllReadyH.cons rfl (fun K hK => ?_) ?_
      · refine step_store_whole 33 rfl rfl (by rfl) C1 (by rfl) (by rw [hC1l.out]; exact node_size) 33 Z.toArray hcb (by simp [hC1l.out, hZl.out]) hC11.out ?_
        refine hK.out _ _ (P10.held hy'.out) (fun hH10 => ?_)
        clear hK K
        try simp only [Act.put, List.getElem_toArray, List.getElem_cons_zero, List.getElem_cons_succ, List.setIfInBounds_toArray, List.set_cons_zero, List.set_cons_succ]
        refine wpAnyH_take (i := 17) (v := .bool was) rfl (by kernel_rfl) (by kernel_rfl) (by kernel_rfl) (fun _ _ _ h => h) (Or.inl ⟨by rfl, fun W hW => by go_simp⟩) (by assumption) ?_
        simp only [Act.put, List.getElem_toArray, List.getElem_cons_zero, List.getElem_cons_succ, List.setIfInBounds_toArray, List.set_cons_zero, List.set_cons_succ]
        refine wpAnyH_take (i := 18) (v := .int .i64 er) rfl (by kernel_rfl) (by kernel_rfl) (by kernel_rfl) (fun _ _ _ h => h) (Or.inl ⟨by rfl, fun W hW => by go_simp⟩) (by assumption) ?_
        simp only [Act.put, List.getElem_toArray, List.getElem_cons_zero, List.getElem_cons_succ, List.setIfInBounds_toArray, List.set_cons_zero, List.set_cons_succ]
        refine wpAnyH_done (by kernel_rfl) ?_ _
        obtain ⟨w10, hw10⟩ : ∃ w10, (w8.alloc (.cells Z.toArray 33)).setRow cb C1.toArray = w10 := ⟨_, rfl⟩
        rw [hw10] at P10 B10 ⊢
        have P10' := Lib.hid P10
        have B10' := Lib.hid B10
        have hC1' := Lib.hid hC1
        have hcn' := Lib.hid hcn
        have hdA' := Lib.hid hd
        clear P10 B10 hw10 hC1 hcn P8 P9 O9 hd Sc hH hH8 hH9 hH10 hT8 hO8 kA hcb hcbe
        have q10 := Lib.hid (show w10.heap[nb]? = some (.cells F.toArray 33 (0, 0)) by rw [← hF'.out]; exact P10'.out.nbx.heap)
        have r10 := Lib.hid P10'.out.rb
        by_cases h0 : er = 0
        · subst h0
          cases was with
          | false =>
            have hres : Hid (cutRes n i d M1 n1 false 0 = (M1, n, false, 0)) := Lib.hid (by unfold cutRes; rw [if_pos (Or.inr rfl)])
            go_wp2_with (first | (refine wpList_load_agg 33 rfl rfl rfl _ Try.underlying33 rfl F (by rw [hFl.out]; exact node_size) (fun j v hv => by rw [cell_of_heap q10.out, Nat.zero_add]; simpa using hv) ?_) | (refine wpList_store_whole 33 rfl rfl rfl F rfl (by rw [hFl.out]; exact node_size) 33 _ r10.out (by simp [hFl.out, hZl.out]) hF1.out ?_))
            refine bodyPost_ret (results_row_tmp2 rfl _ _ (w.heap.size + 1) 33 F.toArray (0, 0) _ rfl (setRow_heap _ _ _ _ 33 (0, 0) r10.out) Try.underlying33 rfl (by simp only [List.size_toArray]; rw [hFl.out]; exact node_size)) rfl ?_
            have hS := P10'.out.stop h'.out F.toArray
            rw [hres.out]
            exact ⟨A8, .slice (some ⟨b, off, none⟩) n.ents.length cap, by rw [← hF'.out]; rfl, hS.1, hS.2⟩
          | true =>
            have hsb := P10'.out.to_.sb
            have tb10 := Lib.hid P10'.out.tb
            have cb10 := Lib.hid (show w10.heap[cb]? = some (.cells C1.toArray 33 (0, 0)) by rw [← hC1'.out]; exact B10'.out.box.heap)
            have hjn := pruneJoin P10'.out.to_.store P10'.out.own.ents.at_ B10'.out.ents i d (by omega) hiln hln6 hn1l
            have hjb := join_bound M1 (d := d) hiln hn1l
            rw [hsb, hF'.out, hC1'.out] at hjn
            have hres : Hid (cutRes n i d M1 n1 true 0 = if (M1.join n n1 i d).2.2.2 = 0 then
                (if (M1.split (M1.join n n1 i d).1).2.2 = 0 then ((M1.split (M1.join n n1 i d).1).1, { n with ents := n.ents.take (M1.join n n1 i d).2.1 ++ (M1.split (M1.join n n1 i d).1).2.1 ++ n.ents.drop (M1.join n n1 i d).2.2.1 }, true, 0)
                 else ((M1.split (M1.join n n1 i d).1).1, n, false, (M1.split (M1.join n n1 i d).1).2.2))
              else (M1, n, false, (M1.join n n1 i d).2.2.2)) := Lib.hid (by unfold cutRes; rw [if_neg (by simp)])
            obtain ⟨R, hR⟩ : ∃ R, M1.join n n1 i d = R := ⟨_, rfl⟩
            rw [hR] at hjn hjb
            simp only [hR] at hres
            obtain ⟨J, fr, to, ej⟩ := R
            dsimp only at hjn hjb hres
            obtain ⟨hjb1, hjb2, hjb3⟩ := hjb
            have hjn' := Lib.hid hjn
            have hsb' := Lib.hid hsb
            clear hjn hR hsb
            go_wp2_with (first | (refine wpList_load_agg 57 rfl rfl rfl _ Try.underlying57 rfl [.pointer (some ⟨A.sb, 0, none⟩)] (by kernel_rfl) (fun j v hj => by rw [Nat.zero_add, cell_of_heap tb10.out]; simpa using hj) ?_) | (refine wpList_load_agg 33 rfl rfl rfl _ Try.underlying33 rfl F (by rw [hFl.out]; exact node_size) (fun j v hv => by rw [cell_of_heap q10.out, Nat.zero_add]; simpa using hv) ?_) | (refine wpList_load_agg 33 rfl rfl rfl _ Try.underlying33 rfl C1 (by rw [hC1l.out]; exact node_size) (fun j v hv => by rw [cell_of_heap cb10.out, Nat.zero_add]; simpa using hv) ?_))
            refine hjn'.out.mono ?_
            rintro e w11 ⟨vJ, rfl, hJe, hk11, hJb⟩
            obtain ⟨AJ, cJ, rfl, _⟩ := EntsAt.form hJe.at_
            obtain ⟨D, hD⟩ : ∃ D, nodeCells J (.slice AJ J.ents.length cJ) = D := ⟨_, rfl⟩
            have hDl : Hid (D.length = 18) := Lib.hid (by rw [← hD]; exact nodeCells_len _ _)
            have hD1 : Hid (∀ v ∈ D, v.oneCell' = true) := Lib.hid (by rw [← hD]; exact nodeCells_one _ _ _ _)
            rw [hD]
            have hneJ : (Value.slice AJ J.ents.length cJ).ownBlock ≠ some cb := fun e => by
              rcases hJb cb e with h | h
              · exact hneC.out h
              · have := B10'.out.safe.lt; omega
            have P11 := P10'.out.fresh hk11
            have B11 := B10'.out.fresh hk11
            have hcb11 := Lib.hid (show w11.heap[cb]? = some (.cells C1.toArray 33 (0, 0)) by rw [← hC1'.out]; exact B11.box.heap)
            have B12 := B11.again hJe hneJ
            have P12 := P11.boxed hcn'.out B11.safe B11.box.heap hdA'.out D.toArray
            rw [hD] at B12
            obtain ⟨w12, hw12⟩ : ∃ w12, w11.setRow cb D.toArray = w12 := ⟨_, rfl⟩
            rw [hw12] at B12 P12
            have hw12' := Lib.hid hw12
            have P12' := Lib.hid P12
            have B12' := Lib.hid B12
            have q12 := Lib.hid (show w12.heap[nb]? = some (.cells F.toArray 33 (0, 0)) by rw [← hF'.out]; exact P12.nbx.heap)
            have r12 := Lib.hid P12.rb
            have ct12 := cell_of_heap P12.tb 0
            simp at ct12
            have tb12 := Lib.hid P12.tb
            have d12 := Lib.hid (show w12.heap[cb]? = some (.cells D.toArray 33 (0, 0)) by rw [← hD]; exact B12.box.heap)
            have hD' := Lib.hid hD
            clear hJe hk11 hJb hneJ P11 B11 B12 P12 hw12 hD
            by_cases h1 : ej = 0
            · subst h1
              rw [if_pos rfl] at hres
              have hsp := treeSplit P12'.out.to_.store B12'.out.ents hfew
              rw [hsb'.out, hD'.out] at hsp
              have hob := (split_bound M1 J).2
              obtain ⟨R, hR⟩ : ∃ R, M1.split J = R := ⟨_, rfl⟩
              rw [hR] at hsp hob
              simp only [hR] at hres
              obtain ⟨M2, out, er2⟩ := R
              dsimp only at hsp hres hob
              have hsp' := Lib.hid hsp
              clear hsp hR
              go_wp2_with (first | (refine wpList_store_whole 33 rfl rfl rfl D rfl (by rw [hDl.out]; exact node_size) 33 _ hcb11.out (by simp [hDl.out, hC1l.out]) hD1.out ?_; rw [hw12'.out]) | (refine wpList_load_agg 26 rfl rfl rfl _ Try.underlying26 rfl [.pointer (some ⟨A.sb, 0, none⟩)] (by kernel_rfl) (fun j v hj => by rw [Nat.zero_add, cell_of_heap tb12.out]; simpa using hj) ?_) | (refine wpList_load_agg 33 rfl rfl rfl _ Try.underlying33 rfl D (by rw [hDl.out]; exact node_size) (fun j v hv => by rw [cell_of_heap d12.out, Nat.zero_add]; simpa using hv) ?_))
              refine hsp'.out.mono ?_
              rintro e w13 ⟨A9, v9, rfl, hT9, hO9⟩
              obtain ⟨Ao, co, rfl, _⟩ := EntsAt.form hO9.ents.at_
              have P13 := Lib.hid (P12'.out.step hT9)
              have O13 := Lib.hid hO9
              have q13 := Lib.hid (show w13.heap[nb]? = some (.cells F.toArray 33 (0, 0)) by rw [← hF'.out]; exact P13.out.nbx.heap)
              have r13 := Lib.hid P13.out.rb
              have c13 := P13.out.nbx.c17
              clear hT9 hO9
              by_cases h2 : er2 = 0
              · subst h2
                rw [if_pos rfl] at hres
                go_wp2_with fail
                obtain ⟨C, hC⟩ : ∃ C, n.ents.take fr ++ out ++ n.ents.drop to = C := ⟨_, rfl⟩
                rw [hC] at hres
                by_cases hci : cap = to
                · have hcc : Hid (∀ W, Kept (fun _ => False) w13 W → Calls Try.prog 73 #[.slice (some ⟨W.heap.size, 0, none⟩) 3 3] (W.alloc (.cells #[.slice (some ⟨b, off, none⟩) fr cap, .slice Ao out.length co, .slice (some ⟨b, off, none⟩) 0 0] 31)) fun e w' => ∃ u, e = .returned u ∧ w'.ownsRow w13.heap.size 35 2 u C.length (entCells C) ∧ Kept (fun _ => False) W w') := Lib.hid (fun W kW => by
                    have hE7 := SliceAt.fresh P13.out.own.ents.at_ kW
                    rw [← hC]
                    refine Calls.mono (?_ : Calls _ _ _ _ fun e w' => ∃ u, e = .returned u ∧ w'.ownsRow (W.heap.size + 1) 35 2 u (n.ents.take fr ++ out ++ n.ents.drop to).length (entCells (n.ents.take fr ++ out ++ n.ents.drop to)) ∧ Kept (fun _ => False) W w') fun e w' ⟨u, he, ho, hk⟩ => ⟨u, he, owns_weaken ho (by have := kW.size; omega), hk⟩
                    refine concat3 (entsAt_take (m := fr) hE7 (by omega) rfl) (SliceAt.fresh O13.out.ents.at_ kW) ?_ (by simp only [List.length_take, List.length_drop]; omega)
                    rw [List.drop_eq_nil_of_le (by omega)]; exact sliceNil (by unfold maxLen; omega))
                  have hj0 : (fr : Int) ≤ (n.ents.length : Int) := by omega
                  have hj4 : (to : Int) ≤ (n.ents.length : Int) := by omega
                  have hj7 : (fr : Int) ≤ (cap : Int) := by omega
                  have hj9 : (n.ents.length : Int) ≤ (cap : Int) := by omega
                  have hd0 : n.ents.length - to = 0 := by omega
                  subst hci
                  have hj1 : (n.ents.length : Int) ≤ (cap : Int) := by omega
                  have hj3 : n.ents.length ≤ cap := by omega
                  have hj5 : (fr : Int) ≤ (cap : Int) := by omega
                  clear hC
                  go_region_law (rw [if_pos (by rfl)]; go_simp; refine (hcc.out _ (by exact (Kept.refl _ _).drew)).mono ?_; rintro e w14 ⟨u, rfl, hown14, hk14⟩; obtain ⟨A3, c3, rfl, _⟩ := EntsAt.form (show EntsAt w14 u C from SliceAt.of_owns hown14); have P14 := P13.out.fresh ((Kept.refl (fun _ => False) w13).drew.trans hk14); have hE := P14.ends h'.out (C := C) (base := w13.heap.size) ⟨hown14, fun g hg e => by have h1 := (hown14.lt g hg).1; have h2 := P13.out.to_.store.lt (.inl e); omega⟩ (P13.out.to_.kept.size); obtain ⟨G, hG⟩ : ∃ G, nodeCells { n with ents := C } (.slice A3 C.length c3) = G := ⟨_, rfl⟩; have hGl : Hid (G.length = 18) := Lib.hid (by rw [← hG]; exact nodeCells_len _ _); have hG1 : Hid (∀ v ∈ G, v.oneCell' = true) := Lib.hid (by rw [← hG]; exact nodeCells_one _ _ _ _); have q15 := Lib.hid (show (w14.setCell ⟨nb, 17, none⟩ (.slice A3 C.length c3)).heap[nb]? = some (.cells G.toArray 33 (0, 0)) by rw [← hG]; exact hE.1.heap); have r15 := Lib.hid hE.2.1; have fin15 := Lib.hid hE.2.2; have c14 := P14.nbx.c17; have f14 := free_of_heap P14.nbx.heap 17; have hG := Lib.hid hG; clear hE P14 hown14 hk14)
                  all_goals (
                    go_wp2_with (first | (refine wpList_load_agg 33 rfl rfl rfl _ Try.underlying33 rfl G (by rw [hGl.out]; exact node_size) (fun j v hv => by rw [cell_of_heap q15.out, Nat.zero_add]; simpa using hv) ?_) | (refine wpList_store_whole 33 rfl rfl rfl G rfl (by rw [hGl.out]; exact node_size) 33 _ r15.out (by simp [hGl.out, hZl.out]) hG1.out ?_))
                    refine bodyPost_ret (results_row_tmp2 rfl _ _ (w.heap.size + 1) 33 G.toArray (0, 0) _ rfl (setRow_heap _ _ _ _ 33 (0, 0) r15.out) Try.underlying33 rfl (by simp only [List.size_toArray]; rw [hGl.out]; exact node_size)) rfl ?_
                    rw [hres.out]
                    exact ⟨A9, .slice A3 C.length c3, by rw [← hG.out]; rfl, (fin15.out _).1, (fin15.out _).2⟩)
                · have hcc : Hid (∀ W, Kept (fun _ => False) w13 W → Calls Try.prog 73 #[.slice (some ⟨W.heap.size, 0, none⟩) 3 3] (W.alloc (.cells #[.slice (some ⟨b, off, none⟩) fr cap, .slice Ao out.length co, .slice (some ⟨b, off + to * 2, none⟩) (n.ents.length - to) (cap - to)] 31)) fun e w' => ∃ u, e = .returned u ∧ w'.ownsRow w13.heap.size 35 2 u C.length (entCells C) ∧ Kept (fun _ => False) W w') := Lib.hid (fun W kW => by
                    have hE7 := SliceAt.fresh P13.out.own.ents.at_ kW
                    rw [← hC]
                    refine Calls.mono (?_ : Calls _ _ _ _ fun e w' => ∃ u, e = .returned u ∧ w'.ownsRow (W.heap.size + 1) 35 2 u (n.ents.take fr ++ out ++ n.ents.drop to).length (entCells (n.ents.take fr ++ out ++ n.ents.drop to)) ∧ Kept (fun _ => False) W w') fun e w' ⟨u, he, ho, hk⟩ => ⟨u, he, owns_weaken ho (by have := kW.size; omega), hk⟩
                    refine concat3 (entsAt_take (m := fr) hE7 (by omega) rfl) (SliceAt.fresh O13.out.ents.at_ kW) ?_ (by simp only [List.length_take, List.length_drop]; omega)
                    exact entsAt_drop (m := to) hE7 (by omega) rfl)
                  have hj0 : (fr : Int) ≤ (n.ents.length : Int) := by omega
                  have hj4 : (to : Int) ≤ (n.ents.length : Int) := by omega
                  have hj7 : (fr : Int) ≤ (cap : Int) := by omega
                  have hj9 : (n.ents.length : Int) ≤ (cap : Int) := by omega
                  clear hC
                  go_region_law (rw [if_pos (by rfl)]; go_simp; refine (hcc.out _ (by exact (Kept.refl _ _).drew)).mono ?_; rintro e w14 ⟨u, rfl, hown14, hk14⟩; obtain ⟨A3, c3, rfl, _⟩ := EntsAt.form (show EntsAt w14 u C from SliceAt.of_owns hown14); have P14 := P13.out.fresh ((Kept.refl (fun _ => False) w13).drew.trans hk14); have hE := P14.ends h'.out (C := C) (base := w13.heap.size) ⟨hown14, fun g hg e => by have h1 := (hown14.lt g hg).1; have h2 := P13.out.to_.store.lt (.inl e); omega⟩ (P13.out.to_.kept.size); obtain ⟨G, hG⟩ : ∃ G, nodeCells { n with ents := C } (.slice A3 C.length c3) = G := ⟨_, rfl⟩; have hGl : Hid (G.length = 18) := Lib.hid (by rw [← hG]; exact nodeCells_len _ _); have hG1 : Hid (∀ v ∈ G, v.oneCell' = true) := Lib.hid (by rw [← hG]; exact nodeCells_one _ _ _ _); have q15 := Lib.hid (show (w14.setCell ⟨nb, 17, none⟩ (.slice A3 C.length c3)).heap[nb]? = some (.cells G.toArray 33 (0, 0)) by rw [← hG]; exact hE.1.heap); have r15 := Lib.hid hE.2.1; have fin15 := Lib.hid hE.2.2; have c14 := P14.nbx.c17; have f14 := free_of_heap P14.nbx.heap 17; have hG := Lib.hid hG; clear hE P14 hown14 hk14)
                  all_goals (
                    go_wp2_with (first | (refine wpList_load_agg 33 rfl rfl rfl _ Try.underlying33 rfl G (by rw [hGl.out]; exact node_size) (fun j v hv => by rw [cell_of_heap q15.out, Nat.zero_add]; simpa using hv) ?_) | (refine wpList_store_whole 33 rfl rfl rfl G rfl (by rw [hGl.out]; exact node_size) 33 _ r15.out (by simp [hGl.out, hZl.out]) hG1.out ?_))
                    refine bodyPost_ret (results_row_tmp2 rfl _ _ (w.heap.size + 1) 33 G.toArray (0, 0) _ rfl (setRow_heap _ _ _ _ 33 (0, 0) r15.out) Try.underlying33 rfl (by simp only [List.size_toArray]; rw [hGl.out]; exact node_size)) rfl ?_
                    rw [hres.out]
                    exact ⟨A9, .slice A3 C.length c3, by rw [← hG.out]; rfl, (fin15.out _).1, (fin15.out _).2⟩)
              · rw [if_neg h2] at hres
                have h2' : ((er2 : Int) == 0) = false := by rw [beq_eq_false_iff_ne]; omega
                clear h2
                go_wp2_with (first | (refine wpList_load_agg 33 rfl rfl rfl _ Try.underlying33 rfl F (by rw [hFl.out]; exact node_size) (fun j v hv => by rw [cell_of_heap q13.out, Nat.zero_add]; simpa using hv) ?_) | (refine wpList_store_whole 33 rfl rfl rfl F rfl (by rw [hFl.out]; exact node_size) 33 _ r13.out (by simp [hFl.out, hZl.out]) hF1.out ?_))
                refine bodyPost_ret (results_row_tmp2 rfl _ _ (w.heap.size + 1) 33 F.toArray (0, 0) _ rfl (setRow_heap _ _ _ _ 33 (0, 0) r13.out) Try.underlying33 rfl (by simp only [List.size_toArray]; rw [hFl.out]; exact node_size)) rfl ?_
                have hS := P13.out.stop h'.out F.toArray
                rw [hres.out]
                exact ⟨A9, .slice (some ⟨b, off, none⟩) n.ents.length cap, by rw [← hF'.out]; rfl, hS.1, hS.2⟩
            · rw [if_neg h1] at hres
              have h1' : ((ej : Int) == 0) = false := by rw [beq_eq_false_iff_ne]; omega
              clear h1
              go_wp2_with (first | (refine wpList_store_whole 33 rfl rfl rfl D rfl (by rw [hDl.out]; exact node_size) 33 _ hcb11.out (by simp [hDl.out, hC1l.out]) hD1.out ?_; rw [hw12'.out]) | (refine wpList_load_agg 33 rfl rfl rfl _ Try.underlying33 rfl F (by rw [hFl.out]; exact node_size) (fun j v hv => by rw [cell_of_heap q12.out, Nat.zero_add]; simpa using hv) ?_) | (refine wpList_store_whole 33 rfl rfl rfl F rfl (by rw [hFl.out]; exact node_size) 33 _ r12.out (by simp [hFl.out, hZl.out]) hF1.out ?_))
              refine bodyPost_ret (results_row_tmp2 rfl _ _ (w.heap.size + 1) 33 F.toArray (0, 0) _ rfl (setRow_heap _ _ _ _ 33 (0, 0) r12.out) Try.underlying33 rfl (by simp only [List.size_toArray]; rw [hFl.out]; exact node_size)) rfl ?_
              have hS := P12'.out.stop h'.out F.toArray
              rw [hres.out]
              exact ⟨A8, .slice (some ⟨b, off, none⟩) n.ents.length cap, by rw [← hF'.out]; rfl, hS.1, hS.2⟩
        · have hres : Hid (cutRes n i d M1 n1 was er = (M1, n, false, er)) := Lib.hid (by unfold cutRes; rw [if_pos (Or.inl h0)])
          have h0' : ((er : Int) == 0) = false := by rw [beq_eq_false_iff_ne]; omega
          have h0b : ((er : Int) != 0) = true := by rw [bne, h0']; rfl
          clear h0
          go_wp2_with (first | (refine wpList_load_agg 33 rfl rfl rfl _ Try.underlying33 rfl F (by rw [hFl.out]; exact node_size) (fun j v hv => by rw [cell_of_heap q10.out, Nat.zero_add]; simpa using hv) ?_) | (refine wpList_store_whole 33 rfl rfl rfl F rfl (by rw [hFl.out]; exact node_size) 33 _ r10.out (by simp [hFl.out, hZl.out]) hF1.out ?_))
          refine bodyPost_ret (results_row_tmp2 rfl _ _ (w.heap.size + 1) 33 F.toArray (0, 0) _ rfl (setRow_heap _ _ _ _ 33 (0, 0) r10.out) Try.underlying33 rfl (by simp only [List.size_toArray]; rw [hFl.out]; exact node_size)) rfl ?_
          have hS := P10'.out.stop h'.out F.toArray
          rw [hres.out]
          exact ⟨A8, .slice (some ⟨b, off, none⟩) n.ents.length cap, by rw [← hF'.out]; rfl, hS.1, hS.2⟩
      exact AllReadyH.nil
    exact AllReadyH.nil
  refine AllReadyH.cons rfl (fun K hK => ?_) ?_
  · refine step_alloc_as 33 rfl rfl Z.toArray hZz.out ?_
    obtain ⟨cb, hcbe⟩ : ∃ cb, w5.drew.heap.size = cb := ⟨_, rfl⟩
    have kA := (Kept.refl (fun _ => False) w5).drew.alloc (.cells Z.toArray 33)
    have hcb0 : (w5.drew.alloc (.cells Z.toArray 33)).heap[cb]? = some (.cells Z.toArray 33 (0, 0)) := by rw [← hcbe]; exact heap_alloc_new _ _
    have P8 := P5'.out.fresh kA
    have hcs : cb < (w5.drew.alloc (.cells Z.toArray 33)).heap.size := by rw [← hcbe]; simp
    have h5s := P5'.out.to_.store
    have hA : ∀ j, A.own j → j < cb := fun j hj => by have := h5s.lt hj; rw [← hcbe]; exact this
    have Sc0 : Safe (w5.drew.alloc (.cells Z.toArray 33)) A cb := ⟨hcs, fun e => Nat.lt_irrefl _ (hA _ (.inl e))⟩
    have hcn : nb < cb := by have := P5'.out.sn.lt; rw [← hcbe]; exact this
    rw [hcbe]
    obtain ⟨w8, hw8⟩ : ∃ w8, w5.drew.alloc (.cells Z.toArray 33) = w8 := ⟨_, rfl⟩
    rw [hw8] at P8 hcb0 hcs Sc0 ⊢
    refine hK.out _ _ (P8.held hy'.out) (fun hH8 => ?_)
    clear hK K
    try simp only [Act.put, List.getElem_toArray, List.getElem_cons_zero, List.getElem_cons_succ, List.setIfInBounds_toArray, List.set_cons_zero, List.set_cons_succ]
    refine wpAnyH_ready (rs := [10]) (by kernel_rfl) (by simp) ?_
    refine AllReadyH.cons rfl (fun K hK => ?_) ?_
    · rw [if_pos (by rfl)]
      simp only [Go.wp_at_zero, Go.wp_at_succ]
      go_simp
      refine (ih'.out _ P8.to_.store).mono ?_
      rintro e w9 ⟨A8, v8, rfl, hT8, hO8⟩
      obtain ⟨Au, cu, rfl, _⟩ := EntsAt.form hO8.ents.at_
      obtain ⟨C1, hC1⟩ : ∃ C1, nodeCells n1 (.slice Au n1.ents.length cu) = C1 := ⟨_, rfl⟩
      have hC1l : Hid (C1.length = 18) := Lib.hid (by rw [← hC1]; exact nodeCells_len _ _)
      have hC11 : Hid (∀ v ∈ C1, v.oneCell' = true) := Lib.hid (by rw [← hC1]; exact nodeCells_one _ _ _ _)
      rw [hC1]
      have P9 := P8.step hT8
      have hcb := hT8.get hcb0 Sc0
      have Sc := Sc0.to hT8
      have hd := hT8.own_ne hA hcs
      have O9 := hO8
      have B10 := BoxAt.made P9.to_.store O9 hcb Sc
      have P10 := P9.boxed hcn Sc hcb hd (nodeCells n1 (.slice Au n1.ents.length cu)).toArray
      have hneC := Lib.hid (O9.types hcb (fun cur e => by cases e))
      rw [hC1] at B10 P10
      refine hK.out _ _ (P9.held hy'.out) (fun hH9 => ?_)
      clear hK K
      try simp only [Act.put, List.getElem_toArray, List.getElem_cons_zero, List.getElem_cons_succ, List.setIfInBounds_toArray, List.set_cons_zero, List.set_cons_succ]
      refine wpAnyH_take (i := 11) (v := .tuple #[.agg C1.toArray, .bool was, .int .i64 er]) rfl (by kernel_rfl) (by kernel_rfl) (by kernel_rfl) (fun _ _ _ h => h) (Or.inl ⟨by rfl, fun W hW => by go_simp⟩) (by assumption) ?_
      simp only [Act.put, List.getElem_toArray, List.getElem_cons_zero, List.getElem_cons_succ, List.setIfInBounds_toArray, List.set_cons_zero, List.set_cons_succ]
      refine wpAnyH_take (i := 12) (v := .agg C1.toArray) rfl (by kernel_rfl) (by kernel_rfl) (by kernel_rfl) (fun _ _ _ h => h) (Or.inl ⟨by rfl, fun W hW => by go_simp⟩) (by assumption) ?_
      simp only [Act.put, List.getElem_toArray, List.getElem_cons_zero, List.getElem_cons_succ, List.setIfInBounds_toArray, List.set_cons_zero, List.set_cons_succ]
      refine wpAnyH_take (i := 13) (v := .bool was) rfl (by kernel_rfl) (by kernel_rfl) (by kernel_rfl) (fun _ _ _ h => h) (Or.inl ⟨by rfl, fun W hW => by go_simp⟩) (by assumption) ?_
      simp only [Act.put, List.getElem_toArray, List.getElem_cons_zero, List.getElem_cons_succ, List.setIfInBounds_toArray, List.set_cons_zero, List.set_cons_succ]
      refine wpAnyH_take (i := 14) (v := .int .i64 er) rfl (by kernel_rfl) (by kernel_rfl) (by kernel_rfl) (fun _ _ _ h => h) (Or.inl ⟨by rfl, fun W hW => by go_simp⟩) (by assumption) ?_
      simp only [Act.put, List.getElem_toArray, List.getElem_cons_zero, List.getElem_cons_succ, List.setIfInBounds_toArray, List.set_cons_zero, List.set_cons_succ]
      refine wpAnyH_ready (rs := [16]) (by kernel_rfl) (by simp) ?_
      refine AllReadyH.cons rfl (fun K hK => ?_) ?_
      · refine step_store_whole 33 rfl rfl (by rfl) C1 (by rfl) (by rw [hC1l.out]; exact node_size) 33 Z.toArray hcb (by simp [hC1l.out, hZl.out]) hC11.out ?_
        refine hK.out _ _ (P10.held hy'.out) (fun hH10 => ?_)
        clear hK K
        try simp only [Act.put, List.getElem_toArray, List.getElem_cons_zero, List.getElem_cons_succ, List.setIfInBounds_toArray, List.set_cons_zero, List.set_cons_succ]
        refine wpAnyH_take (i := 17) (v := .bool was) rfl (by kernel_rfl) (by kernel_rfl) (by kernel_rfl) (fun _ _ _ h => h) (Or.inl ⟨by rfl, fun W hW => by go_simp⟩) (by assumption) ?_
        simp only [Act.put, List.getElem_toArray, List.getElem_cons_zero, List.getElem_cons_succ, List.setIfInBounds_toArray, List.set_cons_zero, List.set_cons_succ]
        refine wpAnyH_take (i := 18) (v := .int .i64 er) rfl (by kernel_rfl) (by kernel_rfl) (by kernel_rfl) (fun _ _ _ h => h) (Or.inl ⟨by rfl, fun W hW => by go_simp⟩) (by assumption) ?_
        simp only [Act.put, List.getElem_toArray, List.getElem_cons_zero, List.getElem_cons_succ, List.setIfInBounds_toArray, List.set_cons_zero, List.set_cons_succ]
        refine wpAnyH_done (by kernel_rfl) ?_ _
        obtain ⟨w10, hw10⟩ : ∃ w10, w9.setRow cb C1.toArray = w10 := ⟨_, rfl⟩
        rw [hw10] at P10 B10 ⊢
        have P10' := Lib.hid P10
        have B10' := Lib.hid B10
        have hC1' := Lib.hid hC1
        have hcn' := Lib.hid hcn
        have hdA' := Lib.hid hd
        clear P10 B10 hw10 hC1 hcn P8 P9 O9 hd Sc Sc0 hH hH8 hH9 hH10 hT8 hO8 kA hcb hcb0 hcbe hcs h5s hA hw8
        have q10 := Lib.hid (show w10.heap[nb]? = some (.cells F.toArray 33 (0, 0)) by rw [← hF'.out]; exact P10'.out.nbx.heap)
        have r10 := Lib.hid P10'.out.rb
        by_cases h0 : er = 0
        · subst h0
          cases was with
          | false =>
            have hres : Hid (cutRes n i d M1 n1 false 0 = (M1, n, false, 0)) := Lib.hid (by unfold cutRes; rw [if_pos (Or.inr rfl)])
            go_wp2_with (first | (refine wpList_load_agg 33 rfl rfl rfl _ Try.underlying33 rfl F (by rw [hFl.out]; exact node_size) (fun j v hv => by rw [cell_of_heap q10.out, Nat.zero_add]; simpa using hv) ?_) | (refine wpList_store_whole 33 rfl rfl rfl F rfl (by rw [hFl.out]; exact node_size) 33 _ r10.out (by simp [hFl.out, hZl.out]) hF1.out ?_))
            refine bodyPost_ret (results_row_tmp2 rfl _ _ (w.heap.size + 1) 33 F.toArray (0, 0) _ rfl (setRow_heap _ _ _ _ 33 (0, 0) r10.out) Try.underlying33 rfl (by simp only [List.size_toArray]; rw [hFl.out]; exact node_size)) rfl ?_
            have hS := P10'.out.stop h'.out F.toArray
            rw [hres.out]
            exact ⟨A8, .slice (some ⟨b, off, none⟩) n.ents.length cap, by rw [← hF'.out]; rfl, hS.1, hS.2⟩
          | true =>
            have hsb := P10'.out.to_.sb
            have tb10 := Lib.hid P10'.out.tb
            have cb10 := Lib.hid (show w10.heap[cb]? = some (.cells C1.toArray 33 (0, 0)) by rw [← hC1'.out]; exact B10'.out.box.heap)
            have hjn := pruneJoin P10'.out.to_.store P10'.out.own.ents.at_ B10'.out.ents i d (by omega) hiln hln6 hn1l
            have hjb := join_bound M1 (d := d) hiln hn1l
            rw [hsb, hF'.out, hC1'.out] at hjn
            have hres : Hid (cutRes n i d M1 n1 true 0 = if (M1.join n n1 i d).2.2.2 = 0 then
                (if (M1.split (M1.join n n1 i d).1).2.2 = 0 then ((M1.split (M1.join n n1 i d).1).1, { n with ents := n.ents.take (M1.join n n1 i d).2.1 ++ (M1.split (M1.join n n1 i d).1).2.1 ++ n.ents.drop (M1.join n n1 i d).2.2.1 }, true, 0)
                 else ((M1.split (M1.join n n1 i d).1).1, n, false, (M1.split (M1.join n n1 i d).1).2.2))
              else (M1, n, false, (M1.join n n1 i d).2.2.2)) := Lib.hid (by unfold cutRes; rw [if_neg (by simp)])
            obtain ⟨R, hR⟩ : ∃ R, M1.join n n1 i d = R := ⟨_, rfl⟩
            rw [hR] at hjn hjb
            simp only [hR] at hres
            obtain ⟨J, fr, to, ej⟩ := R
            dsimp only at hjn hjb hres
            obtain ⟨hjb1, hjb2, hjb3⟩ := hjb
            have hjn' := Lib.hid hjn
            have hsb' := Lib.hid hsb
            clear hjn hR hsb
            go_wp2_with (first | (refine wpList_load_agg 57 rfl rfl rfl _ Try.underlying57 rfl [.pointer (some ⟨A.sb, 0, none⟩)] (by kernel_rfl) (fun j v hj => by rw [Nat.zero_add, cell_of_heap tb10.out]; simpa using hj) ?_) | (refine wpList_load_agg 33 rfl rfl rfl _ Try.underlying33 rfl F (by rw [hFl.out]; exact node_size) (fun j v hv => by rw [cell_of_heap q10.out, Nat.zero_add]; simpa using hv) ?_) | (refine wpList_load_agg 33 rfl rfl rfl _ Try.underlying33 rfl C1 (by rw [hC1l.out]; exact node_size) (fun j v hv => by rw [cell_of_heap cb10.out, Nat.zero_add]; simpa using hv) ?_))
            refine hjn'.out.mono ?_
            rintro e w11 ⟨vJ, rfl, hJe, hk11, hJb⟩
            obtain ⟨AJ, cJ, rfl, _⟩ := EntsAt.form hJe.at_
            obtain ⟨D, hD⟩ : ∃ D, nodeCells J (.slice AJ J.ents.length cJ) = D := ⟨_, rfl⟩
            have hDl : Hid (D.length = 18) := Lib.hid (by rw [← hD]; exact nodeCells_len _ _)
            have hD1 : Hid (∀ v ∈ D, v.oneCell' = true) := Lib.hid (by rw [← hD]; exact nodeCells_one _ _ _ _)
            rw [hD]
            have hneJ : (Value.slice AJ J.ents.length cJ).ownBlock ≠ some cb := fun e => by
              rcases hJb cb e with h | h
              · exact hneC.out h
              · have := B10'.out.safe.lt; omega
            have P11 := P10'.out.fresh hk11
            have B11 := B10'.out.fresh hk11
            have hcb11 := Lib.hid (show w11.heap[cb]? = some (.cells C1.toArray 33 (0, 0)) by rw [← hC1'.out]; exact B11.box.heap)
            have B12 := B11.again hJe hneJ
            have P12 := P11.boxed hcn'.out B11.safe B11.box.heap hdA'.out D.toArray
            rw [hD] at B12
            obtain ⟨w12, hw12⟩ : ∃ w12, w11.setRow cb D.toArray = w12 := ⟨_, rfl⟩
            rw [hw12] at B12 P12
            have hw12' := Lib.hid hw12
            have P12' := Lib.hid P12
            have B12' := Lib.hid B12
            have q12 := Lib.hid (show w12.heap[nb]? = some (.cells F.toArray 33 (0, 0)) by rw [← hF'.out]; exact P12.nbx.heap)
            have r12 := Lib.hid P12.rb
            have ct12 := cell_of_heap P12.tb 0
            simp at ct12
            have tb12 := Lib.hid P12.tb
            have d12 := Lib.hid (show w12.heap[cb]? = some (.cells D.toArray 33 (0, 0)) by rw [← hD]; exact B12.box.heap)
            have hD' := Lib.hid hD
            clear hJe hk11 hJb hneJ P11 B11 B12 P12 hw12 hD
            by_cases h1 : ej = 0
            · subst h1
              rw [if_pos rfl] at hres
              have hsp := treeSplit P12'.out.to_.store B12'.out.ents hfew
              rw [hsb'.out, hD'.out] at hsp
              have hob := (split_bound M1 J).2
              obtain ⟨R, hR⟩ : ∃ R, M1.split J = R := ⟨_, rfl⟩
              rw [hR] at hsp hob
              simp only [hR] at hres
              obtain ⟨M2, out, er2⟩ := R
              dsimp only at hsp hres hob
              have hsp' := Lib.hid hsp
              clear hsp hR
              go_wp2_with (first | (refine wpList_store_whole 33 rfl rfl rfl D rfl (by rw [hDl.out]; exact node_size) 33 _ hcb11.out (by simp [hDl.out, hC1l.out]) hD1.out ?_; rw [hw12'.out]) | (refine wpList_load_agg 26 rfl rfl rfl _ Try.underlying26 rfl [.pointer (some ⟨A.sb, 0, none⟩)] (by kernel_rfl) (fun j v hj => by rw [Nat.zero_add, cell_of_heap tb12.out]; simpa using hj) ?_) | (refine wpList_load_agg 33 rfl rfl rfl _ Try.underlying33 rfl D (by rw [hDl.out]; exact node_size) (fun j v hv => by rw [cell_of_heap d12.out, Nat.zero_add]; simpa using hv) ?_))
              refine hsp'.out.mono ?_
              rintro e w13 ⟨A9, v9, rfl, hT9, hO9⟩
              obtain ⟨Ao, co, rfl, _⟩ := EntsAt.form hO9.ents.at_
              have P13 := Lib.hid (P12'.out.step hT9)
              have O13 := Lib.hid hO9
              have q13 := Lib.hid (show w13.heap[nb]? = some (.cells F.toArray 33 (0, 0)) by rw [← hF'.out]; exact P13.out.nbx.heap)
              have r13 := Lib.hid P13.out.rb
              have c13 := P13.out.nbx.c17
              clear hT9 hO9
              by_cases h2 : er2 = 0
              · subst h2
                rw [if_pos rfl] at hres
                go_wp2_with fail
                obtain ⟨C, hC⟩ : ∃ C, n.ents.take fr ++ out ++ n.ents.drop to = C := ⟨_, rfl⟩
                rw [hC] at hres
                by_cases hci : cap = to
                · have hcc : Hid (∀ W, Kept (fun _ => False) w13 W → Calls Try.prog 73 #[.slice (some ⟨W.heap.size, 0, none⟩) 3 3] (W.alloc (.cells #[.slice (some ⟨b, off, none⟩) fr cap, .slice Ao out.length co, .slice (some ⟨b, off, none⟩) 0 0] 31)) fun e w' => ∃ u, e = .returned u ∧ w'.ownsRow w13.heap.size 35 2 u C.length (entCells C) ∧ Kept (fun _ => False) W w') := Lib.hid (fun W kW => by
                    have hE7 := SliceAt.fresh P13.out.own.ents.at_ kW
                    rw [← hC]
                    refine Calls.mono (?_ : Calls _ _ _ _ fun e w' => ∃ u, e = .returned u ∧ w'.ownsRow (W.heap.size + 1) 35 2 u (n.ents.take fr ++ out ++ n.ents.drop to).length (entCells (n.ents.take fr ++ out ++ n.ents.drop to)) ∧ Kept (fun _ => False) W w') fun e w' ⟨u, he, ho, hk⟩ => ⟨u, he, owns_weaken ho (by have := kW.size; omega), hk⟩
                    refine concat3 (entsAt_take (m := fr) hE7 (by omega) rfl) (SliceAt.fresh O13.out.ents.at_ kW) ?_ (by simp only [List.length_take, List.length_drop]; omega)
                    rw [List.drop_eq_nil_of_le (by omega)]; exact sliceNil (by unfold maxLen; omega))
                  have hj0 : (fr : Int) ≤ (n.ents.length : Int) := by omega
                  have hj4 : (to : Int) ≤ (n.ents.length : Int) := by omega
                  have hj7 : (fr : Int) ≤ (cap : Int) := by omega
                  have hj9 : (n.ents.length : Int) ≤ (cap : Int) := by omega
                  have hd0 : n.ents.length - to = 0 := by omega
                  subst hci
                  have hj1 : (n.ents.length : Int) ≤ (cap : Int) := by omega
                  have hj3 : n.ents.length ≤ cap := by omega
                  have hj5 : (fr : Int) ≤ (cap : Int) := by omega
                  clear hC
                  go_region_law (rw [if_pos (by rfl)]; go_simp; refine (hcc.out _ (by exact (Kept.refl _ _).drew)).mono ?_; rintro e w14 ⟨u, rfl, hown14, hk14⟩; obtain ⟨A3, c3, rfl, _⟩ := EntsAt.form (show EntsAt w14 u C from SliceAt.of_owns hown14); have P14 := P13.out.fresh ((Kept.refl (fun _ => False) w13).drew.trans hk14); have hE := P14.ends h'.out (C := C) (base := w13.heap.size) ⟨hown14, fun g hg e => by have h1 := (hown14.lt g hg).1; have h2 := P13.out.to_.store.lt (.inl e); omega⟩ (P13.out.to_.kept.size); obtain ⟨G, hG⟩ : ∃ G, nodeCells { n with ents := C } (.slice A3 C.length c3) = G := ⟨_, rfl⟩; have hGl : Hid (G.length = 18) := Lib.hid (by rw [← hG]; exact nodeCells_len _ _); have hG1 : Hid (∀ v ∈ G, v.oneCell' = true) := Lib.hid (by rw [← hG]; exact nodeCells_one _ _ _ _); have q15 := Lib.hid (show (w14.setCell ⟨nb, 17, none⟩ (.slice A3 C.length c3)).heap[nb]? = some (.cells G.toArray 33 (0, 0)) by rw [← hG]; exact hE.1.heap); have r15 := Lib.hid hE.2.1; have fin15 := Lib.hid hE.2.2; have c14 := P14.nbx.c17; have f14 := free_of_heap P14.nbx.heap 17; have hG := Lib.hid hG; clear hE P14 hown14 hk14)
                  all_goals (
                    go_wp2_with (first | (refine wpList_load_agg 33 rfl rfl rfl _ Try.underlying33 rfl G (by rw [hGl.out]; exact node_size) (fun j v hv => by rw [cell_of_heap q15.out, Nat.zero_add]; simpa using hv) ?_) | (refine wpList_store_whole 33 rfl rfl rfl G rfl (by rw [hGl.out]; exact node_size) 33 _ r15.out (by simp [hGl.out, hZl.out]) hG1.out ?_))
                    refine bodyPost_ret (results_row_tmp2 rfl _ _ (w.heap.size + 1) 33 G.toArray (0, 0) _ rfl (setRow_heap _ _ _ _ 33 (0, 0) r15.out) Try.underlying33 rfl (by simp only [List.size_toArray]; rw [hGl.out]; exact node_size)) rfl ?_
                    rw [hres.out]
                    exact ⟨A9, .slice A3 C.length c3, by rw [← hG.out]; rfl, (fin15.out _).1, (fin15.out _).2⟩)
                · have hcc : Hid (∀ W, Kept (fun _ => False) w13 W → Calls Try.prog 73 #[.slice (some ⟨W.heap.size, 0, none⟩) 3 3] (W.alloc (.cells #[.slice (some ⟨b, off, none⟩) fr cap, .slice Ao out.length co, .slice (some ⟨b, off + to * 2, none⟩) (n.ents.length - to) (cap - to)] 31)) fun e w' => ∃ u, e = .returned u ∧ w'.ownsRow w13.heap.size 35 2 u C.length (entCells C) ∧ Kept (fun _ => False) W w') := Lib.hid (fun W kW => by
                    have hE7 := SliceAt.fresh P13.out.own.ents.at_ kW
                    rw [← hC]
                    refine Calls.mono (?_ : Calls _ _ _ _ fun e w' => ∃ u, e = .returned u ∧ w'.ownsRow (W.heap.size + 1) 35 2 u (n.ents.take fr ++ out ++ n.ents.drop to).length (entCells (n.ents.take fr ++ out ++ n.ents.drop to)) ∧ Kept (fun _ => False) W w') fun e w' ⟨u, he, ho, hk⟩ => ⟨u, he, owns_weaken ho (by have := kW.size; omega), hk⟩
                    refine concat3 (entsAt_take (m := fr) hE7 (by omega) rfl) (SliceAt.fresh O13.out.ents.at_ kW) ?_ (by simp only [List.length_take, List.length_drop]; omega)
                    exact entsAt_drop (m := to) hE7 (by omega) rfl)
                  have hj0 : (fr : Int) ≤ (n.ents.length : Int) := by omega
                  have hj4 : (to : Int) ≤ (n.ents.length : Int) := by omega
                  have hj7 : (fr : Int) ≤ (cap : Int) := by omega
                  have hj9 : (n.ents.length : Int) ≤ (cap : Int) := by omega
                  clear hC
                  go_region_law (rw [if_pos (by rfl)]; go_simp; refine (hcc.out _ (by exact (Kept.refl _ _).drew)).mono ?_; rintro e w14 ⟨u, rfl, hown14, hk14⟩; obtain ⟨A3, c3, rfl, _⟩ := EntsAt.form (show EntsAt w14 u C from SliceAt.of_owns hown14); have P14 := P13.out.fresh ((Kept.refl (fun _ => False) w13).drew.trans hk14); have hE := P14.ends h'.out (C := C) (base := w13.heap.size) ⟨hown14, fun g hg e => by have h1 := (hown14.lt g hg).1; have h2 := P13.out.to_.store.lt (.inl e); omega⟩ (P13.out.to_.kept.size); obtain ⟨G, hG⟩ : ∃ G, nodeCells { n with ents := C } (.slice A3 C.length c3) = G := ⟨_, rfl⟩; have hGl : Hid (G.length = 18) := Lib.hid (by rw [← hG]; exact nodeCells_len _ _); have hG1 : Hid (∀ v ∈ G, v.oneCell' = true) := Lib.hid (by rw [← hG]; exact nodeCells_one _ _ _ _); have q15 := Lib.hid (show (w14.setCell ⟨nb, 17, none⟩ (.slice A3 C.length c3)).heap[nb]? = some (.cells G.toArray 33 (0, 0)) by rw [← hG]; exact hE.1.heap); have r15 := Lib.hid hE.2.1; have fin15 := Lib.hid hE.2.2; have c14 := P14.nbx.c17; have f14 := free_of_heap P14.nbx.heap 17; have hG := Lib.hid hG; clear hE P14 hown14 hk14)
                  all_goals (
                    go_wp2_with (first | (refine wpList_load_agg 33 rfl rfl rfl _ Try.underlying33 rfl G (by rw [hGl.out]; exact node_size) (fun j v hv => by rw [cell_of_heap q15.out, Nat.zero_add]; simpa using hv) ?_) | (refine wpList_store_whole 33 rfl rfl rfl G rfl (by rw [hGl.out]; exact node_size) 33 _ r15.out (by simp [hGl.out, hZl.out]) hG1.out ?_))
                    refine bodyPost_ret (results_row_tmp2 rfl _ _ (w.heap.size + 1) 33 G.toArray (0, 0) _ rfl (setRow_heap _ _ _ _ 33 (0, 0) r15.out) Try.underlying33 rfl (by simp only [List.size_toArray]; rw [hGl.out]; exact node_size)) rfl ?_
                    rw [hres.out]
                    exact ⟨A9, .slice A3 C.length c3, by rw [← hG.out]; rfl, (fin15.out _).1, (fin15.out _).2⟩)
              · rw [if_neg h2] at hres
                have h2' : ((er2 : Int) == 0) = false := by rw [beq_eq_false_iff_ne]; omega
                clear h2
                go_wp2_with (first | (refine wpList_load_agg 33 rfl rfl rfl _ Try.underlying33 rfl F (by rw [hFl.out]; exact node_size) (fun j v hv => by rw [cell_of_heap q13.out, Nat.zero_add]; simpa using hv) ?_) | (refine wpList_store_whole 33 rfl rfl rfl F rfl (by rw [hFl.out]; exact node_size) 33 _ r13.out (by simp [hFl.out, hZl.out]) hF1.out ?_))
                refine bodyPost_ret (results_row_tmp2 rfl _ _ (w.heap.size + 1) 33 F.toArray (0, 0) _ rfl (setRow_heap _ _ _ _ 33 (0, 0) r13.out) Try.underlying33 rfl (by simp only [List.size_toArray]; rw [hFl.out]; exact node_size)) rfl ?_
                have hS := P13.out.stop h'.out F.toArray
                rw [hres.out]
                exact ⟨A9, .slice (some ⟨b, off, none⟩) n.ents.length cap, by rw [← hF'.out]; rfl, hS.1, hS.2⟩
            · rw [if_neg h1] at hres
              have h1' : ((ej : Int) == 0) = false := by rw [beq_eq_false_iff_ne]; omega
              clear h1
              go_wp2_with (first | (refine wpList_store_whole 33 rfl rfl rfl D rfl (by rw [hDl.out]; exact node_size) 33 _ hcb11.out (by simp [hDl.out, hC1l.out]) hD1.out ?_; rw [hw12'.out]) | (refine wpList_load_agg 33 rfl rfl rfl _ Try.underlying33 rfl F (by rw [hFl.out]; exact node_size) (fun j v hv => by rw [cell_of_heap q12.out, Nat.zero_add]; simpa using hv) ?_) | (refine wpList_store_whole 33 rfl rfl rfl F rfl (by rw [hFl.out]; exact node_size) 33 _ r12.out (by simp [hFl.out, hZl.out]) hF1.out ?_))
              refine bodyPost_ret (results_row_tmp2 rfl _ _ (w.heap.size + 1) 33 F.toArray (0, 0) _ rfl (setRow_heap _ _ _ _ 33 (0, 0) r12.out) Try.underlying33 rfl (by simp only [List.size_toArray]; rw [hFl.out]; exact node_size)) rfl ?_
              have hS := P12'.out.stop h'.out F.toArray
              rw [hres.out]
              exact ⟨A8, .slice (some ⟨b, off, none⟩) n.ents.length cap, by rw [← hF'.out]; rfl, hS.1, hS.2⟩
        · have hres : Hid (cutRes n i d M1 n1 was er = (M1, n, false, er)) := Lib.hid (by unfold cutRes; rw [if_pos (Or.inl h0)])
          have h0' : ((er : Int) == 0) = false := by rw [beq_eq_false_iff_ne]; omega
          have h0b : ((er : Int) != 0) = true := by rw [bne, h0']; rfl
          clear h0
          go_wp2_with (first | (refine wpList_load_agg 33 rfl rfl rfl _ Try.underlying33 rfl F (by rw [hFl.out]; exact node_size) (fun j v hv => by rw [cell_of_heap q10.out, Nat.zero_add]; simpa using hv) ?_) | (refine wpList_store_whole 33 rfl rfl rfl F rfl (by rw [hFl.out]; exact node_size) 33 _ r10.out (by simp [hFl.out, hZl.out]) hF1.out ?_))
          refine bodyPost_ret (results_row_tmp2 rfl _ _ (w.heap.size + 1) 33 F.toArray (0, 0) _ rfl (setRow_heap _ _ _ _ 33 (0, 0) r10.out) Try.underlying33 rfl (by simp only [List.size_toArray]; rw [hFl.out]; exact node_size)) rfl ?_
          have hS := P10'.out.stop h'.out F.toArray
          rw [hres.out]
          exact ⟨A8, .slice (some ⟨b, off, none⟩) n.ents.length cap, by rw [← hF'.out]; rfl, hS.1, hS.2⟩
      exact AllReadyH.nil
    exact AllReadyH.nil
  exact AllReadyH.nil
end Go.Proofs.Ythmjcbmeiabbgaa
/-
  Pruners (package prune): cut, whole.
-/
namespace Go.Proofs.Ythmjcbmeiabbgaa
open Go.RowKit
set_option maxRecDepth 100000

theorem cutF_inner {f : Nat} {M : SM} {root key : Int} {n : NM} {i : Nat} (hR : M.tnode root (8 - f) = (n, 0)) (hk : n.kind = 3) (hi : atI n.ents key = i) :
    SM.cutF (f + 1) M root key = cutRes n i (8 - f) (SM.cutF f M (n.ents.getD i (0, 0)).2 key).1 (SM.cutF f M (n.ents.getD i (0, 0)).2 key).2.1 (SM.cutF f M (n.ents.getD i (0, 0)).2 key).2.2.1 (SM.cutF f M (n.ents.getD i (0, 0)).2 key).2.2.2 := by
  conv => lhs; unfold SM.cutF
  rw [hR]
  dsimp only
  rw [hi, if_neg (by omega), if_neg (by omega), Int.toNat_natCast]
  rfl
theorem cutF_leaf {f : Nat} {M : SM} {root key : Int} {n : NM} {i : Nat} (hR : M.tnode root (8 - f) = (n, 0)) (hk : n.kind = 2) (hi : atI n.ents key = i) :
    SM.cutF (f + 1) M root key = if (n.ents.getD i (0, 0)).1 = key then (M, { n with ents := n.ents.take i ++ n.ents.drop (i + 1) }, true, 0) else (M, n, false, 0) := by
  conv => lhs; unfold SM.cutF
  rw [hR]
  dsimp only
  rw [hi, if_neg (by omega), if_pos hk, Int.toNat_natCast]
theorem cutF_stop {f : Nat} {M : SM} {root key : Int} {n : NM} {er : Nat} (hR : M.tnode root (8 - f) = (n, er)) (h : er ≠ 0 ∨ atI n.ents key < 0) : SM.cutF (f + 1) M root key = (M, n, false, er) := by
  conv => lhs; unfold SM.cutF
  rw [hR]
  dsimp only
  rw [if_pos h]
theorem cutRes_log (n : NM) (i d : Nat) (M1 : SM) (n1 : NM) (was : Bool) (er : Nat) : (cutRes n i d M1 n1 was er).1.log.length ≤ M1.log.length + 2 := by
  have h := (split_bound M1 (M1.join n n1 i d).1).1
  unfold cutRes
  split
  · dsimp only; omega
  · split
    · split <;> exact h
    · dsimp only; omega
theorem cutRes_len {n : NM} {i d : Nat} {M1 : SM} {n1 : NM} {was : Bool} {er : Nat} (hi : i < n.ents.length) (hl : n.ents.length ≤ 6) (hc : n1.ents.length ≤ 12) : (cutRes n i d M1 n1 was er).2.1.ents.length ≤ 12 := by
  have h := (split_bound M1 (M1.join n n1 i d).1).2
  obtain ⟨h1, h2, h3⟩ := join_bound M1 (d := d) hi hc
  unfold cutRes
  split
  · dsimp only; omega
  · split
    · split
      · dsimp only
        simp only [List.length_append, List.length_take, List.length_drop]
        omega
      · dsimp only; omega
    · dsimp only; omega
/-- What a cut finds at a page: nothing, a leaf, or an inner node. -/
theorem cut_cases {w : World} {A : SA} {M : SM} (h : StoreAt w A M) (root key : Int) (d : Nat) {n : NM} {er : Nat} (hR : M.tnode root d = (n, er)) :
    RisesK n.ents ∧ n.ents.length ≤ 6 ∧ ((er ≠ 0 ∨ atI n.ents key < 0) ∨ (er = 0 ∧ InnerOk n ∧ ∃ i : Nat, atI n.ents key = i ∧ i < n.ents.length)) := by
  by_cases h0 : er = 0
  · subst h0
    have hin := (tnode_ok h (i := root) (d := d) (by rw [hR])).1
    rw [hR] at hin
    refine ⟨hin.keys, hin.le, ?_⟩
    have hb := atI_bound (l := n.ents) key
    by_cases ha : atI n.ents key < 0
    · exact .inl (.inr ha)
    · obtain ⟨i, hi⟩ := Int.eq_ofNat_of_zero_le (show 0 ≤ atI n.ents key by omega)
      exact .inr ⟨rfl, hin, i, hi, by omega⟩
  · have he := tnode_err (M := M) (i := root) (d := d) (by rw [hR]; exact h0)
    rw [hR] at he
    dsimp only at he
    rw [he]
    exact ⟨by simp [RisesK], Nat.zero_le _, .inl (.inl h0)⟩
theorem cutF_log {w : World} {A : SA} {M : SM} (h : StoreAt w A M) : ∀ (f : Nat) (r key : Int), (SM.cutF f M r key).1.log.length ≤ M.log.length + 2 * f ∧ (SM.cutF f M r key).2.1.ents.length ≤ 12
  | 0, _, _ => by simp [SM.cutF, NM.zero]
  | f + 1, r, key => by
    obtain ⟨R, hR⟩ : ∃ R, M.tnode r (8 - f) = R := ⟨_, rfl⟩
    obtain ⟨n, er⟩ := R
    obtain ⟨_, hl, hc⟩ := cut_cases h r key (8 - f) hR
    rcases hc with hc | ⟨rfl, hin, i, hi, hil⟩
    · rw [cutF_stop hR hc]
      dsimp only
      omega
    · rcases hin.kind with hk | hk
      · rw [cutF_leaf hR hk hi]
        split
        · dsimp only
          simp only [List.length_append, List.length_take, List.length_drop]
          omega
        · dsimp only; omega
      · rw [cutF_inner hR hk hi]
        obtain ⟨ih1, ih2⟩ := cutF_log h f (n.ents.getD i (0, 0)).2 key
        have h1 := cutRes_log n i (8 - f) (SM.cutF f M (n.ents.getD i (0, 0)).2 key).1 (SM.cutF f M (n.ents.getD i (0, 0)).2 key).2.1 (SM.cutF f M (n.ents.getD i (0, 0)).2 key).2.2.1 (SM.cutF f M (n.ents.getD i (0, 0)).2 key).2.2.2
        exact ⟨by omega, cutRes_len hil hl ih2⟩

theorem pruneCutF : ∀ (f : Nat), 0 < f → f ≤ 9 → ∀ {w : World} {A : SA} {M : SM} (root key : Int), StoreAt w A M → M.log.length + 2 * f + 2 < 100000000 →
    Calls Try.prog 59 #[.agg #[.pointer (some ⟨A.sb, 0, none⟩)], .int .i64 root, .int .i64 ((9 - f : Nat) : Int), .int .i64 key] w fun e w' =>
      ∃ A' v, e = .returned (.tuple #[.agg (nodeCells (SM.cutF f M root key).2.1 v).toArray, .bool (SM.cutF f M root key).2.2.1, .int .i64 (SM.cutF f M root key).2.2.2]) ∧ StoreTo A A' (SM.cutF f M root key).1 w w' ∧ OutAt w' A' w.heap.size v (SM.cutF f M root key).2.1.ents
  | 0, h0, _, _, _, _, _, _, _, _ => by omega
  | f + 1, _, hf, w, A, M, root, key, h, hfew => by
    have still : ∀ {n : NM} {was : Bool} {er : Nat} {w' : World} {v : Value}, w'.ownsRow w.heap.size 35 2 v n.ents.length (entCells n.ents) → Kept (fun _ => False) w w' → SM.cutF (f + 1) M root key = (M, n, was, er) →
        StoreTo A A (SM.cutF (f + 1) M root key).1 w w' ∧ OutAt w' A w.heap.size v (SM.cutF (f + 1) M root key).2.1.ents := fun ho hk e => by
      rw [e]
      exact ⟨(StoreTo.refl h).fresh hk, ho, fun b hb e => by have := (ho.lt b hb).1; have := h.lt (.inl e); omega⟩
    have e9 : 9 - (f + 1) = 8 - f := by omega
    rw [e9]
    obtain ⟨R, hR⟩ : ∃ R, M.tnode root (8 - f) = R := ⟨_, rfl⟩
    obtain ⟨n, er⟩ := R
    obtain ⟨hkeys, hl, hc⟩ := cut_cases h root key (8 - f) hR
    rcases hc with hc | ⟨rfl, hin, i, hi, hil⟩
    · have e := cutF_stop hR hc
      refine (cutStop h root (8 - f) (by omega) key hR hkeys hl hc).mono ?_
      rintro e' w' ⟨v, he, ho, hk⟩
      have hst := still (n := n) ho hk e
      exact ⟨A, v, by rw [he, e], hst.1, hst.2⟩
    · rcases hin.kind with hk2 | hk3
      · have e := cutF_leaf hR hk2 hi
        by_cases hy : (n.ents.getD i (0, 0)).1 = key
        · rw [if_pos hy] at e
          refine (cutSame h root (8 - f) (by omega) key hR hin hk2 hi hy rfl).mono ?_
          rintro e' w' ⟨v, he, ho, hk⟩
          have hst := still (n := { n with ents := n.ents.take i ++ n.ents.drop (i + 1) }) ho hk e
          exact ⟨A, v, by rw [he, e]; rfl, hst.1, hst.2⟩
        · rw [if_neg hy] at e
          refine (cutOther h root (8 - f) (by omega) key hR hin hk2 hi hy).mono ?_
          rintro e' w' ⟨v, he, ho, hk⟩
          have hst := still (n := n) ho hk e
          exact ⟨A, v, by rw [he, e]; rfl, hst.1, hst.2⟩
      · have hd8 := (tnode_ok h (i := root) (d := 8 - f) (by rw [hR])).2
        rw [cutF_inner hR hk3 hi]
        obtain ⟨hlog, hlen⟩ := cutF_log h f (n.ents.getD i (0, 0)).2 key
        refine cutInner h root (8 - f) (by omega) key hR hin hk3 hi (by omega) hlen fun W hW => ?_
        have := pruneCutF f (by omega) (by omega) (n.ents.getD i (0, 0)).2 key hW (by omega)
        rw [show 9 - f = 8 - f + 1 by omega, Int.natCast_add, Int.natCast_one] at this
        exact this
end Go.Proofs.Ythmjcbmeiabbgaa
/-
  Pruners (package prune): Cut.
-/
namespace Go.Proofs.Ythmjcbmeiabbgaa
open Go.RowKit
set_option maxRecDepth 100000

theorem cut_log {w : World} {A : SA} {M : SM} (h : StoreAt w A M) (root key : Int) : (M.cut root key).1.log.length ≤ M.log.length + 20 := by
  have h1 := (cutF_log h 9 root key).1
  have h2 := (split_bound (SM.cutF 9 M root key).1 (SM.cutF 9 M root key).2.1).1
  unfold SM.cut
  split
  · dsimp only; omega
  · split
    · dsimp only; omega
    · dsimp only
      split
      · dsimp only; omega
      · split
        · dsimp only; omega
        · split
          · dsimp only; omega
          · split <;> (dsimp only; omega)
set_option maxHeartbeats 8000000 in
theorem pruneCut {w : World} {A : SA} {M : SM} (h : StoreAt w A M) (root key : Int) (hfew : M.log.length + 30 < 100000000) :
    Calls Try.prog 30 #[.agg #[.pointer (some ⟨A.sb, 0, none⟩)], .int .i64 root, .int .i64 key] w fun e w' => ∃ A', e = .returned (.tuple #[.int .i64 (M.cut root key).2.1, .bool (M.cut root key).2.2.1, .int .i64 (M.cut root key).2.2.2]) ∧ StoreTo A A' (M.cut root key).1 w w' := by
  obtain ⟨w1, hw1⟩ : ∃ w1, w.alloc (.cells #[.pointer (some ⟨A.sb, 0, none⟩)] 57) = w1 := ⟨_, rfl⟩
  have k1 : Kept (fun _ => False) w w1 := by rw [← hw1]; exact (Kept.refl _ _).alloc _
  have s1 : w1.heap.size = w.heap.size + 1 := by rw [← hw1]; simp
  have t1 : w1.heap[w.heap.size]? = some (.cells #[.pointer (some ⟨A.sb, 0, none⟩)] 57 (0, 0)) := by rw [← hw1]; exact heap_alloc_new _ _
  have k1' := Lib.hid k1
  have hw1' := Lib.hid hw1
  have h' := Lib.hid h
  by_cases hk0 : key < 0
  · have e : Hid (M.cut root key = (M, -1, false, 101)) := Lib.hid (by unfold SM.cut; rw [if_pos (.inl hk0)])
    clear hw1 k1 s1 t1 h
    go_enter Try.func30, Try.ntmps30
    go_wp2_with (first | (refine wpList_box_named 57 rfl rfl _ rfl hw1'.out ?_))
    go_ret3
    first | exact ⟨A, by rw [e.out]; rfl, by rw [e.out]; exact (StoreTo.refl h'.out).fresh k1'.out⟩ | exact ⟨by rw [e.out]; rfl, A, by rw [e.out]; exact (StoreTo.refl h'.out).fresh k1'.out⟩
  by_cases hk1 : 64 ≤ key
  · have e : Hid (M.cut root key = (M, -1, false, 101)) := Lib.hid (by unfold SM.cut; rw [if_pos (.inr hk1)])
    clear hw1 k1 s1 t1 h
    go_enter Try.func30, Try.ntmps30
    go_wp2_with (first | (refine wpList_box_named 57 rfl rfl _ rfl hw1'.out ?_))
    go_ret3
    first | exact ⟨A, by rw [e.out]; rfl, by rw [e.out]; exact (StoreTo.refl h'.out).fresh k1'.out⟩ | exact ⟨by rw [e.out]; rfl, A, by rw [e.out]; exact (StoreTo.refl h'.out).fresh k1'.out⟩
  by_cases hr : root = -1
  · subst hr
    have e : Hid (M.cut (-1) key = (M, -1, false, 0)) := Lib.hid (by unfold SM.cut; rw [if_neg (by omega), if_pos rfl])
    clear hw1 k1 s1 t1 h
    go_enter Try.func30, Try.ntmps30
    go_wp2_with (first | (refine wpList_box_named 57 rfl rfl _ rfl hw1'.out ?_))
    go_ret3
    first | exact ⟨A, by rw [e.out]; rfl, by rw [e.out]; exact (StoreTo.refl h'.out).fresh k1'.out⟩ | exact ⟨by rw [e.out]; rfl, A, by rw [e.out]; exact (StoreTo.refl h'.out).fresh k1'.out⟩
  have hrb : (root == -1) = false := by simpa using hr
  have hP := pruneCutF 9 (by omega) (Nat.le_refl _) root key (h.fresh k1) (by omega)
  have hlog := (cutF_log h 9 root key).1
  have hcut : Hid (M.cut root key = if (SM.cutF 9 M root key).2.2.2 ≠ 0 then ((SM.cutF 9 M root key).1, -1, false, (SM.cutF 9 M root key).2.2.2)
      else if (SM.cutF 9 M root key).2.2.1 = false then ((SM.cutF 9 M root key).1, root, false, 0)
      else if (SM.cutF 9 M root key).2.1.kind = 3 ∧ (SM.cutF 9 M root key).2.1.ents.length = 1 then ((SM.cutF 9 M root key).1, ((SM.cutF 9 M root key).2.1.ents.getD 0 (0, 0)).2, true, 0)
      else if ((SM.cutF 9 M root key).1.split (SM.cutF 9 M root key).2.1).2.2 ≠ 0 ∨ ((SM.cutF 9 M root key).1.split (SM.cutF 9 M root key).2.1).2.1.length = 0 then (((SM.cutF 9 M root key).1.split (SM.cutF 9 M root key).2.1).1, -1, ((SM.cutF 9 M root key).1.split (SM.cutF 9 M root key).2.1).2.2 == 0, ((SM.cutF 9 M root key).1.split (SM.cutF 9 M root key).2.1).2.2)
      else (((SM.cutF 9 M root key).1.split (SM.cutF 9 M root key).2.1).1, (((SM.cutF 9 M root key).1.split (SM.cutF 9 M root key).2.1).2.1.getD 0 (0, 0)).2, true, 0)) := Lib.hid (by unfold SM.cut; rw [if_neg (by omega), if_neg hr])
  obtain ⟨R, hR⟩ : ∃ R, SM.cutF 9 M root key = R := ⟨_, rfl⟩
  rw [hR] at hP hlog
  simp only [hR] at hcut
  obtain ⟨M1, n1, was, er⟩ := R
  dsimp only at hP hlog hcut
  have hP' := Lib.hid hP
  obtain ⟨Z, hZ⟩ : ∃ Z, nodeCells NM.zero (.slice none 0 0) = Z := ⟨_, rfl⟩
  have hZz : Hid ((Try.prog.info? 33).map (·.zero) = some (some (.agg Z.toArray))) := Lib.hid (by rw [← hZ]; exact node_zero)
  have hZl : Hid (Z.length = 18) := Lib.hid (by rw [← hZ]; exact nodeCells_len _ _)
  have t1' := Lib.hid t1
  have sf1 : Hid (Safe w1 A w.heap.size) := Lib.hid (Safe.new h (Nat.le_refl _) (by omega))
  have hload1 : Hid (∀ j v, [Value.pointer (some ⟨A.sb, 0, none⟩)][j]? = some v → w1.cell? ⟨w.heap.size, 0 + j, none⟩ = some v) := Lib.hid (fun j v hj => by rw [Nat.zero_add, cell_of_heap t1]; simpa using hj)
  have st1 := Lib.hid ((StoreTo.refl h).fresh k1)
  have hsz1 := s1
  clear hw1 k1 s1 t1 h hP hR hr hZ
  go_enter Try.func30, Try.ntmps30
  go_wp2_with (first | (refine wpList_box_named 57 rfl rfl _ rfl hw1'.out ?_) | (refine wpList_load_agg 57 rfl rfl rfl _ Try.underlying57 rfl [.pointer (some ⟨A.sb, 0, none⟩)] (by kernel_rfl) hload1.out ?_))
  refine hP'.out.mono ?_
  rintro e' w3 ⟨A3, v, rfl, hT3, hO3⟩
  obtain ⟨Av, cap, rfl, hf1, hf2⟩ := EntsAt.form hO3.ents.at_
  unfold maxLen at hf2
  obtain ⟨F, hF⟩ : ∃ F, nodeCells n1 (.slice Av n1.ents.length cap) = F := ⟨_, rfl⟩
  have hFl : Hid (F.length = 18) := Lib.hid (by rw [← hF]; exact nodeCells_len _ _)
  have hF1 : Hid (∀ v ∈ F, v.oneCell' = true) := Lib.hid (by rw [← hF]; exact nodeCells_one _ _ _ _)
  obtain ⟨nb, hnb⟩ : ∃ nb, w3.heap.size = nb := ⟨_, rfl⟩
  obtain ⟨w5, hw5⟩ : ∃ w5, (w3.alloc (.cells Z.toArray 33)).setRow nb F.toArray = w5 := ⟨_, rfl⟩
  have k5 : Kept (fun _ => False) w3 w5 := by rw [← hw5]; exact ((Kept.refl _ _).alloc _).setRowNew (by omega) _
  have q5 := Lib.hid (show w5.heap[nb]? = some (.cells F.toArray 33 (0, 0)) by rw [← hw5, ← hnb]; exact setRow_heap _ _ _ _ _ _ (heap_alloc_new _ _))
  have bx5 : NodeBox w5 nb n1 (.slice Av n1.ents.length cap) := ⟨by rw [hF]; exact q5.out⟩
  have c0 := bx5.c0
  have c17 := bx5.c17
  have t5 := Lib.hid (k5.get (hT3.get t1'.out sf1.out) id)
  have ct5 := cell_of_heap t5.out 0
  simp at ct5
  have hT5 := Lib.hid ((st1.out.trans hT3).fresh k5)
  have hsb := hT3.sb
  have hO5 := Lib.hid (hO3.ents.fresh k5)
  have hSp := treeSplit hT5.out.store hO5.out (by omega)
  rw [hF, hsb] at hSp
  have hSp' := Lib.hid hSp
  have hnb' := Lib.hid hnb
  have hw5' := Lib.hid hw5
  rw [hF]
  clear hT3 hO3 hF hnb hw5 k5 hSp hsb bx5
  by_cases h0 : er = 0
  · subst h0
    rw [if_neg (by simp)] at hcut
    cases was with
    | false =>
      rw [if_pos rfl] at hcut
      go_wp2_with (first | (refine wpList_alloc_as 33 rfl rfl Z.toArray hZz.out ?_; rw [hnb'.out]) | (refine wpList_store_whole 33 rfl rfl rfl F rfl (by rw [hFl.out]; exact node_size) 33 _ (by rw [← hnb'.out]; exact heap_alloc_new _ _) (by simp [hFl.out, hZl.out]) hF1.out ?_; rw [hw5'.out]))
      go_ret3
      first | exact ⟨A3, by rw [hcut.out]; rfl, by rw [hcut.out]; exact hT5.out⟩ | exact ⟨by rw [hcut.out]; rfl, A3, by rw [hcut.out]; exact hT5.out⟩
    | true =>
      rw [if_neg (by simp)] at hcut
      by_cases hone : n1.kind = 3 ∧ n1.ents.length = 1
      · obtain ⟨hk3, hl1⟩ := hone
        rw [if_pos ⟨hk3, hl1⟩] at hcut
        obtain ⟨x, hx⟩ : ∃ x, n1.ents[0]? = some x := ⟨_, List.getElem?_eq_getElem (by omega)⟩
        obtain ⟨b, off, rfl, _, hx1, hx2⟩ := EntsAt.get hO5.out.at_ hx
        have hxd : n1.ents.getD 0 (0, 0) = x := by simp [hx]
        rw [hxd] at hcut
        rw [Nat.zero_mul, Nat.add_zero] at hx1 hx2
        rw [hk3] at c0
        rw [hl1] at c17
        clear hx hxd hk3 hl1 hf1
        go_wp2_with (first | (refine wpList_alloc_as 33 rfl rfl Z.toArray hZz.out ?_; rw [hnb'.out]) | (refine wpList_store_whole 33 rfl rfl rfl F rfl (by rw [hFl.out]; exact node_size) 33 _ (by rw [← hnb'.out]; exact heap_alloc_new _ _) (by simp [hFl.out, hZl.out]) hF1.out ?_; rw [hw5'.out]))
        go_ret3
        first | exact ⟨A3, by rw [hcut.out]; rfl, by rw [hcut.out]; exact hT5.out⟩ | exact ⟨by rw [hcut.out]; rfl, A3, by rw [hcut.out]; exact hT5.out⟩
      · rw [if_neg hone] at hcut
        obtain ⟨R, hR⟩ : ∃ R, M1.split n1 = R := ⟨_, rfl⟩
        rw [hR] at hSp'
        simp only [hR] at hcut
        obtain ⟨M2, out, er2⟩ := R
        dsimp only at hSp' hcut
        clear hR
        have fin : Hid (∀ w6 A6, StoreTo A3 A6 M2 w5 w6 → StoreTo A A6 M2 w w6) := Lib.hid (fun w6 A6 k => hT5.out.trans k)
        by_cases hk3 : n1.kind = 3
        · have hl1 : ((n1.ents.length : Int) == 1) = false := by rw [beq_eq_false_iff_ne]; intro e; exact hone ⟨hk3, by omega⟩
          rw [hk3] at c0
          clear hk3 hone
          go_wp2_with (first | (refine wpList_alloc_as 33 rfl rfl Z.toArray hZz.out ?_; rw [hnb'.out]) | (refine wpList_store_whole 33 rfl rfl rfl F rfl (by rw [hFl.out]; exact node_size) 33 _ (by rw [← hnb'.out]; exact heap_alloc_new _ _) (by simp [hFl.out, hZl.out]) hF1.out ?_; rw [hw5'.out]) | (refine wpList_load_agg 26 rfl rfl rfl _ Try.underlying26 rfl [.pointer (some ⟨A.sb, 0, none⟩)] (by kernel_rfl) (fun j v hj => by rw [Nat.zero_add, cell_of_heap t5.out]; simpa using hj) ?_) | (refine wpList_load_agg 33 rfl rfl rfl _ Try.underlying33 rfl F (by rw [hFl.out]; exact node_size) (fun j v hv => by rw [cell_of_heap q5.out, Nat.zero_add]; simpa using hv) ?_))
          refine hSp'.out.mono ?_
          rintro e w6 ⟨A6, v6, rfl, hT6, hO6⟩
          obtain ⟨Av6, cap6, rfl, hg1, hg2⟩ := hO6.ents.at_.form
          unfold maxLen at hg2
          have hTT := Lib.hid (fin.out _ _ hT6)
          have hO6' := Lib.hid hO6
          clear hT6 hO6
          by_cases h2 : er2 = 0
          · subst h2
            by_cases hl2 : out.length = 0
            · rw [if_pos (Or.inr hl2)] at hcut
              have hlb2 : ((out.length : Int) == 0) = true := by simp [hl2]
              clear hl2
              go_wp2_with fail
              go_ret3
              first | exact ⟨A6, by rw [hcut.out]; rfl, by rw [hcut.out]; exact hTT.out⟩ | exact ⟨by rw [hcut.out]; rfl, A6, by rw [hcut.out]; exact hTT.out⟩
            · rw [if_neg (by simp only [ne_eq, not_true_eq_false, false_or]; exact hl2)] at hcut
              obtain ⟨x, hx⟩ : ∃ x, out[0]? = some x := ⟨_, List.getElem?_eq_getElem (by omega)⟩
              obtain ⟨b, off, rfl, _, hx1, hx2⟩ := EntsAt.get hO6'.out.ents.at_ hx
              have hxd : out.getD 0 (0, 0) = x := by simp [hx]
              rw [hxd] at hcut
              rw [Nat.zero_mul, Nat.add_zero] at hx1 hx2
              have hlb2 : ((out.length : Int) == 0) = false := by rw [beq_eq_false_iff_ne]; omega
              have hpos : 0 < out.length := by omega
              clear hx hxd hl2
              go_wp2_with fail
              go_ret3
              first | exact ⟨A6, by rw [hcut.out]; rfl, by rw [hcut.out]; exact hTT.out⟩ | exact ⟨by rw [hcut.out]; rfl, A6, by rw [hcut.out]; exact hTT.out⟩
          · rw [if_pos (Or.inl h2)] at hcut
            have h2' : ((er2 : Int) == 0) = false := by rw [beq_eq_false_iff_ne]; omega
            have h2b : ((er2 : Int) != 0) = true := by rw [bne, h2']; rfl
            have h2c : (er2 == 0) = false := by rw [beq_eq_false_iff_ne]; exact h2
            rw [h2c] at hcut
            clear h2
            go_wp2_with fail
            go_ret3
            first | exact ⟨A6, by rw [hcut.out]; rfl, by rw [hcut.out]; exact hTT.out⟩ | exact ⟨by rw [hcut.out]; rfl, A6, by rw [hcut.out]; exact hTT.out⟩
        · have hkb : (n1.kind == 3) = false := by simpa using hk3
          clear hk3 hone
          go_wp2_with (first | (refine wpList_alloc_as 33 rfl rfl Z.toArray hZz.out ?_; rw [hnb'.out]) | (refine wpList_store_whole 33 rfl rfl rfl F rfl (by rw [hFl.out]; exact node_size) 33 _ (by rw [← hnb'.out]; exact heap_alloc_new _ _) (by simp [hFl.out, hZl.out]) hF1.out ?_; rw [hw5'.out]) | (refine wpList_load_agg 26 rfl rfl rfl _ Try.underlying26 rfl [.pointer (some ⟨A.sb, 0, none⟩)] (by kernel_rfl) (fun j v hj => by rw [Nat.zero_add, cell_of_heap t5.out]; simpa using hj) ?_) | (refine wpList_load_agg 33 rfl rfl rfl _ Try.underlying33 rfl F (by rw [hFl.out]; exact node_size) (fun j v hv => by rw [cell_of_heap q5.out, Nat.zero_add]; simpa using hv) ?_))
          refine hSp'.out.mono ?_
          rintro e w6 ⟨A6, v6, rfl, hT6, hO6⟩
          obtain ⟨Av6, cap6, rfl, hg1, hg2⟩ := hO6.ents.at_.form
          unfold maxLen at hg2
          have hTT := Lib.hid (fin.out _ _ hT6)
          have hO6' := Lib.hid hO6
          clear hT6 hO6
          by_cases h2 : er2 = 0
          · subst h2
            by_cases hl2 : out.length = 0
            · rw [if_pos (Or.inr hl2)] at hcut
              have hlb2 : ((out.length : Int) == 0) = true := by simp [hl2]
              clear hl2
              go_wp2_with fail
              go_ret3
              first | exact ⟨A6, by rw [hcut.out]; rfl, by rw [hcut.out]; exact hTT.out⟩ | exact ⟨by rw [hcut.out]; rfl, A6, by rw [hcut.out]; exact hTT.out⟩
            · rw [if_neg (by simp only [ne_eq, not_true_eq_false, false_or]; exact hl2)] at hcut
              obtain ⟨x, hx⟩ : ∃ x, out[0]? = some x := ⟨_, List.getElem?_eq_getElem (by omega)⟩
              obtain ⟨b, off, rfl, _, hx1, hx2⟩ := EntsAt.get hO6'.out.ents.at_ hx
              have hxd : out.getD 0 (0, 0) = x := by simp [hx]
              rw [hxd] at hcut
              rw [Nat.zero_mul, Nat.add_zero] at hx1 hx2
              have hlb2 : ((out.length : Int) == 0) = false := by rw [beq_eq_false_iff_ne]; omega
              have hpos : 0 < out.length := by omega
              clear hx hxd hl2
              go_wp2_with fail
              go_ret3
              first | exact ⟨A6, by rw [hcut.out]; rfl, by rw [hcut.out]; exact hTT.out⟩ | exact ⟨by rw [hcut.out]; rfl, A6, by rw [hcut.out]; exact hTT.out⟩
          · rw [if_pos (Or.inl h2)] at hcut
            have h2' : ((er2 : Int) == 0) = false := by rw [beq_eq_false_iff_ne]; omega
            have h2b : ((er2 : Int) != 0) = true := by rw [bne, h2']; rfl
            have h2c : (er2 == 0) = false := by rw [beq_eq_false_iff_ne]; exact h2
            rw [h2c] at hcut
            clear h2
            go_wp2_with fail
            go_ret3
            first | exact ⟨A6, by rw [hcut.out]; rfl, by rw [hcut.out]; exact hTT.out⟩ | exact ⟨by rw [hcut.out]; rfl, A6, by rw [hcut.out]; exact hTT.out⟩
  · rw [if_pos h0] at hcut
    have h0' : ((er : Int) == 0) = false := by rw [beq_eq_false_iff_ne]; omega
    clear h0
    go_wp2_with (first | (refine wpList_alloc_as 33 rfl rfl Z.toArray hZz.out ?_; rw [hnb'.out]) | (refine wpList_store_whole 33 rfl rfl rfl F rfl (by rw [hFl.out]; exact node_size) 33 _ (by rw [← hnb'.out]; exact heap_alloc_new _ _) (by simp [hFl.out, hZl.out]) hF1.out ?_; rw [hw5'.out]))
    go_ret3
    first | exact ⟨A3, by rw [hcut.out]; rfl, by rw [hcut.out]; exact hT5.out⟩ | exact ⟨by rw [hcut.out]; rfl, A3, by rw [hcut.out]; exact hT5.out⟩
end Go.Proofs.Ythmjcbmeiabbgaa
/-
  Trees (package tree): Build.
-/
namespace Go.Proofs.Ythmjcbmeiabbgaa
open Go.RowKit
set_option maxRecDepth 100000

theorem put_log (M : SM) (root key page : Int) : (M.put root key page).1.log.length ≤ M.log.length + 22 := by
  unfold SM.put
  dsimp only
  split
  · dsimp only; omega
  · split
    · have := top_bound M ⟨2, List.replicate 16 0, [(key, page)]⟩
      omega
    · have h1 := putF_log 9 M root (key, page)
      split
      · have := top_bound (SM.putF 9 M root (key, page)).1 (SM.putF 9 M root (key, page)).2.1
        omega
      · dsimp only; omega
theorem swap_log (M : SM) (a b : Int) : (M.swap a b).1.log = M.log := by
  unfold SM.swap
  dsimp only
  have h1 : (if b = -1 then (M, 0) else M.hold b).1.log = M.log := by split <;> rfl
  obtain ⟨R, hR⟩ : ∃ R, (if b = -1 then (M, 0) else M.hold b) = R := ⟨_, rfl⟩
  rw [hR] at h1 ⊢
  split
  · split
    · exact h1
    · unfold SM.drop
      rw [(dropF_live 241 R.1 a).2.1]; exact h1
  · exact h1
/-- Build from somewhere in the list on. -/
theorem build_cons (x : Int × Int) (l : List (Int × Int)) (M : SM) (root : Int) : SM.build (x :: l) M root =
    if (M.put root x.1 x.2).2.2 = 0 then (if ((M.put root x.1 x.2).1.swap root (M.put root x.1 x.2).2.1).2 = 0 then SM.build l ((M.put root x.1 x.2).1.swap root (M.put root x.1 x.2).2.1).1 (M.put root x.1 x.2).2.1 else (((M.put root x.1 x.2).1.swap root (M.put root x.1 x.2).2.1).1, -1, ((M.put root x.1 x.2).1.swap root (M.put root x.1 x.2).2.1).2)) else ((M.put root x.1 x.2).1, -1, (M.put root x.1 x.2).2.2) := rfl

set_option maxHeartbeats 4000000 in
theorem treeBuild {w : World} {A : SA} {M : SM} (h : StoreAt w A M) {v : Value} {l : List (Int × Int)} (hv : EntsOff w A v l) (hl : l.length ≤ 1000) (hfew : M.log.length + 100000 < 100000000) :
    Calls Try.prog 18 #[.agg #[.pointer (some ⟨A.sb, 0, none⟩)], v] w fun e w' => ∃ A', e = .returned (.tuple #[.int .i64 (SM.build l M (-1)).2.1, .int .i64 (SM.build l M (-1)).2.2]) ∧ StoreTo A A' (SM.build l M (-1)).1 w w' := by
  obtain ⟨Av, cap, rfl, hf1, hf2⟩ := hv.at_.form
  unfold maxLen at hf2
  obtain ⟨w1, hw1⟩ : ∃ w1, w.alloc (.cells #[.pointer (some ⟨A.sb, 0, none⟩)] 26) = w1 := ⟨_, rfl⟩
  have k1 : Kept (fun _ => False) w w1 := by rw [← hw1]; exact (Kept.refl _ _).alloc _
  have s1 : w1.heap.size = w.heap.size + 1 := by rw [← hw1]; simp
  have t1 : w1.heap[w.heap.size]? = some (.cells #[.pointer (some ⟨A.sb, 0, none⟩)] 26 (0, 0)) := by rw [← hw1]; exact heap_alloc_new _ _
  have hw1' := Lib.hid hw1
  have st1 : Safe w1 A w.heap.size := Safe.new h (Nat.le_refl _) (by omega)
  have I0 : Hid (StoreTo A A M w w1 ∧ w1.heap[w.heap.size]? = some (.cells #[.pointer (some ⟨A.sb, 0, none⟩)] 26 (0, 0)) ∧ Safe w1 A w.heap.size ∧ EntsOff w1 A (.slice Av l.length cap) l ∧ M.log.length ≤ M.log.length + 22 * 0) := Lib.hid ⟨(StoreTo.refl h).fresh k1, t1, st1, hv.fresh k1, Nat.le_refl _⟩
  have h' := Lib.hid h
  clear hw1 k1 s1 t1 st1 h hv
  go_enter Try.func18, Try.ntmps18
  go_wp2_with (first | (refine wpList_box_named 26 rfl rfl _ rfl hw1'.out ?_))
  go_loopw [6, 13] (fun r x wr => ∃ (k : Nat) (A' : SA) (M' : SM) (root : Int), k ≤ l.length ∧ x = .int .i64 k ∧ r = .int .i64 root ∧ Hid (SM.build (l.drop k) M' root = SM.build l M (-1)) ∧ Hid (StoreTo A A' M' w wr ∧ wr.heap[w.heap.size]? = some (.cells #[.pointer (some ⟨A.sb, 0, none⟩)] 26 (0, 0)) ∧ Safe wr A' w.heap.size ∧ EntsOff wr A' (.slice Av l.length cap) l ∧ M'.log.length ≤ M.log.length + 22 * k)) (fun _ x _ => l.length - (intOf x).toNat)
  case atStart => exact ⟨0, A, M, -1, Nat.zero_le _, rfl, rfl, Lib.hid rfl, I0⟩
  case round =>
    obtain ⟨k, A', M', root, hk, rfl, rfl, hq, hI⟩ := hrel
    by_cases hlt : k < l.length
    · obtain ⟨x, hx⟩ : ∃ x, l[k]? = some x := ⟨_, List.getElem?_eq_getElem hlt⟩
      have hd : Hid (l.drop k = x :: l.drop (k + 1)) := Lib.hid (by
        obtain ⟨hkl, hxe⟩ := List.getElem?_eq_some_iff.1 hx
        rw [List.drop_eq_getElem_cons hkl, hxe])
      have hstep := hq.out
      rw [hd.out, build_cons] at hstep
      obtain ⟨hT, htb, hsafe, hents, hlog⟩ := hI.out
      obtain ⟨b, off, hAv, hbl, hx1, hx2⟩ := EntsAt.get hents.at_ hx
      cases hAv
      obtain ⟨xb, hxb⟩ : ∃ xb, wr.heap.size = xb := ⟨_, rfl⟩
      obtain ⟨w2, hw2⟩ : ∃ w2, (wr.alloc (.cells #[.int .i64 0, .int .i64 0] 35)).setRow xb #[.int .i64 x.1, .int .i64 x.2] = w2 := ⟨_, rfl⟩
      have k2 : Kept (fun _ => False) wr w2 := by rw [← hw2]; exact ((Kept.refl _ _).alloc _).setRowNew (by omega) _
      have x2 : w2.heap[xb]? = some (.cells #[.int .i64 x.1, .int .i64 x.2] 35 (0, 0)) := by rw [← hw2, ← hxb]; exact setRow_heap _ _ _ _ _ _ (heap_alloc_new _ _)
      have t2 := k2.get htb id
      have c1 := cell_of_heap x2 0
      have c2 := cell_of_heap x2 1
      simp at c1 c2
      have hT2 := hT.fresh k2
      have hP := treePut hT2.store root x.1 x.2 (by omega)
      rw [hT.sb] at hP
      have hlogP := put_log M' root x.1 x.2
      obtain ⟨R, hR⟩ : ∃ R, M'.put root x.1 x.2 = R := ⟨_, rfl⟩
      rw [hR] at hP hstep hlogP
      obtain ⟨M2, next, er⟩ := R
      dsimp only at hP hstep hlogP
      have hloade : Hid (∀ j v, [Value.int .i64 x.1, .int .i64 x.2][j]? = some v → (wr.alloc (.cells #[.int .i64 0, .int .i64 0] 35)).cell? ⟨b, off + k * 2 + j, none⟩ = some v ∧ wr.cell? ⟨b, off + k * 2 + j, none⟩ = some v) := Lib.hid (fun j v hj => by
        have kA := (Kept.refl (fun _ => False) wr).alloc (.cells #[.int .i64 0, .int .i64 0] 35)
        match j, hj with
        | 0, hj => cases hj; exact ⟨kA.cell hx1 id, hx1⟩
        | 1, hj => cases hj; exact ⟨kA.cell hx2 id, hx2⟩)
      have hloadt : Hid (∀ j v, [Value.pointer (some ⟨A.sb, 0, none⟩)][j]? = some v → w2.cell? ⟨w.heap.size, 0 + j, none⟩ = some v) := Lib.hid (fun j v hj => by rw [Nat.zero_add, cell_of_heap t2]; simpa using hj)
      have hP' := Lib.hid hP
      have hstep' := Lib.hid hstep
      have hxb' := Lib.hid hxb
      have hw2' := Lib.hid hw2
      have hT2' := Lib.hid hT2
      have sf2 := Lib.hid (hsafe.fresh k2)
      have t2' := Lib.hid t2
      have he2 := Lib.hid (hents.fresh k2)
      have hki : (k : Int) < (l.length : Int) := by omega
      clear hx hR hP hstep hT htb hsafe hents hxb hw2 k2 x2 t2 hT2 hx1 hx2 hI hq
      go_wp2_with (first | (refine wpList_alloc_as 35 rfl rfl #[.int .i64 0, .int .i64 0] entry_zero ?_; rw [hxb'.out]) | (refine wpList_store_whole 35 rfl rfl rfl [.int .i64 x.1, .int .i64 x.2] rfl entry_size 35 #[.int .i64 0, .int .i64 0] (by rw [← hxb'.out]; exact heap_alloc_new _ _) rfl (by intro c hc; simp at hc; rcases hc with rfl | rfl <;> rfl) ?_; rw [hw2'.out]) | (refine wpList_load_agg 26 rfl rfl rfl _ Try.underlying26 rfl [.pointer (some ⟨A.sb, 0, none⟩)] (by kernel_rfl) hloadt.out ?_) | (refine wpList_load_agg 35 rfl rfl rfl _ Try.underlying35 rfl [.int .i64 x.1, .int .i64 x.2] (by kernel_rfl) (fun j v hj => (hloade.out j v hj).2) ?_))
      refine hP'.out.mono ?_
      rintro e w3 ⟨A3, rfl, hT3⟩
      have hT23 := hT2'.out.trans hT3
      have t3 := hT3.get t2'.out sf2.out
      have sf3 := Lib.hid (sf2.out.to hT3)
      have he3 := Lib.hid (he2.out.to hT3)
      have t3' := Lib.hid t3
      have hT23' := Lib.hid hT23
      have hsb3 := hT23.sb
      have hloadt3 : Hid (∀ j v, [Value.pointer (some ⟨A.sb, 0, none⟩)][j]? = some v → w3.cell? ⟨w.heap.size, 0 + j, none⟩ = some v) := Lib.hid (fun j v hj => by rw [Nat.zero_add, cell_of_heap t3]; simpa using hj)
      clear hT3 t3 hT23
      by_cases h0 : er = 0
      · subst h0
        rw [if_pos rfl] at hstep'
        have hS := treeSwap hT23'.out.store root next
        rw [hsb3] at hS
        have hlogS := swap_log M2 root next
        obtain ⟨R, hR⟩ : ∃ R, M2.swap root next = R := ⟨_, rfl⟩
        rw [hR] at hS hstep' hlogS
        obtain ⟨M3, es⟩ := R
        dsimp only at hS hstep' hlogS
        have hS' := Lib.hid hS
        have hlogS' := Lib.hid hlogS
        clear hR hS hsb3 hlogS
        go_wp2_with (first | (refine wpList_load_agg 26 rfl rfl rfl _ Try.underlying26 rfl [.pointer (some ⟨A.sb, 0, none⟩)] (by kernel_rfl) hloadt3.out ?_))
        refine hS'.out.mono ?_
        rintro e w4 ⟨rfl, hT4⟩
        have hT34 := Lib.hid (hT23'.out.trans hT4)
        have t4 := Lib.hid (hT4.get t3'.out sf3.out)
        have sf4 := Lib.hid (sf3.out.to hT4)
        have he4 := Lib.hid (he3.out.to hT4)
        clear hT4
        by_cases h1 : es = 0
        · subst h1
          rw [if_pos rfl] at hstep'
          go_wp2_with fail
          go_roundw
          case rel => exact ⟨k + 1, A3, M3, next, by omega, by go_num, rfl, hstep', Lib.hid ⟨hT34.out, t4.out, sf4.out, he4.out, by rw [hlogS'.out]; omega⟩⟩
          case measure => simp [intOf]; omega
        · rw [if_neg h1] at hstep'
          have h1' : ((es : Int) == 0) = false := by simp; omega
          clear h1
          go_wp2_with fail
          go_ret2
          exact ⟨A3, by rw [← hstep'.out]; rfl, by rw [← hstep'.out]; exact hT34.out⟩
      · rw [if_neg h0] at hstep'
        have h0' : ((er : Int) == 0) = false := by simp; omega
        clear h0 hsb3
        go_wp2_with fail
        go_ret2
        exact ⟨A3, by rw [← hstep'.out]; rfl, by rw [← hstep'.out]; exact hT23'.out⟩
    · obtain rfl : k = l.length := by omega
      have hend : Hid (SM.build l M (-1) = (M', root, 0)) := Lib.hid (by rw [← hq.out, List.drop_length]; rfl)
      have hT := Lib.hid hI.out.1
      clear hI hq
      go_wp2_with fail
      go_ret2
      exact ⟨A', by rw [hend.out]; rfl, by rw [hend.out]; exact hT.out⟩
end Go.Proofs.Ythmjcbmeiabbgaa
/-
  Trees in a store, plain: holding, dropping, one root in the place of another.
-/
namespace Go.Proofs.Ythmjcbmeiabbgaa
open Go.RowKit

def incE (ext : Nat → Nat) (i : Nat) : Nat → Nat := fun p => if p = i then ext p + 1 else ext p
theorem exact_congr {M : SM} {e f : Nat → Nat} (h : Exact M e) (hf : ∀ p, p < M.pool.size → e p = f p) : Exact M f :=
  ⟨h.size, h.cntLe, fun p hp => by rw [h.cnt p hp, hf p hp], h.node, h.kids, h.rank⟩

/-- A page that is there, held once more. -/
theorem holdE_ok {M : SM} {ext : Nat → Nat} (h : Exact M ext) {i : Nat} (hi : M.live i = true) (hc : M.pool.cnt i < 255) :
    M.hold (i : Int) = (⟨M.pool.setCnt i (M.pool.cnt i + 1), M.log⟩, 0) ∧ Exact ⟨M.pool.setCnt i (M.pool.cnt i + 1), M.log⟩ (incE ext i) ∧ (∀ p, SM.live ⟨M.pool.setCnt i (M.pool.cnt i + 1), M.log⟩ p = M.live p) := by
  have hh : M.pool.heldB (i : Int) = true := by rw [heldB_nat]; exact hi
  have hl : ∀ p, SM.live ⟨M.pool.setCnt i (M.pool.cnt i + 1), M.log⟩ p = M.live p := by
    intro p
    have H : Held M.pool [(i : Int)] (M.pool.setCnt i (M.pool.cnt i + 1)) := ⟨rfl, rfl, fun j => by
      unfold PM.setCnt
      by_cases hj : j = i
      · subst hj; simp
      · simp [hj]; omega⟩
    exact H.live (fun x hx => by rw [List.mem_singleton.1 hx]; exact hh) p
  have hr : ∀ p, SM.refs ⟨M.pool.setCnt i (M.pool.cnt i + 1), M.log⟩ p = M.refs p := fun p => by
    unfold SM.refs
    refine sumN_congr fun q _ => ?_
    rw [hl q]; rfl
  refine ⟨by simp [SM.hold, PM.holdTo, PM.holdErr, hh, hc], ⟨h.size, fun p => ?_, fun p hp => ?_, fun q hq => h.node q (by rw [hl] at hq; exact hq), fun q hq x hx => ?_, ?_⟩, hl⟩
  · have := h.cntLe p
    unfold PM.setCnt
    dsimp only
    split <;> omega
  · have h2 := h.cnt p hp
    rw [hr]
    unfold PM.setCnt incE
    dsimp only
    split
    · subst_vars; omega
    · exact h2
  · rw [hl] at hq ⊢
    exact h.kids q hq x hx
  · obtain ⟨r, hr⟩ := h.rank
    exact ⟨r, fun q hq => hr q (by rw [hl] at hq; exact hq)⟩

/-- What dropping leaves. -/
structure Dropped (M : SM) (ext : Nat → Nat) (M' : SM) : Prop where
  exact : Exact M' ext
  log : M'.log = M.log
  size : M'.pool.size = M.pool.size
  live : ∀ p, M'.live p = true → M.live p = true
  loose : ∀ p, M'.live p = true → M'.pool.cnt p = 0 → M.pool.cnt p = 0
theorem Dropped.refl {M : SM} {ext : Nat → Nat} (h : Exact M ext) : Dropped M ext M := ⟨h, rfl, rfl, fun _ h => h, fun _ _ h => h⟩
theorem Dropped.trans {A B C : SM} {e f : Nat → Nat} (h : Dropped A e B) (k : Dropped B f C) : Dropped A f C :=
  ⟨k.exact, k.log.trans h.log, k.size.trans h.size, fun p hp => h.live p (k.live p hp), fun p hp hc => h.loose p (k.live p hp) (k.loose p hp hc)⟩
theorem Dropped.loose' {M M' : SM} {ext : Nat → Nat} (h : Dropped M ext M') {E : List (Int × Int)} (hl : Loose M E) : Loose M' E := fun q hq hc => hl q (h.live q hq) (h.loose q hq hc)

theorem dropF_ok : ∀ (f : Nat) (M : SM) (ext : Nat → Nat) (i : Nat), Exact M ext → M.live i = true → 0 < ext i → M.liveN < f → (SM.dropF f M (i : Int)).2 = 0 ∧ Dropped M (decE ext i) (SM.dropF f M (i : Int)).1
  | 0, _, _, _, _, _, _, hf => by omega
  | f + 1, M, ext, i, h, hi, he, hf => by
    have hh : M.pool.heldB (i : Int) = true := by rw [heldB_nat]; exact hi
    rw [dropF_succ, if_pos hh]
    simp only [Int.toNat_natCast]
    by_cases hc : M.pool.cnt i ≤ 1
    · rw [if_pos hc]
      obtain ⟨E1, hl1, hn1⟩ := exact_gone h hi (.inl he) hc
      obtain ⟨n, hn, hok⟩ := h.node i hi
      rw [hn]
      dsimp only
      obtain ⟨M1, hM1⟩ : ∃ M1 : SM, { M with pool := M.pool.dropTo i } = M1 := ⟨_, rfl⟩
      have hlog1 : M1.log = M.log := by rw [← hM1]
      have hsz1 : M1.pool.size = M.pool.size := by rw [← hM1]; exact dropTo_size _ _
      have hcnt1 : ∀ p, M1.live p = true → M1.pool.cnt p = M.pool.cnt p := fun p hp => by
        rw [← hM1] at hp ⊢
        rw [hl1] at hp
        simp only [Bool.and_eq_true, decide_eq_true_eq] at hp
        show (M.pool.dropTo i).cnt p = _
        unfold PM.dropTo
        rw [if_neg (by omega)]
        simp [PM.setCnt, PM.setSt, hp.2]
      have hents : M.ents i = n.ents := by unfold SM.ents; rw [hn]
      rw [hents] at E1
      rw [hM1] at E1 hl1 hn1 ⊢
      have D1 : Dropped M (fun p => decE ext i p + occ n.ents p) M1 := ⟨E1, hlog1, hsz1, fun p hp => by rw [hl1] at hp; simp at hp; exact hp.1, fun p hp hc => by rw [← hcnt1 p hp]; exact hc⟩
      have key : ∀ (l : List (Int × Int)) (N : SM), (∀ x ∈ l, 0 ≤ x.2) → Dropped M (fun p => decE ext i p + occ l p) N → N.liveN < f → (∀ x ∈ l, N.live x.2.toNat = true) →
          (dropAllF f (N, 0) (l.map (·.2))).2 = 0 ∧ Dropped M (decE ext i) (dropAllF f (N, 0) (l.map (·.2))).1 := by
        intro l
        induction l with
        | nil => intro N _ D _ _; exact ⟨rfl, D⟩
        | cons x l ih =>
          intro N hx D hN hlv
          have hx0 := hx x (List.mem_cons_self ..)
          obtain ⟨c, hc⟩ := Int.eq_ofNat_of_zero_le hx0
          have hcl := hlv x (List.mem_cons_self ..)
          rw [hc, Int.toNat_natCast] at hcl
          have hocc : ∀ p, occ (x :: l) p = occ l p + (if p = c then 1 else 0) := fun p => by
            unfold occ
            rw [List.countP_cons, hc]
            by_cases e : p = c
            · subst e; simp
            · have : ¬ ((c : Int) == (p : Int)) = true := by simp; omega
              rw [if_neg this, if_neg e]
          have hext : 0 < decE ext i c + occ (x :: l) c := by rw [hocc, if_pos rfl]; omega
          obtain ⟨r1, r2⟩ := dropF_ok f N _ c D.exact hcl hext hN
          have hfold : dropAllF f (N, 0) ((x :: l).map (·.2)) = dropAllF f (SM.dropF f N (c : Int)) (l.map (·.2)) := by
            unfold dropAllF
            rw [List.map_cons, List.foldl_cons, hc, if_pos rfl]
          rw [hfold]
          obtain ⟨R, hR⟩ : ∃ R, SM.dropF f N (c : Int) = R := ⟨_, rfl⟩
          rw [hR] at r1 r2 ⊢
          obtain ⟨N2, er⟩ := R
          dsimp only at r1 r2
          subst r1
          have D2 : Dropped M (fun p => decE ext i p + occ l p) N2 := by
            have := D.trans r2
            exact ⟨exact_congr this.exact (fun p _ => by
              have h2 := hocc p
              show (if p = c then decE ext i p + occ (x :: l) p - 1 else decE ext i p + occ (x :: l) p) = decE ext i p + occ l p
              by_cases e : p = c
              · rw [if_pos e] at h2 ⊢; omega
              · rw [if_neg e] at h2 ⊢; omega), this.log, this.size, this.live, this.loose⟩
          refine ih N2 (fun y hy => hx y (List.mem_cons_of_mem _ hy)) D2 (Nat.lt_of_le_of_lt (liveN_mono r2.size r2.live) hN) (fun y hy => ?_)
          have hy0 := hx y (List.mem_cons_of_mem _ hy)
          have hp : 0 < N2.pool.cnt y.2.toNat := by
            have hlt : y.2.toNat < N2.pool.size := by
              have := live_lt (hlv y (List.mem_cons_of_mem _ hy))
              have := r2.size
              omega
            rw [D2.exact.cnt _ hlt]
            have := occ_pos hy hy0
            omega
          have hlt : y.2.toNat < N2.pool.size := by
            have := live_lt (hlv y (List.mem_cons_of_mem _ hy))
            have := r2.size
            omega
          unfold SM.live PM.live
          simp [hlt, hp]
      refine key n.ents M1 (fun x hx => (hok.entry hx).2.2.1) D1 (by omega) (fun x hx => ?_)
      rw [hl1]
      have hx' : x ∈ M.ents i := by rw [hents]; exact hx
      have h1 := h.kids i hi x hx'
      obtain ⟨r, hr⟩ := h.rank
      have h2 := hr i hi x hx'
      have h3 : x.2.toNat ≠ i := fun e => by rw [e] at h2; omega
      simp [h1, h3]
    · rw [if_neg hc]
      obtain ⟨E1, hl1⟩ := exact_less h hi he (by omega)
      refine ⟨rfl, E1, rfl, dropTo_size _ _, fun p hp => by rw [hl1] at hp; exact hp, fun p hp h0 => ?_⟩
      have : (M.pool.dropTo i).cnt p = 0 := h0
      unfold PM.dropTo at this
      rw [if_pos (by omega)] at this
      unfold PM.setCnt at this
      dsimp only at this
      split at this
      · omega
      · exact this

/-- What one root's being held in another's place leaves. -/
def swapE (ext : Nat → Nat) (old next : Int) : Nat → Nat := fun p => ext p + (if (p : Int) = next then 1 else 0) - (if (p : Int) = old then 1 else 0)
theorem drop_ok {M : SM} {ext : Nat → Nat} (h : Exact M ext) {i : Nat} (hi : M.live i = true) (he : 0 < ext i) : (M.drop (i : Int)).2 = 0 ∧ Dropped M (decE ext i) (M.drop (i : Int)).1 :=
  dropF_ok 241 M ext i h hi he (by have := M.liveN_le; have := h.size; omega)
theorem swap_ok {M : SM} {ext : Nat → Nat} (h : Exact M ext) {old next : Int} (hn : next = -1 ∨ (M.pool.heldB next = true ∧ M.pool.cnt next.toNat < 255)) (ho : old = -1 ∨ (M.pool.heldB old = true ∧ 0 < ext old.toNat)) :
    (M.swap old next).2 = 0 ∧ Exact (M.swap old next).1 (swapE ext old next) ∧ (M.swap old next).1.log = M.log ∧ (M.swap old next).1.pool.size = M.pool.size ∧ (∀ p, (M.swap old next).1.live p = true → M.live p = true) ∧
      (∀ p, (M.swap old next).1.live p = true → (M.swap old next).1.pool.cnt p = 0 → M.pool.cnt p = 0 ∧ (p : Int) ≠ next) := by
  have h1 : ∃ M1 : SM, (if next = -1 then (M, 0) else M.hold next) = (M1, 0) ∧ Exact M1 (fun p => ext p + if (p : Int) = next then 1 else 0) ∧ M1.log = M.log ∧ M1.pool.size = M.pool.size ∧ (∀ p, M1.live p = M.live p) ∧ (∀ p, M1.pool.cnt p = 0 → M.pool.cnt p = 0 ∧ (p : Int) ≠ next) := by
    rcases hn with rfl | ⟨hh, hc⟩
    · exact ⟨M, rfl, exact_congr h (fun p _ => by rw [if_neg (by omega)]; rfl), rfl, rfl, fun _ => rfl, fun p hp => ⟨hp, by omega⟩⟩
    · obtain ⟨h0, hl⟩ := heldB_int hh
      obtain ⟨k, rfl⟩ := Int.eq_ofNat_of_zero_le h0
      simp only [Int.toNat_natCast] at hl hc
      obtain ⟨e1, e2, e3⟩ := holdE_ok h hl hc
      refine ⟨_, by rw [if_neg (by omega)]; exact e1, exact_congr e2 (fun p _ => ?_), rfl, rfl, e3, fun p hp => ?_⟩
      · unfold incE
        by_cases e : p = k
        · subst e; simp
        · rw [if_neg e, if_neg (by omega)]; rfl
      · have hp' : (if p = k then M.pool.cnt k + 1 else M.pool.cnt p) = 0 := hp
        split at hp'
        · omega
        · exact ⟨hp', by omega⟩
  obtain ⟨M1, e1, E1, hlog, hsz, hlv, hlo⟩ := h1
  have hs : M.swap old next = if old = -1 then (M1, 0) else M1.drop old := by
    unfold SM.swap
    rw [e1]
    dsimp only
    rw [if_pos rfl]
  rw [hs]
  rcases ho with rfl | ⟨hh, he⟩
  · rw [if_pos rfl]
    exact ⟨rfl, exact_congr E1 (fun p _ => by unfold swapE; rw [if_neg (show ¬ (p : Int) = -1 by omega)]; rfl), hlog, hsz, fun p hp => by rw [← hlv]; exact hp, fun p _ hc => hlo p hc⟩
  · obtain ⟨h0, hl⟩ := heldB_int hh
    obtain ⟨k, rfl⟩ := Int.eq_ofNat_of_zero_le h0
    simp only [Int.toNat_natCast] at hl he
    rw [if_neg (by omega)]
    obtain ⟨r1, D⟩ := drop_ok E1 (i := k) (by rw [hlv]; exact hl) (by omega)
    refine ⟨r1, exact_congr D.exact (fun p _ => ?_), D.log.trans hlog, D.size.trans hsz, fun p hp => by rw [← hlv]; exact D.live p hp, fun p hp hc => hlo p (D.loose p hp hc)⟩
    unfold decE swapE
    by_cases e : p = k
    · subst e; rw [if_pos rfl, if_pos rfl]
    · rw [if_neg e, if_neg (show ¬ (p : Int) = (k : Int) by omega)]; rfl
end Go.Proofs.Ythmjcbmeiabbgaa
/-
  Layer 10's laws: an empty store with a page of a block.
-/
namespace Go.Proofs.Ythmjcbmeiabbgaa
open Go.RowKit
set_option maxRecDepth 100000

/-- A block's node. -/
def dataN (b : Nat) : NM := ⟨1, b :: List.replicate 15 0, []⟩
theorem dataN_ok (b : Nat) (hb : b < 256) : (dataN b).ok := by
  refine ⟨rfl, rfl, ?_⟩
  intro c hc
  simp only [dataN, List.mem_cons] at hc
  rcases hc with rfl | hc
  · exact hb
  · rw [List.eq_of_mem_replicate hc]; decide
/-- A store with a page of a block, held once. -/
def madeM (s b : Nat) : SM := ⟨((PM.fresh0 s).setSt 0 1).setCnt 0 1, [(0, dataN b)]⟩
theorem fresh0_take (s : Nat) (hs : 0 < s) : (PM.fresh0 s).takeIx = some 0 := by
  have : ∀ n, (PM.fresh0 s).takeN (n + 1) = some 0 := by
    intro n
    induction n with
    | zero => rfl
    | succ n ih => rw [PM.takeN, ih]
  obtain ⟨k, rfl⟩ : ∃ k, s = k + 1 := ⟨s - 1, by omega⟩
  exact this k
theorem make_first (s b : Nat) (hs : 0 < s) : SM.make ⟨PM.fresh0 s, []⟩ (dataN b) = (⟨(PM.fresh0 s).setSt 0 1, [(0, dataN b)]⟩, 0, 0) := by
  unfold SM.make
  rw [if_pos (by rfl), if_neg (by simp [dataN])]
  rw [show (SM.mk (PM.fresh0 s) []).pool.takeIx = some 0 from fresh0_take s hs]
  rfl
theorem hold_first (s b : Nat) (hs : 0 < s) : SM.hold ⟨(PM.fresh0 s).setSt 0 1, [(0, dataN b)]⟩ 0 = (madeM s b, 0) := by
  have hh : ((PM.fresh0 s).setSt 0 1).heldB ((0 : Nat) : Int) = true := by
    rw [heldB_nat]
    simp [PM.live, PM.setSt, PM.fresh0, hs]
  have hh' : ((PM.fresh0 s).setSt 0 1).heldB 0 = true := hh
  unfold SM.hold PM.holdTo PM.holdErr
  dsimp only
  rw [hh']
  rfl

theorem tree_zero : (Try.prog.info? 26).map (·.zero) = some (some (.agg #[.pointer none])) := by kernel_rfl
set_option maxHeartbeats 4000000 in
theorem made10 (x : Int) (h0 : 5 ≤ x) (h1 : x ≤ 1000) (w : World) :
    Calls Try.prog 14 #[.int .i64 x] w fun e w' => ∃ A, e = .returned (.tuple #[.agg #[.pointer (some ⟨A.sb, 0, none⟩)], .int .i64 0]) ∧ StoreAt w' A (madeM (min x 244 - 4).toNat 9) ∧ Kept (fun _ => False) w w' ∧ ∀ k, A.own k → w.heap.size ≤ k := by
  obtain ⟨s, hs⟩ : ∃ s, (min x 244 - 4).toNat = s := ⟨_, rfl⟩
  have hsz : Hid (clampN (max 0 (min x 244 - 4)) = s) := Lib.hid (by unfold clampN; omega)
  have hdn : Hid (max 0 (min x 244) = ((s + 4 : Nat) : Int)) := Lib.hid (by omega)
  have hs0 : 0 < s := by omega
  have hs1 : s ≤ 240 := by omega
  obtain ⟨w1, hw1⟩ : ∃ w1, w.alloc (.cells #[.pointer none] 26) = w1 := ⟨_, rfl⟩
  have k1 := Lib.hid (show Kept (fun _ => False) w w1 by rw [← hw1]; exact (Kept.refl _ _).alloc _)
  have t1 := Lib.hid (show w1.heap[w.heap.size]? = some (.cells #[.pointer none] 26 (0, 0)) by rw [← hw1]; exact heap_alloc_new _ _)
  have z1 : Hid (w1.heap.size = w.heap.size + 1) := Lib.hid (by rw [← hw1]; simp)
  have hw1' := Lib.hid hw1
  have hb1 : Hid (∀ w, (Instr.build 30 #[(0, .int .u8 9)]).run Try.prog w = .ok (.agg (blockCells (dataN 9).block).toArray) w) := Lib.hid (fun w => run_build _ _ _ _ (by kernel_rfl))
  have hb2 : Hid (∀ w, (Instr.build 33 #[(0, .int .i64 1), (1, .agg (blockCells (dataN 9).block).toArray)]).run Try.prog w = .ok (.agg (nodeCells (dataN 9) (.slice none 0 0)).toArray) w) := Lib.hid (fun w => run_build _ _ _ _ (by kernel_rfl))
  obtain ⟨B, hB⟩ : ∃ B, blockCells (dataN 9).block = B := ⟨_, rfl⟩
  obtain ⟨C, hC⟩ : ∃ C, nodeCells (dataN 9) (.slice none 0 0) = C := ⟨_, rfl⟩
  rw [hB] at hb1 hb2
  rw [hC] at hb2
  have hC' := Lib.hid hC
  rw [hs]
  clear hw1 hB hC hs
  go_enter Try.func14, Try.ntmps14
  go_wp2_with (first | (refine wpList_alloc_as 26 rfl rfl #[.pointer none] tree_zero ?_; rw [hw1'.out]))
  refine (diskNew (s + 4) (by omega) x hdn.out _).mono ?_
  rintro e w2 ⟨D, rfl, hD, hDn, hDp, hDo, hk2⟩
  have hD' := Lib.hid hD
  have hDn' := Lib.hid hDn
  have hDp' := Lib.hid hDp
  have hDo' := Lib.hid hDo
  have hk2' := Lib.hid hk2
  clear hD hDn hDp hDo hk2
  go_wp2_with fail
  refine (nodesSize x _ (by omega) h1).mono ?_
  rintro e w3 ⟨rfl, rfl⟩
  go_wp2_with fail
  refine (new_any _ _).mono ?_
  rintro e w3 ⟨c, rfl, hnew⟩
  have hP := hnew.pool
  rw [hsz.out] at hP
  have hP' := Lib.hid hP
  have hck := hnew.new
  have hk3 := Lib.hid hnew.kept
  clear hnew hP
  go_wp2_with fail
  refine (nodesNew (hD'.out.fresh hk3.out) hP'.out hDp'.out (fun e => by have := hD'.out.lt _ e; omega) (.inr (by rw [hDn'.out]; exact Nat.le_refl _))).mono ?_
  rintro e w4 ⟨A, rfl, hA, hk4, hAo⟩
  have hA' := Lib.hid hA
  have hk14 := Lib.hid (((hk2'.out.trans hk3.out).trans hk4))
  have hAo' : Hid (∀ k, A.own k → w1.heap.size ≤ k) := Lib.hid (fun k hk => by
    rcases hAo k hk with rfl | h | h
    · have := hk2'.out.size; omega
    · exact hDo'.out _ h
    · have := hk2'.out.size; have := hk3.out.size; omega)
  have hmk := storeMake (n := dataN 9) (sv := .slice none 0 0) hA ⟨sliceNil (by decide), fun b hb => by simp [Value.ownBlock] at hb⟩ rfl (dataN_ok 9 (by decide)).2.2 (by show 0 < 100000000; omega)
  rw [make_first s 9 hs0, hC'.out] at hmk
  have hmk' := Lib.hid hmk
  clear hA hk4 hAo hmk
  go_wp2_with (first | (refine wpList_exec rfl (exec_build 30 #[(0, .const (.int .u8 9))] _ rfl (by simp [Act.eval]) (hb1.out _)) ?_) | (refine wpList_exec rfl (exec_build 33 #[(0, .const (.int .i64 1)), (1, .tmp 18)] _ rfl (by simp [Act.eval, Act.put]) (hb2.out _)) ?_))
  refine hmk'.out.mono ?_
  rintro e w5 ⟨A5, rfl, hT5⟩
  have hsb5 := hT5.sb
  have hh := storeHold hT5.store 0
  rw [hold_first s 9 hs0, hsb5] at hh
  have hh' := Lib.hid hh
  have hT5' := Lib.hid hT5
  clear hh hT5 hsb5
  go_wp2_with fail
  refine hh'.out.mono ?_
  rintro e w6 ⟨rfl, hT6⟩
  have hT := Lib.hid (hT5'.out.trans hT6)
  have t6 := Lib.hid (hT.out.kept.get (hk14.out.get t1.out id) (fun e => by have := hAo'.out _ (.inl e); have := z1.out; omega))
  have hk6 : Hid (Kept (fun _ => False) w w6) := Lib.hid ((k1.out.trans hk14.out).trans_new hT.out.kept (fun i hi e => by have := hAo'.out _ (.inl e); have := z1.out; omega))
  have c6 := cell_of_heap t6.out 0
  have f6 := free_of_heap t6.out 0
  simp at c6
  have hk46 : Hid (∀ k, A5.own k → w.heap.size + 1 ≤ k) := Lib.hid (fun k hk => by
    have hz := z1.out
    have hsz4 := hk14.out.size
    rcases hk with hk | hk | hk
    · rcases hT.out.foot k hk with h | h
      · have := hAo'.out _ (.inl h); omega
      · omega
    · rw [hT.out.fix.2] at hk
      have := hAo'.out _ (.inr (.inl hk)); omega
    · rw [hT.out.fix.1] at hk
      have := hAo'.out _ (.inr (.inr hk)); omega)
  have hsb : A5.sb = A.sb := hT.out.sb
  have hbt : Hid (∀ w, (Instr.build 26 #[(0, .pointer (some ⟨A.sb, 0, none⟩))]).run Try.prog w = .ok (.agg [Value.pointer (some ⟨A.sb, 0, none⟩)].toArray) w) := Lib.hid (fun w => run_build _ _ _ _ (by kernel_rfl))
  clear hT6
  go_wp2_with (first | (refine wpList_exec rfl (exec_build 26 #[(0, .tmp 32)] _ rfl (by simp [Act.eval, Act.put]) (hbt.out _)) ?_) | (refine wpList_store_whole 26 rfl rfl rfl [.pointer (some ⟨A.sb, 0, none⟩)] rfl (by kernel_rfl) 26 #[.pointer none] t6.out rfl (by intro c hc; simp at hc; subst hc; rfl) ?_))
  refine bodyPost_ret (results_row_tmp rfl _ _ w.heap.size 26 #[.pointer (some ⟨A.sb, 0, none⟩)] (0, 0) _ rfl (setRow_heap _ _ _ _ 26 (0, 0) t6.out) Try.underlying26 rfl (by kernel_rfl)) rfl ?_
  have kS := (Kept.refl (fun i => i = w.heap.size) w6).setRow rfl #[.pointer (some ⟨A.sb, 0, none⟩)]
  exact ⟨A5, by rw [hsb]; rfl, hT.out.store.kept kS (fun i hi e => by have := hk46.out i hi; omega), hk6.out.setRowNew (Nat.le_refl _) _, fun k hk => by have := hk46.out k hk; omega⟩
end Go.Proofs.Ythmjcbmeiabbgaa
