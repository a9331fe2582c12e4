/-
  NodesUndo, NodesExact: a node of pages that are there is made, and held: the walk.
-/
import Derived.Test.YthmjcbmeiabbgaaK18
import Derived.StillTailTactics
set_option linter.unusedVariables false
set_option linter.unusedSimpArgs false
namespace Go.Proofs.Ythmjcbmeiabbgaa
open Go.RowKit
set_option maxRecDepth 100000

/-- What holds in the midst of make, while the node is put together. -/
structure MakeSt (w1 w0 : World) (A0 A : SA) (M : SM) (sb wb : Nat) (roots : List Int) (v : Value) (ab nb c base : Nat) (cs : List Value) (p : PM) (n : NM) (sv : Value) (wr : World) : Prop where
  ws : WorldSt w1 A M sb wb roots v wr
  act : wr.heap[ab]? = some (.cells cs.toArray 75 (0, 0))
  sa : Safe wr A ab
  po : PoolOff wr A c p
  nbx : NodeBox wr nb n sv
  nn : ¬ A.own nb
  ents : OutAt wr A base sv n.ents
  old : ∀ k, A.own k → A.foot k ∨ k < base
  nw : w1.heap.size ≤ base
  nbn : base ≤ nb
  offs : Off w0 A0 wb v A wr
  hb : base = w0.heap.size
theorem MakeSt.fresh {w1 w0 : World} {A0 A : SA} {M : SM} {sb wb : Nat} {roots : List Int} {v : Value} {ab nb c base : Nat} {cs : List Value} {p : PM} {n : NM} {sv : Value} {wr w' : World} (h : MakeSt w1 w0 A0 A M sb wb roots v ab nb c base cs p n sv wr) (k : Kept (fun _ => False) wr w') :
    MakeSt w1 w0 A0 A M sb wb roots v ab nb c base cs p n sv w' :=
  ⟨h.ws.fresh k, k.get h.act id, h.sa.fresh k, h.po.fresh k, h.nbx.kept k id, h.nn, h.ents.fresh k, h.old, h.nw, h.nbn, h.offs.fresh k, h.hb⟩

/-- One entry more. -/
theorem MakeSt.more {w1 w0 : World} {A0 A : SA} {M : SM} {sb wb : Nat} {roots : List Int} {v : Value} {ab nb c base : Nat} {cs : List Value} {p : PM} {n : NM} {sv : Value} {wr w' : World} (h : MakeSt w1 w0 A0 A M sb wb roots v ab nb c base cs p n sv wr)
    {x : Int × Int} {sv' : Value} (hrow : w'.ownsRow base 35 2 sv' (n.ents.length + 1) (entCells n.ents ++ [.int .i64 x.1, .int .i64 x.2])) (hg : wr.grownBy w' sv.ownBlock) (hb : sv'.ownBlock = sv.ownBlock ∨ sv'.ownBlock = some wr.heap.size) :
    w'.cell? ⟨nb, 17, none⟩ = some sv ∧ w'.frozen? ⟨nb, 17, none⟩ = false ∧ MakeSt w1 w0 A0 A M sb wb roots v ab nb c base cs p { n with ents := n.ents ++ [x] } sv' (w'.setCell ⟨nb, 17, none⟩ sv') := by
  have kg : Kept (fun i => sv.ownBlock = some i) wr w' := Kept.of_grown hg
  have own : ∀ i, A.own i → ¬ sv.ownBlock = some i := fun i hi e => by
    rcases h.old i hi with h1 | h1
    · exact h.ents.off i e h1
    · have := (h.ents.own.lt i e).1; omega
  have newS : ∀ i, i < w1.heap.size → ¬ sv.ownBlock = some i := fun i hi e => by have := (h.ents.own.lt i e).1; have := h.nw; omega
  have nW : ¬ sv.ownBlock = some wb := ownsRow.ne_type h.ents.own h.ws.head (by decide)
  have nA : ¬ sv.ownBlock = some ab := ownsRow.ne_type h.ents.own h.act (by decide)
  have nN : ¬ sv.ownBlock = some nb := ownsRow.ne_type h.ents.own h.nbx.heap (by decide)
  have nC : ¬ sv.ownBlock = some c := ownsRow.ne_type h.ents.own h.po.pool.heap (by decide)
  have W1 := h.ws.kept kg own nW (fun b hb => ownsRow.ne_row h.ws.row h.ents.own (by decide) hb) newS
  have a1 := kg.get h.act nA
  have n1 := kg.get h.nbx.heap nN
  have p1 := h.po.pool.kept kg nC
  have k2 := (Kept.refl (fun i => i = nb) w').setCell (p := ⟨nb, 17, none⟩) rfl sv'
  have e1 : wb ≠ nb := fun e => by have h1 := W1.head; rw [e, n1] at h1; cases h1
  have e2 : ab ≠ nb := fun e => by rw [e, n1] at a1; cases a1
  have e3 : c ≠ nb := fun e => by
    have h1 := p1.heap
    rw [e, n1] at h1
    injection h1 with h1
    injection h1 with _ h2
    exact absurd h2 (by decide)
  have hlb := lt_of_heap h.nbx.heap
  have hrow' : w'.ownsRow base 35 2 sv' (n.ents ++ [x]).length (entCells (n.ents ++ [x])) := by
    have : entCells (n.ents ++ [x]) = entCells n.ents ++ [.int .i64 x.1, .int .i64 x.2] := by rw [entCells_append]; rfl
    rw [this, List.length_append]
    exact hrow
  have nb' : ¬ nb < w1.heap.size := fun e => by have h1 := h.nbn; have h2 := h.nw; omega
  refine ⟨NodeBox.c17 ⟨n1⟩, free_of_heap n1 17, W1.kept k2 (fun i hi e => h.nn (e ▸ hi)) e1 (fun b hb e => ownsRow.ne_type W1.row n1 (by decide) (e ▸ hb)) (fun i hi e => nb' (e ▸ hi)), k2.get a1 e2, ⟨Nat.lt_of_lt_of_le h.sa.lt (Nat.le_trans kg.size k2.size), h.sa.off⟩, ⟨p1.kept k2 e3, h.po.off⟩, ⟨?_⟩, h.nn, ⟨ownsRow.keptOf hrow' k2 (fun b hb e => ownsRow.ne_type hrow' n1 (by decide) (e ▸ hb)), fun b hb' e => ?_⟩, h.old, h.nw, h.nbn, (h.offs.kept kg (fun i hi e => by have h1 := (h.ents.own.lt i e).1; have h2 := h.hb; omega)).kept k2 (fun i hi e => by have h1 := h.nbn; have h2 := h.hb; omega), h.hb⟩
  · rw [heap_setCell_same n1, nodeCells_set n (n.ents ++ [x])]
  · rcases hb with hb | hb
    · exact h.ents.off b (by rw [← hb]; exact hb') e
    · rw [hb] at hb'
      cases hb'
      exact Nat.lt_irrefl _ (h.ws.own.store.lt (.inl e))
theorem innerOf_succ {pg : Int} {roots keys : List Int} {j : Nat} {k : Int} (hk : keys[j]? = some k) (hr : 0 < roots.length) (h5 : j < 5) :
    innerOf pg roots keys (j + 1) = { innerOf pg roots keys j with ents := (innerOf pg roots keys j).ents ++ [((j : Int) + 1, roots.getD (clampAt k roots.length) 0)] } := by
  unfold innerOf
  rw [moreEnts_succ hk hr h5]
  rfl

set_option maxHeartbeats 8000000 in
theorem worldMake {w1 wr : World} {A : SA} {M : SM} {sb wb : Nat} {roots : List Int} {v : Value} (h : WorldSt w1 A M sb wb roots v wr) {a : ActM} (ha : a.ok) {kv : Value} (hk : SliceAt w1 kv 1 a.keys.length (a.keys.map (Value.int .i64)))
    (hlog : M.log.length + 2 < 100000000) (hroots : roots.length ≤ 1000) :
    Calls Try.prog 39 #[.pointer (some ⟨wb, 0, none⟩), .agg (actCells a kv).toArray] wr fun e w' => ∃ A' v', e = .returned (.int .i64 (wmake M roots a).2.2) ∧ WorldSt w1 A' (wmake M roots a).1 sb wb (wmake M roots a).2.1 v' w' ∧ Off wr A wb v A' w' ∧ (v'.ownBlock = v.ownBlock ∨ ∃ b, v'.ownBlock = some b ∧ wr.heap.size ≤ b) := by
  obtain ⟨w0, hw0⟩ : ∃ w0, wr = w0 := ⟨_, rfl⟩
  rw [hw0] at h ⊢
  clear hw0
  have hkr := SliceAt.fresh hk h.own.kept
  obtain ⟨_, Ak, capk, rfl, hck1, hck2, _⟩ := id hk
  unfold maxLen at hck2
  obtain ⟨Av, capv, rfl, hcv1, hcv2⟩ := h.form
  unfold maxLen at hcv2
  obtain ⟨v, hv⟩ : ∃ v, Value.slice Av roots.length capv = v := ⟨_, rfl⟩
  rw [hv] at h
  obtain ⟨cs, hcs⟩ : ∃ cs, actCells a (.slice Ak a.keys.length capk) = cs := ⟨_, rfl⟩
  obtain ⟨B, hB⟩ : ∃ B, blockCells a.block = B := ⟨_, rfl⟩
  obtain ⟨ab, hab⟩ : ∃ ab, w0.heap.size = ab := ⟨_, rfl⟩
  have hBl : Hid (B.length = 16) := Lib.hid (by rw [← hB]; exact blockCells_len _)
  have hcsB : Hid (∀ j u, B[j]? = some u → ∀ W : World, W.heap[ab]? = some (.cells cs.toArray 75 (0, 0)) → W.cell? ⟨ab, 3 + j, none⟩ = some u) := Lib.hid (fun j u hj W hW => by
    rw [cell_of_heap hW, ← hcs]
    unfold actCells
    rw [hB]
    simp only [List.getElem?_toArray]
    rw [show 3 + j = ([Value.int .i64 a.kind, .int .i64 a.at_, .slice Ak a.keys.length capk] : List Value).length + j from rfl, List.getElem?_append_right (Nat.le_add_right _ _), Nat.add_sub_cancel_left]
    exact hj)
  have hcs2 : Hid (cs.toArray[2]? = some (.slice Ak a.keys.length capk)) := Lib.hid (by rw [← hcs]; rfl)
  obtain ⟨wA, hwA⟩ : ∃ wA, w0.alloc (.cells cs.toArray 75) = wA := ⟨_, rfl⟩
  have kA : Kept (fun _ => False) w0 wA := by rw [← hwA]; exact (Kept.refl _ _).alloc _
  have bA : wA.heap[ab]? = some (.cells cs.toArray 75 (0, 0)) := by rw [← hwA, ← hab]; exact heap_alloc_new _ _
  have sA : wA.heap.size = ab + 1 := by rw [← hwA, ← hab]; simp
  have WA := h.fresh kA
  have saA : Safe wA A ab := Safe.new h.own.store (by omega) (by omega)
  have hMk := storeMark WA.own.store
  rw [WA.eq] at hMk
  have hMk' := Lib.hid hMk
  have cA0 := WA.c0
  obtain ⟨Z, hZ⟩ : ∃ Z, nodeCells NM.zero (.slice none 0 0) = Z := ⟨_, rfl⟩
  have hZz : Hid ((Try.prog.info? 33).map (·.zero) = some (some (.agg Z.toArray))) := Lib.hid (by rw [← hZ]; exact node_zero)
  have hZl : Hid (Z.length = 18) := Lib.hid (by rw [← hZ]; exact nodeCells_len _ _)
  obtain ⟨D, hD⟩ : ∃ D, nodeCells ⟨1, a.block, []⟩ (.slice none 0 0) = D := ⟨_, rfl⟩
  have hbD : Hid (∀ w, (Instr.build 33 #[(0, .int .i64 1), (1, .agg B.toArray)]).run Try.prog w = .ok (.agg D.toArray) w) := Lib.hid (fun w => by rw [← hB, ← hD]; exact run_build _ _ _ _ (by kernel_rfl))
  obtain ⟨p, hp⟩ : ∃ p, M.pool.turned 1 2 = p := ⟨_, rfl⟩
  have hmk : ∀ w2, StoreAt w2 A (markM M) → Calls Try.prog 32 #[.pointer (some ⟨A.sb, 0, none⟩), .agg D.toArray] w2 fun e w' => ∃ A', e = .returned (.tuple #[.int .i64 ((markM M).make ⟨1, a.block, []⟩).2.1, .int .i64 ((markM M).make ⟨1, a.block, []⟩).2.2]) ∧ StoreTo A A' ((markM M).make ⟨1, a.block, []⟩).1 w2 w' := fun w2 h2 => by
    rw [← hD]
    exact storeMake (n := ⟨1, a.block, []⟩) (sv := .slice none 0 0) h2 ⟨sliceNil (by decide), fun _ b hb => by simp [Value.ownBlock] at hb⟩ ha.1 ha.2 (by show M.log.length < 100000000; omega)
  have hres : Hid (wmake M roots a = if ((markM M).make ⟨1, a.block, []⟩).2.2 = 0 then
      (if (((markM M).make ⟨1, a.block, []⟩).1.make (innerOf ((markM M).make ⟨1, a.block, []⟩).2.1 roots a.keys a.keys.length)).2.2 = 0 then
        (if ((((markM M).make ⟨1, a.block, []⟩).1.make (innerOf ((markM M).make ⟨1, a.block, []⟩).2.1 roots a.keys a.keys.length)).1.hold (((markM M).make ⟨1, a.block, []⟩).1.make (innerOf ((markM M).make ⟨1, a.block, []⟩).2.1 roots a.keys a.keys.length)).2.1).2 = 0 then
          (((((markM M).make ⟨1, a.block, []⟩).1.make (innerOf ((markM M).make ⟨1, a.block, []⟩).2.1 roots a.keys a.keys.length)).1.hold (((markM M).make ⟨1, a.block, []⟩).1.make (innerOf ((markM M).make ⟨1, a.block, []⟩).2.1 roots a.keys a.keys.length)).2.1).1, roots ++ [(((markM M).make ⟨1, a.block, []⟩).1.make (innerOf ((markM M).make ⟨1, a.block, []⟩).2.1 roots a.keys a.keys.length)).2.1], 0)
         else (⟨p, ((((markM M).make ⟨1, a.block, []⟩).1.make (innerOf ((markM M).make ⟨1, a.block, []⟩).2.1 roots a.keys a.keys.length)).1.hold (((markM M).make ⟨1, a.block, []⟩).1.make (innerOf ((markM M).make ⟨1, a.block, []⟩).2.1 roots a.keys a.keys.length)).2.1).1.log⟩, roots, ((((markM M).make ⟨1, a.block, []⟩).1.make (innerOf ((markM M).make ⟨1, a.block, []⟩).2.1 roots a.keys a.keys.length)).1.hold (((markM M).make ⟨1, a.block, []⟩).1.make (innerOf ((markM M).make ⟨1, a.block, []⟩).2.1 roots a.keys a.keys.length)).2.1).2))
       else (⟨p, (((markM M).make ⟨1, a.block, []⟩).1.make (innerOf ((markM M).make ⟨1, a.block, []⟩).2.1 roots a.keys a.keys.length)).1.log⟩, roots, (((markM M).make ⟨1, a.block, []⟩).1.make (innerOf ((markM M).make ⟨1, a.block, []⟩).2.1 roots a.keys a.keys.length)).2.2))
      else (⟨p, ((markM M).make ⟨1, a.block, []⟩).1.log⟩, roots, ((markM M).make ⟨1, a.block, []⟩).2.2)) := Lib.hid (by rw [← hp]; rfl)
  have hsize3 := make_size (markM M) ⟨1, a.block, []⟩
  have hlog3 := make_log (markM M) ⟨1, a.block, []⟩
  obtain ⟨R3, hR3⟩ : ∃ R3, (markM M).make ⟨1, a.block, []⟩ = R3 := ⟨_, rfl⟩
  rw [hR3] at hsize3 hlog3
  simp only [hR3] at hmk hres
  obtain ⟨M3, pg, er⟩ := R3
  dsimp only at hmk hres hsize3 hlog3
  have hsize3 : Hid (M3.pool.size = p.size) := Lib.hid (by rw [hsize3, ← hp]; rfl)
  have hlog3 : Hid (M3.log.length ≤ M.log.length + 1) := Lib.hid hlog3
  rw [WA.eq] at hmk
  have hmk' := Lib.hid hmk
  have WA' := Lib.hid WA
  have oA := Lib.hid ((Off.refl w0 A wb v).fresh kA)
  have saA' := Lib.hid saA
  have bA' := Lib.hid bA
  have hwA' := Lib.hid hwA
  have hab' := Lib.hid hab
  have hold2 : Hid (∀ {A3 : SA} {M3 : SM} {wX w3 : World}, StoreTo A A3 M3 wX w3 → ∀ j, A3.own j → A3.foot j ∨ j < ab) := Lib.hid (fun k j hj => by
    rcases hj with hj | hj | hj
    · exact .inl hj
    · right
      rw [k.fix.2] at hj
      rw [← hab]
      exact h.own.store.lt (.inr (.inl hj))
    · right
      rw [k.fix.1] at hj
      rw [← hab]
      exact h.own.store.lt (.inr (.inr hj)))
  have hv' := Lib.hid hv
  have hw1b : Hid (w1.heap.size ≤ ab) := Lib.hid (by rw [← hab]; exact h.own.kept.size)
  have hp' := Lib.hid hp
  have hk' := Lib.hid hk
  rw [hcs]
  clear hcs hB hD hp hwA kA hab bA sA WA saA hMk hmk hZ hR3 h hv hk hkr
  go_enter Try.func39, Try.ntmps39
  go_wp2_with (refine wpList_box_named 75 rfl rfl _ rfl hwA'.out ?_; rw [hab'.out])
  refine hMk'.out.mono ?_
  rintro e w2 ⟨c, rfl, hT2, hpo2⟩
  rw [hp'.out] at hpo2
  have W2 : Hid (WorldSt w1 A (markM M) sb wb roots v w2) := Lib.hid (WA'.out.to hT2)
  have P2 := Lib.hid hpo2
  have o2 := Lib.hid (oA.out.to hT2)
  have b2 := Lib.hid (hT2.get bA'.out saA'.out)
  have sa2' := Lib.hid ((saA'.out.to hT2).fresh ((Kept.refl (fun _ => False) w2).drew))
  have hload2 : Hid (∀ j v, B[j]? = some v → w2.cell? ⟨ab, 3 + j, none⟩ = some v) := Lib.hid (fun j v hj => hcsB.out j v hj w2 b2.out)
  have hmk2' := Lib.hid (hmk'.out w2.drew (W2.out.own.store.fresh (Kept.refl _ _).drew))
  clear hT2 hpo2 cA0
  go_wp2_with fail
  refine wp_region_held_drew (S := fun W => W.cell? ⟨wb, 0, none⟩ = some (.pointer (some ⟨sb, 0, none⟩)) ∧ ∀ j v, B[j]? = some v → W.cell? ⟨ab, 3 + j, none⟩ = some v) (by kernel_rfl) ⟨W2.out.c0, hload2.out⟩ (fun hH => ?_)
  refine wpAnyH_take (i := 0) (v := .pointer (some ⟨wb, 0, none⟩)) rfl (by kernel_rfl) (by kernel_rfl) (by kernel_rfl) (fun _ _ _ h => h) (Or.inl ⟨by rfl, fun W hW => by go_simp⟩) (by assumption) ?_
  simp only [Act.put, List.getElem_toArray, List.getElem_cons_zero, List.getElem_cons_succ, List.setIfInBounds_toArray, List.set_cons_zero, List.set_cons_succ]
  refine wpAnyH_take (i := 1) (v := .pointer (some ⟨wb, 0, none⟩)) rfl (by kernel_rfl) (by kernel_rfl) (by kernel_rfl) (fun _ _ _ h => h) (Or.inl ⟨by rfl, fun W hW => by go_simp⟩) (by assumption) ?_
  simp only [Act.put, List.getElem_toArray, List.getElem_cons_zero, List.getElem_cons_succ, List.setIfInBounds_toArray, List.set_cons_zero, List.set_cons_succ]
  refine wpAnyH_take (i := 2) (v := .pointer (some ⟨wb, 0, none⟩)) rfl (by kernel_rfl) (by kernel_rfl) (by kernel_rfl) (fun _ _ _ h => h) (Or.inl ⟨by rfl, fun W hW => by go_simp⟩) (by assumption) ?_
  simp only [Act.put, List.getElem_toArray, List.getElem_cons_zero, List.getElem_cons_succ, List.setIfInBounds_toArray, List.set_cons_zero, List.set_cons_succ]
  refine wpAnyH_take (i := 3) (v := .pointer (some ⟨sb, 0, none⟩)) rfl (by kernel_rfl) (by kernel_rfl) (by kernel_rfl) (fun _ _ _ h => h) (Or.inl ⟨by rfl, fun W hW => by have hc := hW.1; clear hW; go_simp⟩) (by assumption) ?_
  simp only [Act.put, List.getElem_toArray, List.getElem_cons_zero, List.getElem_cons_succ, List.setIfInBounds_toArray, List.set_cons_zero, List.set_cons_succ]
  refine wpAnyH_take (i := 4) (v := .pointer (some ⟨ab, 3, none⟩)) rfl (by kernel_rfl) (by kernel_rfl) (by kernel_rfl) (fun _ _ _ h => h) (Or.inl ⟨by rfl, fun W hW => by go_simp⟩) (by assumption) ?_
  simp only [Act.put, List.getElem_toArray, List.getElem_cons_zero, List.getElem_cons_succ, List.setIfInBounds_toArray, List.set_cons_zero, List.set_cons_succ]
  refine wpAnyH_take (i := 5) (v := .agg B.toArray) rfl (by kernel_rfl) (by kernel_rfl) (by kernel_rfl) (fun _ _ _ h => h) (Or.inl ⟨by rfl, fun W hW => exec_load_agg rfl (by rfl) B Try.underlying30 rfl (by rw [hBl.out]; exact block_size) hW.2⟩) (by assumption) ?_
  simp only [Act.put, List.getElem_toArray, List.getElem_cons_zero, List.getElem_cons_succ, List.setIfInBounds_toArray, List.set_cons_zero, List.set_cons_succ]
  refine wpAnyH_take (i := 6) (v := .agg D.toArray) rfl (by kernel_rfl) (by kernel_rfl) (by kernel_rfl) (fun _ _ _ h => h) (Or.inl ⟨by rfl, fun W hW => exec_build 33 #[(0, .const (.int .i64 1)), (1, .tmp 24)] _ rfl (by simp [Act.eval]) (hbD.out _)⟩) (by assumption) ?_
  simp only [Act.put, List.getElem_toArray, List.getElem_cons_zero, List.getElem_cons_succ, List.setIfInBounds_toArray, List.set_cons_zero, List.set_cons_succ]
  refine wpAnyH_ready (rs := [7]) (by kernel_rfl) (by simp) ?_
  refine AllReadyH.cons rfl (fun K hK => ?_) ?_
  · rw [if_pos (by rfl)]
    simp only [Go.wp_at_zero, Go.wp_at_succ]
    go_simp
    refine hmk2'.out.mono ?_
    rintro e w3 ⟨A3, rfl, hT3⟩
    have W3 := Lib.hid ((W2.out.fresh (Kept.refl _ _).drew).to hT3)
    have b3 := Lib.hid (hT3.get (show w2.drew.heap[ab]? = _ from b2.out) sa2'.out)
    have o3 := Lib.hid ((o2.out.fresh (Kept.refl (fun _ => False) w2).drew).to hT3)
    have P3 := Lib.hid ((P2.out.fresh (Kept.refl _ _).drew).to hT3)
    have sa3 := Lib.hid (sa2'.out.to hT3)
    have k23 : Hid (∀ j, A3.own j → A3.foot j ∨ j < ab) := Lib.hid (hold2.out hT3)
    have hload3 : ∀ j v, B[j]? = some v → w3.cell? ⟨ab, 3 + j, none⟩ = some v := fun j v hj => hcsB.out j v hj w3 b3.out
    refine hK.out _ _ ⟨W3.out.c0, hload3⟩ (fun hH3 => ?_)
    clear hK K
    try simp only [Act.put, List.getElem_toArray, List.getElem_cons_zero, List.getElem_cons_succ, List.setIfInBounds_toArray, List.set_cons_zero, List.set_cons_succ]
    refine wpAnyH_take (i := 8) (v := .tuple #[.int .i64 pg, .int .i64 er]) rfl (by kernel_rfl) (by kernel_rfl) (by kernel_rfl) (fun _ _ _ h => h) (Or.inl ⟨by rfl, fun W hW => by go_simp⟩) (by assumption) ?_
    simp only [Act.put, List.getElem_toArray, List.getElem_cons_zero, List.getElem_cons_succ, List.setIfInBounds_toArray, List.set_cons_zero, List.set_cons_succ]
    refine wpAnyH_take (i := 9) (v := .int .i64 pg) rfl (by kernel_rfl) (by kernel_rfl) (by kernel_rfl) (fun _ _ _ h => h) (Or.inl ⟨by rfl, fun W hW => by go_simp⟩) (by assumption) ?_
    simp only [Act.put, List.getElem_toArray, List.getElem_cons_zero, List.getElem_cons_succ, List.setIfInBounds_toArray, List.set_cons_zero, List.set_cons_succ]
    refine wpAnyH_take (i := 10) (v := .int .i64 er) rfl (by kernel_rfl) (by kernel_rfl) (by kernel_rfl) (fun _ _ _ h => h) (Or.inl ⟨by rfl, fun W hW => by go_simp⟩) (by assumption) ?_
    simp only [Act.put, List.getElem_toArray, List.getElem_cons_zero, List.getElem_cons_succ, List.setIfInBounds_toArray, List.set_cons_zero, List.set_cons_succ]
    refine wpAnyH_take (i := 11) (v := .int .i64 pg) rfl (by kernel_rfl) (by kernel_rfl) (by kernel_rfl) (fun _ _ _ h => h) (Or.inl ⟨by rfl, fun W hW => by go_simp⟩) (by assumption) ?_
    simp only [Act.put, List.getElem_toArray, List.getElem_cons_zero, List.getElem_cons_succ, List.setIfInBounds_toArray, List.set_cons_zero, List.set_cons_succ]
    refine wpAnyH_take (i := 12) (v := .int .i64 er) rfl (by kernel_rfl) (by kernel_rfl) (by kernel_rfl) (fun _ _ _ h => h) (Or.inl ⟨by rfl, fun W hW => by go_simp⟩) (by assumption) ?_
    simp only [Act.put, List.getElem_toArray, List.getElem_cons_zero, List.getElem_cons_succ, List.setIfInBounds_toArray, List.set_cons_zero, List.set_cons_succ]
    refine wpAnyH_done (by kernel_rfl) ?_ _
    clear hH hH3 hload3 hT3
    by_cases h0 : er = 0
    · subst h0
      rw [if_pos rfl] at hres
      obtain ⟨n0, hn0⟩ : ∃ n0, innerOf pg roots a.keys 0 = n0 := ⟨_, rfl⟩
      have hn0e : n0.ents = [(0, pg)] := by rw [← hn0]; unfold innerOf moreEnts; simp
      obtain ⟨g, hg⟩ : ∃ g, w3.heap.size = g := ⟨_, rfl⟩
      obtain ⟨w4, hw4⟩ : ∃ w4, w3.alloc (.cells #[.int .i64 0, .int .i64 pg] 35) = w4 := ⟨_, rfl⟩
      have k4 : Kept (fun _ => False) w3 w4 := by rw [← hw4]; exact (Kept.refl _ _).alloc _
      have s4 : w4.heap.size = g + 1 := by rw [← hw4, ← hg]; simp
      have g4 : w4.heap[g]? = some (.cells #[.int .i64 0, .int .i64 pg] 35 (0, 0)) := by rw [← hw4, ← hg]; exact heap_alloc_new _ _
      obtain ⟨G, hG⟩ : ∃ G, nodeCells n0 (.slice (some ⟨g, 0, none⟩) 1 1) = G := ⟨_, rfl⟩
      have hGl : Hid (G.length = 18) := Lib.hid (by rw [← hG]; exact nodeCells_len _ _)
      have hG1 : Hid (∀ v ∈ G, v.oneCell' = true) := Lib.hid (by rw [← hG]; exact nodeCells_one _ _ _ _)
      have hbG : Hid (∀ w, (Instr.build 33 #[(0, .int .i64 3), (2, .slice (some ⟨w3.heap.size, 0, none⟩) 1 1)]).run Try.prog w = .ok (.agg G.toArray) w) := Lib.hid (fun w => by rw [← hG, ← hn0, hg]; exact run_build_part _ _ _ _ _ _)
      obtain ⟨w5, hw5⟩ : ∃ w5, (w4.alloc (.cells Z.toArray 33)).setRow (g + 1) G.toArray = w5 := ⟨_, rfl⟩
      have k5 : Kept (fun _ => False) w4 w5 := by rw [← hw5]; exact ((Kept.refl _ _).alloc _).setRowNew (by omega) _
      have q5 : w5.heap[g + 1]? = some (.cells G.toArray 33 (0, 0)) := by rw [← hw5, ← s4]; exact setRow_heap _ _ _ _ _ _ (heap_alloc_new _ _)
      have hg5 := k5.get g4 id
      have hlt3 : ∀ j, A3.own j → j < g := fun j hj => by rw [← hg]; exact W3.out.own.store.lt hj
      have hbase : ab ≤ g := by have := lt_of_heap b3.out; omega
      have St5 : MakeSt w1 w0 A A3 M3 sb wb roots v ab (g + 1) c ab cs p n0 (.slice (some ⟨g, 0, none⟩) 1 1) w5 := by
        refine ⟨(W3.out.fresh k4).fresh k5, (k4.trans k5).get b3.out id, (sa3.out.fresh k4).fresh k5, (P3.out.fresh k4).fresh k5, ⟨by rw [hG]; exact q5⟩, fun e => by have := hlt3 _ e; omega, ⟨⟨by rw [hn0e]; rfl, .inr ⟨g, 1, _, by rw [hn0e]; rfl, hbase, hg5, by rw [hn0e]; exact Nat.le_refl _, by decide, rfl, by rw [hn0e]; rfl⟩⟩, fun b hb e => ?_⟩, k23.out, hw1b.out, by omega, (o3.out.fresh k4).fresh k5, hab'.out.symm⟩
        simp [Value.ownBlock] at hb
        subst hb
        exact Nat.lt_irrefl _ (hlt3 _ (.inl e))
      have St5' := Lib.hid St5
      have hw4' := Lib.hid hw4
      have hw5' := Lib.hid hw5
      have s4' := Lib.hid s4
      have hg' := Lib.hid hg
      have hn0' := Lib.hid hn0
      have ck5 := cell_of_heap St5.act 2
      rw [hcs2.out] at ck5
      clear hw4 hw5 s4 hg hn0 hn0e k4 k5 q5 hg5 g4 hG hlt3 hbase St5
      go_wp2_with (first | (refine wpList_exec rfl (exec_build 33 #[(0, .const (.int .i64 3)), (2, .tmp 40)] _ rfl (by simp [Act.eval, Act.put]) (hbG.out _)) ?_) | (refine wpList_alloc_as 33 rfl rfl Z.toArray hZz.out ?_; simp only [hw4'.out, hg'.out, s4'.out]) | (refine wpList_store_whole 33 rfl rfl rfl G rfl (by rw [hGl.out]; exact node_size) 33 _ (by rw [← s4'.out]; exact heap_alloc_new _ _) (by simp [hGl.out, hZl.out]) hG1.out ?_; rw [hw5'.out]))
      go_loopw [45] (fun i wr => ∃ (k : Nat), k ≤ a.keys.length ∧ i = .int .i64 k ∧ Hid (∃ sv, MakeSt w1 w0 A A3 M3 sb wb roots v ab (g + 1) c ab cs p (innerOf pg roots a.keys k) sv wr)) (fun i _ => a.keys.length - (intOf i).toNat)
      case atStart => exact ⟨0, Nat.zero_le _, rfl, Lib.hid ⟨_, by rw [hn0'.out]; exact St5'.out⟩⟩
      case round =>
        obtain ⟨k, hkl, rfl, hI⟩ := hrel
        obtain ⟨sv, hSt⟩ := hI.out
        have St := Lib.hid hSt
        have cw0 := hSt.ws.c0
        have cw1 := hSt.ws.c1
        rw [← hv'.out] at cw1
        have c17 := hSt.nbx.c17
        clear hSt hI
        by_cases hlt : k < a.keys.length
        · obtain ⟨x, hx⟩ : ∃ x, a.keys[k]? = some x := ⟨_, List.getElem?_eq_getElem hlt⟩
          obtain ⟨kb, ko, rfl, hkb, hkc⟩ := ints_get hk'.out hx
          have hkc' := St.out.ws.own.kept.cell hkc id
          have hki : (k : Int) < (a.keys.length : Int) := by omega
          have hx' := Lib.hid hx
          clear hx hkc
          by_cases hr0 : roots.length = 0
          · have fin : Hid (∃ sv, MakeSt w1 w0 A A3 M3 sb wb roots v ab (g + 1) c ab cs p (innerOf pg roots a.keys (k + 1)) sv wr) := Lib.hid ⟨sv, by unfold innerOf; rw [moreEnts_none hr0]; exact St.out⟩
            have hd0 : decide ((0 : Int) < (roots.length : Int)) = false := by rw [decide_eq_false_iff_not]; omega
            go_wp2_with fail
            go_roundw
            case rel => exact ⟨k + 1, by omega, by go_num, fin⟩
            case measure => simp [intOf]; omega
          · have hd0 : decide ((0 : Int) < (roots.length : Int)) = true := by rw [decide_eq_true_eq]; omega
            by_cases h5 : k < 5
            · have hd5 : decide ((k : Int) < 5) = true := by rw [decide_eq_true_eq]; omega
              obtain ⟨q, hq⟩ : ∃ q, clampAt x roots.length = q := ⟨_, rfl⟩
              have hql : q < roots.length := by rw [← hq]; exact clampAt_lt (by omega)
              have hqc : max 0 (min x ((roots.length : Int) - 1)) = (q : Int) := by rw [← hq]; unfold clampAt; omega
              obtain ⟨r, hr⟩ : ∃ r, roots[q]? = some r := ⟨_, List.getElem?_eq_getElem hql⟩
              obtain ⟨rb, ro, rfl, hrb, hrc⟩ := St.out.ws.get hv'.out.symm hr
              have hin := innerOf_succ (pg := pg) hx'.out (show 0 < roots.length by omega) h5
              rw [hq, show roots.getD q 0 = r by rw [List.getD_eq_getElem?_getD, hr]; rfl] at hin
              have hin' := Lib.hid hin
              have hwk : IntKind.i64.wrap ((k : Int) + 1) = (k : Int) + 1 := by rw [IntKind.wrap_i64]; omega
              have hqi : (q : Int) < (roots.length : Int) := by omega
              have Sd := Lib.hid ((St.out.fresh (Kept.refl (fun _ => False) wr).drew).fresh ((Kept.refl (fun _ => False) wr.drew).alloc (.cells #[.int .i64 ((k : Int) + 1), .int .i64 r] 35)))
              have hsl : (innerOf pg roots a.keys k).ents.length ≤ 6 := by unfold innerOf; rw [List.length_cons]; have := moreEnts_len roots a.keys k; omega
              obtain ⟨Asv, csv, rfl, hsv1, hsv2⟩ := EntsAt.form Sd.out.ents.ents.at_
              have hsl' := Lib.hid hsl
              have cd17 : (wr.alloc (.cells #[.int .i64 ((k : Int) + 1), .int .i64 r] 35)).cell? ⟨g + 1, 17, none⟩ = some (.slice Asv (innerOf pg roots a.keys k).ents.length csv) := Sd.out.nbx.c17
              clear hin hr hq hsl
              go_wp2_with fail
              go_region_law (refine step_append_src rfl elemEntry (.tmp 70) (.tmp 81) rfl (by rfl) (by rfl) Sd.out.ents.own (SliceAt.block_new (ys := [.int .i64 ((k : Int) + 1), .int .i64 r]) (m := 1) (heap_alloc_new _ _) (by rfl) (by decide)) (by intro c hc; simp at hc; rcases hc with rfl | rfl <;> rfl) (by have := hsl'.out; omega) (by omega) (Nat.le_of_lt (lt_of_heap Sd.out.act)) ?_; intro v2 w10 hown10 hg10 hat10; have hA10 := Sd.out.more (x := ((k : Int) + 1, r)) hown10 hg10 hat10; obtain ⟨A10, cap10, rfl, _⟩ := EntsAt.form hA10.2.2.ents.ents.at_; have c10 := hA10.1; have f10 := hA10.2.1; have fin10 := Lib.hid hA10.2.2; clear hown10 hg10 hat10 hA10)
              all_goals
                go_wp2_with fail
                go_roundw
                case rel => exact ⟨k + 1, by omega, by go_num, Lib.hid ⟨_, by rw [hin'.out]; have hf := fin10.out; simp only [List.length_append, List.length_cons, List.length_nil, Nat.zero_add] at hf; exact hf⟩⟩
                case measure => simp [intOf]; omega
            · have hd5 : decide ((k : Int) < 5) = false := by rw [decide_eq_false_iff_not]; omega
              have fin : Hid (∃ sv, MakeSt w1 w0 A A3 M3 sb wb roots v ab (g + 1) c ab cs p (innerOf pg roots a.keys (k + 1)) sv wr) := Lib.hid ⟨sv, by unfold innerOf; rw [moreEnts_full (by omega)]; exact St.out⟩
              go_wp2_with fail
              go_roundw
              case rel => exact ⟨k + 1, by omega, by go_num, fin⟩
              case measure => simp [intOf]; omega
        · obtain rfl : k = a.keys.length := by omega
          go_wp2_with fail
          obtain ⟨n1, hn1⟩ : ∃ n1, innerOf pg roots a.keys a.keys.length = n1 := ⟨_, rfl⟩
          have hn1k : n1.block.length = 16 ∧ ∀ b ∈ n1.block, b < 256 := by rw [← hn1]; exact ⟨zeros_ok.1, zeros_ok.2.1⟩
          have hmk4 := storeMake (St.out.ws.own.store.fresh (Kept.refl (fun _ => False) wr).drew) (n := n1) (sv := sv) (by rw [← hn1]; exact St.out.ents.ents.fresh (Kept.refl (fun _ => False) wr).drew) hn1k.1 hn1k.2 (by have := hlog3.out; omega)
          rw [St.out.ws.eq] at hmk4
          have hsz4 := make_size M3 n1
          have hnb := St.out.nbx.heap
          rw [hn1] at hnb
          simp only [hn1] at hres
          obtain ⟨F, hF⟩ : ∃ F, nodeCells n1 sv = F := ⟨_, rfl⟩
          have hFl : Hid (F.length = 18) := Lib.hid (by rw [← hF]; exact nodeCells_len _ _)
          rw [hF] at hmk4 hnb
          have snb : Hid (Safe wr.drew A3 (g + 1)) := Lib.hid ⟨lt_of_heap hnb, fun e => St.out.nn (.inl e)⟩
          have hnb' := Lib.hid hnb
          obtain ⟨R4, hR4⟩ : ∃ R4, M3.make n1 = R4 := ⟨_, rfl⟩
          rw [hR4] at hmk4 hsz4
          simp only [hR4] at hres
          obtain ⟨M4, r4, er4⟩ := R4
          dsimp only at hmk4 hsz4 hres
          have hsz4' : Hid (p.size = M4.pool.size) := Lib.hid (by rw [hsz4, hsize3.out])
          have hmk4' := Lib.hid hmk4
          clear hmk4 hsz4 hR4 hF hn1 hnb hn1k c17 cw1
          refine wp_region_held_drew (S := fun W => W.cell? ⟨wb, 0, none⟩ = some (.pointer (some ⟨sb, 0, none⟩)) ∧ W.heap[g + 1]? = some (.cells F.toArray 33 (0, 0))) (by kernel_rfl) ⟨cw0, hnb'.out⟩ (fun hH => ?_)
          refine wpAnyH_take (i := 0) (v := .pointer (some ⟨wb, 0, none⟩)) rfl (by kernel_rfl) (by kernel_rfl) (by kernel_rfl) (fun _ _ _ h => h) (Or.inl ⟨by rfl, fun W hW => by go_simp⟩) (by assumption) ?_
          simp only [Act.put, List.getElem_toArray, List.getElem_cons_zero, List.getElem_cons_succ, List.setIfInBounds_toArray, List.set_cons_zero, List.set_cons_succ]
          refine wpAnyH_take (i := 1) (v := .pointer (some ⟨wb, 0, none⟩)) rfl (by kernel_rfl) (by kernel_rfl) (by kernel_rfl) (fun _ _ _ h => h) (Or.inl ⟨by rfl, fun W hW => by go_simp⟩) (by assumption) ?_
          simp only [Act.put, List.getElem_toArray, List.getElem_cons_zero, List.getElem_cons_succ, List.setIfInBounds_toArray, List.set_cons_zero, List.set_cons_succ]
          refine wpAnyH_take (i := 2) (v := .pointer (some ⟨wb, 0, none⟩)) rfl (by kernel_rfl) (by kernel_rfl) (by kernel_rfl) (fun _ _ _ h => h) (Or.inl ⟨by rfl, fun W hW => by go_simp⟩) (by assumption) ?_
          simp only [Act.put, List.getElem_toArray, List.getElem_cons_zero, List.getElem_cons_succ, List.setIfInBounds_toArray, List.set_cons_zero, List.set_cons_succ]
          refine wpAnyH_take (i := 3) (v := .pointer (some ⟨sb, 0, none⟩)) rfl (by kernel_rfl) (by kernel_rfl) (by kernel_rfl) (fun _ _ _ h => h) (Or.inl ⟨by rfl, fun W hW => by have hc := hW.1; clear hW; go_simp⟩) (by assumption) ?_
          simp only [Act.put, List.getElem_toArray, List.getElem_cons_zero, List.getElem_cons_succ, List.setIfInBounds_toArray, List.set_cons_zero, List.set_cons_succ]
          refine wpAnyH_take (i := 4) (v := .agg F.toArray) rfl (by kernel_rfl) (by kernel_rfl) (by kernel_rfl) (fun _ _ _ h => h) (Or.inl ⟨by rfl, fun W hW => exec_load_agg rfl (by rfl) F Try.underlying33 rfl (by rw [hFl.out]; exact node_size) (fun j v hj => by rw [cell_of_heap hW.2, Nat.zero_add]; simpa using hj)⟩) (by assumption) ?_
          simp only [Act.put, List.getElem_toArray, List.getElem_cons_zero, List.getElem_cons_succ, List.setIfInBounds_toArray, List.set_cons_zero, List.set_cons_succ]
          refine wpAnyH_ready (rs := [5]) (by kernel_rfl) (by simp) ?_
          refine AllReadyH.cons rfl (fun K hK => ?_) ?_
          · rw [if_pos (by rfl)]
            simp only [Go.wp_at_zero, Go.wp_at_succ]
            go_simp
            refine hmk4'.out.mono ?_
            rintro e w5 ⟨A5, rfl, hT5⟩
            have W5 := (St.out.ws.fresh (Kept.refl (fun _ => False) wr).drew).to hT5
            have hsz5 : Hid (w0.heap.size ≤ w5.heap.size) := Lib.hid (by have h1 := hT5.kept.size; have h2 : wr.drew.heap.size = wr.heap.size := rfl; have h3 := lt_of_heap St.out.nbx.heap; have h4 := St.out.hb; have h5 := St.out.nbn; omega)
            have o5 := Lib.hid ((St.out.offs.fresh (Kept.refl (fun _ => False) wr).drew).to hT5)
            have P5 := Lib.hid ((St.out.po.fresh (Kept.refl (fun _ => False) wr).drew).to hT5)
            have q5 := hT5.get (show wr.drew.heap[g + 1]? = _ from hnb'.out) snb.out
            refine hK.out _ _ ⟨W5.c0, q5⟩ (fun hH5 => ?_)
            clear hK K
            try simp only [Act.put, List.getElem_toArray, List.getElem_cons_zero, List.getElem_cons_succ, List.setIfInBounds_toArray, List.set_cons_zero, List.set_cons_succ]
            refine wpAnyH_take (i := 6) (v := .tuple #[.int .i64 r4, .int .i64 er4]) rfl (by kernel_rfl) (by kernel_rfl) (by kernel_rfl) (fun _ _ _ h => h) (Or.inl ⟨by rfl, fun W hW => by go_simp⟩) (by assumption) ?_
            simp only [Act.put, List.getElem_toArray, List.getElem_cons_zero, List.getElem_cons_succ, List.setIfInBounds_toArray, List.set_cons_zero, List.set_cons_succ]
            refine wpAnyH_take (i := 7) (v := .int .i64 r4) rfl (by kernel_rfl) (by kernel_rfl) (by kernel_rfl) (fun _ _ _ h => h) (Or.inl ⟨by rfl, fun W hW => by go_simp⟩) (by assumption) ?_
            simp only [Act.put, List.getElem_toArray, List.getElem_cons_zero, List.getElem_cons_succ, List.setIfInBounds_toArray, List.set_cons_zero, List.set_cons_succ]
            refine wpAnyH_take (i := 8) (v := .int .i64 er4) rfl (by kernel_rfl) (by kernel_rfl) (by kernel_rfl) (fun _ _ _ h => h) (Or.inl ⟨by rfl, fun W hW => by go_simp⟩) (by assumption) ?_
            simp only [Act.put, List.getElem_toArray, List.getElem_cons_zero, List.getElem_cons_succ, List.setIfInBounds_toArray, List.set_cons_zero, List.set_cons_succ]
            refine wpAnyH_take (i := 9) (v := .int .i64 r4) rfl (by kernel_rfl) (by kernel_rfl) (by kernel_rfl) (fun _ _ _ h => h) (Or.inl ⟨by rfl, fun W hW => by go_simp⟩) (by assumption) ?_
            simp only [Act.put, List.getElem_toArray, List.getElem_cons_zero, List.getElem_cons_succ, List.setIfInBounds_toArray, List.set_cons_zero, List.set_cons_succ]
            refine wpAnyH_take (i := 10) (v := .int .i64 er4) rfl (by kernel_rfl) (by kernel_rfl) (by kernel_rfl) (fun _ _ _ h => h) (Or.inl ⟨by rfl, fun W hW => by go_simp⟩) (by assumption) ?_
            simp only [Act.put, List.getElem_toArray, List.getElem_cons_zero, List.getElem_cons_succ, List.setIfInBounds_toArray, List.set_cons_zero, List.set_cons_succ]
            refine wpAnyH_done (by kernel_rfl) ?_ _
            have c50 := W5.c0
            rw [← hv'.out] at W5
            have W5' := Lib.hid W5
            clear hH hH5 q5 hT5 W5 cw0
            by_cases h4 : er4 = 0
            · subst h4
              rw [if_pos rfl] at hres
              have hh := storeHold W5'.out.own.store r4
              rw [W5'.out.eq] at hh
              have hsz6 : (M4.hold r4).1.pool.size = M4.pool.size := holdTo_size _ _
              obtain ⟨R6, hR6⟩ : ∃ R6, M4.hold r4 = R6 := ⟨_, rfl⟩
              rw [hR6] at hh hsz6
              simp only [hR6] at hres
              obtain ⟨M6, er6⟩ := R6
              dsimp only at hh hres hsz6
              have hsz6' : Hid (p.size = M6.pool.size) := Lib.hid (by rw [hsz6]; exact hsz4'.out)
              have hh' := Lib.hid hh
              clear hh hR6 hsz6
              go_wp2_with fail
              refine hh'.out.mono ?_
              rintro e w6 ⟨rfl, hT6⟩
              have W6 := Lib.hid (W5'.out.to hT6)
              have o6 := Lib.hid (o5.out.to hT6)
              have hszw : Hid (w0.heap.size ≤ w6.heap.size) := Lib.hid (by have h0 := lt_of_heap hT6.store.head; have h1 := hT6.kept.size; have h2 := hsz5.out; omega)
              have P6 := Lib.hid (P5.out.to hT6)
              have c60 := W6.out.c0
              have c61 := W6.out.c1
              clear hT6
              by_cases h6 : er6 = 0
              · subst h6
                rw [if_pos rfl] at hres
                have W7 := Lib.hid (W6.out.fresh ((Kept.refl (fun _ => False) w6).alloc (.cells #[.int .i64 r4] 3)))
                go_wp2_with (at_builtin; refine wpList_append_src rfl elemInt (.tmp 115) (.tmp 117) rfl (by rfl) (by rfl) W7.out.row (SliceAt.block_new (ys := [.int .i64 r4]) (m := 1) (heap_alloc_new _ _) (by rfl) (by decide)) (by intro c hc; simp at hc; subst hc; rfl) (by omega) (by omega) W7.out.own.kept.size ?_; intro v2 w10 hown10 hg10 hat10; have hA10 := W7.out.append (r := r4) hown10 hg10 hat10; have oF := Lib.hid (fun u => ((o6.out.fresh ((Kept.refl (fun _ => False) w6).alloc (.cells #[.int .i64 r4] 3))).kept (Kept.of_grown hg10) (fun i _ e => .inr (by rw [← hv'.out]; exact e.symm ▸ rfl))).kept ((Kept.refl (fun i => i = wb) w10).setCell (p := ⟨wb, 1, none⟩) rfl u) (fun i _ e => .inl e)); obtain ⟨A10, cap10, rfl, _⟩ := hA10.2.2.form; have hat10' := Lib.hid hat10; have c10 := hA10.1; have f10 := hA10.2.1; have fin10 := Lib.hid hA10.2.2; clear hown10 hg10 hat10 hA10)
                go_ret
                exact ⟨A5, .slice A10 (roots.length + 1) cap10, by rw [hres.out]; rfl, by rw [hres.out]; have hf := fin10.out; simp only [List.length_append, List.length_cons, List.length_nil, Nat.zero_add] at hf; exact hf, by rw [hv'.out]; exact oF.out _, by have ht := hat10'.out; simp only [List.length_append, List.length_cons, List.length_nil, Nat.zero_add] at ht; exact ht.imp id (fun e => ⟨_, e, by have h2 := hszw.out; simp; omega⟩)⟩
              · have h6' : ((er6 : Int) == 0) = false := by rw [beq_eq_false_iff_ne]; omega
                rw [if_neg h6] at hres
                clear h6
                have hU := storeUndo W6.out.own.store P6.out.pool (by exact hsz6'.out)
                rw [W6.out.eq] at hU
                have hU' := Lib.hid hU
                clear hU
                go_wp2_with fail
                refine hU'.out.mono ?_
                rintro e w9 ⟨v9, A9, rfl, hT9⟩
                have W9 := Lib.hid (W6.out.to hT9)
                have o9 := Lib.hid (o6.out.to hT9)
                clear hT9
                go_wp2_with fail
                go_ret
                exact ⟨A9, _, by rw [hres.out]; rfl, by rw [hres.out]; exact W9.out, by rw [hv'.out]; exact o9.out, .inl (by first | rfl | rw [hv'.out])⟩
            · have h4' : ((er4 : Int) == 0) = false := by rw [beq_eq_false_iff_ne]; omega
              rw [if_neg h4] at hres
              clear h4
              have hU := storeUndo W5'.out.own.store P5.out.pool (by exact hsz4'.out)
              rw [W5'.out.eq] at hU
              have hU' := Lib.hid hU
              clear hU
              go_wp2_with fail
              refine hU'.out.mono ?_
              rintro e w9 ⟨v9, A9, rfl, hT9⟩
              have W9 := Lib.hid (W5'.out.to hT9)
              have o9 := Lib.hid (o5.out.to hT9)
              clear hT9
              go_wp2_with fail
              go_ret
              exact ⟨A9, _, by rw [hres.out]; rfl, by rw [hres.out]; exact W9.out, by rw [hv'.out]; exact o9.out, .inl (by first | rfl | rw [hv'.out])⟩
          exact AllReadyH.nil
    · have h0' : ((er : Int) == 0) = false := by rw [beq_eq_false_iff_ne]; omega
      rw [if_neg h0] at hres
      clear h0
      have hU := storeUndo W3.out.own.store P3.out.pool (by exact hsize3.out.symm)
      rw [W3.out.eq] at hU
      have hU' := Lib.hid hU
      have cU0 := W3.out.c0
      clear hU
      go_wp2_with fail
      refine hU'.out.mono ?_
      rintro e w9 ⟨v9, A9, rfl, hT9⟩
      have W9 := Lib.hid (W3.out.to hT9)
      have o9 := Lib.hid (o3.out.to hT9)
      clear hT9
      go_wp2_with fail
      go_ret
      exact ⟨A9, v, by rw [hres.out]; rfl, by rw [hres.out]; exact W9.out, by rw [hv'.out]; exact o9.out, .inl (by first | rfl | rw [hv'.out])⟩
  exact AllReadyH.nil
end Go.Proofs.Ythmjcbmeiabbgaa
