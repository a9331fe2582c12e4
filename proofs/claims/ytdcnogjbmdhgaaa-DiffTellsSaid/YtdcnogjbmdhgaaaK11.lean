/-
 The disk: writing, and a new one.
-/
import Derived.Test.YtdcnogjbmdhgaaaK03
import Derived.Test.YtdcnogjbmdhgaaaK10
import Derived.Deep.MidRow
import Derived.Deep.DrawnRows
import Derived.Great.BuildSlice
import Derived.Laws.Tables
set_option linter.unusedVariables false
set_option linter.unusedSimpArgs false
namespace Go.Proofs.Ytdcnogjbmdhgaaa
open Go.RowKit
set_option maxRecDepth 100000

structure DiskTo (d d' : DM) (w w' : World) : Prop where
 disk : DiskAt w' d'
 kept : Kept d.foot w w'
 b : d'.b = d.b
 n : d'.n = d.n
 sv : d'.sv = d.sv
 gm : d'.gm = d.gm
 pv : ∀ k, d'.pv.ownBlock = some k → d.pv.ownBlock = some k ∨ w.heap.size ≤ k

theorem run_build_write (w : World) (i : Int) (p : Nat → Nat) : (Instr.build 125 #[(0, .int .i64 i), (1, .agg (pageCells p).toArray)]).run Try.prog w = .ok (.agg (.int .i64 i :: pageCells p).toArray) w :=
 run_build _ _ _ _ (by kernel_rfl)
theorem run_buildSlice_write (w : World) (i : Int) (p : Nat → Nat) : (Instr.buildSlice 88 1 #[(0, .agg (.int .i64 i :: pageCells p).toArray)]).run Try.prog w = .ok (.slice (some ⟨w.heap.size, 0, none⟩) 1 1) (w.alloc (.cells (.int .i64 i :: pageCells p).toArray 125)) := by
 obtain ⟨i0, hi0, hz0, hz1, hz2⟩ := info_parts write_info
 refine run_buildSlice w _ _ 1 _ _ i0 _ Try.underlying88 hi0 hz0 (by rw [hz1]; omega) (by rw [hz1]; omega) ?_
 rw [hz1]
 kernel_rfl
theorem exec_build {P : Program} {ρ : Operand → Value} {o : Oper} {v : Value} {w : World} (t : TypeId) (parts : Array (Nat × Operand)) (vals : Array (Nat × Value)) (ho : o.op = .build t parts) (hp : parts.map (fun (i, x) => (i, ρ x)) = vals)
  (h : (Instr.build t vals).run P w = .ok v w) : (execOp ρ o).run P w = .ok (.value v) w := by
 subst hp; unfold execOp; simp only [ho, Sem.run_bind, h, Result.andThen_ok]; rfl
theorem exec_buildSlice {P : Program} {ρ : Operand → Value} {o : Oper} {v : Value} {w w' : World} (t : TypeId) (len : Nat) (parts : Array (Nat × Operand)) (vals : Array (Nat × Value)) (ho : o.op = .buildSlice t len parts) (hp : parts.map (fun (i, x) => (i, ρ x)) = vals)
  (h : (Instr.buildSlice t len vals).run P w = .ok v w') : (execOp ρ o).run P w = .ok (.value v) w' := by
 subst hp; unfold execOp; simp only [ho, Sem.run_bind, h, Result.andThen_ok]; rfl
theorem exec_load1 {o : Oper} {ρ : Operand → Value} {ty : TypeId} {x : Operand} {ad : Addr} {v : Value} {w : World} (ho : o.op = .load ty x) (hx : ρ x = .pointer (some ad)) (ha : ∀ w, (isAgg ty).run Try.prog w = .ok false w) (h : w.cell? ad = some v) :
  (execOp ρ o).run Try.prog w = .ok (.value v) w := by
 simp [execOp, ho, hx, Instr.loadAt, Instr.sureAddr, loadVar, ha, h]
theorem wp_exec {P : Program} {o : Oper} {a : Act} {w w' : World} {v : Value} {K : Act → World → Prop} {Q : Exit → Act → World → Prop} (he : (execOp a.eval o).run P w = .ok (.value v) w') (h : K (a.put o.dst v) w') : o.wp P a w K Q := by
 unfold Oper.wp; rw [he]; exact h
theorem elemWrite : Elem 88 125 257 264 := Elem.of Try.underlying88 write_info (by kernel_rfl) (by omega)
theorem pendCells_put (l : List (Nat × (Nat → Nat))) (i : Nat) (p : Nat → Nat) : pendCells (l ++ [(i, p)]) = pendCells l ++ writeCells (i, p) := by simp [pendCells]
theorem disk_put {w W w1 : World} {d : DM} (h : DiskAt w d) (hfew : d.pend.length < 100000000) {i : Nat} {p : Nat → Nat} {g cap : Nat} (k1 : Kept (fun _ => False) w W)
  (hown : w1.ownsRow 0 125 257 (.slice (some ⟨g, 0, none⟩) (d.pend.length + 1) cap) (d.pend.length + 1) (pendCells d.pend ++ writeCells (i, p)))
  (hgrow : W.grownBy w1 d.pv.ownBlock) (hat : d.pv.ownBlock = some g ∨ g = W.heap.size) :
  DiskTo d (d.put i p (.slice (some ⟨g, 0, none⟩) (d.pend.length + 1) cap)) w (w1.setCell ⟨d.b, 2, none⟩ (.slice (some ⟨g, 0, none⟩) (d.pend.length + 1) cap)) := by
 have hW := h.fresh k1
 have e1 := hW.head
 have e2 := hW.badm
 have e3 := hW.badOff
 have e4 := hW.stab
 have e5 := hW.stabOff
 have kW : Kept (fun k => d.pv.ownBlock = some k) W w1 := Kept.of_grown hgrow
 have hb := lt_of_heap e1
 have hgb : g ≠ d.b := by rcases hat with hat | hat; exact fun e => hW.apart (by rw [hat, e]); omega
 have hm := lt_of_heap e2
 have kS : ∀ v, Kept (fun k => k = d.b) w1 (w1.setCell ⟨d.b, 2, none⟩ v) := fun v => (Kept.refl (fun k => k = d.b) w1).setCell (p := ⟨d.b, 2, none⟩) rfl v
 have foot' : ∀ k, ¬ d.foot k → k < W.heap.size → ¬ (d.put i p (.slice (some ⟨g, 0, none⟩) (d.pend.length + 1) cap)).foot k := by
  intro k hk hlt hf
  rcases hf with hf | hf
  ·exact hk (.inl hf)
  ·simp only [DM.put, Value.ownBlock, Option.some.injEq] at hf
   subst hf
   rcases hat with hat | hat
   ·exact hk (.inr hat)
   ·omega
 refine ⟨⟨h.le, ?_, ?_, ?_, (kS _).get (kW.get e2 (fun e => e3 (.inr e))) (fun e => e3 (.inl e)), foot' _ e3 hm, ?_, fun k hk => ⟨foot' _ (e5 k hk).1 (e5 k hk).2, ?_⟩, ?_⟩, ?_, rfl, rfl, rfl, rfl, fun k hk => ?_⟩
 ·show World.ownsRow _ 0 _ 257 _ (d.pend ++ [(i, p)]).length (pendCells (d.pend ++ [(i, p)]))
  rw [pendCells_put, List.length_append]
  exact ownsRow.keptOf hown (kS _) (fun b hb' e => hgb ((Option.some.inj hb').trans e))
 ·show (d.pend ++ [(i, p)]).length ≤ _
  rw [List.length_append]; simp; omega
 ·have := heap_setCell_same (kW.get e1 hW.apart) 2 (.slice (some ⟨g, 0, none⟩) (d.pend.length + 1) cap)
  simp at this
  exact this
 ·exact (e4.kept kW (fun b hb' e => (e5 b hb').1 (.inr e))).kept (kS _) (fun b hb' e => (e5 b hb').1 (.inl e))
 ·exact Nat.lt_of_lt_of_le (e5 k hk).2 (Nat.le_trans kW.size (kS _).size)
 ·simpa [DM.put, Value.ownBlock] using hgb
 ·exact ((k1.mono (fun _ => False.elim)).trans (kW.mono fun k hk => .inr hk)).setCell (.inl rfl) _
 ·simp only [DM.put, Value.ownBlock, Option.some.injEq] at hk
  subst hk
  rcases hat with hat | hat
  ·exact .inl hat
  ·exact .inr (by rw [hat]; exact k1.size)
set_option maxHeartbeats 1600000 in
theorem diskWrite_raw {w : World} {db gm n i : Nat} {sv pv : Value} {xs cs : List Value} (R : Value → World → Prop)
  (hhead : w.heap[db]? = some (.cells #[sv, .map (some gm), pv, .int .i64 (-1), .bool false] 90 (0, 0)))
  (hown : w.ownsRow 0 125 257 pv n xs) (hn : n < 100000000) (hap : pv.ownBlock ≠ some db) (hcs : cs.length = 256) (h1 : ∀ v ∈ cs, v.oneCell' = true)
  (hbuild : ∀ w, (Instr.build 125 #[(0, .int .i64 i), (1, .agg cs.toArray)]).run Try.prog w = .ok (.agg (.int .i64 i :: cs).toArray) w)
  (hslice : ∀ w, (Instr.buildSlice 88 1 #[(0, .agg (.int .i64 i :: cs).toArray)]).run Try.prog w = .ok (.slice (some ⟨w.heap.size, 0, none⟩) 1 1) (w.alloc (.cells (.int .i64 i :: cs).toArray 125)))
  (ht : ∀ w1, Kept (fun _ => False) w w1 → Calls Try.prog 60 #[.pointer (some ⟨db, 0, none⟩), .int .i64 i] w1 fun e w' => e = .returned (.bool true) ∧ w1 = w')
  (ha : ∀ w1, Kept (fun _ => False) w w1 → Calls Try.prog 61 #[.pointer (some ⟨db, 0, none⟩)] w1 fun e w' => e = .returned (.int .i64 0) ∧ w1 = w')
  (hend : ∀ g cap W w1, Kept (fun _ => False) w W → w1.ownsRow 0 125 257 (.slice (some ⟨g, 0, none⟩) (n + 1) cap) (n + 1) (xs ++ .int .i64 i :: cs) → W.grownBy w1 pv.ownBlock → (pv.ownBlock = some g ∨ g = W.heap.size) →
   R (.slice (some ⟨g, 0, none⟩) (n + 1) cap) (w1.setCell ⟨db, 2, none⟩ (.slice (some ⟨g, 0, none⟩) (n + 1) cap))) :
  Calls Try.prog 40 #[.pointer (some ⟨db, 0, none⟩), .int .i64 i, .agg cs.toArray] w fun e w' => ∃ v, e = .returned (.int .i64 0) ∧ R v w' := by
 have k1 := (Kept.refl (fun _ => False) w).alloc (.cells cs.toArray 98)
 have e1 := k1.get hhead id
 have ht' := h_ (ht _ k1); clear ht
 have ha' := h_ (ha _ k1); clear ha
 have hown1 := hown.alloc (.cells cs.toArray 98)
 have c2 := cell_of_heap e1 2
 simp only [List.getElem?_toArray, List.getElem?_cons_succ, List.getElem?_cons_zero] at c2
 have f2 := free_of_heap e1 2
 have hlt := lt_of_heap hhead
 have hbox : (w.alloc (.cells cs.toArray 98)).rangeAt w.heap.size 0 cs := fun j v hv => by
  rw [cell_of_heap (heap_alloc_new w _), Nat.zero_add]; simpa using hv
 have c2' : ((w.alloc (.cells cs.toArray 98)).alloc (.cells (.int .i64 i :: cs).toArray 125)).cell? ⟨db, 2, none⟩ = some pv := by
  rw [World.cell?_alloc_lt _ _ _ (by simp; omega)]; exact c2
 have hap := h_ hap
 have hownW := h_ (hown1.drew.alloc (.cells (.int .i64 i :: cs).toArray 125))
 have hsrcW : Hid (SliceAt ((w.alloc (.cells cs.toArray 98)).drew.alloc (.cells (.int .i64 i :: cs).toArray 125)) (.slice (some ⟨(w.alloc (.cells cs.toArray 98)).heap.size, 0, none⟩) 1 1) 257 1 (.int .i64 i :: cs)) :=
  h_ (SliceAt.block_new (heap_alloc_new _ _) (by simp [hcs]) (by decide))
 have honeW : Hid (∀ c ∈ (.int .i64 i :: cs : List Value), c.oneCell' = true) := h_ (by rintro v (_ | ⟨_, hv⟩); rfl; exact h1 v hv)
 have hend' := h_ hend; clear hend
 have e1' := h_ e1; clear e1
 clear hown hown1
 have k1' := h_ k1; clear k1
 have hbox' := h_ hbox; clear hbox
 have hcs' := h_ hcs; clear hcs
 have h1' := h_ h1; clear h1
 have hb' := h_ hbuild; clear hbuild
 have hs' := h_ hslice; clear hslice hhead
 go_enter Try.func40, Try.ntmps40
 go_wp2_with (first | (refine wpList_box_as 98 rfl rfl cs.toArray rfl ?_))
 refine ht'.out.mono ?_
 rintro e w' ⟨rfl, rfl⟩
 go_wp2_with fail
 refine ha'.out.mono ?_
 rintro e w' ⟨rfl, rfl⟩
 go_wp2_with fail
 refine wp_region_any (by kernel_rfl) ?_
 change wpAny _ _ _ _ _ _ _ (World.drew _)
 refine wpAny_take (i := 0) (v := .pointer (some ⟨db, 0, none⟩)) rfl (by kernel_rfl) (by kernel_rfl) (by kernel_rfl) (fun _ _ _ h => h) (.inl ⟨by rfl, fun w => by go_simp⟩) ?_
 simp only [Act.put, q1_, q2_, q3_, List.setIfInBounds_toArray, q5_, q6_]
 refine wpAny_take (i := 1) (v := .pointer (some ⟨db, 0, none⟩)) rfl (by kernel_rfl) (by kernel_rfl) (by kernel_rfl) (fun _ _ _ h => h) (.inl ⟨by rfl, fun w => by go_simp⟩) ?_
 simp only [Act.put, q1_, q2_, q3_, List.setIfInBounds_toArray, q5_, q6_]
 refine wpAny_take (i := 2) (v := .pointer (some ⟨db, 0, none⟩)) rfl (by kernel_rfl) (by kernel_rfl) (by kernel_rfl) (fun _ _ _ h => h) (.inl ⟨by rfl, fun w => by go_simp⟩) ?_
 simp only [Act.put, q1_, q2_, q3_, List.setIfInBounds_toArray, q5_, q6_]
 refine wpAny_take (i := 3) (v := .pointer (some ⟨db, 2, none⟩)) rfl (by kernel_rfl) (by kernel_rfl) (by kernel_rfl) (fun _ _ _ h => h) (.inl ⟨by rfl, fun w => by go_simp⟩) ?_
 simp only [Act.put, q1_, q2_, q3_, List.setIfInBounds_toArray, q5_, q6_]
 refine wpAny_take (i := 5) (v := .int .i64 i) rfl (by kernel_rfl) (by kernel_rfl) (by kernel_rfl) (fun _ _ _ h => h) (.inl ⟨by rfl, fun w => by go_simp⟩) ?_
 simp only [Act.put, q1_, q2_, q3_, List.setIfInBounds_toArray, q5_, q6_]
 refine wpAny_ready (rs := [4, 6]) (by kernel_rfl) (by simp) ?_
 refine AllReady.cons rfl (fun K hK => ?_) ?_
 ·rw [if_pos (by rfl)]
  simp only [Go.wp_at_zero, Go.wp_at_succ]
  refine wp_exec (exec_load1 (ty := 88) (x := .tmp 19) rfl (by rfl) (fun w => by simp [Try.isAgg88]) (by first | exact c2 | exact c2')) ?_
  refine hK _ _ ?_
  clear hK K
  try simp only [Act.put, q1_, q2_, q3_, List.setIfInBounds_toArray, q5_, q6_]
  refine wpAny_ready (rs := [6]) (by kernel_rfl) (by simp) ?_
  refine AllReady.cons rfl (fun K hK => ?_) ?_
  ·rw [if_pos (by rfl)]
   simp only [Go.wp_at_zero, Go.wp_at_succ]
   refine wp_load_mid 98 (.tmp 5) rfl w.heap.size 0 (by rfl) cs (.array 256 5) ((World.rangeAt_drew _ _ _ _).2 hbox'.out) Try.underlying98 rfl (by rw [hcs'.out]; exact page_size) ?_
   refine hK _ _ ?_
   clear hK K
   try simp only [Act.put, q1_, q2_, q3_, List.setIfInBounds_toArray, q5_, q6_]
   refine wpAny_take (i := 7) (v := .agg (.int .i64 i :: cs).toArray) rfl (by kernel_rfl) (by kernel_rfl) (by kernel_rfl) (fun _ _ _ h => h) (.inl ⟨by rfl, fun w => exec_build 125 #[(0, .tmp 21), (1, .tmp 22)] _ rfl (by simp [Act.eval]) (hb'.out w)⟩) ?_
   simp only [Act.put, q1_, q2_, q3_, List.setIfInBounds_toArray, q5_, q6_]
   refine wpAny_ready (rs := [8]) (by kernel_rfl) (by simp) ?_
   refine AllReady.cons rfl (fun K hK => ?_) ?_
   ·rw [if_pos (by rfl)]
    simp only [Go.wp_at_zero, Go.wp_at_succ]
    refine wp_exec (exec_buildSlice 88 1 #[(0, .tmp 23)] _ rfl (by simp [Act.eval]) (hs'.out _)) ?_
    refine hK _ _ ?_
    clear hK K
    try simp only [Act.put, q1_, q2_, q3_, List.setIfInBounds_toArray, q5_, q6_]
    refine wpAny_ready (rs := [9]) (by kernel_rfl) (by simp) ?_
    refine AllReady.cons rfl (fun K hK => ?_) ?_
    ·rw [if_pos (by rfl)]
     simp only [Go.wp_at_zero, Go.wp_at_succ]
     refine wp_append_src elemWrite (.tmp 20) (.tmp 24) rfl (v := pv) (u := .slice (some ⟨(w.alloc (.cells cs.toArray 98)).heap.size, 0, none⟩) 1 1) (n := n) (m := 1) (xs := xs) (ys := .int .i64 i :: cs) (by rfl) (by rfl) hownW.out hsrcW.out honeW.out (by omega) (by omega) (Nat.zero_le _) ?_
     intro v1 w1 hown hgrow hat
     have hf : ∃ g cap, v1 = .slice (some ⟨g, 0, none⟩) (n + 1) cap := by obtain ⟨g, cap, cur, e, _⟩ := owns_some hown (by omega); exact ⟨g, cap, e⟩
     obtain ⟨g, cap, rfl⟩ := hf
     have c2w : w1.cell? ⟨db, 2, none⟩ = some pv := by rw [hgrow.cell_far ⟨db, 2, none⟩ (by simp; omega) (fun e => hap.out e.symm)]; exact c2'
     have f2w : w1.frozen? ⟨db, 2, none⟩ = false := by rw [hgrow.frozen_far ⟨db, 2, none⟩ (by simp; omega) (fun e => hap.out e.symm)]; rw [World.frozen?_alloc_past _ _ _ (by simp; omega)]; exact f2
     have hE := hend'.out g cap _ w1 (((k1'.out).drew).alloc _) hown hgrow (by rcases hat with h | h; exact .inl (by rw [← h]; rfl); exact .inr (by simpa [Value.ownBlock] using h))
     have hE' := h_ hE; clear hE hown hgrow hat
     refine hK _ _ ?_
     clear hK K
     try simp only [Act.put, q1_, q2_, q3_, List.setIfInBounds_toArray, q5_, q6_]
     refine wpAny_take (i := 10) (v := .pointer (some ⟨db, 0, none⟩)) rfl (by kernel_rfl) (by kernel_rfl) (by kernel_rfl) (fun _ _ _ h => h) (.inl ⟨by rfl, fun w => by go_simp⟩) ?_
     simp only [Act.put, q1_, q2_, q3_, List.setIfInBounds_toArray, q5_, q6_]
     refine wpAny_take (i := 11) (v := .pointer (some ⟨db, 2, none⟩)) rfl (by kernel_rfl) (by kernel_rfl) (by kernel_rfl) (fun _ _ _ h => h) (.inl ⟨by rfl, fun w => by go_simp⟩) ?_
     simp only [Act.put, q1_, q2_, q3_, List.setIfInBounds_toArray, q5_, q6_]
     refine wpAny_ready (rs := [12]) (by kernel_rfl) (by simp) ?_
     refine AllReady.cons rfl (fun K hK => ?_) ?_
     ·go_simp
      refine hK _ _ ?_
      clear hK K
      try simp only [Act.put, q1_, q2_, q3_, List.setIfInBounds_toArray, q5_, q6_]
      refine wpAny_done (by kernel_rfl) ?_ _
      go_wp2_with fail
      go_ret
      exact ⟨_, rfl, hE'.out⟩
     exact AllReady.nil
    exact AllReady.nil
   exact AllReady.nil
  exact AllReady.nil
 refine AllReady.cons rfl (fun K hK => ?_) ?_
 ·rw [if_pos (by rfl)]
  simp only [Go.wp_at_zero, Go.wp_at_succ]
  refine wp_load_mid 98 (.tmp 5) rfl w.heap.size 0 (by rfl) cs (.array 256 5) ((World.rangeAt_drew _ _ _ _).2 hbox'.out) Try.underlying98 rfl (by rw [hcs'.out]; exact page_size) ?_
  refine hK _ _ ?_
  clear hK K
  try simp only [Act.put, q1_, q2_, q3_, List.setIfInBounds_toArray, q5_, q6_]
  refine wpAny_take (i := 7) (v := .agg (.int .i64 i :: cs).toArray) rfl (by kernel_rfl) (by kernel_rfl) (by kernel_rfl) (fun _ _ _ h => h) (.inl ⟨by rfl, fun w => exec_build 125 #[(0, .tmp 21), (1, .tmp 22)] _ rfl (by simp [Act.eval]) (hb'.out w)⟩) ?_
  simp only [Act.put, q1_, q2_, q3_, List.setIfInBounds_toArray, q5_, q6_]
  refine wpAny_ready (rs := [4, 8]) (by kernel_rfl) (by simp) ?_
  refine AllReady.cons rfl (fun K hK => ?_) ?_
  ·rw [if_pos (by rfl)]
   simp only [Go.wp_at_zero, Go.wp_at_succ]
   refine wp_exec (exec_load1 (ty := 88) (x := .tmp 19) rfl (by rfl) (fun w => by simp [Try.isAgg88]) (by first | exact c2 | exact c2')) ?_
   refine hK _ _ ?_
   clear hK K
   try simp only [Act.put, q1_, q2_, q3_, List.setIfInBounds_toArray, q5_, q6_]
   refine wpAny_ready (rs := [8]) (by kernel_rfl) (by simp) ?_
   refine AllReady.cons rfl (fun K hK => ?_) ?_
   ·rw [if_pos (by rfl)]
    simp only [Go.wp_at_zero, Go.wp_at_succ]
    refine wp_exec (exec_buildSlice 88 1 #[(0, .tmp 23)] _ rfl (by simp [Act.eval]) (hs'.out _)) ?_
    refine hK _ _ ?_
    clear hK K
    try simp only [Act.put, q1_, q2_, q3_, List.setIfInBounds_toArray, q5_, q6_]
    refine wpAny_ready (rs := [9]) (by kernel_rfl) (by simp) ?_
    refine AllReady.cons rfl (fun K hK => ?_) ?_
    ·rw [if_pos (by rfl)]
     simp only [Go.wp_at_zero, Go.wp_at_succ]
     refine wp_append_src elemWrite (.tmp 20) (.tmp 24) rfl (v := pv) (u := .slice (some ⟨(w.alloc (.cells cs.toArray 98)).heap.size, 0, none⟩) 1 1) (n := n) (m := 1) (xs := xs) (ys := .int .i64 i :: cs) (by rfl) (by rfl) hownW.out hsrcW.out honeW.out (by omega) (by omega) (Nat.zero_le _) ?_
     intro v1 w1 hown hgrow hat
     have hf : ∃ g cap, v1 = .slice (some ⟨g, 0, none⟩) (n + 1) cap := by obtain ⟨g, cap, cur, e, _⟩ := owns_some hown (by omega); exact ⟨g, cap, e⟩
     obtain ⟨g, cap, rfl⟩ := hf
     have c2w : w1.cell? ⟨db, 2, none⟩ = some pv := by rw [hgrow.cell_far ⟨db, 2, none⟩ (by simp; omega) (fun e => hap.out e.symm)]; exact c2'
     have f2w : w1.frozen? ⟨db, 2, none⟩ = false := by rw [hgrow.frozen_far ⟨db, 2, none⟩ (by simp; omega) (fun e => hap.out e.symm)]; rw [World.frozen?_alloc_past _ _ _ (by simp; omega)]; exact f2
     have hE := hend'.out g cap _ w1 (((k1'.out).drew).alloc _) hown hgrow (by rcases hat with h | h; exact .inl (by rw [← h]; rfl); exact .inr (by simpa [Value.ownBlock] using h))
     have hE' := h_ hE; clear hE hown hgrow hat
     refine hK _ _ ?_
     clear hK K
     try simp only [Act.put, q1_, q2_, q3_, List.setIfInBounds_toArray, q5_, q6_]
     refine wpAny_take (i := 10) (v := .pointer (some ⟨db, 0, none⟩)) rfl (by kernel_rfl) (by kernel_rfl) (by kernel_rfl) (fun _ _ _ h => h) (.inl ⟨by rfl, fun w => by go_simp⟩) ?_
     simp only [Act.put, q1_, q2_, q3_, List.setIfInBounds_toArray, q5_, q6_]
     refine wpAny_take (i := 11) (v := .pointer (some ⟨db, 2, none⟩)) rfl (by kernel_rfl) (by kernel_rfl) (by kernel_rfl) (fun _ _ _ h => h) (.inl ⟨by rfl, fun w => by go_simp⟩) ?_
     simp only [Act.put, q1_, q2_, q3_, List.setIfInBounds_toArray, q5_, q6_]
     refine wpAny_ready (rs := [12]) (by kernel_rfl) (by simp) ?_
     refine AllReady.cons rfl (fun K hK => ?_) ?_
     ·go_simp
      refine hK _ _ ?_
      clear hK K
      try simp only [Act.put, q1_, q2_, q3_, List.setIfInBounds_toArray, q5_, q6_]
      refine wpAny_done (by kernel_rfl) ?_ _
      go_wp2_with fail
      go_ret
      exact ⟨_, rfl, hE'.out⟩
     exact AllReady.nil
    exact AllReady.nil
   exact AllReady.nil
  refine AllReady.cons rfl (fun K hK => ?_) ?_
  ·rw [if_pos (by rfl)]
   simp only [Go.wp_at_zero, Go.wp_at_succ]
   refine wp_exec (exec_buildSlice 88 1 #[(0, .tmp 23)] _ rfl (by simp [Act.eval]) (hs'.out _)) ?_
   refine hK _ _ ?_
   clear hK K
   try simp only [Act.put, q1_, q2_, q3_, List.setIfInBounds_toArray, q5_, q6_]
   refine wpAny_ready (rs := [4]) (by kernel_rfl) (by simp) ?_
   refine AllReady.cons rfl (fun K hK => ?_) ?_
   ·rw [if_pos (by rfl)]
    simp only [Go.wp_at_zero, Go.wp_at_succ]
    refine wp_exec (exec_load1 (ty := 88) (x := .tmp 19) rfl (by rfl) (fun w => by simp [Try.isAgg88]) (by first | exact c2 | exact c2')) ?_
    refine hK _ _ ?_
    clear hK K
    try simp only [Act.put, q1_, q2_, q3_, List.setIfInBounds_toArray, q5_, q6_]
    refine wpAny_ready (rs := [9]) (by kernel_rfl) (by simp) ?_
    refine AllReady.cons rfl (fun K hK => ?_) ?_
    ·rw [if_pos (by rfl)]
     simp only [Go.wp_at_zero, Go.wp_at_succ]
     refine wp_append_src elemWrite (.tmp 20) (.tmp 24) rfl (v := pv) (u := .slice (some ⟨(w.alloc (.cells cs.toArray 98)).heap.size, 0, none⟩) 1 1) (n := n) (m := 1) (xs := xs) (ys := .int .i64 i :: cs) (by rfl) (by rfl) hownW.out hsrcW.out honeW.out (by omega) (by omega) (Nat.zero_le _) ?_
     intro v1 w1 hown hgrow hat
     have hf : ∃ g cap, v1 = .slice (some ⟨g, 0, none⟩) (n + 1) cap := by obtain ⟨g, cap, cur, e, _⟩ := owns_some hown (by omega); exact ⟨g, cap, e⟩
     obtain ⟨g, cap, rfl⟩ := hf
     have c2w : w1.cell? ⟨db, 2, none⟩ = some pv := by rw [hgrow.cell_far ⟨db, 2, none⟩ (by simp; omega) (fun e => hap.out e.symm)]; exact c2'
     have f2w : w1.frozen? ⟨db, 2, none⟩ = false := by rw [hgrow.frozen_far ⟨db, 2, none⟩ (by simp; omega) (fun e => hap.out e.symm)]; rw [World.frozen?_alloc_past _ _ _ (by simp; omega)]; exact f2
     have hE := hend'.out g cap _ w1 (((k1'.out).drew).alloc _) hown hgrow (by rcases hat with h | h; exact .inl (by rw [← h]; rfl); exact .inr (by simpa [Value.ownBlock] using h))
     have hE' := h_ hE; clear hE hown hgrow hat
     refine hK _ _ ?_
     clear hK K
     try simp only [Act.put, q1_, q2_, q3_, List.setIfInBounds_toArray, q5_, q6_]
     refine wpAny_take (i := 10) (v := .pointer (some ⟨db, 0, none⟩)) rfl (by kernel_rfl) (by kernel_rfl) (by kernel_rfl) (fun _ _ _ h => h) (.inl ⟨by rfl, fun w => by go_simp⟩) ?_
     simp only [Act.put, q1_, q2_, q3_, List.setIfInBounds_toArray, q5_, q6_]
     refine wpAny_take (i := 11) (v := .pointer (some ⟨db, 2, none⟩)) rfl (by kernel_rfl) (by kernel_rfl) (by kernel_rfl) (fun _ _ _ h => h) (.inl ⟨by rfl, fun w => by go_simp⟩) ?_
     simp only [Act.put, q1_, q2_, q3_, List.setIfInBounds_toArray, q5_, q6_]
     refine wpAny_ready (rs := [12]) (by kernel_rfl) (by simp) ?_
     refine AllReady.cons rfl (fun K hK => ?_) ?_
     ·go_simp
      refine hK _ _ ?_
      clear hK K
      try simp only [Act.put, q1_, q2_, q3_, List.setIfInBounds_toArray, q5_, q6_]
      refine wpAny_done (by kernel_rfl) ?_ _
      go_wp2_with fail
      go_ret
      exact ⟨_, rfl, hE'.out⟩
     exact AllReady.nil
    exact AllReady.nil
   exact AllReady.nil
  exact AllReady.nil
 exact AllReady.nil

theorem diskWrite_ok {w : World} {d : DM} (h : DiskAt w d) (hfew : d.pend.length < 100000000) (i : Nat) (hi : i < d.n) (p : Nat → Nat) :
  Calls Try.prog 40 #[.pointer (some ⟨d.b, 0, none⟩), .int .i64 i, .agg (pageCells p).toArray] w fun e w' => ∃ pv, e = .returned (.int .i64 0) ∧ DiskTo d (d.put i p pv) w w' := by
 have hb : d.thereB i = true := by simp [DM.thereB]; omega
 refine diskWrite_raw (fun pv w' => DiskTo d (d.put i p pv) w w') h.head h.pend hfew h.apart (pageCells_len p) (pageCells_one p) (fun w => run_build_write w i p) (fun w => run_buildSlice_write w i p)
  (fun w1 k => ?_) (fun w1 k => diskAct (h.fresh k)) (fun g cap W w1 a b c e => disk_put h hfew a b c e)
 have := diskThere (h.fresh k) i
 rw [hb] at this
 exact this
theorem wpList_exec {P : Program} {ops : Array Oper} {rest : List Oper} {o : Oper} {a : Act} {Q : Exit → Act → World → Prop} {w w' : World} {v : Value} (hgd : o.guard = none) (he : (execOp a.eval o).run P w = .ok (.value v) w')
  (h : wpList P ops Q rest (a.put o.dst v) w') : wpList P ops Q (o :: rest) a w :=
 wpList_plain hgd fun _ hK => wp_exec he (hK _ _ h)
theorem zeroPage_made (k j : Nat) (h : j < k) : (madeCells (pageCells zeroPage).toArray k)[j]? = some (.int .u8 0) := by
 have hz : ∀ i, i < 256 → (pageCells zeroPage)[i]? = some (.int .u8 0) := fun i hi => by rw [zeroPage_cells, List.getElem?_replicate, if_pos hi]
 have hl : (pageCells zeroPage).toArray.size = 256 := by simp [pageCells_len]
 have := hz (j % 256) (Nat.mod_lt _ (by omega))
 simp [madeCells, h, hl, Array.getElem!_eq_getD, this]
theorem page_info : (Try.prog.info? 98).map (fun i => (i.zero, i.size, i.bytes)) = some (some (.agg (pageCells zeroPage).toArray), 256, 256) := by kernel_rfl
theorem wpList_makePages {ops : Array Oper} {rest : List Oper} {o : Oper} {a : Act} {Q : Exit → Act → World → Prop} {w : World} (hgd : o.guard = none) (x : Operand) (ho : o.op = .makeSlice 87 x x) {c : Int} (hx : a.eval x = .int .i64 c) (n : Nat) (hc : c = n) (hn : n ≤ 244)
  (h : ∀ w' sv, sv = .slice (some ⟨w.heap.size, 0, none⟩) n n → SliceAt w' sv 256 n (List.replicate (n * 256) (.int .u8 0)) → w'.heap.size = w.heap.size + 1 → Kept (fun _ => False) w w' → wpList Try.prog ops Q rest (a.put o.dst sv) w') :
  wpList Try.prog ops Q (o :: rest) a w := by
 subst hc
 obtain ⟨i0, hi0, hz0, hz1, hz2⟩ := info_parts page_info
 have hr := run_make (P := Try.prog) w 87 98 i0 (.agg (pageCells zeroPage).toArray) Try.underlying87 hi0 hz0 .i64 .i64 (n : Int) (n : Int) (by omega) (by omega) (by rw [hz2]; omega) (by omega)
 refine wpList_exec hgd ?_ (h _ _ rfl ?_ ?_ ((Kept.refl _ _).alloc (.cells (madeCells (pageCells zeroPage).toArray (n * 256)) 98)))
 ·unfold execOp
  simp only [ho, hx, Sem.run_bind, hr, Result.andThen_ok, Int.toNat_natCast, hz1]
  rfl
 ·refine ⟨by simp, some ⟨w.heap.size, 0, none⟩, n, rfl, Nat.le_refl _, by simp [maxLen]; omega, fun j u hj => ⟨_, 0, rfl, ?_⟩⟩
  rw [List.getElem?_replicate] at hj
  split at hj
  ·rw [Nat.zero_add, cell_of_heap (heap_alloc_new _ _), zeroPage_made _ _ ‹_›]; exact hj
  ·cases hj
 ·simp
theorem disk_fresh {w w1 : World} {n : Nat} {sv : Value} (hn : n ≤ 244) (hsv : sv = .slice (some ⟨w.heap.size, 0, none⟩) n n) (hsl : SliceAt w1 sv 256 n (List.replicate (n * 256) (.int .u8 0))) (hs1 : w1.heap.size = w.heap.size + 1) (hk1 : Kept (fun _ => False) w w1) :
  ∃ d : DM, Ending.returned (.pointer (some ⟨w1.heap.size + 1, 0, none⟩)) = .returned (.pointer (some ⟨d.b, 0, none⟩)) ∧
   DiskAt ((w1.alloc (.map #[] 0)).alloc (.cells #[sv, .map (some w1.heap.size), .slice none 0 0, .int .i64 (-1), .bool false] 90)) d ∧ d.n = n ∧ d.pend = [] ∧ (∀ k, d.own k → w.heap.size ≤ k) ∧
   Kept (fun _ => False) w ((w1.alloc (.map #[] 0)).alloc (.cells #[sv, .map (some w1.heap.size), .slice none 0 0, .int .i64 (-1), .bool false] 90)) := by
 subst hsv
 have k1 := (Kept.refl (fun _ => False) w1).alloc (.map #[] 0)
 have k2 := k1.alloc (.cells #[.slice (some ⟨w.heap.size, 0, none⟩) n n, .map (some w1.heap.size), .slice none 0 0, .int .i64 (-1), .bool false] 90)
 have hz : (w1.alloc (.map #[] 0)).heap.size = w1.heap.size + 1 := by simp
 refine ⟨⟨w1.heap.size + 1, .slice none 0 0, n, [], .slice (some ⟨w.heap.size, 0, none⟩) n n, w1.heap.size⟩, rfl, ⟨hn, World.ownsRow_nil _ _ _ _, by simp, ?_, ?_, ?_, ?_, ?_, ?_⟩, rfl, rfl, ?_, hk1.trans k2⟩
 ·have := heap_alloc_new (w1.alloc (.map #[] 0)) (.cells #[.slice (some ⟨w.heap.size, 0, none⟩) n n, .map (some w1.heap.size), .slice none 0 0, .int .i64 (-1), .bool false] 90)
  rw [hz] at this; exact this
 ·exact ((Kept.refl (fun _ => False) (w1.alloc (.map #[] 0))).alloc _).get (heap_alloc_new w1 _) id
 ·rintro (h | h)
  ·simp at h
  ·simp [Value.ownBlock] at h
 ·exact hsl.kept k2 (fun _ _ => id)
 ·intro g hg
  simp [Value.ownBlock] at hg
  subst hg
  refine ⟨?_, by simp; omega⟩
  rintro (h | h)
  ·simp at h; omega
  ·simp [Value.ownBlock] at h
 ·simp [Value.ownBlock]
 ·rintro k ((rfl | h) | rfl | h)
  ·simp; omega
  ·simp [Value.ownBlock] at h
  ·simp; omega
  ·simp [Value.ownBlock] at h; omega
set_option maxHeartbeats 1000000 in
theorem diskNew (n : Nat) (hn : n ≤ 244) (x : Int) (hx : max 0 (min x 244) = (n : Int)) (w : World) :
  Calls Try.prog 20 #[.int .i64 x] w fun e w' => ∃ d : DM, e = .returned (.pointer (some ⟨d.b, 0, none⟩)) ∧ DiskAt w' d ∧ d.n = n ∧ d.pend = [] ∧ (∀ k, d.own k → w.heap.size ≤ k) ∧ Kept (fun _ => False) w w' := by
 have hmm := @run_makeMap Try.prog
 have hx' := h_ hx; clear hx
 go_enter Try.func20, Try.ntmps20
 go_wp2_with (refine wpList_makePages rfl (.tmp 5) rfl (by rfl) n (by have := hx'.out; omega) hn ?_; rintro w1 sv rfl hsl hs1 hk1; have hsl' := h_ hsl; clear hsl; have hk1' := h_ hk1; clear hk1; have hs1' := h_ hs1; clear hs1)
 all_goals go_ret
 all_goals exact disk_fresh hn rfl hsl'.out hs1'.out hk1'.out
end Go.Proofs.Ytdcnogjbmdhgaaa
