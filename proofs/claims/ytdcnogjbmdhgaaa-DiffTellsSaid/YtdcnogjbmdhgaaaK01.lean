/-
 Worlds that are kept but for some blocks: what a contract of a writing call says of the rest of memory.
-/
import Derived.WalkKit
import Derived.BigQuiet
import Derived.Deep.QuietTactic
import Derived.WalkLawsBesides
import Derived.WalkSpells
import Derived.Lib.Hide
import Derived.Outline
import Derived.Deep.RegionWith
set_option linter.unusedVariables false
set_option linter.unusedSimpArgs false
namespace Go.Proofs.Ytdcnogjbmdhgaaa
open Go.RowKit
theorem q1_ {α : Type _} (a : List α) {i : Nat} (h : i < a.toArray.size) : a.toArray[i] = a[i]'h := rfl
theorem q2_ {α : Type _} {a : α} {as : List α} (h : 0 < (a :: as).length) : (a :: as)[0]'h = a := rfl
theorem q3_ {α : Type _} {a : α} {as : List α} {i : Nat} (h : i + 1 < (a :: as).length) : (a :: as)[i + 1]'h = as[i]'(Nat.lt_of_succ_lt_succ h) := rfl
theorem q5_ {α : Type _} {a b : α} {as : List α} : (a :: as).set 0 b = b :: as := rfl
theorem q6_ {α : Type _} {a b : α} {as : List α} {i : Nat} : (a :: as).set (i + 1) b = a :: as.set i b := rfl
theorem h_ {p : Prop} (h : p) : Go.RowKit.Hid p := h

structure Kept (S : Nat → Prop) (w w' : World) : Prop where
 os : w'.os = w.os
 tape : w'.tape = w.tape
 output : w'.output = w.output
 size : w.heap.size ≤ w'.heap.size
 block : ∀ k, k < w.heap.size → ¬ S k → w'.heap[k]? = w.heap[k]?

theorem Kept.refl (S : Nat → Prop) (w : World) : Kept S w w := ⟨rfl, rfl, rfl, Nat.le_refl _, fun _ _ _ => rfl⟩
theorem Kept.trans {S : Nat → Prop} {a b c : World} (h : Kept S a b) (k : Kept S b c) : Kept S a c :=
 ⟨k.os.trans h.os, k.tape.trans h.tape, k.output.trans h.output, Nat.le_trans h.size k.size,
  fun i hi hs => (k.block i (Nat.lt_of_lt_of_le hi h.size) hs).trans (h.block i hi hs)⟩
theorem Kept.mono {S S' : Nat → Prop} {a b : World} (h : Kept S a b) (hS : ∀ k, S k → S' k) : Kept S' a b :=
 ⟨h.os, h.tape, h.output, h.size, fun i hi hs => h.block i hi fun hk => hs (hS i hk)⟩
theorem Kept.drew {S : Nat → Prop} {a b : World} (h : Kept S a b) : Kept S a b.drew := ⟨h.os, h.tape, h.output, h.size, h.block⟩
theorem Kept.drewN {S : Nat → Prop} {a b : World} (n : Nat) (h : Kept S a b) : Kept S a (b.drewN n) := ⟨h.os, h.tape, h.output, h.size, h.block⟩
theorem Kept.alloc {S : Nat → Prop} {a b : World} (h : Kept S a b) (o : Obj) : Kept S a (b.alloc o) :=
 h.trans ⟨rfl, rfl, rfl, by simp, fun k hk _ => Below.heap_alloc _ _ _ hk⟩
theorem Kept.setCell {S : Nat → Prop} {a b : World} (h : Kept S a b) {p : Addr} (hp : S p.block) (u : Value) : Kept S a (b.setCell p u) :=
 h.trans ⟨rfl, rfl, rfl, by simp [World.setCell], fun k _ hs => Below.heap_setCell _ _ _ _ (fun e => hs (e ▸ hp))⟩
theorem Kept.setNew {S : Nat → Prop} {a b : World} (h : Kept S a b) {p : Addr} (hp : a.heap.size ≤ p.block) (u : Value) : Kept S a (b.setCell p u) :=
 ⟨h.os, h.tape, h.output, by simpa [World.setCell] using h.size, fun k hk hs => (Below.heap_setCell _ _ _ _ (fun e => by omega)).trans (h.block k hk hs)⟩
theorem Kept.trans_new {S S' : Nat → Prop} {a b c : World} (h : Kept S a b) (k : Kept S' b c) (hS : ∀ i, i < a.heap.size → S' i → S i) : Kept S a c :=
 ⟨k.os.trans h.os, k.tape.trans h.tape, k.output.trans h.output, Nat.le_trans h.size k.size,
  fun i hi hs => (k.block i (Nat.lt_of_lt_of_le hi h.size) (fun e => hs (hS i hi e))).trans (h.block i hi hs)⟩
theorem Kept.below {a b : World} {S : Nat → Prop} {B : Nat} (h : Kept S a b) (hB : B ≤ a.heap.size) (hS : ∀ k, k < B → ¬ S k) : Below B a b :=
 ⟨h.os, h.tape, h.output, h.size, fun k hk => h.block k (Nat.lt_of_lt_of_le hk hB) (hS k hk)⟩
theorem Kept.of_grown {a b : World} {row : Option Nat} (h : a.grownBy b row) : Kept (fun k => row = some k) a b :=
 ⟨h.os, h.tape, h.output, h.size, fun k hk hs => h.block k hk (fun e => hs e.symm)⟩
theorem lt_of_heap {w : World} {b : Nat} {o : Obj} (h : w.heap[b]? = some o) : b < w.heap.size := (Array.getElem?_eq_some_iff.1 h).1
theorem Kept.get {S : Nat → Prop} {a b : World} (h : Kept S a b) {k : Nat} {o : Obj} (ho : a.heap[k]? = some o) (hs : ¬ S k) : b.heap[k]? = some o :=
 (h.block k (lt_of_heap ho) hs).trans ho

theorem cell_of_heap {w : World} {b : Nat} {c : Array Value} {e : TypeId} {f : Nat × Nat} (h : w.heap[b]? = some (.cells c e f)) (o : Nat) :
  w.cell? ⟨b, o, none⟩ = c[o]? := by simp [World.cell?, h]
theorem free_of_heap {w : World} {b : Nat} {c : Array Value} {e : TypeId} (h : w.heap[b]? = some (.cells c e (0, 0))) (o : Nat) :
  w.frozen? ⟨b, o, none⟩ = false := by simp [World.frozen?, h]
theorem heap_setCell_same {w : World} {b : Nat} {c : Array Value} {e : TypeId} {f : Nat × Nat} (h : w.heap[b]? = some (.cells c e f)) (o : Nat) (v : Value) :
  (w.setCell ⟨b, o, none⟩ v).heap[b]? = some (.cells (c.setIfInBounds o v) e f) := by
 simp [World.setCell, Array.getElem?_modify, h]
theorem Kept.cell {S : Nat → Prop} {a b : World} (h : Kept S a b) {p : Addr} {v : Value} (hc : a.cell? p = some v) (hs : ¬ S p.block) : b.cell? p = some v :=
 (World.cell?_of_block (w := a) (h.block p.block (World.block_lt_of_cell? a p hc) hs)).trans hc
theorem q_val {P : Program} {o : Oper} {a : Act} {C : World → Prop} {K : Act → Prop} (v : Value) (h : ∀ w, C w → (execOp a.eval o).run P w = .ok (.value v) w) (hK : K (a.put o.dst v)) : o.quiet P a C K :=
 ⟨v, fun w hw => by unfold Oper.quietAt; rw [h w hw]; exact ⟨rfl, rfl⟩, hK⟩
theorem q_on {o : Oper} {y : Nat → Option Bool} {p q : Prop} (hw : Region.wanted o y = true) (h : p) : if Region.wanted o y = true then p else q := by rw [if_pos hw]; exact h
section
variable {P : Program} {w : World}

def aggDesc : TypeDesc → Bool | .struct _ | .array _ _ => true | _ => false

theorem addr_add (g o j : Nat) : (⟨g, o, none⟩ : Addr).add j = ⟨g, o + j, none⟩ := by unfold Addr.add; split <;> simp_all

theorem run_isAgg {ty : TypeId} {d : TypeDesc} (hu : P.underlying ty = some d) (hd : aggDesc d = true) (w : World) : (isAgg ty).run P w = .ok true w := by
 unfold isAgg
 rw [Sem.run_bind, run_underlying hu w]
 cases d <;> simp_all [aggDesc]
theorem run_sizeOf {ty : TypeId} {n : Nat} (hi : (P.info? ty).map (·.size) = some n) (w : World) : (sizeOf ty).run P w = .ok n w := by
 cases hq : P.info? ty with
 | none => simp [hq] at hi
 | some i =>
  have hs : i.size = n := by simpa [hq] using hi
  simp [sizeOf, typeInfo, hq, hs]

theorem run_loadVar_agg {ty : TypeId} {d : TypeDesc} (g o : Nat) (vs : List Value) (hu : P.underlying ty = some d) (hd : aggDesc d = true) (hi : (P.info? ty).map (·.size) = some vs.length)
  (hc : ∀ j v, vs[j]? = some v → w.cell? ⟨g, o + j, none⟩ = some v) : (loadVar ty ⟨g, o, none⟩).run P w = .ok (.agg vs.toArray) w := by
 have hl := run_loadCells_list (P := P) w ⟨g, o, none⟩ vs (fun j v hv => by rw [addr_add]; exact hc j v hv)
 simp [loadVar, Sem.run_bind, run_isAgg hu hd, run_sizeOf hi, hl]
theorem run_loadAt_agg {ty : TypeId} {d : TypeDesc} {g off : Nat} (vs : List Value) (hu : P.underlying ty = some d) (hd : aggDesc d = true) (hi : (P.info? ty).map (·.size) = some vs.length)
  (hc : ∀ j v, vs[j]? = some v → w.cell? ⟨g, off + j, none⟩ = some v) : (Instr.loadAt ty (.pointer (some ⟨g, off, none⟩))).run P w = .ok (.agg vs.toArray) w := by
 simp only [Instr.loadAt, Instr.sureAddr, Sem.run_bind, Sem.run_pure, Result.andThen_ok, run_loadVar_agg g off vs hu hd hi hc]
theorem wpList_load_agg {ops : Array Oper} {rest : List Oper} {o : Oper} {a : Act} {Q : Exit → Act → World → Prop} (ty : TypeId) {x : Operand} (ho : o.op = .load ty x) (hgd : o.guard = none)
  {g off : Nat} (hx : a.eval x = .pointer (some ⟨g, off, none⟩)) (d : TypeDesc) (hu : P.underlying ty = some d) (hd : aggDesc d = true) (vs : List Value) (hi : (P.info? ty).map (·.size) = some vs.length)
  (hc : ∀ j v, vs[j]? = some v → w.cell? ⟨g, off + j, none⟩ = some v)
  (h : wpList P ops Q rest (a.put o.dst (.agg vs.toArray)) w) : wpList P ops Q (o :: rest) a w :=
 wpList_plain hgd fun _ hK => by
  unfold Oper.wp execOp
  simp only [ho, hx, Instr.loadAt, Instr.sureAddr, Sem.run_bind, Sem.run_pure, Result.andThen_ok, run_loadVar_agg g off vs hu hd hi hc]
  exact hK _ _ h

theorem run_storeVar_agg {ty : TypeId} (g o : Nat) (t : TypeId) (cur : Array Value) (vs : List Value) (hg : w.heap[g]? = some (.cells cur t (0, 0))) (hi : (P.info? ty).map (·.size) = some vs.length)
  (hfit : o + vs.length ≤ cur.size) (h1 : ∀ v ∈ vs, v.oneCell' = true) :
  (storeVar ty ⟨g, o, none⟩ (.agg vs.toArray)).run P w = .ok () (w.setRow g (cur.toList.take o ++ vs ++ cur.toList.drop (o + vs.length)).toArray) := by
 have hst := run_storeCells_at P g o t vs 0 cur w hg (by simpa using hfit) h1
 simp only [Nat.add_zero] at hst
 simp [storeVar, Sem.run_bind, run_sizeOf hi, Value.cells, hst]
theorem wpList_store_agg {ops : Array Oper} {rest : List Oper} {o : Oper} {a : Act} {Q : Exit → Act → World → Prop} (ty : TypeId) {x y : Operand} (ho : o.op = .store ty x y) (hgd : o.guard = none)
  {g off : Nat} (hx : a.eval x = .pointer (some ⟨g, off, none⟩)) (vs : List Value) (hy : a.eval y = .agg vs.toArray) (hi : (P.info? ty).map (·.size) = some vs.length)
  (t : TypeId) (cur : Array Value) (hg : w.heap[g]? = some (.cells cur t (0, 0))) (hfit : off + vs.length ≤ cur.size) (h1 : ∀ v ∈ vs, v.oneCell' = true)
  (h : wpList P ops Q rest (a.put o.dst undef) (w.setRow g (cur.toList.take off ++ vs ++ cur.toList.drop (off + vs.length)).toArray)) : wpList P ops Q (o :: rest) a w :=
 wpList_plain hgd fun _ hK => by
  unfold Oper.wp execOp
  simp only [ho, hx, hy, Instr.storeAt, Instr.sureAddr, Sem.run_bind, Sem.run_pure, Result.andThen_ok, run_storeVar_agg g off t cur vs hg hi hfit h1]
  exact hK _ _ h

theorem wpList_store_whole {ops : Array Oper} {rest : List Oper} {o : Oper} {a : Act} {Q : Exit → Act → World → Prop} (ty : TypeId) {x y : Operand} (ho : o.op = .store ty x y) (hgd : o.guard = none)
  {g : Nat} (hx : a.eval x = .pointer (some ⟨g, 0, none⟩)) (vs : List Value) (hy : a.eval y = .agg vs.toArray) (hi : (P.info? ty).map (·.size) = some vs.length)
  (t : TypeId) (cur : Array Value) (hg : w.heap[g]? = some (.cells cur t (0, 0))) (hfit : vs.length = cur.size) (h1 : ∀ v ∈ vs, v.oneCell' = true)
  (h : wpList P ops Q rest (a.put o.dst undef) (w.setRow g vs.toArray)) : wpList P ops Q (o :: rest) a w :=
 wpList_store_agg ty ho hgd hx vs hy hi t cur hg (by omega) h1 (by
  have : List.drop (0 + vs.length) cur.toList = [] := List.drop_eq_nil_of_le (by simp; omega)
  rw [this]; simpa using h)

theorem run_zeroValue {ty : TypeId} {z : Value} (hz : (P.info? ty).map (·.zero) = some (some z)) (w : World) : (zeroValue ty).run P w = .ok z w := by
 cases hq : P.info? ty with
 | none => simp [hq] at hz
 | some i =>
  have hs : i.zero = some z := by simpa [hq] using hz
  simp [zeroValue, typeInfo, hq, hs]
theorem wpList_alloc_as {ops : Array Oper} {rest : List Oper} {o : Oper} {a : Act} {Q : Exit → Act → World → Prop} (ty : TypeId) (ho : o.op = .alloc ty) (hgd : o.guard = none)
  (cs : Array Value) (hz : (P.info? ty).map (·.zero) = some (some (.agg cs)))
  (h : wpList P ops Q rest (a.put o.dst (.pointer (some ⟨w.heap.size, 0, none⟩))) (w.alloc (.cells cs ty))) : wpList P ops Q (o :: rest) a w :=
 wpList_plain hgd fun _ hK => by
  unfold Oper.wp execOp
  simp only [ho, Instr.alloc, Sem.run_bind, Sem.run_pure, Result.andThen_ok, run_zeroValue hz, newVar, newRow, run_newObj]
  exact hK _ _ h
theorem wpList_box_as {ops : Array Oper} {rest : List Oper} {o : Oper} {a : Act} {Q : Exit → Act → World → Prop} (ty : TypeId) {x : Operand} (ho : o.op = .box ty x) (hgd : o.guard = none)
  (v : Value) (hx : a.eval x = v)
  (h : wpList P ops Q rest (a.put o.dst (.pointer (some ⟨w.heap.size, 0, none⟩))) (w.alloc (.cells v.cells ty))) : wpList P ops Q (o :: rest) a w :=
 wpList_plain hgd fun _ hK => by
  unfold Oper.wp execOp
  simp only [ho, hx, Instr.box, Sem.run_bind, Sem.run_pure, Result.andThen_ok, newVar, newRow, run_newObj]
  exact hK _ _ h

theorem run_equalIn_loop (d : Nat) {e : TypeId} {k : IntKind} {len : Nat} (he : P.underlying e = some (.int k)) (f g : Nat → Int) (w : World) :
  ∀ (m s : Nat), s + m ≤ len →
   (forIn (List.range' s m) ((none : Option Bool), ()) (fun i _ => do
    let x ← part e ((List.range len).map fun i => Value.int k (f i)).toArray (i * 1)
    let y ← part e ((List.range len).map fun i => Value.int k (g i)).toArray (i * 1)
    let b ← Op.equalIn (d + 1) e x y
    if (!b) = true then pure (ForInStep.done (some false, ())) else pure (ForInStep.yield (none, ()))) : Sem (Option Bool × Unit)).run P w =
   .ok (if ((List.range' s m).all fun i => f i == g i) = true then (none, ()) else (some false, ())) w := by
 have hn : (isAgg e).run P w = .ok false w := by
  unfold isAgg
  rw [Sem.run_bind, run_underlying he w]
  rfl
 intro m
 induction m with
 | zero => intro s _; rfl
 | succ m ih =>
  intro s hs
  rw [List.range'_succ, List.forIn_cons, List.all_cons]
  have hp : ∀ h : Nat → Int, (part e ((List.range len).map fun i => Value.int k (h i)).toArray (s * 1)).run P w = .ok (.int k (h s)) w := by
   intro h
   simp [part, hn, show s < len by omega]
  have hq : (Op.equalIn (d + 1) e (.int k (f s)) (.int k (g s))).run P w = .ok (f s == g s) w := by
   simp [Op.equalIn, run_underlying he]
  simp only [Sem.run_bind, hp, hq, Result.andThen_ok]
  by_cases hfg : f s = g s
  ·simp only [hfg, beq_self_eq_true, Bool.not_true, Bool.false_eq_true, if_false, Sem.run_pure, Result.andThen_ok, Bool.true_and]
   rw [ih (s + 1) (by omega)]
  ·have hb : (f s == g s) = false := by simpa using hfg
   simp only [hb, Bool.not_false, if_true, Sem.run_pure, Result.andThen_ok, Bool.false_and, Bool.false_eq_true, if_false]
theorem run_equalIn_arr (d : Nat) {t e : TypeId} {k : IntKind} {len : Nat} (ht : P.underlying t = some (.array len e)) (he : P.underlying e = some (.int k)) (hi : (P.info? e).map (·.size) = some 1) (f g : Nat → Int) (w : World) :
  (Op.equalIn (d + 2) t (.agg ((List.range len).map fun i => Value.int k (f i)).toArray) (.agg ((List.range len).map fun i => Value.int k (g i)).toArray)).run P w = .ok ((List.range len).all fun i => f i == g i) w := by
 unfold Op.equalIn
 simp only [Sem.run_bind, run_underlying ht, Result.andThen_ok, run_sizeOf hi]
 simp only [Std.Legacy.Range.forIn_eq_forIn_range']
 have hsz : [:len].size = len := by simp [Std.Legacy.Range.size]
 rw [hsz, run_equalIn_loop d he f g w len 0 (by omega)]
 simp only [Result.andThen_ok, List.range_eq_range']
 cases h : (List.range' 0 len).all fun i => f i == g i <;> rfl
theorem run_eql_arr {t e : TypeId} {k : IntKind} {len : Nat} (ht : P.underlying t = some (.array len e)) (he : P.underlying e = some (.int k)) (hi : (P.info? e).map (·.size) = some 1) (f g : Nat → Int) (w : World) :
  (binOp .eql t (.agg ((List.range len).map fun i => Value.int k (f i)).toArray) (.agg ((List.range len).map fun i => Value.int k (g i)).toArray)).run P w = .ok (.bool ((List.range len).all fun i => f i == g i)) w := by
 rw [run_eql_struct, run_equalIn_arr 9998 ht he hi f g w]
 rfl
theorem run_neq_arr {t e : TypeId} {k : IntKind} {len : Nat} (ht : P.underlying t = some (.array len e)) (he : P.underlying e = some (.int k)) (hi : (P.info? e).map (·.size) = some 1) (f g : Nat → Int) (w : World) :
  (binOp .neq t (.agg ((List.range len).map fun i => Value.int k (f i)).toArray) (.agg ((List.range len).map fun i => Value.int k (g i)).toArray)).run P w = .ok (.bool (!((List.range len).all fun i => f i == g i))) w := by
 rw [run_neq_struct, run_equalIn_arr 9998 ht he hi f g w]
 rfl
theorem exec_load_agg {o : Oper} {a : Act} {ty : TypeId} {x : Operand} (ho : o.op = .load ty x) {g off : Nat} (hx : a.eval x = .pointer (some ⟨g, off, none⟩)) {d : TypeDesc} (vs : List Value)
  (hu : P.underlying ty = some d) (hd : aggDesc d = true) (hi : (P.info? ty).map (·.size) = some vs.length) (hc : ∀ j v, vs[j]? = some v → w.cell? ⟨g, off + j, none⟩ = some v) :
  (execOp a.eval o).run P w = .ok (.value (.agg vs.toArray)) w := by
 unfold execOp
 simp only [ho, hx, Sem.run_bind, run_loadAt_agg vs hu hd hi hc, Result.andThen_ok]
 rfl
theorem exec_eql_arr {o : Oper} {a : Act} {t u e : TypeId} {x y : Operand} (ho : o.op = .binOp .eql t x y u) {k : IntKind} {len : Nat} (f g : Nat → Int)
  (hx : a.eval x = .agg ((List.range len).map fun i => Value.int k (f i)).toArray) (hy : a.eval y = .agg ((List.range len).map fun i => Value.int k (g i)).toArray)
  (hm : P.eqGuardType P.depth t = false) (ht : P.underlying t = some (.array len e)) (he : P.underlying e = some (.int k)) (hi : (P.info? e).map (·.size) = some 1) :
  (execOp a.eval o).run P w = .ok (.value (.bool ((List.range len).all fun i => f i == g i))) w := by
 unfold execOp
 simp only [ho, hx, hy, Sem.run_bind, run_eqGuard_agg (hm := hm), Result.andThen_ok, run_eql_arr ht he hi]
 rfl
end
theorem Kept.setRow {S : Nat → Prop} {a b : World} (h : Kept S a b) {g : Nat} (hp : S g) (cs : Array Value) : Kept S a (b.setRow g cs) :=
 h.trans ⟨rfl, rfl, rfl, by simp, fun k _ hs => setRow_other _ _ _ _ (fun e => hs (e ▸ hp))⟩
theorem Kept.setRowNew {S : Nat → Prop} {a b : World} (h : Kept S a b) {g : Nat} (hp : a.heap.size ≤ g) (cs : Array Value) : Kept S a (b.setRow g cs) :=
 h.trans_new (Kept.setRow (S := fun k => k = g) (Kept.refl _ _) rfl cs) (fun i hi e => absurd e (by omega))
end Go.Proofs.Ytdcnogjbmdhgaaa
