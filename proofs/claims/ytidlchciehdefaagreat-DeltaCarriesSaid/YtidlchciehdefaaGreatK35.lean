/-
 Layer 17: the same items? (comparison of items; understudyref17.Same, understudyref17.Chunk)
-/
import Derived.Test.YtidlchciehdefaaGreatK30
import Derived.Test.YtidlchciehdefaaGreatK32
set_option linter.unusedVariables false
set_option linter.unusedSimpArgs false
namespace Go.Proofs.YtidlchciehdefaaGreat
open Go.RowKit
set_option maxRecDepth 100000

def itemEq (p q : ItemM) : Bool := (p.key == q.key) && (p.has == q.has) && decide (p.block = q.block)
theorem itemEq_refl (p : ItemM) : itemEq p p = true := by unfold itemEq; simp
theorem item_part (p : ItemM) : (itemCells p).toArray.extract 2 (2 + 16) = (blockCells p.block).toArray := by
 have h := blockCells_len p.block
 unfold itemCells
 simp only [List.extract_toArray, List.extract_eq_take_drop, List.drop_succ_cons, List.drop_zero]
 rw [List.take_of_length_le (by omega)]
theorem run_equalIn_item (d : Nat) {p q : ItemM} (hp : p.block.length = 16) (hq : q.block.length = 16) (w : World) : (Op.equalIn (d + 3) 61 (.agg (itemCells p).toArray) (.agg (itemCells q).toArray)).run Tryz.prog w = .ok (itemEq p q) w := by
 have hi : ∀ w, (isAgg 3).run Tryz.prog w = .ok false w := fun w => by
  unfold isAgg
  rw [Sem.run_bind, run_underlying Tryz.underlying3 w]
  rfl
 have hb : ∀ w, (isAgg 4).run Tryz.prog w = .ok false w := fun w => by
  unfold isAgg
  rw [Sem.run_bind, run_underlying Tryz.underlying4 w]
  rfl
 have hk : ∀ w, (isAgg 35).run Tryz.prog w = .ok true w := fun w => by
  unfold isAgg
  rw [Sem.run_bind, run_underlying Tryz.underlying35 w]
  rfl
 have hz : ∀ w, (sizeOf 35).run Tryz.prog w = .ok 16 w := fun w => run_sizeOf block_size w
 have hS : Tryz.prog.underlying 61 = some (.struct (Tryz.prog.fieldsOf 61)) := by kernel_rfl
 have hp' : Tryz.prog.stoodInHeld 61 = false := by kernel_rfl
 have p0 : ∀ (x : ItemM) w, (part 3 (itemCells x).toArray 0).run Tryz.prog w = .ok (.int .i64 x.key) w := fun x w => by
  unfold part
  rw [Sem.run_bind, hi]
  rfl
 have p1 : ∀ (x : ItemM) w, (part 4 (itemCells x).toArray 1).run Tryz.prog w = .ok (.bool x.has) w := fun x w => by
  unfold part
  rw [Sem.run_bind, hb]
  rfl
 have p2 : ∀ (x : ItemM) w, (part 35 (itemCells x).toArray 2).run Tryz.prog w = .ok (.agg (blockCells x.block).toArray) w := fun x w => by
  unfold part
  rw [Sem.run_bind, hk]
  simp only [Result.andThen_ok, if_true]
  rw [Sem.run_bind, hz]
  simp only [Result.andThen_ok, Sem.run_pure, item_part]
 have q0 : ∀ (a b : Int) w, (Op.equalIn (d + 2) 3 (.int .i64 a) (.int .i64 b)).run Tryz.prog w = .ok (a == b) w := fun a b w => run_equalIn_int w (d + 1) 3 .i64 .i64 a b Tryz.underlying3
 have q1 : ∀ (a b : Bool) w, (Op.equalIn (d + 2) 4 (.bool a) (.bool b)).run Tryz.prog w = .ok (a == b) w := fun a b w => run_equalIn_bool' w (d + 1) 4 a b Tryz.underlying4
 have q2 : ∀ w, (Op.equalIn (d + 2) 35 (.agg (blockCells p.block).toArray) (.agg (blockCells q.block).toArray)).run Tryz.prog w = .ok (decide (p.block = q.block)) w := fun w => by
  rw [← blk_all hp hq]
  exact run_equalIn_arr d Tryz.underlying35 Tryz.underlying5 (by kernel_rfl) _ _ w
 have hF : (Tryz.prog.fieldsOf 61).toList.map (fun f => (decide (f.name ≠ "_"), f.type, f.offset)) = [(true, 3, 0), (true, 4, 1), (true, 35, 2)] := by kernel_rfl
 rw [run_equalIn_struct w (d + 2) 61 _ _ hS hp']
 obtain ⟨fs, hfs⟩ : ∃ fs, (Tryz.prog.fieldsOf 61).toList = fs := ⟨_, rfl⟩
 rw [hfs] at hF ⊢
 match fs, hF with
 | [f0, f1, f2], hF =>
  simp only [List.map_cons, List.map_nil, List.cons.injEq, Prod.mk.injEq, and_true, decide_eq_true_eq] at hF
  obtain ⟨⟨n0, t0, o0⟩, ⟨n1, t1, o1⟩, ⟨n2, t2, o2⟩⟩ := hF
  unfold itemEq
  rw [Op.eqFields, if_pos n0, t0, o0, Sem.run_bind, p0, Result.andThen_ok, Sem.run_bind, p0, Result.andThen_ok, Sem.run_bind, q0, Result.andThen_ok]
  cases e0 : p.key == q.key
  ·simp
  simp only [Bool.not_true, Bool.false_eq_true, if_false]
  rw [Op.eqFields, if_pos n1, t1, o1, Sem.run_bind, p1, Result.andThen_ok, Sem.run_bind, p1, Result.andThen_ok, Sem.run_bind, q1, Result.andThen_ok]
  cases e1 : p.has == q.has
  ·simp
  simp only [Bool.not_true, Bool.false_eq_true, if_false]
  rw [Op.eqFields, if_pos n2, t2, o2, Sem.run_bind, p2, Result.andThen_ok, Sem.run_bind, p2, Result.andThen_ok, Sem.run_bind, q2, Result.andThen_ok]
  cases e2 : decide (p.block = q.block)
  ·simp
  ·simp [Op.eqFields]
theorem exec_eql_item {o : Oper} {a : Act} {x y : Operand} {u : TypeId} (ho : o.op = .binOp .eql 61 x y u) {p q : ItemM} (hp : p.block.length = 16) (hq : q.block.length = 16) (hx : a.eval x = .agg (itemCells p).toArray) (hy : a.eval y = .agg (itemCells q).toArray) (w : World) :
  (execOp a.eval o).run Tryz.prog w = .ok (.value (.bool (itemEq p q))) w := by
 unfold execOp
 have hm : Tryz.prog.eqGuardType Tryz.prog.depth 61 = false := by kernel_rfl
 have he := run_equalIn_item 9997 hp hq w
 simp only [ho, hx, hy, Sem.run_bind, run_eqGuard_agg (hm := hm), Result.andThen_ok, run_eql_struct, he]
 rfl
end Go.Proofs.YtidlchciehdefaaGreat
