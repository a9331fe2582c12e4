/-
 Items that came in.
-/
import Derived.Test.YtidlchciehdefaaGreatK30
import Derived.Test.YtidlchciehdefaaGreatK45
set_option linter.unusedVariables false
set_option linter.unusedSimpArgs false
namespace Go.Proofs.YtidlchciehdefaaGreat
open Go.ChangeShapes Go.WideShapes Go.ChangeAt Go.RowKit
set_option maxRecDepth 100000

section
variable {H : Type} {enc : TypeId × Value → H} {W : World}
def ItemP (x : ItemM) (cs : List Value) : Prop := x.ok ∧ cs = itemCells x ∧ -9223372036854775808 ≤ x.key ∧ x.key ≤ 9223372036854775807
theorem item_elem (n : Nat) (cs : List Value) (z : DataW H × List MemPlace) (h : DataW.trod enc Tryz.prog W 0 (fun _ => true) true n 61 cs = some z) (hlen : cs.length = 18) : ∃ x, ItemP x cs := by
 have hc0 : Tryz.prog.cellsOf 3 = 1 := by kernel_rfl
 have hc1 : Tryz.prog.cellsOf 35 = 16 := by kernel_rfl
 have hc2 : Tryz.prog.cellsOf 4 = 1 := by kernel_rfl
 obtain ⟨xs, n', _, _, _, hxl, hfld⟩ := DataW.trod_struct Tryz.underlying61 h
 have hxl3 : xs.length = 3 := hxl
 have g0 := hfld 0 _ rfl
 have g1 := hfld 1 _ rfl
 have g2 := hfld 2 _ rfl
 change DataW.trod enc Tryz.prog W 0 (fun _ => true) true n' 3 ((cs.drop 0).take (Tryz.prog.cellsOf 3)) = _ at g0
 change DataW.trod enc Tryz.prog W 0 (fun _ => true) true n' 4 ((cs.drop 1).take (Tryz.prog.cellsOf 4)) = _ at g1
 change DataW.trod enc Tryz.prog W 0 (fun _ => true) true n' 35 ((cs.drop 2).take (Tryz.prog.cellsOf 35)) = _ at g2
 rw [hc0] at g0
 rw [hc2] at g1
 rw [hc1] at g2
 rw [List.getElem?_eq_getElem (by omega : 0 < xs.length)] at g0
 rw [List.getElem?_eq_getElem (by omega : 1 < xs.length)] at g1
 rw [List.getElem?_eq_getElem (by omega : 2 < xs.length)] at g2
 obtain ⟨q0, hq0, _, hw0⟩ := DataW.trod_int Tryz.underlying3 g0
 obtain ⟨q1, hq1, _⟩ := DataW.trod_bool Tryz.underlying4 g1
 obtain ⟨bl, hb1, hb2, hb3⟩ := open_block_trod Tryz.underlying35 Tryz.underlying5 (by kernel_rfl) (by kernel_rfl) g2
 refine ⟨⟨q0, q1, bl⟩, ⟨hb1, hb2⟩, ?_, wf_i64 hw0⟩
 have e2 : cs.drop 2 = blockCells bl := by rw [← hb3, List.take_of_length_le (by rw [List.length_drop]; omega)]
 have step : ∀ j, cs.drop j = (cs.drop j).take 1 ++ cs.drop (j + 1) := fun j => by
  have := List.take_append_drop 1 (cs.drop j)
  rw [List.drop_drop] at this
  exact this.symm
 have e : cs = (cs.drop 0).take 1 ++ ((cs.drop 1).take 1 ++ cs.drop 2) := by
  rw [← step 1, ← step 0, List.drop_zero]
 rw [e, hq0, hq1, e2]
 rfl
theorem open_items {base : Nat} {v : Value} {d : DataW H} {p : List MemPlace} (hv : Value.okWide Tryz.prog W .any base 63 v) (h : DataW.Trod enc Tryz.prog W 0 (fun _ => true) true 63 v d p) : ∃ l : List ItemM, SliceOf W 18 ItemP v l :=
 open_slice_val (by decide) Tryz.underlying63 (by kernel_rfl) item_elem hv h
theorem items_in {v : Value} {l : List ItemM} (h : SliceOf W 18 ItemP v l) : ItemsAt W v l := by
 obtain ⟨A, cap, hv, h1, h2, hg⟩ := h
 refine ⟨items_len l, A, cap, hv, h1, h2, fun j u hj => ?_⟩
 have hjl := (List.getElem?_eq_some_iff.1 hj).1
 rw [items_len] at hjl
 obtain ⟨x, hx⟩ : ∃ x, l[j / 18]? = some x := ⟨_, List.getElem?_eq_getElem (by omega)⟩
 obtain ⟨b, off, cs, hA, _, _, ⟨_, hcs, _⟩, hc⟩ := hg _ x hx
 refine ⟨b, off, hA, ?_⟩
 have hm : j % 18 < 18 := Nat.mod_lt _ (by decide)
 have hjj : j = j / 18 * 18 + j % 18 := by omega
 have := hc (j % 18) u (by rw [hcs, ← items_get hx hm, ← hjj]; exact hj)
 rw [Nat.add_assoc, ← hjj] at this
 exact this
theorem items_ok {v : Value} {l : List ItemM} (h : SliceOf W 18 ItemP v l) : ∀ x ∈ l, x.ok := fun x hx => by
 obtain ⟨A, cap, hv, h1, h2, hg⟩ := h
 obtain ⟨i, hi, rfl⟩ := List.getElem_of_mem hx
 obtain ⟨b, off, cs, _, _, _, hP, _⟩ := hg i _ (List.getElem?_eq_getElem hi)
 exact hP.1
end
end Go.Proofs.YtidlchciehdefaaGreat
