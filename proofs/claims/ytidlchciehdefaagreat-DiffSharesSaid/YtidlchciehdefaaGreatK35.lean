/-
 Items that came in.
-/
import Derived.Test.YtidlchciehdefaaGreatK31
import Derived.Test.YtidlchciehdefaaGreatK33
import Derived.Test.YtidlchciehdefaaGreatK34
set_option linter.unusedVariables false
set_option linter.unusedSimpArgs false
namespace Go.Proofs.YtidlchciehdefaaGreat
open Go.ChangeShapes Go.WideShapes Go.ChangeAt Go.RowKit
set_option maxRecDepth 100000

section
variable {H : Type} {enc : TypeId × Value → H} {W : World}
end
end Go.Proofs.YtidlchciehdefaaGreat
/-
 A change that came in.
-/
namespace Go.Proofs.YtidlchciehdefaaGreat
open Go.ChangeShapes Go.WideShapes Go.ChangeAt Go.RowKit
set_option maxRecDepth 100000

section
variable {H : Type} {enc : TypeId × Value → H} {W : World}
theorem open_change {base : Nat} {v : Value} {d : DataW H} {p : List MemPlace} (hv : Value.okWide Tryz.prog W .any base 92 v) (h : DataW.Trod enc Tryz.prog W 0 (fun _ => true) true 92 v d p) : ∃ x : Int × Int, v = .agg #[.int .i64 x.1, .int .i64 x.2] ∧ True := by
 unfold Value.okWide at hv
 rw [Tryz.underlying92] at hv
 obtain ⟨cs, rfl, hsz, _⟩ := hv
 obtain ⟨fuel, hf⟩ := h
 have hl : cs.toList.length = 2 := by
  have hc : Tryz.prog.cellsOf 92 = 2 := by kernel_rfl
  simpa [hc] using hsz
 have hc0 : Tryz.prog.cellsOf 3 = 1 := by kernel_rfl
 obtain ⟨xs, n', _, _, _, hxl, hfld⟩ := DataW.trod_struct Tryz.underlying92 (cs := cs.toList) hf
 have hxl2 : xs.length = 2 := hxl
 have g0 := hfld 0 _ rfl
 have g1 := hfld 1 _ rfl
 change DataW.trod enc Tryz.prog W 0 (fun _ => true) true n' 3 ((cs.toList.drop 0).take (Tryz.prog.cellsOf 3)) = _ at g0
 change DataW.trod enc Tryz.prog W 0 (fun _ => true) true n' 3 ((cs.toList.drop 1).take (Tryz.prog.cellsOf 3)) = _ at g1
 rw [hc0] at g0 g1
 rw [List.getElem?_eq_getElem (by omega : 0 < xs.length)] at g0
 rw [List.getElem?_eq_getElem (by omega : 1 < xs.length)] at g1
 obtain ⟨q0, hq0, _⟩ := DataW.trod_int Tryz.underlying3 g0
 obtain ⟨q1, hq1, _⟩ := DataW.trod_int Tryz.underlying3 g1
 refine ⟨(q0, q1), ?_, trivial⟩
 have e1 : cs.toList.drop 1 = [Value.int .i64 q1] := by rw [← hq1, List.take_of_length_le (by rw [List.length_drop]; omega)]
 have e : cs.toList = (cs.toList.drop 0).take 1 ++ cs.toList.drop 1 := by rw [List.drop_zero, List.take_append_drop]
 rw [hq0, e1] at e
 have : cs = #[.int .i64 q0, .int .i64 q1] := by
  apply Array.ext'
  rw [e]
  rfl
 rw [this]
theorem pairs_ents {v : Value} {l : List (Int × Int)} (h : PairsAt W v l) : EntsAt W v l := by
 obtain ⟨A, cap, rfl, h1, h2, h3⟩ := h.val
 refine ⟨entCells_len _, A, cap, rfl, h1, h2, fun j u hj => ?_⟩
 have hjl := (List.getElem?_eq_some_iff.1 hj).1
 rw [entCells_len] at hjl
 obtain ⟨x, hx⟩ : ∃ x, l[j / 2]? = some x := ⟨_, List.getElem?_eq_getElem (by omega)⟩
 obtain ⟨g1, g2⟩ := entCells_get l (j / 2) x hx
 obtain ⟨b, off, hA, _, c1, c2⟩ := h3 (j / 2) x hx
 refine ⟨b, off, hA, ?_⟩
 rcases Nat.mod_two_eq_zero_or_one j with e | e
 ·have e2 : j = j / 2 * 2 := by omega
  rw [e2, g1] at hj
  cases hj
  rw [e2]; exact c1
 ·have e2 : j = j / 2 * 2 + 1 := by omega
  rw [e2, g2] at hj
  cases hj
  rw [e2, ← Nat.add_assoc]; exact c2
end
end Go.Proofs.YtidlchciehdefaaGreat
