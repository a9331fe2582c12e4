/-
 Slices that came in, of whatever elements.
-/
import Derived.Test.YtdcnogjbmdhgaaaK02
import Derived.Test.YtdcnogjbmdhgaaaK12
import Derived.Test.YtdcnogjbmdhgaaaK32
set_option linter.unusedVariables false
set_option linter.unusedSimpArgs false
namespace Go.Proofs.Ytdcnogjbmdhgaaa
open Go.ChangeShapes Go.WideShapes Go.ChangeAt Go.RowKit
set_option maxRecDepth 100000

section
variable {H : Type} {enc : TypeId × Value → H} {W : World}
end
end Go.Proofs.Ytdcnogjbmdhgaaa
/-
 Two slices of changes that came in.
-/
namespace Go.Proofs.Ytdcnogjbmdhgaaa
open Go.ChangeShapes Go.WideShapes Go.ChangeAt Go.RowKit
set_option maxRecDepth 100000

section
variable {H : Type} {enc : TypeId × Value → H} {W : World}

theorem open_pairs_trodS {t e f1 f2 : TypeId} {fs : Array Field} (ht : Try.prog.underlying t = some (.slice e)) (he : Try.prog.underlying e = some (.struct fs)) (hfs : fs.size = 2)
  (h1 : (fs[0]?).map (fun f => (f.type, f.offset)) = some (f1, 0)) (h2 : (fs[1]?).map (fun f => (f.type, f.offset)) = some (f2, 1)) (hf1 : Try.prog.underlying f1 = some (.int .i64)) (hf2 : Try.prog.underlying f2 = some (.int .i64))
  (hc1 : Try.prog.cellsOf f1 = 1) (hc2 : Try.prog.cellsOf f2 = 1) (hce : Try.prog.cellsOf e = 2)
  {fuel : Nat} {cs : List Value} {z : DataW H × List MemPlace} (hf : DataW.trod enc Try.prog W 0 (fun _ => true) true fuel t cs = some z) :
  ∃ v l, cs = [v] ∧ PairsAt W v l := by
 rcases Deep.open_slice ht hf with ⟨hcs, _⟩ | ⟨a, len, cap, m, n, D, Pl, hcs, _, hl, hm, hmm, _, hx⟩
 ·exact ⟨_, [], hcs, ⟨_, _, rfl, by simp, by simp [maxLen], by simp⟩, by simp⟩
 ·refine ⟨.slice (some a) len cap, ?_⟩
  simp only [if_true] at hmm
  subst hmm
  rw [hce] at hx
  have key : ∀ i, i < len → ∃ x : Int × Int, ((-9223372036854775808 ≤ x.1 ∧ x.1 ≤ 9223372036854775807) ∧ (-9223372036854775808 ≤ x.2 ∧ x.2 ≤ 9223372036854775807)) ∧
    ∃ b off, a = ⟨b, off, none⟩ ∧ b < W.heap.size ∧ W.cell? ⟨b, off + i * 2, none⟩ = some (.int .i64 x.1) ∧ W.cell? ⟨b, off + i * 2 + 1, none⟩ = some (.int .i64 x.2) := by
   intro i hi
   obtain ⟨cs', hcs', htr⟩ := hx i (by omega)
   obtain ⟨_, hlen, hcell⟩ := World.cells?_some hcs'
   obtain ⟨xs, n', _, _, _, hxl, hfld⟩ := DataW.trod_struct he htr
   obtain ⟨F1, hF1, e1⟩ : ∃ F, fs[0]? = some F ∧ (F.type, F.offset) = (f1, 0) := by
    cases hq : fs[0]? with
    | none => simp [hq] at h1
    | some F => exact ⟨F, rfl, by simpa [hq] using h1⟩
   obtain ⟨F2, hF2, e2⟩ : ∃ F, fs[1]? = some F ∧ (F.type, F.offset) = (f2, 1) := by
    cases hq : fs[1]? with
    | none => simp [hq] at h2
    | some F => exact ⟨F, rfl, by simpa [hq] using h2⟩
   simp only [Prod.mk.injEq] at e1 e2
   have g1 := hfld 0 F1 hF1
   have g2 := hfld 1 F2 hF2
   rw [e1.1, e1.2, hc1, List.getElem?_eq_getElem (by omega : 0 < xs.length)] at g1
   rw [e2.1, e2.2, hc2, List.getElem?_eq_getElem (by omega : 1 < xs.length)] at g2
   obtain ⟨q1, hq1, _, hw1⟩ := DataW.trod_int hf1 g1
   obtain ⟨q2, hq2, _, hw2⟩ := DataW.trod_int hf2 g2
   have c1 : cs'[0]? = some (.int .i64 q1) := by
    have : (List.take 1 (List.drop 0 cs'))[0]? = some (.int .i64 q1) := by rw [hq1]; rfl
    simpa using this
   have c2 : cs'[1]? = some (.int .i64 q2) := by
    have : (List.take 1 (List.drop 1 cs'))[0]? = some (.int .i64 q2) := by rw [hq2]; rfl
    simpa using this
   have w1 := hcell 0 (by omega)
   have w2 := hcell 1 (by omega)
   rw [c1] at w1
   rw [c2] at w2
   have hz : (a.add (i * 2)).add 0 = a.add (i * 2) := by simp [Addr.add]
   rw [hz] at w1
   obtain ⟨b, off, spot⟩ := a
   have hs : spot = none := by
    obtain ⟨v0, hv0⟩ : ∃ v0, W.cell? ((⟨b, off, spot⟩ : Addr).add 0) = some v0 := by
     obtain ⟨cs0, hcs0, htr0⟩ := hx 0 (by omega)
     obtain ⟨_, hlen0, hcell0⟩ := World.cells?_some hcs0
     have := hcell0 0 (by omega)
     have e : ((⟨b, off, spot⟩ : Addr).add (0 * 2)).add 0 = (⟨b, off, spot⟩ : Addr).add 0 := by simp [Addr.add]
     rw [e, List.getElem?_eq_getElem (by omega)] at this
     exact ⟨_, this⟩
    have := World.cell?_spot hv0
    simpa [Addr.add] using this
   subst hs
   have a1 : (⟨b, off, none⟩ : Addr).add (i * 2) = ⟨b, off + i * 2, none⟩ := by unfold Addr.add; split <;> simp_all
   have a2 : (⟨b, off + i * 2, none⟩ : Addr).add 1 = ⟨b, off + i * 2 + 1, none⟩ := rfl
   rw [a1] at w1 w2
   rw [a2] at w2
   exact ⟨(q1, q2), ⟨wf_i64 hw1, wf_i64 hw2⟩, b, off, rfl, World.block_lt_of_cell? W _ w1, w1, w2⟩
  obtain ⟨X, hX⟩ := Deep.choose_lt key
  refine ⟨(List.range len).map X, hcs, ⟨some a, _, by rw [List.length_map, List.length_range], by simpa using hl, hm, ?_⟩, ?_⟩
  ·intro i x hi
   have hil : i < len := by have := (List.getElem?_eq_some_iff.1 hi).1; simpa using this
   have : x = X i := by simpa [hil] using hi.symm
   subst this
   obtain ⟨b, off, ha, hr⟩ := (hX i hil).2
   exact ⟨b, off, by rw [ha], hr⟩
  ·intro x hx'
   simp only [List.mem_map, List.mem_range] at hx'
   obtain ⟨i, hi, rfl⟩ := hx'
   exact (hX i hi).1
theorem pairs_entsS {v : Value} {l : List (Int × Int)} (h : PairsAt W v l) : EntsAt W v l := by
 obtain ⟨A, cap, rfl, h1, h2, h3⟩ := h.val
 refine ⟨entCells_len _, A, cap, rfl, h1, h2, fun j u hj => ?_⟩
 have hjl := (List.getElem?_eq_some_iff.1 hj).1
 rw [entCells_len] at hjl
 obtain ⟨x, hx⟩ : ∃ x, l[j / 2]? = some x := ⟨_, List.getElem?_eq_getElem (by omega)⟩
 obtain ⟨g1, g2⟩ := entCells_get l (j / 2) x hx
 obtain ⟨b, off, hA, _, c1, c2⟩ := h3 (j / 2) x hx
 refine ⟨b, off, hA, ?_⟩
 rcases Nat.mod_two_eq_zero_or_one j with e | e
 ·have e2 : j = j / 2 * 2 := by omega
  rw [e2, g1] at hj
  cases hj
  rw [e2]; exact c1
 ·have e2 : j = j / 2 * 2 + 1 := by omega
  rw [e2, g2] at hj
  cases hj
  rw [e2, ← Nat.add_assoc]; exact c2
theorem open_two {base : Nat} {v : Value} {d : DataW H} {p : List MemPlace} (hv : Value.okWide Try.prog W .any base 23 v) (h : DataW.Trod enc Try.prog W 0 (fun _ => true) true 23 v d p) :
  ∃ (u0 u1 : Value) (l0 l1 : List (Int × Int)), v = .agg #[u0, u1] ∧ PairsAt W u0 l0 ∧ PairsAt W u1 l1 := by
 unfold Value.okWide at hv
 rw [Try.underlying23] at hv
 obtain ⟨cs, rfl, hsz, _⟩ := hv
 obtain ⟨fuel, hf⟩ := h
 have hl : cs.toList.length = 2 := by
  have hc : Try.prog.cellsOf 23 = 2 := by kernel_rfl
  simpa [hc] using hsz
 have hce : Try.prog.cellsOf 22 = 1 := by kernel_rfl
 obtain ⟨xs, m, _, _, _, hxl, hx⟩ := DataW.trod_array Try.underlying23 (cs := cs.toList) hf
 have g0 := hx 0 (by decide)
 have g1 := hx 1 (by decide)
 rw [hce] at g0 g1
 rw [List.getElem?_eq_getElem (by omega : 0 < xs.length)] at g0
 rw [List.getElem?_eq_getElem (by omega : 1 < xs.length)] at g1
 obtain ⟨u0, l0, e0, p0⟩ := open_pairs_trodS Try.underlying22 Try.underlying41 rfl rfl rfl Try.underlying3 Try.underlying3 (by kernel_rfl) (by kernel_rfl) (by kernel_rfl) g0
 obtain ⟨u1, l1, e1, p1⟩ := open_pairs_trodS Try.underlying22 Try.underlying41 rfl rfl rfl Try.underlying3 Try.underlying3 (by kernel_rfl) (by kernel_rfl) (by kernel_rfl) g1
 refine ⟨u0, u1, l0, l1, ?_, p0, p1⟩
 have e1' : cs.toList.drop 1 = [u1] := by
  rw [Nat.one_mul] at e1
  rw [← e1, List.take_of_length_le (by rw [List.length_drop]; omega)]
 have e0' : cs.toList.take 1 = [u0] := by
  rw [Nat.zero_mul, List.drop_zero] at e0
  exact e0
 have e : cs.toList = cs.toList.take 1 ++ cs.toList.drop 1 := (List.take_append_drop 1 _).symm
 rw [e0', e1'] at e
 have : cs = #[u0, u1] := by
  apply Array.ext'
  rw [e]
  rfl
 rw [this]
end
end Go.Proofs.Ytdcnogjbmdhgaaa
