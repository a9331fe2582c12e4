/-
 Slices that came in, of whatever elements.
-/
import Derived.Test.YtidlchciehdefaaGreatK02
import Derived.Test.YtidlchciehdefaaGreatK13
import Derived.Test.YtidlchciehdefaaGreatK44
set_option linter.unusedVariables false
set_option linter.unusedSimpArgs false
namespace Go.Proofs.YtidlchciehdefaaGreat
open Go.ChangeShapes Go.WideShapes Go.ChangeAt Go.RowKit
set_option maxRecDepth 100000

def SliceOf {α : Type} (w : World) (sz : Nat) (P : α → List Value → Prop) (v : Value) (l : List α) : Prop :=
 ∃ A cap, v = .slice A l.length cap ∧ l.length ≤ cap ∧ cap ≤ maxLen ∧
  ∀ i x, l[i]? = some x → ∃ b off cs, A = some ⟨b, off, none⟩ ∧ b < w.heap.size ∧ cs.length = sz ∧ P x cs ∧ ∀ j u, cs[j]? = some u → w.cell? ⟨b, off + i * sz + j, none⟩ = some u
section
variable {H : Type} {enc : TypeId × Value → H} {W : World}
theorem open_block_trod {t e : TypeId} (ht : Tryz.prog.underlying t = some (.array 16 e)) (he : Tryz.prog.underlying e = some (.int .u8)) (hc : Tryz.prog.cellsOf e = 1) (hn : Tryz.prog.cellsOf t = 16)
  {fuel : Nat} {cs : List Value} {z : DataW H × List MemPlace} (hf : DataW.trod enc Tryz.prog W 0 (fun _ => true) true fuel t cs = some z) :
  ∃ bl : List Nat, bl.length = 16 ∧ (∀ b ∈ bl, b < 256) ∧ cs = blockCells bl := by
 obtain ⟨xs, m, _, _, hlen, hxl, hx⟩ := DataW.trod_array ht hf
 rw [hn] at hlen
 have key : ∀ i, i < 16 → ∃ k : Nat, k ≤ 255 ∧ cs[i]? = some (.int .u8 k) := by
  intro i hi
  have h1 := hx i hi
  rw [hc, Nat.mul_one, List.getElem?_eq_getElem (by omega : i < xs.length)] at h1
  obtain ⟨q, hq, _, hw⟩ := DataW.trod_int he h1
  have hb := wf_u8 hw
  obtain ⟨k, rfl⟩ := Int.eq_ofNat_of_zero_le hb.1
  refine ⟨k, by omega, ?_⟩
  have : (List.take 1 (List.drop i cs))[0]? = some (.int .u8 k) := by rw [hq]; rfl
  simpa using this
 obtain ⟨c, hcc⟩ := Deep.choose_lt (α := Nat) (p := fun i k => k ≤ 255 ∧ cs[i]? = some (.int .u8 k)) key
 refine ⟨(List.range 16).map c, by simp, fun b hb => ?_, ?_⟩
 ·obtain ⟨i, hi, rfl⟩ := List.mem_map.1 hb
  have := (hcc i (List.mem_range.1 hi)).1
  omega
 ·apply List.ext_getElem?
  intro i
  by_cases hi : i < 16
  ·rw [(hcc i hi).2]
   simp [blockCells, hi]
  ·rw [List.getElem?_eq_none (by omega), List.getElem?_eq_none (by rw [blockCells_len]; omega)]
theorem open_elems {α : Type} {P : α → List Value → Prop} {e : TypeId} {sz len : Nat} (hp : 0 < sz) (hce : Tryz.prog.cellsOf e = sz) {a : Addr} {D : Nat → DataW H × List MemPlace} {n : Nat}
  (hel : ∀ cs (z : DataW H × List MemPlace), DataW.trod enc Tryz.prog W 0 (fun _ => true) true n e cs = some z → cs.length = sz → ∃ x, P x cs)
  (hx : ∀ i, i < len → ∃ cs', W.cells? 0 (a.add (i * Tryz.prog.cellsOf e)) (Tryz.prog.cellsOf e) = some cs' ∧ DataW.trod enc Tryz.prog W 0 (fun _ => true) true n e cs' = some (D i)) :
  ∃ l : List α, l.length = len ∧ ∀ i x, l[i]? = some x → ∃ b off cs, a = ⟨b, off, none⟩ ∧ b < W.heap.size ∧ cs.length = sz ∧ P x cs ∧ ∀ j u, cs[j]? = some u → W.cell? ⟨b, off + i * sz + j, none⟩ = some u := by
 rw [hce] at hx
 have key : ∀ i, i < len → ∃ x : α, ∃ b off cs, a = ⟨b, off, none⟩ ∧ b < W.heap.size ∧ cs.length = sz ∧ P x cs ∧ ∀ j u, cs[j]? = some u → W.cell? ⟨b, off + i * sz + j, none⟩ = some u := by
  intro i hi
  obtain ⟨cs', hcs', htr⟩ := hx i hi
  obtain ⟨_, hlen, hcell⟩ := World.cells?_some hcs'
  obtain ⟨x, hPx⟩ := hel cs' _ htr hlen
  obtain ⟨b, off, spot⟩ := a
  have hs : spot = none := by
   obtain ⟨v0, hv0⟩ : ∃ v0, W.cell? ((⟨b, off, spot⟩ : Addr).add 0) = some v0 := by
    obtain ⟨cs0, hcs0, htr0⟩ := hx 0 (by omega)
    obtain ⟨_, hlen0, hcell0⟩ := World.cells?_some hcs0
    have := hcell0 0 (by omega)
    have e : ((⟨b, off, spot⟩ : Addr).add (0 * sz)).add 0 = (⟨b, off, spot⟩ : Addr).add 0 := by simp [Addr.add]
    rw [e, List.getElem?_eq_getElem (by omega)] at this
    exact ⟨_, this⟩
   have := World.cell?_spot hv0
   simpa [Addr.add] using this
  subst hs
  have cells : ∀ j u, cs'[j]? = some u → W.cell? ⟨b, off + i * sz + j, none⟩ = some u := fun j u hj => by
   have hjl := (List.getElem?_eq_some_iff.1 hj).1
   have := hcell j (by omega)
   rw [hj, addr_add, addr_add] at this
   exact this
  exact ⟨x, b, off, cs', rfl, World.block_lt_of_cell? W _ (cells 0 _ (List.getElem?_eq_getElem (by omega))), hlen, hPx, cells⟩
 rcases Nat.eq_zero_or_pos len with rfl | hl0
 ·exact ⟨[], rfl, fun i x hi => by simp at hi⟩
 obtain ⟨x0, _⟩ := key 0 hl0
 haveI : Inhabited α := ⟨x0⟩
 obtain ⟨X, hX⟩ := Deep.choose_lt key
 refine ⟨(List.range len).map X, by rw [List.length_map, List.length_range], fun i x hi => ?_⟩
 have hil : i < len := by have := (List.getElem?_eq_some_iff.1 hi).1; simpa using this
 have : x = X i := by simpa [hil] using hi.symm
 subst this
 exact hX i hil
theorem open_slice_trod {α : Type} {P : α → List Value → Prop} {t e : TypeId} {sz : Nat} (hp : 0 < sz) (ht : Tryz.prog.underlying t = some (.slice e)) (hce : Tryz.prog.cellsOf e = sz)
  (hel : ∀ n cs (z : DataW H × List MemPlace), DataW.trod enc Tryz.prog W 0 (fun _ => true) true n e cs = some z → cs.length = sz → ∃ x, P x cs)
  {fuel : Nat} {cs : List Value} {z : DataW H × List MemPlace} (hf : DataW.trod enc Tryz.prog W 0 (fun _ => true) true fuel t cs = some z) : ∃ v, ∃ l : List α, cs = [v] ∧ SliceOf W sz P v l := by
 rcases Deep.open_slice ht hf with ⟨hcs, _⟩ | ⟨a, len, cap, m, n, D, Pl, hcs, _, hl, hm, hmm, _, hx⟩
 ·exact ⟨_, [], hcs, _, _, rfl, by simp, by simp [maxLen], by simp⟩
 ·simp only [if_true] at hmm
  subst hmm
  obtain ⟨l, hll, hg⟩ := open_elems (P := P) hp hce (hel n) (len := len) (D := fun i => (D i, Pl i)) (fun i hi => hx i (by omega))
  refine ⟨_, l, hcs, some a, _, by rw [hll], by rw [hll]; simpa using hl, hm, fun i x hi => ?_⟩
  obtain ⟨b, off, cs, h1, h2⟩ := hg i x hi
  exact ⟨b, off, cs, by rw [h1], h2⟩
theorem open_slice_val {α : Type} {P : α → List Value → Prop} {t e : TypeId} {sz : Nat} (hp : 0 < sz) (ht : Tryz.prog.underlying t = some (.slice e)) (hce : Tryz.prog.cellsOf e = sz)
  (hel : ∀ n cs (z : DataW H × List MemPlace), DataW.trod enc Tryz.prog W 0 (fun _ => true) true n e cs = some z → cs.length = sz → ∃ x, P x cs)
  {base : Nat} {v : Value} {d : DataW H} {p : List MemPlace} (hv : Value.okWide Tryz.prog W .any base t v) (h : DataW.Trod enc Tryz.prog W 0 (fun _ => true) true t v d p) : ∃ l : List α, SliceOf W sz P v l := by
 obtain ⟨A, len, cap, rfl⟩ := okWide_slice ht hv
 obtain ⟨fuel, hf⟩ := h
 obtain ⟨u, l, hu, hS⟩ := open_slice_trod hp ht hce hel hf
 have : u = .slice A len cap := by simpa [Value.cells] using hu.symm
 subst this
 exact ⟨l, hS⟩
def IntP (x : Int) (cs : List Value) : Prop := cs = [.int .i64 x] ∧ -9223372036854775808 ≤ x ∧ x ≤ 9223372036854775807
theorem SliceOf.ints {v : Value} {l : List Int} (h : SliceOf W 1 IntP v l) : SliceAt W v 1 l.length (l.map (Value.int .i64)) := by
 obtain ⟨A, cap, hv, h1, h2, hg⟩ := h
 refine ⟨by simp, A, cap, hv, h1, h2, fun j u hj => ?_⟩
 rw [List.getElem?_map] at hj
 cases hx : l[j]? with
 | none => rw [hx] at hj; cases hj
 | some x =>
  rw [hx] at hj
  cases hj
  obtain ⟨b, off, cs, hA, _, _, hP, hc⟩ := hg j x hx
  refine ⟨b, off, hA, ?_⟩
  have := hc 0 (.int .i64 x) (by rw [hP.1]; rfl)
  simpa using this
theorem SliceOf.wf {v : Value} {l : List Int} (h : SliceOf W 1 IntP v l) : ∀ x ∈ l, -9223372036854775808 ≤ x ∧ x ≤ 9223372036854775807 := fun x hx => by
 obtain ⟨A, cap, hv, h1, h2, hg⟩ := h
 obtain ⟨i, hi, rfl⟩ := List.getElem_of_mem hx
 obtain ⟨b, off, cs, _, _, _, hP, _⟩ := hg i _ (List.getElem?_eq_getElem hi)
 exact hP.2
end
end Go.Proofs.YtidlchciehdefaaGreat
