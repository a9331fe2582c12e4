/-
 The frame of a law's proof: from a walk that answers true and writes nothing that was there to the statement's shape; and how arguments are opened.
-/
import Derived.Test.YtidlchciehdefaaGreatK01
import Derived.Test.YtidlchciehdefaaGreatK04
import Derived.Test.YtidlchciehdefaaGreatK08
import Derived.Test.YtidlchciehdefaaGreatK19
import Derived.Test.YtidlchciehdefaaGreatK25
import Derived.ProofKit
import Derived.OpenShut
import Derived.ShutString
import Derived.ChangeOld
import Derived.Deep.Slices
import Derived.Test.YtidlchciehdefaaGreatRows
set_option linter.unusedVariables false
set_option linter.unusedSimpArgs false
namespace Go.Proofs.YtidlchciehdefaaGreat
open Go.ChangeShapes Go.WideShapes Go.ChangeAt Go.RowKit

theorem own : ownKnob Tryz.prog.godebug = none := by kernel_rfl
theorem laidOut : laidOutB Tryz.prog = true := by kernel_rfl

section
variable {H : Type} {enc : TypeId × Value → H}

theorem trodAll_below {W W' : World} (hb : Below W.heap.size W W') : ∀ (ts : List TypeId) (vs : List Value) (ds : List (DataW H)) (ps : List MemPlace),
  (∀ t ∈ ts, Tryz.prog.readableRec t = true ∧ t < Tryz.prog.types.size) →
  DataW.TrodAll enc Tryz.prog W 0 (fun _ => true) true ts vs ds ps → DataW.TrodAll enc Tryz.prog W' 0 (fun b => decide (b < W.heap.size)) true ts vs ds ps
 | [], vs, ds, ps, _, h => by
  obtain ⟨rfl, rfl, rfl⟩ := trodAll_nil h
  exact trodAll_mk0
 | t :: ts, vs, ds, ps, ht, h => by
  obtain ⟨v, vs', d, ds', p, q, rfl, rfl, rfl, h0, h1⟩ := trodAll_cons h
  have hlt : ∀ x ∈ p, x.block < W.heap.size := by obtain ⟨m, hm⟩ := h0; exact DataW.trod_lt m _ _ _ hm
  exact trodAll_cons_mk (Below.trod laidOut (ht t (by simp)).1 (ht t (by simp)).2 h0 hb hlt) (trodAll_below hb ts vs' ds' q (fun u hu => ht u (by simp [hu])) h1)

set_option maxRecDepth 100000 in
theorem law_lift (os : Os) (started : os.Started) (F : FuncId) (fn : Func) (hfn : Tryz.prog.funcs[F]? = some fn) (hin : Tryz.prog.inits.idxOf? F = none)
  (s : ChangeSpec) (hvars : s.vars = []) (hs : ∀ ds : List (DataW H), ds.length = fn.params.toList.length → s.fn H ds = { results := [.lit (.bool true)], args := ds })
  (hres : fn.resultTypes = #[4]) (hread : (fn.params.toList.all fun t => Tryz.prog.readableRec t && decide (t < Tryz.prog.types.size)) = true)
  (wit : ∃ (w : World) (tape : Nat → Question → Nat) (i : Input), w.os = os ∧ World.Shaped Tryz.prog (w.forCall tape i) ∧ i.vars = [] ∧ Input.okWide Tryz.prog (w.forCall tape i) Reach.any w.heap.size F i ∧
   ChangeSpec.pre6 enc Tryz.prog fn s [] false (w.forCall tape i).memory i.args ∧ ({} : Assume).holds Tryz.prog (lone (Frame.enter Tryz.prog F i.args CallKind.normal) [] (w.forCall tape i)))
  (walk : ∀ (W : World) (base : Nat) (args : Array Value) (ds : List (DataW H)) (p : List MemPlace),
   (∀ (j : Nat) t v, fn.params[j]? = some t → args[j]? = some v → Value.okWide Tryz.prog W .any base t v) →
   DataW.TrodAll enc Tryz.prog W 0 (fun _ => true) true fn.params.toList args.toList ds p →
   Calls Tryz.prog F args W fun e w' => e = .returned (.bool true) ∧ Below W.heap.size W w') :
  ReturnsInHanded {} Tryz.checked os F .any (s.pre6 enc Tryz.prog fn [] false) (s.post enc Tryz.prog fn false true false false) := by
 refine returnsInHanded_of_change (C := Tryz.checked) own started hin hfn wit ?_
 intro W base args ds gs before hval hW hcnd _
 have hW' := hW
 obtain ⟨p, q, hA, hV, rfl, hfz, hnd⟩ := hW
 rw [hvars] at hV
 obtain ⟨rfl, rfl⟩ := trodVars_none hV
 refine (walk W base args ds p hval hA).mono fun e W' ⟨he, bel⟩ => ?_
 subst he
 have hlen : ∀ (ts : List TypeId) (vs : List Value) (ds : List (DataW H)) (ps : List MemPlace), DataW.TrodAll enc Tryz.prog W 0 (fun _ => true) true ts vs ds ps → ds.length = ts.length := by
  intro ts
  induction ts with
  | nil => intro vs ds ps h; obtain ⟨rfl, rfl, rfl⟩ := trodAll_nil h; rfl
  | cons t ts ih =>
   intro vs ds ps h
   obtain ⟨v, vs', d, ds', p, q, rfl, rfl, rfl, h0, h1⟩ := trodAll_cons h
   simp [ih _ _ _ h1]
 have hsp : s.fn H (ds ++ []) = { results := [.lit (.bool true)], args := ds } := by rw [List.append_nil]; exact hs ds (hlen _ _ _ _ hA)
 have hr : DataW.TrodAll enc Tryz.prog W' W.heap.size (fun _ => false) false fn.resultTypes.toList (Value.resultList fn.resultTypes.size (.bool true)) [.lit (.bool true)] [] := by
  rw [hres]
  exact trodAll_cons_mk (shut_bool Tryz.underlying4 _) trodAll_mk0
 have ha : DataW.TrodAll enc Tryz.prog W' 0 (fun b => decide (b < W.heap.size)) true fn.params.toList args.toList ds p := by
  refine trodAll_below bel _ _ _ _ (fun t ht => ?_) hA
  have := List.all_eq_true.1 hread t ht
  simp only [Bool.and_eq_true, decide_eq_true_eq] at this
  exact this
 refine ⟨_, rfl, ds, [], p ++ [], [], p, [], hW', ?_, ?_, ?_, bel.frame _, fun h => by cases h⟩
 ·rw [hsp]; exact hr
 ·rw [hsp]; exact ha
 ·rw [hsp, hvars]; exact rfl
end

def ownFacts (P : Program) (f : FuncId) (fn : Func) (s : ChangeSpec) (c : OpenClaim) : Bool :=
 c.wf (OpenSpec.ofChange s) &&
 fn.params.all (P.readableRec ·) && namedTie P c.named s.vars &&
 (c.stops == []) && (P.stops == []) && (c.knobs == []) && (P.stopKnobs == []) &&
 (c.inPlace == P.inPlace f) && (c.unfollowed == P.unfollowed f) && (c.recurses == P.recurses f) && (c.named == P.varsNamed f) &&
 (c.maps == (fn.params.toList ++ s.plain.varTypes P).any (P.mapsRec ·)) && (c.ifaces == (fn.params.toList ++ s.plain.varTypes P).any (P.ifacesRec ·)) && (c.mapsOut == P.mapsAmong fn.resultTypes.toList) &&
 (c.loops == (fn.params.toList ++ s.plain.varTypes P).any (P.loopsFrom ·)) && (c.wideKeys == (fn.params.toList ++ s.plain.varTypes P ++ fn.resultTypes.toList).any (P.wideKeysFrom ·)) &&
 s.vars.all (P.varReadable ·) && fn.resultTypes.all (fun t => P.readableRec t && decide (t < P.types.size)) && (c.ifacesOut == fn.resultTypes.toList.any (P.ifacesRec ·)) && (c.loopsOut == fn.resultTypes.toList.any (P.loopsFrom ·)) && c.shortTexts.isNone &&
 (c.kinds == if c.domain.isEmpty = true then [] else fn.params.toList.map fun t => match P.underlying t with | some (.int k) => some k | _ => none) && (c.pinned == c.pinnedBy) &&
 (c.veiled == (fn.params.toList ++ s.plain.varTypes P ++ fn.resultTypes.toList).any (P.veiledRec ·)) && c.veiledFits P fn.params.toList (fn.params.toList ++ s.plain.varTypes P ++ fn.resultTypes.toList)
theorem joined_gen (P : Program) (f : FuncId) (fn : Func) (s : ChangeSpec) (c : OpenClaim) (h1 : laidOutB P = true) (h2 : mapsRowed P = true) (h3 : P.plainKeys = true) (h4 : P.stopsHeard = true) (h5 : P.mayEnter = true)
  (h6 : P.liftsFinal = false) (h7 : P.make = some .cut) (hk : c.plainKeys = true) (hl : c.lifted = false) (hm : c.make = .cut) (h : ownFacts P f fn s c = true) : joinedFacts P f fn s c = true := by
 have e1 : (Option.some Make.cut == some Make.cut) = true := by decide
 unfold joinedFacts
 unfold ownFacts at h
 rw [h1, h2, h3, h4, h5, h6, h7, hk, hl, hm, e1]
 simp only [Bool.and_eq_true, beq_self_eq_true, and_true] at h ⊢
 exact h
theorem joined_of (f : FuncId) (fn : Func) (s : ChangeSpec) (c : OpenClaim) (hk : c.plainKeys = true) (hl : c.lifted = false) (hm : c.make = .cut) (h : ownFacts Tryz.prog f fn s c = true) : joinedFacts Tryz.prog f fn s c = true :=
 joined_gen _ _ _ _ _ laidOut maps_fact keys_fact heard_fact enter_fact lifts_fact make_fact hk hl hm h

section
variable {H : Type} {enc : TypeId × Value → H} {W : World}

theorem wf_i64 {n : Int} (h : (Lit.int .i64 n).wf = true) : -9223372036854775808 ≤ n ∧ n ≤ 9223372036854775807 := bounds_i64 h
theorem wf_u8 {n : Int} (h : (Lit.int .u8 n).wf = true) : 0 ≤ n ∧ n ≤ 255 := bounds_u8 h

set_option maxRecDepth 100000
end
end Go.Proofs.YtidlchciehdefaaGreat
/-
 Slices that came in, of whatever elements.
-/
namespace Go.Proofs.YtidlchciehdefaaGreat
open Go.ChangeShapes Go.WideShapes Go.ChangeAt Go.RowKit
set_option maxRecDepth 100000

def SliceOf {α : Type} (w : World) (sz : Nat) (P : α → List Value → Prop) (v : Value) (l : List α) : Prop :=
 ∃ A cap, v = .slice A l.length cap ∧ l.length ≤ cap ∧ cap ≤ maxLen ∧
  ∀ i x, l[i]? = some x → ∃ b off cs, A = some ⟨b, off, none⟩ ∧ b < w.heap.size ∧ cs.length = sz ∧ P x cs ∧ ∀ j u, cs[j]? = some u → w.cell? ⟨b, off + i * sz + j, none⟩ = some u
section
variable {H : Type} {enc : TypeId × Value → H} {W : World}
theorem open_block_trod {t e : TypeId} (ht : Tryz.prog.underlying t = some (.array 16 e)) (he : Tryz.prog.underlying e = some (.int .u8)) (hc : Tryz.prog.cellsOf e = 1) (hn : Tryz.prog.cellsOf t = 16)
  {fuel : Nat} {cs : List Value} {z : DataW H × List MemPlace} (hf : DataW.trod enc Tryz.prog W 0 (fun _ => true) true fuel t cs = some z) :
  ∃ bl : List Nat, bl.length = 16 ∧ (∀ b ∈ bl, b < 256) ∧ cs = blockCells bl := by
 obtain ⟨xs, m, _, _, hlen, hxl, hx⟩ := DataW.trod_array ht hf
 rw [hn] at hlen
 have key : ∀ i, i < 16 → ∃ k : Nat, k ≤ 255 ∧ cs[i]? = some (.int .u8 k) := by
  intro i hi
  have h1 := hx i hi
  rw [hc, Nat.mul_one, List.getElem?_eq_getElem (by omega : i < xs.length)] at h1
  obtain ⟨q, hq, _, hw⟩ := DataW.trod_int he h1
  have hb := wf_u8 hw
  obtain ⟨k, rfl⟩ := Int.eq_ofNat_of_zero_le hb.1
  refine ⟨k, by omega, ?_⟩
  have : (List.take 1 (List.drop i cs))[0]? = some (.int .u8 k) := by rw [hq]; rfl
  simpa using this
 obtain ⟨c, hcc⟩ := Deep.choose_lt (α := Nat) (p := fun i k => k ≤ 255 ∧ cs[i]? = some (.int .u8 k)) key
 refine ⟨(List.range 16).map c, by simp, fun b hb => ?_, ?_⟩
 ·obtain ⟨i, hi, rfl⟩ := List.mem_map.1 hb
  have := (hcc i (List.mem_range.1 hi)).1
  omega
 ·apply List.ext_getElem?
  intro i
  by_cases hi : i < 16
  ·rw [(hcc i hi).2]
   simp [blockCells, hi]
  ·rw [List.getElem?_eq_none (by omega), List.getElem?_eq_none (by rw [blockCells_len]; omega)]
theorem open_elems {α : Type} {P : α → List Value → Prop} {e : TypeId} {sz len : Nat} (hp : 0 < sz) (hce : Tryz.prog.cellsOf e = sz) {a : Addr} {D : Nat → DataW H × List MemPlace} {n : Nat}
  (hel : ∀ cs (z : DataW H × List MemPlace), DataW.trod enc Tryz.prog W 0 (fun _ => true) true n e cs = some z → cs.length = sz → ∃ x, P x cs)
  (hx : ∀ i, i < len → ∃ cs', W.cells? 0 (a.add (i * Tryz.prog.cellsOf e)) (Tryz.prog.cellsOf e) = some cs' ∧ DataW.trod enc Tryz.prog W 0 (fun _ => true) true n e cs' = some (D i)) :
  ∃ l : List α, l.length = len ∧ ∀ i x, l[i]? = some x → ∃ b off cs, a = ⟨b, off, none⟩ ∧ b < W.heap.size ∧ cs.length = sz ∧ P x cs ∧ ∀ j u, cs[j]? = some u → W.cell? ⟨b, off + i * sz + j, none⟩ = some u := by
 rw [hce] at hx
 have key : ∀ i, i < len → ∃ x : α, ∃ b off cs, a = ⟨b, off, none⟩ ∧ b < W.heap.size ∧ cs.length = sz ∧ P x cs ∧ ∀ j u, cs[j]? = some u → W.cell? ⟨b, off + i * sz + j, none⟩ = some u := by
  intro i hi
  obtain ⟨cs', hcs', htr⟩ := hx i hi
  obtain ⟨_, hlen, hcell⟩ := World.cells?_some hcs'
  obtain ⟨x, hPx⟩ := hel cs' _ htr hlen
  obtain ⟨b, off, spot⟩ := a
  have hs : spot = none := by
   obtain ⟨v0, hv0⟩ : ∃ v0, W.cell? ((⟨b, off, spot⟩ : Addr).add 0) = some v0 := by
    obtain ⟨cs0, hcs0, htr0⟩ := hx 0 (by omega)
    obtain ⟨_, hlen0, hcell0⟩ := World.cells?_some hcs0
    have := hcell0 0 (by omega)
    have e : ((⟨b, off, spot⟩ : Addr).add (0 * sz)).add 0 = (⟨b, off, spot⟩ : Addr).add 0 := by simp [Addr.add]
    rw [e, List.getElem?_eq_getElem (by omega)] at this
    exact ⟨_, this⟩
   have := World.cell?_spot hv0
   simpa [Addr.add] using this
  subst hs
  have cells : ∀ j u, cs'[j]? = some u → W.cell? ⟨b, off + i * sz + j, none⟩ = some u := fun j u hj => by
   have hjl := (List.getElem?_eq_some_iff.1 hj).1
   have := hcell j (by omega)
   rw [hj, addr_add, addr_add] at this
   exact this
  exact ⟨x, b, off, cs', rfl, World.block_lt_of_cell? W _ (cells 0 _ (List.getElem?_eq_getElem (by omega))), hlen, hPx, cells⟩
 rcases Nat.eq_zero_or_pos len with rfl | hl0
 ·exact ⟨[], rfl, fun i x hi => by simp at hi⟩
 obtain ⟨x0, _⟩ := key 0 hl0
 haveI : Inhabited α := ⟨x0⟩
 obtain ⟨X, hX⟩ := Deep.choose_lt key
 refine ⟨(List.range len).map X, by rw [List.length_map, List.length_range], fun i x hi => ?_⟩
 have hil : i < len := by have := (List.getElem?_eq_some_iff.1 hi).1; simpa using this
 have : x = X i := by simpa [hil] using hi.symm
 subst this
 exact hX i hil
theorem open_slice_trod {α : Type} {P : α → List Value → Prop} {t e : TypeId} {sz : Nat} (hp : 0 < sz) (ht : Tryz.prog.underlying t = some (.slice e)) (hce : Tryz.prog.cellsOf e = sz)
  (hel : ∀ n cs (z : DataW H × List MemPlace), DataW.trod enc Tryz.prog W 0 (fun _ => true) true n e cs = some z → cs.length = sz → ∃ x, P x cs)
  {fuel : Nat} {cs : List Value} {z : DataW H × List MemPlace} (hf : DataW.trod enc Tryz.prog W 0 (fun _ => true) true fuel t cs = some z) : ∃ v, ∃ l : List α, cs = [v] ∧ SliceOf W sz P v l := by
 rcases Deep.open_slice ht hf with ⟨hcs, _⟩ | ⟨a, len, cap, m, n, D, Pl, hcs, _, hl, hm, hmm, _, hx⟩
 ·exact ⟨_, [], hcs, _, _, rfl, by simp, by simp [maxLen], by simp⟩
 ·simp only [if_true] at hmm
  subst hmm
  obtain ⟨l, hll, hg⟩ := open_elems (P := P) hp hce (hel n) (len := len) (D := fun i => (D i, Pl i)) (fun i hi => hx i (by omega))
  refine ⟨_, l, hcs, some a, _, by rw [hll], by rw [hll]; simpa using hl, hm, fun i x hi => ?_⟩
  obtain ⟨b, off, cs, h1, h2⟩ := hg i x hi
  exact ⟨b, off, cs, by rw [h1], h2⟩
theorem open_slice_val {α : Type} {P : α → List Value → Prop} {t e : TypeId} {sz : Nat} (hp : 0 < sz) (ht : Tryz.prog.underlying t = some (.slice e)) (hce : Tryz.prog.cellsOf e = sz)
  (hel : ∀ n cs (z : DataW H × List MemPlace), DataW.trod enc Tryz.prog W 0 (fun _ => true) true n e cs = some z → cs.length = sz → ∃ x, P x cs)
  {base : Nat} {v : Value} {d : DataW H} {p : List MemPlace} (hv : Value.okWide Tryz.prog W .any base t v) (h : DataW.Trod enc Tryz.prog W 0 (fun _ => true) true t v d p) : ∃ l : List α, SliceOf W sz P v l := by
 obtain ⟨A, len, cap, rfl⟩ := okWide_slice ht hv
 obtain ⟨fuel, hf⟩ := h
 obtain ⟨u, l, hu, hS⟩ := open_slice_trod hp ht hce hel hf
 have : u = .slice A len cap := by simpa [Value.cells] using hu.symm
 subst this
 exact ⟨l, hS⟩
def IntP (x : Int) (cs : List Value) : Prop := cs = [.int .i64 x] ∧ -9223372036854775808 ≤ x ∧ x ≤ 9223372036854775807
theorem int_elem (n : Nat) (cs : List Value) (z : DataW H × List MemPlace) (h : DataW.trod enc Tryz.prog W 0 (fun _ => true) true n 3 cs = some z) (_ : cs.length = 1) : ∃ x, IntP x cs := by
 obtain ⟨q, hq, _, hw⟩ := DataW.trod_int Tryz.underlying3 h
 exact ⟨q, hq, wf_i64 hw⟩
theorem SliceOf.ints {v : Value} {l : List Int} (h : SliceOf W 1 IntP v l) : SliceAt W v 1 l.length (l.map (Value.int .i64)) := by
 obtain ⟨A, cap, hv, h1, h2, hg⟩ := h
 refine ⟨by simp, A, cap, hv, h1, h2, fun j u hj => ?_⟩
 rw [List.getElem?_map] at hj
 cases hx : l[j]? with
 | none => rw [hx] at hj; cases hj
 | some x =>
  rw [hx] at hj
  cases hj
  obtain ⟨b, off, cs, hA, _, _, hP, hc⟩ := hg j x hx
  refine ⟨b, off, hA, ?_⟩
  have := hc 0 (.int .i64 x) (by rw [hP.1]; rfl)
  simpa using this
theorem SliceOf.wf {v : Value} {l : List Int} (h : SliceOf W 1 IntP v l) : ∀ x ∈ l, -9223372036854775808 ≤ x ∧ x ≤ 9223372036854775807 := fun x hx => by
 obtain ⟨A, cap, hv, h1, h2, hg⟩ := h
 obtain ⟨i, hi, rfl⟩ := List.getElem_of_mem hx
 obtain ⟨b, off, cs, _, _, _, hP, _⟩ := hg i _ (List.getElem?_eq_getElem hi)
 exact hP.2
end
end Go.Proofs.YtidlchciehdefaaGreat
/-
 Slices that came in: chapter 13's acts.
-/
namespace Go.Proofs.YtidlchciehdefaaGreat
open Go.ChangeShapes Go.WideShapes Go.ChangeAt Go.RowKit
set_option maxRecDepth 100000

section
variable {H : Type} {enc : TypeId × Value → H} {W : World}
def ActIP (W : World) (a : ActI) (cs : List Value) : Prop := a.ok ∧ ∃ kv, cs = actICells a kv ∧ SliceAt W kv 1 a.keys.length (a.keys.map (Value.int .i64))
theorem actI_elem (n : Nat) (cs : List Value) (z : DataW H × List MemPlace) (h : DataW.trod enc Tryz.prog W 0 (fun _ => true) true n 40 cs = some z) (hlen : cs.length = 20) : ∃ a, ActIP W a cs := by
 have hc0 : Tryz.prog.cellsOf 3 = 1 := by kernel_rfl
 have hc1 : Tryz.prog.cellsOf 35 = 16 := by kernel_rfl
 have hc2 : Tryz.prog.cellsOf 38 = 1 := by kernel_rfl
 obtain ⟨xs, n', _, _, _, hxl, hfld⟩ := DataW.trod_struct Tryz.underlying40 h
 have hxl5 : xs.length = 5 := hxl
 have g0 := hfld 0 _ rfl
 have g1 := hfld 1 _ rfl
 have g2 := hfld 2 _ rfl
 have g3 := hfld 3 _ rfl
 have g4 := hfld 4 _ rfl
 change DataW.trod enc Tryz.prog W 0 (fun _ => true) true n' 3 ((cs.drop 0).take (Tryz.prog.cellsOf 3)) = _ at g0
 change DataW.trod enc Tryz.prog W 0 (fun _ => true) true n' 3 ((cs.drop 1).take (Tryz.prog.cellsOf 3)) = _ at g1
 change DataW.trod enc Tryz.prog W 0 (fun _ => true) true n' 3 ((cs.drop 2).take (Tryz.prog.cellsOf 3)) = _ at g2
 change DataW.trod enc Tryz.prog W 0 (fun _ => true) true n' 38 ((cs.drop 3).take (Tryz.prog.cellsOf 38)) = _ at g3
 change DataW.trod enc Tryz.prog W 0 (fun _ => true) true n' 35 ((cs.drop 4).take (Tryz.prog.cellsOf 35)) = _ at g4
 rw [hc0] at g0 g1 g2
 rw [hc2] at g3
 rw [hc1] at g4
 rw [List.getElem?_eq_getElem (by omega : 0 < xs.length)] at g0
 rw [List.getElem?_eq_getElem (by omega : 1 < xs.length)] at g1
 rw [List.getElem?_eq_getElem (by omega : 2 < xs.length)] at g2
 rw [List.getElem?_eq_getElem (by omega : 3 < xs.length)] at g3
 rw [List.getElem?_eq_getElem (by omega : 4 < xs.length)] at g4
 obtain ⟨q0, hq0, _, _⟩ := DataW.trod_int Tryz.underlying3 g0
 obtain ⟨q1, hq1, _, _⟩ := DataW.trod_int Tryz.underlying3 g1
 obtain ⟨q2, hq2, _, _⟩ := DataW.trod_int Tryz.underlying3 g2
 obtain ⟨kv, keys, hk, hK⟩ := open_slice_trod (P := IntP) (by decide) Tryz.underlying38 hc0 int_elem g3
 obtain ⟨bl, hb1, hb2, hb3⟩ := open_block_trod Tryz.underlying35 Tryz.underlying5 (by kernel_rfl) (by kernel_rfl) g4
 refine ⟨⟨q0, q1, q2, keys, bl⟩, ⟨hb1, hb2⟩, kv, ?_, hK.ints⟩
 have e4 : cs.drop 4 = blockCells bl := by rw [← hb3, List.take_of_length_le (by rw [List.length_drop]; omega)]
 have step : ∀ j, cs.drop j = (cs.drop j).take 1 ++ cs.drop (j + 1) := fun j => by
  have := List.take_append_drop 1 (cs.drop j)
  rw [List.drop_drop] at this
  exact this.symm
 have e : cs = (cs.drop 0).take 1 ++ ((cs.drop 1).take 1 ++ ((cs.drop 2).take 1 ++ ((cs.drop 3).take 1 ++ cs.drop 4))) := by
  rw [← step 3, ← step 2, ← step 1, ← step 0, List.drop_zero]
 rw [e, hq0, hq1, hq2, hk, e4]
 rfl
theorem open_actsI {base : Nat} {v : Value} {d : DataW H} {p : List MemPlace} (hv : Value.okWide Tryz.prog W .any base 22 v) (h : DataW.Trod enc Tryz.prog W 0 (fun _ => true) true 22 v d p) : ∃ l : List ActI, SliceOf W 20 (ActIP W) v l :=
 open_slice_val (by decide) Tryz.underlying22 (by kernel_rfl) actI_elem hv h
theorem acts_in {v : Value} {l : List ActI} (h : SliceOf W 20 (ActIP W) v l) : ActsI W v l := by
 obtain ⟨A, cap, hv, h1, h2, hg⟩ := h
 refine ⟨A, cap, hv, h1, h2, fun i x hx => ?_⟩
 obtain ⟨b, off, cs, hA, hlt, _, ⟨hok, kv, hcs, hS⟩, hc⟩ := hg i x hx
 obtain ⟨hlen, kA, kc, rfl, hk1, hk2, hk3⟩ := hS
 exact ⟨b, off, kA, _, kc, hA, hlt, hok, fun j u hj => hc j u (by rw [hcs]; exact hj), ⟨hlen, kA, kc, rfl, hk1, hk2, hk3⟩⟩
end
end Go.Proofs.YtidlchciehdefaaGreat
