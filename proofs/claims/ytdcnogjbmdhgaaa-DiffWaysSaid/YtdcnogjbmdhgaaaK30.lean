/-
 The frame of a law's proof: from a walk that answers true and writes nothing that was there to the statement's shape; and how arguments are opened.
-/
import Derived.Test.YtdcnogjbmdhgaaaK01
import Derived.Test.YtdcnogjbmdhgaaaK29
import Derived.ProofKit
import Derived.OpenShut
import Derived.ShutString
import Derived.ChangeOld
import Derived.Deep.Slices
import Derived.Test.YtdcnogjbmdhgaaaRows
set_option linter.unusedVariables false
set_option linter.unusedSimpArgs false
namespace Go.Proofs.Ytdcnogjbmdhgaaa
open Go.ChangeShapes Go.WideShapes Go.ChangeAt Go.RowKit

theorem own : ownKnob Try.prog.godebug = none := by kernel_rfl
theorem laidOut : laidOutB Try.prog = true := by kernel_rfl

section
variable {H : Type} {enc : TypeId × Value → H}

theorem trodAll_below {W W' : World} (hb : Below W.heap.size W W') : ∀ (ts : List TypeId) (vs : List Value) (ds : List (DataW H)) (ps : List MemPlace),
  (∀ t ∈ ts, Try.prog.readableRec t = true ∧ t < Try.prog.types.size) →
  DataW.TrodAll enc Try.prog W 0 (fun _ => true) true ts vs ds ps → DataW.TrodAll enc Try.prog W' 0 (fun b => decide (b < W.heap.size)) true ts vs ds ps
 | [], vs, ds, ps, _, h => by
  obtain ⟨rfl, rfl, rfl⟩ := trodAll_nil h
  exact trodAll_mk0
 | t :: ts, vs, ds, ps, ht, h => by
  obtain ⟨v, vs', d, ds', p, q, rfl, rfl, rfl, h0, h1⟩ := trodAll_cons h
  have hlt : ∀ x ∈ p, x.block < W.heap.size := by obtain ⟨m, hm⟩ := h0; exact DataW.trod_lt m _ _ _ hm
  exact trodAll_cons_mk (Below.trod laidOut (ht t (by simp)).1 (ht t (by simp)).2 h0 hb hlt) (trodAll_below hb ts vs' ds' q (fun u hu => ht u (by simp [hu])) h1)

set_option maxRecDepth 100000 in
theorem law_lift (os : Os) (started : os.Started) (F : FuncId) (fn : Func) (hfn : Try.prog.funcs[F]? = some fn) (hin : Try.prog.inits.idxOf? F = none)
  (s : ChangeSpec) (hvars : s.vars = []) (hs : ∀ ds : List (DataW H), ds.length = fn.params.toList.length → s.fn H ds = { results := [.lit (.bool true)], args := ds })
  (hres : fn.resultTypes = #[4]) (hread : (fn.params.toList.all fun t => Try.prog.readableRec t && decide (t < Try.prog.types.size)) = true)
  (wit : ∃ (w : World) (tape : Nat → Question → Nat) (i : Input), w.os = os ∧ World.Shaped Try.prog (w.forCall tape i) ∧ i.vars = [] ∧ Input.okWide Try.prog (w.forCall tape i) Reach.any w.heap.size F i ∧
   ChangeSpec.pre6 enc Try.prog fn s [] false (w.forCall tape i).memory i.args ∧ ({} : Assume).holds Try.prog (lone (Frame.enter Try.prog F i.args CallKind.normal) [] (w.forCall tape i)))
  (walk : ∀ (W : World) (base : Nat) (args : Array Value) (ds : List (DataW H)) (p : List MemPlace),
   (∀ (j : Nat) t v, fn.params[j]? = some t → args[j]? = some v → Value.okWide Try.prog W .any base t v) →
   DataW.TrodAll enc Try.prog W 0 (fun _ => true) true fn.params.toList args.toList ds p →
   Calls Try.prog F args W fun e w' => e = .returned (.bool true) ∧ Below W.heap.size W w') :
  ReturnsInHanded {} Try.checked os F .any (s.pre6 enc Try.prog fn [] false) (s.post enc Try.prog fn false true false false) := by
 refine returnsInHanded_of_change (C := Try.checked) own started hin hfn wit ?_
 intro W base args ds gs before hval hW hcnd _
 have hW' := hW
 obtain ⟨p, q, hA, hV, rfl, hfz, hnd⟩ := hW
 rw [hvars] at hV
 obtain ⟨rfl, rfl⟩ := trodVars_none hV
 refine (walk W base args ds p hval hA).mono fun e W' ⟨he, bel⟩ => ?_
 subst he
 have hlen : ∀ (ts : List TypeId) (vs : List Value) (ds : List (DataW H)) (ps : List MemPlace), DataW.TrodAll enc Try.prog W 0 (fun _ => true) true ts vs ds ps → ds.length = ts.length := by
  intro ts
  induction ts with
  | nil => intro vs ds ps h; obtain ⟨rfl, rfl, rfl⟩ := trodAll_nil h; rfl
  | cons t ts ih =>
   intro vs ds ps h
   obtain ⟨v, vs', d, ds', p, q, rfl, rfl, rfl, h0, h1⟩ := trodAll_cons h
   simp [ih _ _ _ h1]
 have hsp : s.fn H (ds ++ []) = { results := [.lit (.bool true)], args := ds } := by rw [List.append_nil]; exact hs ds (hlen _ _ _ _ hA)
 have hr : DataW.TrodAll enc Try.prog W' W.heap.size (fun _ => false) false fn.resultTypes.toList (Value.resultList fn.resultTypes.size (.bool true)) [.lit (.bool true)] [] := by
  rw [hres]
  exact trodAll_cons_mk (shut_bool Try.underlying4 _) trodAll_mk0
 have ha : DataW.TrodAll enc Try.prog W' 0 (fun b => decide (b < W.heap.size)) true fn.params.toList args.toList ds p := by
  refine trodAll_below bel _ _ _ _ (fun t ht => ?_) hA
  have := List.all_eq_true.1 hread t ht
  simp only [Bool.and_eq_true, decide_eq_true_eq] at this
  exact this
 refine ⟨_, rfl, ds, [], p ++ [], [], p, [], hW', ?_, ?_, ?_, bel.frame _, fun h => by cases h⟩
 ·rw [hsp]; exact hr
 ·rw [hsp]; exact ha
 ·rw [hsp, hvars]; exact rfl
end

def ownFacts (P : Program) (f : FuncId) (fn : Func) (s : ChangeSpec) (c : OpenClaim) : Bool :=
 c.wf (OpenSpec.ofChange s) &&
 fn.params.all (P.readableRec ·) && namedTie P c.named s.vars &&
 (c.stops == []) && (P.stops == []) && (c.knobs == []) && (P.stopKnobs == []) &&
 (c.inPlace == P.inPlace f) && (c.unfollowed == P.unfollowed f) && (c.recurses == P.recurses f) && (c.named == P.varsNamed f) &&
 (c.maps == (fn.params.toList ++ s.plain.varTypes P).any (P.mapsRec ·)) && (c.ifaces == (fn.params.toList ++ s.plain.varTypes P).any (P.ifacesRec ·)) && (c.mapsOut == P.mapsAmong fn.resultTypes.toList) &&
 (c.loops == (fn.params.toList ++ s.plain.varTypes P).any (P.loopsFrom ·)) && (c.wideKeys == (fn.params.toList ++ s.plain.varTypes P ++ fn.resultTypes.toList).any (P.wideKeysFrom ·)) &&
 s.vars.all (P.varReadable ·) && fn.resultTypes.all (fun t => P.readableRec t && decide (t < P.types.size)) && (c.ifacesOut == fn.resultTypes.toList.any (P.ifacesRec ·)) && (c.loopsOut == fn.resultTypes.toList.any (P.loopsFrom ·)) && c.shortTexts.isNone &&
 (c.kinds == if c.domain.isEmpty = true then [] else fn.params.toList.map fun t => match P.underlying t with | some (.int k) => some k | _ => none) && (c.pinned == c.pinnedBy) &&
 (c.veiled == (fn.params.toList ++ s.plain.varTypes P ++ fn.resultTypes.toList).any (P.veiledRec ·)) && c.veiledFits P fn.params.toList (fn.params.toList ++ s.plain.varTypes P ++ fn.resultTypes.toList)
theorem joined_gen (P : Program) (f : FuncId) (fn : Func) (s : ChangeSpec) (c : OpenClaim) (h1 : laidOutB P = true) (h2 : mapsRowed P = true) (h3 : P.plainKeys = true) (h4 : P.stopsHeard = true) (h5 : P.mayEnter = true)
  (h6 : P.liftsFinal = false) (h7 : P.make = some .cut) (hk : c.plainKeys = true) (hl : c.lifted = false) (hm : c.make = .cut) (h : ownFacts P f fn s c = true) : joinedFacts P f fn s c = true := by
 have e1 : (Option.some Make.cut == some Make.cut) = true := by decide
 unfold joinedFacts
 unfold ownFacts at h
 rw [h1, h2, h3, h4, h5, h6, h7, hk, hl, hm, e1]
 simp only [Bool.and_eq_true, beq_self_eq_true, and_true] at h ⊢
 exact h
theorem joined_of (f : FuncId) (fn : Func) (s : ChangeSpec) (c : OpenClaim) (hk : c.plainKeys = true) (hl : c.lifted = false) (hm : c.make = .cut) (h : ownFacts Try.prog f fn s c = true) : joinedFacts Try.prog f fn s c = true :=
 joined_gen _ _ _ _ _ laidOut maps_fact keys_fact heard_fact enter_fact lifts_fact make_fact hk hl hm h

section
variable {H : Type} {enc : TypeId × Value → H} {W : World}

theorem wf_i64 {n : Int} (h : (Lit.int .i64 n).wf = true) : -9223372036854775808 ≤ n ∧ n ≤ 9223372036854775807 := bounds_i64 h
set_option maxRecDepth 100000
structure PairsAt (w : World) (v : Value) (l : List (Int × Int)) : Prop where
 val : ∃ A cap, v = .slice A l.length cap ∧ l.length ≤ cap ∧ cap ≤ maxLen ∧
  ∀ i x, l[i]? = some x → ∃ b off, A = some ⟨b, off, none⟩ ∧ b < w.heap.size ∧ w.cell? ⟨b, off + i * 2, none⟩ = some (.int .i64 x.1) ∧ w.cell? ⟨b, off + i * 2 + 1, none⟩ = some (.int .i64 x.2)
 wf : ∀ x ∈ l, (-9223372036854775808 ≤ x.1 ∧ x.1 ≤ 9223372036854775807) ∧ (-9223372036854775808 ≤ x.2 ∧ x.2 ≤ 9223372036854775807)

theorem open_pairs {t e f1 f2 : TypeId} {fs : Array Field} (ht : Try.prog.underlying t = some (.slice e)) (he : Try.prog.underlying e = some (.struct fs)) (hfs : fs.size = 2)
  (h1 : (fs[0]?).map (fun f => (f.type, f.offset)) = some (f1, 0)) (h2 : (fs[1]?).map (fun f => (f.type, f.offset)) = some (f2, 1)) (hf1 : Try.prog.underlying f1 = some (.int .i64)) (hf2 : Try.prog.underlying f2 = some (.int .i64))
  (hc1 : Try.prog.cellsOf f1 = 1) (hc2 : Try.prog.cellsOf f2 = 1) (hce : Try.prog.cellsOf e = 2)
  {base : Nat} {v : Value} {d : DataW H} {p : List MemPlace} (hv : Value.okWide Try.prog W .any base t v) (h : DataW.Trod enc Try.prog W 0 (fun _ => true) true t v d p) :
  ∃ l, PairsAt W v l := by
 obtain ⟨A, len, cap, rfl⟩ := okWide_slice ht hv
 obtain ⟨fuel, hf⟩ := h
 rcases Deep.open_slice ht hf with ⟨hcs, _⟩ | ⟨a, len', cap', m, n, D, Pl, hcs, _, hl, hm, hmm, _, hx⟩
 ·simp only [Value.cells, List.cons.injEq, and_true] at hcs
  injection hcs with e1 e2 e3
  subst e1 e2 e3
  exact ⟨[], ⟨_, _, rfl, by simp, by simp [maxLen], by simp⟩, by simp⟩
 ·simp only [Value.cells, List.cons.injEq, and_true] at hcs
  injection hcs with e1 e2 e3
  subst e1 e2 e3
  simp only [if_true] at hmm
  subst hmm
  rw [hce] at hx
  have key : ∀ i, i < len → ∃ x : Int × Int, ((-9223372036854775808 ≤ x.1 ∧ x.1 ≤ 9223372036854775807) ∧ (-9223372036854775808 ≤ x.2 ∧ x.2 ≤ 9223372036854775807)) ∧
    ∃ b off, a = ⟨b, off, none⟩ ∧ b < W.heap.size ∧ W.cell? ⟨b, off + i * 2, none⟩ = some (.int .i64 x.1) ∧ W.cell? ⟨b, off + i * 2 + 1, none⟩ = some (.int .i64 x.2) := by
   intro i hi
   obtain ⟨cs', hcs', htr⟩ := hx i (by omega)
   obtain ⟨_, hlen, hcell⟩ := World.cells?_some hcs'
   obtain ⟨xs, n', _, _, _, hxl, hfld⟩ := DataW.trod_struct he htr
   obtain ⟨F1, hF1, e1⟩ : ∃ F, fs[0]? = some F ∧ (F.type, F.offset) = (f1, 0) := by
    cases hq : fs[0]? with
    | none => simp [hq] at h1
    | some F => exact ⟨F, rfl, by simpa [hq] using h1⟩
   obtain ⟨F2, hF2, e2⟩ : ∃ F, fs[1]? = some F ∧ (F.type, F.offset) = (f2, 1) := by
    cases hq : fs[1]? with
    | none => simp [hq] at h2
    | some F => exact ⟨F, rfl, by simpa [hq] using h2⟩
   simp only [Prod.mk.injEq] at e1 e2
   have g1 := hfld 0 F1 hF1
   have g2 := hfld 1 F2 hF2
   rw [e1.1, e1.2, hc1, List.getElem?_eq_getElem (by omega : 0 < xs.length)] at g1
   rw [e2.1, e2.2, hc2, List.getElem?_eq_getElem (by omega : 1 < xs.length)] at g2
   obtain ⟨q1, hq1, _, hw1⟩ := DataW.trod_int hf1 g1
   obtain ⟨q2, hq2, _, hw2⟩ := DataW.trod_int hf2 g2
   have c1 : cs'[0]? = some (.int .i64 q1) := by
    have : (List.take 1 (List.drop 0 cs'))[0]? = some (.int .i64 q1) := by rw [hq1]; rfl
    simpa using this
   have c2 : cs'[1]? = some (.int .i64 q2) := by
    have : (List.take 1 (List.drop 1 cs'))[0]? = some (.int .i64 q2) := by rw [hq2]; rfl
    simpa using this
   have w1 := hcell 0 (by omega)
   have w2 := hcell 1 (by omega)
   rw [c1] at w1
   rw [c2] at w2
   have hz : (a.add (i * 2)).add 0 = a.add (i * 2) := by simp [Addr.add]
   rw [hz] at w1
   obtain ⟨b, off, spot⟩ := a
   have hs : spot = none := by
    obtain ⟨v0, hv0⟩ : ∃ v0, W.cell? ((⟨b, off, spot⟩ : Addr).add 0) = some v0 := by
     obtain ⟨cs0, hcs0, htr0⟩ := hx 0 (by omega)
     obtain ⟨_, hlen0, hcell0⟩ := World.cells?_some hcs0
     have := hcell0 0 (by omega)
     have e : ((⟨b, off, spot⟩ : Addr).add (0 * 2)).add 0 = (⟨b, off, spot⟩ : Addr).add 0 := by simp [Addr.add]
     rw [e, List.getElem?_eq_getElem (by omega)] at this
     exact ⟨_, this⟩
    have := World.cell?_spot hv0
    simpa [Addr.add] using this
   subst hs
   have a1 : (⟨b, off, none⟩ : Addr).add (i * 2) = ⟨b, off + i * 2, none⟩ := by unfold Addr.add; split <;> simp_all
   have a2 : (⟨b, off + i * 2, none⟩ : Addr).add 1 = ⟨b, off + i * 2 + 1, none⟩ := rfl
   rw [a1] at w1 w2
   rw [a2] at w2
   exact ⟨(q1, q2), ⟨wf_i64 hw1, wf_i64 hw2⟩, b, off, rfl, World.block_lt_of_cell? W _ w1, w1, w2⟩
  obtain ⟨X, hX⟩ := Deep.choose_lt key
  refine ⟨(List.range len).map X, ⟨some a, _, by rw [List.length_map, List.length_range], by simpa using hl, hm, ?_⟩, ?_⟩
  ·intro i x hi
   have hil : i < len := by have := (List.getElem?_eq_some_iff.1 hi).1; simpa using this
   have : x = X i := by simpa [hil] using hi.symm
   subst this
   obtain ⟨b, off, ha, hr⟩ := (hX i hil).2
   exact ⟨b, off, by rw [ha], hr⟩
  ·intro x hx'
   simp only [List.mem_map, List.mem_range] at hx'
   obtain ⟨i, hi, rfl⟩ := hx'
   exact (hX i hi).1
end
end Go.Proofs.Ytdcnogjbmdhgaaa
