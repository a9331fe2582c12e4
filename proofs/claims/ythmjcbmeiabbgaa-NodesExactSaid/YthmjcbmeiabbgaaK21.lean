/-
  The frame of a law's proof: from a walk that answers true and writes nothing that was there to the statement's shape; and how arguments are opened.
-/
import Derived.Test.YthmjcbmeiabbgaaK01
import Derived.Test.YthmjcbmeiabbgaaK12
import Derived.Test.YthmjcbmeiabbgaaK16
import Derived.Test.YthmjcbmeiabbgaaK18
import Derived.Test.YthmjcbmeiabbgaaK20
import Derived.ProofKit
import Derived.OpenShut
import Derived.ShutString
import Derived.ChangeOld
import Derived.Deep.Slices
import Derived.Test.YthmjcbmeiabbgaaRows
set_option linter.unusedVariables false
set_option linter.unusedSimpArgs false
namespace Go.Proofs.Ythmjcbmeiabbgaa
open Go.ChangeShapes Go.WideShapes Go.ChangeAt Go.RowKit

theorem own : ownKnob Try.prog.godebug = none := by kernel_rfl
theorem laidOut : laidOutB Try.prog = true := by kernel_rfl

section
variable {H : Type} {enc : TypeId × Value → H}

theorem trodAll_below {W W' : World} (hb : Below W.heap.size W W') : ∀ (ts : List TypeId) (vs : List Value) (ds : List (DataW H)) (ps : List MemPlace),
    (∀ t ∈ ts, Try.prog.readableRec t = true ∧ t < Try.prog.types.size) →
    DataW.TrodAll enc Try.prog W 0 (fun _ => true) true ts vs ds ps → DataW.TrodAll enc Try.prog W' 0 (fun b => decide (b < W.heap.size)) true ts vs ds ps
  | [], vs, ds, ps, _, h => by
    obtain ⟨rfl, rfl, rfl⟩ := trodAll_nil h
    exact trodAll_mk0
  | t :: ts, vs, ds, ps, ht, h => by
    obtain ⟨v, vs', d, ds', p, q, rfl, rfl, rfl, h0, h1⟩ := trodAll_cons h
    have hlt : ∀ x ∈ p, x.block < W.heap.size := by obtain ⟨m, hm⟩ := h0; exact DataW.trod_lt m _ _ _ hm
    exact trodAll_cons_mk (Below.trod laidOut (ht t (by simp)).1 (ht t (by simp)).2 h0 hb hlt) (trodAll_below hb ts vs' ds' q (fun u hu => ht u (by simp [hu])) h1)

set_option maxRecDepth 100000 in
/-- FROM A WALK TO THE ROW's STEP. -/
theorem law_lift (os : Os) (started : os.Started) (F : FuncId) (fn : Func) (hfn : Try.prog.funcs[F]? = some fn) (hin : Try.prog.inits.idxOf? F = none)
    (s : ChangeSpec) (hvars : s.vars = []) (hs : ∀ ds : List (DataW H), ds.length = fn.params.toList.length → s.fn H ds = { results := [.lit (.bool true)], args := ds })
    (hres : fn.resultTypes = #[4]) (hread : (fn.params.toList.all fun t => Try.prog.readableRec t && decide (t < Try.prog.types.size)) = true)
    (wit : ∃ (w : World) (tape : Nat → Question → Nat) (i : Input), w.os = os ∧ World.Shaped Try.prog (w.forCall tape i) ∧ i.vars = [] ∧ Input.okWide Try.prog (w.forCall tape i) Reach.any w.heap.size F i ∧
      ChangeSpec.pre6 enc Try.prog fn s [] false (w.forCall tape i).memory i.args ∧ ({} : Assume).holds Try.prog (lone (Frame.enter Try.prog F i.args CallKind.normal) [] (w.forCall tape i)))
    (walk : ∀ (W : World) (base : Nat) (args : Array Value) (ds : List (DataW H)) (p : List MemPlace),
      (∀ (j : Nat) t v, fn.params[j]? = some t → args[j]? = some v → Value.okWide Try.prog W .any base t v) →
      DataW.TrodAll enc Try.prog W 0 (fun _ => true) true fn.params.toList args.toList ds p →
      Calls Try.prog F args W fun e w' => e = .returned (.bool true) ∧ Below W.heap.size W w') :
    ReturnsInHanded {} Try.checked os F .any (s.pre6 enc Try.prog fn [] false) (s.post enc Try.prog fn false true false false) := by
  refine returnsInHanded_of_change (C := Try.checked) own started hin hfn wit ?_
  intro W base args ds gs before hval hW hcnd _
  have hW' := hW
  obtain ⟨p, q, hA, hV, rfl, hfz, hnd⟩ := hW
  rw [hvars] at hV
  obtain ⟨rfl, rfl⟩ := trodVars_none hV
  refine (walk W base args ds p hval hA).mono fun e W' ⟨he, bel⟩ => ?_
  subst he
  have hlen : ∀ (ts : List TypeId) (vs : List Value) (ds : List (DataW H)) (ps : List MemPlace), DataW.TrodAll enc Try.prog W 0 (fun _ => true) true ts vs ds ps → ds.length = ts.length := by
    intro ts
    induction ts with
    | nil => intro vs ds ps h; obtain ⟨rfl, rfl, rfl⟩ := trodAll_nil h; rfl
    | cons t ts ih =>
      intro vs ds ps h
      obtain ⟨v, vs', d, ds', p, q, rfl, rfl, rfl, h0, h1⟩ := trodAll_cons h
      simp [ih _ _ _ h1]
  have hsp : s.fn H (ds ++ []) = { results := [.lit (.bool true)], args := ds } := by rw [List.append_nil]; exact hs ds (hlen _ _ _ _ hA)
  have hr : DataW.TrodAll enc Try.prog W' W.heap.size (fun _ => false) false fn.resultTypes.toList (Value.resultList fn.resultTypes.size (.bool true)) [.lit (.bool true)] [] := by
    rw [hres]
    exact trodAll_cons_mk (shut_bool Try.underlying4 _) trodAll_mk0
  have ha : DataW.TrodAll enc Try.prog W' 0 (fun b => decide (b < W.heap.size)) true fn.params.toList args.toList ds p := by
    refine trodAll_below bel _ _ _ _ (fun t ht => ?_) hA
    have := List.all_eq_true.1 hread t ht
    simp only [Bool.and_eq_true, decide_eq_true_eq] at this
    exact this
  refine ⟨_, rfl, ds, [], p ++ [], [], p, [], hW', ?_, ?_, ?_, bel.frame _, fun h => by cases h⟩
  · rw [hsp]; exact hr
  · rw [hsp]; exact ha
  · rw [hsp, hvars]; exact rfl
end

/-- What a row's closed cells ask of its own function: all but what the whole program answers. -/
def ownFacts (P : Program) (f : FuncId) (fn : Func) (s : ChangeSpec) (c : OpenClaim) : Bool :=
  c.wf (OpenSpec.ofChange s) &&
  fn.params.all (P.readableRec ·) && namedTie P c.named s.vars &&
  (c.stops == []) && (P.stops == []) && (c.knobs == []) && (P.stopKnobs == []) &&
  (c.inPlace == P.inPlace f) && (c.unfollowed == P.unfollowed f) && (c.recurses == P.recurses f) && (c.named == P.varsNamed f) &&
  (c.maps == (fn.params.toList ++ s.plain.varTypes P).any (P.mapsRec ·)) && (c.ifaces == (fn.params.toList ++ s.plain.varTypes P).any (P.ifacesRec ·)) && (c.mapsOut == P.mapsAmong fn.resultTypes.toList) &&
  (c.loops == (fn.params.toList ++ s.plain.varTypes P).any (P.loopsFrom ·)) && (c.wideKeys == (fn.params.toList ++ s.plain.varTypes P ++ fn.resultTypes.toList).any (P.wideKeysFrom ·)) &&
  s.vars.all (P.varReadable ·) && fn.resultTypes.all (fun t => P.readableRec t && decide (t < P.types.size)) && (c.ifacesOut == fn.resultTypes.toList.any (P.ifacesRec ·)) && (c.loopsOut == fn.resultTypes.toList.any (P.loopsFrom ·)) && c.shortTexts.isNone &&
  (c.kinds == if c.domain.isEmpty = true then [] else fn.params.toList.map fun t => match P.underlying t with | some (.int k) => some k | _ => none) && (c.pinned == c.pinnedBy) &&
  (c.veiled == (fn.params.toList ++ s.plain.varTypes P ++ fn.resultTypes.toList).any (P.veiledRec ·)) && c.veiledFits P fn.params.toList (fn.params.toList ++ s.plain.varTypes P ++ fn.resultTypes.toList)
theorem joined_gen (P : Program) (f : FuncId) (fn : Func) (s : ChangeSpec) (c : OpenClaim) (h1 : laidOutB P = true) (h2 : mapsRowed P = true) (h3 : P.plainKeys = true) (h4 : P.stopsHeard = true) (h5 : P.mayEnter = true)
    (h6 : P.liftsFinal = false) (h7 : P.make = some .cut) (hk : c.plainKeys = true) (hl : c.lifted = false) (hm : c.make = .cut) (h : ownFacts P f fn s c = true) : joinedFacts P f fn s c = true := by
  have e1 : (Option.some Make.cut == some Make.cut) = true := by decide
  unfold joinedFacts
  unfold ownFacts at h
  rw [h1, h2, h3, h4, h5, h6, h7, hk, hl, hm, e1]
  simp only [Bool.and_eq_true, beq_self_eq_true, and_true] at h ⊢
  exact h
theorem joined_of (f : FuncId) (fn : Func) (s : ChangeSpec) (c : OpenClaim) (hk : c.plainKeys = true) (hl : c.lifted = false) (hm : c.make = .cut) (h : ownFacts Try.prog f fn s c = true) : joinedFacts Try.prog f fn s c = true :=
  joined_gen _ _ _ _ _ laidOut maps_fact keys_fact heard_fact enter_fact lifts_fact make_fact hk hl hm h

section
variable {H : Type} {enc : TypeId × Value → H} {W : World}

theorem wf_i64 {n : Int} (h : (Lit.int .i64 n).wf = true) : -9223372036854775808 ≤ n ∧ n ≤ 9223372036854775807 := bounds_i64 h
theorem wf_u8 {n : Int} (h : (Lit.int .u8 n).wf = true) : 0 ≤ n ∧ n ≤ 255 := bounds_u8 h

set_option maxRecDepth 100000
/-- An array of bytes that came in. -/
theorem open_bytes {t e : TypeId} {n : Nat} (ht : Try.prog.underlying t = some (.array n e)) (he : Try.prog.underlying e = some (.int .u8)) (hc : Try.prog.cellsOf e = 1) (hn : Try.prog.cellsOf t = n)
    {base : Nat} {v : Value} {d : DataW H} {p : List MemPlace} (hv : Value.okWide Try.prog W .any base t v) (h : DataW.Trod enc Try.prog W 0 (fun _ => true) true t v d p) :
    ∃ c : Nat → Nat, v = .agg ((List.range n).map fun i => Value.int .u8 (c i)).toArray ∧ (∀ i, c i ≤ 255) ∧ ∀ i, n ≤ i → c i = 0 := by
  unfold Value.okWide at hv
  rw [ht] at hv
  obtain ⟨cs, rfl, hsz, _⟩ := hv
  obtain ⟨fuel, hf⟩ := h
  obtain ⟨xs, m, _, _, hlen, hxl, hx⟩ := DataW.trod_array ht hf
  rw [hn] at hlen
  have key : ∀ i, i < n → ∃ k : Nat, k ≤ 255 ∧ cs.toList[i]? = some (.int .u8 k) := by
    intro i hi
    have h1 := hx i hi
    rw [hc, Nat.mul_one, List.getElem?_eq_getElem (by omega : i < xs.length)] at h1
    obtain ⟨q, hq, _, hw⟩ := DataW.trod_int he h1
    have hb := wf_u8 hw
    obtain ⟨k, rfl⟩ := Int.eq_ofNat_of_zero_le hb.1
    refine ⟨k, by omega, ?_⟩
    have hcells : (Value.agg cs).cells.toList = cs.toList := rfl
    rw [hcells] at hq
    have : (List.take 1 (List.drop i cs.toList))[0]? = some (.int .u8 k) := by rw [hq]; rfl
    simpa using this
  obtain ⟨c, hcc⟩ := Deep.choose_lt (α := Nat) (p := fun i k => k ≤ 255 ∧ cs.toList[i]? = some (.int .u8 k)) key
  refine ⟨fun i => if i < n then c i else 0, ?_, fun i => by dsimp only; split; exact (hcc i ‹_›).1; omega, fun i hi => by dsimp only; rw [if_neg (by omega)]⟩
  congr 1
  apply Array.ext'
  apply List.ext_getElem?
  intro i
  by_cases hi : i < n
  · rw [(hcc i hi).2]
    simp [hi]
  · have h1 : cs.toList.length = n := hlen
    rw [List.getElem?_eq_none (by omega), List.getElem?_eq_none (by simp; omega)]

/-- A slice of structs of two ints that came in, as a list of pairs. -/
structure PairsAt (w : World) (v : Value) (l : List (Int × Int)) : Prop where
  val : ∃ A cap, v = .slice A l.length cap ∧ l.length ≤ cap ∧ cap ≤ maxLen ∧
    ∀ i x, l[i]? = some x → ∃ b off, A = some ⟨b, off, none⟩ ∧ b < w.heap.size ∧ w.cell? ⟨b, off + i * 2, none⟩ = some (.int .i64 x.1) ∧ w.cell? ⟨b, off + i * 2 + 1, none⟩ = some (.int .i64 x.2)
  wf : ∀ x ∈ l, (-9223372036854775808 ≤ x.1 ∧ x.1 ≤ 9223372036854775807) ∧ (-9223372036854775808 ≤ x.2 ∧ x.2 ≤ 9223372036854775807)

theorem addr_spot {w : World} {A : Addr} {v : Value} {k : Nat} (h : w.cell? (A.add k) = some v) : A.spot = none ∨ k ≠ 0 := by
  by_cases hk : k = 0
  · subst hk
    exact .inl (by simpa [Addr.add] using World.cell?_spot h)
  · exact .inr hk

theorem open_pairs {t e f1 f2 : TypeId} {fs : Array Field} (ht : Try.prog.underlying t = some (.slice e)) (he : Try.prog.underlying e = some (.struct fs)) (hfs : fs.size = 2)
    (h1 : (fs[0]?).map (fun f => (f.type, f.offset)) = some (f1, 0)) (h2 : (fs[1]?).map (fun f => (f.type, f.offset)) = some (f2, 1)) (hf1 : Try.prog.underlying f1 = some (.int .i64)) (hf2 : Try.prog.underlying f2 = some (.int .i64))
    (hc1 : Try.prog.cellsOf f1 = 1) (hc2 : Try.prog.cellsOf f2 = 1) (hce : Try.prog.cellsOf e = 2)
    {base : Nat} {v : Value} {d : DataW H} {p : List MemPlace} (hv : Value.okWide Try.prog W .any base t v) (h : DataW.Trod enc Try.prog W 0 (fun _ => true) true t v d p) :
    ∃ l, PairsAt W v l := by
  obtain ⟨A, len, cap, rfl⟩ := okWide_slice ht hv
  obtain ⟨fuel, hf⟩ := h
  rcases Deep.open_slice ht hf with ⟨hcs, _⟩ | ⟨a, len', cap', m, n, D, Pl, hcs, _, hl, hm, hmm, _, hx⟩
  · simp only [Value.cells, List.cons.injEq, and_true] at hcs
    injection hcs with e1 e2 e3
    subst e1 e2 e3
    exact ⟨[], ⟨_, _, rfl, by simp, by simp [maxLen], by simp⟩, by simp⟩
  · simp only [Value.cells, List.cons.injEq, and_true] at hcs
    injection hcs with e1 e2 e3
    subst e1 e2 e3
    simp only [if_true] at hmm
    subst hmm
    rw [hce] at hx
    have key : ∀ i, i < len → ∃ x : Int × Int, ((-9223372036854775808 ≤ x.1 ∧ x.1 ≤ 9223372036854775807) ∧ (-9223372036854775808 ≤ x.2 ∧ x.2 ≤ 9223372036854775807)) ∧
        ∃ b off, a = ⟨b, off, none⟩ ∧ b < W.heap.size ∧ W.cell? ⟨b, off + i * 2, none⟩ = some (.int .i64 x.1) ∧ W.cell? ⟨b, off + i * 2 + 1, none⟩ = some (.int .i64 x.2) := by
      intro i hi
      obtain ⟨cs', hcs', htr⟩ := hx i (by omega)
      obtain ⟨_, hlen, hcell⟩ := World.cells?_some hcs'
      obtain ⟨xs, n', _, _, _, hxl, hfld⟩ := DataW.trod_struct he htr
      obtain ⟨F1, hF1, e1⟩ : ∃ F, fs[0]? = some F ∧ (F.type, F.offset) = (f1, 0) := by
        cases hq : fs[0]? with
        | none => simp [hq] at h1
        | some F => exact ⟨F, rfl, by simpa [hq] using h1⟩
      obtain ⟨F2, hF2, e2⟩ : ∃ F, fs[1]? = some F ∧ (F.type, F.offset) = (f2, 1) := by
        cases hq : fs[1]? with
        | none => simp [hq] at h2
        | some F => exact ⟨F, rfl, by simpa [hq] using h2⟩
      simp only [Prod.mk.injEq] at e1 e2
      have g1 := hfld 0 F1 hF1
      have g2 := hfld 1 F2 hF2
      rw [e1.1, e1.2, hc1, List.getElem?_eq_getElem (by omega : 0 < xs.length)] at g1
      rw [e2.1, e2.2, hc2, List.getElem?_eq_getElem (by omega : 1 < xs.length)] at g2
      obtain ⟨q1, hq1, _, hw1⟩ := DataW.trod_int hf1 g1
      obtain ⟨q2, hq2, _, hw2⟩ := DataW.trod_int hf2 g2
      have c1 : cs'[0]? = some (.int .i64 q1) := by
        have : (List.take 1 (List.drop 0 cs'))[0]? = some (.int .i64 q1) := by rw [hq1]; rfl
        simpa using this
      have c2 : cs'[1]? = some (.int .i64 q2) := by
        have : (List.take 1 (List.drop 1 cs'))[0]? = some (.int .i64 q2) := by rw [hq2]; rfl
        simpa using this
      have w1 := hcell 0 (by omega)
      have w2 := hcell 1 (by omega)
      rw [c1] at w1
      rw [c2] at w2
      have hz : (a.add (i * 2)).add 0 = a.add (i * 2) := by simp [Addr.add]
      rw [hz] at w1
      obtain ⟨b, off, spot⟩ := a
      have hs : spot = none := by
        obtain ⟨v0, hv0⟩ : ∃ v0, W.cell? ((⟨b, off, spot⟩ : Addr).add 0) = some v0 := by
          obtain ⟨cs0, hcs0, htr0⟩ := hx 0 (by omega)
          obtain ⟨_, hlen0, hcell0⟩ := World.cells?_some hcs0
          have := hcell0 0 (by omega)
          have e : ((⟨b, off, spot⟩ : Addr).add (0 * 2)).add 0 = (⟨b, off, spot⟩ : Addr).add 0 := by simp [Addr.add]
          rw [e, List.getElem?_eq_getElem (by omega)] at this
          exact ⟨_, this⟩
        have := World.cell?_spot hv0
        simpa [Addr.add] using this
      subst hs
      have a1 : (⟨b, off, none⟩ : Addr).add (i * 2) = ⟨b, off + i * 2, none⟩ := by unfold Addr.add; split <;> simp_all
      have a2 : (⟨b, off + i * 2, none⟩ : Addr).add 1 = ⟨b, off + i * 2 + 1, none⟩ := rfl
      rw [a1] at w1 w2
      rw [a2] at w2
      exact ⟨(q1, q2), ⟨wf_i64 hw1, wf_i64 hw2⟩, b, off, rfl, World.block_lt_of_cell? W _ w1, w1, w2⟩
    obtain ⟨X, hX⟩ := Deep.choose_lt key
    refine ⟨(List.range len).map X, ⟨some a, _, by rw [List.length_map, List.length_range], by simpa using hl, hm, ?_⟩, ?_⟩
    · intro i x hi
      have hil : i < len := by have := (List.getElem?_eq_some_iff.1 hi).1; simpa using this
      have : x = X i := by simpa [hil] using hi.symm
      subst this
      obtain ⟨b, off, ha, hr⟩ := (hX i hil).2
      exact ⟨b, off, by rw [ha], hr⟩
    · intro x hx'
      simp only [List.mem_map, List.mem_range] at hx'
      obtain ⟨i, hi, rfl⟩ := hx'
      exact (hX i hi).1
/-- A slice of ints that came in. -/
structure IntsAt (w : World) (v : Value) (l : List Int) : Prop where
  val : ∃ A cap, v = .slice A l.length cap ∧ l.length ≤ cap ∧ cap ≤ maxLen ∧
    ∀ i x, l[i]? = some x → ∃ b off, A = some ⟨b, off, none⟩ ∧ b < w.heap.size ∧ w.cell? ⟨b, off + i, none⟩ = some (.int .i64 x)
  wf : ∀ x ∈ l, -9223372036854775808 ≤ x ∧ x ≤ 9223372036854775807
theorem open_ints {t e : TypeId} (ht : Try.prog.underlying t = some (.slice e)) (he : Try.prog.underlying e = some (.int .i64)) (hce : Try.prog.cellsOf e = 1)
    {base : Nat} {v : Value} {d : DataW H} {p : List MemPlace} (hv : Value.okWide Try.prog W .any base t v) (h : DataW.Trod enc Try.prog W 0 (fun _ => true) true t v d p) :
    ∃ l, IntsAt W v l := by
  obtain ⟨A, len, cap, rfl⟩ := okWide_slice ht hv
  obtain ⟨fuel, hf⟩ := h
  rcases Deep.open_slice ht hf with ⟨hcs, _⟩ | ⟨a, len', cap', m, n, D, Pl, hcs, _, hl, hm, hmm, _, hx⟩
  · simp only [Value.cells, List.cons.injEq, and_true] at hcs
    injection hcs with e1 e2 e3
    subst e1 e2 e3
    exact ⟨[], ⟨_, _, rfl, by simp, by simp [maxLen], by simp⟩, by simp⟩
  · simp only [Value.cells, List.cons.injEq, and_true] at hcs
    injection hcs with e1 e2 e3
    subst e1 e2 e3
    simp only [if_true] at hmm
    subst hmm
    rw [hce] at hx
    have key : ∀ i, i < len → ∃ x : Int, (-9223372036854775808 ≤ x ∧ x ≤ 9223372036854775807) ∧
        ∃ b off, a = ⟨b, off, none⟩ ∧ b < W.heap.size ∧ W.cell? ⟨b, off + i, none⟩ = some (.int .i64 x) := by
      intro i hi
      obtain ⟨cs', hcs', htr⟩ := hx i (by omega)
      obtain ⟨_, hlen, hcell⟩ := World.cells?_some hcs'
      obtain ⟨q, hq, _, hw⟩ := DataW.trod_int he htr
      have w1 := hcell 0 (by omega)
      have c1 : cs'[0]? = some (.int .i64 q) := by rw [hq]; rfl
      rw [c1] at w1
      have hz : (a.add (i * 1)).add 0 = a.add (i * 1) := by simp [Addr.add]
      rw [hz, Nat.mul_one] at w1
      obtain ⟨b, off, spot⟩ := a
      have hs : spot = none := by
        obtain ⟨v0, hv0⟩ : ∃ v0, W.cell? ((⟨b, off, spot⟩ : Addr).add 0) = some v0 := by
          obtain ⟨cs0, hcs0, htr0⟩ := hx 0 (by omega)
          obtain ⟨_, hlen0, hcell0⟩ := World.cells?_some hcs0
          have := hcell0 0 (by omega)
          have e : ((⟨b, off, spot⟩ : Addr).add (0 * 1)).add 0 = (⟨b, off, spot⟩ : Addr).add 0 := by simp [Addr.add]
          rw [e, List.getElem?_eq_getElem (by omega)] at this
          exact ⟨_, this⟩
        have := World.cell?_spot hv0
        simpa [Addr.add] using this
      subst hs
      have a1 : (⟨b, off, none⟩ : Addr).add i = ⟨b, off + i, none⟩ := by unfold Addr.add; split <;> simp_all
      rw [a1] at w1
      exact ⟨q, wf_i64 hw, b, off, rfl, World.block_lt_of_cell? W _ w1, w1⟩
    obtain ⟨X, hX⟩ := Deep.choose_lt key
    refine ⟨(List.range len).map X, ⟨some a, _, by rw [List.length_map, List.length_range], by simpa using hl, hm, ?_⟩, ?_⟩
    · intro i x hi
      have hil : i < len := by have := (List.getElem?_eq_some_iff.1 hi).1; simpa using this
      have : x = X i := by simpa [hil] using hi.symm
      subst this
      obtain ⟨b, off, ha, hr⟩ := (hX i hil).2
      exact ⟨b, off, by rw [ha], hr⟩
    · intro x hx'
      simp only [List.mem_map, List.mem_range] at hx'
      obtain ⟨i, hi, rfl⟩ := hx'
      exact (hX i hi).1
end
end Go.Proofs.Ythmjcbmeiabbgaa
/-
  The document's answer: are two lists of entries the same?
-/
namespace Go.Proofs.Ythmjcbmeiabbgaa
open Go.RowKit
set_option maxRecDepth 100000

theorem run_equalIn_entry (d : Nat) (p q : Int × Int) (w : World) : (Op.equalIn (d + 2) 35 (.agg #[.int .i64 p.1, .int .i64 p.2]) (.agg #[.int .i64 q.1, .int .i64 q.2])).run Try.prog w = .ok (decide (p = q)) w := by
  obtain ⟨p1, p2⟩ := p
  obtain ⟨q1, q2⟩ := q
  have hi : ∀ w, (isAgg 3).run Try.prog w = .ok false w := fun w => by
    unfold isAgg
    rw [Sem.run_bind, run_underlying Try.underlying3 w]
    rfl
  have hS : Try.prog.underlying 35 = some (.struct (Try.prog.fieldsOf 35)) := by kernel_rfl
  have hp : Try.prog.stoodInHeld 35 = false := by kernel_rfl
  have hq : ∀ (a b : Int) w, (Op.equalIn (d + 1) 3 (.int .i64 a) (.int .i64 b)).run Try.prog w = .ok (a == b) w := fun a b w => run_equalIn_int w d 3 .i64 .i64 a b Try.underlying3
  rw [run_equalIn_struct w (d + 1) 35 _ _ hS hp]
  simp only [Program.fieldsOf, Try.underlying35]
  by_cases h1 : p1 = q1
  · by_cases h2 : p2 = q2
    · simp [Op.eqFields, part, hi, hq, h1, h2]
    · simp [Op.eqFields, part, hi, hq, h1, h2]
  · simp [Op.eqFields, part, hi, hq, h1]
theorem exec_neq_entry {o : Oper} {a : Act} {x y : Operand} {u : TypeId} (ho : o.op = .binOp .neq 35 x y u) (p q : Int × Int) (hx : a.eval x = .agg #[.int .i64 p.1, .int .i64 p.2]) (hy : a.eval y = .agg #[.int .i64 q.1, .int .i64 q.2]) (w : World) :
    (execOp a.eval o).run Try.prog w = .ok (.value (.bool (!decide (p = q)))) w := by
  unfold execOp
  have hm : Try.prog.eqGuardType Try.prog.depth 35 = false := by kernel_rfl
  have he := run_equalIn_entry 9998 p q w
  simp only [ho, hx, hy, Sem.run_bind, run_eqGuard_agg (hm := hm), Result.andThen_ok, run_neq_struct, he]
  rfl

set_option maxHeartbeats 4000000 in
theorem same10 {w : World} {va vb : Value} {a b : List (Int × Int)} (ha : EntsAt w va a) (hb : EntsAt w vb b) (hla : a.length ≤ 1000000) :
    Calls Try.prog 17 #[va, vb] w fun e w' => e = .returned (.bool (decide (a = b))) ∧ Kept (fun _ => False) w w' := by
  obtain ⟨Aa, ca, rfl, ha1, ha2⟩ := ha.form
  obtain ⟨Ab, cb, rfl, hb1, hb2⟩ := hb.form
  unfold maxLen at ha2 hb2
  by_cases hlen : a.length = b.length
  · have hb' : EntsAt w (.slice Ab a.length cb) b := by rw [hlen]; exact hb
    have hr : Hid ((∀ k, k < a.length → a[k]? = b[k]?) → a = b) := Lib.hid (fun h => List.ext_getElem? fun k => by
      by_cases hk : k < a.length
      · exact h k hk
      · rw [List.getElem?_eq_none (by omega), List.getElem?_eq_none (by omega)])
    have hn : Hid (∀ (k : Nat) (x y : Int × Int), a[k]? = some x → b[k]? = some y → x ≠ y → a ≠ b) := Lib.hid (fun k x y hx hy hne e => by subst e; rw [hx] at hy; cases hy; exact hne rfl)
    have hlb : Hid (∀ k, k < a.length → ∃ y, b[k]? = some y) := Lib.hid (fun k hk => ⟨_, List.getElem?_eq_getElem (by omega)⟩)
    rw [← hlen] at hb1 ⊢
    have ha' := Lib.hid ha
    have hb'' := Lib.hid hb'
    clear ha hb hb' hlen
    go_enter Try.func17, Try.ntmps17
    go_wp2_with fail
    go_loopw [13] (fun i wr => ∃ k : Nat, k ≤ a.length ∧ i = .int .i64 k ∧ Hid (∀ j, j < k → a[j]? = b[j]?) ∧ Kept (fun _ => False) w wr) (fun i _ => a.length - (intOf i).toNat)
    case atStart => exact ⟨0, Nat.zero_le _, rfl, Lib.hid (fun j hj => by omega), Kept.refl _ _⟩
    case round =>
      obtain ⟨k, hk, rfl, hpre, hkk⟩ := hrel
      by_cases hlt : k < a.length
      · obtain ⟨x, hx⟩ : ∃ x, a[k]? = some x := ⟨_, List.getElem?_eq_getElem hlt⟩
        obtain ⟨y, hy⟩ := hlb.out k hlt
        obtain ⟨ba, oa, rfl, hba, hx1, hx2⟩ := EntsAt.get (SliceAt.fresh ha'.out hkk) hx
        obtain ⟨bb, ob, rfl, hbb, hy1, hy2⟩ := EntsAt.get (SliceAt.fresh hb''.out hkk) hy
        have hki : (k : Int) < (a.length : Int) := by omega
        have lx : Hid (∀ W, Kept (fun _ => False) wr W → ∀ j v, [Value.int .i64 x.1, .int .i64 x.2][j]? = some v → W.cell? ⟨ba, oa + k * 2 + j, none⟩ = some v) := Lib.hid (fun W hW j v hj => by
          match j, hj with
          | 0, hj => cases hj; exact hW.cell hx1 id
          | 1, hj => cases hj; exact hW.cell hx2 id)
        have ly : Hid (∀ W, Kept (fun _ => False) wr W → ∀ j v, [Value.int .i64 y.1, .int .i64 y.2][j]? = some v → W.cell? ⟨bb, ob + k * 2 + j, none⟩ = some v) := Lib.hid (fun W hW j v hj => by
          match j, hj with
          | 0, hj => cases hj; exact hW.cell hy1 id
          | 1, hj => cases hj; exact hW.cell hy2 id)
        have hx' := Lib.hid hx
        have hy' := Lib.hid hy
        have hkk' := Lib.hid hkk
        clear hx hy hx1 hx2 hy1 hy2 hkk
        go_wp2_with fail
        refine wp_region_quiet (C := fun w' => Kept (fun _ => False) wr w') (by kernel_rfl) (by kernel_rfl) (Kept.refl _ _).drew ?_
        refine wpQuiet_step (fun K hK => ?_); go_simp; refine ⟨_, fun _ _ => rfl, hK _ ?_⟩; clear hK K
        refine wpQuiet_step (fun K hK => ?_); go_simp; refine ⟨_, fun _ _ => rfl, hK _ ?_⟩; clear hK K
        refine wpQuiet_step (fun K hK => ?_); go_simp; refine ⟨_, fun _ _ => rfl, hK _ ?_⟩; clear hK K
        refine wpQuiet_step (fun K hK => ?_); refine q_on rfl (q_val (.agg [Value.int .i64 x.1, .int .i64 x.2].toArray) (fun W hW => exec_load_agg (g := ba) (off := oa + k * 2) rfl rfl [.int .i64 x.1, .int .i64 x.2] Try.underlying35 rfl (by kernel_rfl) (lx.out W hW)) (hK _ ?_)); clear hK K
        refine wpQuiet_step (fun K hK => ?_); go_simp; refine ⟨_, fun _ _ => rfl, hK _ ?_⟩; clear hK K
        refine wpQuiet_step (fun K hK => ?_); go_simp; refine ⟨_, fun _ _ => rfl, hK _ ?_⟩; clear hK K
        refine wpQuiet_step (fun K hK => ?_); go_simp; refine ⟨_, fun _ _ => rfl, hK _ ?_⟩; clear hK K
        refine wpQuiet_step (fun K hK => ?_); refine q_on rfl (q_val (.agg [Value.int .i64 y.1, .int .i64 y.2].toArray) (fun W hW => exec_load_agg (g := bb) (off := ob + k * 2) rfl rfl [.int .i64 y.1, .int .i64 y.2] Try.underlying35 rfl (by kernel_rfl) (ly.out W hW)) (hK _ ?_)); clear hK K
        obtain ⟨z, hz⟩ : ∃ z, decide (x = y) = z := ⟨_, rfl⟩
        refine wpQuiet_step (fun K hK => ?_); refine q_on rfl (q_val (.bool (!z)) (fun W hW => by rw [← hz]; exact exec_neq_entry rfl x y rfl rfl W) (hK _ ?_)); clear hK K
        refine wpQuiet_nil ?_
        intro w9 hw9
        have hw9' := Lib.hid hw9
        clear hw9 lx ly
        cases z with
        | true =>
          have hxy := of_decide_eq_true hz
          clear hz
          go_wp2_with fail
          go_roundw
          case rel => exact ⟨k + 1, by omega, by go_num, Lib.hid (fun j hj => by
            by_cases e : j = k
            · rw [e, hx'.out, hy'.out, hxy]
            · exact hpre.out j (by omega)), hkk'.out.trans hw9'.out⟩
          case measure => simp [intOf]; omega
        | false =>
          have he : Hid (decide (a = b) = false) := Lib.hid (by rw [decide_eq_false_iff_not]; exact hn.out k x y hx'.out hy'.out (of_decide_eq_false hz))
          clear hz
          go_wp2_with fail
          go_ret
          exact ⟨by rw [he.out]; rfl, hkk'.out.trans hw9'.out⟩
      · obtain rfl : k = a.length := by omega
        have he : Hid (decide (a = b) = true) := Lib.hid (by simpa using hr.out hpre.out)
        go_wp2_with fail
        go_ret
        exact ⟨by rw [he.out]; rfl, hkk⟩
  · have he : Hid (decide (a = b) = false) := Lib.hid (by rw [decide_eq_false_iff_not]; exact fun e => hlen (by rw [e]))
    clear ha hb
    go_enter Try.func17, Try.ntmps17
    go_wp2_with fail
    go_ret
    exact ⟨by rw [he.out]; rfl, Kept.refl _ _⟩
end Go.Proofs.Ythmjcbmeiabbgaa
/-
  The document's answer for nodes: which can be, which are the same.
-/
namespace Go.Proofs.Ythmjcbmeiabbgaa
open Go.RowKit
set_option maxRecDepth 100000

theorem exec_neq_block {o : Oper} {a : Act} {w : World} {x y : Operand} {u : TypeId} (ho : o.op = .binOp .neq 30 x y u) (l m : List Nat) (hx : a.eval x = .agg (blockCells l).toArray) (hy : a.eval y = .agg (blockCells m).toArray) :
    (execOp a.eval o).run Try.prog w = .ok (.value (.bool (!((List.range 16).all fun i => ((l.getD i 0 : Nat) : Int) == ((m.getD i 0 : Nat) : Int))))) w := by
  have hm : Try.prog.eqGuardType Try.prog.depth 30 = false := by kernel_rfl
  have h := run_neq_arr (P := Try.prog) (t := 30) (e := 5) (k := .u8) (len := 16) Try.underlying30 Try.underlying5 (by kernel_rfl) (fun i => ((l.getD i 0 : Nat) : Int)) (fun i => ((m.getD i 0 : Nat) : Int)) w
  unfold execOp
  simp only [ho, hx, hy, Sem.run_bind, run_eqGuard_agg (hm := hm), Result.andThen_ok, blockCells, h]
  rfl
theorem exec_neq_zero {o : Oper} {a : Act} {w : World} {x y : Operand} {u : TypeId} (ho : o.op = .binOp .neq 30 x y u) (l : List Nat) (hx : a.eval x = .agg (blockCells l).toArray) (hy : a.eval y = .agg (blockCells []).toArray) {z : Bool} (hz : zeroB l = z) :
    (execOp a.eval o).run Try.prog w = .ok (.value (.bool (!z))) w := by
  rw [exec_neq_block ho l [] hx hy]
  unfold zeroB at hz
  have : (List.range 16).all (fun i => ((l.getD i 0 : Nat) : Int) == ((([] : List Nat).getD i 0 : Nat) : Int)) = (List.range 16).all (fun i => ((l.getD i 0 : Nat) : Int) == 0) := by
    congr 1
  rw [this, hz]
theorem exec_neq_same {o : Oper} {a : Act} {w : World} {x y : Operand} {u : TypeId} (ho : o.op = .binOp .neq 30 x y u) (l : List Nat) (hx : a.eval x = .agg (blockCells l).toArray) (hy : a.eval y = .agg (blockCells l).toArray) :
    (execOp a.eval o).run Try.prog w = .ok (.value (.bool false)) w := by rw [exec_neq_block ho l l hx hy, block_self]; rfl
/-- The key ahead of an entry, or -1. -/
def lastK (l : List (Int × Int)) (k : Nat) : Int := if k = 0 then -1 else (l.getD (k - 1) (0, 0)).1
theorem entB_last {l : List (Int × Int)} {k : Nat} {x : Int × Int} (hx : l[k]? = some x) (hpre : ∀ j, j < k → entB l j = true) :
    entB l k = !(decide (x.1 ≤ lastK l k) || decide (63 < x.1) || decide (x.2 < 0) || decide (239 < x.2)) := by
  have hl : 0 < k → 0 ≤ lastK l k := fun h0 => by
    have := hpre (k - 1) (by omega)
    have hk := (List.getElem?_eq_some_iff.1 hx).1
    unfold entB at this
    rw [List.getElem?_eq_getElem (by omega : k - 1 < l.length)] at this
    simp only [Bool.and_eq_true, decide_eq_true_eq] at this
    unfold lastK
    rw [if_neg (by omega)]
    have e : l.getD (k - 1) (0, 0) = l[k - 1] := by simp [List.getD, List.getElem?_eq_getElem (by omega : k - 1 < l.length)]
    rw [e]; exact this.1.1.1.1
  unfold entB
  rw [hx, Bool.eq_iff_iff]
  by_cases h0 : k = 0
  · subst h0
    have : lastK l 0 = -1 := rfl
    simp [this]
    omega
  · have h1 := hl (by omega)
    have h2 : lastK l k = (l.getD (k - 1) (0, 0)).1 := by unfold lastK; rw [if_neg h0]
    have h3 : (k == 0) = false := by simpa using h0
    rw [h3, ← h2]
    simp
    omega

set_option maxHeartbeats 4000000 in
theorem right08 {w : World} {n : NM} {sv : Value} (h : EntsAt w sv n.ents) (hb : n.block.length = 16) (hlen : n.ents.length ≤ 1000) :
    Calls Try.prog 37 #[.agg (nodeCells n sv).toArray] w fun e w' => e = .returned (.bool n.rightB) ∧ Kept (fun _ => False) w w' := by
  obtain ⟨A, cap, rfl, hc1, hc2⟩ := h.form
  unfold maxLen at hc2
  obtain ⟨w1, hw1⟩ : ∃ w1, w.alloc (.cells (nodeCells n (.slice A n.ents.length cap)).toArray 33) = w1 := ⟨_, rfl⟩
  have hk1 : Hid (Kept (fun _ => False) w w1) := Lib.hid (by rw [← hw1]; exact (Kept.refl _ _).alloc _)
  have hbx : NodeBox w1 w.heap.size n (.slice A n.ents.length cap) := ⟨by rw [← hw1]; exact heap_alloc_new _ _⟩
  have c0 := hbx.c0
  have c17 := hbx.c17
  have cb := Lib.hid hbx.cb
  have hbx' := Lib.hid hbx
  have h1 := Lib.hid (SliceAt.fresh h hk1.out)
  have hw1' := Lib.hid hw1
  have hbz : Hid (∀ w, (Instr.build 30 #[]).run Try.prog w = .ok (.agg (blockCells []).toArray) w) := Lib.hid (fun w => run_build _ _ _ _ (by kernel_rfl))
  clear hw1 hbx h
  by_cases k1 : n.kind = 1
  · have hR : Hid (n.rightB = (n.ents.length == 0)) := Lib.hid (by unfold NM.rightB; rw [if_pos k1])
    rw [k1] at c0
    clear k1
    go_enter Try.func37, Try.ntmps37
    go_wp2_with (refine wpList_box_named 33 rfl rfl _ rfl hw1'.out ?_)
    go_ret
    refine ⟨?_, hk1.out⟩
    rw [hR.out]
    exact ret_bool (by rw [Bool.eq_iff_iff]; simp)
  · by_cases k2 : n.kind = 2 ∨ n.kind = 3
    · have hR : Hid (n.rightB = (zeroB n.block && risesB n.ents)) := Lib.hid (by unfold NM.rightB; rw [if_neg k1, if_pos k2, zeroB_all _ hb])
      obtain ⟨z, hz⟩ : ∃ z, zeroB n.block = z := ⟨_, rfl⟩
      rw [hz] at hR
      have hz' := Lib.hid hz; clear hz
      by_cases h6 : 1 ≤ n.ents.length ∧ n.ents.length ≤ 6
      · obtain ⟨h61, h66⟩ := h6
        cases z with
        | false =>
          rcases k2 with k2 | k2
          all_goals
            rw [k2] at c0
            clear k1 k2
            go_enter Try.func37, Try.ntmps37
            go_wp2_with (first | (refine wpList_box_named 33 rfl rfl _ rfl hw1'.out ?_) | (refine wpList_exec_g (by rfl) (exec_load_agg rfl (by rfl) (blockCells n.block) Try.underlying30 rfl (by rw [blockCells_len]; exact block_size) cb.out) ?_) | (refine wpList_exec_g (by rfl) (exec_build 30 #[] _ rfl (by simp) (hbz.out _)) ?_) | (refine wpList_exec_g (by rfl) (exec_neq_zero rfl n.block (by rfl) (by rfl) hz'.out) ?_))
            go_ret
            exact ⟨by rw [hR.out]; rfl, hk1.out⟩
        | true =>
          have hl1 : ¬ ((n.ents.length : Int) < 1) := by omega
          have hl6 : ¬ ((6 : Int) < (n.ents.length : Int)) := by omega
          have hl1b : decide ((n.ents.length : Int) < 1) = false := decide_eq_false hl1
          have hl6b : decide ((6 : Int) < (n.ents.length : Int)) = false := decide_eq_false hl6
          rcases k2 with k2 | k2
          all_goals
            rw [k2] at c0
            clear k1 k2
            go_enter Try.func37, Try.ntmps37
            go_wp2_with (first | (refine wpList_box_named 33 rfl rfl _ rfl hw1'.out ?_) | (refine wpList_exec_g (by rfl) (exec_load_agg rfl (by rfl) (blockCells n.block) Try.underlying30 rfl (by rw [blockCells_len]; exact block_size) cb.out) ?_) | (refine wpList_exec_g (by rfl) (exec_build 30 #[] _ rfl (by simp) (hbz.out _)) ?_) | (refine wpList_exec_g (by rfl) (exec_neq_zero rfl n.block (by rfl) (by rfl) hz'.out) ?_))
            go_loopw [3, 42] (fun v x wr => ∃ k : Nat, k ≤ n.ents.length ∧ v = .int .i64 (lastK n.ents k) ∧ x = .int .i64 k ∧ Hid (∀ j, j < k → entB n.ents j = true) ∧ Hid (Kept (fun _ => False) w1 wr)) (fun _ x _ => n.ents.length - (intOf x).toNat)
            case atStart => exact ⟨0, Nat.zero_le _, rfl, rfl, Lib.hid (fun j hj => by omega), Lib.hid (Kept.refl _ _)⟩
            case round =>
              obtain ⟨k, hk, rfl, rfl, hpre, hkr⟩ := hrel
              obtain ⟨la, hla⟩ : ∃ la, lastK n.ents k = la := ⟨_, rfl⟩
              rw [hla]
              have hla' := Lib.hid hla
              clear hla
              by_cases hlt : k < n.ents.length
              · obtain ⟨x, hx⟩ : ∃ x, n.ents[k]? = some x := ⟨_, List.getElem?_eq_getElem hlt⟩
                obtain ⟨b, off, rfl, hbl, hx1, hx2⟩ := EntsAt.get (SliceAt.fresh h1.out hkr.out) hx
                have hki : (k : Int) < (n.ents.length : Int) := by omega
                have lx : Hid (∀ j v, [Value.int .i64 x.1, .int .i64 x.2][j]? = some v → wr.cell? ⟨b, off + k * 2 + j, none⟩ = some v) := Lib.hid (fun j v hj => by
                  match j, hj with
                  | 0, hj => cases hj; exact hx1
                  | 1, hj => cases hj; exact hx2)
                obtain ⟨eb, heb⟩ : ∃ eb, wr.heap.size = eb := ⟨_, rfl⟩
                obtain ⟨w2, hw2⟩ : ∃ w2, (wr.alloc (.cells #[.int .i64 0, .int .i64 0] 35)).setRow eb #[.int .i64 x.1, .int .i64 x.2] = w2 := ⟨_, rfl⟩
                have k2 : Kept (fun _ => False) wr w2 := by rw [← hw2]; exact ((Kept.refl _ _).alloc _).setRowNew (by omega) _
                have x2 : w2.heap[eb]? = some (.cells #[.int .i64 x.1, .int .i64 x.2] 35 (0, 0)) := by rw [← hw2, ← heb]; exact setRow_heap _ _ _ _ _ _ (heap_alloc_new _ _)
                have ce0 := cell_of_heap x2 0
                have ce1 := cell_of_heap x2 1
                simp at ce0 ce1
                have hb := entB_last hx hpre.out
                rw [hla'.out] at hb
                have hb' := Lib.hid hb
                have hw2' := Lib.hid hw2
                have heb' := Lib.hid heb
                have hk2 := Lib.hid (hkr.out.trans k2)
                have hx' := Lib.hid hx
                have hnext : Hid (lastK n.ents (k + 1) = x.1) := Lib.hid (by unfold lastK; rw [if_neg (by omega), Nat.add_sub_cancel]; simp [hx])
                obtain ⟨x0, x1⟩ := x
                dsimp only at *
                clear hx hx1 hx2 hw2 heb k2 x2 hb
                by_cases q1 : x0 ≤ la
                · have hbad : Hid (n.rightB = false) := Lib.hid (by rw [hR.out, risesB_bad (k := k) hlt (by rw [hb'.out]; simp [q1]), Bool.and_false])
                  go_wp2_with (first | (refine wpList_alloc_as 35 rfl rfl #[.int .i64 0, .int .i64 0] entry_zero ?_; rw [heb'.out]) | (refine wpList_load_agg 35 rfl rfl rfl _ Try.underlying35 rfl [.int .i64 x0, .int .i64 x1] (by kernel_rfl) lx.out ?_) | (refine wpList_store_whole 35 rfl rfl rfl [.int .i64 x0, .int .i64 x1] rfl entry_size 35 #[.int .i64 0, .int .i64 0] (by rw [← heb'.out]; exact heap_alloc_new _ _) rfl (by intro c hc; simp at hc; rcases hc with rfl | rfl <;> rfl) ?_; rw [hw2'.out]))
                  go_ret
                  exact ⟨by rw [hbad.out]; rfl, hk1.out.trans hk2.out⟩
                by_cases q2 : 63 < x0
                · have hbad : Hid (n.rightB = false) := Lib.hid (by rw [hR.out, risesB_bad (k := k) hlt (by rw [hb'.out]; simp [q2]), Bool.and_false])
                  go_wp2_with (first | (refine wpList_alloc_as 35 rfl rfl #[.int .i64 0, .int .i64 0] entry_zero ?_; rw [heb'.out]) | (refine wpList_load_agg 35 rfl rfl rfl _ Try.underlying35 rfl [.int .i64 x0, .int .i64 x1] (by kernel_rfl) lx.out ?_) | (refine wpList_store_whole 35 rfl rfl rfl [.int .i64 x0, .int .i64 x1] rfl entry_size 35 #[.int .i64 0, .int .i64 0] (by rw [← heb'.out]; exact heap_alloc_new _ _) rfl (by intro c hc; simp at hc; rcases hc with rfl | rfl <;> rfl) ?_; rw [hw2'.out]))
                  go_ret
                  exact ⟨by rw [hbad.out]; rfl, hk1.out.trans hk2.out⟩
                by_cases q3 : x1 < 0
                · have hbad : Hid (n.rightB = false) := Lib.hid (by rw [hR.out, risesB_bad (k := k) hlt (by rw [hb'.out]; simp [q3]), Bool.and_false])
                  go_wp2_with (first | (refine wpList_alloc_as 35 rfl rfl #[.int .i64 0, .int .i64 0] entry_zero ?_; rw [heb'.out]) | (refine wpList_load_agg 35 rfl rfl rfl _ Try.underlying35 rfl [.int .i64 x0, .int .i64 x1] (by kernel_rfl) lx.out ?_) | (refine wpList_store_whole 35 rfl rfl rfl [.int .i64 x0, .int .i64 x1] rfl entry_size 35 #[.int .i64 0, .int .i64 0] (by rw [← heb'.out]; exact heap_alloc_new _ _) rfl (by intro c hc; simp at hc; rcases hc with rfl | rfl <;> rfl) ?_; rw [hw2'.out]))
                  go_ret
                  exact ⟨by rw [hbad.out]; rfl, hk1.out.trans hk2.out⟩
                by_cases q4 : 239 < x1
                · have hbad : Hid (n.rightB = false) := Lib.hid (by rw [hR.out, risesB_bad (k := k) hlt (by rw [hb'.out]; simp [q4]), Bool.and_false])
                  go_wp2_with (first | (refine wpList_alloc_as 35 rfl rfl #[.int .i64 0, .int .i64 0] entry_zero ?_; rw [heb'.out]) | (refine wpList_load_agg 35 rfl rfl rfl _ Try.underlying35 rfl [.int .i64 x0, .int .i64 x1] (by kernel_rfl) lx.out ?_) | (refine wpList_store_whole 35 rfl rfl rfl [.int .i64 x0, .int .i64 x1] rfl entry_size 35 #[.int .i64 0, .int .i64 0] (by rw [← heb'.out]; exact heap_alloc_new _ _) rfl (by intro c hc; simp at hc; rcases hc with rfl | rfl <;> rfl) ?_; rw [hw2'.out]))
                  go_ret
                  exact ⟨by rw [hbad.out]; rfl, hk1.out.trans hk2.out⟩
                · have hgood : Hid (∀ j, j < k + 1 → entB n.ents j = true) := Lib.hid (fun j hj => by
                    by_cases e : j = k
                    · rw [e, hb'.out]; simp [q1, q2, q3, q4]
                    · exact hpre.out j (by omega))
                  go_wp2_with (first | (refine wpList_alloc_as 35 rfl rfl #[.int .i64 0, .int .i64 0] entry_zero ?_; rw [heb'.out]) | (refine wpList_load_agg 35 rfl rfl rfl _ Try.underlying35 rfl [.int .i64 x0, .int .i64 x1] (by kernel_rfl) lx.out ?_) | (refine wpList_store_whole 35 rfl rfl rfl [.int .i64 x0, .int .i64 x1] rfl entry_size 35 #[.int .i64 0, .int .i64 0] (by rw [← heb'.out]; exact heap_alloc_new _ _) rfl (by intro c hc; simp at hc; rcases hc with rfl | rfl <;> rfl) ?_; rw [hw2'.out]))
                  go_roundw
                  case rel => exact ⟨k + 1, by omega, by rw [hnext.out], by go_num, hgood, hk2⟩
                  case measure => simp [intOf]; omega
              · obtain rfl : k = n.ents.length := by omega
                have hgood : Hid (n.rightB = true) := Lib.hid (by
                  rw [hR.out, risesB_all (fun i hi => hpre.out i hi)]
                  simp [h61, h66])
                go_wp2_with fail
                go_ret
                exact ⟨by rw [hgood.out]; rfl, hk1.out.trans hkr.out⟩
      · have hR2 : Hid (n.rightB = false) := Lib.hid (by
          rw [hR.out]
          have : risesB n.ents = false := by unfold risesB; simp only [Bool.and_eq_false_iff, decide_eq_false_iff_not]; omega
          rw [this, Bool.and_false])
        by_cases h61 : n.ents.length < 1
        · have hl1 : (n.ents.length : Int) < 1 := by omega
          have hl1b : decide ((n.ents.length : Int) < 1) = true := decide_eq_true hl1
          have hl0 : n.ents.length = 0 := by omega
          clear h6
          rw [hl0] at c17
          cases z
          all_goals
            rcases k2 with k2 | k2
            all_goals
              rw [k2] at c0
              clear k1 k2
              go_enter Try.func37, Try.ntmps37
              go_wp2_with (first | (refine wpList_box_named 33 rfl rfl _ rfl hw1'.out ?_) | (refine wpList_exec_g (by rfl) (exec_load_agg rfl (by rfl) (blockCells n.block) Try.underlying30 rfl (by rw [blockCells_len]; exact block_size) cb.out) ?_) | (refine wpList_exec_g (by rfl) (exec_build 30 #[] _ rfl (by simp) (hbz.out _)) ?_) | (refine wpList_exec_g (by rfl) (exec_neq_zero rfl n.block (by rfl) (by rfl) hz'.out) ?_))
              go_ret
              exact ⟨by rw [hR2.out]; rfl, hk1.out⟩
        · have hl1 : ¬ ((n.ents.length : Int) < 1) := by omega
          have hl6 : (6 : Int) < (n.ents.length : Int) := by omega
          have hl1b : decide ((n.ents.length : Int) < 1) = false := decide_eq_false hl1
          have hl6b : decide ((6 : Int) < (n.ents.length : Int)) = true := decide_eq_true hl6
          clear h6
          cases z
          all_goals
            rcases k2 with k2 | k2
            all_goals
              rw [k2] at c0
              clear k1 k2
              go_enter Try.func37, Try.ntmps37
              go_wp2_with (first | (refine wpList_box_named 33 rfl rfl _ rfl hw1'.out ?_) | (refine wpList_exec_g (by rfl) (exec_load_agg rfl (by rfl) (blockCells n.block) Try.underlying30 rfl (by rw [blockCells_len]; exact block_size) cb.out) ?_) | (refine wpList_exec_g (by rfl) (exec_build 30 #[] _ rfl (by simp) (hbz.out _)) ?_) | (refine wpList_exec_g (by rfl) (exec_neq_zero rfl n.block (by rfl) (by rfl) hz'.out) ?_))
              go_ret
              exact ⟨by rw [hR2.out]; rfl, hk1.out⟩
    · have hR : Hid (n.rightB = false) := Lib.hid (by unfold NM.rightB; rw [if_neg k1, if_neg k2])
      have n1 : (n.kind == 1) = false := by simpa using k1
      have n2 : (n.kind == 2) = false := by simp; omega
      have n3 : (n.kind == 3) = false := by simp; omega
      have m2 : (n.kind != 2) = true := by rw [bne, n2]; rfl
      have m3 : (n.kind != 3) = true := by rw [bne, n3]; rfl
      clear k1 k2
      go_enter Try.func37, Try.ntmps37
      go_wp2_with (refine wpList_box_named 33 rfl rfl _ rfl hw1'.out ?_)
      go_ret
      exact ⟨by rw [hR.out]; rfl, hk1.out⟩
end Go.Proofs.Ythmjcbmeiabbgaa
/-
  The document's answer for nodes: one that is as it was made is the same.
-/
namespace Go.Proofs.Ythmjcbmeiabbgaa
open Go.RowKit
set_option maxRecDepth 100000

theorem exec_neq_entry_same {o : Oper} {a : Act} {x y : Operand} {u : TypeId} (ho : o.op = .binOp .neq 35 x y u) (p : Int × Int) (hx : a.eval x = .agg #[.int .i64 p.1, .int .i64 p.2]) (hy : a.eval y = .agg #[.int .i64 p.1, .int .i64 p.2]) (w : World) :
    (execOp a.eval o).run Try.prog w = .ok (.value (.bool false)) w := by rw [exec_neq_entry ho p p hx hy w]; simp
set_option maxHeartbeats 4000000 in
theorem same08 {w : World} {n : NM} {va vb : Value} (ha : EntsAt w va n.ents) (hb : EntsAt w vb n.ents) (hlen : n.ents.length ≤ 1000) :
    Calls Try.prog 38 #[.agg (nodeCells n va).toArray, .agg (nodeCells n vb).toArray] w fun e w' => e = .returned (.bool true) ∧ Kept (fun _ => False) w w' := by
  obtain ⟨Aa, ca, rfl, ha1, ha2⟩ := ha.form
  obtain ⟨Ab, cb, rfl, hb1, hb2⟩ := hb.form
  unfold maxLen at ha2 hb2
  obtain ⟨F, hF⟩ : ∃ F, nodeCells n (.slice Aa n.ents.length ca) = F := ⟨_, rfl⟩
  obtain ⟨G, hG⟩ : ∃ G, nodeCells n (.slice Ab n.ents.length cb) = G := ⟨_, rfl⟩
  obtain ⟨w1, hw1⟩ : ∃ w1, w.alloc (.cells F.toArray 33) = w1 := ⟨_, rfl⟩
  obtain ⟨w2, hw2⟩ : ∃ w2, w1.alloc (.cells G.toArray 33) = w2 := ⟨_, rfl⟩
  have k1 : Kept (fun _ => False) w w1 := by rw [← hw1]; exact (Kept.refl _ _).alloc _
  have k2 : Kept (fun _ => False) w1 w2 := by rw [← hw2]; exact (Kept.refl _ _).alloc _
  have s1 : w1.heap.size = w.heap.size + 1 := by rw [← hw1]; simp
  have b1 : NodeBox w2 w.heap.size n (.slice Aa n.ents.length ca) := ⟨by rw [hF]; exact k2.get (by rw [← hw1]; exact heap_alloc_new _ _) id⟩
  have b2 : NodeBox w2 (w.heap.size + 1) n (.slice Ab n.ents.length cb) := ⟨by rw [hG, ← hw2, ← s1]; exact heap_alloc_new _ _⟩
  have c1 := b1.c17
  have c2 := b2.c17
  have d1 := b1.c0
  have d2 := b2.c0
  have e1 := Lib.hid b1.cb
  have e2 := Lib.hid b2.cb
  have hw1' := Lib.hid hw1
  have hw2' := Lib.hid hw2
  have s1' := Lib.hid s1
  have k12 := Lib.hid (k1.trans k2)
  have ha' := Lib.hid (SliceAt.fresh ha (k1.trans k2))
  have hb' := Lib.hid (SliceAt.fresh hb (k1.trans k2))
  have b1' := Lib.hid b1
  have b2' := Lib.hid b2
  rw [hF, hG]
  clear hw1 hw2 s1 k1 k2 b1 b2 hF hG ha hb
  go_enter Try.func38, Try.ntmps38
  go_wp2_with (first | (refine wpList_box_named 33 rfl rfl _ rfl hw1'.out ?_) | (refine wpList_box_named 33 rfl rfl _ rfl hw2'.out ?_; rw [s1'.out]) | (refine wpList_exec_g (by rfl) (exec_load_agg rfl (by rfl) (blockCells n.block) Try.underlying30 rfl (by rw [blockCells_len]; exact block_size) e1.out) ?_) | (refine wpList_exec_g (by rfl) (exec_load_agg rfl (by rfl) (blockCells n.block) Try.underlying30 rfl (by rw [blockCells_len]; exact block_size) e2.out) ?_) | (refine wpList_exec_g (by rfl) (exec_neq_same rfl n.block (by rfl) (by rfl)) ?_))
  go_loopw [30] (fun i wr => ∃ k : Nat, k ≤ n.ents.length ∧ i = .int .i64 k ∧ Kept (fun _ => False) w2 wr) (fun i _ => n.ents.length - (intOf i).toNat)
  case atStart => exact ⟨0, Nat.zero_le _, rfl, Kept.refl _ _⟩
  case round =>
    obtain ⟨k, hk, rfl, hkk⟩ := hrel
    by_cases hlt : k < n.ents.length
    · obtain ⟨x, hx⟩ : ∃ x, n.ents[k]? = some x := ⟨_, List.getElem?_eq_getElem hlt⟩
      obtain ⟨ba, oa, rfl, hba, hx1, hx2⟩ := EntsAt.get (SliceAt.fresh ha'.out hkk) hx
      obtain ⟨bb, ob, rfl, hbb, hy1, hy2⟩ := EntsAt.get (SliceAt.fresh hb'.out hkk) hx
      have hki : (k : Int) < (n.ents.length : Int) := by omega
      have lx : Hid (∀ W, Kept (fun _ => False) wr W → ∀ j v, [Value.int .i64 x.1, .int .i64 x.2][j]? = some v → W.cell? ⟨ba, oa + k * 2 + j, none⟩ = some v) := Lib.hid (fun W hW j v hj => by
        match j, hj with
        | 0, hj => cases hj; exact hW.cell hx1 id
        | 1, hj => cases hj; exact hW.cell hx2 id)
      have ly : Hid (∀ W, Kept (fun _ => False) wr W → ∀ j v, [Value.int .i64 x.1, .int .i64 x.2][j]? = some v → W.cell? ⟨bb, ob + k * 2 + j, none⟩ = some v) := Lib.hid (fun W hW j v hj => by
        match j, hj with
        | 0, hj => cases hj; exact hW.cell hy1 id
        | 1, hj => cases hj; exact hW.cell hy2 id)
      have ca' : Hid (∀ W, Kept (fun _ => False) wr W → W.cell? ⟨w.heap.size, 17, none⟩ = some (.slice (some ⟨ba, oa, none⟩) n.ents.length ca)) := Lib.hid (fun W hW => hW.cell (hkk.cell b1'.out.c17 id) id)
      have cb' : Hid (∀ W, Kept (fun _ => False) wr W → W.cell? ⟨w.heap.size + 1, 17, none⟩ = some (.slice (some ⟨bb, ob, none⟩) n.ents.length cb)) := Lib.hid (fun W hW => hW.cell (hkk.cell b2'.out.c17 id) id)
      have hkk' := Lib.hid hkk
      clear hx hx1 hx2 hy1 hy2 hkk
      go_wp2_with fail
      refine wp_region_quiet (C := fun w' => Kept (fun _ => False) wr w') (by kernel_rfl) (by kernel_rfl) (Kept.refl _ _).drew ?_
      refine wpQuiet_step (fun K hK => ?_); go_simp; refine ⟨_, fun _ _ => rfl, hK _ ?_⟩; clear hK K
      refine wpQuiet_step (fun K hK => ?_); refine q_on rfl (q_val (.slice (some ⟨ba, oa, none⟩) n.ents.length ca) (fun W hW => by have hc := ca'.out W hW; clear hW; go_simp) (hK _ ?_)); clear hK K
      refine wpQuiet_step (fun K hK => ?_); go_simp; refine ⟨_, fun _ _ => rfl, hK _ ?_⟩; clear hK K
      refine wpQuiet_step (fun K hK => ?_); go_simp; refine ⟨_, fun _ _ => rfl, hK _ ?_⟩; clear hK K
      refine wpQuiet_step (fun K hK => ?_); refine q_on rfl (q_val (.agg [Value.int .i64 x.1, .int .i64 x.2].toArray) (fun W hW => exec_load_agg (g := ba) (off := oa + k * 2) rfl rfl [.int .i64 x.1, .int .i64 x.2] Try.underlying35 rfl (by kernel_rfl) (lx.out W hW)) (hK _ ?_)); clear hK K
      refine wpQuiet_step (fun K hK => ?_); go_simp; refine ⟨_, fun _ _ => rfl, hK _ ?_⟩; clear hK K
      refine wpQuiet_step (fun K hK => ?_); refine q_on rfl (q_val (.slice (some ⟨bb, ob, none⟩) n.ents.length cb) (fun W hW => by have hc := cb'.out W hW; clear hW; go_simp) (hK _ ?_)); clear hK K
      refine wpQuiet_step (fun K hK => ?_); go_simp; refine ⟨_, fun _ _ => rfl, hK _ ?_⟩; clear hK K
      refine wpQuiet_step (fun K hK => ?_); go_simp; refine ⟨_, fun _ _ => rfl, hK _ ?_⟩; clear hK K
      refine wpQuiet_step (fun K hK => ?_); refine q_on rfl (q_val (.agg [Value.int .i64 x.1, .int .i64 x.2].toArray) (fun W hW => exec_load_agg (g := bb) (off := ob + k * 2) rfl rfl [.int .i64 x.1, .int .i64 x.2] Try.underlying35 rfl (by kernel_rfl) (ly.out W hW)) (hK _ ?_)); clear hK K
      refine wpQuiet_step (fun K hK => ?_); refine q_on rfl (q_val (.bool false) (fun W hW => exec_neq_entry_same rfl x rfl rfl W) (hK _ ?_)); clear hK K
      refine wpQuiet_nil ?_
      intro w9 hw9
      have hw9' := Lib.hid hw9
      clear hw9 lx ly ca' cb'
      go_wp2_with fail
      go_roundw
      case rel => exact ⟨k + 1, by omega, by go_num, hkk'.out.trans hw9'.out⟩
      case measure => simp [intOf]; omega
    · obtain rfl : k = n.ents.length := by omega
      go_wp2_with fail
      go_ret
      exact ⟨rfl, k12.out.trans hkk⟩
end Go.Proofs.Ythmjcbmeiabbgaa
/-
  Nodes in a store, plain: what making a node comes to, where all that is there was written.
-/
namespace Go.Proofs.Ythmjcbmeiabbgaa
open Go.RowKit

/-- All that is there was written. -/
def Written (M : SM) : Prop := ∀ q, M.live q = true → ∃ n, M.nodeAt q = some n
theorem Written.get {M : SM} (h : Written M) (x : Int) : (M.get x).2 = 0 ↔ M.pool.heldB x = true := by
  unfold SM.get
  by_cases hh : M.pool.heldB x = true
  · obtain ⟨n, hn⟩ := h x.toNat (heldB_int hh).2
    rw [if_pos hh, hn]
    exact ⟨fun _ => hh, fun _ => rfl⟩
  · rw [if_neg hh]
    exact ⟨fun h => absurd h (by decide), fun h => absurd h hh⟩
theorem written_start (s : Nat) : Written ⟨PM.fresh0 s, []⟩ := fun q hq => by
  simp [SM.live, PM.live, PM.fresh0] at hq
theorem Written.mark {M : SM} (h : Written M) : Written (markM M) := fun q hq => h q (by rw [mark_live] at hq; exact hq)
theorem free_some {p : PM} {i : Nat} (h : p.takeIx = some i) : p.freeCount ≠ 0 := by
  obtain ⟨h1, h2⟩ := takeIx_free h
  unfold PM.freeCount
  rw [freeN_sum]
  have := sumN_get (f := fun i => if p.freeB i then 1 else 0) h1
  simp only [h2, if_true] at this
  omega

/-- What making a node that can be comes to. -/
theorem back_make {M : SM} (hW : Written M) (hc : ∀ j, M.pool.cnt j ≤ 255) {n : NM} (hr : n.rightB = true) (hk : ∀ x ∈ n.ents, M.pool.heldB x.2 = true) :
    (M.pool.freeCount = 0 ∧ M.make n = (M, -1, 71)) ∨
      (M.pool.freeCount ≠ 0 ∧ ∃ M1 : SM, ∃ i : Nat, M.make n = (M1, (i : Int), 0) ∧ M1.get i = (n, 0) ∧ (M1.hold i).2 = 0 ∧ Written (M1.hold i).1 ∧ (M1.hold i).1.log.length = M.log.length + 1) ∨
      (M.pool.freeCount ≠ 0 ∧ ∃ M1 : SM, ∃ p : Int, M.make n = (M1, p, 72)) := by
  unfold SM.make
  rw [if_pos hr]
  have hany : ¬ (n.ents.any (fun x => !M.pool.heldB x.2) = true) := by
    rw [List.any_eq_true]
    rintro ⟨x, hx, hb⟩
    rw [hk x hx] at hb
    cases hb
  rw [if_neg hany]
  cases hti : M.pool.takeIx with
  | none => exact .inl ⟨free_zero hti, rfl⟩
  | some i =>
    right
    have hf := free_some hti
    dsimp only
    obtain ⟨hil, hif⟩ := takeIx_free hti
    have hnl := free_not_live hif
    have hif' := hif
    simp only [PM.freeB, Bool.and_eq_true, beq_iff_eq] at hif'
    have hc1 : (M.pool.setSt i 1).cnt = M.pool.cnt := rfl
    have hl1 : ∀ q, (M.pool.setSt i 1).live q = (M.pool.live q || decide (q = i)) := by
      intro q
      unfold PM.live PM.setSt
      dsimp only
      by_cases hq : q = i
      · subst hq; simp [hil]
      · simp [hq]
    have hk1 : ∀ c ∈ n.ents.map (·.2), (M.pool.setSt i 1).heldB c = true := by
      intro c hc
      obtain ⟨x, hx, rfl⟩ := List.mem_map.1 hc
      have := hk x hx
      obtain ⟨h0, h2⟩ := heldB_int this
      obtain ⟨m, hm⟩ := Int.eq_ofNat_of_zero_le h0
      rw [hm] at h2 ⊢
      rw [heldB_nat, hl1]
      simp only [Int.toNat_natCast] at h2
      rw [h2]; rfl
    rcases holds_split (M.pool.setSt i 1) (n.ents.map (·.2)) hk1 (fun j => by rw [hc1]; exact hc j) with ⟨he, H, hb⟩ | ⟨he, _⟩
    · left
      refine ⟨hf, _, i, by rw [he]; rfl, ?_, ?_⟩
      · obtain ⟨p', hp'⟩ : ∃ p', (holds (M.pool.setSt i 1) (n.ents.map (·.2))).1 = p' := ⟨_, rfl⟩
        rw [hp'] at H ⊢
        have hli : p'.heldB (i : Int) = true := by rw [heldB_nat, H.live hk1, hl1]; simp
        unfold SM.get
        rw [if_pos hli]
        have : SM.nodeAt ⟨p', M.log ++ [(i, n)]⟩ ((i : Int).toNat) = some n := by
          rw [Int.toNat_natCast]
          show logAt (M.log ++ [(i, n)]) i = some n
          rw [logAt_put, if_pos rfl]
        rw [this]
      · obtain ⟨p', hp'⟩ : ∃ p', (holds (M.pool.setSt i 1) (n.ents.map (·.2))).1 = p' := ⟨_, rfl⟩
        rw [hp'] at H hb ⊢
        have hlive : ∀ q, p'.live q = (M.pool.live q || decide (q = i)) := fun q => by rw [H.live hk1, hl1]
        have hli : p'.heldB (i : Int) = true := by rw [heldB_nat, hlive]; simp
        have hci : p'.cnt i = 0 := by
          rw [H.cnt, hc1, hif'.1]
          have : (n.ents.map (·.2)).countP (fun c => c == (i : Int)) = 0 := by
            rw [List.countP_eq_zero]
            intro c hcm
            obtain ⟨x, hx, rfl⟩ := List.mem_map.1 hcm
            have h2 := heldB_int (hk x hx)
            intro e
            have e' : x.2 = (i : Int) := by simpa using e
            rw [e', Int.toNat_natCast] at h2
            rw [show M.pool.live i = false from hnl] at h2
            exact absurd h2.2 (by decide)
          omega
        have hh : SM.hold ⟨p', M.log ++ [(i, n)]⟩ (i : Int) = (⟨p'.setCnt i 1, M.log ++ [(i, n)]⟩, 0) := by
          simp [SM.hold, PM.holdTo, PM.holdErr, hli, hci]
        rw [hh]
        refine ⟨rfl, fun q hq => ?_, by simp⟩
        have hq' : p'.live q = true := by
          have hq2 : (p'.setCnt i 1).live q = true := hq
          unfold PM.live PM.setCnt at hq2
          dsimp only at hq2
          by_cases e : q = i
          · rw [e, ← heldB_nat]; exact hli
          · simp only [if_neg e] at hq2; exact hq2
        show ∃ m, logAt (M.log ++ [(i, n)]) q = some m
        rw [logAt_put]
        by_cases e : i = q
        · rw [if_pos e]; exact ⟨n, rfl⟩
        · rw [if_neg e]
          rw [hlive] at hq'
          have e' : ¬ q = i := fun z => e z.symm
          simp [e'] at hq'
          exact hW q hq'
    · right
      exact ⟨hf, _, _, by rw [he]⟩
theorem make_wrong {M : SM} {n : NM} (hr : n.rightB = false) : M.make n = (M, -1, 81) := by unfold SM.make; rw [if_neg (by rw [hr]; decide)]
theorem make_away {M : SM} {n : NM} (hr : n.rightB = true) {x : Int × Int} (hx : x ∈ n.ents) (hk : M.pool.heldB x.2 = false) : M.make n = (M, -1, 73) := by
  unfold SM.make
  rw [if_pos hr, if_pos (by rw [List.any_eq_true]; exact ⟨x, hx, by rw [hk]; rfl⟩)]
end Go.Proofs.Ythmjcbmeiabbgaa
/-
  NodesBack: the walk.
-/
namespace Go.Proofs.Ythmjcbmeiabbgaa.nodesBack
open Go.RowKit
set_option maxRecDepth 100000

theorem mark_held (M : SM) (x : Int) : (markM M).pool.heldB x = M.pool.heldB x := by
  by_cases h0 : 0 ≤ x
  · obtain ⟨q, rfl⟩ := Int.eq_ofNat_of_zero_le h0
    rw [heldB_nat, heldB_nat]
    exact mark_live M q
  · have h1 : ∀ p : PM, p.heldB x = false := fun p => by
      cases h : p.heldB x with
      | false => rfl
      | true => exact absurd (heldB_pos h).1 h0
    rw [h1, h1]
theorem back_all {M : SM} (hW : Written M) (hc : ∀ j, (markM M).pool.cnt j ≤ 255) {n : NM} :
    (n.rightB = false ∧ ((markM M).make n).1 = markM M ∧ ((markM M).make n).2.1 = -1 ∧ ((markM M).make n).2.2 = 81) ∨
    (n.rightB = true ∧ (n.ents.all fun x => M.pool.heldB x.2) = false ∧ ((markM M).make n).1 = markM M ∧ ((markM M).make n).2.1 = -1 ∧ ((markM M).make n).2.2 = 73) ∨
    (n.rightB = true ∧ (n.ents.all fun x => M.pool.heldB x.2) = true ∧ (markM M).pool.freeCount = 0 ∧ ((markM M).make n).1 = markM M ∧ ((markM M).make n).2.1 = -1 ∧ ((markM M).make n).2.2 = 71) ∨
    (n.rightB = true ∧ (n.ents.all fun x => M.pool.heldB x.2) = true ∧ (markM M).pool.freeCount ≠ 0 ∧ ∃ i : Nat, ((markM M).make n).2.1 = (i : Int) ∧ ((markM M).make n).2.2 = 0 ∧ ((markM M).make n).1.get i = (n, 0) ∧ (((markM M).make n).1.hold i).2 = 0 ∧ Written (((markM M).make n).1.hold i).1 ∧ (((markM M).make n).1.hold i).1.log.length = M.log.length + 1) ∨
    (n.rightB = true ∧ (n.ents.all fun x => M.pool.heldB x.2) = true ∧ (markM M).pool.freeCount ≠ 0 ∧ ((markM M).make n).2.2 = 72) := by
  cases hr : n.rightB with
  | false => left; rw [make_wrong hr]; exact ⟨rfl, rfl, rfl, rfl⟩
  | true =>
    right
    cases ht : n.ents.all fun x => M.pool.heldB x.2 with
    | false =>
      left
      rw [List.all_eq_false] at ht
      obtain ⟨x, hx, hb⟩ := ht
      rw [make_away hr hx (by rw [mark_held]; simpa using hb)]
      exact ⟨rfl, rfl, rfl, rfl, rfl⟩
    | true =>
      right
      rw [List.all_eq_true] at ht
      rcases back_make hW.mark hc hr (fun x hx => by rw [mark_held]; exact ht x hx) with ⟨hf, e⟩ | ⟨hf, M1, i, e, h1, h2, h3, h4⟩ | ⟨hf, M1, p, e⟩
      · left; rw [e]; exact ⟨rfl, rfl, hf, rfl, rfl, rfl⟩
      · right; left; rw [e]; exact ⟨rfl, rfl, hf, i, rfl, rfl, h1, h2, h3, h4⟩
      · right; right; rw [e]; exact ⟨rfl, rfl, hf, rfl⟩
/-- A slice of nodes that came in. -/
structure NodeIn (w : World) (g off : Nat) (n : NM) (sv : Value) : Prop where
  cells : ∀ j v, (nodeCells n sv)[j]? = some v → w.cell? ⟨g, off + j, none⟩ = some v
  ents : EntsAt w sv n.ents
  old : n.ents ≠ [] → ∀ b, sv.ownBlock = some b → b < w.heap.size
  len : n.block.length = 16
  bytes : ∀ b ∈ n.block, b < 256
theorem NodeIn.fresh {w w' : World} {g off : Nat} {n : NM} {sv : Value} (h : NodeIn w g off n sv) (k : Kept (fun _ => False) w w') : NodeIn w' g off n sv :=
  ⟨fun j v hj => k.cell (h.cells j v hj) id, SliceAt.fresh h.ents k, fun hne b hb => Nat.lt_of_lt_of_le (h.old hne b hb) k.size, h.len, h.bytes⟩
def NodesIn (w : World) (v : Value) (l : List NM) : Prop := ∃ A cap, v = .slice A l.length cap ∧ l.length ≤ cap ∧ cap ≤ maxLen ∧
  ∀ i n, l[i]? = some n → ∃ b off sv, A = some ⟨b, off, none⟩ ∧ b < w.heap.size ∧ NodeIn w b (off + i * 18) n sv

set_option maxHeartbeats 8000000 in
theorem walkIn {w : World} (va : Value) (l : List NM) (hl : NodesIn w va l) : Calls Try.prog 9 #[va] w fun e w' => e = .returned (.bool true) ∧ Kept (fun _ => False) w w' := by
  obtain ⟨Al, capl, rfl, hc1, hc2, hget⟩ := hl
  unfold maxLen at hc2
  have hget' := Lib.hid hget
  clear hget
  by_cases hlong : 60 < l.length
  · have hb : (60 : Int) < (l.length : Int) := by omega
    clear hlong
    go_enter Try.func9, Try.ntmps9
    go_wp2_with fail
    refine (alive09 _).mono ?_
    rintro e w1 ⟨rfl, k1⟩
    have k1' := Lib.hid k1
    clear k1
    go_wp2_with fail
    go_ret
    exact ⟨rfl, k1'.out⟩
  have hshort : l.length ≤ 60 := by omega
  have hb : ¬ ((60 : Int) < (l.length : Int)) := by omega
  obtain ⟨Z, hZ⟩ : ∃ Z, nodeCells NM.zero (.slice none 0 0) = Z := ⟨_, rfl⟩
  have hZz : Hid ((Try.prog.info? 33).map (·.zero) = some (some (.agg Z.toArray))) := Lib.hid (by rw [← hZ]; exact node_zero)
  have hZl : Hid (Z.length = 18) := Lib.hid (by rw [← hZ]; exact nodeCells_len _ _)
  have hm := fun w => made09 40 (by decide) (by decide) w
  rw [show (min (40 : Int) 244 - 4).toNat = 36 from by decide] at hm
  have hm' := Lib.hid hm
  clear hm hlong hZ
  go_enter Try.func9, Try.ntmps9
  go_wp2_with fail
  refine (alive09 _).mono ?_
  rintro e w1 ⟨rfl, k1⟩
  have k1' := Lib.hid k1
  clear k1
  go_wp2_with fail
  refine (hm'.out _).mono ?_
  rintro e w2 ⟨A, rfl, hO⟩
  obtain ⟨sb, hsb⟩ : ∃ sb, A.sb = sb := ⟨_, rfl⟩
  have I2 : Hid (∃ A M, OwnStore w1 A M w2 ∧ A.sb = sb ∧ Written M ∧ M.log.length ≤ 0) := Lib.hid ⟨A, _, hO, hsb, written_start _, Nat.le_refl _⟩
  rw [hsb]
  clear hO hsb
  go_wp2_with fail
  go_loopw [25] (fun i wr => ∃ k : Nat, k ≤ l.length ∧ i = .int .i64 k ∧ Hid (∃ A M, OwnStore w1 A M wr ∧ A.sb = sb ∧ Written M ∧ M.log.length ≤ k)) (fun i _ => l.length - (intOf i).toNat)
  case atStart => exact ⟨0, Nat.zero_le _, rfl, I2⟩
  case round =>
    obtain ⟨k, hk, rfl, hI⟩ := hrel
    by_cases hlt : k < l.length
    · obtain ⟨n, hn⟩ : ∃ n, l[k]? = some n := ⟨_, List.getElem?_eq_getElem hlt⟩
      obtain ⟨ab, ao, sv, rfl, hab, hN⟩ := hget'.out k n hn
      obtain ⟨A, M, hO, hsb, hW, hlog⟩ := hI.out
      have hN1 := hN.fresh (k1'.out.trans hO.kept)
      obtain ⟨Av, cv, rfl, hv1, hv2⟩ := EntsAt.form hN1.ents
      unfold maxLen at hv2
      obtain ⟨F, hF⟩ : ∃ F, nodeCells n (.slice Av n.ents.length cv) = F := ⟨_, rfl⟩
      have hFl : Hid (F.length = 18) := Lib.hid (by rw [← hF]; exact nodeCells_len _ _)
      have hF1 : Hid (∀ v ∈ F, v.oneCell' = true) := Lib.hid (by rw [← hF]; exact nodeCells_one _ _ _ _)
      have hcF : Hid (∀ j v, F[j]? = some v → wr.cell? ⟨ab, ao + k * 18 + j, none⟩ = some v) := Lib.hid (by rw [← hF]; exact hN1.cells)
      obtain ⟨nb, hnb⟩ : ∃ nb, wr.heap.size = nb := ⟨_, rfl⟩
      obtain ⟨w3, hw3⟩ : ∃ w3, (wr.alloc (.cells Z.toArray 33)).setRow nb F.toArray = w3 := ⟨_, rfl⟩
      have k3 : Kept (fun _ => False) wr w3 := by rw [← hw3]; exact ((Kept.refl _ _).alloc _).setRowNew (by omega) _
      have s3 : w3.heap.size = nb + 1 := by rw [← hw3, ← hnb]; simp [World.setRow]
      have bx3 : NodeBox w3 nb n (.slice Av n.ents.length cv) := ⟨by rw [hF, ← hw3, ← hnb]; exact setRow_heap _ _ _ _ _ _ (heap_alloc_new _ _)⟩
      have c17 := bx3.c17
      have sf3 := Lib.hid (Safe.new hO.store (b := nb) (by omega) (by omega) : Safe w3 A nb)
      have O3 := Lib.hid (hO.fresh k3)
      have N3 := Lib.hid (hN1.fresh k3)
      have hki : (k : Int) < (l.length : Int) := by omega
      have hw3' := Lib.hid hw3
      have hnb' := Lib.hid hnb
      have hF' := Lib.hid hF
      have bx3' := Lib.hid bx3
      have hsb' := Lib.hid hsb
      have hW' := Lib.hid hW
      have hold : Hid (n.ents ≠ [] → ∀ b, (Value.slice Av n.ents.length cv).ownBlock = some b → b < w1.heap.size) := Lib.hid (fun hne b hb => Nat.lt_of_lt_of_le (hN.old hne b hb) k1'.out.size)
      clear hn hN hN1 hO hI hF hnb hw3 k3 s3 bx3 hsb hW
      by_cases h20 : 20 < n.ents.length
      · have hb20 : (20 : Int) < (n.ents.length : Int) := by omega
        clear h20
        go_wp2_with (first | (refine wpList_load_agg 33 rfl rfl rfl _ Try.underlying33 rfl F (by rw [hFl.out]; exact node_size) hcF.out ?_) | (refine wpList_alloc_as 33 rfl rfl Z.toArray hZz.out ?_; rw [hnb'.out]) | (refine wpList_store_whole 33 rfl rfl rfl F rfl (by rw [hFl.out]; exact node_size) 33 _ (by rw [← hnb'.out]; exact heap_alloc_new _ _) (by simp [hFl.out, hZl.out]) hF1.out ?_; rw [hw3'.out]))
        go_ret
        exact ⟨rfl, k1'.out.trans O3.out.kept⟩
      have hb20 : ¬ ((20 : Int) < (n.ents.length : Int)) := by omega
      go_wp2_with (first | (refine wpList_load_agg 33 rfl rfl rfl _ Try.underlying33 rfl F (by rw [hFl.out]; exact node_size) hcF.out ?_) | (refine wpList_alloc_as 33 rfl rfl Z.toArray hZz.out ?_; rw [hnb'.out]) | (refine wpList_store_whole 33 rfl rfl rfl F rfl (by rw [hFl.out]; exact node_size) 33 _ (by rw [← hnb'.out]; exact heap_alloc_new _ _) (by simp [hFl.out, hZl.out]) hF1.out ?_; rw [hw3'.out]))
      go_loopw [6, 36] (fun t y wr2 => ∃ j : Nat, j ≤ n.ents.length ∧ y = .int .i64 j ∧ t = .bool ((n.ents.take j).all fun x => M.pool.heldB x.2) ∧ Hid (Kept (fun _ => False) w3 wr2)) (fun _ y _ => n.ents.length - (intOf y).toNat)
      case atStart => exact ⟨0, Nat.zero_le _, rfl, rfl, Lib.hid (Kept.refl _ _)⟩
      case round =>
        obtain ⟨j, hj, rfl, rfl, hk2⟩ := hrel
        obtain ⟨tb, htb⟩ : ∃ tb, ((n.ents.take j).all fun x => M.pool.heldB x.2) = tb := ⟨_, rfl⟩
        rw [htb]
        have htb' := Lib.hid htb
        clear htb
        by_cases hltj : j < n.ents.length
        · obtain ⟨x, hx⟩ : ∃ x, n.ents[j]? = some x := ⟨_, List.getElem?_eq_getElem hltj⟩
          obtain ⟨eg, eo, rfl, hbl, hx1, hx2⟩ := EntsAt.get (SliceAt.fresh N3.out.ents hk2.out) hx
          have hji : (j : Int) < (n.ents.length : Int) := by omega
          have lx : Hid (∀ q v, [Value.int .i64 x.1, .int .i64 x.2][q]? = some v → wr.cell? ⟨eg, eo + j * 2 + q, none⟩ = some v) := Lib.hid (fun q v hq => by
            match q, hq with
            | 0, hq => cases hq; exact hx1
            | 1, hq => cases hq; exact hx2)
          obtain ⟨eb, heb⟩ : ∃ eb, wr.heap.size = eb := ⟨_, rfl⟩
          obtain ⟨w4, hw4⟩ : ∃ w4, (wr.alloc (.cells #[.int .i64 0, .int .i64 0] 35)).setRow eb #[.int .i64 x.1, .int .i64 x.2] = w4 := ⟨_, rfl⟩
          have k4 : Kept (fun _ => False) wr w4 := by rw [← hw4]; exact ((Kept.refl _ _).alloc _).setRowNew (by omega) _
          have x4 : w4.heap[eb]? = some (.cells #[.int .i64 x.1, .int .i64 x.2] 35 (0, 0)) := by rw [← hw4, ← heb]; exact setRow_heap _ _ _ _ _ _ (heap_alloc_new _ _)
          have ce1 := cell_of_heap x4 1
          simp at ce1
          have K4 := Lib.hid (hk2.out.trans k4)
          have hg := get_any (O3.out.fresh K4.out).store x.2
          rw [hsb'.out] at hg
          have hheld := hW'.out.get x.2
          have hnext : Hid (((n.ents.take (j + 1)).all fun x => M.pool.heldB x.2) = (tb && M.pool.heldB x.2)) := Lib.hid (by rw [List.take_add_one, hx, List.all_append, htb'.out]; simp)
          obtain ⟨N, hNe⟩ : ∃ N, M.get x.2 = N := ⟨_, rfl⟩
          rw [hNe] at hg hheld
          obtain ⟨m, er⟩ := N
          dsimp only at hg hheld
          have hg' := Lib.hid hg
          have hheld' := Lib.hid hheld
          have hw4' := Lib.hid hw4
          have heb' := Lib.hid heb
          obtain ⟨x0, x1⟩ := x
          dsimp only at *
          clear hx hx1 hx2 hw4 heb k4 x4 hg hNe hheld
          go_wp2_with (first | (refine wpList_alloc_as 35 rfl rfl #[.int .i64 0, .int .i64 0] entry_zero ?_; rw [heb'.out]) | (refine wpList_load_agg 35 rfl rfl rfl _ Try.underlying35 rfl [.int .i64 x0, .int .i64 x1] (by kernel_rfl) lx.out ?_) | (refine wpList_store_whole 35 rfl rfl rfl [.int .i64 x0, .int .i64 x1] rfl entry_size 35 #[.int .i64 0, .int .i64 0] (by rw [← heb'.out]; exact heap_alloc_new _ _) rfl (by intro c hc; simp at hc; rcases hc with rfl | rfl <;> rfl) ?_; rw [hw4'.out]))
          refine hg'.out.mono ?_
          rintro e w5 ⟨v5, rfl, hown5, hk5⟩
          obtain ⟨A5, c5, rfl, _⟩ := EntsAt.form (show EntsAt w5 v5 m.ents from SliceAt.of_owns hown5)
          obtain ⟨G, hG⟩ : ∃ G, nodeCells m (.slice A5 m.ents.length c5) = G := ⟨_, rfl⟩
          have hGl : Hid (G.length = 18) := Lib.hid (by rw [← hG]; exact nodeCells_len _ _)
          have hG1 : Hid (∀ v ∈ G, v.oneCell' = true) := Lib.hid (by rw [← hG]; exact nodeCells_one _ _ _ _)
          obtain ⟨mb, hmb⟩ : ∃ mb, w5.heap.size = mb := ⟨_, rfl⟩
          obtain ⟨w6, hw6⟩ : ∃ w6, (w5.alloc (.cells Z.toArray 33)).setRow mb G.toArray = w6 := ⟨_, rfl⟩
          have k6 : Kept (fun _ => False) w5 w6 := by rw [← hw6]; exact ((Kept.refl _ _).alloc _).setRowNew (by omega) _
          have K6 := Lib.hid ((K4.out.trans hk5).trans k6)
          have hmb' := Lib.hid hmb
          have hw6' := Lib.hid hw6
          rw [hG]
          clear hown5 hk5 hG hmb hw6 k6
          obtain ⟨hb, hhb⟩ : ∃ hb, M.pool.heldB x1 = hb := ⟨_, rfl⟩
          rw [hhb] at hnext hheld'
          by_cases h0 : er = 0
          · subst h0
            obtain rfl : hb = true := hheld'.out.1 rfl
            have hfin : Hid (((n.ents.take (j + 1)).all fun x => M.pool.heldB x.2) = tb) := Lib.hid (by rw [hnext.out, Bool.and_true])
            clear hhb
            cases tb
            all_goals
              go_wp2_with (first | (refine wpList_alloc_as 33 rfl rfl Z.toArray hZz.out ?_; rw [hmb'.out]) | (refine wpList_store_whole 33 rfl rfl rfl G rfl (by rw [hGl.out]; exact node_size) 33 _ (by rw [← hmb'.out]; exact heap_alloc_new _ _) (by simp [hGl.out, hZl.out]) hG1.out ?_; rw [hw6'.out]))
              go_roundw
              case rel => exact ⟨j + 1, by omega, by go_num, by rw [hfin.out], K6⟩
              case measure => simp [intOf]; omega
          · have hbf : hb = false := by
              cases hb with
              | false => rfl
              | true => exact absurd (hheld'.out.2 rfl) h0
            subst hbf
            have h0' : ((er : Int) == 0) = false := by rw [beq_eq_false_iff_ne]; omega
            have hfin : Hid (((n.ents.take (j + 1)).all fun x => M.pool.heldB x.2) = false) := Lib.hid (by rw [hnext.out, Bool.and_false])
            clear hhb h0
            cases tb
            all_goals
              go_wp2_with (first | (refine wpList_alloc_as 33 rfl rfl Z.toArray hZz.out ?_; rw [hmb'.out]) | (refine wpList_store_whole 33 rfl rfl rfl G rfl (by rw [hGl.out]; exact node_size) 33 _ (by rw [← hmb'.out]; exact heap_alloc_new _ _) (by simp [hGl.out, hZl.out]) hG1.out ?_; rw [hw6'.out]))
              go_roundw
              case rel => exact ⟨j + 1, by omega, by go_num, by rw [hfin.out], K6⟩
              case measure => simp [intOf]; omega
        · obtain rfl : j = n.ents.length := by omega
          rw [List.take_length] at htb'
          have O4 := Lib.hid (O3.out.fresh hk2.out)
          have N4 := Lib.hid (N3.out.fresh hk2.out)
          have bx4 := Lib.hid (bx3'.out.kept hk2.out id)
          have sf4 := Lib.hid (sf3.out.fresh hk2.out)
          have E4 := Lib.hid (⟨N4.out.ents, fun hne b hb => ⟨N4.out.old hne b hb, fun e => by have h1 := hold.out hne b hb; have h2 := O4.out.new b (.inl e); omega⟩⟩ : EntsOff wr A (.slice Av n.ents.length cv) n.ents)
          have hM := storeMark O4.out.store
          rw [hsb'.out] at hM
          have hM' := Lib.hid hM
          clear hM
          go_wp2_with fail
          refine hM'.out.mono ?_
          rintro e w5 ⟨c, rfl, hT5, hpo5⟩
          have O5 : Hid (OwnStore w1 A (markM M) w5) := Lib.hid (O4.out.to hT5)
          have P5 := Lib.hid hpo5
          have bx5 := Lib.hid (⟨hT5.get bx4.out.heap sf4.out⟩ : NodeBox w5 nb n (.slice Av n.ents.length cv))
          have q5 := Lib.hid (show w5.heap[nb]? = some (.cells F.toArray 33 (0, 0)) by rw [← hF'.out]; exact bx5.out.heap)
          have sf5 := Lib.hid (sf4.out.to hT5)
          have E5 := Lib.hid (E4.out.to hT5)
          have hP5 := storePool O5.out.store
          rw [hsb'.out] at hP5
          have hP5' := Lib.hid hP5
          have hF5' := Lib.hid (freeCount_any O5.out.store.pool)
          have hmk := storeMake O5.out.store E5.out N4.out.len N4.out.bytes (by show M.log.length < 100000000; omega)
          rw [hsb'.out, hF'.out] at hmk
          have hall := back_all hW'.out O5.out.store.pool.hcnt (n := n)
          rw [htb'.out] at hall
          obtain ⟨R, hR⟩ : ∃ R, (markM M).make n = R := ⟨_, rfl⟩
          rw [hR] at hmk
          simp only [hR] at hall
          obtain ⟨M1, pg, er⟩ := R
          dsimp only at hmk hall
          have hmk' := Lib.hid hmk
          have hall' := Lib.hid hall
          clear hT5 hpo5 hP5 hmk hall hR
          go_wp2_with fail
          refine hP5'.out.mono ?_
          rintro e w6 ⟨rfl, rfl⟩
          go_wp2_with fail
          refine hF5'.out.mono ?_
          rintro e w6 ⟨rfl, rfl⟩
          go_wp2_with (first | (refine wpList_load_agg 33 rfl rfl rfl _ Try.underlying33 rfl F (by rw [hFl.out]; exact node_size) (fun j v hv => by rw [cell_of_heap q5.out, Nat.zero_add]; simpa using hv) ?_))
          refine hmk'.out.mono ?_
          rintro e w6 ⟨A6, rfl, hT6⟩
          have O6 := Lib.hid (O5.out.to hT6)
          have hsb6 := Lib.hid (hT6.sb.trans hsb'.out)
          have P6 := Lib.hid (P5.out.to hT6)
          have bx6 := Lib.hid (⟨hT6.get bx5.out.heap sf5.out⟩ : NodeBox w6 nb n (.slice Av n.ents.length cv))
          have q6 := Lib.hid (show w6.heap[nb]? = some (.cells F.toArray 33 (0, 0)) by rw [← hF'.out]; exact bx6.out.heap)
          have sf6 := Lib.hid (sf5.out.to hT6)
          have E6 := Lib.hid (E5.out.to hT6)
          have hr8 := right08 E6.out.at_ N4.out.len (by omega)
          rw [hF'.out] at hr8
          have hr8' := Lib.hid hr8
          clear hT6 hr8
          go_wp2_with (first | (refine wpList_load_agg 33 rfl rfl rfl _ Try.underlying33 rfl F (by rw [hFl.out]; exact node_size) (fun j v hv => by rw [cell_of_heap q6.out, Nat.zero_add]; simpa using hv) ?_))
          refine hr8'.out.mono ?_
          rintro e w7 ⟨rfl, hk7⟩
          have O7 := Lib.hid (O6.out.fresh hk7)
          have P7 := Lib.hid (P6.out.fresh hk7)
          have bx7 := Lib.hid (bx6.out.kept hk7 id)
          have q7 := Lib.hid (show w7.heap[nb]? = some (.cells F.toArray 33 (0, 0)) by rw [← hF'.out]; exact bx7.out.heap)
          have sf7 := Lib.hid (sf6.out.fresh hk7)
          have E7 := Lib.hid (E6.out.fresh hk7)
          clear hk7
          obtain ⟨room, hroom⟩ : ∃ room, (markM M).pool.freeCount = room := ⟨_, rfl⟩
          rw [hroom] at hall' ⊢
          rcases hall'.out with ⟨hr, hm, hp, he⟩ | ⟨hr, ht, hm, hp, he⟩ | ⟨hr, ht, hf, hm, hp, he⟩ | ⟨hr, ht, hf, i, hp, he, hg, hh, hw2, hl2⟩ | ⟨hr, ht, hf, he⟩
          · subst hm hp he
            rw [hr]
            clear hr
            have hU := storeUndo O7.out.store P7.out.pool rfl
            rw [hsb6.out] at hU
            have hU' := Lib.hid hU
            clear hU
            go_wp2_with fail
            refine hU'.out.mono ?_
            rintro e w8 ⟨v8, A8, rfl, hT8⟩
            have O8 : Hid (OwnStore w1 A8 (markM M) w8) := Lib.hid (O7.out.to hT8)
            have hsb8 := Lib.hid (hT8.sb.trans hsb6.out)
            have hP8 := storePool O8.out.store
            rw [hsb8.out] at hP8
            have hP8' := Lib.hid hP8
            have hF8' := Lib.hid (freeCount_any O8.out.store.pool)
            have fin : Hid (∃ A M, OwnStore w1 A M w8 ∧ A.sb = sb ∧ Written M ∧ M.log.length ≤ k + 1) := Lib.hid ⟨A8, markM M, O8.out, hsb8.out, hW'.out.mark, Nat.le_succ_of_le hlog⟩
            clear hT8 hP8
            go_wp2_with fail
            refine hP8'.out.mono ?_
            rintro e w9 ⟨rfl, rfl⟩
            go_wp2_with fail
            refine hF8'.out.mono ?_
            rintro e w9 ⟨rfl, rfl⟩
            go_wp2_with fail
            go_roundw
            case rel => exact ⟨k + 1, by omega, by go_num, fin⟩
            case measure => simp [intOf]; omega
          · subst ht hm hp he
            rw [hr]
            clear hr
            have hU := storeUndo O7.out.store P7.out.pool rfl
            rw [hsb6.out] at hU
            have hU' := Lib.hid hU
            clear hU
            go_wp2_with fail
            refine hU'.out.mono ?_
            rintro e w8 ⟨v8, A8, rfl, hT8⟩
            have O8 : Hid (OwnStore w1 A8 (markM M) w8) := Lib.hid (O7.out.to hT8)
            have hsb8 := Lib.hid (hT8.sb.trans hsb6.out)
            have hP8 := storePool O8.out.store
            rw [hsb8.out] at hP8
            have hP8' := Lib.hid hP8
            have hF8' := Lib.hid (freeCount_any O8.out.store.pool)
            have fin : Hid (∃ A M, OwnStore w1 A M w8 ∧ A.sb = sb ∧ Written M ∧ M.log.length ≤ k + 1) := Lib.hid ⟨A8, markM M, O8.out, hsb8.out, hW'.out.mark, Nat.le_succ_of_le hlog⟩
            clear hT8 hP8
            go_wp2_with fail
            refine hP8'.out.mono ?_
            rintro e w9 ⟨rfl, rfl⟩
            go_wp2_with fail
            refine hF8'.out.mono ?_
            rintro e w9 ⟨rfl, rfl⟩
            go_wp2_with fail
            go_roundw
            case rel => exact ⟨k + 1, by omega, by go_num, fin⟩
            case measure => simp [intOf]; omega
          · subst ht hf hm hp he
            rw [hr]
            clear hr
            have hU := storeUndo O7.out.store P7.out.pool rfl
            rw [hsb6.out] at hU
            have hU' := Lib.hid hU
            clear hU
            go_wp2_with fail
            refine hU'.out.mono ?_
            rintro e w8 ⟨v8, A8, rfl, hT8⟩
            have O8 : Hid (OwnStore w1 A8 (markM M) w8) := Lib.hid (O7.out.to hT8)
            have hsb8 := Lib.hid (hT8.sb.trans hsb6.out)
            have hP8 := storePool O8.out.store
            rw [hsb8.out] at hP8
            have hP8' := Lib.hid hP8
            have hF8' := Lib.hid (freeCount_any O8.out.store.pool)
            have fin : Hid (∃ A M, OwnStore w1 A M w8 ∧ A.sb = sb ∧ Written M ∧ M.log.length ≤ k + 1) := Lib.hid ⟨A8, markM M, O8.out, hsb8.out, hW'.out.mark, Nat.le_succ_of_le hlog⟩
            clear hT8 hP8
            go_wp2_with fail
            refine hP8'.out.mono ?_
            rintro e w9 ⟨rfl, rfl⟩
            go_wp2_with fail
            refine hF8'.out.mono ?_
            rintro e w9 ⟨rfl, rfl⟩
            go_wp2_with fail
            go_roundw
            case rel => exact ⟨k + 1, by omega, by go_num, fin⟩
            case measure => simp [intOf]; omega
          · subst ht hp he
            rw [hr]
            have hf0 : ((room : Int) == 0) = false := by rw [beq_eq_false_iff_ne]; omega
            have hg2 := get_any O7.out.store i
            rw [hg, hsb6.out] at hg2
            dsimp only at hg2
            have hg2' := Lib.hid hg2
            have hh' := Lib.hid hh
            have hw2' := Lib.hid hw2
            have hl2' := Lib.hid hl2
            clear hr hf hg hh hw2 hl2 hg2
            go_wp2_with fail
            refine hg2'.out.mono ?_
            rintro e w8 ⟨v8, rfl, hown8, hk8⟩
            have hE8 : EntsAt w8 v8 n.ents := SliceAt.of_owns hown8
            obtain ⟨A8, c8, rfl, _⟩ := EntsAt.form hE8
            obtain ⟨G, hG⟩ : ∃ G, nodeCells n (.slice A8 n.ents.length c8) = G := ⟨_, rfl⟩
            have hGl : Hid (G.length = 18) := Lib.hid (by rw [← hG]; exact nodeCells_len _ _)
            have hG1 : Hid (∀ v ∈ G, v.oneCell' = true) := Lib.hid (by rw [← hG]; exact nodeCells_one _ _ _ _)
            obtain ⟨mb, hmb⟩ : ∃ mb, w8.heap.size = mb := ⟨_, rfl⟩
            obtain ⟨w9, hw9⟩ : ∃ w9, (w8.alloc (.cells Z.toArray 33)).setRow mb G.toArray = w9 := ⟨_, rfl⟩
            have k9 : Kept (fun _ => False) w8 w9 := by rw [← hw9]; exact ((Kept.refl _ _).alloc _).setRowNew (by omega) _
            have g9 := Lib.hid (show w9.heap[mb]? = some (.cells G.toArray 33 (0, 0)) by rw [← hw9, ← hmb]; exact setRow_heap _ _ _ _ _ _ (heap_alloc_new _ _))
            have K9 := Lib.hid (hk8.trans k9)
            have q9 := Lib.hid (K9.out.get q7.out id)
            have hs := same08 (SliceAt.fresh hE8 k9) (E7.out.fresh K9.out).at_ (by omega)
            rw [hG, hF'.out] at hs
            have hs' := Lib.hid hs
            have O9 := Lib.hid (O7.out.fresh K9.out)
            have hmb' := Lib.hid hmb
            have hw9' := Lib.hid hw9
            rw [hG]
            clear hown8 hk8 hE8 hG hmb hw9 k9 hs
            go_wp2_with (first | (refine wpList_alloc_as 33 rfl rfl Z.toArray hZz.out ?_; rw [hmb'.out]) | (refine wpList_store_whole 33 rfl rfl rfl G rfl (by rw [hGl.out]; exact node_size) 33 _ (by rw [← hmb'.out]; exact heap_alloc_new _ _) (by simp [hGl.out, hZl.out]) hG1.out ?_; rw [hw9'.out]) | (refine wpList_exec_g (by rfl) (exec_load_agg (g := mb) (off := 0) rfl (by rfl) G Try.underlying33 rfl (by rw [hGl.out]; exact node_size) (fun j v hv => by rw [cell_of_heap g9.out, Nat.zero_add]; simpa using hv)) ?_) | (refine wpList_exec_g (by rfl) (exec_load_agg (g := nb) (off := 0) rfl (by rfl) F Try.underlying33 rfl (by rw [hFl.out]; exact node_size) (fun j v hv => by rw [cell_of_heap q9.out, Nat.zero_add]; simpa using hv)) ?_))
            refine hs'.out.mono ?_
            rintro e w10 ⟨rfl, hk10⟩
            have O10 := Lib.hid (O9.out.fresh hk10)
            have hhd := storeHold O10.out.store i
            rw [hh'.out, hsb6.out] at hhd
            have hhd' := Lib.hid hhd
            clear hk10 hhd
            go_wp2_with fail
            refine hhd'.out.mono ?_
            rintro e w11 ⟨rfl, hT11⟩
            have fin : Hid (∃ A M, OwnStore w1 A M w11 ∧ A.sb = sb ∧ Written M ∧ M.log.length ≤ k + 1) := Lib.hid ⟨A6, _, O10.out.to hT11, hsb6.out, hw2'.out, by rw [hl2'.out]; exact Nat.succ_le_succ hlog⟩
            clear hT11
            go_wp2_with fail
            go_roundw
            case rel => exact ⟨k + 1, by omega, by go_num, fin⟩
            case measure => simp [intOf]; omega
          · subst ht he
            rw [hr]
            have hf0 : ((room : Int) == 0) = false := by rw [beq_eq_false_iff_ne]; omega
            clear hr hf
            go_wp2_with fail
            go_ret
            exact ⟨rfl, k1'.out.trans O7.out.kept⟩
    · obtain rfl : k = l.length := by omega
      have hkk : Hid (Kept (fun _ => False) w1 wr) := Lib.hid (by obtain ⟨A, M, hO, _⟩ := hI.out; exact hO.kept)
      clear hI
      go_wp2_with fail
      go_ret
      exact ⟨rfl, k1'.out.trans hkk.out⟩
end Go.Proofs.Ythmjcbmeiabbgaa.nodesBack
/-
  Nodes that came in: a slice of structs of an int, an array of bytes and a slice of entries.
-/
namespace Go.Proofs.Ythmjcbmeiabbgaa
open Go.ChangeShapes Go.WideShapes Go.ChangeAt Go.RowKit
set_option maxRecDepth 100000
section
variable {H : Type} {enc : TypeId × Value → H} {W : World}

theorem open_pairs_trod {t e f1 f2 : TypeId} {fs : Array Field} (ht : Try.prog.underlying t = some (.slice e)) (he : Try.prog.underlying e = some (.struct fs)) (hfs : fs.size = 2)
    (h1 : (fs[0]?).map (fun f => (f.type, f.offset)) = some (f1, 0)) (h2 : (fs[1]?).map (fun f => (f.type, f.offset)) = some (f2, 1)) (hf1 : Try.prog.underlying f1 = some (.int .i64)) (hf2 : Try.prog.underlying f2 = some (.int .i64))
    (hc1 : Try.prog.cellsOf f1 = 1) (hc2 : Try.prog.cellsOf f2 = 1) (hce : Try.prog.cellsOf e = 2)
    {fuel : Nat} {cs : List Value} {z : DataW H × List MemPlace} (hf : DataW.trod enc Try.prog W 0 (fun _ => true) true fuel t cs = some z) :
    ∃ v l, cs = [v] ∧ PairsAt W v l := by
  rcases Deep.open_slice ht hf with ⟨hcs, _⟩ | ⟨a, len, cap, m, n, D, Pl, hcs, _, hl, hm, hmm, _, hx⟩
  · exact ⟨_, [], hcs, ⟨_, _, rfl, by simp, by simp [maxLen], by simp⟩, by simp⟩
  · refine ⟨.slice (some a) len cap, ?_⟩
    simp only [if_true] at hmm
    subst hmm
    rw [hce] at hx
    have key : ∀ i, i < len → ∃ x : Int × Int, ((-9223372036854775808 ≤ x.1 ∧ x.1 ≤ 9223372036854775807) ∧ (-9223372036854775808 ≤ x.2 ∧ x.2 ≤ 9223372036854775807)) ∧
        ∃ b off, a = ⟨b, off, none⟩ ∧ b < W.heap.size ∧ W.cell? ⟨b, off + i * 2, none⟩ = some (.int .i64 x.1) ∧ W.cell? ⟨b, off + i * 2 + 1, none⟩ = some (.int .i64 x.2) := by
      intro i hi
      obtain ⟨cs', hcs', htr⟩ := hx i (by omega)
      obtain ⟨_, hlen, hcell⟩ := World.cells?_some hcs'
      obtain ⟨xs, n', _, _, _, hxl, hfld⟩ := DataW.trod_struct he htr
      obtain ⟨F1, hF1, e1⟩ : ∃ F, fs[0]? = some F ∧ (F.type, F.offset) = (f1, 0) := by
        cases hq : fs[0]? with
        | none => simp [hq] at h1
        | some F => exact ⟨F, rfl, by simpa [hq] using h1⟩
      obtain ⟨F2, hF2, e2⟩ : ∃ F, fs[1]? = some F ∧ (F.type, F.offset) = (f2, 1) := by
        cases hq : fs[1]? with
        | none => simp [hq] at h2
        | some F => exact ⟨F, rfl, by simpa [hq] using h2⟩
      simp only [Prod.mk.injEq] at e1 e2
      have g1 := hfld 0 F1 hF1
      have g2 := hfld 1 F2 hF2
      rw [e1.1, e1.2, hc1, List.getElem?_eq_getElem (by omega : 0 < xs.length)] at g1
      rw [e2.1, e2.2, hc2, List.getElem?_eq_getElem (by omega : 1 < xs.length)] at g2
      obtain ⟨q1, hq1, _, hw1⟩ := DataW.trod_int hf1 g1
      obtain ⟨q2, hq2, _, hw2⟩ := DataW.trod_int hf2 g2
      have c1 : cs'[0]? = some (.int .i64 q1) := by
        have : (List.take 1 (List.drop 0 cs'))[0]? = some (.int .i64 q1) := by rw [hq1]; rfl
        simpa using this
      have c2 : cs'[1]? = some (.int .i64 q2) := by
        have : (List.take 1 (List.drop 1 cs'))[0]? = some (.int .i64 q2) := by rw [hq2]; rfl
        simpa using this
      have w1 := hcell 0 (by omega)
      have w2 := hcell 1 (by omega)
      rw [c1] at w1
      rw [c2] at w2
      have hz : (a.add (i * 2)).add 0 = a.add (i * 2) := by simp [Addr.add]
      rw [hz] at w1
      obtain ⟨b, off, spot⟩ := a
      have hs : spot = none := by
        obtain ⟨v0, hv0⟩ : ∃ v0, W.cell? ((⟨b, off, spot⟩ : Addr).add 0) = some v0 := by
          obtain ⟨cs0, hcs0, htr0⟩ := hx 0 (by omega)
          obtain ⟨_, hlen0, hcell0⟩ := World.cells?_some hcs0
          have := hcell0 0 (by omega)
          have e : ((⟨b, off, spot⟩ : Addr).add (0 * 2)).add 0 = (⟨b, off, spot⟩ : Addr).add 0 := by simp [Addr.add]
          rw [e, List.getElem?_eq_getElem (by omega)] at this
          exact ⟨_, this⟩
        have := World.cell?_spot hv0
        simpa [Addr.add] using this
      subst hs
      have a1 : (⟨b, off, none⟩ : Addr).add (i * 2) = ⟨b, off + i * 2, none⟩ := by unfold Addr.add; split <;> simp_all
      have a2 : (⟨b, off + i * 2, none⟩ : Addr).add 1 = ⟨b, off + i * 2 + 1, none⟩ := rfl
      rw [a1] at w1 w2
      rw [a2] at w2
      exact ⟨(q1, q2), ⟨wf_i64 hw1, wf_i64 hw2⟩, b, off, rfl, World.block_lt_of_cell? W _ w1, w1, w2⟩
    obtain ⟨X, hX⟩ := Deep.choose_lt key
    refine ⟨(List.range len).map X, hcs, ⟨some a, _, by rw [List.length_map, List.length_range], by simpa using hl, hm, ?_⟩, ?_⟩
    · intro i x hi
      have hil : i < len := by have := (List.getElem?_eq_some_iff.1 hi).1; simpa using this
      have : x = X i := by simpa [hil] using hi.symm
      subst this
      obtain ⟨b, off, ha, hr⟩ := (hX i hil).2
      exact ⟨b, off, by rw [ha], hr⟩
    · intro x hx'
      simp only [List.mem_map, List.mem_range] at hx'
      obtain ⟨i, hi, rfl⟩ := hx'
      exact (hX i hi).1
theorem PairsAt.ents {v : Value} {l : List (Int × Int)} (h : PairsAt W v l) : EntsAt W v l := by
  obtain ⟨A, cap, rfl, h1, h2, h3⟩ := h.val
  refine ⟨entCells_len _, A, cap, rfl, h1, h2, fun j u hj => ?_⟩
  have hjl := (List.getElem?_eq_some_iff.1 hj).1
  rw [entCells_len] at hjl
  obtain ⟨x, hx⟩ : ∃ x, l[j / 2]? = some x := ⟨_, List.getElem?_eq_getElem (by omega)⟩
  obtain ⟨g1, g2⟩ := entCells_get l (j / 2) x hx
  obtain ⟨b, off, hA, _, c1, c2⟩ := h3 (j / 2) x hx
  refine ⟨b, off, hA, ?_⟩
  rcases Nat.mod_two_eq_zero_or_one j with e | e
  · have e2 : j = j / 2 * 2 := by omega
    rw [e2, g1] at hj
    cases hj
    rw [e2]; exact c1
  · have e2 : j = j / 2 * 2 + 1 := by omega
    rw [e2, g2] at hj
    cases hj
    rw [e2, ← Nat.add_assoc]; exact c2
theorem PairsAt.old {v : Value} {l : List (Int × Int)} (h : PairsAt W v l) (hl : l ≠ []) : ∀ b, v.ownBlock = some b → b < W.heap.size := by
  obtain ⟨A, cap, rfl, h1, h2, h3⟩ := h.val
  intro b hb
  obtain ⟨x, hx⟩ : ∃ x, l[0]? = some x := ⟨_, List.getElem?_eq_getElem (List.length_pos_iff.2 hl)⟩
  obtain ⟨b', off, rfl, hlt, _⟩ := h3 0 x hx
  simp [Value.ownBlock] at hb
  rw [← hb]; exact hlt
theorem open_block_trod {t e : TypeId} (ht : Try.prog.underlying t = some (.array 16 e)) (he : Try.prog.underlying e = some (.int .u8)) (hc : Try.prog.cellsOf e = 1) (hn : Try.prog.cellsOf t = 16)
    {fuel : Nat} {cs : List Value} {z : DataW H × List MemPlace} (hf : DataW.trod enc Try.prog W 0 (fun _ => true) true fuel t cs = some z) :
    ∃ bl : List Nat, bl.length = 16 ∧ (∀ b ∈ bl, b < 256) ∧ cs = blockCells bl := by
  obtain ⟨xs, m, _, _, hlen, hxl, hx⟩ := DataW.trod_array ht hf
  rw [hn] at hlen
  have key : ∀ i, i < 16 → ∃ k : Nat, k ≤ 255 ∧ cs[i]? = some (.int .u8 k) := by
    intro i hi
    have h1 := hx i hi
    rw [hc, Nat.mul_one, List.getElem?_eq_getElem (by omega : i < xs.length)] at h1
    obtain ⟨q, hq, _, hw⟩ := DataW.trod_int he h1
    have hb := wf_u8 hw
    obtain ⟨k, rfl⟩ := Int.eq_ofNat_of_zero_le hb.1
    refine ⟨k, by omega, ?_⟩
    have : (List.take 1 (List.drop i cs))[0]? = some (.int .u8 k) := by rw [hq]; rfl
    simpa using this
  obtain ⟨c, hcc⟩ := Deep.choose_lt (α := Nat) (p := fun i k => k ≤ 255 ∧ cs[i]? = some (.int .u8 k)) key
  refine ⟨(List.range 16).map c, by simp, fun b hb => ?_, ?_⟩
  · obtain ⟨i, hi, rfl⟩ := List.mem_map.1 hb
    have := (hcc i (List.mem_range.1 hi)).1
    omega
  · apply List.ext_getElem?
    intro i
    by_cases hi : i < 16
    · rw [(hcc i hi).2]
      simp [blockCells, hi]
    · rw [List.getElem?_eq_none (by omega), List.getElem?_eq_none (by rw [blockCells_len]; omega)]
theorem node_cells {cs : List Value} {q : Int} {bl : List Nat} {l : List (Int × Int)} {sv : Value} (hl : cs.length = 18) (h0 : cs[0]? = some (.int .i64 q)) (h1 : (cs.drop 1).take 16 = blockCells bl) (h2 : cs[17]? = some sv) : cs = nodeCells ⟨q, bl, l⟩ sv := by
  match cs, hl, h0, h1, h2 with
  | c :: cs, hl, h0, h1, h2 =>
    simp at h0
    subst h0
    unfold nodeCells
    rw [← h1]
    simp only [List.drop_succ_cons, List.drop_zero]
    have : cs.drop 16 = [sv] := by
      have hl' : cs.length = 17 := by simpa using hl
      have h2' : cs[16]? = some sv := by simpa using h2
      rw [List.drop_eq_getElem_cons (by omega : 16 < cs.length), List.drop_eq_nil_of_le (by omega)]
      rw [List.getElem?_eq_getElem (by omega)] at h2'
      injection h2' with e
      rw [e]
    rw [← this, List.take_append_drop]
instance : Inhabited NM := ⟨.zero⟩
open nodesBack (NodesIn NodeIn) in
theorem open_nodes {base : Nat} {v : Value} {d : DataW H} {p : List MemPlace} (hv : Value.okWide Try.prog W .any base 66 v) (h : DataW.Trod enc Try.prog W 0 (fun _ => true) true 66 v d p) :
    ∃ l, NodesIn W v l := by
  obtain ⟨A, len, cap, rfl⟩ := okWide_slice Try.underlying66 hv
  obtain ⟨fuel, hf⟩ := h
  rcases Deep.open_slice Try.underlying66 hf with ⟨hcs, _⟩ | ⟨a, len', cap', m, n, D, Pl, hcs, _, hl, hm, hmm, _, hx⟩
  · simp only [Value.cells, List.cons.injEq, and_true] at hcs
    injection hcs with e1 e2 e3
    subst e1 e2 e3
    exact ⟨[], _, _, rfl, by simp, by simp [maxLen], by simp⟩
  · simp only [Value.cells, List.cons.injEq, and_true] at hcs
    injection hcs with e1 e2 e3
    subst e1 e2 e3
    simp only [if_true] at hmm
    subst hmm
    have hce : Try.prog.cellsOf 33 = 18 := by kernel_rfl
    have hc0 : Try.prog.cellsOf 3 = 1 := by kernel_rfl
    have hc1 : Try.prog.cellsOf 30 = 16 := by kernel_rfl
    have hc2 : Try.prog.cellsOf 31 = 1 := by kernel_rfl
    rw [hce] at hx
    have key : ∀ i, i < len → ∃ x : NM × Value, ∃ b off, a = ⟨b, off, none⟩ ∧ b < W.heap.size ∧ NodeIn W b (off + i * 18) x.1 x.2 := by
      intro i hi
      obtain ⟨cs', hcs', htr⟩ := hx i (by omega)
      obtain ⟨_, hlen, hcell⟩ := World.cells?_some hcs'
      obtain ⟨xs, n', _, _, hl18, hxl, hfld⟩ := DataW.trod_struct Try.underlying33 htr
      have hxl3 : xs.length = 3 := hxl
      have g0 := hfld 0 _ rfl
      have g1 := hfld 1 _ rfl
      have g2 := hfld 2 _ rfl
      change DataW.trod enc Try.prog W 0 (fun _ => true) true n' 3 ((cs'.drop 0).take (Try.prog.cellsOf 3)) = _ at g0
      change DataW.trod enc Try.prog W 0 (fun _ => true) true n' 30 ((cs'.drop 1).take (Try.prog.cellsOf 30)) = _ at g1
      change DataW.trod enc Try.prog W 0 (fun _ => true) true n' 31 ((cs'.drop 17).take (Try.prog.cellsOf 31)) = _ at g2
      rw [hc0] at g0
      rw [hc1] at g1
      rw [hc2] at g2
      rw [List.getElem?_eq_getElem (by omega : 0 < xs.length)] at g0
      rw [List.getElem?_eq_getElem (by omega : 1 < xs.length)] at g1
      rw [List.getElem?_eq_getElem (by omega : 2 < xs.length)] at g2
      obtain ⟨q, hq, _, _⟩ := DataW.trod_int Try.underlying3 g0
      obtain ⟨bl, hb1, hb2, hb3⟩ := open_block_trod Try.underlying30 Try.underlying5 (by kernel_rfl) (by kernel_rfl) g1
      obtain ⟨sv, l, hs1, hP⟩ := open_pairs_trod Try.underlying31 Try.underlying35 rfl rfl rfl Try.underlying3 Try.underlying3 (by kernel_rfl) (by kernel_rfl) (by kernel_rfl) g2
      have c0 : cs'[0]? = some (.int .i64 q) := by
        have : (List.take 1 (List.drop 0 cs'))[0]? = some (.int .i64 q) := by rw [hq]; rfl
        simpa using this
      have c17 : cs'[17]? = some sv := by
        have : (List.take 1 (List.drop 17 cs'))[0]? = some sv := by rw [hs1]; rfl
        simpa using this
      have hcs2 := node_cells (l := l) (by rw [hl18]; exact hce) c0 hb3 c17
      obtain ⟨b, off, spot⟩ := a
      have hs : spot = none := by
        obtain ⟨v0, hv0⟩ : ∃ v0, W.cell? ((⟨b, off, spot⟩ : Addr).add 0) = some v0 := by
          obtain ⟨cs0, hcs0, htr0⟩ := hx 0 (by omega)
          obtain ⟨_, hlen0, hcell0⟩ := World.cells?_some hcs0
          have := hcell0 0 (by omega)
          have e : ((⟨b, off, spot⟩ : Addr).add (0 * 18)).add 0 = (⟨b, off, spot⟩ : Addr).add 0 := by simp [Addr.add]
          rw [e, List.getElem?_eq_getElem (by omega)] at this
          exact ⟨_, this⟩
        have := World.cell?_spot hv0
        simpa [Addr.add] using this
      subst hs
      have cells : ∀ j v, (nodeCells ⟨q, bl, l⟩ sv)[j]? = some v → W.cell? ⟨b, off + i * 18 + j, none⟩ = some v := fun j v hj => by
        have hj18 := (List.getElem?_eq_some_iff.1 hj).1
        rw [nodeCells_len] at hj18
        have := hcell j hj18
        rw [hcs2, hj, addr_add, addr_add] at this
        exact this
      exact ⟨(⟨q, bl, l⟩, sv), b, off, rfl, World.block_lt_of_cell? W _ (cells 0 _ rfl), ⟨cells, hP.ents, fun hne => hP.old hne, hb1, hb2⟩⟩
    obtain ⟨X, hX⟩ := Deep.choose_lt key
    refine ⟨(List.range len).map fun i => (X i).1, some a, _, by rw [List.length_map, List.length_range], by simpa using hl, hm, fun i nn hi => ?_⟩
    have hil : i < len := by have := (List.getElem?_eq_some_iff.1 hi).1; simpa using this
    have : nn = (X i).1 := by simpa [hil] using hi.symm
    subst this
    obtain ⟨b, off, ha, hlt, hN⟩ := hX i hil
    exact ⟨b, off, (X i).2, by rw [ha], hlt, hN⟩
end
end Go.Proofs.Ythmjcbmeiabbgaa
/-
  Slices that came in, of whatever elements.
-/
namespace Go.Proofs.Ythmjcbmeiabbgaa
open Go.ChangeShapes Go.WideShapes Go.ChangeAt Go.RowKit
set_option maxRecDepth 100000

/-- A slice whose elements are such. -/
def SliceOf {α : Type} (w : World) (sz : Nat) (P : α → List Value → Prop) (v : Value) (l : List α) : Prop :=
  ∃ A cap, v = .slice A l.length cap ∧ l.length ≤ cap ∧ cap ≤ maxLen ∧
    ∀ i x, l[i]? = some x → ∃ b off cs, A = some ⟨b, off, none⟩ ∧ b < w.heap.size ∧ cs.length = sz ∧ P x cs ∧ ∀ j u, cs[j]? = some u → w.cell? ⟨b, off + i * sz + j, none⟩ = some u
section
variable {H : Type} {enc : TypeId × Value → H} {W : World}
theorem open_elems {α : Type} {P : α → List Value → Prop} {e : TypeId} {sz len : Nat} (hp : 0 < sz) (hce : Try.prog.cellsOf e = sz) {a : Addr} {D : Nat → DataW H × List MemPlace} {n : Nat}
    (hel : ∀ cs (z : DataW H × List MemPlace), DataW.trod enc Try.prog W 0 (fun _ => true) true n e cs = some z → cs.length = sz → ∃ x, P x cs)
    (hx : ∀ i, i < len → ∃ cs', W.cells? 0 (a.add (i * Try.prog.cellsOf e)) (Try.prog.cellsOf e) = some cs' ∧ DataW.trod enc Try.prog W 0 (fun _ => true) true n e cs' = some (D i)) :
    ∃ l : List α, l.length = len ∧ ∀ i x, l[i]? = some x → ∃ b off cs, a = ⟨b, off, none⟩ ∧ b < W.heap.size ∧ cs.length = sz ∧ P x cs ∧ ∀ j u, cs[j]? = some u → W.cell? ⟨b, off + i * sz + j, none⟩ = some u := by
  rw [hce] at hx
  have key : ∀ i, i < len → ∃ x : α, ∃ b off cs, a = ⟨b, off, none⟩ ∧ b < W.heap.size ∧ cs.length = sz ∧ P x cs ∧ ∀ j u, cs[j]? = some u → W.cell? ⟨b, off + i * sz + j, none⟩ = some u := by
    intro i hi
    obtain ⟨cs', hcs', htr⟩ := hx i hi
    obtain ⟨_, hlen, hcell⟩ := World.cells?_some hcs'
    obtain ⟨x, hPx⟩ := hel cs' _ htr hlen
    obtain ⟨b, off, spot⟩ := a
    have hs : spot = none := by
      obtain ⟨v0, hv0⟩ : ∃ v0, W.cell? ((⟨b, off, spot⟩ : Addr).add 0) = some v0 := by
        obtain ⟨cs0, hcs0, htr0⟩ := hx 0 (by omega)
        obtain ⟨_, hlen0, hcell0⟩ := World.cells?_some hcs0
        have := hcell0 0 (by omega)
        have e : ((⟨b, off, spot⟩ : Addr).add (0 * sz)).add 0 = (⟨b, off, spot⟩ : Addr).add 0 := by simp [Addr.add]
        rw [e, List.getElem?_eq_getElem (by omega)] at this
        exact ⟨_, this⟩
      have := World.cell?_spot hv0
      simpa [Addr.add] using this
    subst hs
    have cells : ∀ j u, cs'[j]? = some u → W.cell? ⟨b, off + i * sz + j, none⟩ = some u := fun j u hj => by
      have hjl := (List.getElem?_eq_some_iff.1 hj).1
      have := hcell j (by omega)
      rw [hj, addr_add, addr_add] at this
      exact this
    exact ⟨x, b, off, cs', rfl, World.block_lt_of_cell? W _ (cells 0 _ (List.getElem?_eq_getElem (by omega))), hlen, hPx, cells⟩
  rcases Nat.eq_zero_or_pos len with rfl | hl0
  · exact ⟨[], rfl, fun i x hi => by simp at hi⟩
  obtain ⟨x0, _⟩ := key 0 hl0
  haveI : Inhabited α := ⟨x0⟩
  obtain ⟨X, hX⟩ := Deep.choose_lt key
  refine ⟨(List.range len).map X, by rw [List.length_map, List.length_range], fun i x hi => ?_⟩
  have hil : i < len := by have := (List.getElem?_eq_some_iff.1 hi).1; simpa using this
  have : x = X i := by simpa [hil] using hi.symm
  subst this
  exact hX i hil
theorem open_slice_trod {α : Type} {P : α → List Value → Prop} {t e : TypeId} {sz : Nat} (hp : 0 < sz) (ht : Try.prog.underlying t = some (.slice e)) (hce : Try.prog.cellsOf e = sz)
    (hel : ∀ n cs (z : DataW H × List MemPlace), DataW.trod enc Try.prog W 0 (fun _ => true) true n e cs = some z → cs.length = sz → ∃ x, P x cs)
    {fuel : Nat} {cs : List Value} {z : DataW H × List MemPlace} (hf : DataW.trod enc Try.prog W 0 (fun _ => true) true fuel t cs = some z) : ∃ v, ∃ l : List α, cs = [v] ∧ SliceOf W sz P v l := by
  rcases Deep.open_slice ht hf with ⟨hcs, _⟩ | ⟨a, len, cap, m, n, D, Pl, hcs, _, hl, hm, hmm, _, hx⟩
  · exact ⟨_, [], hcs, _, _, rfl, by simp, by simp [maxLen], by simp⟩
  · simp only [if_true] at hmm
    subst hmm
    obtain ⟨l, hll, hg⟩ := open_elems (P := P) hp hce (hel n) (len := len) (D := fun i => (D i, Pl i)) (fun i hi => hx i (by omega))
    refine ⟨_, l, hcs, some a, _, by rw [hll], by rw [hll]; simpa using hl, hm, fun i x hi => ?_⟩
    obtain ⟨b, off, cs, h1, h2⟩ := hg i x hi
    exact ⟨b, off, cs, by rw [h1], h2⟩
theorem open_slice_val {α : Type} {P : α → List Value → Prop} {t e : TypeId} {sz : Nat} (hp : 0 < sz) (ht : Try.prog.underlying t = some (.slice e)) (hce : Try.prog.cellsOf e = sz)
    (hel : ∀ n cs (z : DataW H × List MemPlace), DataW.trod enc Try.prog W 0 (fun _ => true) true n e cs = some z → cs.length = sz → ∃ x, P x cs)
    {base : Nat} {v : Value} {d : DataW H} {p : List MemPlace} (hv : Value.okWide Try.prog W .any base t v) (h : DataW.Trod enc Try.prog W 0 (fun _ => true) true t v d p) : ∃ l : List α, SliceOf W sz P v l := by
  obtain ⟨A, len, cap, rfl⟩ := okWide_slice ht hv
  obtain ⟨fuel, hf⟩ := h
  obtain ⟨u, l, hu, hS⟩ := open_slice_trod hp ht hce hel hf
  have : u = .slice A len cap := by simpa [Value.cells] using hu.symm
  subst this
  exact ⟨l, hS⟩
/-- An int that came in. -/
def IntP (x : Int) (cs : List Value) : Prop := cs = [.int .i64 x] ∧ -9223372036854775808 ≤ x ∧ x ≤ 9223372036854775807
theorem int_elem (n : Nat) (cs : List Value) (z : DataW H × List MemPlace) (h : DataW.trod enc Try.prog W 0 (fun _ => true) true n 3 cs = some z) (_ : cs.length = 1) : ∃ x, IntP x cs := by
  obtain ⟨q, hq, _, hw⟩ := DataW.trod_int Try.underlying3 h
  exact ⟨q, hq, wf_i64 hw⟩
theorem SliceOf.ints {v : Value} {l : List Int} (h : SliceOf W 1 IntP v l) : SliceAt W v 1 l.length (l.map (Value.int .i64)) := by
  obtain ⟨A, cap, hv, h1, h2, hg⟩ := h
  refine ⟨by simp, A, cap, hv, h1, h2, fun j u hj => ?_⟩
  rw [List.getElem?_map] at hj
  cases hx : l[j]? with
  | none => rw [hx] at hj; cases hj
  | some x =>
    rw [hx] at hj
    cases hj
    obtain ⟨b, off, cs, hA, _, _, hP, hc⟩ := hg j x hx
    refine ⟨b, off, hA, ?_⟩
    have := hc 0 (.int .i64 x) (by rw [hP.1]; rfl)
    simpa using this
theorem SliceOf.wf {v : Value} {l : List Int} (h : SliceOf W 1 IntP v l) : ∀ x ∈ l, -9223372036854775808 ≤ x ∧ x ≤ 9223372036854775807 := fun x hx => by
  obtain ⟨A, cap, hv, h1, h2, hg⟩ := h
  obtain ⟨i, hi, rfl⟩ := List.getElem_of_mem hx
  obtain ⟨b, off, cs, _, _, _, hP, _⟩ := hg i _ (List.getElem?_eq_getElem hi)
  exact hP.2
/-- An act of chapter 09 that came in. -/
def ActP (W : World) (a : ActM) (cs : List Value) : Prop := a.ok ∧ ∃ kv, cs = actCells a kv ∧ SliceAt W kv 1 a.keys.length (a.keys.map (Value.int .i64))
theorem act_elem (n : Nat) (cs : List Value) (z : DataW H × List MemPlace) (h : DataW.trod enc Try.prog W 0 (fun _ => true) true n 75 cs = some z) (hlen : cs.length = 19) : ∃ a, ActP W a cs := by
  have hc0 : Try.prog.cellsOf 3 = 1 := by kernel_rfl
  have hc1 : Try.prog.cellsOf 30 = 16 := by kernel_rfl
  have hc2 : Try.prog.cellsOf 22 = 1 := by kernel_rfl
  obtain ⟨xs, n', _, _, _, hxl, hfld⟩ := DataW.trod_struct Try.underlying75 h
  have hxl4 : xs.length = 4 := hxl
  have g0 := hfld 0 _ rfl
  have g1 := hfld 1 _ rfl
  have g2 := hfld 2 _ rfl
  have g3 := hfld 3 _ rfl
  change DataW.trod enc Try.prog W 0 (fun _ => true) true n' 3 ((cs.drop 0).take (Try.prog.cellsOf 3)) = _ at g0
  change DataW.trod enc Try.prog W 0 (fun _ => true) true n' 3 ((cs.drop 1).take (Try.prog.cellsOf 3)) = _ at g1
  change DataW.trod enc Try.prog W 0 (fun _ => true) true n' 22 ((cs.drop 2).take (Try.prog.cellsOf 22)) = _ at g2
  change DataW.trod enc Try.prog W 0 (fun _ => true) true n' 30 ((cs.drop 3).take (Try.prog.cellsOf 30)) = _ at g3
  rw [hc0] at g0 g1
  rw [hc2] at g2
  rw [hc1] at g3
  rw [List.getElem?_eq_getElem (by omega : 0 < xs.length)] at g0
  rw [List.getElem?_eq_getElem (by omega : 1 < xs.length)] at g1
  rw [List.getElem?_eq_getElem (by omega : 2 < xs.length)] at g2
  rw [List.getElem?_eq_getElem (by omega : 3 < xs.length)] at g3
  obtain ⟨q0, hq0, _, _⟩ := DataW.trod_int Try.underlying3 g0
  obtain ⟨q1, hq1, _, _⟩ := DataW.trod_int Try.underlying3 g1
  obtain ⟨kv, keys, hk, hK⟩ := open_slice_trod (P := IntP) (by decide) Try.underlying22 hc0 int_elem g2
  obtain ⟨bl, hb1, hb2, hb3⟩ := open_block_trod Try.underlying30 Try.underlying5 (by kernel_rfl) (by kernel_rfl) g3
  refine ⟨⟨q0, q1, keys, bl⟩, ⟨hb1, hb2⟩, kv, ?_, hK.ints⟩
  have e3 : cs.drop 3 = blockCells bl := by rw [← hb3, List.take_of_length_le (by rw [List.length_drop]; omega)]
  have e : cs = (cs.drop 0).take 1 ++ ((cs.drop 1).take 1 ++ ((cs.drop 2).take 1 ++ cs.drop 3)) := by
    have s2 : cs.drop 2 = (cs.drop 2).take 1 ++ cs.drop 3 := by
      have := List.take_append_drop 1 (cs.drop 2)
      rw [List.drop_drop] at this
      exact this.symm
    have s1 : cs.drop 1 = (cs.drop 1).take 1 ++ cs.drop 2 := by
      have := List.take_append_drop 1 (cs.drop 1)
      rw [List.drop_drop] at this
      exact this.symm
    rw [← s2, ← s1, List.drop_zero]
    exact (List.take_append_drop 1 cs).symm
  rw [e, hq0, hq1, hk, e3]
  rfl
theorem open_acts {base : Nat} {v : Value} {d : DataW H} {p : List MemPlace} (hv : Value.okWide Try.prog W .any base 70 v) (h : DataW.Trod enc Try.prog W 0 (fun _ => true) true 70 v d p) : ∃ l : List ActM, SliceOf W 19 (ActP W) v l :=
  open_slice_val (by decide) Try.underlying70 (by kernel_rfl) act_elem hv h
end
end Go.Proofs.Ythmjcbmeiabbgaa
