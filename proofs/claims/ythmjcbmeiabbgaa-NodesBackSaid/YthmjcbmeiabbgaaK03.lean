/-
  The frame of a law's proof: from a walk that answers true and writes nothing that was there to the statement's shape; and how arguments are opened.
-/
import Derived.Test.YthmjcbmeiabbgaaK01
import Derived.Test.YthmjcbmeiabbgaaK02
import Derived.ProofKit
import Derived.OpenShut
import Derived.ShutString
import Derived.ChangeOld
import Derived.Deep.Slices
import Derived.Test.YthmjcbmeiabbgaaRows
set_option linter.unusedVariables false
set_option linter.unusedSimpArgs false
namespace Go.Proofs.Ythmjcbmeiabbgaa
open Go.ChangeShapes Go.WideShapes Go.ChangeAt Go.RowKit

theorem own : ownKnob Try.prog.godebug = none := by kernel_rfl
theorem laidOut : laidOutB Try.prog = true := by kernel_rfl

section
variable {H : Type} {enc : TypeId × Value → H}

theorem trodAll_below {W W' : World} (hb : Below W.heap.size W W') : ∀ (ts : List TypeId) (vs : List Value) (ds : List (DataW H)) (ps : List MemPlace),
    (∀ t ∈ ts, Try.prog.readableRec t = true ∧ t < Try.prog.types.size) →
    DataW.TrodAll enc Try.prog W 0 (fun _ => true) true ts vs ds ps → DataW.TrodAll enc Try.prog W' 0 (fun b => decide (b < W.heap.size)) true ts vs ds ps
  | [], vs, ds, ps, _, h => by
    obtain ⟨rfl, rfl, rfl⟩ := trodAll_nil h
    exact trodAll_mk0
  | t :: ts, vs, ds, ps, ht, h => by
    obtain ⟨v, vs', d, ds', p, q, rfl, rfl, rfl, h0, h1⟩ := trodAll_cons h
    have hlt : ∀ x ∈ p, x.block < W.heap.size := by obtain ⟨m, hm⟩ := h0; exact DataW.trod_lt m _ _ _ hm
    exact trodAll_cons_mk (Below.trod laidOut (ht t (by simp)).1 (ht t (by simp)).2 h0 hb hlt) (trodAll_below hb ts vs' ds' q (fun u hu => ht u (by simp [hu])) h1)

set_option maxRecDepth 100000 in
/-- FROM A WALK TO THE ROW's STEP. -/
theorem law_lift (os : Os) (started : os.Started) (F : FuncId) (fn : Func) (hfn : Try.prog.funcs[F]? = some fn) (hin : Try.prog.inits.idxOf? F = none)
    (s : ChangeSpec) (hvars : s.vars = []) (hs : ∀ ds : List (DataW H), ds.length = fn.params.toList.length → s.fn H ds = { results := [.lit (.bool true)], args := ds })
    (hres : fn.resultTypes = #[4]) (hread : (fn.params.toList.all fun t => Try.prog.readableRec t && decide (t < Try.prog.types.size)) = true)
    (wit : ∃ (w : World) (tape : Nat → Question → Nat) (i : Input), w.os = os ∧ World.Shaped Try.prog (w.forCall tape i) ∧ i.vars = [] ∧ Input.okWide Try.prog (w.forCall tape i) Reach.any w.heap.size F i ∧
      ChangeSpec.pre6 enc Try.prog fn s [] false (w.forCall tape i).memory i.args ∧ ({} : Assume).holds Try.prog (lone (Frame.enter Try.prog F i.args CallKind.normal) [] (w.forCall tape i)))
    (walk : ∀ (W : World) (base : Nat) (args : Array Value) (ds : List (DataW H)) (p : List MemPlace),
      (∀ (j : Nat) t v, fn.params[j]? = some t → args[j]? = some v → Value.okWide Try.prog W .any base t v) →
      DataW.TrodAll enc Try.prog W 0 (fun _ => true) true fn.params.toList args.toList ds p →
      Calls Try.prog F args W fun e w' => e = .returned (.bool true) ∧ Below W.heap.size W w') :
    ReturnsInHanded {} Try.checked os F .any (s.pre6 enc Try.prog fn [] false) (s.post enc Try.prog fn false true false false) := by
  refine returnsInHanded_of_change (C := Try.checked) own started hin hfn wit ?_
  intro W base args ds gs before hval hW hcnd _
  have hW' := hW
  obtain ⟨p, q, hA, hV, rfl, hfz, hnd⟩ := hW
  rw [hvars] at hV
  obtain ⟨rfl, rfl⟩ := trodVars_none hV
  refine (walk W base args ds p hval hA).mono fun e W' ⟨he, bel⟩ => ?_
  subst he
  have hlen : ∀ (ts : List TypeId) (vs : List Value) (ds : List (DataW H)) (ps : List MemPlace), DataW.TrodAll enc Try.prog W 0 (fun _ => true) true ts vs ds ps → ds.length = ts.length := by
    intro ts
    induction ts with
    | nil => intro vs ds ps h; obtain ⟨rfl, rfl, rfl⟩ := trodAll_nil h; rfl
    | cons t ts ih =>
      intro vs ds ps h
      obtain ⟨v, vs', d, ds', p, q, rfl, rfl, rfl, h0, h1⟩ := trodAll_cons h
      simp [ih _ _ _ h1]
  have hsp : s.fn H (ds ++ []) = { results := [.lit (.bool true)], args := ds } := by rw [List.append_nil]; exact hs ds (hlen _ _ _ _ hA)
  have hr : DataW.TrodAll enc Try.prog W' W.heap.size (fun _ => false) false fn.resultTypes.toList (Value.resultList fn.resultTypes.size (.bool true)) [.lit (.bool true)] [] := by
    rw [hres]
    exact trodAll_cons_mk (shut_bool Try.underlying4 _) trodAll_mk0
  have ha : DataW.TrodAll enc Try.prog W' 0 (fun b => decide (b < W.heap.size)) true fn.params.toList args.toList ds p := by
    refine trodAll_below bel _ _ _ _ (fun t ht => ?_) hA
    have := List.all_eq_true.1 hread t ht
    simp only [Bool.and_eq_true, decide_eq_true_eq] at this
    exact this
  refine ⟨_, rfl, ds, [], p ++ [], [], p, [], hW', ?_, ?_, ?_, bel.frame _, fun h => by cases h⟩
  · rw [hsp]; exact hr
  · rw [hsp]; exact ha
  · rw [hsp, hvars]; exact rfl
end

/-- What a row's closed cells ask of its own function: all but what the whole program answers. -/
def ownFacts (P : Program) (f : FuncId) (fn : Func) (s : ChangeSpec) (c : OpenClaim) : Bool :=
  c.wf (OpenSpec.ofChange s) &&
  fn.params.all (P.readableRec ·) && namedTie P c.named s.vars &&
  (c.stops == []) && (P.stops == []) && (c.knobs == []) && (P.stopKnobs == []) &&
  (c.inPlace == P.inPlace f) && (c.unfollowed == P.unfollowed f) && (c.recurses == P.recurses f) && (c.named == P.varsNamed f) &&
  (c.maps == (fn.params.toList ++ s.plain.varTypes P).any (P.mapsRec ·)) && (c.ifaces == (fn.params.toList ++ s.plain.varTypes P).any (P.ifacesRec ·)) && (c.mapsOut == P.mapsAmong fn.resultTypes.toList) &&
  (c.loops == (fn.params.toList ++ s.plain.varTypes P).any (P.loopsFrom ·)) && (c.wideKeys == (fn.params.toList ++ s.plain.varTypes P ++ fn.resultTypes.toList).any (P.wideKeysFrom ·)) &&
  s.vars.all (P.varReadable ·) && fn.resultTypes.all (fun t => P.readableRec t && decide (t < P.types.size)) && (c.ifacesOut == fn.resultTypes.toList.any (P.ifacesRec ·)) && (c.loopsOut == fn.resultTypes.toList.any (P.loopsFrom ·)) && c.shortTexts.isNone &&
  (c.kinds == if c.domain.isEmpty = true then [] else fn.params.toList.map fun t => match P.underlying t with | some (.int k) => some k | _ => none) && (c.pinned == c.pinnedBy) &&
  (c.veiled == (fn.params.toList ++ s.plain.varTypes P ++ fn.resultTypes.toList).any (P.veiledRec ·)) && c.veiledFits P fn.params.toList (fn.params.toList ++ s.plain.varTypes P ++ fn.resultTypes.toList)
theorem joined_gen (P : Program) (f : FuncId) (fn : Func) (s : ChangeSpec) (c : OpenClaim) (h1 : laidOutB P = true) (h2 : mapsRowed P = true) (h3 : P.plainKeys = true) (h4 : P.stopsHeard = true) (h5 : P.mayEnter = true)
    (h6 : P.liftsFinal = false) (h7 : P.make = some .cut) (hk : c.plainKeys = true) (hl : c.lifted = false) (hm : c.make = .cut) (h : ownFacts P f fn s c = true) : joinedFacts P f fn s c = true := by
  have e1 : (Option.some Make.cut == some Make.cut) = true := by decide
  unfold joinedFacts
  unfold ownFacts at h
  rw [h1, h2, h3, h4, h5, h6, h7, hk, hl, hm, e1]
  simp only [Bool.and_eq_true, beq_self_eq_true, and_true] at h ⊢
  exact h
theorem joined_of (f : FuncId) (fn : Func) (s : ChangeSpec) (c : OpenClaim) (hk : c.plainKeys = true) (hl : c.lifted = false) (hm : c.make = .cut) (h : ownFacts Try.prog f fn s c = true) : joinedFacts Try.prog f fn s c = true :=
  joined_gen _ _ _ _ _ laidOut maps_fact keys_fact heard_fact enter_fact lifts_fact make_fact hk hl hm h

section
variable {H : Type} {enc : TypeId × Value → H} {W : World}

theorem wf_i64 {n : Int} (h : (Lit.int .i64 n).wf = true) : -9223372036854775808 ≤ n ∧ n ≤ 9223372036854775807 := bounds_i64 h
theorem wf_u8 {n : Int} (h : (Lit.int .u8 n).wf = true) : 0 ≤ n ∧ n ≤ 255 := bounds_u8 h

set_option maxRecDepth 100000
/-- An array of bytes that came in. -/
theorem open_bytes {t e : TypeId} {n : Nat} (ht : Try.prog.underlying t = some (.array n e)) (he : Try.prog.underlying e = some (.int .u8)) (hc : Try.prog.cellsOf e = 1) (hn : Try.prog.cellsOf t = n)
    {base : Nat} {v : Value} {d : DataW H} {p : List MemPlace} (hv : Value.okWide Try.prog W .any base t v) (h : DataW.Trod enc Try.prog W 0 (fun _ => true) true t v d p) :
    ∃ c : Nat → Nat, v = .agg ((List.range n).map fun i => Value.int .u8 (c i)).toArray ∧ (∀ i, c i ≤ 255) ∧ ∀ i, n ≤ i → c i = 0 := by
  unfold Value.okWide at hv
  rw [ht] at hv
  obtain ⟨cs, rfl, hsz, _⟩ := hv
  obtain ⟨fuel, hf⟩ := h
  obtain ⟨xs, m, _, _, hlen, hxl, hx⟩ := DataW.trod_array ht hf
  rw [hn] at hlen
  have key : ∀ i, i < n → ∃ k : Nat, k ≤ 255 ∧ cs.toList[i]? = some (.int .u8 k) := by
    intro i hi
    have h1 := hx i hi
    rw [hc, Nat.mul_one, List.getElem?_eq_getElem (by omega : i < xs.length)] at h1
    obtain ⟨q, hq, _, hw⟩ := DataW.trod_int he h1
    have hb := wf_u8 hw
    obtain ⟨k, rfl⟩ := Int.eq_ofNat_of_zero_le hb.1
    refine ⟨k, by omega, ?_⟩
    have hcells : (Value.agg cs).cells.toList = cs.toList := rfl
    rw [hcells] at hq
    have : (List.take 1 (List.drop i cs.toList))[0]? = some (.int .u8 k) := by rw [hq]; rfl
    simpa using this
  obtain ⟨c, hcc⟩ := Deep.choose_lt (α := Nat) (p := fun i k => k ≤ 255 ∧ cs.toList[i]? = some (.int .u8 k)) key
  refine ⟨fun i => if i < n then c i else 0, ?_, fun i => by dsimp only; split; exact (hcc i ‹_›).1; omega, fun i hi => by dsimp only; rw [if_neg (by omega)]⟩
  congr 1
  apply Array.ext'
  apply List.ext_getElem?
  intro i
  by_cases hi : i < n
  · rw [(hcc i hi).2]
    simp [hi]
  · have h1 : cs.toList.length = n := hlen
    rw [List.getElem?_eq_none (by omega), List.getElem?_eq_none (by simp; omega)]

/-- A slice of structs of two ints that came in, as a list of pairs. -/
structure PairsAt (w : World) (v : Value) (l : List (Int × Int)) : Prop where
  val : ∃ A cap, v = .slice A l.length cap ∧ l.length ≤ cap ∧ cap ≤ maxLen ∧
    ∀ i x, l[i]? = some x → ∃ b off, A = some ⟨b, off, none⟩ ∧ b < w.heap.size ∧ w.cell? ⟨b, off + i * 2, none⟩ = some (.int .i64 x.1) ∧ w.cell? ⟨b, off + i * 2 + 1, none⟩ = some (.int .i64 x.2)
  wf : ∀ x ∈ l, (-9223372036854775808 ≤ x.1 ∧ x.1 ≤ 9223372036854775807) ∧ (-9223372036854775808 ≤ x.2 ∧ x.2 ≤ 9223372036854775807)

theorem addr_spot {w : World} {A : Addr} {v : Value} {k : Nat} (h : w.cell? (A.add k) = some v) : A.spot = none ∨ k ≠ 0 := by
  by_cases hk : k = 0
  · subst hk
    exact .inl (by simpa [Addr.add] using World.cell?_spot h)
  · exact .inr hk

theorem open_pairs {t e f1 f2 : TypeId} {fs : Array Field} (ht : Try.prog.underlying t = some (.slice e)) (he : Try.prog.underlying e = some (.struct fs)) (hfs : fs.size = 2)
    (h1 : (fs[0]?).map (fun f => (f.type, f.offset)) = some (f1, 0)) (h2 : (fs[1]?).map (fun f => (f.type, f.offset)) = some (f2, 1)) (hf1 : Try.prog.underlying f1 = some (.int .i64)) (hf2 : Try.prog.underlying f2 = some (.int .i64))
    (hc1 : Try.prog.cellsOf f1 = 1) (hc2 : Try.prog.cellsOf f2 = 1) (hce : Try.prog.cellsOf e = 2)
    {base : Nat} {v : Value} {d : DataW H} {p : List MemPlace} (hv : Value.okWide Try.prog W .any base t v) (h : DataW.Trod enc Try.prog W 0 (fun _ => true) true t v d p) :
    ∃ l, PairsAt W v l := by
  obtain ⟨A, len, cap, rfl⟩ := okWide_slice ht hv
  obtain ⟨fuel, hf⟩ := h
  rcases Deep.open_slice ht hf with ⟨hcs, _⟩ | ⟨a, len', cap', m, n, D, Pl, hcs, _, hl, hm, hmm, _, hx⟩
  · simp only [Value.cells, List.cons.injEq, and_true] at hcs
    injection hcs with e1 e2 e3
    subst e1 e2 e3
    exact ⟨[], ⟨_, _, rfl, by simp, by simp [maxLen], by simp⟩, by simp⟩
  · simp only [Value.cells, List.cons.injEq, and_true] at hcs
    injection hcs with e1 e2 e3
    subst e1 e2 e3
    simp only [if_true] at hmm
    subst hmm
    rw [hce] at hx
    have key : ∀ i, i < len → ∃ x : Int × Int, ((-9223372036854775808 ≤ x.1 ∧ x.1 ≤ 9223372036854775807) ∧ (-9223372036854775808 ≤ x.2 ∧ x.2 ≤ 9223372036854775807)) ∧
        ∃ b off, a = ⟨b, off, none⟩ ∧ b < W.heap.size ∧ W.cell? ⟨b, off + i * 2, none⟩ = some (.int .i64 x.1) ∧ W.cell? ⟨b, off + i * 2 + 1, none⟩ = some (.int .i64 x.2) := by
      intro i hi
      obtain ⟨cs', hcs', htr⟩ := hx i (by omega)
      obtain ⟨_, hlen, hcell⟩ := World.cells?_some hcs'
      obtain ⟨xs, n', _, _, _, hxl, hfld⟩ := DataW.trod_struct he htr
      obtain ⟨F1, hF1, e1⟩ : ∃ F, fs[0]? = some F ∧ (F.type, F.offset) = (f1, 0) := by
        cases hq : fs[0]? with
        | none => simp [hq] at h1
        | some F => exact ⟨F, rfl, by simpa [hq] using h1⟩
      obtain ⟨F2, hF2, e2⟩ : ∃ F, fs[1]? = some F ∧ (F.type, F.offset) = (f2, 1) := by
        cases hq : fs[1]? with
        | none => simp [hq] at h2
        | some F => exact ⟨F, rfl, by simpa [hq] using h2⟩
      simp only [Prod.mk.injEq] at e1 e2
      have g1 := hfld 0 F1 hF1
      have g2 := hfld 1 F2 hF2
      rw [e1.1, e1.2, hc1, List.getElem?_eq_getElem (by omega : 0 < xs.length)] at g1
      rw [e2.1, e2.2, hc2, List.getElem?_eq_getElem (by omega : 1 < xs.length)] at g2
      obtain ⟨q1, hq1, _, hw1⟩ := DataW.trod_int hf1 g1
      obtain ⟨q2, hq2, _, hw2⟩ := DataW.trod_int hf2 g2
      have c1 : cs'[0]? = some (.int .i64 q1) := by
        have : (List.take 1 (List.drop 0 cs'))[0]? = some (.int .i64 q1) := by rw [hq1]; rfl
        simpa using this
      have c2 : cs'[1]? = some (.int .i64 q2) := by
        have : (List.take 1 (List.drop 1 cs'))[0]? = some (.int .i64 q2) := by rw [hq2]; rfl
        simpa using this
      have w1 := hcell 0 (by omega)
      have w2 := hcell 1 (by omega)
      rw [c1] at w1
      rw [c2] at w2
      have hz : (a.add (i * 2)).add 0 = a.add (i * 2) := by simp [Addr.add]
      rw [hz] at w1
      obtain ⟨b, off, spot⟩ := a
      have hs : spot = none := by
        obtain ⟨v0, hv0⟩ : ∃ v0, W.cell? ((⟨b, off, spot⟩ : Addr).add 0) = some v0 := by
          obtain ⟨cs0, hcs0, htr0⟩ := hx 0 (by omega)
          obtain ⟨_, hlen0, hcell0⟩ := World.cells?_some hcs0
          have := hcell0 0 (by omega)
          have e : ((⟨b, off, spot⟩ : Addr).add (0 * 2)).add 0 = (⟨b, off, spot⟩ : Addr).add 0 := by simp [Addr.add]
          rw [e, List.getElem?_eq_getElem (by omega)] at this
          exact ⟨_, this⟩
        have := World.cell?_spot hv0
        simpa [Addr.add] using this
      subst hs
      have a1 : (⟨b, off, none⟩ : Addr).add (i * 2) = ⟨b, off + i * 2, none⟩ := by unfold Addr.add; split <;> simp_all
      have a2 : (⟨b, off + i * 2, none⟩ : Addr).add 1 = ⟨b, off + i * 2 + 1, none⟩ := rfl
      rw [a1] at w1 w2
      rw [a2] at w2
      exact ⟨(q1, q2), ⟨wf_i64 hw1, wf_i64 hw2⟩, b, off, rfl, World.block_lt_of_cell? W _ w1, w1, w2⟩
    obtain ⟨X, hX⟩ := Deep.choose_lt key
    refine ⟨(List.range len).map X, ⟨some a, _, by rw [List.length_map, List.length_range], by simpa using hl, hm, ?_⟩, ?_⟩
    · intro i x hi
      have hil : i < len := by have := (List.getElem?_eq_some_iff.1 hi).1; simpa using this
      have : x = X i := by simpa [hil] using hi.symm
      subst this
      obtain ⟨b, off, ha, hr⟩ := (hX i hil).2
      exact ⟨b, off, by rw [ha], hr⟩
    · intro x hx'
      simp only [List.mem_map, List.mem_range] at hx'
      obtain ⟨i, hi, rfl⟩ := hx'
      exact (hX i hi).1
/-- A slice of ints that came in. -/
structure IntsAt (w : World) (v : Value) (l : List Int) : Prop where
  val : ∃ A cap, v = .slice A l.length cap ∧ l.length ≤ cap ∧ cap ≤ maxLen ∧
    ∀ i x, l[i]? = some x → ∃ b off, A = some ⟨b, off, none⟩ ∧ b < w.heap.size ∧ w.cell? ⟨b, off + i, none⟩ = some (.int .i64 x)
  wf : ∀ x ∈ l, -9223372036854775808 ≤ x ∧ x ≤ 9223372036854775807
theorem open_ints {t e : TypeId} (ht : Try.prog.underlying t = some (.slice e)) (he : Try.prog.underlying e = some (.int .i64)) (hce : Try.prog.cellsOf e = 1)
    {base : Nat} {v : Value} {d : DataW H} {p : List MemPlace} (hv : Value.okWide Try.prog W .any base t v) (h : DataW.Trod enc Try.prog W 0 (fun _ => true) true t v d p) :
    ∃ l, IntsAt W v l := by
  obtain ⟨A, len, cap, rfl⟩ := okWide_slice ht hv
  obtain ⟨fuel, hf⟩ := h
  rcases Deep.open_slice ht hf with ⟨hcs, _⟩ | ⟨a, len', cap', m, n, D, Pl, hcs, _, hl, hm, hmm, _, hx⟩
  · simp only [Value.cells, List.cons.injEq, and_true] at hcs
    injection hcs with e1 e2 e3
    subst e1 e2 e3
    exact ⟨[], ⟨_, _, rfl, by simp, by simp [maxLen], by simp⟩, by simp⟩
  · simp only [Value.cells, List.cons.injEq, and_true] at hcs
    injection hcs with e1 e2 e3
    subst e1 e2 e3
    simp only [if_true] at hmm
    subst hmm
    rw [hce] at hx
    have key : ∀ i, i < len → ∃ x : Int, (-9223372036854775808 ≤ x ∧ x ≤ 9223372036854775807) ∧
        ∃ b off, a = ⟨b, off, none⟩ ∧ b < W.heap.size ∧ W.cell? ⟨b, off + i, none⟩ = some (.int .i64 x) := by
      intro i hi
      obtain ⟨cs', hcs', htr⟩ := hx i (by omega)
      obtain ⟨_, hlen, hcell⟩ := World.cells?_some hcs'
      obtain ⟨q, hq, _, hw⟩ := DataW.trod_int he htr
      have w1 := hcell 0 (by omega)
      have c1 : cs'[0]? = some (.int .i64 q) := by rw [hq]; rfl
      rw [c1] at w1
      have hz : (a.add (i * 1)).add 0 = a.add (i * 1) := by simp [Addr.add]
      rw [hz, Nat.mul_one] at w1
      obtain ⟨b, off, spot⟩ := a
      have hs : spot = none := by
        obtain ⟨v0, hv0⟩ : ∃ v0, W.cell? ((⟨b, off, spot⟩ : Addr).add 0) = some v0 := by
          obtain ⟨cs0, hcs0, htr0⟩ := hx 0 (by omega)
          obtain ⟨_, hlen0, hcell0⟩ := World.cells?_some hcs0
          have := hcell0 0 (by omega)
          have e : ((⟨b, off, spot⟩ : Addr).add (0 * 1)).add 0 = (⟨b, off, spot⟩ : Addr).add 0 := by simp [Addr.add]
          rw [e, List.getElem?_eq_getElem (by omega)] at this
          exact ⟨_, this⟩
        have := World.cell?_spot hv0
        simpa [Addr.add] using this
      subst hs
      have a1 : (⟨b, off, none⟩ : Addr).add i = ⟨b, off + i, none⟩ := by unfold Addr.add; split <;> simp_all
      rw [a1] at w1
      exact ⟨q, wf_i64 hw, b, off, rfl, World.block_lt_of_cell? W _ w1, w1⟩
    obtain ⟨X, hX⟩ := Deep.choose_lt key
    refine ⟨(List.range len).map X, ⟨some a, _, by rw [List.length_map, List.length_range], by simpa using hl, hm, ?_⟩, ?_⟩
    · intro i x hi
      have hil : i < len := by have := (List.getElem?_eq_some_iff.1 hi).1; simpa using this
      have : x = X i := by simpa [hil] using hi.symm
      subst this
      obtain ⟨b, off, ha, hr⟩ := (hX i hil).2
      exact ⟨b, off, by rw [ha], hr⟩
    · intro x hx'
      simp only [List.mem_map, List.mem_range] at hx'
      obtain ⟨i, hi, rfl⟩ := hx'
      exact (hX i hi).1
end
end Go.Proofs.Ythmjcbmeiabbgaa
/-
  Laws of the walk for whole arrays and structs at an offset of a block that is known: load, store, alloc, clear.
-/
namespace Go.Proofs.Ythmjcbmeiabbgaa
open Go.RowKit
section
variable {P : Program} {w : World}

def aggDesc : TypeDesc → Bool | .struct _ | .array _ _ => true | _ => false

theorem addr_add (g o j : Nat) : (⟨g, o, none⟩ : Addr).add j = ⟨g, o + j, none⟩ := by unfold Addr.add; split <;> simp_all

theorem run_isAgg {ty : TypeId} {d : TypeDesc} (hu : P.underlying ty = some d) (hd : aggDesc d = true) (w : World) : (isAgg ty).run P w = .ok true w := by
  unfold isAgg
  rw [Sem.run_bind, run_underlying hu w]
  cases d <;> simp_all [aggDesc]
theorem run_sizeOf {ty : TypeId} {n : Nat} (hi : (P.info? ty).map (·.size) = some n) (w : World) : (sizeOf ty).run P w = .ok n w := by
  cases hq : P.info? ty with
  | none => simp [hq] at hi
  | some i =>
    have hs : i.size = n := by simpa [hq] using hi
    simp [sizeOf, typeInfo, hq, hs]

theorem run_loadVar_agg {ty : TypeId} {d : TypeDesc} (g o : Nat) (vs : List Value) (hu : P.underlying ty = some d) (hd : aggDesc d = true) (hi : (P.info? ty).map (·.size) = some vs.length)
    (hc : ∀ j v, vs[j]? = some v → w.cell? ⟨g, o + j, none⟩ = some v) : (loadVar ty ⟨g, o, none⟩).run P w = .ok (.agg vs.toArray) w := by
  have hl := run_loadCells_list (P := P) w ⟨g, o, none⟩ vs (fun j v hv => by rw [addr_add]; exact hc j v hv)
  simp [loadVar, Sem.run_bind, run_isAgg hu hd, run_sizeOf hi, hl]
theorem run_loadAt_agg {ty : TypeId} {d : TypeDesc} {g off : Nat} (vs : List Value) (hu : P.underlying ty = some d) (hd : aggDesc d = true) (hi : (P.info? ty).map (·.size) = some vs.length)
    (hc : ∀ j v, vs[j]? = some v → w.cell? ⟨g, off + j, none⟩ = some v) : (Instr.loadAt ty (.pointer (some ⟨g, off, none⟩))).run P w = .ok (.agg vs.toArray) w := by
  simp only [Instr.loadAt, Instr.sureAddr, Sem.run_bind, Sem.run_pure, Result.andThen_ok, run_loadVar_agg g off vs hu hd hi hc]
theorem wpList_load_agg {ops : Array Oper} {rest : List Oper} {o : Oper} {a : Act} {Q : Exit → Act → World → Prop} (ty : TypeId) {x : Operand} (ho : o.op = .load ty x) (hgd : o.guard = none)
    {g off : Nat} (hx : a.eval x = .pointer (some ⟨g, off, none⟩)) (d : TypeDesc) (hu : P.underlying ty = some d) (hd : aggDesc d = true) (vs : List Value) (hi : (P.info? ty).map (·.size) = some vs.length)
    (hc : ∀ j v, vs[j]? = some v → w.cell? ⟨g, off + j, none⟩ = some v)
    (h : wpList P ops Q rest (a.put o.dst (.agg vs.toArray)) w) : wpList P ops Q (o :: rest) a w :=
  wpList_plain hgd fun _ hK => by
    unfold Oper.wp execOp
    simp only [ho, hx, Instr.loadAt, Instr.sureAddr, Sem.run_bind, Sem.run_pure, Result.andThen_ok, run_loadVar_agg g off vs hu hd hi hc]
    exact hK _ _ h

theorem run_storeVar_agg {ty : TypeId} (g o : Nat) (t : TypeId) (cur : Array Value) (vs : List Value) (hg : w.heap[g]? = some (.cells cur t (0, 0))) (hi : (P.info? ty).map (·.size) = some vs.length)
    (hfit : o + vs.length ≤ cur.size) (h1 : ∀ v ∈ vs, v.oneCell' = true) :
    (storeVar ty ⟨g, o, none⟩ (.agg vs.toArray)).run P w = .ok () (w.setRow g (cur.toList.take o ++ vs ++ cur.toList.drop (o + vs.length)).toArray) := by
  have hst := run_storeCells_at P g o t vs 0 cur w hg (by simpa using hfit) h1
  simp only [Nat.add_zero] at hst
  simp [storeVar, Sem.run_bind, run_sizeOf hi, Value.cells, hst]
theorem wpList_store_agg {ops : Array Oper} {rest : List Oper} {o : Oper} {a : Act} {Q : Exit → Act → World → Prop} (ty : TypeId) {x y : Operand} (ho : o.op = .store ty x y) (hgd : o.guard = none)
    {g off : Nat} (hx : a.eval x = .pointer (some ⟨g, off, none⟩)) (vs : List Value) (hy : a.eval y = .agg vs.toArray) (hi : (P.info? ty).map (·.size) = some vs.length)
    (t : TypeId) (cur : Array Value) (hg : w.heap[g]? = some (.cells cur t (0, 0))) (hfit : off + vs.length ≤ cur.size) (h1 : ∀ v ∈ vs, v.oneCell' = true)
    (h : wpList P ops Q rest (a.put o.dst undef) (w.setRow g (cur.toList.take off ++ vs ++ cur.toList.drop (off + vs.length)).toArray)) : wpList P ops Q (o :: rest) a w :=
  wpList_plain hgd fun _ hK => by
    unfold Oper.wp execOp
    simp only [ho, hx, hy, Instr.storeAt, Instr.sureAddr, Sem.run_bind, Sem.run_pure, Result.andThen_ok, run_storeVar_agg g off t cur vs hg hi hfit h1]
    exact hK _ _ h

theorem wpList_store_whole {ops : Array Oper} {rest : List Oper} {o : Oper} {a : Act} {Q : Exit → Act → World → Prop} (ty : TypeId) {x y : Operand} (ho : o.op = .store ty x y) (hgd : o.guard = none)
    {g : Nat} (hx : a.eval x = .pointer (some ⟨g, 0, none⟩)) (vs : List Value) (hy : a.eval y = .agg vs.toArray) (hi : (P.info? ty).map (·.size) = some vs.length)
    (t : TypeId) (cur : Array Value) (hg : w.heap[g]? = some (.cells cur t (0, 0))) (hfit : vs.length = cur.size) (h1 : ∀ v ∈ vs, v.oneCell' = true)
    (h : wpList P ops Q rest (a.put o.dst undef) (w.setRow g vs.toArray)) : wpList P ops Q (o :: rest) a w :=
  wpList_store_agg ty ho hgd hx vs hy hi t cur hg (by omega) h1 (by
    have : List.drop (0 + vs.length) cur.toList = [] := List.drop_eq_nil_of_le (by simp; omega)
    rw [this]; simpa using h)

theorem run_zeroValue {ty : TypeId} {z : Value} (hz : (P.info? ty).map (·.zero) = some (some z)) (w : World) : (zeroValue ty).run P w = .ok z w := by
  cases hq : P.info? ty with
  | none => simp [hq] at hz
  | some i =>
    have hs : i.zero = some z := by simpa [hq] using hz
    simp [zeroValue, typeInfo, hq, hs]
theorem wpList_alloc_as {ops : Array Oper} {rest : List Oper} {o : Oper} {a : Act} {Q : Exit → Act → World → Prop} (ty : TypeId) (ho : o.op = .alloc ty) (hgd : o.guard = none)
    (cs : Array Value) (hz : (P.info? ty).map (·.zero) = some (some (.agg cs)))
    (h : wpList P ops Q rest (a.put o.dst (.pointer (some ⟨w.heap.size, 0, none⟩))) (w.alloc (.cells cs ty))) : wpList P ops Q (o :: rest) a w :=
  wpList_plain hgd fun _ hK => by
    unfold Oper.wp execOp
    simp only [ho, Instr.alloc, Sem.run_bind, Sem.run_pure, Result.andThen_ok, run_zeroValue hz, newVar, newRow, run_newObj]
    exact hK _ _ h
theorem wpList_box_as {ops : Array Oper} {rest : List Oper} {o : Oper} {a : Act} {Q : Exit → Act → World → Prop} (ty : TypeId) {x : Operand} (ho : o.op = .box ty x) (hgd : o.guard = none)
    (v : Value) (hx : a.eval x = v)
    (h : wpList P ops Q rest (a.put o.dst (.pointer (some ⟨w.heap.size, 0, none⟩))) (w.alloc (.cells v.cells ty))) : wpList P ops Q (o :: rest) a w :=
  wpList_plain hgd fun _ hK => by
    unfold Oper.wp execOp
    simp only [ho, hx, Instr.box, Sem.run_bind, Sem.run_pure, Result.andThen_ok, newVar, newRow, run_newObj]
    exact hK _ _ h

theorem run_clear {t e : TypeId} {ty : TypeId} {z : Value} (ht : P.underlying t = some (.slice e)) (hz : (P.info? e).map (·.zero) = some (some z)) (hz1 : z.cells = #[z]) (h1 : z.oneCell' = true)
    (g o n c : Nat) (tt : TypeId) (cur : Array Value) (hg : w.heap[g]? = some (.cells cur tt (0, 0))) (hfit : o + n ≤ cur.size) (hn : 0 < n) :
    (Builtin.clear_ #[t] ty #[.slice (some ⟨g, o, none⟩) n c]).run P w = .ok (.tuple #[]) (w.setRow g (cur.toList.take o ++ List.replicate n z ++ cur.toList.drop (o + n)).toArray) := by
  have hzc : (Builtin.zeroCells z.cells n).toList = List.replicate n z := by
    rw [hz1]
    apply List.ext_getElem?
    intro i
    simp only [Builtin.zeroCells, List.getElem?_replicate]
    by_cases hi : i < n
    · simp [hi, Nat.mod_one]
    · simp [hi]
  have hst := run_storeCells_at P g o tt (List.replicate n z) 0 cur w hg (by simpa using hfit) (by intro v hv; rw [List.eq_of_mem_replicate hv]; exact h1)
  simp only [Nat.add_zero, List.length_replicate] at hst
  obtain ⟨m, rfl⟩ : ∃ m, n = m + 1 := ⟨n - 1, by omega⟩
  simp [Builtin.clear_, run_underlying ht, run_zeroValue hz, hzc, hst]
theorem wpList_clear {ops : Array Oper} {rest : List Oper} {o : Oper} {a : Act} {Q : Exit → Act → World → Prop} (t : TypeId) {x : Operand}
    (ho : o.op = .call { callee := .builtin .clear, args := #[x], argTypes := #[t] }) (hgd : o.guard = none) (e : TypeId)
    (ht : P.underlying t = some (.slice e)) (z : Value) (hz : (P.info? e).map (·.zero) = some (some z)) (hz1 : z.cells = #[z]) (h1 : z.oneCell' = true)
    {g off n c : Nat} (hx : a.eval x = .slice (some ⟨g, off, none⟩) n c) (tt : TypeId) (cur : Array Value) (hg : w.heap[g]? = some (.cells cur tt (0, 0))) (hfit : off + n ≤ cur.size) (hn : 0 < n)
    (h : wpList P ops Q rest (a.put o.dst (.tuple #[])) (w.setRow g (cur.toList.take off ++ List.replicate n z ++ cur.toList.drop (off + n)).toArray)) : wpList P ops Q (o :: rest) a w :=
  wpList_plain hgd fun _ hK => by
    unfold Oper.wp
    have hr := run_clear (P := P) (w := w) (ty := o.type) ht hz hz1 h1 g off n c tt cur hg hfit hn
    have he : (execOp a.eval o).run P w = .ok (.value (.tuple #[])) (w.setRow g (cur.toList.take off ++ List.replicate n z ++ cur.toList.drop (off + n)).toArray) := by
      unfold execOp
      simp only [ho]
      simp [resolve, invoke, builtin, hx, hr]
    rw [he]
    exact hK _ _ h
/-- An element of an array value, where an element is one cell. -/
theorem run_index_agg {t e : TypeId} {len : Nat} {d : TypeDesc} (ht : P.underlying t = some (.array len e)) (hu : P.underlying e = some d) (hd : aggDesc d = false)
    (hi : (P.info? e).map (·.size) = some 1) (vs : List Value) {k : Nat} {v : Value} (hk : k < len) (hv : vs[k]? = some v) (kd : IntKind) (w : World) :
    (Instr.index t (.agg vs.toArray) (.int kd k)).run P w = .ok v w := by
  have hn : (isAgg e).run P w = .ok false w := by
    unfold isAgg
    rw [Sem.run_bind, run_underlying hu w]
    cases d <;> simp_all [aggDesc]
  simp [Instr.index, asIntOf, run_underlying ht, run_sizeOf hi, part, hn, hk, hv]
/-- x[l:] of an array variable whose elements are of one cell. -/
theorem run_sliceAt_low {t e : TypeId} {len : Nat} (ht : P.underlying t = some (.array len e)) (hi : (P.info? e).map (·.size) = some 1) (g o : Nat) {l : Nat} (hl : l ≤ len) (w : World) :
    (Instr.sliceAt t (.pointer (some ⟨g, o, none⟩)) (some (.int .i64 l)) none none).run P w =
      .ok (.slice (some (if len = l then ⟨g, o, none⟩ else ⟨g, o + l, none⟩)) (len - l) (len - l)) w := by
  have h1 : (0 : Int) ≤ (l : Int) ∧ (l : Int) ≤ (len : Int) := by omega
  have h2 : (Instr.sliceBound (.int .i64 l) len .sliceB).run P w = .ok l w := by
    simp [Instr.sliceBound, asIntOf, h1]
  simp [Instr.sliceAt, run_underlying ht, Instr.sureAddr, Instr.sliceBounds, h2, run_sizeOf hi]
  split
  · rfl
  · unfold Addr.add; split <;> simp_all
/-- Two arrays of integers are equal just if all elements are. -/
theorem run_equalIn_loop (d : Nat) {e : TypeId} {k : IntKind} {len : Nat} (he : P.underlying e = some (.int k)) (f g : Nat → Int) (w : World) :
    ∀ (m s : Nat), s + m ≤ len →
      (forIn (List.range' s m) ((none : Option Bool), ()) (fun i _ => do
        let x ← part e ((List.range len).map fun i => Value.int k (f i)).toArray (i * 1)
        let y ← part e ((List.range len).map fun i => Value.int k (g i)).toArray (i * 1)
        let b ← Op.equalIn (d + 1) e x y
        if (!b) = true then pure (ForInStep.done (some false, ())) else pure (ForInStep.yield (none, ()))) : Sem (Option Bool × Unit)).run P w =
      .ok (if ((List.range' s m).all fun i => f i == g i) = true then (none, ()) else (some false, ())) w := by
  have hn : (isAgg e).run P w = .ok false w := by
    unfold isAgg
    rw [Sem.run_bind, run_underlying he w]
    rfl
  intro m
  induction m with
  | zero => intro s _; rfl
  | succ m ih =>
    intro s hs
    rw [List.range'_succ, List.forIn_cons, List.all_cons]
    have hp : ∀ h : Nat → Int, (part e ((List.range len).map fun i => Value.int k (h i)).toArray (s * 1)).run P w = .ok (.int k (h s)) w := by
      intro h
      simp [part, hn, show s < len by omega]
    have hq : (Op.equalIn (d + 1) e (.int k (f s)) (.int k (g s))).run P w = .ok (f s == g s) w := by
      simp [Op.equalIn, run_underlying he]
    simp only [Sem.run_bind, hp, hq, Result.andThen_ok]
    by_cases hfg : f s = g s
    · simp only [hfg, beq_self_eq_true, Bool.not_true, Bool.false_eq_true, if_false, Sem.run_pure, Result.andThen_ok, Bool.true_and]
      rw [ih (s + 1) (by omega)]
    · have hb : (f s == g s) = false := by simpa using hfg
      simp only [hb, Bool.not_false, if_true, Sem.run_pure, Result.andThen_ok, Bool.false_and, Bool.false_eq_true, if_false]
theorem run_equalIn_arr (d : Nat) {t e : TypeId} {k : IntKind} {len : Nat} (ht : P.underlying t = some (.array len e)) (he : P.underlying e = some (.int k)) (hi : (P.info? e).map (·.size) = some 1) (f g : Nat → Int) (w : World) :
    (Op.equalIn (d + 2) t (.agg ((List.range len).map fun i => Value.int k (f i)).toArray) (.agg ((List.range len).map fun i => Value.int k (g i)).toArray)).run P w = .ok ((List.range len).all fun i => f i == g i) w := by
  unfold Op.equalIn
  simp only [Sem.run_bind, run_underlying ht, Result.andThen_ok, run_sizeOf hi]
  simp only [Std.Legacy.Range.forIn_eq_forIn_range']
  have hsz : [:len].size = len := by simp [Std.Legacy.Range.size]
  rw [hsz, run_equalIn_loop d he f g w len 0 (by omega)]
  simp only [Result.andThen_ok, List.range_eq_range']
  cases h : (List.range' 0 len).all fun i => f i == g i <;> rfl
/-- '==' of two arrays of integers. -/
theorem run_eql_arr {t e : TypeId} {k : IntKind} {len : Nat} (ht : P.underlying t = some (.array len e)) (he : P.underlying e = some (.int k)) (hi : (P.info? e).map (·.size) = some 1) (f g : Nat → Int) (w : World) :
    (binOp .eql t (.agg ((List.range len).map fun i => Value.int k (f i)).toArray) (.agg ((List.range len).map fun i => Value.int k (g i)).toArray)).run P w = .ok (.bool ((List.range len).all fun i => f i == g i)) w := by
  rw [run_eql_struct, run_equalIn_arr 9998 ht he hi f g w]
  rfl
theorem run_neq_arr {t e : TypeId} {k : IntKind} {len : Nat} (ht : P.underlying t = some (.array len e)) (he : P.underlying e = some (.int k)) (hi : (P.info? e).map (·.size) = some 1) (f g : Nat → Int) (w : World) :
    (binOp .neq t (.agg ((List.range len).map fun i => Value.int k (f i)).toArray) (.agg ((List.range len).map fun i => Value.int k (g i)).toArray)).run P w = .ok (.bool (!((List.range len).all fun i => f i == g i))) w := by
  rw [run_neq_struct, run_equalIn_arr 9998 ht he hi f g w]
  rfl
theorem exec_load_agg {o : Oper} {a : Act} {ty : TypeId} {x : Operand} (ho : o.op = .load ty x) {g off : Nat} (hx : a.eval x = .pointer (some ⟨g, off, none⟩)) {d : TypeDesc} (vs : List Value)
    (hu : P.underlying ty = some d) (hd : aggDesc d = true) (hi : (P.info? ty).map (·.size) = some vs.length) (hc : ∀ j v, vs[j]? = some v → w.cell? ⟨g, off + j, none⟩ = some v) :
    (execOp a.eval o).run P w = .ok (.value (.agg vs.toArray)) w := by
  unfold execOp
  simp only [ho, hx, Sem.run_bind, run_loadAt_agg vs hu hd hi hc, Result.andThen_ok]
  rfl
theorem exec_eql_arr {o : Oper} {a : Act} {t u e : TypeId} {x y : Operand} (ho : o.op = .binOp .eql t x y u) {k : IntKind} {len : Nat} (f g : Nat → Int)
    (hx : a.eval x = .agg ((List.range len).map fun i => Value.int k (f i)).toArray) (hy : a.eval y = .agg ((List.range len).map fun i => Value.int k (g i)).toArray)
    (hm : P.eqGuardType P.depth t = false) (ht : P.underlying t = some (.array len e)) (he : P.underlying e = some (.int k)) (hi : (P.info? e).map (·.size) = some 1) :
    (execOp a.eval o).run P w = .ok (.value (.bool ((List.range len).all fun i => f i == g i))) w := by
  unfold execOp
  simp only [ho, hx, hy, Sem.run_bind, run_eqGuard_agg (hm := hm), Result.andThen_ok, run_eql_arr ht he hi]
  rfl
end
theorem Kept.setRow {S : Nat → Prop} {a b : World} (h : Kept S a b) {g : Nat} (hp : S g) (cs : Array Value) : Kept S a (b.setRow g cs) :=
  h.trans ⟨rfl, rfl, rfl, by simp, fun k _ hs => setRow_other _ _ _ _ (fun e => hs (e ▸ hp))⟩
theorem Kept.setRowNew {S : Nat → Prop} {a b : World} (h : Kept S a b) {g : Nat} (hp : a.heap.size ≤ g) (cs : Array Value) : Kept S a (b.setRow g cs) :=
  h.trans_new (Kept.setRow (S := fun k => k = g) (Kept.refl _ _) rfl cs) (fun i hi e => absurd e (by omega))
end Go.Proofs.Ythmjcbmeiabbgaa
