/-
 Layer 12: two trees of changes.
-/
import Derived.Test.YtidlchciehdefaaGreatK13
import Derived.Test.YtidlchciehdefaaGreatK18
import Derived.Test.YtidlchciehdefaaGreatK24
import Derived.Test.YtidlchciehdefaaGreatK27
import Derived.Test.YtidlchciehdefaaGreatK28
import Derived.Deep.RegionHeld3
set_option linter.unusedVariables false
set_option linter.unusedSimpArgs false
namespace Go.Proofs.YtidlchciehdefaaGreat
open Go.RowKit
set_option maxRecDepth 100000

def clampQ (p : Int) : Nat := (max 0 (min p 3)).toNat
def ownC (ns : List Nat) (c : Int × Int) : List (Int × Int) := if 0 ≤ c.1 ∧ c.1 < 64 then [if c.2 = -1 then c else (c.1, ((ns.getD (clampQ c.2) 0 : Nat) : Int))] else []
def ownL (ns : List Nat) (l : List (Int × Int)) : List (Int × Int) := l.flatMap (ownC ns)
theorem ownC_skip {ns : List Nat} {c : Int × Int} (h : ¬ (0 ≤ c.1 ∧ c.1 < 64)) : ownC ns c = [] := by unfold ownC; rw [if_neg h]
theorem ownC_none {ns : List Nat} {k : Int} (h0 : 0 ≤ k) (h1 : k < 64) : ownC ns (k, -1) = [(k, -1)] := by unfold ownC; rw [if_pos ⟨h0, h1⟩, if_pos rfl]
theorem ownC_some {ns : List Nat} {k p : Int} {q : Nat} (h0 : 0 ≤ k) (h1 : k < 64) (hp : ¬ p = -1) (hq : ns[clampQ p]? = some q) : ownC ns (k, p) = [(k, (q : Int))] := by
 unfold ownC
 rw [if_pos ⟨h0, h1⟩, if_neg hp, List.getD_eq_getElem?_getD, hq]
 rfl
theorem ownC_len (ns : List Nat) (c : Int × Int) : (ownC ns c).length ≤ 1 := by unfold ownC; split <;> simp
theorem ownL_len (ns : List Nat) : ∀ l : List (Int × Int), (ownL ns l).length ≤ l.length
 | [] => Nat.le_refl _
 | c :: l => by
  have h1 := ownC_len ns c
  have h2 := ownL_len ns l
  unfold ownL at h2 ⊢
  rw [List.flatMap_cons, List.length_append, List.length_cons]
  omega
theorem ownL_step {ns : List Nat} {l : List (Int × Int)} {k : Nat} {x : Int × Int} (h : l[k]? = some x) : ownL ns (l.take (k + 1)) = ownL ns (l.take k) ++ ownC ns x := by
 unfold ownL
 rw [List.take_add_one, h, List.flatMap_append]
 show _ ++ (ownC ns x ++ []) = _
 rw [List.append_nil]
theorem ownL_good {ns : List Nat} (h4 : ns.length = 4) (l : List (Int × Int)) : ∀ x ∈ ownL ns l, 0 ≤ x.1 ∧ x.1 < 64 ∧ (x.2 = -1 ∨ ∃ b ∈ ns, x.2 = ((b : Nat) : Int)) := fun x hx => by
 unfold ownL at hx
 obtain ⟨c, _, hx⟩ := List.mem_flatMap.1 hx
 unfold ownC at hx
 split at hx
 ·rename_i hc
  rw [List.mem_singleton] at hx
  subst hx
  split
  ·rename_i hp
   exact ⟨hc.1, hc.2, .inl hp⟩
  ·have hq : clampQ c.2 < ns.length := by rw [h4]; unfold clampQ; omega
   refine ⟨hc.1, hc.2, .inr ⟨ns[clampQ c.2], List.getElem_mem hq, ?_⟩⟩
   show ((ns.getD (clampQ c.2) 0 : Nat) : Int) = _
   rw [List.getD_eq_getElem?_getD, List.getElem?_eq_getElem hq]
   rfl
 ·cases hx
structure PagesAt (w : World) (v : Value) (ns : List Nat) (A : SA) : Prop where
 at_ : SliceAt w v 1 ns.length (ns.map fun i => Value.int .i64 (i : Nat))
 off : ns ≠ [] → ∀ b, v.ownBlock = some b → b < w.heap.size ∧ ¬ A.foot b
theorem PagesAt.fresh {w w' : World} {v : Value} {ns : List Nat} {A : SA} (h : PagesAt w v ns A) (k : Kept (fun _ => False) w w') : PagesAt w' v ns A :=
 ⟨SliceAt.fresh h.at_ k, fun hl b hb => ⟨Nat.lt_of_lt_of_le (h.off hl b hb).1 k.size, (h.off hl b hb).2⟩⟩
theorem PagesAt.to {w w' : World} {v : Value} {ns : List Nat} {A A' : SA} {M' : SM} (h : PagesAt w v ns A) (hne : ns ≠ []) (k : StoreTo A A' M' w w') : PagesAt w' v ns A' :=
 ⟨SliceAt.kept h.at_ k.kept fun b hb => (h.off hne b hb).2, fun hl b hb => ⟨Nat.lt_of_lt_of_le (h.off hl b hb).1 k.kept.size, fun e => (k.foot b e).elim (h.off hl b hb).2 fun e => absurd (h.off hl b hb).1 (Nat.not_lt.2 e)⟩⟩
theorem PagesAt.get {w : World} {Av : Option Addr} {n cap : Nat} {ns : List Nat} {A : SA} (h : PagesAt w (.slice Av n cap) ns A) {i : Nat} {x : Nat} (hx : ns[i]? = some x) :
  ∃ b off, Av = some ⟨b, off, none⟩ ∧ b < w.heap.size ∧ w.cell? ⟨b, off + i, none⟩ = some (.int .i64 (x : Int)) := by
 have hi := (List.getElem?_eq_some_iff.1 hx).1
 obtain ⟨b, off, hA, hlt, hc⟩ := SliceAt.elem h.at_ hi (by omega)
 refine ⟨b, off, hA, hlt, ?_⟩
 have := hc 0 (.int .i64 (x : Int)) (by omega) (by simp [hx])
 simpa using this
structure OwnSt (w : World) (ns : List Nat) (l : List (Int × Int)) (k : Nat) (v : Value) (wr : World) : Prop where
 kept : Kept (fun _ => False) w wr
 row : wr.ownsRow w.heap.size 92 2 v (ownL ns (l.take k)).length (entCells (ownL ns (l.take k)))
section
variable {w wr w' : World} {ns : List Nat} {l : List (Int × Int)} {k : Nat} {v : Value}
theorem OwnSt.fresh (h : OwnSt w ns l k v wr) (q : Kept (fun _ => False) wr w') : OwnSt w ns l k v w' := ⟨h.kept.trans q, ownsRow.keptOf h.row q (fun _ _ => id)⟩
theorem OwnSt.skip (h : OwnSt w ns l k v wr) (e : ownL ns (l.take (k + 1)) = ownL ns (l.take k) ++ []) : OwnSt w ns l (k + 1) v wr := by
 rw [List.append_nil] at e
 exact ⟨h.kept, by rw [e]; exact h.row⟩
theorem OwnSt.later (h : OwnSt w ns l k v wr) {w1 : World} {xb : Nat} (k1 : Kept (fun _ => False) wr w1) (k2 : Kept (fun j => j = xb) w1 w') (hx : wr.heap.size ≤ xb) (hn : w.heap.size ≤ xb) : OwnSt w ns l k v w' := by
 have h1 := h.fresh k1
 refine ⟨h1.kept.trans_new k2 (fun i hi e => by omega), ownsRow.keptOf h1.row k2 (fun b hb e => ?_)⟩
 have := (h.row.lt b hb).2
 omega
theorem OwnSt.more (h : OwnSt w ns l k v wr) {w1 : World} (k1 : Kept (fun _ => False) wr w1) {x : Int × Int} (e : ownL ns (l.take (k + 1)) = ownL ns (l.take k) ++ [x]) {v7 : Value}
  (ho : w'.ownsRow w.heap.size 92 2 v7 ((ownL ns (l.take k)).length + 1) (entCells (ownL ns (l.take k)) ++ [.int .i64 x.1, .int .i64 x.2])) (hg : w1.grownBy w' v.ownBlock) : OwnSt w ns l (k + 1) v7 w' := by
 refine ⟨(h.kept.trans k1).trans_new (Kept.of_grown hg) (fun i hi e => ?_), ?_⟩
 ·exact absurd (h.row.lt i e).1 (Nat.not_le.2 hi)
 ·rw [e, List.length_append, entCells_append]
  exact ho
end
theorem EntsOff.apart {w w' : World} {A : SA} {v : Value} {l : List (Int × Int)} {c : Nat} (h : EntsOff w A v l) (k : Kept (fun j => j = c) w w') (hc : l ≠ [] → ∀ b, v.ownBlock = some b → b ≠ c) : EntsOff w' A v l :=
 ⟨by
  by_cases hl : l = []
  ·subst hl; exact EntsAt.nil h.at_
  ·exact SliceAt.kept h.at_ k fun b hb => hc hl b hb, fun hl b hb => ⟨Nat.lt_of_lt_of_le (h.off hl b hb).1 k.size, (h.off hl b hb).2⟩⟩
theorem PagesAt.apart {w w' : World} {A : SA} {v : Value} {ns : List Nat} {c : Nat} (h : PagesAt w v ns A) (k : Kept (fun j => j = c) w w') (hc : ∀ b, v.ownBlock = some b → b ≠ c) : PagesAt w' v ns A :=
 ⟨SliceAt.kept h.at_ k fun b hb => hc b hb, fun hl b hb => ⟨Nat.lt_of_lt_of_le (h.off hl b hb).1 k.size, (h.off hl b hb).2⟩⟩
theorem StoreTo.apart {w wr w' : World} {A0 A : SA} {M : SM} {c : Nat} (h : StoreTo A0 A M w wr) (k : Kept (fun j => j = c) wr w') (hc : ¬ A.own c) (hn : w.heap.size ≤ c) : StoreTo A0 A M w w' :=
 ⟨h.store.kept k (fun i hi e => hc (e ▸ hi)), h.kept.trans_new k (fun i hi e => by omega), h.foot, h.sb, h.fix⟩
structure TwoSt (w : World) (A0 : SA) (sb db lb rr lr rB lB : Nat) (u0 u1 vp : Value) (ns : List Nat) (l0 l1 : List (Int × Int)) (r0 r1 : Int) (L0 L1 : Value) (wr : World) (A : SA) (M : SM) : Prop where
 to_ : StoreTo A0 A M w wr
 cd : wr.heap[db]? = some (.cells #[.pointer (some ⟨sb, 0, none⟩)] 30 (0, 0))
 cl : wr.heap[lb]? = some (.cells #[u0, u1] 98 (0, 0))
 c6 : wr.heap[rr]? = some (.cells #[.int .i64 0, .int .i64 0] 93 (0, 0))
 c7 : wr.heap[lr]? = some (.cells #[.slice none 0 0, .slice none 0 0] 95 (0, 0))
 c9 : wr.heap[rB]? = some (.cells #[.int .i64 r0, .int .i64 r1] 93 (0, 0))
 c10 : wr.heap[lB]? = some (.cells #[L0, L1] 95 (0, 0))
 ap : ∀ b ∈ [db, lb, rr, lr, rB, lB], ApartS wr A b
 e0 : EntsOff wr A u0 l0
 e1 : EntsOff wr A u1 l1
 pg : PagesAt wr vp ns A
structure TwoIn (n0 db lb rr lr rB lB : Nat) (u0 u1 vp : Value) (l0 l1 : List (Int × Int)) : Prop where
 ord : n0 ≤ db ∧ db < lb ∧ lb < rr ∧ rr < lr ∧ lr < rB ∧ rB < lB
 b0 : l0 ≠ [] → ∀ b, u0.ownBlock = some b → b < n0
 b1 : l1 ≠ [] → ∀ b, u1.ownBlock = some b → b < n0
 bp : ∀ b, vp.ownBlock = some b → b < n0
section
variable {w wr w' : World} {A0 A A' : SA} {M M' : SM} {sb db lb rr lr rB lB : Nat} {u0 u1 vp : Value} {ns : List Nat} {l0 l1 : List (Int × Int)} {r0 r1 : Int} {L0 L1 : Value}
theorem TwoSt.fresh (h : TwoSt w A0 sb db lb rr lr rB lB u0 u1 vp ns l0 l1 r0 r1 L0 L1 wr A M) (k : Kept (fun _ => False) wr w') : TwoSt w A0 sb db lb rr lr rB lB u0 u1 vp ns l0 l1 r0 r1 L0 L1 w' A M :=
 ⟨h.to_.fresh k, k.get h.cd id, k.get h.cl id, k.get h.c6 id, k.get h.c7 id, k.get h.c9 id, k.get h.c10 id, fun b hb => (h.ap b hb).fresh k, h.e0.fresh k, h.e1.fresh k, h.pg.fresh k⟩
theorem TwoSt.to (h : TwoSt w A0 sb db lb rr lr rB lB u0 u1 vp ns l0 l1 r0 r1 L0 L1 wr A M) (hn : ns ≠ []) (k : StoreTo A A' M' wr w') : TwoSt w A0 sb db lb rr lr rB lB u0 u1 vp ns l0 l1 r0 r1 L0 L1 w' A' M' := by
 have g : ∀ b ∈ [db, lb, rr, lr, rB, lB], Safe wr A b := fun b hb => (h.ap b hb).safe
 refine ⟨h.to_.trans k, k.get h.cd (g db ?_), k.get h.cl (g lb ?_), k.get h.c6 (g rr ?_), k.get h.c7 (g lr ?_), k.get h.c9 (g rB ?_), k.get h.c10 (g lB ?_), fun b hb => (h.ap b hb).to k, h.e0.to k, h.e1.to k, h.pg.to hn k⟩ <;> simp
theorem TwoSt.load (h : TwoSt w A0 sb db lb rr lr rB lB u0 u1 vp ns l0 l1 r0 r1 L0 L1 wr A M) : ∀ j v, [Value.pointer (some ⟨sb, 0, none⟩)][j]? = some v → wr.cell? ⟨db, 0 + j, none⟩ = some v := ptr_load' h.cd
theorem TwoSt.c0 (h : TwoSt w A0 sb db lb rr lr rB lB u0 u1 vp ns l0 l1 r0 r1 L0 L1 wr A M) : wr.cell? ⟨db, 0, none⟩ = some (.pointer (some ⟨sb, 0, none⟩)) := h.load 0 _ rfl
theorem TwoSt.roots (h : TwoSt w A0 sb db lb rr lr rB lB u0 u1 vp ns l0 l1 r0 r1 L0 L1 wr A M) (I : TwoIn w.heap.size db lb rr lr rB lB u0 u1 vp l0 l1) {o : Nat} {v : Value} {s0 s1 : Int} (e : (#[Value.int .i64 r0, .int .i64 r1] : Array Value).setIfInBounds o v = #[.int .i64 s0, .int .i64 s1]) :
  TwoSt w A0 sb db lb rr lr rB lB u0 u1 vp ns l0 l1 s0 s1 L0 L1 (wr.setCell ⟨rB, o, none⟩ v) A M := by
 obtain ⟨o1, o2, o3, o4, o5, o6⟩ := I.ord
 have k : Kept (fun j => j = rB) wr (wr.setCell ⟨rB, o, none⟩ v) := Kept.setCell (S := fun j => j = rB) (Kept.refl _ _) rfl _
 refine ⟨h.to_.apart k (h.ap rB (by simp)).off (by omega), k.get h.cd (by omega), k.get h.cl (by omega), k.get h.c6 (by omega), k.get h.c7 (by omega), by rw [heap_setCell_same h.c9, e], k.get h.c10 (by omega), fun b hb => ⟨Nat.lt_of_lt_of_le (h.ap b hb).lt k.size, (h.ap b hb).off⟩,
  h.e0.apart k (fun hl b hb => by have := I.b0 hl b hb; omega), h.e1.apart k (fun hl b hb => by have := I.b1 hl b hb; omega), h.pg.apart k (fun b hb => by have := I.bp b hb; omega)⟩
theorem TwoSt.lists (h : TwoSt w A0 sb db lb rr lr rB lB u0 u1 vp ns l0 l1 r0 r1 L0 L1 wr A M) (I : TwoIn w.heap.size db lb rr lr rB lB u0 u1 vp l0 l1) {o : Nat} {v K0 K1 : Value} (e : (#[L0, L1] : Array Value).setIfInBounds o v = #[K0, K1]) :
  TwoSt w A0 sb db lb rr lr rB lB u0 u1 vp ns l0 l1 r0 r1 K0 K1 (wr.setCell ⟨lB, o, none⟩ v) A M := by
 obtain ⟨o1, o2, o3, o4, o5, o6⟩ := I.ord
 have k : Kept (fun j => j = lB) wr (wr.setCell ⟨lB, o, none⟩ v) := Kept.setCell (S := fun j => j = lB) (Kept.refl _ _) rfl _
 refine ⟨h.to_.apart k (h.ap lB (by simp)).off (by omega), k.get h.cd (by omega), k.get h.cl (by omega), k.get h.c6 (by omega), k.get h.c7 (by omega), k.get h.c9 (by omega), by rw [heap_setCell_same h.c10, e], fun b hb => ⟨Nat.lt_of_lt_of_le (h.ap b hb).lt k.size, (h.ap b hb).off⟩,
  h.e0.apart k (fun hl b hb => by have := I.b0 hl b hb; omega), h.e1.apart k (fun hl b hb => by have := I.b1 hl b hb; omega), h.pg.apart k (fun b hb => by have := I.bp b hb; omega)⟩
end
structure ListAt (lB : Nat) (wr : World) (A : SA) (v : Value) (l : List (Int × Int)) : Prop where
 off : EntsOff wr A v l
 far : l ≠ [] → ∀ b, v.ownBlock = some b → lB < b
theorem ListAt.fresh {lB : Nat} {w w' : World} {A : SA} {v : Value} {l : List (Int × Int)} (h : ListAt lB w A v l) (k : Kept (fun _ => False) w w') : ListAt lB w' A v l := ⟨h.off.fresh k, h.far⟩
theorem ListAt.to {lB : Nat} {w w' : World} {A A' : SA} {M' : SM} {v : Value} {l : List (Int × Int)} (h : ListAt lB w A v l) (k : StoreTo A A' M' w w') : ListAt lB w' A' v l := ⟨h.off.to k, h.far⟩
theorem ListAt.apart {lB c : Nat} {w w' : World} {A : SA} {v : Value} {l : List (Int × Int)} (h : ListAt lB w A v l) (k : Kept (fun j => j = c) w w') (hc : c ≤ lB) : ListAt lB w' A v l := ⟨h.off.apart k (fun hl b hb => by have := h.far hl b hb; omega), h.far⟩
theorem list_made {lB : Nat} {w w' : World} {A : SA} {M : SM} {va u : Value} {l cs : List (Int × Int)} (hs : StoreAt w A M) (hb : lB < w.heap.size) (hv : ListAt lB w A va l) (R : RaSt w va l cs cs.length u w') : ListAt lB w' A u (cs.foldl chgL l) := by
 have hE := R.ents
 rw [List.take_length] at hE
 have hne : u = va → cs.foldl chgL l ≠ [] → l ≠ [] := fun e hf hl => by
  obtain ⟨A1, c1, e1, _⟩ := hE.form
  obtain ⟨A2, c2, e2, _⟩ := hv.off.at_.form
  rw [e, e2] at e1
  injection e1 with _ h2 _
  have h3 : l.length = 0 := by rw [hl]; rfl
  exact hf (List.eq_nil_of_length_eq_zero (by omega))
 refine ⟨⟨hE, fun hf b hb' => ?_⟩, fun hf b hb' => ?_⟩
 ·obtain ⟨b', e1, e2⟩ := SliceAt.block hE (by have := List.length_pos_iff.2 hf; omega)
  rw [hb'] at e1
  cases e1
  refine ⟨e2, fun e => ?_⟩
  rcases R.own with e3 | e3
  ·rw [e3] at hb'
   exact (hv.off.off (hne e3 hf) b hb').2 e
  ·have h1 := e3 b hb'
   have h2 := hs.lt (.inl e)
   omega
 ·rcases R.own with e3 | e3
  ·rw [e3] at hb'
   exact hv.far (hne e3 hf) b hb'
  ·have := e3 b hb'
   omega
theorem results_two {P : Program} {fn : Func} {p q u : Tmp} {ty ty' : TypeId} (h : fn.results = #[.cell p ty, .cell q ty', .tmp u]) (tmps : Array Value) (w : World) (g g' : Nat) (t t' : TypeId) (cs cs' : Array Value) (fr fr' : Nat × Nat) (d d' : TypeDesc)
  (hp : tmps.getD p undef = .pointer (some ⟨g, 0, none⟩)) (hg : w.heap[g]? = some (.cells cs t fr)) (hu : P.underlying ty = some d) (hd : (match d with | .struct _ | .array _ _ => true | _ => false) = true) (hi : (P.info? ty).map (·.size) = some cs.size)
  (hp' : tmps.getD q undef = .pointer (some ⟨g', 0, none⟩)) (hg' : w.heap[g']? = some (.cells cs' t' fr')) (hu' : P.underlying ty' = some d') (hd' : (match d' with | .struct _ | .array _ _ => true | _ => false) = true) (hi' : (P.info? ty').map (·.size) = some cs'.size) :
  (results fn tmps).run P w = .ok (.tuple #[.agg cs, .agg cs', tmps.getD u undef]) w := by
 have h1 : tmps[p]?.getD undef = .pointer (some ⟨g, 0, none⟩) := by simpa using hp
 have h2 : tmps[q]?.getD undef = .pointer (some ⟨g', 0, none⟩) := by simpa using hp'
 simp [results, h, h1, h2, asAddr, run_loadVar_row w g t ty cs fr d hg hu hd hi, run_loadVar_row w g' t' ty' cs' fr' d' hg' hu' hd' hi']
set_option maxHeartbeats 16000000 in
theorem two12 {w : World} {A : SA} {M M1 M1h M2 : SM} (h : StoreAt w A M) {ns : List Nat} (hns : ns.length = 4) {vp v0 v1 : Value} {l0 l1 : List (Int × Int)} (hp : PagesAt w vp ns A) (hv0 : EntsOff w A v0 l0) (hv1 : EntsOff w A v1 l1) (hl0 : l0.length ≤ 70) (hl1 : l1.length ≤ 70) {r0 r1 : Int}
  (H0 : SM.changes (ownL ns l0) M (-1) = (M1, r0, 0)) (Hh : (if r0 = -1 then (M1, 0) else M1.hold r0) = (M1h, 0)) (H1 : SM.changes (ownL ns l1) M1h r0 = (M2, r1, 0)) (g0 : M.log.length ≤ 10000) (g1 : M1h.log.length ≤ 10000) :
  Calls Tryz.prog 52 #[.agg #[.pointer (some ⟨A.sb, 0, none⟩)], vp, .agg #[v0, v1]] w fun e w' => ∃ A' L0 L1, e = .returned (.tuple #[.agg #[.int .i64 r0, .int .i64 r1], .agg #[L0, L1], .bool true]) ∧ StoreTo A A' M2 w w' ∧ EntsOff w' A' L0 ((ownL ns l0).foldl chgL []) ∧ EntsOff w' A' L1 ((ownL ns l1).foldl chgL ((ownL ns l0).foldl chgL [])) := by
 obtain ⟨A0, c0, rfl, ha1, ha2⟩ := hv0.at_.form
 obtain ⟨A1, c1, rfl, hb1, hb2⟩ := hv1.at_.form
 obtain ⟨_, Ap, cp, rfl, hp1, hp2, _⟩ := id hp.at_
 unfold maxLen at ha2 hb2 hp2
 have hne : ns ≠ [] := fun e => by rw [e] at hns; cases hns
 obtain ⟨sb, hsb⟩ : ∃ sb, A.sb = sb := ⟨_, rfl⟩
 obtain ⟨db, hdb⟩ : ∃ b, w.heap.size = b := ⟨_, rfl⟩
 obtain ⟨w1, hw1⟩ : ∃ u, w.alloc (.cells #[.pointer (some ⟨sb, 0, none⟩)] 30) = u := ⟨_, rfl⟩
 obtain ⟨lb, hlb⟩ : ∃ b, w1.heap.size = b := ⟨_, rfl⟩
 obtain ⟨w2, hw2⟩ : ∃ u, w1.alloc (.cells #[.slice A0 l0.length c0, .slice A1 l1.length c1] 98) = u := ⟨_, rfl⟩
 obtain ⟨rr, hrr⟩ : ∃ b, w2.heap.size = b := ⟨_, rfl⟩
 obtain ⟨w3, hw3⟩ : ∃ u, w2.alloc (.cells #[.int .i64 0, .int .i64 0] 93) = u := ⟨_, rfl⟩
 obtain ⟨lr, hlr⟩ : ∃ b, w3.heap.size = b := ⟨_, rfl⟩
 obtain ⟨w4, hw4⟩ : ∃ u, w3.alloc (.cells #[.slice none 0 0, .slice none 0 0] 95) = u := ⟨_, rfl⟩
 obtain ⟨rB, hrB⟩ : ∃ b, w4.heap.size = b := ⟨_, rfl⟩
 obtain ⟨w5, hw5⟩ : ∃ u, (w4.alloc (.cells #[.int .i64 0, .int .i64 0] 93)).setRow rB #[.int .i64 (-1), .int .i64 (-1)] = u := ⟨_, rfl⟩
 obtain ⟨lB, hlB⟩ : ∃ b, w5.heap.size = b := ⟨_, rfl⟩
 obtain ⟨w6, hw6⟩ : ∃ u, (w5.alloc (.cells #[.slice none 0 0, .slice none 0 0] 95)).setRow lB #[.slice none 0 0, .slice none 0 0] = u := ⟨_, rfl⟩
 have k1 : Kept (fun _ => False) w w1 := by rw [← hw1]; exact (Kept.refl _ _).alloc _
 have k2 : Kept (fun _ => False) w1 w2 := by rw [← hw2]; exact (Kept.refl _ _).alloc _
 have k3 : Kept (fun _ => False) w2 w3 := by rw [← hw3]; exact (Kept.refl _ _).alloc _
 have k4 : Kept (fun _ => False) w3 w4 := by rw [← hw4]; exact (Kept.refl _ _).alloc _
 have k5 : Kept (fun _ => False) w4 w5 := by rw [← hw5]; exact ((Kept.refl _ _).alloc _).setRowNew (by omega) _
 have k6 : Kept (fun _ => False) w5 w6 := by rw [← hw6]; exact ((Kept.refl _ _).alloc _).setRowNew (by omega) _
 have q1 : w1.heap[db]? = some (.cells #[.pointer (some ⟨sb, 0, none⟩)] 30 (0, 0)) := by rw [← hw1, ← hdb]; exact heap_alloc_new _ _
 have q2 : w2.heap[lb]? = some (.cells #[.slice A0 l0.length c0, .slice A1 l1.length c1] 98 (0, 0)) := by rw [← hw2, ← hlb]; exact heap_alloc_new _ _
 have q3 : w3.heap[rr]? = some (.cells #[.int .i64 0, .int .i64 0] 93 (0, 0)) := by rw [← hw3, ← hrr]; exact heap_alloc_new _ _
 have q4 : w4.heap[lr]? = some (.cells #[.slice none 0 0, .slice none 0 0] 95 (0, 0)) := by rw [← hw4, ← hlr]; exact heap_alloc_new _ _
 have q5 : w5.heap[rB]? = some (.cells #[.int .i64 (-1), .int .i64 (-1)] 93 (0, 0)) := by rw [← hw5, ← hrB]; exact setRow_heap _ _ _ _ _ _ (heap_alloc_new _ _)
 have q6 : w6.heap[lB]? = some (.cells #[.slice none 0 0, .slice none 0 0] 95 (0, 0)) := by rw [← hw6, ← hlB]; exact setRow_heap _ _ _ _ _ _ (heap_alloc_new _ _)
 have e1 := lt_of_heap q1
 have e2 := lt_of_heap q2
 have e3 := lt_of_heap q3
 have e4 := lt_of_heap q4
 have e5 := lt_of_heap q5
 have e6 := lt_of_heap q6
 have K6 := ((((k1.trans k2).trans k3).trans k4).trans k5).trans k6
 have hord : w.heap.size ≤ db ∧ db < lb ∧ lb < rr ∧ rr < lr ∧ lr < rB ∧ rB < lB := by omega
 have hIn : Hid (TwoIn w.heap.size db lb rr lr rB lB (.slice A0 l0.length c0) (.slice A1 l1.length c1) (.slice Ap ns.length cp) l0 l1) := h_ ⟨hord, fun hl b hb => (hv0.off hl b hb).1, fun hl b hb => (hv1.off hl b hb).1, fun b hb => (hp.off hne b hb).1⟩
 have S0 : Hid (∃ B, TwoSt w A sb db lb rr lr rB lB (.slice A0 l0.length c0) (.slice A1 l1.length c1) (.slice Ap ns.length cp) ns l0 l1 (-1) (-1) (.slice none 0 0) (.slice none 0 0) w6 B M) := h_ ⟨A, (StoreTo.refl h).fresh K6, ((((k2.trans k3).trans k4).trans k5).trans k6).get q1 id, (((k3.trans k4).trans k5).trans k6).get q2 id, ((k4.trans k5).trans k6).get q3 id, (k5.trans k6).get q4 id, k6.get q5 id, q6, fun b hb => ⟨by simp at hb; omega, fun e => by have := h.lt e; simp at hb; omega⟩, hv0.fresh K6, hv1.fresh K6, hp.fresh K6⟩
 have hp4 := h_ hp
 have H0' := h_ H0
 have H1' := h_ H1
 have Hh' := h_ Hh
 have hw1' := h_ hw1
 have hw2' := h_ hw2
 have hw3' := h_ hw3
 have hw4' := h_ hw4
 have hw5' := h_ hw5
 have hw6' := h_ hw6
 have hdb' := h_ hdb
 have hlb' := h_ hlb
 have hrr' := h_ hrr
 have hlr' := h_ hlr
 have hrB' := h_ hrB
 have hlB' := h_ hlB
 have hsb' := h_ hsb
 rw [hsb]
 clear H0 H1 Hh h hp hv0 hv1 hw1 hw2 hw3 hw4 hw5 hw6 hdb hlb hrr hlr hrB hlB k1 k2 k3 k4 k5 k6 q1 q2 q3 q4 q5 q6 e1 e2 e3 e4 e5 e6 K6 hord hsb
 go_enter Tryz.func52, Tryz.ntmps52
 go_wp2_with (first | (refine wpList_box_named 30 rfl rfl _ rfl hw1'.out ?_; rw [hdb'.out]) | (refine wpList_box_named 98 rfl rfl _ rfl hw2'.out ?_; rw [hlb'.out]) | (refine wpList_alloc_as 93 rfl rfl #[.int .i64 0, .int .i64 0] (by kernel_rfl) ?_; first | rw [hw3'.out, hrr'.out] | rw [hrB'.out]) | (refine wpList_alloc_as 95 rfl rfl #[.slice none 0 0, .slice none 0 0] (by kernel_rfl) ?_; first | rw [hw4'.out, hlr'.out] | rw [hlB'.out]) | (refine wpList_store_whole 93 rfl rfl rfl [.int .i64 (-1), .int .i64 (-1)] rfl (by kernel_rfl) 93 #[.int .i64 0, .int .i64 0] (by rw [← hrB'.out]; exact heap_alloc_new _ _) rfl (by intro c hc; simp at hc; subst hc; rfl) ?_; rw [hw5'.out]) | (refine wpList_store_whole 95 rfl rfl rfl [.slice none 0 0, .slice none 0 0] rfl (by kernel_rfl) 95 #[.slice none 0 0, .slice none 0 0] (by rw [← hlB'.out]; exact heap_alloc_new _ _) rfl (by intro c hc; simp at hc; subst hc; rfl) ?_; rw [hw6'.out]))
 go_loopw [23] (fun i wr => (i = .int .i64 0 ∧ Hid (∃ B, TwoSt w A sb db lb rr lr rB lB (.slice A0 l0.length c0) (.slice A1 l1.length c1) (.slice Ap ns.length cp) ns l0 l1 (-1) (-1) (.slice none 0 0) (.slice none 0 0) wr B M)) ∨ (i = .int .i64 1 ∧ Hid (∃ B L0, TwoSt w A sb db lb rr lr rB lB (.slice A0 l0.length c0) (.slice A1 l1.length c1) (.slice Ap ns.length cp) ns l0 l1 r0 (-1) L0 (.slice none 0 0) wr B M1 ∧ ListAt lB wr B L0 ((ownL ns l0).foldl chgL []))) ∨ (i = .int .i64 2 ∧ Hid (∃ B L0 L1, TwoSt w A sb db lb rr lr rB lB (.slice A0 l0.length c0) (.slice A1 l1.length c1) (.slice Ap ns.length cp) ns l0 l1 r0 r1 L0 L1 wr B M2 ∧ ListAt lB wr B L0 ((ownL ns l0).foldl chgL []) ∧ ListAt lB wr B L1 ((ownL ns l1).foldl chgL ((ownL ns l0).foldl chgL []))))) (fun i _ => (2 - intOf i).toNat)
 case atStart => exact .inl ⟨rfl, S0⟩
 case round =>
  rcases hrel with ⟨rfl, hI⟩ | ⟨rfl, hI⟩ | ⟨rfl, hI⟩
  ·obtain ⟨B, St⟩ := hI.out
   have hL := h_ (show True from trivial)
   have St0 := h_ St
   have clj := cell_of_heap St.cl 0
   simp at clj
   have dl : decide ((70 : Int) < (l0.length : Int)) = false := decide_eq_false (by omega)
   obtain ⟨wo, hwo⟩ : ∃ wo, wr.alloc (.cells #[] 92) = wo := ⟨_, rfl⟩
   have O0 : Hid (OwnSt wr ns l0 0 (.slice (some ⟨wr.heap.size, 0, none⟩) 0 0) wo) := h_ ⟨by rw [← hwo]; exact (Kept.refl _ _).alloc _, by rw [List.take_zero, ← hwo]; exact owns_empty wr wr.heap.size wr.heap.size 92 2 (Nat.le_refl _) rfl⟩
   have hwo' := h_ hwo
   have clo := cell_of_heap (((Kept.refl (fun _ => False) wr).alloc (.cells #[] 92)).get St.cl id) 0
   simp at clo
   clear hwo St
   go_wp2_with fail
   rw [hwo'.out]
   obtain ⟨wz, hwz⟩ : ∃ u, wr = u := ⟨_, rfl⟩
   rw [hwz] at hI St0 clj O0 hwo' ⊢
   clear hwz hI
   have St' := St0
   go_loopw [12, 38] (fun v i wr => ∃ (k : Nat), k ≤ l0.length ∧ i = .int .i64 k ∧ Hid (OwnSt wz ns l0 k v wr)) (fun _ i _ => l0.length - (intOf i).toNat)
   case atStart => exact ⟨0, Nat.zero_le _, rfl, O0⟩
   case round =>
    obtain ⟨k, hk, rfl, hO⟩ := hrel
    obtain ⟨_, Av, cv, rfl, hv1, hv2, _⟩ := SliceAt.of_owns hO.out.row
    unfold maxLen at hv2
    have hbnd := ownL_len ns (l0.take k)
    have hlk : (l0.take k).length ≤ 70 := by rw [List.length_take]; omega
    by_cases hlt : k < l0.length
    ·obtain ⟨x, hx⟩ : ∃ x, l0[k]? = some x := ⟨_, List.getElem?_eq_getElem hlt⟩
     obtain ⟨xk, xp⟩ := x
     have St := St'.out.fresh hO.out.kept
     obtain ⟨eb, eo, hA0, heb, hx0, hx1⟩ := St.e0.at_.get hx
     have hki : (k : Int) < (l0.length : Int) := by omega
     have hown := ownL_step (ns := ns) hx
     have hlo : Hid (∀ i v, [Value.int .i64 xk, .int .i64 xp][i]? = some v → wr.cell? ⟨eb, eo + k * 2 + i, none⟩ = some v) := h_ (fun i v hi => by
      match i, hi with
      | 0, hi => cases hi; exact hx0
      | 1, hi => cases hi; exact hx1)
     obtain ⟨xb, hxb⟩ : ∃ xb, wr.heap.size = xb := ⟨_, rfl⟩
     obtain ⟨wx, hwx⟩ : ∃ wx, (wr.alloc (.cells #[.int .i64 0, .int .i64 0] 92)).setRow xb #[.int .i64 xk, .int .i64 xp] = wx := ⟨_, rfl⟩
     have kx : Kept (fun _ => False) wr wx := by rw [← hwx]; exact ((Kept.refl _ _).alloc _).setRowNew (by omega) _
     have qx : wx.heap[xb]? = some (.cells #[.int .i64 xk, .int .i64 xp] 92 (0, 0)) := by rw [← hwx, ← hxb]; exact setRow_heap _ _ _ _ _ _ (heap_alloc_new _ _)
     have cx0 := cell_of_heap qx 0
     have cx1 := cell_of_heap qx 1
     simp at cx0 cx1
     have Ox := h_ (hO.out.fresh kx)
     have hxn : Hid (wz.heap.size ≤ xb) := h_ (by have := hO.out.kept.size; omega)
     have hxb' := h_ hxb
     have hwx' := h_ hwx
     by_cases h0 : 0 ≤ xk
     ·have d0 : decide (0 ≤ xk) = true := decide_eq_true h0
      by_cases h1 : xk < 64
      ·have d1 : decide (xk < 64) = true := decide_eq_true h1
       by_cases hm : xp = -1
       ·subst hm
        have hfin : Hid (ownL ns (l0.take (k + 1)) = ownL ns (l0.take k) ++ [(xk, -1)]) := h_ (by rw [hown, ownC_none h0 h1])
        have hlx : Hid (∀ i v, [Value.int .i64 xk, .int .i64 (-1)][i]? = some v → wx.cell? ⟨xb, 0 + i, none⟩ = some v) := h_ (fun i v hi => by rw [cell_of_heap qx, Nat.zero_add]; simpa using hi)
        subst hA0
        clear hx hx0 hx1 hO St hown kx qx hxb hwx heb
        go_wp2_with (first | (refine wpList_load_agg 92 rfl rfl rfl _ Tryz.underlying92 rfl [.int .i64 xk, .int .i64 (-1)] (by kernel_rfl) hlo.out ?_) | (refine wpList_load_agg 92 rfl rfl rfl _ Tryz.underlying92 rfl [.int .i64 xk, .int .i64 (-1)] (by kernel_rfl) hlx.out ?_) | (refine wpList_alloc_as 92 rfl rfl #[.int .i64 0, .int .i64 0] (by kernel_rfl) ?_; rw [hxb'.out]) | (refine wpList_store_whole 92 rfl rfl rfl [.int .i64 xk, .int .i64 (-1)] rfl (by kernel_rfl) 92 #[.int .i64 0, .int .i64 0] (by rw [← hxb'.out]; exact heap_alloc_new _ _) rfl (by intro c hc; simp at hc; rcases hc with rfl | rfl <;> rfl) ?_; rw [hwx'.out]) | (at_builtin; refine wpList_append_src rfl elemChange (.tmp 61) (.tmp 63) rfl (by rfl) (by rfl) (ownsRow.keptOf Ox.out.row ((Kept.refl (fun _ => False) wx).alloc _) (fun _ _ => id)) (SliceAt.block_new (ys := [.int .i64 xk, .int .i64 (-1)]) (m := 1) (heap_alloc_new _ _) rfl (by decide)) (by intro c hc; simp at hc; rcases hc with rfl | rfl <;> rfl) (by omega) (by omega) (Nat.le_trans Ox.out.kept.size ((Kept.refl (fun _ => False) _).alloc _).size) ?_; intro v7 w7 hown7 hg7 hat7))
        have fin : Hid (OwnSt wz ns l0 (k + 1) v7 w7) := h_ (Ox.out.more ((Kept.refl (fun _ => False) wx).alloc _) hfin.out hown7 hg7)
        clear hown7 hg7 hat7
        go_wp2_with fail
        go_roundw
        case rel => exact ⟨k + 1, by omega, by go_num, fin⟩
        case measure => simp [intOf] <;> omega
       ·have hb : (xp == -1) = false := by simp [hm]
        have hb2 : (xp != -1) = true := by simp [hm]
        obtain ⟨q, hq⟩ : ∃ q, clampQ xp = q := ⟨_, rfl⟩
        have hq4 : q < ns.length := by rw [hns, ← hq]; unfold clampQ; omega
        have hqc : max 0 (min xp 3) = (q : Int) := by rw [← hq]; unfold clampQ; omega
        obtain ⟨p, hp⟩ : ∃ p, ns[q]? = some p := ⟨_, List.getElem?_eq_getElem hq4⟩
        obtain ⟨pb, po, hAp, hpb, hcp⟩ := PagesAt.get (St.pg.fresh kx) hp
        have hfin : Hid (ownL ns (l0.take (k + 1)) = ownL ns (l0.take k) ++ [(xk, (p : Int))]) := h_ (by rw [hown, ownC_some h0 h1 hm (by rw [hq]; exact hp)])
        have hq3 : (q : Int) < 4 := by omega
        have fx := free_of_heap qx 1
        obtain ⟨wy, hwy⟩ : ∃ wy, wx.setCell ⟨xb, 1, none⟩ (.int .i64 (p : Int)) = wy := ⟨_, rfl⟩
        have ky : Kept (fun j => j = xb) wx wy := by rw [← hwy]; exact Kept.setCell (S := fun j => j = xb) (Kept.refl _ _) rfl _
        have qy : wy.heap[xb]? = some (.cells #[.int .i64 xk, .int .i64 (p : Int)] 92 (0, 0)) := by rw [← hwy, heap_setCell_same qx]; rfl
        have hly : Hid (∀ i v, [Value.int .i64 xk, .int .i64 (p : Int)][i]? = some v → wy.cell? ⟨xb, 0 + i, none⟩ = some v) := h_ (fun i v hi => by rw [cell_of_heap qy, Nat.zero_add]; simpa using hi)
        have Oy := h_ (hO.out.later kx ky (by omega) hxn.out)
        have hwy' := h_ hwy
        subst hA0 hAp
        clear hx hx0 hx1 hO St hown kx qx hxb hwx heb ky qy hwy hp hq hq4 hpb h0 h1 hm
        go_wp2_with (first | (refine wpList_load_agg 92 rfl rfl rfl _ Tryz.underlying92 rfl [.int .i64 xk, .int .i64 xp] (by kernel_rfl) hlo.out ?_) | (refine wpList_load_agg 92 rfl rfl rfl _ Tryz.underlying92 rfl [.int .i64 xk, .int .i64 (p : Int)] (by kernel_rfl) hly.out ?_) | (refine wpList_alloc_as 92 rfl rfl #[.int .i64 0, .int .i64 0] (by kernel_rfl) ?_; rw [hxb'.out]) | (refine wpList_store_whole 92 rfl rfl rfl [.int .i64 xk, .int .i64 xp] rfl (by kernel_rfl) 92 #[.int .i64 0, .int .i64 0] (by rw [← hxb'.out]; exact heap_alloc_new _ _) rfl (by intro c hc; simp at hc; rcases hc with rfl | rfl <;> rfl) ?_; rw [hwx'.out]) | (rw [hwy'.out]; refine wpList_load_agg 92 rfl rfl rfl _ Tryz.underlying92 rfl [.int .i64 xk, .int .i64 (p : Int)] (by kernel_rfl) hly.out ?_) | (at_builtin; refine wpList_append_src rfl elemChange (.tmp 61) (.tmp 63) rfl (by rfl) (by rfl) (ownsRow.keptOf Oy.out.row ((Kept.refl (fun _ => False) wy).alloc _) (fun _ _ => id)) (SliceAt.block_new (ys := [.int .i64 xk, .int .i64 (p : Int)]) (m := 1) (heap_alloc_new _ _) rfl (by decide)) (by intro c hc; simp at hc; rcases hc with rfl | rfl <;> rfl) (by omega) (by omega) (Nat.le_trans Oy.out.kept.size ((Kept.refl (fun _ => False) _).alloc _).size) ?_; intro v7 w7 hown7 hg7 hat7))
        have fin : Hid (OwnSt wz ns l0 (k + 1) v7 w7) := h_ (Oy.out.more ((Kept.refl (fun _ => False) wy).alloc _) hfin.out hown7 hg7)
        clear hown7 hg7 hat7
        go_wp2_with fail
        go_roundw
        case rel => exact ⟨k + 1, by omega, by go_num, fin⟩
        case measure => simp [intOf] <;> omega
      ·have d1 : decide (xk < 64) = false := decide_eq_false h1
       have fin : Hid (OwnSt wz ns l0 (k + 1) (.slice Av (ownL ns (l0.take k)).length cv) wx) := h_ (Ox.out.skip (by rw [hown, ownC_skip (by omega)]))
       subst hA0
       clear hx hx0 hx1 hO St hown kx qx hxb hwx heb
       go_wp2_with (first | (refine wpList_load_agg 92 rfl rfl rfl _ Tryz.underlying92 rfl [.int .i64 xk, .int .i64 xp] (by kernel_rfl) hlo.out ?_) | (refine wpList_alloc_as 92 rfl rfl #[.int .i64 0, .int .i64 0] (by kernel_rfl) ?_; rw [hxb'.out]) | (refine wpList_store_whole 92 rfl rfl rfl [.int .i64 xk, .int .i64 xp] rfl (by kernel_rfl) 92 #[.int .i64 0, .int .i64 0] (by rw [← hxb'.out]; exact heap_alloc_new _ _) rfl (by intro c hc; simp at hc; rcases hc with rfl | rfl <;> rfl) ?_; rw [hwx'.out]))
       go_roundw
       case rel => exact ⟨k + 1, by omega, by go_num, fin⟩
       case measure => simp [intOf] <;> omega
     ·have d0 : decide (0 ≤ xk) = false := decide_eq_false h0
      have fin : Hid (OwnSt wz ns l0 (k + 1) (.slice Av (ownL ns (l0.take k)).length cv) wx) := h_ (Ox.out.skip (by rw [hown, ownC_skip (by omega)]))
      subst hA0
      clear hx hx0 hx1 hO St hown kx qx hxb hwx heb
      go_wp2_with (first | (refine wpList_load_agg 92 rfl rfl rfl _ Tryz.underlying92 rfl [.int .i64 xk, .int .i64 xp] (by kernel_rfl) hlo.out ?_) | (refine wpList_alloc_as 92 rfl rfl #[.int .i64 0, .int .i64 0] (by kernel_rfl) ?_; rw [hxb'.out]) | (refine wpList_store_whole 92 rfl rfl rfl [.int .i64 xk, .int .i64 xp] rfl (by kernel_rfl) 92 #[.int .i64 0, .int .i64 0] (by rw [← hxb'.out]; exact heap_alloc_new _ _) rfl (by intro c hc; simp at hc; rcases hc with rfl | rfl <;> rfl) ?_; rw [hwx'.out]))
      go_roundw
      case rel => exact ⟨k + 1, by omega, by go_num, fin⟩
      case measure => simp [intOf] <;> omega
    ·obtain rfl : k = l0.length := by omega
     have hki : decide ((l0.length : Int) < (l0.length : Int)) = false := decide_eq_false (by omega)
     have hrow := hO.out.row
     have hkp := hO.out.kept
     rw [List.take_length] at hrow hbnd hv1 ⊢
     have S1 := h_ (St'.out.fresh hkp)
     obtain ⟨cs, hcs⟩ : ∃ cs, ownL ns l0 = cs := ⟨_, rfl⟩
     have hgood0 := ownL_good hns l0
     rw [hcs] at hrow hbnd hv1 hgood0 ⊢
     have hgood := h_ hgood0
     clear hgood0
     have EC : Hid (EntsOff wr B (.slice Av cs.length cv) cs) := h_ ⟨SliceAt.of_owns hrow, fun _ b hb => ⟨(hrow.lt b hb).2, fun e => by have := (hrow.lt b hb).1; have := St'.out.to_.store.lt (.inl e); omega⟩⟩
     have hH := H0'.out
     rw [hcs] at hH
     have hH' := h_ hH
     clear hH
     obtain ⟨we, hwe⟩ : ∃ we, wr.alloc (.cells #[] 86) = we := ⟨_, rfl⟩
     have ke : Kept (fun _ => False) wr we := by rw [← hwe]; exact (Kept.refl _ _).alloc _
     have S2 := h_ (S1.out.fresh ke)
     have EC2 := h_ (EC.out.fresh ke)
     have hfar : lB < wr.heap.size := (S1.out.ap lB (by simp)).lt
     have EN : Hid (ListAt lB we B (.slice (some ⟨wr.heap.size, 0, none⟩) 0 0) []) := h_ ⟨⟨sliceNil (Nat.zero_le _), fun h => absurd rfl h⟩, fun h => absurd rfl h⟩
     have hsz : lB < we.heap.size := Nat.lt_of_lt_of_le hfar ke.size
     have hwe' := h_ hwe
     have hcs' := h_ hcs
     clear hO hkp hrow ke hwe hcs
     have hLg : Hid (RisesK ([] : List (Int × Int)) ∧ ∀ y ∈ ([] : List (Int × Int)), 0 ≤ y.1 ∧ y.1 < 64) := h_ ⟨List.Pairwise.nil, fun y hy => by cases hy⟩
     have CA := diffApply S2.out.to_.store (-1) EC2.out (by omega) (by omega)
     rw [hH'.out, S2.out.to_.sb, hsb'.out] at CA
     have CA' : Hid (Calls Tryz.prog 65 #[.agg #[.pointer (some ⟨sb, 0, none⟩)], .int .i64 (-1), .slice Av cs.length cv] _ fun e w' => ∃ A', e = .returned (.tuple #[.int .i64 r0, .int .i64 0]) ∧ StoreTo B A' M1 _ w') := h_ CA
     have hld := h_ S2.out.load
     clear CA
     go_wp2_with (first | (rw [hwe'.out]; (refine wpList_load_agg 30 rfl rfl rfl _ Tryz.underlying30 rfl [.pointer (some ⟨sb, 0, none⟩)] (by kernel_rfl) hld.out ?_)) | (refine wpList_load_agg 30 rfl rfl rfl _ Tryz.underlying30 rfl [.pointer (some ⟨sb, 0, none⟩)] (by kernel_rfl) hld.out ?_))
     refine CA'.out.mono ?_
     rintro e wf ⟨B2, rfl, hT⟩
     have S3 := h_ (S2.out.to hne hT)
     have EC3 := h_ (EC2.out.to hT)
     have LI3 := h_ (EN.out.to hT)
     have hs3 : lB < wf.heap.size := (S3.out.ap lB (by simp)).lt
     have CB := h_ (ref12Apply LI3.out.off.at_ EC3.out.at_ hLg.out (by omega) (fun x hx => ⟨(hgood.out x hx).1, (hgood.out x hx).2.1⟩))
     clear hT hld
     go_wp2_with fail
     refine CB.out.mono ?_
     rintro e wg ⟨u, rfl, R⟩
     have S4 := h_ (S3.out.fresh R.kept)
     have LU := h_ (list_made S3.out.to_.store hs3 LI3.out R)
     obtain ⟨Au, cu, rfl, hu1, hu2⟩ := LU.out.off.at_.form
     have g9 := cell_of_heap S4.out.c9 0
     have f9 := free_of_heap S4.out.c9 0
     simp at g9
     have S5 := h_ (S4.out.roots hIn.out (o := 0) (v := .int .i64 r0) (s0 := r0) (s1 := (-1)) rfl)
     have g10 := cell_of_heap S5.out.c10 0
     have f10 := free_of_heap S5.out.c10 0
     simp at g10
     obtain ⟨wh, hwh⟩ : ∃ wh, (wg.setCell ⟨rB, 0, none⟩ (.int .i64 r0)).setCell ⟨lB, 0, none⟩ (.slice Au (cs.foldl chgL []).length cu) = wh := ⟨_, rfl⟩
     have kk1 : Kept (fun i => i = rB) wg (wg.setCell ⟨rB, 0, none⟩ (.int .i64 r0)) := Kept.setCell (S := fun i => i = rB) (Kept.refl _ _) rfl _
     have kk2 : Kept (fun i => i = lB) (wg.setCell ⟨rB, 0, none⟩ (.int .i64 r0)) wh := by rw [← hwh]; exact Kept.setCell (S := fun i => i = lB) (Kept.refl _ _) rfl _
     have hrl : rB ≤ lB := by have := hIn.out.ord; omega
     have fin : Hid (∃ B L0, TwoSt w A sb db lb rr lr rB lB (.slice A0 l0.length c0) (.slice A1 l1.length c1) (.slice Ap ns.length cp) ns l0 l1 r0 (-1) L0 (.slice none 0 0) wh B M1 ∧ ListAt lB wh B L0 ((ownL ns l0).foldl chgL [])) := h_ ⟨B2, _, by rw [← hwh]; exact S5.out.lists hIn.out rfl, by rw [hcs'.out]; exact (LU.out.apart kk1 hrl).apart kk2 (Nat.le_refl _)⟩
     have hwh' := h_ hwh
     clear R kk1 kk2 hwh
     go_wp2_with fail
     rw [hwh'.out]
     go_roundw
     case rel => exact .inr (.inl ⟨by first | rfl | go_num, fin⟩)
     case measure => simp [intOf] <;> omega
  ·obtain ⟨B, L0, St, hL0⟩ := hI.out
   obtain ⟨AL, cL, rfl, hL1, hL2⟩ := hL0.off.at_.form
   obtain ⟨LL, hLL⟩ : ∃ LL, (ownL ns l0).foldl chgL [] = LL := ⟨_, rfl⟩
   rw [hLL] at hL0 St hL1 ⊢
   have hL := h_ hL0
   have hLL' := h_ hLL
   clear hLL
   have St0 := h_ St
   have clj := cell_of_heap St.cl 1
   simp at clj
   have dl : decide ((70 : Int) < (l1.length : Int)) = false := decide_eq_false (by omega)
   obtain ⟨wo, hwo⟩ : ∃ wo, wr.alloc (.cells #[] 92) = wo := ⟨_, rfl⟩
   have O0 : Hid (OwnSt wr ns l1 0 (.slice (some ⟨wr.heap.size, 0, none⟩) 0 0) wo) := h_ ⟨by rw [← hwo]; exact (Kept.refl _ _).alloc _, by rw [List.take_zero, ← hwo]; exact owns_empty wr wr.heap.size wr.heap.size 92 2 (Nat.le_refl _) rfl⟩
   have hwo' := h_ hwo
   have clo := cell_of_heap (((Kept.refl (fun _ => False) wr).alloc (.cells #[] 92)).get St.cl id) 1
   simp at clo
   clear hwo St
   go_wp2_with fail
   rw [hwo'.out]
   obtain ⟨wz, hwz⟩ : ∃ u, wr = u := ⟨_, rfl⟩
   rw [hwz] at hI St0 clj O0 hwo' hL ⊢
   clear hwz hI
   have St' := St0
   go_loopw [12, 38] (fun v i wr => ∃ (k : Nat), k ≤ l1.length ∧ i = .int .i64 k ∧ Hid (OwnSt wz ns l1 k v wr)) (fun _ i _ => l1.length - (intOf i).toNat)
   case atStart => exact ⟨0, Nat.zero_le _, rfl, O0⟩
   case round =>
    obtain ⟨k, hk, rfl, hO⟩ := hrel
    obtain ⟨_, Av, cv, rfl, hv1, hv2, _⟩ := SliceAt.of_owns hO.out.row
    unfold maxLen at hv2
    have hbnd := ownL_len ns (l1.take k)
    have hlk : (l1.take k).length ≤ 70 := by rw [List.length_take]; omega
    by_cases hlt : k < l1.length
    ·obtain ⟨x, hx⟩ : ∃ x, l1[k]? = some x := ⟨_, List.getElem?_eq_getElem hlt⟩
     obtain ⟨xk, xp⟩ := x
     have St := St'.out.fresh hO.out.kept
     obtain ⟨eb, eo, hA1, heb, hx0, hx1⟩ := St.e1.at_.get hx
     have hki : (k : Int) < (l1.length : Int) := by omega
     have hown := ownL_step (ns := ns) hx
     have hlo : Hid (∀ i v, [Value.int .i64 xk, .int .i64 xp][i]? = some v → wr.cell? ⟨eb, eo + k * 2 + i, none⟩ = some v) := h_ (fun i v hi => by
      match i, hi with
      | 0, hi => cases hi; exact hx0
      | 1, hi => cases hi; exact hx1)
     obtain ⟨xb, hxb⟩ : ∃ xb, wr.heap.size = xb := ⟨_, rfl⟩
     obtain ⟨wx, hwx⟩ : ∃ wx, (wr.alloc (.cells #[.int .i64 0, .int .i64 0] 92)).setRow xb #[.int .i64 xk, .int .i64 xp] = wx := ⟨_, rfl⟩
     have kx : Kept (fun _ => False) wr wx := by rw [← hwx]; exact ((Kept.refl _ _).alloc _).setRowNew (by omega) _
     have qx : wx.heap[xb]? = some (.cells #[.int .i64 xk, .int .i64 xp] 92 (0, 0)) := by rw [← hwx, ← hxb]; exact setRow_heap _ _ _ _ _ _ (heap_alloc_new _ _)
     have cx0 := cell_of_heap qx 0
     have cx1 := cell_of_heap qx 1
     simp at cx0 cx1
     have Ox := h_ (hO.out.fresh kx)
     have hxn : Hid (wz.heap.size ≤ xb) := h_ (by have := hO.out.kept.size; omega)
     have hxb' := h_ hxb
     have hwx' := h_ hwx
     by_cases h0 : 0 ≤ xk
     ·have d0 : decide (0 ≤ xk) = true := decide_eq_true h0
      by_cases h1 : xk < 64
      ·have d1 : decide (xk < 64) = true := decide_eq_true h1
       by_cases hm : xp = -1
       ·subst hm
        have hfin : Hid (ownL ns (l1.take (k + 1)) = ownL ns (l1.take k) ++ [(xk, -1)]) := h_ (by rw [hown, ownC_none h0 h1])
        have hlx : Hid (∀ i v, [Value.int .i64 xk, .int .i64 (-1)][i]? = some v → wx.cell? ⟨xb, 0 + i, none⟩ = some v) := h_ (fun i v hi => by rw [cell_of_heap qx, Nat.zero_add]; simpa using hi)
        subst hA1
        clear hx hx0 hx1 hO St hown kx qx hxb hwx heb
        go_wp2_with (first | (refine wpList_load_agg 92 rfl rfl rfl _ Tryz.underlying92 rfl [.int .i64 xk, .int .i64 (-1)] (by kernel_rfl) hlo.out ?_) | (refine wpList_load_agg 92 rfl rfl rfl _ Tryz.underlying92 rfl [.int .i64 xk, .int .i64 (-1)] (by kernel_rfl) hlx.out ?_) | (refine wpList_alloc_as 92 rfl rfl #[.int .i64 0, .int .i64 0] (by kernel_rfl) ?_; rw [hxb'.out]) | (refine wpList_store_whole 92 rfl rfl rfl [.int .i64 xk, .int .i64 (-1)] rfl (by kernel_rfl) 92 #[.int .i64 0, .int .i64 0] (by rw [← hxb'.out]; exact heap_alloc_new _ _) rfl (by intro c hc; simp at hc; rcases hc with rfl | rfl <;> rfl) ?_; rw [hwx'.out]) | (at_builtin; refine wpList_append_src rfl elemChange (.tmp 61) (.tmp 63) rfl (by rfl) (by rfl) (ownsRow.keptOf Ox.out.row ((Kept.refl (fun _ => False) wx).alloc _) (fun _ _ => id)) (SliceAt.block_new (ys := [.int .i64 xk, .int .i64 (-1)]) (m := 1) (heap_alloc_new _ _) rfl (by decide)) (by intro c hc; simp at hc; rcases hc with rfl | rfl <;> rfl) (by omega) (by omega) (Nat.le_trans Ox.out.kept.size ((Kept.refl (fun _ => False) _).alloc _).size) ?_; intro v7 w7 hown7 hg7 hat7))
        have fin : Hid (OwnSt wz ns l1 (k + 1) v7 w7) := h_ (Ox.out.more ((Kept.refl (fun _ => False) wx).alloc _) hfin.out hown7 hg7)
        clear hown7 hg7 hat7
        go_wp2_with fail
        go_roundw
        case rel => exact ⟨k + 1, by omega, by go_num, fin⟩
        case measure => simp [intOf] <;> omega
       ·have hb : (xp == -1) = false := by simp [hm]
        have hb2 : (xp != -1) = true := by simp [hm]
        obtain ⟨q, hq⟩ : ∃ q, clampQ xp = q := ⟨_, rfl⟩
        have hq4 : q < ns.length := by rw [hns, ← hq]; unfold clampQ; omega
        have hqc : max 0 (min xp 3) = (q : Int) := by rw [← hq]; unfold clampQ; omega
        obtain ⟨p, hp⟩ : ∃ p, ns[q]? = some p := ⟨_, List.getElem?_eq_getElem hq4⟩
        obtain ⟨pb, po, hAp, hpb, hcp⟩ := PagesAt.get (St.pg.fresh kx) hp
        have hfin : Hid (ownL ns (l1.take (k + 1)) = ownL ns (l1.take k) ++ [(xk, (p : Int))]) := h_ (by rw [hown, ownC_some h0 h1 hm (by rw [hq]; exact hp)])
        have hq3 : (q : Int) < 4 := by omega
        have fx := free_of_heap qx 1
        obtain ⟨wy, hwy⟩ : ∃ wy, wx.setCell ⟨xb, 1, none⟩ (.int .i64 (p : Int)) = wy := ⟨_, rfl⟩
        have ky : Kept (fun j => j = xb) wx wy := by rw [← hwy]; exact Kept.setCell (S := fun j => j = xb) (Kept.refl _ _) rfl _
        have qy : wy.heap[xb]? = some (.cells #[.int .i64 xk, .int .i64 (p : Int)] 92 (0, 0)) := by rw [← hwy, heap_setCell_same qx]; rfl
        have hly : Hid (∀ i v, [Value.int .i64 xk, .int .i64 (p : Int)][i]? = some v → wy.cell? ⟨xb, 0 + i, none⟩ = some v) := h_ (fun i v hi => by rw [cell_of_heap qy, Nat.zero_add]; simpa using hi)
        have Oy := h_ (hO.out.later kx ky (by omega) hxn.out)
        have hwy' := h_ hwy
        subst hA1 hAp
        clear hx hx0 hx1 hO St hown kx qx hxb hwx heb ky qy hwy hp hq hq4 hpb h0 h1 hm
        go_wp2_with (first | (refine wpList_load_agg 92 rfl rfl rfl _ Tryz.underlying92 rfl [.int .i64 xk, .int .i64 xp] (by kernel_rfl) hlo.out ?_) | (refine wpList_load_agg 92 rfl rfl rfl _ Tryz.underlying92 rfl [.int .i64 xk, .int .i64 (p : Int)] (by kernel_rfl) hly.out ?_) | (refine wpList_alloc_as 92 rfl rfl #[.int .i64 0, .int .i64 0] (by kernel_rfl) ?_; rw [hxb'.out]) | (refine wpList_store_whole 92 rfl rfl rfl [.int .i64 xk, .int .i64 xp] rfl (by kernel_rfl) 92 #[.int .i64 0, .int .i64 0] (by rw [← hxb'.out]; exact heap_alloc_new _ _) rfl (by intro c hc; simp at hc; rcases hc with rfl | rfl <;> rfl) ?_; rw [hwx'.out]) | (rw [hwy'.out]; refine wpList_load_agg 92 rfl rfl rfl _ Tryz.underlying92 rfl [.int .i64 xk, .int .i64 (p : Int)] (by kernel_rfl) hly.out ?_) | (at_builtin; refine wpList_append_src rfl elemChange (.tmp 61) (.tmp 63) rfl (by rfl) (by rfl) (ownsRow.keptOf Oy.out.row ((Kept.refl (fun _ => False) wy).alloc _) (fun _ _ => id)) (SliceAt.block_new (ys := [.int .i64 xk, .int .i64 (p : Int)]) (m := 1) (heap_alloc_new _ _) rfl (by decide)) (by intro c hc; simp at hc; rcases hc with rfl | rfl <;> rfl) (by omega) (by omega) (Nat.le_trans Oy.out.kept.size ((Kept.refl (fun _ => False) _).alloc _).size) ?_; intro v7 w7 hown7 hg7 hat7))
        have fin : Hid (OwnSt wz ns l1 (k + 1) v7 w7) := h_ (Oy.out.more ((Kept.refl (fun _ => False) wy).alloc _) hfin.out hown7 hg7)
        clear hown7 hg7 hat7
        go_wp2_with fail
        go_roundw
        case rel => exact ⟨k + 1, by omega, by go_num, fin⟩
        case measure => simp [intOf] <;> omega
      ·have d1 : decide (xk < 64) = false := decide_eq_false h1
       have fin : Hid (OwnSt wz ns l1 (k + 1) (.slice Av (ownL ns (l1.take k)).length cv) wx) := h_ (Ox.out.skip (by rw [hown, ownC_skip (by omega)]))
       subst hA1
       clear hx hx0 hx1 hO St hown kx qx hxb hwx heb
       go_wp2_with (first | (refine wpList_load_agg 92 rfl rfl rfl _ Tryz.underlying92 rfl [.int .i64 xk, .int .i64 xp] (by kernel_rfl) hlo.out ?_) | (refine wpList_alloc_as 92 rfl rfl #[.int .i64 0, .int .i64 0] (by kernel_rfl) ?_; rw [hxb'.out]) | (refine wpList_store_whole 92 rfl rfl rfl [.int .i64 xk, .int .i64 xp] rfl (by kernel_rfl) 92 #[.int .i64 0, .int .i64 0] (by rw [← hxb'.out]; exact heap_alloc_new _ _) rfl (by intro c hc; simp at hc; rcases hc with rfl | rfl <;> rfl) ?_; rw [hwx'.out]))
       go_roundw
       case rel => exact ⟨k + 1, by omega, by go_num, fin⟩
       case measure => simp [intOf] <;> omega
     ·have d0 : decide (0 ≤ xk) = false := decide_eq_false h0
      have fin : Hid (OwnSt wz ns l1 (k + 1) (.slice Av (ownL ns (l1.take k)).length cv) wx) := h_ (Ox.out.skip (by rw [hown, ownC_skip (by omega)]))
      subst hA1
      clear hx hx0 hx1 hO St hown kx qx hxb hwx heb
      go_wp2_with (first | (refine wpList_load_agg 92 rfl rfl rfl _ Tryz.underlying92 rfl [.int .i64 xk, .int .i64 xp] (by kernel_rfl) hlo.out ?_) | (refine wpList_alloc_as 92 rfl rfl #[.int .i64 0, .int .i64 0] (by kernel_rfl) ?_; rw [hxb'.out]) | (refine wpList_store_whole 92 rfl rfl rfl [.int .i64 xk, .int .i64 xp] rfl (by kernel_rfl) 92 #[.int .i64 0, .int .i64 0] (by rw [← hxb'.out]; exact heap_alloc_new _ _) rfl (by intro c hc; simp at hc; rcases hc with rfl | rfl <;> rfl) ?_; rw [hwx'.out]))
      go_roundw
      case rel => exact ⟨k + 1, by omega, by go_num, fin⟩
      case measure => simp [intOf] <;> omega
    ·obtain rfl : k = l1.length := by omega
     have hki : decide ((l1.length : Int) < (l1.length : Int)) = false := decide_eq_false (by omega)
     have hrow := hO.out.row
     have hkp := hO.out.kept
     rw [List.take_length] at hrow hbnd hv1 ⊢
     have S1 := h_ (St'.out.fresh hkp)
     obtain ⟨cs, hcs⟩ : ∃ cs, ownL ns l1 = cs := ⟨_, rfl⟩
     have hgood0 := ownL_good hns l1
     rw [hcs] at hrow hbnd hv1 hgood0 ⊢
     have hgood := h_ hgood0
     clear hgood0
     have EC : Hid (EntsOff wr B (.slice Av cs.length cv) cs) := h_ ⟨SliceAt.of_owns hrow, fun _ b hb => ⟨(hrow.lt b hb).2, fun e => by have := (hrow.lt b hb).1; have := St'.out.to_.store.lt (.inl e); omega⟩⟩
     have hH := H1'.out
     rw [hcs] at hH
     have hH' := h_ hH
     clear hH
     obtain ⟨we, hwe⟩ : ∃ we, wr.alloc (.cells #[] 86) = we := ⟨_, rfl⟩
     have ke : Kept (fun _ => False) wr we := by rw [← hwe]; exact (Kept.refl _ _).alloc _
     have S2 := h_ (S1.out.fresh ke)
     have EC2 := h_ (EC.out.fresh ke)
     have hfar : lB < wr.heap.size := (S1.out.ap lB (by simp)).lt
     have EN : Hid (ListAt lB we B (.slice (some ⟨wr.heap.size, 0, none⟩) 0 0) []) := h_ ⟨⟨sliceNil (Nat.zero_le _), fun h => absurd rfl h⟩, fun h => absurd rfl h⟩
     have hsz : lB < we.heap.size := Nat.lt_of_lt_of_le hfar ke.size
     have hwe' := h_ hwe
     have hcs' := h_ hcs
     have hL2' := h_ ((hL.out.fresh hkp).fresh ke)
     clear hO hkp hrow ke hwe hcs
     have hLg0 := chgs_good (ownL ns l0) (l := []) ⟨List.Pairwise.nil, fun y hy => by cases hy⟩ (fun x hx => ⟨(ownL_good hns l0 x hx).1, (ownL_good hns l0 x hx).2.1⟩)
     rw [hLL'.out] at hLg0
     have hLg := h_ hLg0
     clear hLg0
     have c20 := cell_of_heap (((Kept.refl (fun _ => False) wr).alloc (.cells #[] 86)).get S1.out.c9 id) 0
     have c21 := cell_of_heap (((Kept.refl (fun _ => False) wr).alloc (.cells #[] 86)).get S1.out.c10 id) 0
     have c22 := cell_of_heap (((Kept.refl (fun _ => False) wr).alloc (.cells #[] 86)).get S1.out.cd id) 0
     simp at c20 c21 c22
     by_cases hr : r0 = -1
     ·have Hh := Hh'.out
      clear Hh'
      subst hr
      rw [if_pos rfl] at Hh
      have hM : M1 = M1h := congrArg Prod.fst Hh
      subst hM
      clear Hh
      have CA := diffApply S2.out.to_.store (-1) EC2.out (by omega) (by omega)
      rw [hH'.out, S2.out.to_.sb, hsb'.out] at CA
      have CA' : Hid (Calls Tryz.prog 65 #[.agg #[.pointer (some ⟨sb, 0, none⟩)], .int .i64 (-1), .slice Av cs.length cv] _ fun e w' => ∃ A', e = .returned (.tuple #[.int .i64 r1, .int .i64 0]) ∧ StoreTo B A' M2 _ w') := h_ CA
      have hld := h_ S2.out.load
      clear CA
      go_wp2_with (first | (rw [hwe'.out]; (refine wpList_load_agg 30 rfl rfl rfl _ Tryz.underlying30 rfl [.pointer (some ⟨sb, 0, none⟩)] (by kernel_rfl) hld.out ?_)) | (refine wpList_load_agg 30 rfl rfl rfl _ Tryz.underlying30 rfl [.pointer (some ⟨sb, 0, none⟩)] (by kernel_rfl) hld.out ?_))
      refine CA'.out.mono ?_
      rintro e wf ⟨B2, rfl, hT⟩
      have S3 := h_ (S2.out.to hne hT)
      have EC3 := h_ (EC2.out.to hT)
      have LI3 := h_ (hL2'.out.to hT)
      have hs3 : lB < wf.heap.size := (S3.out.ap lB (by simp)).lt
      have CB := h_ (ref12Apply LI3.out.off.at_ EC3.out.at_ hLg.out (by omega) (fun x hx => ⟨(hgood.out x hx).1, (hgood.out x hx).2.1⟩))
      clear hT hld
      go_wp2_with fail
      refine CB.out.mono ?_
      rintro e wg ⟨u, rfl, R⟩
      have S4 := h_ (S3.out.fresh R.kept)
      have LU := h_ (list_made S3.out.to_.store hs3 LI3.out R)
      obtain ⟨Au, cu, rfl, hu1, hu2⟩ := LU.out.off.at_.form
      have LK := h_ (LI3.out.fresh R.kept)
      have g9 := cell_of_heap S4.out.c9 1
      have f9 := free_of_heap S4.out.c9 1
      simp at g9
      have S5 := h_ (S4.out.roots hIn.out (o := 1) (v := .int .i64 r1) (s0 := (-1)) (s1 := r1) rfl)
      have g10 := cell_of_heap S5.out.c10 1
      have f10 := free_of_heap S5.out.c10 1
      simp at g10
      obtain ⟨wh, hwh⟩ : ∃ wh, (wg.setCell ⟨rB, 1, none⟩ (.int .i64 r1)).setCell ⟨lB, 1, none⟩ (.slice Au (cs.foldl chgL LL).length cu) = wh := ⟨_, rfl⟩
      have kk1 : Kept (fun i => i = rB) wg (wg.setCell ⟨rB, 1, none⟩ (.int .i64 r1)) := Kept.setCell (S := fun i => i = rB) (Kept.refl _ _) rfl _
      have kk2 : Kept (fun i => i = lB) (wg.setCell ⟨rB, 1, none⟩ (.int .i64 r1)) wh := by rw [← hwh]; exact Kept.setCell (S := fun i => i = lB) (Kept.refl _ _) rfl _
      have hrl : rB ≤ lB := by have := hIn.out.ord; omega
      have fin : Hid (∃ B L0 L1, TwoSt w A sb db lb rr lr rB lB (.slice A0 l0.length c0) (.slice A1 l1.length c1) (.slice Ap ns.length cp) ns l0 l1 (-1) r1 L0 L1 wh B M2 ∧ ListAt lB wh B L0 LL ∧ ListAt lB wh B L1 ((ownL ns l1).foldl chgL LL)) := h_ ⟨B2, _, _, by rw [← hwh]; exact S5.out.lists hIn.out rfl, (LK.out.apart kk1 hrl).apart kk2 (Nat.le_refl _), by rw [hcs'.out]; exact (LU.out.apart kk1 hrl).apart kk2 (Nat.le_refl _)⟩
      have hwh' := h_ hwh
      clear R kk1 kk2 hwh
      go_wp2_with fail
      rw [hwh'.out]
      go_roundw
      case rel => exact .inr (.inr ⟨by first | rfl | go_num, fin⟩)
      case measure => simp [intOf] <;> omega
     ·have Hh := Hh'.out
      rw [if_neg hr] at Hh
      have hb : (r0 == -1) = false := by simp [hr]
      have hb2 : (r0 != -1) = true := by simp [hr]
      have CH := storeHold S2.out.to_.store r0
      rw [Hh, S2.out.to_.sb, hsb'.out] at CH
      clear Hh
      have CH' : Hid (Calls Tryz.prog 72 #[.pointer (some ⟨sb, 0, none⟩), .int .i64 r0] we fun e w' => e = .returned (.int .i64 0) ∧ StoreTo B B M1h we w') := h_ CH
      clear CH
      go_wp2_with fail
      rw [hwe'.out]
      refine CH'.out.mono ?_
      rintro e wq ⟨rfl, hTh⟩
      have S2b := h_ (S2.out.to hne hTh)
      have EC2b := h_ (EC2.out.to hTh)
      have LSb := h_ (hL2'.out.to hTh)
      clear hTh
      have CA := diffApply S2b.out.to_.store r0 EC2b.out (by omega) (by omega)
      rw [hH'.out, S2b.out.to_.sb, hsb'.out] at CA
      have CA' : Hid (Calls Tryz.prog 65 #[.agg #[.pointer (some ⟨sb, 0, none⟩)], .int .i64 r0, .slice Av cs.length cv] _ fun e w' => ∃ A', e = .returned (.tuple #[.int .i64 r1, .int .i64 0]) ∧ StoreTo B A' M2 _ w') := h_ CA
      have hld := h_ S2b.out.load
      clear CA
      go_wp2_with (first | (rw [hwe'.out]; (refine wpList_load_agg 30 rfl rfl rfl _ Tryz.underlying30 rfl [.pointer (some ⟨sb, 0, none⟩)] (by kernel_rfl) hld.out ?_)) | (refine wpList_load_agg 30 rfl rfl rfl _ Tryz.underlying30 rfl [.pointer (some ⟨sb, 0, none⟩)] (by kernel_rfl) hld.out ?_))
      refine CA'.out.mono ?_
      rintro e wf ⟨B2, rfl, hT⟩
      have S3 := h_ (S2b.out.to hne hT)
      have EC3 := h_ (EC2b.out.to hT)
      have LI3 := h_ (LSb.out.to hT)
      have hs3 : lB < wf.heap.size := (S3.out.ap lB (by simp)).lt
      have CB := h_ (ref12Apply LI3.out.off.at_ EC3.out.at_ hLg.out (by omega) (fun x hx => ⟨(hgood.out x hx).1, (hgood.out x hx).2.1⟩))
      clear hT hld
      go_wp2_with fail
      refine CB.out.mono ?_
      rintro e wg ⟨u, rfl, R⟩
      have S4 := h_ (S3.out.fresh R.kept)
      have LU := h_ (list_made S3.out.to_.store hs3 LI3.out R)
      obtain ⟨Au, cu, rfl, hu1, hu2⟩ := LU.out.off.at_.form
      have LK := h_ (LI3.out.fresh R.kept)
      have g9 := cell_of_heap S4.out.c9 1
      have f9 := free_of_heap S4.out.c9 1
      simp at g9
      have S5 := h_ (S4.out.roots hIn.out (o := 1) (v := .int .i64 r1) (s0 := r0) (s1 := r1) rfl)
      have g10 := cell_of_heap S5.out.c10 1
      have f10 := free_of_heap S5.out.c10 1
      simp at g10
      obtain ⟨wh, hwh⟩ : ∃ wh, (wg.setCell ⟨rB, 1, none⟩ (.int .i64 r1)).setCell ⟨lB, 1, none⟩ (.slice Au (cs.foldl chgL LL).length cu) = wh := ⟨_, rfl⟩
      have kk1 : Kept (fun i => i = rB) wg (wg.setCell ⟨rB, 1, none⟩ (.int .i64 r1)) := Kept.setCell (S := fun i => i = rB) (Kept.refl _ _) rfl _
      have kk2 : Kept (fun i => i = lB) (wg.setCell ⟨rB, 1, none⟩ (.int .i64 r1)) wh := by rw [← hwh]; exact Kept.setCell (S := fun i => i = lB) (Kept.refl _ _) rfl _
      have hrl : rB ≤ lB := by have := hIn.out.ord; omega
      have fin : Hid (∃ B L0 L1, TwoSt w A sb db lb rr lr rB lB (.slice A0 l0.length c0) (.slice A1 l1.length c1) (.slice Ap ns.length cp) ns l0 l1 r0 r1 L0 L1 wh B M2 ∧ ListAt lB wh B L0 LL ∧ ListAt lB wh B L1 ((ownL ns l1).foldl chgL LL)) := h_ ⟨B2, _, _, by rw [← hwh]; exact S5.out.lists hIn.out rfl, (LK.out.apart kk1 hrl).apart kk2 (Nat.le_refl _), by rw [hcs'.out]; exact (LU.out.apart kk1 hrl).apart kk2 (Nat.le_refl _)⟩
      have hwh' := h_ hwh
      clear R kk1 kk2 hwh
      go_wp2_with fail
      rw [hwh'.out]
      go_roundw
      case rel => exact .inr (.inr ⟨by first | rfl | go_num, fin⟩)
      case measure => simp [intOf] <;> omega
  ·obtain ⟨B, L0, L1, St, E0, E1⟩ := hI.out
   obtain ⟨AL, cL, rfl, hL1, hL2⟩ := E0.off.at_.form
   obtain ⟨AK, cK, rfl, hK1, hK2⟩ := E1.off.at_.form
   have S := h_ St
   have F0 := h_ E0
   have F1 := h_ E1
   obtain ⟨La, hLa⟩ : ∃ z, (ownL ns l0).foldl chgL [] = z := ⟨_, rfl⟩
   obtain ⟨Lb, hLb⟩ : ∃ z, (ownL ns l1).foldl chgL ((ownL ns l0).foldl chgL []) = z := ⟨_, rfl⟩
   rw [hLb] at F1 S ⊢
   rw [hLa] at F0 S ⊢
   have Sd := h_ (S.out.fresh (Kept.refl _ _).drew)
   have G0 := h_ (F0.out.fresh (Kept.refl (fun _ => False) wr).drew)
   have G1 := h_ (F1.out.fresh (Kept.refl (fun _ => False) wr).drew)
   obtain ⟨o1, o2, o3, o4, o5, o6⟩ := hIn.out.ord
   have hLa' := h_ hLa
   have hLb' := h_ hLb
   clear hI St E0 E1 hLa hLb
   go_wp2_with fail
   refine wp_region_held_drew (S := fun W => W.heap[rB]? = some (.cells #[.int .i64 r0, .int .i64 r1] 93 (0, 0)) ∧ W.heap[lB]? = some (.cells #[.slice AL La.length cL, .slice AK Lb.length cK] 95 (0, 0))) (by kernel_rfl) ⟨Sd.out.c9, Sd.out.c10⟩ (fun hS => ?_)
   refine wpAnyH_take (i := 0) (v := .agg #[.int .i64 r0, .int .i64 r1]) rfl (by kernel_rfl) (by kernel_rfl) (by kernel_rfl) (fun _ _ _ h => h) (Or.inl ⟨by rfl, fun W hW => exec_load_agg rfl (by rfl) [.int .i64 r0, .int .i64 r1] Tryz.underlying93 rfl (by kernel_rfl) (fun j v hj => by rw [Nat.zero_add, cell_of_heap hW.1]; simpa using hj)⟩) (by assumption) ?_
   simp only [Act.put, q1_, q2_, q3_, List.setIfInBounds_toArray, q5_, q6_]
   refine wpAnyH_take (i := 1) (v := .agg #[.slice AL La.length cL, .slice AK Lb.length cK]) rfl (by kernel_rfl) (by kernel_rfl) (by kernel_rfl) (fun _ _ _ h => h) (Or.inl ⟨by rfl, fun W hW => exec_load_agg rfl (by rfl) [.slice AL La.length cL, .slice AK Lb.length cK] Tryz.underlying95 rfl (by kernel_rfl) (fun j v hj => by rw [Nat.zero_add, cell_of_heap hW.2]; simpa using hj)⟩) (by assumption) ?_
   simp only [Act.put, q1_, q2_, q3_, List.setIfInBounds_toArray, q5_, q6_]
   refine wpAnyH_ready (rs := [2]) (by kernel_rfl) (by simp) ?_
   refine AllReadyH.cons rfl (fun K hK => ?_) AllReadyH.nil
   have k1 : Kept (fun j => j = rr) wr.drew (wr.drew.setRow rr #[.int .i64 r0, .int .i64 r1]) := Kept.setRow (S := fun j => j = rr) (Kept.refl _ _) rfl _
   refine step_store_whole 93 rfl rfl (g := rr) (by rfl) [.int .i64 r0, .int .i64 r1] rfl (by kernel_rfl) 93 #[.int .i64 0, .int .i64 0] Sd.out.c6 rfl (by intro c hc; simp at hc; rcases hc with rfl | rfl <;> rfl) ?_
   refine hK.out _ _ ⟨k1.get hS.1 (by omega), k1.get hS.2 (by omega)⟩ (fun hS2 => ?_)
   clear hK K
   try simp only [Act.put, q1_, q2_, q3_, List.setIfInBounds_toArray, q5_, q6_]
   have h2 := k1.get Sd.out.c7 (by omega)
   have h1 : (wr.drew.setRow rr #[.int .i64 r0, .int .i64 r1]).heap[rr]? = some (.cells #[.int .i64 r0, .int .i64 r1] _ (0, 0)) := setRow_heap _ _ _ _ _ _ Sd.out.c6
   have k2 : Kept (fun j => j = lr) (wr.drew.setRow rr #[.int .i64 r0, .int .i64 r1]) ((wr.drew.setRow rr #[.int .i64 r0, .int .i64 r1]).setRow lr #[.slice AL La.length cL, .slice AK Lb.length cK]) := Kept.setRow (S := fun j => j = lr) (Kept.refl _ _) rfl _
   have g1 := k2.get h1 (by omega)
   have g2 : ((wr.drew.setRow rr #[.int .i64 r0, .int .i64 r1]).setRow lr #[.slice AL La.length cL, .slice AK Lb.length cK]).heap[lr]? = some (.cells #[.slice AL La.length cL, .slice AK Lb.length cK] _ (0, 0)) := setRow_heap _ _ _ _ _ _ h2
   have ap : ∀ c ∈ [db, lb, rr, lr, rB, lB], ¬ B.own c := fun c hc => (Sd.out.ap c hc).off
   have fin : Hid (StoreTo A B M2 w ((wr.drew.setRow rr #[.int .i64 r0, .int .i64 r1]).setRow lr #[.slice AL La.length cL, .slice AK Lb.length cK]) ∧ EntsOff ((wr.drew.setRow rr #[.int .i64 r0, .int .i64 r1]).setRow lr #[.slice AL La.length cL, .slice AK Lb.length cK]) B (.slice AL La.length cL) La ∧ EntsOff ((wr.drew.setRow rr #[.int .i64 r0, .int .i64 r1]).setRow lr #[.slice AL La.length cL, .slice AK Lb.length cK]) B (.slice AK Lb.length cK) Lb) := h_ ⟨(Sd.out.to_.apart k1 (ap rr (by simp)) (by omega)).apart k2 (ap lr (by simp)) (by omega), ((G0.out.apart k1 (by omega)).apart k2 (by omega)).off, ((G1.out.apart k1 (by omega)).apart k2 (by omega)).off⟩
   refine wpAnyH_ready (rs := [3]) (by kernel_rfl) (by simp) ?_
   refine AllReadyH.cons rfl (fun K hK => ?_) ?_
   ·refine step_store_whole 95 rfl rfl (g := lr) (by rfl) [.slice AL La.length cL, .slice AK Lb.length cK] rfl (by kernel_rfl) 95 #[.slice none 0 0, .slice none 0 0] h2 rfl (by intro c hc; simp at hc; rcases hc with rfl | rfl <;> rfl) ?_
    refine hK.out _ _ ⟨k2.get hS2.1 (by omega), k2.get hS2.2 (by omega)⟩ (fun hS3 => ?_)
    clear hK K
    try simp only [Act.put, q1_, q2_, q3_, List.setIfInBounds_toArray, q5_, q6_]
    refine wpAnyH_take (i := 4) (v := .bool true) rfl (by kernel_rfl) (by kernel_rfl) (by kernel_rfl) (fun _ _ _ h => h) (Or.inl ⟨by rfl, fun W hW => by go_simp⟩) (by assumption) ?_
    simp only [Act.put, q1_, q2_, q3_, List.setIfInBounds_toArray, q5_, q6_]
    refine wpAnyH_done (by kernel_rfl) ?_ _
    clear hS hS2 hS3 k1 k2 h1 h2
    go_wp2_with fail
    refine bodyPost_ret (results_two rfl _ _ rr lr 93 95 #[.int .i64 r0, .int .i64 r1] #[.slice AL La.length cL, .slice AK Lb.length cK] (0, 0) (0, 0) _ _ rfl g1 Tryz.underlying93 rfl (by kernel_rfl) rfl g2 Tryz.underlying95 rfl (by kernel_rfl)) rfl ?_
    exact ⟨B, _, _, rfl, by rw [hLb'.out, hLa'.out]; exact fin.out⟩
   exact AllReadyH.nil
theorem change_logS (M : SM) (root : Int) (x : Int × Int) : (M.change root x).1.log.length ≤ M.log.length + 22 := by
 have h1 : (M.one root x).1.log.length ≤ M.log.length + 22 := by
  unfold SM.one
  split
  ·have := cut_logZ M root x.1
   show (M.cut root x.1).1.log.length ≤ _
   omega
  ·exact put_log M root x.1 x.2
 unfold SM.change
 dsimp only
 split
 ·split
  ·show ((M.one root x).1.swap root (M.one root x).2.1).1.log.length ≤ _
   rw [swap_log]; exact h1
  ·show ((M.one root x).1.swap root (M.one root x).2.1).1.log.length ≤ _
   rw [swap_log]; exact h1
 ·exact h1
theorem changes_logS : ∀ (cs : List (Int × Int)) (M : SM) (root : Int), (SM.changes cs M root).1.log.length ≤ M.log.length + 22 * cs.length
 | [], _, _ => Nat.le_refl _
 | x :: cs, M, root => by
  have h1 := change_logS M root x
  unfold SM.changes
  rw [List.length_cons]
  split
  ·have h2 := changes_logS cs (M.change root x).1 (M.change root x).2.1
   omega
  ·omega
structure SharesOk (ns : List Nat) (l : List (Int × Int)) (x : Int × Int) (M M1 M1h M2 M3 : SM) (r0 r1 r2 : Int) (hgt : Nat) (L1 L2 : List (Int × Int)) : Prop where
 h0 : SM.changes (ownL ns l) M (-1) = (M1, r0, 0)
 hh : (if r0 = -1 then (M1, 0) else M1.hold r0) = (M1h, 0)
 h1 : SM.changes [x] M1h r0 = (M2, r1, 0)
 h2 : SM.build ((ownL ns l).foldl chgL []) M2 (-1) = (M3, r2, 0)
 g1 : M1h.log.length ≤ 10000
 g2 : M2.log.length ≤ 10000
 a2 : RootIs 1 M2 r0 ((ownL ns l).foldl chgL [])
 b2 : RootIs 1 M2 r1 L1
 a3 : RootIs 1 M3 r0 ((ownL ns l).foldl chgL [])
 c3 : RootIs 1 M3 r2 L2
 high : M2.height r0 = (hgt, 0)
 hle : hgt ≤ 8
 len : ((ownL ns l).foldl chgL []).length ≤ 64
 path : ∃ L : List Int, L.length ≤ hgt ∧ ∀ q, q ≠ -1 → Below M2 r0 q → q ∈ L ∨ Below M2 r1 q
 apart : Disj M3 r2 r0
theorem shares_ok {ns : List Nat} {M : SM} (h : OneTree Clean 240 ns M (-1) [] 0) (h4 : ns.length = 4) (hn : ns.Nodup) (hlog : M.log.length ≤ 4) {l : List (Int × Int)} (hl : l.length ≤ 70) {x : Int × Int} (k0 : 0 ≤ x.1) (k1 : x.1 < 64) {p : Nat} (hp : p ∈ ns) (hx : x.2 = (p : Int)) :
  ∃ M1 M1h M2 M3 r0 r1 r2 hgt L1 L2, SharesOk ns l x M M1 M1h M2 M3 r0 r1 r2 hgt L1 L2 := by
 have hB := clean_besides
 have hown := ownL_len ns l
 have hgood := ownL_good h4 l
 have F0 : Forest Clean ns M [.none] := (Forest.of_one h).none
 obtain ⟨M1, t0, e0, l0, p0, F1⟩ := Forest.changes (k := 0) hB hn (by omega) (ownL ns l) F0 (by decide) rfl (fun t ht => by rw [List.mem_singleton.1 ht]; show 0 + _ ≤ _; omega) (by show (0 + 3 + 0) + _ + _ ≤ _; omega) hgood
 have F1 : Forest Clean ns M1 [t0] := F1
 have e0 : SM.changes (ownL ns l) M (-1) = (M1, t0.root, 0) := e0
 have l0 : t0.l = (ownL ns l).foldl chgL [] := l0
 have p0 : t0.P ≤ 70 := by rw [p0]; show 0 + _ ≤ _; omega
 have g1 : M1.log.length ≤ 2000 := by
  have := changes_logS (ownL ns l) M (-1)
  rw [e0] at this
  dsimp only at this
  omega
 obtain ⟨M1h, eh, Fh, hlg⟩ := F1.hold hB hn (by show 1 ≤ 3; decide) (fun t ht => by rw [List.mem_singleton.1 ht]; omega) (List.mem_singleton.2 rfl)
 have Fh : Forest Clean ns M1h [t0, t0] := Fh
 obtain ⟨M2, r1, e1, C, F2⟩ := Fh.change (k := 1) (t := t0) hB hn (by omega) (by show 2 ≤ 3; decide) rfl (fun t ht => by simp at ht; rw [ht]; omega) (by show (t0.P + 3 + (t0.P + 3 + 0)) + _ ≤ _; omega) k0 k1 (.inr ⟨p, hp, hx⟩)
 obtain ⟨_, q1⟩ := Fh.put_below (k := 1) (t := t0) rfl (by omega) k0 k1 hp hx e1 C
 have F2 : Forest Clean ns M2 [t0, ⟨r1, chgL t0.l x, t0.P + 1, t0.w⟩] := F2
 have F3 : Forest Clean ns M2 [t0, ⟨r1, chgL t0.l x, t0.P + 1, t0.w⟩, .none] := F2.none
 have m0 : t0 ∈ [t0, ⟨r1, chgL t0.l x, t0.P + 1, t0.w⟩] := List.mem_cons_self ..
 have m1 : (⟨r1, chgL t0.l x, t0.P + 1, t0.w⟩ : IM) ∈ [t0, ⟨r1, chgL t0.l x, t0.P + 1, t0.w⟩] := List.mem_cons_of_mem _ (List.mem_cons_self ..)
 have len := (F2.tree t0 m0).1.len
 obtain ⟨M3, t2, e2, F4, p2, d3⟩ := build_apart (k := 2) (j := 0) hB hn (by omega) (by decide) t0.l F3 (by show 3 ≤ 3; decide) (t := .none) (a := t0) rfl rfl (fun t ht => by
  simp only [List.mem_cons, List.not_mem_nil, or_false] at ht
  rcases ht with rfl | rfl | rfl
  ·omega
  ·show t0.P + 1 + _ ≤ _; omega
  ·show 0 + _ ≤ _; omega) (by show (t0.P + 3 + (t0.P + 1 + 3 + (0 + 3 + 0))) + _ + _ ≤ _; omega) (fun y hy => by
  have hk := (F2.tree t0 m0).1.keys.2 y hy
  exact ⟨hk.1, hk.2, (F2.tree t0 m0).2 y hy⟩) (fun q hq hb => absurd (below_none hb) hq)
 have F4 : Forest Clean ns M3 [t0, ⟨r1, chgL t0.l x, t0.P + 1, t0.w⟩, t2] := F4
 have n0 : t0 ∈ [t0, ⟨r1, chgL t0.l x, t0.P + 1, t0.w⟩, t2] := List.mem_cons_self ..
 have n2 : t2 ∈ [t0, ⟨r1, chgL t0.l x, t0.P + 1, t0.w⟩, t2] := List.mem_cons_of_mem _ (List.mem_cons_of_mem _ (List.mem_cons_self ..))
 have p2 : t2.P ≤ 64 := by rw [p2]; show 0 + _ ≤ _; omega
 have g2 : M2.log.length ≤ 3000 := by
  have := change_logS M1h t0.root x
  rw [e1] at this
  dsimp only at this
  rw [hlg] at this
  omega
 have hhigh : ∃ hgt, M2.height t0.root = (hgt, 0) ∧ hgt ≤ 8 ∧ ∃ L : List Int, L.length ≤ hgt ∧ ∀ q, q ≠ -1 → Below M2 t0.root q → q ∈ L ∨ Below M2 r1 q := by
  have TM := (F2.tree t0 m0).1
  have Th := (Fh.tree t0 (List.mem_cons_self ..)).1
  rcases TM.root with ⟨e, _⟩ | ⟨h', t', lg⟩
  ·refine ⟨0, ?_, Nat.zero_le _, [], Nat.zero_le _, fun q hq hb => ?_⟩
   ·unfold SM.height
    rw [heightF_succ, e, if_pos rfl]
   ·rw [e] at hb
    exact absurd (below_none hb) hq
  ·have h5 := (led_pages t' lg (by omega)).1
   have hh := height_ok h' 0 t0.root t0.l (by omega) t'
   rw [Nat.zero_add] at hh
   refine ⟨h', hh, by omega, ?_⟩
   rcases Th.root with ⟨e, _⟩ | ⟨h2, t2', _⟩
   ·have := (heldB_int t'.held).1; omega
   ·have he := tr_high_same C.node t2' t'
    obtain ⟨L, b1, b2⟩ := q1 h2 t2'
    exact ⟨L, by omega, fun q hq hb => b2 q ((tree_stays C Th TM q hq).1 hb)⟩
 obtain ⟨hgt, hg1, hg2, hg3⟩ := hhigh
 refine ⟨M1, M1h, M2, M3, t0.root, r1, t2.root, hgt, chgL t0.l x, t2.l, ?_⟩
 have e2' : SM.build t0.l M2 (-1) = (M3, t2.root, 0) := e2
 refine ⟨e0, eh, by rw [change_one]; exact e1, by rw [← l0]; exact e2', by rw [hlg]; omega, by omega, ?_, F2.rootis m1 (by show t0.P + 1 ≤ 240; omega), ?_, F4.rootis n2 (by omega), hg1, hg2, by rw [← l0]; exact len, hg3, d3⟩
 ·rw [← l0]; exact F2.rootis m0 (by omega)
 ·rw [← l0]; exact F4.rootis n0 (by omega)

theorem run_equalIn_change (d : Nat) (p q : Int × Int) (w : World) : (Op.equalIn (d + 2) 92 (.agg #[.int .i64 p.1, .int .i64 p.2]) (.agg #[.int .i64 q.1, .int .i64 q.2])).run Tryz.prog w = .ok (decide (p = q)) w := by
 obtain ⟨p1, p2⟩ := p
 obtain ⟨q1, q2⟩ := q
 have hi : ∀ w, (isAgg 3).run Tryz.prog w = .ok false w := fun w => by
  unfold isAgg
  rw [Sem.run_bind, run_underlying Tryz.underlying3 w]
  rfl
 have hS : Tryz.prog.underlying 92 = some (.struct (Tryz.prog.fieldsOf 92)) := by kernel_rfl
 have hp : Tryz.prog.stoodInHeld 92 = false := by kernel_rfl
 have hq : ∀ (a b : Int) w, (Op.equalIn (d + 1) 3 (.int .i64 a) (.int .i64 b)).run Tryz.prog w = .ok (a == b) w := fun a b w => run_equalIn_int w d 3 .i64 .i64 a b Tryz.underlying3
 rw [run_equalIn_struct w (d + 1) 92 _ _ hS hp]
 simp only [Program.fieldsOf, Tryz.underlying92]
 by_cases h1 : p1 = q1
 ·by_cases h2 : p2 = q2
  ·simp [Op.eqFields, part, hi, hq, h1, h2]
  ·simp [Op.eqFields, part, hi, hq, h1, h2]
 ·simp [Op.eqFields, part, hi, hq, h1]
theorem exec_eql_change {o : Oper} {a : Act} {x y : Operand} {u : TypeId} (ho : o.op = .binOp .eql 92 x y u) (p q : Int × Int) (hx : a.eval x = .agg #[.int .i64 p.1, .int .i64 p.2]) (hy : a.eval y = .agg #[.int .i64 q.1, .int .i64 q.2]) (w : World) :
  (execOp a.eval o).run Tryz.prog w = .ok (.value (.bool (decide (p = q)))) w := by
 unfold execOp
 have hm : Tryz.prog.eqGuardType Tryz.prog.depth 92 = false := by kernel_rfl
 have he := run_equalIn_change 9998 p q w
 simp only [ho, hx, hy, Sem.run_bind, run_eqGuard_agg (hm := hm), Result.andThen_ok, run_eql_struct, he]
 rfl
structure DifSt (w0 : World) (db sb g p0 p1 p2 : Nat) (wr : World) (A : SA) (M : SM) : Prop where
 own : OwnStore w0 A M wr
 box : wr.heap[db]? = some (.cells #[.pointer (some ⟨sb, 0, none⟩)] 30 (0, 0))
 bsafe : Safe wr A db
 eq : A.sb = sb
 c0 : wr.cell? ⟨g, 0, none⟩ = some (.int .i64 p0)
 c1 : wr.cell? ⟨g, 0 + 1, none⟩ = some (.int .i64 p1)
 c2 : wr.cell? ⟨g, 0 + 2, none⟩ = some (.int .i64 p2)
 gsafe : Safe wr A g
theorem DifSt.fresh {w0 wr w' : World} {db sb g p0 p1 p2 : Nat} {A : SA} {M : SM} (h : DifSt w0 db sb g p0 p1 p2 wr A M) (k : Kept (fun _ => False) wr w') : DifSt w0 db sb g p0 p1 p2 w' A M :=
 ⟨h.own.fresh k, k.get h.box id, h.bsafe.fresh k, h.eq, k.cell h.c0 id, k.cell h.c1 id, k.cell h.c2 id, h.gsafe.fresh k⟩
theorem DifSt.to {w0 wr w' : World} {db sb g p0 p1 p2 : Nat} {A A' : SA} {M M' : SM} (h : DifSt w0 db sb g p0 p1 p2 wr A M) (k : StoreTo A A' M' wr w') : DifSt w0 db sb g p0 p1 p2 w' A' M' :=
 ⟨h.own.to k, k.get h.box h.bsafe, h.bsafe.to k, k.sb.trans h.eq, k.kept.cell h.c0 h.gsafe.off, k.kept.cell h.c1 h.gsafe.off, k.kept.cell h.c2 h.gsafe.off, h.gsafe.to k⟩
theorem DifSt.load {w0 wr : World} {db sb g p0 p1 p2 : Nat} {A : SA} {M : SM} (h : DifSt w0 db sb g p0 p1 p2 wr A M) : ∀ j v, [Value.pointer (some ⟨sb, 0, none⟩)][j]? = some v → wr.cell? ⟨db, 0 + j, none⟩ = some v := fun j v hj => by rw [Nat.zero_add, cell_of_heap h.box]; simpa using hj
theorem two_cells {W : World} {b off : Nat} {x y : Value} (h1 : W.cell? ⟨b, off, none⟩ = some x) (h2 : W.cell? ⟨b, off + 1, none⟩ = some y) : ∀ j v, [x, y][j]? = some v → W.cell? ⟨b, off + j, none⟩ = some v
 | 0, v, hj => by rw [Nat.add_zero, h1]; simpa using hj
 | 1, v, hj => by rw [h2]; simpa using hj
 | j + 2, v, hj => by simp at hj
set_option maxHeartbeats 16000000 in
theorem diffAlive (w : World) : Calls Tryz.prog 47 #[] w fun e w' => e = .returned (.bool true) ∧ Kept (fun _ => False) w w' := by
 have hm := made12 w
 have hm' := h_ hm
 clear hm
 go_enter Tryz.func47, Tryz.ntmps47
 go_wp2_with fail
 refine hm'.out.mono ?_
 rintro e w2 ⟨A, M, ns, v, rfl, hA, h4, hone, hnd, hrow, hoff, hlg, hk, hnew⟩
 rcases hrow.2 with ⟨_, h0⟩ | ⟨g, cp, cur, rfl, hb, hg, hn, hm2, hs, ht⟩
 ·exact absurd h0 (by decide)
 obtain ⟨p0, p1, p2, p3, rfl⟩ : ∃ p0 p1 p2 p3, ns = [p0, p1, p2, p3] := by
  match ns, h4 with
  | [a, b, c, d], _ => exact ⟨a, b, c, d, rfl⟩
 have hsl := SliceAt.of_owns hrow
 have e0 := hsl.cell0 (j := 0) (v := .int .i64 p0) rfl
 have e1 := hsl.cell0 (j := 1) (v := .int .i64 p1) rfl
 have e2 := hsl.cell0 (j := 2) (v := .int .i64 p2) rfl
 have hgl := (hrow.lt g rfl).2
 obtain ⟨_, _, _, e4, hcp1, hcp2, _⟩ := hsl
 cases e4
 unfold maxLen at hcp2
 obtain ⟨M1, a, hbd, h1, hlg1⟩ := alive12_build hone h4 (p0 := p0) (p1 := p1) (by simp) (by simp)
 obtain ⟨db, hdb⟩ : ∃ db, w2.heap.size = db := ⟨_, rfl⟩
 obtain ⟨w3, hw3⟩ : ∃ w3, (w2.alloc (.cells #[.pointer none] 30)).setRow db #[.pointer (some ⟨A.sb, 0, none⟩)] = w3 := ⟨_, rfl⟩
 have k3 : Kept (fun _ => False) w2 w3 := by rw [← hw3]; exact ((Kept.refl _ _).alloc _).setRowNew (by omega) _
 have q3 : w3.heap[db]? = some (.cells #[.pointer (some ⟨A.sb, 0, none⟩)] 30 (0, 0)) := by rw [← hw3, ← hdb]; exact setRow_heap _ _ _ _ _ _ (heap_alloc_new _ _)
 have S3 : DifSt w db A.sb g p0 p1 p2 w3 A M := ⟨⟨hA.fresh k3, hk.trans k3, hnew⟩, q3, Safe.new hA (by omega) (lt_of_heap q3), rfl, k3.cell e0 id, k3.cell e1 id, k3.cell e2 id, ⟨Nat.lt_of_lt_of_le hgl k3.size, fun e => hoff g rfl (.inl e)⟩⟩
 obtain ⟨sb, hsb⟩ : ∃ sb, A.sb = sb := ⟨_, rfl⟩
 rw [hsb] at hw3 S3 ⊢
 have S3 := h_ S3
 have hw3' := h_ hw3
 have hdb' := h_ hdb
 have hone' := h_ hone
 have h1' := h_ h1
 have hbd' := h_ hbd
 clear hA hone hnd hrow hoff hk hnew hb hg hn hs ht e0 e1 e2 hgl hdb hw3 k3 q3 hbd h1 hm2
 go_wp2_with (first | (refine wpList_alloc_as 30 rfl rfl #[.pointer none] differ_zero ?_; rw [hdb'.out]) | (refine wpList_store_whole 30 rfl rfl rfl [.pointer (some ⟨sb, 0, none⟩)] rfl (by kernel_rfl) 30 #[.pointer none] (by rw [← hdb'.out]; exact heap_alloc_new _ _) rfl (by intro c hc; simp at hc; subst hc; rfl) ?_; rw [hw3'.out]))
 refine wp_region_held_drew (S := fun W => W.heap[db]? = some (.cells #[.pointer (some ⟨sb, 0, none⟩)] 30 (0, 0)) ∧ W.cell? ⟨g, 0, none⟩ = some (.int .i64 p0) ∧ W.cell? ⟨g, 0 + 1, none⟩ = some (.int .i64 p1) ∧ W.cell? ⟨g, 0 + 2, none⟩ = some (.int .i64 p2)) (by kernel_rfl) ⟨S3.out.box, S3.out.c0, S3.out.c1, S3.out.c2⟩ (fun hS => ?_)
 refine wpAnyH_take (i := 0) (v := .pointer (some ⟨db, 0, none⟩)) rfl (by kernel_rfl) (by kernel_rfl) (by kernel_rfl) (fun _ _ _ h => h) (Or.inl ⟨by rfl, fun W hW => by go_simp⟩) (by assumption) ?_
 simp only [Act.put, q1_, q2_, q3_, List.setIfInBounds_toArray, q5_, q6_]
 refine wpAnyH_take (i := 1) (v := .pointer (some ⟨db, 0, none⟩)) rfl (by kernel_rfl) (by kernel_rfl) (by kernel_rfl) (fun _ _ _ h => h) (Or.inl ⟨by rfl, fun W hW => by go_simp⟩) (by assumption) ?_
 simp only [Act.put, q1_, q2_, q3_, List.setIfInBounds_toArray, q5_, q6_]
 refine wpAnyH_take (i := 2) (v := .agg #[.pointer (some ⟨sb, 0, none⟩)]) rfl (by kernel_rfl) (by kernel_rfl) (by kernel_rfl) (fun _ _ _ h => h) (Or.inl ⟨by rfl, fun W hW => exec_load_agg rfl (by rfl) [.pointer (some ⟨sb, 0, none⟩)] Tryz.underlying26 rfl (by kernel_rfl) (fun j v hj => by rw [cell_of_heap hW.1, Nat.zero_add]; simpa using hj)⟩) (by assumption) ?_
 simp only [Act.put, q1_, q2_, q3_, List.setIfInBounds_toArray, q5_, q6_]
 refine wpAnyH_take (i := 3) (v := .slice (some ⟨g, 0, none⟩) 4 cp) rfl (by kernel_rfl) (by kernel_rfl) (by kernel_rfl) (fun _ _ _ h => h) (Or.inl ⟨by rfl, fun W hW => by go_simp⟩) (by assumption) ?_
 simp only [Act.put, q1_, q2_, q3_, List.setIfInBounds_toArray, q5_, q6_]
 refine wpAnyH_take (i := 4) (v := .pointer (some ⟨g, 0, none⟩)) rfl (by kernel_rfl) (by kernel_rfl) (by kernel_rfl) (fun _ _ _ h => h) (Or.inl ⟨by rfl, fun W hW => by go_simp⟩) (by assumption) ?_
 simp only [Act.put, q1_, q2_, q3_, List.setIfInBounds_toArray, q5_, q6_]
 refine wpAnyH_take (i := 5) (v := .int .i64 p0) rfl (by kernel_rfl) (by kernel_rfl) (by kernel_rfl) (fun _ _ _ h => h) (Or.inl ⟨by rfl, fun W hW => by have hc := hW.2.1; clear hW; go_simp⟩) (by assumption) ?_
 simp only [Act.put, q1_, q2_, q3_, List.setIfInBounds_toArray, q5_, q6_]
 refine wpAnyH_take (i := 6) (v := .agg #[.int .i64 1, .int .i64 p0]) rfl (by kernel_rfl) (by kernel_rfl) (by kernel_rfl) (fun _ _ _ h => h) (Or.inl ⟨by rfl, fun W hW => by go_simp⟩) (by assumption) ?_
 simp only [Act.put, q1_, q2_, q3_, List.setIfInBounds_toArray, q5_, q6_]
 refine wpAnyH_take (i := 7) (v := .slice (some ⟨g, 0, none⟩) 4 cp) rfl (by kernel_rfl) (by kernel_rfl) (by kernel_rfl) (fun _ _ _ h => h) (Or.inl ⟨by rfl, fun W hW => by go_simp⟩) (by assumption) ?_
 simp only [Act.put, q1_, q2_, q3_, List.setIfInBounds_toArray, q5_, q6_]
 refine wpAnyH_take (i := 8) (v := .pointer (some ⟨g, 0 + 1, none⟩)) rfl (by kernel_rfl) (by kernel_rfl) (by kernel_rfl) (fun _ _ _ h => h) (Or.inl ⟨by rfl, fun W hW => by go_simp⟩) (by assumption) ?_
 simp only [Act.put, q1_, q2_, q3_, List.setIfInBounds_toArray, q5_, q6_]
 refine wpAnyH_take (i := 9) (v := .int .i64 p1) rfl (by kernel_rfl) (by kernel_rfl) (by kernel_rfl) (fun _ _ _ h => h) (Or.inl ⟨by rfl, fun W hW => by have hc := hW.2.2.1; clear hW; go_simp⟩) (by assumption) ?_
 simp only [Act.put, q1_, q2_, q3_, List.setIfInBounds_toArray, q5_, q6_]
 refine wpAnyH_take (i := 10) (v := .agg #[.int .i64 2, .int .i64 p1]) rfl (by kernel_rfl) (by kernel_rfl) (by kernel_rfl) (fun _ _ _ h => h) (Or.inl ⟨by rfl, fun W hW => by go_simp⟩) (by assumption) ?_
 simp only [Act.put, q1_, q2_, q3_, List.setIfInBounds_toArray, q5_, q6_]
 refine wpAnyH_ready (rs := [11]) (by kernel_rfl) (by simp) ?_
 refine AllReadyH.cons rfl (fun K hK => ?_) ?_
 ·rw [if_pos (by rfl)]
  simp only [Go.wp_at_zero, Go.wp_at_succ]
  go_simp
  have k4 : Kept (fun _ => False) w3 (w3.drew.alloc (.cells #[.int .i64 1, .int .i64 p0, .int .i64 2, .int .i64 p1] 86)) := (Kept.refl _ _).drew.alloc _
  have S4 := S3.out.fresh k4
  refine hK.out _ _ ⟨S4.box, S4.c0, S4.c1, S4.c2⟩ (fun hS4 => ?_)
  clear hK K
  try simp only [Act.put, q1_, q2_, q3_, List.setIfInBounds_toArray, q5_, q6_]
  obtain ⟨hS4', hE4⟩ := ents_new (S3.out.fresh ((Kept.refl (fun _ => False) w3).drew)).own.store (exA p0 p1) (by show 2 ≤ 1000; omega)
  have hB := treeBuild hS4' hE4 (by show 2 ≤ 1000; omega) (by omega)
  rw [hbd'.out, S3.out.eq] at hB
  dsimp only at hB
  have hB' := h_ hB
  have S4 := h_ S4
  clear hS4' hE4 hB k4
  refine wpAnyH_ready (rs := [12]) (by kernel_rfl) (by simp) ?_
  refine AllReadyH.cons rfl (fun K hK => ?_) ?_
  ·rw [if_pos (by rfl)]
   simp only [Go.wp_at_zero, Go.wp_at_succ]
   go_simp
   refine hB'.out.mono ?_
   rintro e w5 ⟨A5, rfl, hT5⟩
   have S5 := S4.out.to hT5
   refine hK.out _ _ ⟨S5.box, S5.c0, S5.c1, S5.c2⟩ (fun hS5 => ?_)
   clear hK K
   try simp only [Act.put, q1_, q2_, q3_, List.setIfInBounds_toArray, q5_, q6_]
   have S5 := h_ S5
   refine wpAnyH_take (i := 13) (v := .tuple #[.int .i64 a, .int .i64 0]) rfl (by kernel_rfl) (by kernel_rfl) (by kernel_rfl) (fun _ _ _ h => h) (Or.inl ⟨by rfl, fun W hW => by go_simp⟩) (by assumption) ?_
   simp only [Act.put, q1_, q2_, q3_, List.setIfInBounds_toArray, q5_, q6_]
   refine wpAnyH_take (i := 14) (v := .int .i64 a) rfl (by kernel_rfl) (by kernel_rfl) (by kernel_rfl) (fun _ _ _ h => h) (Or.inl ⟨by rfl, fun W hW => by go_simp⟩) (by assumption) ?_
   simp only [Act.put, q1_, q2_, q3_, List.setIfInBounds_toArray, q5_, q6_]
   refine wpAnyH_take (i := 15) (v := .int .i64 0) rfl (by kernel_rfl) (by kernel_rfl) (by kernel_rfl) (fun _ _ _ h => h) (Or.inl ⟨by rfl, fun W hW => by go_simp⟩) (by assumption) ?_
   simp only [Act.put, q1_, q2_, q3_, List.setIfInBounds_toArray, q5_, q6_]
   refine wpAnyH_take (i := 16) (v := .int .i64 a) rfl (by kernel_rfl) (by kernel_rfl) (by kernel_rfl) (fun _ _ _ h => h) (Or.inl ⟨by rfl, fun W hW => by go_simp⟩) (by assumption) ?_
   simp only [Act.put, q1_, q2_, q3_, List.setIfInBounds_toArray, q5_, q6_]
   refine wpAnyH_take (i := 17) (v := .int .i64 0) rfl (by kernel_rfl) (by kernel_rfl) (by kernel_rfl) (fun _ _ _ h => h) (Or.inl ⟨by rfl, fun W hW => by go_simp⟩) (by assumption) ?_
   simp only [Act.put, q1_, q2_, q3_, List.setIfInBounds_toArray, q5_, q6_]
   refine wpAnyH_done (by kernel_rfl) ?_ _
   clear hS hS4 hS5 hT5 hB'
   obtain ⟨M2, b, M3, hpt, hsw, hra, hrb, hlg3⟩ := alive12_put h1'.out h4 (p2 := p2) (by simp) (by simp) (by simp)
   have hra' := h_ hra
   have hrb' := h_ hrb
   have hsw' := h_ hsw
   have hP := treePut (S5.out.fresh ((Kept.refl (fun _ => False) w5).drew)).own.store a 9 (p2 : Int) (by omega)
   rw [hpt, S5.out.eq] at hP
   dsimp only at hP
   have hP' := h_ hP
   clear hpt hra hrb hsw hP
   go_wp2_with fail
   refine wp_region_held_drew (S := fun W => W.heap[db]? = some (.cells #[.pointer (some ⟨sb, 0, none⟩)] 30 (0, 0)) ∧ W.cell? ⟨g, 0, none⟩ = some (.int .i64 p0) ∧ W.cell? ⟨g, 0 + 1, none⟩ = some (.int .i64 p1) ∧ W.cell? ⟨g, 0 + 2, none⟩ = some (.int .i64 p2)) (by kernel_rfl) ⟨S5.out.box, S5.out.c0, S5.out.c1, S5.out.c2⟩ (fun hS => ?_)
   refine wpAnyH_take (i := 0) (v := .pointer (some ⟨db, 0, none⟩)) rfl (by kernel_rfl) (by kernel_rfl) (by kernel_rfl) (fun _ _ _ h => h) (Or.inl ⟨by rfl, fun W hW => by go_simp⟩) (by assumption) ?_
   simp only [Act.put, q1_, q2_, q3_, List.setIfInBounds_toArray, q5_, q6_]
   refine wpAnyH_take (i := 1) (v := .pointer (some ⟨db, 0, none⟩)) rfl (by kernel_rfl) (by kernel_rfl) (by kernel_rfl) (fun _ _ _ h => h) (Or.inl ⟨by rfl, fun W hW => by go_simp⟩) (by assumption) ?_
   simp only [Act.put, q1_, q2_, q3_, List.setIfInBounds_toArray, q5_, q6_]
   refine wpAnyH_take (i := 2) (v := .agg #[.pointer (some ⟨sb, 0, none⟩)]) rfl (by kernel_rfl) (by kernel_rfl) (by kernel_rfl) (fun _ _ _ h => h) (Or.inl ⟨by rfl, fun W hW => exec_load_agg rfl (by rfl) [.pointer (some ⟨sb, 0, none⟩)] Tryz.underlying26 rfl (by kernel_rfl) (fun j v hj => by rw [cell_of_heap hW.1, Nat.zero_add]; simpa using hj)⟩) (by assumption) ?_
   simp only [Act.put, q1_, q2_, q3_, List.setIfInBounds_toArray, q5_, q6_]
   refine wpAnyH_take (i := 3) (v := .int .i64 a) rfl (by kernel_rfl) (by kernel_rfl) (by kernel_rfl) (fun _ _ _ h => h) (Or.inl ⟨by rfl, fun W hW => by go_simp⟩) (by assumption) ?_
   simp only [Act.put, q1_, q2_, q3_, List.setIfInBounds_toArray, q5_, q6_]
   refine wpAnyH_take (i := 4) (v := .slice (some ⟨g, 0, none⟩) 4 cp) rfl (by kernel_rfl) (by kernel_rfl) (by kernel_rfl) (fun _ _ _ h => h) (Or.inl ⟨by rfl, fun W hW => by go_simp⟩) (by assumption) ?_
   simp only [Act.put, q1_, q2_, q3_, List.setIfInBounds_toArray, q5_, q6_]
   refine wpAnyH_take (i := 5) (v := .pointer (some ⟨g, 0 + 2, none⟩)) rfl (by kernel_rfl) (by kernel_rfl) (by kernel_rfl) (fun _ _ _ h => h) (Or.inl ⟨by rfl, fun W hW => by go_simp⟩) (by assumption) ?_
   simp only [Act.put, q1_, q2_, q3_, List.setIfInBounds_toArray, q5_, q6_]
   refine wpAnyH_take (i := 6) (v := .int .i64 p2) rfl (by kernel_rfl) (by kernel_rfl) (by kernel_rfl) (fun _ _ _ h => h) (Or.inl ⟨by rfl, fun W hW => by have hc := hW.2.2.2; clear hW; go_simp⟩) (by assumption) ?_
   simp only [Act.put, q1_, q2_, q3_, List.setIfInBounds_toArray, q5_, q6_]
   refine wpAnyH_ready (rs := [7]) (by kernel_rfl) (by simp) ?_
   refine AllReadyH.cons rfl (fun K hK => ?_) ?_
   ·rw [if_pos (by rfl)]
    simp only [Go.wp_at_zero, Go.wp_at_succ]
    go_simp
    refine hP'.out.mono ?_
    rintro e w6 ⟨A6, rfl, hT6⟩
    have S6 := (S5.out.fresh ((Kept.refl (fun _ => False) w5).drew)).to hT6
    refine hK.out _ _ ⟨S6.box, S6.c0, S6.c1, S6.c2⟩ (fun hS6 => ?_)
    clear hK K
    try simp only [Act.put, q1_, q2_, q3_, List.setIfInBounds_toArray, q5_, q6_]
    have S6 := h_ S6
    refine wpAnyH_take (i := 8) (v := .tuple #[.int .i64 b, .int .i64 0]) rfl (by kernel_rfl) (by kernel_rfl) (by kernel_rfl) (fun _ _ _ h => h) (Or.inl ⟨by rfl, fun W hW => by go_simp⟩) (by assumption) ?_
    simp only [Act.put, q1_, q2_, q3_, List.setIfInBounds_toArray, q5_, q6_]
    refine wpAnyH_take (i := 9) (v := .int .i64 b) rfl (by kernel_rfl) (by kernel_rfl) (by kernel_rfl) (fun _ _ _ h => h) (Or.inl ⟨by rfl, fun W hW => by go_simp⟩) (by assumption) ?_
    simp only [Act.put, q1_, q2_, q3_, List.setIfInBounds_toArray, q5_, q6_]
    refine wpAnyH_take (i := 10) (v := .int .i64 0) rfl (by kernel_rfl) (by kernel_rfl) (by kernel_rfl) (fun _ _ _ h => h) (Or.inl ⟨by rfl, fun W hW => by go_simp⟩) (by assumption) ?_
    simp only [Act.put, q1_, q2_, q3_, List.setIfInBounds_toArray, q5_, q6_]
    refine wpAnyH_take (i := 11) (v := .int .i64 b) rfl (by kernel_rfl) (by kernel_rfl) (by kernel_rfl) (fun _ _ _ h => h) (Or.inl ⟨by rfl, fun W hW => by go_simp⟩) (by assumption) ?_
    simp only [Act.put, q1_, q2_, q3_, List.setIfInBounds_toArray, q5_, q6_]
    refine wpAnyH_take (i := 12) (v := .int .i64 0) rfl (by kernel_rfl) (by kernel_rfl) (by kernel_rfl) (fun _ _ _ h => h) (Or.inl ⟨by rfl, fun W hW => by go_simp⟩) (by assumption) ?_
    simp only [Act.put, q1_, q2_, q3_, List.setIfInBounds_toArray, q5_, q6_]
    refine wpAnyH_done (by kernel_rfl) ?_ _
    clear hS hS6 hT6 hP'
    have hlg3' : M3.log.length ≤ 1000 := by omega
    have hW := treeSwap S6.out.own.store (-1) b
    rw [hsw'.out, S6.out.eq] at hW
    dsimp only at hW
    have hW' := h_ hW
    clear hW
    go_wp2_with (first | (refine wpList_load_agg 26 rfl rfl rfl _ Tryz.underlying26 rfl [.pointer (some ⟨sb, 0, none⟩)] (by kernel_rfl) S6.out.load ?_))
    refine hW'.out.mono ?_
    rintro e w7 ⟨rfl, hT7⟩
    have S7 := h_ (S6.out.to hT7)
    clear hT7 hW'
    have hC := diffChanges S7.out.own.store hra'.out hrb'.out
    rw [S7.out.eq] at hC
    rw [ch_ab] at hC
    have hC' := h_ hC
    clear hC
    go_wp2_with (first | (refine wpList_load_agg 30 rfl rfl rfl _ Tryz.underlying30 rfl [.pointer (some ⟨sb, 0, none⟩)] (by kernel_rfl) S7.out.load ?_))
    refine hC'.out.mono ?_
    rintro e w8 ⟨v8, rfl, hown8, kc8⟩
    have S8 := h_ (S7.out.fresh kc8)
    have hE8 : EntsAt w8 v8 [(9, (p2 : Int))] := SliceAt.of_owns hown8
    obtain ⟨Av8, cap8, rfl, u1, u2⟩ := EntsAt.form hE8
    obtain ⟨b8, off8, rfl, _, c1, c2⟩ := EntsAt.get hE8 (i := 0) (x := (9, (p2 : Int))) rfl
    rw [Nat.zero_mul, Nat.add_zero] at c1 c2
    have c1' := h_ c1
    have c2' := h_ c2
    clear hown8 hE8 kc8 c1 c2 hC'
    have hC := diffChanges S8.out.own.store hrb'.out hra'.out
    rw [S8.out.eq] at hC
    rw [ch_ba] at hC
    have hC' := h_ hC
    clear hC
    go_wp2_with (first | (refine wpList_load_agg 30 rfl rfl rfl _ Tryz.underlying30 rfl [.pointer (some ⟨sb, 0, none⟩)] (by kernel_rfl) S8.out.load ?_))
    refine hC'.out.mono ?_
    rintro e w9 ⟨v9, rfl, hown9, kc9⟩
    have S9 := h_ (S8.out.fresh kc9)
    have hE9 : EntsAt w9 v9 [(9, (-1 : Int))] := SliceAt.of_owns hown9
    obtain ⟨Av9, cap9, rfl, u3, u4⟩ := EntsAt.form hE9
    obtain ⟨b9, off9, rfl, _, c3, c4⟩ := EntsAt.get hE9 (i := 0) (x := (9, (-1 : Int))) rfl
    rw [Nat.zero_mul, Nat.add_zero] at c3 c4
    have c3' := h_ c3
    have c4' := h_ c4
    have c1'' := h_ (kc9.cell c1'.out id)
    have c2'' := h_ (kc9.cell c2'.out id)
    clear hown9 hE9 kc9 c3 c4 hC' c1' c2'
    unfold maxLen at u2 u4
    simp only [List.length_cons, List.length_nil, Nat.zero_add] at u1 u2 u3 u4 ⊢
    go_wp2_with fail
    refine wp_region_quiet (C := fun w' => Kept (fun _ => False) w9 w') (by kernel_rfl) (by kernel_rfl) (Kept.refl _ _).drew ?_
    simp only []
    refine wpQuiet_step (fun K hK => ?_); go_simp; refine ⟨_, fun _ _ => rfl, hK _ ?_⟩; clear hK K
    refine wpQuiet_step (fun K hK => ?_); go_simp; refine ⟨_, fun _ _ => rfl, hK _ ?_⟩; clear hK K
    refine wpQuiet_step (fun K hK => ?_); go_simp; refine ⟨_, fun _ _ => rfl, hK _ ?_⟩; clear hK K
    refine wpQuiet_step (fun K hK => ?_); go_simp; refine ⟨_, fun _ _ => rfl, hK _ ?_⟩; clear hK K
    refine wpQuiet_step (fun K hK => ?_); go_simp; refine ⟨_, fun _ _ => rfl, hK _ ?_⟩; clear hK K
    refine wpQuiet_step (fun K hK => ?_); go_simp; refine ⟨_, fun _ _ => rfl, hK _ ?_⟩; clear hK K
    refine wpQuiet_step (fun K hK => ?_); go_simp; refine ⟨_, fun _ _ => rfl, hK _ ?_⟩; clear hK K
    refine wpQuiet_step (fun K hK => ?_); go_simp; refine ⟨_, fun _ _ => rfl, hK _ ?_⟩; clear hK K
    refine wpQuiet_step (fun K hK => ?_); go_simp; refine ⟨_, fun _ _ => rfl, hK _ ?_⟩; clear hK K
    refine wpQuiet_step (fun K hK => ?_); go_simp; refine ⟨_, fun _ _ => rfl, hK _ ?_⟩; clear hK K
    refine wpQuiet_step (fun K hK => ?_); go_simp; refine ⟨_, fun _ _ => rfl, hK _ ?_⟩; clear hK K
    refine wpQuiet_step (fun K hK => ?_); go_simp; refine ⟨_, fun _ _ => rfl, hK _ ?_⟩; clear hK K
    refine wpQuiet_step (fun K hK => ?_); go_simp; refine ⟨_, fun _ _ => rfl, hK _ ?_⟩; clear hK K
    refine wpQuiet_step (fun K hK => ?_); go_simp; refine ⟨_, fun _ _ => rfl, hK _ ?_⟩; clear hK K
    refine wpQuiet_step (fun K hK => ?_); go_simp; refine ⟨_, fun _ _ => rfl, hK _ ?_⟩; clear hK K
    refine wpQuiet_step (fun K hK => ?_); go_simp; refine ⟨_, fun _ _ => rfl, hK _ ?_⟩; clear hK K
    refine wpQuiet_step (fun K hK => ?_); go_simp; refine ⟨_, fun _ _ => rfl, hK _ ?_⟩; clear hK K
    refine wpQuiet_step (fun K hK => ?_); go_simp; refine ⟨_, fun _ _ => rfl, hK _ ?_⟩; clear hK K
    refine wpQuiet_step (fun K hK => ?_); go_simp; refine ⟨_, fun _ _ => rfl, hK _ ?_⟩; clear hK K
    refine wpQuiet_step (fun K hK => ?_); go_simp; refine ⟨_, fun _ _ => rfl, hK _ ?_⟩; clear hK K
    refine wpQuiet_step (fun K hK => ?_); go_simp; refine ⟨_, fun _ _ => rfl, hK _ ?_⟩; clear hK K
    refine wpQuiet_step (fun K hK => ?_); go_simp; refine ⟨_, fun _ _ => rfl, hK _ ?_⟩; clear hK K
    refine wpQuiet_step (fun K hK => ?_); go_simp; refine ⟨_, fun _ _ => rfl, hK _ ?_⟩; clear hK K
    refine wpQuiet_step (fun K hK => ?_); go_simp; refine ⟨_, fun _ _ => rfl, hK _ ?_⟩; clear hK K
    refine wpQuiet_step (fun K hK => ?_); go_simp; refine ⟨_, fun _ _ => rfl, hK _ ?_⟩; clear hK K
    refine wpQuiet_step (fun K hK => ?_); go_simp; refine ⟨_, fun _ _ => rfl, hK _ ?_⟩; clear hK K
    refine wpQuiet_step (fun K hK => ?_); refine q_on rfl (q_val (.agg #[.int .i64 9, .int .i64 p2]) (fun W hW => exec_load_agg (g := b8) (off := off8) rfl (by rfl) [.int .i64 9, .int .i64 p2] Tryz.underlying92 rfl (by kernel_rfl) (two_cells (hW.cell c1''.out id) (hW.cell c2''.out id))) (hK _ ?_)); clear hK K
    refine wpQuiet_step (fun K hK => ?_); go_simp; refine ⟨_, fun _ _ => rfl, hK _ ?_⟩; clear hK K
    refine wpQuiet_step (fun K hK => ?_); go_simp; refine ⟨_, fun _ _ => rfl, hK _ ?_⟩; clear hK K
    refine wpQuiet_step (fun K hK => ?_); refine q_on rfl (q_val (.int .i64 p2) (fun W hW => by have hc := hW.cell S9.out.c2 id; clear hW; go_simp) (hK _ ?_)); clear hK K
    refine wpQuiet_step (fun K hK => ?_); go_simp; refine ⟨_, fun _ _ => rfl, hK _ ?_⟩; clear hK K
    refine wpQuiet_step (fun K hK => ?_); refine q_on rfl (q_val (.bool true) (fun W hW => by rw [exec_eql_change rfl (9, (p2 : Int)) (9, (p2 : Int)) (by rfl) (by rfl)]; simp) (hK _ ?_)); clear hK K
    refine wpQuiet_step (fun K hK => ?_); go_simp; refine ⟨_, fun _ _ => rfl, hK _ ?_⟩; clear hK K
    refine wpQuiet_step (fun K hK => ?_); go_simp; refine ⟨_, fun _ _ => rfl, hK _ ?_⟩; clear hK K
    refine wpQuiet_step (fun K hK => ?_); go_simp; refine ⟨_, fun _ _ => rfl, hK _ ?_⟩; clear hK K
    refine wpQuiet_step (fun K hK => ?_); go_simp; refine ⟨_, fun _ _ => rfl, hK _ ?_⟩; clear hK K
    refine wpQuiet_step (fun K hK => ?_); go_simp; refine ⟨_, fun _ _ => rfl, hK _ ?_⟩; clear hK K
    refine wpQuiet_step (fun K hK => ?_); go_simp; refine ⟨_, fun _ _ => rfl, hK _ ?_⟩; clear hK K
    refine wpQuiet_step (fun K hK => ?_); go_simp; refine ⟨_, fun _ _ => rfl, hK _ ?_⟩; clear hK K
    refine wpQuiet_step (fun K hK => ?_); go_simp; refine ⟨_, fun _ _ => rfl, hK _ ?_⟩; clear hK K
    refine wpQuiet_step (fun K hK => ?_); go_simp; refine ⟨_, fun _ _ => rfl, hK _ ?_⟩; clear hK K
    refine wpQuiet_step (fun K hK => ?_); refine q_on rfl (q_val (.agg #[.int .i64 9, .int .i64 (-1)]) (fun W hW => exec_load_agg (g := b9) (off := off9) rfl (by rfl) [.int .i64 9, .int .i64 (-1)] Tryz.underlying92 rfl (by kernel_rfl) (two_cells (hW.cell c3'.out id) (hW.cell c4'.out id))) (hK _ ?_)); clear hK K
    refine wpQuiet_step (fun K hK => ?_); go_simp; refine ⟨_, fun _ _ => rfl, hK _ ?_⟩; clear hK K
    refine wpQuiet_step (fun K hK => ?_); refine q_on rfl (q_val (.bool true) (fun W hW => by rw [exec_eql_change rfl (9, (-1 : Int)) (9, (-1 : Int)) (by rfl) (by rfl)]; simp) (hK _ ?_)); clear hK K
    refine wpQuiet_step (fun K hK => ?_); go_simp; refine ⟨_, fun _ _ => rfl, hK _ ?_⟩; clear hK K
    refine wpQuiet_step (fun K hK => ?_); go_simp; refine ⟨_, fun _ _ => rfl, hK _ ?_⟩; clear hK K
    refine wpQuiet_nil ?_
    intro wq hwq
    go_wp2_with fail
    go_ret
    exact ⟨rfl, S9.out.own.kept.trans hwq⟩
   exact AllReadyH.nil
  exact AllReadyH.nil
 exact AllReadyH.nil

structure ShSt (w : World) (db sb : Nat) (wr : World) (A : SA) (M : SM) : Prop where
 own : OwnStore w A M wr
 cd : wr.heap[db]? = some (.cells #[.pointer (some ⟨sb, 0, none⟩)] 30 (0, 0))
 sd : Safe wr A db
 eq : A.sb = sb
theorem ShSt.fresh {w wr w' : World} {db sb : Nat} {A : SA} {M : SM} (h : ShSt w db sb wr A M) (k : Kept (fun _ => False) wr w') : ShSt w db sb w' A M := ⟨h.own.fresh k, k.get h.cd id, h.sd.fresh k, h.eq⟩
theorem ShSt.to {w wr w' : World} {db sb : Nat} {A A' : SA} {M M' : SM} (h : ShSt w db sb wr A M) (k : StoreTo A A' M' wr w') : ShSt w db sb w' A' M' := ⟨h.own.to k, k.get h.cd h.sd, h.sd.to k, k.sb.trans h.eq⟩
theorem ShSt.load {w wr : World} {db sb : Nat} {A : SA} {M : SM} (h : ShSt w db sb wr A M) : ∀ j v, [Value.pointer (some ⟨sb, 0, none⟩)][j]? = some v → wr.cell? ⟨db, 0 + j, none⟩ = some v := ptr_load' h.cd
theorem run_build_two (w : World) (A : Option Addr) (n c : Nat) (A' : Option Addr) (n' c' : Nat) : (Instr.build 98 #[(0, .slice A n c), (1, .slice A' n' c')]).run Tryz.prog w = .ok (.agg #[.slice A n c, .slice A' n' c']) w := run_build _ _ _ _ (by kernel_rfl)
set_option maxHeartbeats 16000000 in
theorem sharesWalk {w : World} (v : Value) (l : List (Int × Int)) (hv : EntsAt w v l) (c : Int × Int) :
  Calls Tryz.prog 14 #[v, .agg #[.int .i64 c.1, .int .i64 c.2]] w fun e w' => e = .returned (.bool true) ∧ Kept (fun _ => False) w w' := by
 obtain ⟨Av, cap, rfl, hf1, hf2⟩ := hv.form
 unfold maxLen at hf2
 obtain ⟨ck, cp0⟩ := c
 dsimp only
 obtain ⟨cb, hcb⟩ : ∃ b, w.heap.size = b := ⟨_, rfl⟩
 obtain ⟨wb, hwb⟩ : ∃ u, w.alloc (.cells #[.int .i64 ck, .int .i64 cp0] 92) = u := ⟨_, rfl⟩
 have kb := h_ (show Kept (fun _ => False) w wb by rw [← hwb]; exact (Kept.refl _ _).alloc _)
 have qb := h_ (show wb.heap[cb]? = some (.cells #[.int .i64 ck, .int .i64 cp0] 92 (0, 0)) by rw [← hwb, ← hcb]; exact heap_alloc_new _ _)
 have c00 : Hid (wb.cell? ⟨cb, 0, none⟩ = some (.int .i64 ck)) := h_ (by rw [cell_of_heap qb.out]; rfl)
 have hwb' := h_ hwb
 have hcb' := h_ hcb
 have hv' := h_ hv
 have hm := fun w => made12 w
 have hm' := h_ hm
 have hcw : Hid (w.heap.size ≤ cb) := h_ (by omega)
 clear hwb hcb hv hm
 by_cases hl : 70 < l.length
 ·have d0 : decide ((70 : Int) < (l.length : Int)) = true := decide_eq_true (by omega)
  go_enter Tryz.func14, Tryz.ntmps14
  go_wp2_with (first | (refine wpList_box_named 92 rfl rfl _ rfl hwb'.out ?_; rw [hcb'.out]))
  refine (diffAlive _).mono ?_
  rintro e w1 ⟨rfl, k1⟩
  have cc0 := k1.cell c00.out id
  have K1 := h_ (kb.out.trans k1)
  have kk1 := h_ k1
  clear k1
  go_wp2_with fail
  go_ret
  exact ⟨rfl, K1.out⟩
 have d0 : decide ((70 : Int) < (l.length : Int)) = false := decide_eq_false (by omega)
 by_cases h0 : ck < 0
 ·have d1 : decide (ck < 0) = true := decide_eq_true h0
  go_enter Tryz.func14, Tryz.ntmps14
  go_wp2_with (first | (refine wpList_box_named 92 rfl rfl _ rfl hwb'.out ?_; rw [hcb'.out]))
  refine (diffAlive _).mono ?_
  rintro e w1 ⟨rfl, k1⟩
  have cc0 := k1.cell c00.out id
  have K1 := h_ (kb.out.trans k1)
  have kk1 := h_ k1
  clear k1
  go_wp2_with fail
  go_ret
  exact ⟨rfl, K1.out⟩
 have d1 : decide (ck < 0) = false := decide_eq_false h0
 by_cases h1 : 63 < ck
 ·have d2 : decide ((63 : Int) < ck) = true := decide_eq_true h1
  go_enter Tryz.func14, Tryz.ntmps14
  go_wp2_with (first | (refine wpList_box_named 92 rfl rfl _ rfl hwb'.out ?_; rw [hcb'.out]))
  refine (diffAlive _).mono ?_
  rintro e w1 ⟨rfl, k1⟩
  have cc0 := k1.cell c00.out id
  have K1 := h_ (kb.out.trans k1)
  have kk1 := h_ k1
  clear k1
  go_wp2_with fail
  go_ret
  exact ⟨rfl, K1.out⟩
 have d2 : decide ((63 : Int) < ck) = false := decide_eq_false h1
 go_enter Tryz.func14, Tryz.ntmps14
 go_wp2_with (first | (refine wpList_box_named 92 rfl rfl _ rfl hwb'.out ?_; rw [hcb'.out]))
 refine (diffAlive _).mono ?_
 rintro e w1 ⟨rfl, k1⟩
 have cc0 := k1.cell c00.out id
 have K1 := h_ (kb.out.trans k1)
 have kk1 := h_ k1
 clear k1
 go_wp2_with fail
 refine (hm'.out _).mono ?_
 rintro e w2 ⟨A, M, ns, vp, rfl, hA, h4, hone, hnd, hrow, hoff, hlg, hk, hnew⟩
 obtain ⟨_, Ap, cp, rfl, hp1, hp2, _⟩ := SliceAt.of_owns hrow
 unfold maxLen at hp2
 obtain ⟨q, hq⟩ : ∃ q, clampQ cp0 = q := ⟨_, rfl⟩
 have hq3 : q ≤ 3 := by rw [← hq]; unfold clampQ; omega
 have hqc : max 0 (min cp0 3) = (q : Int) := by rw [← hq]; unfold clampQ; omega
 have hqq : clampQ (q : Int) = q := by unfold clampQ; omega
 obtain ⟨p, hp⟩ : ∃ p, ns[q]? = some p := ⟨_, List.getElem?_eq_getElem (by omega)⟩
 have hpm : p ∈ ns := List.mem_of_getElem? hp
 have hown1 : ownL ns [(ck, (q : Int))] = [(ck, (p : Int))] := by
  unfold ownL
  rw [List.flatMap_cons, List.flatMap_nil, List.append_nil]
  exact ownC_some (by omega) (by omega) (by omega) (by rw [hqq]; exact hp)
 obtain ⟨M1, M1h, M2, M3, r0, r1, r2, hgt, L1m, L2m, SO⟩ := shares_ok hone h4 hnd hlg (l := l) (by omega) (x := (ck, (p : Int))) (by show 0 ≤ ck; omega) (by show ck < 64; omega) hpm rfl
 have SO' := h_ SO
 obtain ⟨db, hdb⟩ : ∃ b, w2.heap.size = b := ⟨_, rfl⟩
 obtain ⟨sb, hsb⟩ : ∃ s, A.sb = s := ⟨_, rfl⟩
 rw [hsb]
 obtain ⟨w3, hw3⟩ : ∃ u, (w2.alloc (.cells #[.pointer none] 30)).setRow db #[.pointer (some ⟨sb, 0, none⟩)] = u := ⟨_, rfl⟩
 have k3 : Kept (fun _ => False) w2 w3 := by rw [← hw3]; exact ((Kept.refl _ _).alloc _).setRowNew (by omega) _
 have q3 : w3.heap[db]? = some (.cells #[.pointer (some ⟨sb, 0, none⟩)] 30 (0, 0)) := by rw [← hw3, ← hdb]; exact setRow_heap _ _ _ _ _ _ (heap_alloc_new _ _)
 have qc := ((kk1.out.trans hk).trans k3).get qb.out id
 have cc1 := cell_of_heap qc 1
 have fc1 := free_of_heap qc 1
 simp at cc1
 obtain ⟨w4, hw4⟩ : ∃ u, w3.setCell ⟨cb, 1, none⟩ (.int .i64 (q : Int)) = u := ⟨_, rfl⟩
 have k4 : Kept (fun j => j = cb) w3 w4 := by rw [← hw4]; exact Kept.setCell (S := fun j => j = cb) (Kept.refl _ _) rfl _
 have qc4 : w4.heap[cb]? = some (.cells #[.int .i64 ck, .int .i64 (q : Int)] 92 (0, 0)) := by rw [← hw4, heap_setCell_same qc]; rfl
 have hcbA : cb < w2.heap.size := lt_of_heap ((kk1.out.trans hk).get qb.out id)
 have hcbO : ¬ A.own cb := fun e => by have := hnew cb e; have := lt_of_heap (kk1.out.get qb.out id); omega
 have O3 : OwnStore w A M w3 := ⟨hA.fresh k3, (K1.out.trans hk).trans k3, fun j hj => Nat.le_trans K1.out.size (hnew j hj)⟩
 have O4 : OwnStore w A M w4 := ⟨O3.store.kept k4 (fun i hi e => hcbO (e ▸ hi)), O3.kept.trans_new k4 (fun i hi e => by have := hcw.out; omega), O3.new⟩
 have q4 := k4.get q3 (by omega)
 have hl4 : Hid (∀ i v, [Value.int .i64 ck, .int .i64 (q : Int)][i]? = some v → w4.cell? ⟨cb, 0 + i, none⟩ = some v) := h_ (fun i v hi => by rw [cell_of_heap qc4, Nat.zero_add]; simpa using hi)
 have hld4 := h_ (ptr_load' q4)
 have k45 : Kept (fun _ => False) w4 (w4.alloc (.cells #[.int .i64 ck, .int .i64 (q : Int)] 92)) := (Kept.refl _ _).alloc _
 obtain ⟨w5, hw5⟩ : ∃ u, w4.alloc (.cells #[.int .i64 ck, .int .i64 (q : Int)] 92) = u := ⟨_, rfl⟩
 have q5 : w5.heap[w4.heap.size]? = some (.cells #[.int .i64 ck, .int .i64 (q : Int)] 92 (0, 0)) := by rw [← hw5]; exact heap_alloc_new _ _
 rw [hw5] at k45
 have S5 : Hid (ShSt w db sb w5 A M) := h_ ⟨O4.fresh k45, k45.get q4 id, ⟨Nat.lt_of_lt_of_le (lt_of_heap q4) k45.size, fun e => by have := hA.lt (.inl e); omega⟩, hsb⟩
 have E0 : EntsOff w5 A (.slice Av l.length cap) l := ⟨SliceAt.fresh hv'.out S5.out.own.kept, fun hne b hb => by
  obtain ⟨b', e1, e2⟩ := SliceAt.block hv'.out (by have := List.length_pos_iff.2 hne; omega)
  rw [hb] at e1
  cases e1
  exact ⟨Nat.lt_of_lt_of_le e2 S5.out.own.kept.size, fun e => by have := S5.out.own.new b (.inl e); omega⟩⟩
 have E1 : EntsOff w5 A (.slice (some ⟨w4.heap.size, 0, none⟩) 1 1) [(ck, (q : Int))] := ⟨SliceAt.block_new (ys := [.int .i64 ck, .int .i64 (q : Int)]) (m := 1) q5 (by rfl) (by decide), fun _ b hb => by
  simp [Value.ownBlock] at hb
  subst hb
  exact ⟨lt_of_heap q5, fun e => by have := O4.store.lt (.inl e); omega⟩⟩
 have EP : PagesAt w5 (.slice Ap 4 cp) ns A := ⟨SliceAt.fresh (SliceAt.kept (SliceAt.fresh (by rw [h4]; exact SliceAt.of_owns hrow) k3) k4 (fun b hb e => by have := (hrow.lt b hb).1; have := lt_of_heap (kk1.out.get qb.out id); omega)) k45, fun _ b hb => ⟨Nat.lt_of_lt_of_le (hrow.lt b hb).2 (Nat.le_trans k3.size (Nat.le_trans k4.size k45.size)), fun e => hoff b hb (.inl e)⟩⟩
 have CT := two12 S5.out.own.store h4 EP E0 E1 (by omega) (by show 1 ≤ 70; omega) SO.h0 SO.hh (by rw [hown1]; exact SO.h1) (by omega) SO.g1
 rw [S5.out.eq] at CT
 have CT' := h_ CT
 have hbt : Hid (∀ w, (Instr.build 98 #[(0, .slice Av l.length cap), (1, .slice (some ⟨w4.heap.size, 0, none⟩) 1 1)]).run Tryz.prog w = .ok (.agg #[.slice Av l.length cap, .slice (some ⟨w4.heap.size, 0, none⟩) 1 1]) w) := h_ (fun w => run_build_two w _ _ _ _ _ _)
 have hw3' := h_ hw3
 have hw4' := h_ hw4
 have hw5' := h_ hw5
 have hdb' := h_ hdb
 clear hA h4 hone hnd hrow hoff hlg hk hnew hdb hsb hw3 hw4 hw5 k3 q3 k4 qc4 O3 O4 q4 k45 q5 E0 E1 EP CT SO hp hpm hown1 hq hqq hcbA hcbO qc
 go_wp2_with (first | (refine wpList_alloc_as 30 rfl rfl #[.pointer none] differ_zero ?_; rw [hdb'.out]) | (refine wpList_store_whole 30 rfl rfl rfl [.pointer (some ⟨sb, 0, none⟩)] rfl differ_size 30 #[.pointer none] (by rw [← hdb'.out]; exact heap_alloc_new _ _) rfl (by intro c hc; simp at hc; subst hc; rfl) ?_; rw [hw3'.out]) | (rw [hw4'.out]; (refine wpList_load_agg 30 rfl rfl rfl _ Tryz.underlying30 rfl [.pointer (some ⟨sb, 0, none⟩)] (by kernel_rfl) hld4.out ?_)) | (refine wpList_load_agg 30 rfl rfl rfl _ Tryz.underlying30 rfl [.pointer (some ⟨sb, 0, none⟩)] (by kernel_rfl) hld4.out ?_) | (refine wpList_load_agg 92 rfl rfl rfl _ Tryz.underlying92 rfl [.int .i64 ck, .int .i64 (q : Int)] (by kernel_rfl) hl4.out ?_) | (refine wpList_exec rfl (exec_build 98 #[(0, .slice Av l.length cap), (1, .slice (some ⟨w4.heap.size, 0, none⟩) 1 1)] _ rfl (by simp [Act.eval, Act.put]) (hbt.out _)) ?_))
 rw [hw5'.out]
 refine CT'.out.mono ?_
 rintro e w6 ⟨A6, L0, L1, rfl, hT6, hE0, hE1⟩
 obtain ⟨AL, cL, rfl, hL1, hL2⟩ := hE0.at_.form
 obtain ⟨AK, cK, rfl, hK1, hK2⟩ := hE1.at_.form
 obtain ⟨LL, hLL⟩ : ∃ z, (ownL ns l).foldl chgL [] = z := ⟨_, rfl⟩
 obtain ⟨LK, hLK⟩ : ∃ z, (ownL ns [(ck, (q : Int))]).foldl chgL ((ownL ns l).foldl chgL []) = z := ⟨_, rfl⟩
 rw [hLK] at hE1 hK1 ⊢
 rw [hLL] at hE0 hL1 ⊢
 have S6 := h_ (S5.out.to hT6)
 have F6 := h_ hE0
 have hLL' := h_ hLL
 obtain ⟨rb, hrb⟩ : ∃ b, w6.heap.size = b := ⟨_, rfl⟩
 obtain ⟨wa, hwa⟩ : ∃ u, w6.alloc (.cells #[.int .i64 0, .int .i64 0] 93) = u := ⟨_, rfl⟩
 obtain ⟨lb, hlb⟩ : ∃ b, wa.heap.size = b := ⟨_, rfl⟩
 obtain ⟨wc, hwc⟩ : ∃ u, (wa.alloc (.cells #[.slice none 0 0, .slice none 0 0] 95)).setRow rb #[.int .i64 r0, .int .i64 r1] = u := ⟨_, rfl⟩
 obtain ⟨wd, hwd⟩ : ∃ u, wc.setRow lb #[.slice AL LL.length cL, .slice AK LK.length cK] = u := ⟨_, rfl⟩
 have ka : Kept (fun _ => False) w6 wa := by rw [← hwa]; exact (Kept.refl _ _).alloc _
 have qa : wa.heap[rb]? = some (.cells #[.int .i64 0, .int .i64 0] 93 (0, 0)) := by rw [← hwa, ← hrb]; exact heap_alloc_new _ _
 have kab : Kept (fun _ => False) wa (wa.alloc (.cells #[.slice none 0 0, .slice none 0 0] 95)) := (Kept.refl _ _).alloc _
 have qb2 := kab.get qa id
 have ql : (wa.alloc (.cells #[.slice none 0 0, .slice none 0 0] 95)).heap[lb]? = some (.cells #[.slice none 0 0, .slice none 0 0] 95 (0, 0)) := by rw [← hlb]; exact heap_alloc_new _ _
 have e1 := lt_of_heap qa
 have kc : Kept (fun j => j = rb) (wa.alloc (.cells #[.slice none 0 0, .slice none 0 0] 95)) wc := by rw [← hwc]; exact Kept.setRow (S := fun j => j = rb) (Kept.refl _ _) rfl _
 have qcr : wc.heap[rb]? = some (.cells #[.int .i64 r0, .int .i64 r1] 93 (0, 0)) := by rw [← hwc]; exact setRow_heap _ _ _ _ _ _ qb2
 have qcl := kc.get ql (by omega)
 have kd : Kept (fun j => j = lb) wc wd := by rw [← hwd]; exact Kept.setRow (S := fun j => j = lb) (Kept.refl _ _) rfl _
 have qdl : wd.heap[lb]? = some (.cells #[.slice AL LL.length cL, .slice AK LK.length cK] 95 (0, 0)) := by rw [← hwd]; exact setRow_heap _ _ _ _ _ _ qcl
 have qdr := h_ (kd.get qcr (by omega))
 have k6d : Kept (fun _ => False) w6 wd := ((ka.trans kab).trans_new kc (fun i hi e => by omega)).trans_new kd (fun i hi e => by omega)
 have S7 := h_ (S6.out.fresh k6d)
 have F7 := h_ (F6.out.fresh k6d)
 have G7 : Hid (Safe wd A6 lb) := h_ ⟨lt_of_heap qdl, fun e => by have := S6.out.own.store.lt (.inl e); omega⟩
 have Q7 := h_ qdl
 have hwa' := h_ hwa
 have hwc' := h_ hwc
 have hwd' := h_ hwd
 have hrb' := h_ hrb
 have hlb' := h_ hlb
 have Qb2 := h_ qb2
 have Qcl := h_ qcl
 clear hT6 hE0 hE1 hLL hLK hrb hwa hlb hwc hwd ka qa kab qb2 ql e1 kc qcr qcl kd qdl k6d
 go_wp2_with (first | (refine wpList_alloc_as 93 rfl rfl #[.int .i64 0, .int .i64 0] (by kernel_rfl) ?_; rw [hwa'.out, hrb'.out]) | (refine wpList_alloc_as 95 rfl rfl #[.slice none 0 0, .slice none 0 0] (by kernel_rfl) ?_; rw [hlb'.out]) | (refine wpList_store_whole 93 rfl rfl rfl [.int .i64 r0, .int .i64 r1] rfl (by kernel_rfl) 93 #[.int .i64 0, .int .i64 0] Qb2.out rfl (by intro c hc; simp at hc; rcases hc with rfl | rfl <;> rfl) ?_; rw [hwc'.out]) | (refine wpList_store_whole 95 rfl rfl rfl [.slice AL LL.length cL, .slice AK LK.length cK] rfl (by kernel_rfl) 95 #[.slice none 0 0, .slice none 0 0] Qcl.out rfl (by intro c hc; simp at hc; rcases hc with rfl | rfl <;> rfl) ?_; rw [hwd'.out]))
 refine wp_region_quiet (C := fun w' => Kept (fun _ => False) wd w') (by kernel_rfl) (by kernel_rfl) (Kept.refl _ _).drew ?_
 simp only []
 refine wpQuiet_step (fun K hK => ?_); go_simp; refine ⟨_, fun _ _ => rfl, hK _ ?_⟩; clear hK K
 refine wpQuiet_step (fun K hK => ?_); refine q_on rfl (q_val (.int .i64 r0) (fun W hW => by have hc := cell_of_heap (hW.get qdr.out id) 0; simp at hc; clear hW; go_simp) (hK _ ?_)); clear hK K
 refine wpQuiet_step (fun K hK => ?_); go_simp; refine ⟨_, fun _ _ => rfl, hK _ ?_⟩; clear hK K
 refine wpQuiet_step (fun K hK => ?_); refine q_on rfl (q_val (.int .i64 r1) (fun W hW => by have hc := cell_of_heap (hW.get qdr.out id) 1; simp at hc; clear hW; go_simp) (hK _ ?_)); clear hK K
 refine wpQuiet_step (fun K hK => ?_); go_simp; refine ⟨_, fun _ _ => rfl, hK _ ?_⟩; clear hK K
 refine wpQuiet_step (fun K hK => ?_); go_simp; refine ⟨_, fun _ _ => rfl, hK _ ?_⟩; clear hK K
 refine wpQuiet_nil ?_
 intro w8 hk8
 have S8 := h_ (S7.out.fresh hk8)
 have F8 := h_ (F7.out.fresh hk8)
 have G8 := h_ (G7.out.fresh hk8)
 have Q8 := h_ (hk8.get Q7.out id)
 clear hk8
 have hld := h_ S8.out.load
 have CS := diffShared S8.out.own.store SO'.out.a2 SO'.out.b2
 rw [S8.out.eq] at CS
 have CS' := h_ CS
 clear CS
 go_wp2_with (first | (refine wpList_load_agg 30 rfl rfl rfl _ Tryz.underlying30 rfl [.pointer (some ⟨sb, 0, none⟩)] (by kernel_rfl) hld.out ?_))
 refine CS'.out.mono ?_
 rintro e y1 ⟨v1, S1, rfl, hrow1, hnd1, hmem1, ky1⟩
 obtain ⟨_, B1, d1, rfl, hB1, hD1, _⟩ := SliceAt.of_owns hrow1
 unfold maxLen at hD1
 have T1 := h_ (S8.out.fresh ky1)
 have U1 := h_ hnd1
 have V1 := h_ hmem1
 have Y1 := h_ ky1
 clear hrow1 hnd1 hmem1 ky1 hld
 have hld := h_ T1.out.load
 have CS := diffShared T1.out.own.store SO'.out.b2 SO'.out.a2
 rw [T1.out.eq] at CS
 have CS' := h_ CS
 clear CS
 go_wp2_with (first | (refine wpList_load_agg 30 rfl rfl rfl _ Tryz.underlying30 rfl [.pointer (some ⟨sb, 0, none⟩)] (by kernel_rfl) hld.out ?_))
 refine CS'.out.mono ?_
 rintro e y2 ⟨v2, S2, rfl, hrow2, hnd2, hmem2, ky2⟩
 obtain ⟨_, B2, d2, rfl, hB2, hD2, _⟩ := SliceAt.of_owns hrow2
 unfold maxLen at hD2
 have T2 := h_ (T1.out.fresh ky2)
 have U2 := h_ hnd2
 have V2 := h_ hmem2
 have Y2 := h_ ky2
 clear hrow2 hnd2 hmem2 ky2 hld
 have hld := h_ T2.out.load
 have CS := diffShared T2.out.own.store SO'.out.a2 SO'.out.a2
 rw [T2.out.eq] at CS
 have CS' := h_ CS
 clear CS
 go_wp2_with (first | (refine wpList_load_agg 30 rfl rfl rfl _ Tryz.underlying30 rfl [.pointer (some ⟨sb, 0, none⟩)] (by kernel_rfl) hld.out ?_))
 refine CS'.out.mono ?_
 rintro e y3 ⟨v3, S3, rfl, hrow3, hnd3, hmem3, ky3⟩
 obtain ⟨_, B3, d3, rfl, hB3, hD3, _⟩ := SliceAt.of_owns hrow3
 unfold maxLen at hD3
 have T3 := h_ (T2.out.fresh ky3)
 have U3 := h_ hnd3
 have V3 := h_ hmem3
 have Y3 := h_ ky3
 clear hrow3 hnd3 hmem3 ky3 hld
 have hldh := h_ (show ∀ j v, [Value.pointer (some ⟨sb, 0, none⟩)][j]? = some v → y3.cell? ⟨db, 0 + j, none⟩ = some v from T3.out.load)
 have CH := treeHeight T3.out.own.store r0
 rw [SO'.out.high, T3.out.eq] at CH
 have CH' : Hid (Calls Tryz.prog 53 #[.agg #[.pointer (some ⟨sb, 0, none⟩)], .int .i64 r0] y3 fun e w' => e = .returned (.tuple #[.int .i64 (hgt : Int), .int .i64 0]) ∧ Kept (fun _ => False) y3 w') := h_ CH
 clear CH
 go_wp2_with (first | (refine wpList_load_agg 26 rfl rfl rfl _ Tryz.underlying26 rfl [.pointer (some ⟨sb, 0, none⟩)] (by kernel_rfl) hldh.out ?_))
 refine CH'.out.mono ?_
 rintro e w9 ⟨rfl, k9⟩
 have kA := (((Y1.out.trans Y2.out).trans Y3.out).trans k9)
 have S9 := h_ (T3.out.fresh k9)
 have F9 := h_ (F8.out.fresh kA)
 have c9 := cell_of_heap (kA.get Q8.out id) 0
 simp at c9
 have hldb := h_ (show ∀ j v, [Value.pointer (some ⟨sb, 0, none⟩)][j]? = some v → w9.cell? ⟨db, 0 + j, none⟩ = some v from S9.out.load)
 have CB := treeBuild S9.out.own.store F9.out (by have := SO'.out.len; rw [hLL'.out] at this; omega) (by have := SO'.out.g2; omega)
 have hb2 := SO'.out.h2
 rw [hLL'.out] at hb2
 rw [hb2, S9.out.eq] at CB
 have CB' : Hid (Calls Tryz.prog 49 #[.agg #[.pointer (some ⟨sb, 0, none⟩)], .slice AL LL.length cL] w9 fun e w' => ∃ A', e = .returned (.tuple #[.int .i64 r2, .int .i64 0]) ∧ StoreTo A6 A' M3 w9 w') := h_ CB
 clear CB hb2 k9 kA
 go_wp2_with (first | (refine wpList_load_agg 26 rfl rfl rfl _ Tryz.underlying26 rfl [.pointer (some ⟨sb, 0, none⟩)] (by kernel_rfl) hldb.out ?_))
 refine CB'.out.mono ?_
 rintro e w10 ⟨A10, rfl, hT10⟩
 have S10 := h_ (S9.out.to hT10)
 clear hT10 c9
 have hld := h_ S10.out.load
 have CS := diffShared S10.out.own.store SO'.out.a3 SO'.out.c3
 rw [S10.out.eq] at CS
 have CS' := h_ CS
 clear CS
 go_wp2_with (first | (refine wpList_load_agg 30 rfl rfl rfl _ Tryz.underlying30 rfl [.pointer (some ⟨sb, 0, none⟩)] (by kernel_rfl) hld.out ?_))
 refine CS'.out.mono ?_
 rintro e y4 ⟨v4, S4, rfl, hrow4, hnd4, hmem4, ky4⟩
 obtain ⟨_, B4, d4, rfl, hB4, hD4, _⟩ := SliceAt.of_owns hrow4
 unfold maxLen at hD4
 have T4 := h_ (S10.out.fresh ky4)
 have U4 := h_ hnd4
 have V4 := h_ hmem4
 have Y4 := h_ ky4
 clear hrow4 hnd4 hmem4 ky4 hld
 have e12 : S2.length = S1.length := same_len U2.out U1.out (fun x => by rw [V2.out, V1.out]; exact And.comm)
 have e4 : S4.length = 0 := by
  cases hS : S4 with
  | nil => rfl
  | cons x S =>
   have hm : x ∈ S4 := by rw [hS]; exact List.mem_cons_self ..
   obtain ⟨⟨a1, a2⟩, a3, _⟩ := (V4.out x).1 hm
   exact absurd a1 (SO'.out.apart x a2 a3)
 have e3 : S3.length ≤ hgt + S1.length := by
  obtain ⟨L, p1, p2⟩ := SO'.out.path
  have := nodup_len (S := S3) (L := L ++ S1) U3.out (fun x hx => by
   obtain ⟨⟨a1, a2⟩, _⟩ := (V3.out x).1 hx
   rcases p2 x a2 a1 with h | h
   ·exact List.mem_append_left _ h
   ·exact List.mem_append_right _ ((V1.out x).2 ⟨⟨a1, a2⟩, h, a2⟩))
  rw [List.length_append] at this
  omega
 obtain ⟨a, ha⟩ : ∃ a, S1.length = a := ⟨_, rfl⟩
 obtain ⟨b, hb⟩ : ∃ b, S3.length = b := ⟨_, rfl⟩
 rw [e12, ha, hb, e4]
 rw [ha, hb] at e3
 rw [ha] at hB1
 rw [hb] at hB3
 have haa : ((a : Int) != (a : Int)) = false := by simp
 have hsub : IntKind.i64.wrap ((b : Int) - (a : Int)) = (b : Int) - (a : Int) := by rw [IntKind.wrap_i64]; omega
 have hle : decide ((b : Int) - (a : Int) ≤ (hgt : Int)) = true := decide_eq_true (by omega)
 have fin := h_ T4.out.own.kept
 clear e12 e4 e3 ha hb hf1
 go_wp2_with fail
 go_ret
 exact ⟨rfl, fin.out⟩
end Go.Proofs.YtidlchciehdefaaGreat
