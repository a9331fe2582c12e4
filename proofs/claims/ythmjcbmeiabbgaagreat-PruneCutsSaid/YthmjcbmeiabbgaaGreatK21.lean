/-
  TreeSplits: the walk.
-/
import Derived.Test.YthmjcbmeiabbgaaGreatK16
import Derived.Test.YthmjcbmeiabbgaaGreatK18
import Derived.Test.YthmjcbmeiabbgaaGreatK20
set_option linter.unusedVariables false
set_option linter.unusedSimpArgs false
namespace Go.Proofs.YthmjcbmeiabbgaaGreat.treeSplits
open Go.RowKit
set_option maxRecDepth 100000

/-- A slice of ints that came in. -/
def IntsIn (w : World) (v : Value) (l : List Int) : Prop := ∃ A cap, v = .slice A l.length cap ∧ l.length ≤ cap ∧ cap ≤ maxLen ∧
    ∀ (i : Nat) (x : Int), l[i]? = some x → ∃ b off, A = some ⟨b, off, none⟩ ∧ b < w.heap.size ∧ w.cell? ⟨b, off + i, none⟩ = some (.int .i64 x)
/-- The entries so far, and the last key. -/
def step (s : List (Int × Int) × Int) (k : Int) : List (Int × Int) × Int := if s.2 < k ∧ k < 64 then (s.1 ++ [(k, 0)], k) else s
def upTo (l : List Int) (k : Nat) : List (Int × Int) × Int := (l.take k).foldl step ([], -1)
theorem upTo_succ {l : List Int} {k : Nat} {x : Int} (h : l[k]? = some x) : upTo l (k + 1) = step (upTo l k) x := by
  unfold upTo
  rw [List.take_add_one, h]
  simp
theorem upTo_len (l : List Int) : ∀ k, (upTo l k).1.length ≤ k
  | 0 => Nat.le_refl _
  | k + 1 => by
    cases h : l[k]? with
    | none =>
      have : upTo l (k + 1) = upTo l k := by unfold upTo; rw [List.take_add_one, h]; simp
      rw [this]
      exact Nat.le_succ_of_le (upTo_len l k)
    | some x =>
      rw [upTo_succ h]
      unfold step
      have := upTo_len l k
      split
      · rw [List.length_append, List.length_singleton]; omega
      · omega
theorem upTo_good (l : List Int) : ∀ k, RisesK (upTo l k).1 ∧ (∀ y ∈ (upTo l k).1, 0 ≤ y.1 ∧ y.1 < 64 ∧ y.1 ≤ (upTo l k).2 ∧ y.2 = 0) ∧ -1 ≤ (upTo l k).2 ∧ (upTo l k).2 < 64
  | 0 => ⟨List.Pairwise.nil, (fun y hy => by cases hy), by show (-1 : Int) ≤ -1; omega, by show (-1 : Int) < 64; omega⟩
  | k + 1 => by
    obtain ⟨h1, h2, h3, h4⟩ := upTo_good l k
    cases h : l[k]? with
    | none =>
      have : upTo l (k + 1) = upTo l k := by unfold upTo; rw [List.take_add_one, h]; simp
      rw [this]
      exact ⟨h1, h2, h3, h4⟩
    | some x =>
      rw [upTo_succ h]
      unfold step
      split
      · rename_i hc
        refine ⟨List.pairwise_append.2 ⟨h1, List.pairwise_singleton _ _, fun a ha b hb => ?_⟩, fun y hy => ?_, by dsimp only; omega, hc.2⟩
        · rw [List.mem_singleton.1 hb]
          have := h2 a ha
          show a.1 < x
          omega
        · rcases List.mem_append.1 hy with hy | hy
          · have := h2 y hy
            exact ⟨this.1, this.2.1, by dsimp only; omega, this.2.2.2⟩
          · rw [List.mem_singleton.1 hy]
            exact ⟨by dsimp only; omega, hc.2, Int.le_refl _, rfl⟩
      · exact ⟨h1, h2, h3, h4⟩

/-- What the split pages are. -/
def leaves (M : SM) (out : List (Int × Int)) (k : Nat) : List (Int × Int) := (out.take k).flatMap fun e => (M.get e.2).1.ents
theorem kids_leaves {m : Nat} {M : SM} : ∀ (es l : List (Int × Int)), Kids (Sub m M 1) es l → (es.flatMap fun e => (M.get e.2).1.ents) = l ∧
    ∀ e ∈ es, ∃ n x, M.get e.2 = (n, 0) ∧ n.kind = 2 ∧ n.ents[0]? = some x ∧ x.1 = e.1 ∧ n.ents.length ≤ 6
  | [], l, h => ⟨h.symm, fun e he => by cases he⟩
  | e :: es, l, ⟨a, b, x, h1, h2, h3, h4, h5⟩ => by
    obtain ⟨n, g1, g2, g3, g4, g5⟩ := leaf_get h2.1
    obtain ⟨i1, i2⟩ := kids_leaves es b h5
    refine ⟨by rw [List.flatMap_cons, i1, g1, g3, h1], fun f hf => ?_⟩
    rcases List.mem_cons.1 hf with rfl | hf
    · exact ⟨n, x, g1, g2, by rw [g3, ← h3, List.head?_eq_getElem?], h4, by rw [g3]; exact g5⟩
    · exact i2 f hf
theorem leaves_succ {M : SM} {out : List (Int × Int)} {k : Nat} {e : Int × Int} (h : out[k]? = some e) : leaves M out (k + 1) = leaves M out k ++ (M.get e.2).1.ents := by
  unfold leaves
  rw [List.take_add_one, h]
  simp
theorem leaves_len {M : SM} {out : List (Int × Int)} (h : ∀ e ∈ out, ∃ n x, M.get e.2 = (n, 0) ∧ n.kind = 2 ∧ n.ents[0]? = some x ∧ x.1 = e.1 ∧ n.ents.length ≤ 6) : ∀ k, (leaves M out k).length ≤ 6 * k
  | 0 => Nat.le_refl _
  | k + 1 => by
    have ih := leaves_len h k
    cases he : out[k]? with
    | none =>
      have : leaves M out (k + 1) = leaves M out k := by unfold leaves; rw [List.take_add_one, he]; simp
      rw [this]; omega
    | some e =>
      rw [leaves_succ he, List.length_append]
      obtain ⟨n, x, g1, _, _, _, g5⟩ := h e (List.mem_of_getElem? he)
      rw [g1]
      show _ + n.ents.length ≤ _
      omega
theorem split_facts {l : List Int} {E : List (Int × Int)} {k : Nat} (hE : (upTo l k).1 = E) (h12 : E.length ≤ 12) :
    ∃ M' out, (madeM 56 9).split ⟨2, zeros16, E⟩ = (M', out, 0) ∧ out.length = (if 6 < E.length then 2 else if 0 < E.length then 1 else 0) ∧ leaves M' out out.length = E ∧
      ∀ e ∈ out, ∃ n x, M'.get e.2 = (n, 0) ∧ n.kind = 2 ∧ n.ents[0]? = some x ∧ x.1 = e.1 ∧ n.ents.length ≤ 6 := by
  by_cases h0 : E.length = 0
  · have : E = [] := List.eq_nil_of_length_eq_zero h0
    subst this
    exact ⟨madeM 56 9, [], rfl, rfl, rfl, fun e he => by cases he⟩
  · have hg := upTo_good l k
    rw [hE] at hg
    have g : Good (madeM 56 9) E := ⟨hg.1, fun y hy => by
      have := hg.2.1 y hy
      exact ⟨this.1, this.2.1, by rw [this.2.2.2]; exact made_held 56 9 (by decide)⟩⟩
    have t : NTr (Sub 1 (madeM 56 9) 0) 0 ⟨2, zeros16, E⟩ E := .inl ⟨rfl, rfl, rfl⟩
    rcases split_ok (made_exact 56 9 (by decide) (by decide) (by decide)) t g (by show 1 ≤ E.length; omega) h12 with ⟨e, S⟩ | ⟨e, hf⟩ | ⟨e, c, hc⟩
    · have hK := S.kids (by decide) (by show 1 ≤ E.length; omega)
      obtain ⟨k1, k2⟩ := kids_leaves _ _ hK
      refine ⟨_, _, Prod.ext rfl (Prod.ext rfl e), ?_, ?_, k2⟩
      · rw [S.len]
        show (if 6 < E.length then 2 else 1) = _
        split
        · rfl
        · rw [if_pos (by omega)]
      · unfold leaves
        rw [List.take_length]
        exact k1
    · rw [made_free 56 9 (by decide)] at hf
      split at hf <;> omega
    · rw [made_sum] at hc
      have : extOne c ≤ 1 := by unfold extOne; split <;> omega
      have hc2 : 255 < 0 + E.length + extOne c := hc
      omega
end Go.Proofs.YthmjcbmeiabbgaaGreat.treeSplits
/-
  PruneDense: the walk.
-/
namespace Go.Proofs.YthmjcbmeiabbgaaGreat.pruneDense
open Go.RowKit
open treeSplits (IntsIn)
set_option maxRecDepth 100000

/-- A pruner's variable: a box with its store's address. -/
structure PrunerVar (wr : World) (A : SA) (b sb : Nat) : Prop where
  heap : wr.heap[b]? = some (.cells #[.pointer (some ⟨sb, 0, none⟩)] 52 (0, 0))
  safe : Safe wr A b
  eq : A.sb = sb
theorem PrunerVar.fresh {wr w' : World} {A : SA} {b sb : Nat} (h : PrunerVar wr A b sb) (k : Kept (fun _ => False) wr w') : PrunerVar w' A b sb := ⟨k.get h.heap id, h.safe.fresh k, h.eq⟩
theorem PrunerVar.to {wr w' : World} {A A' : SA} {M' : SM} {b sb : Nat} (h : PrunerVar wr A b sb) (k : StoreTo A A' M' wr w') : PrunerVar w' A' b sb := ⟨k.get h.heap h.safe, h.safe.to k, k.sb.trans h.eq⟩
theorem PrunerVar.load {wr : World} {A : SA} {b sb : Nat} (h : PrunerVar wr A b sb) : ∀ j v, [Value.pointer (some ⟨sb, 0, none⟩)][j]? = some v → wr.cell? ⟨b, 0 + j, none⟩ = some v := fun j v hj => by rw [Nat.zero_add, cell_of_heap h.heap]; simpa using hj
theorem PrunerVar.c0 {wr : World} {A : SA} {b sb : Nat} (h : PrunerVar wr A b sb) : wr.cell? ⟨b, 0, none⟩ = some (.pointer (some ⟨sb, 0, none⟩)) := by rw [cell_of_heap h.heap]; rfl

/-- The entries that the tree is built of. -/
def seqE (k : Nat) : List (Int × Int) := (List.range k).map fun (i : Nat) => ((i : Int), (0 : Int))
theorem seqE_succ (k : Nat) : seqE (k + 1) = seqE k ++ [((k : Int), 0)] := by unfold seqE; rw [List.range_succ, List.map_append]; rfl
theorem seqE_len (k : Nat) : (seqE k).length = k := by unfold seqE; rw [List.length_map, List.length_range]
theorem seqE_in {k : Nat} {y : Int × Int} (h : y ∈ seqE k) : 0 ≤ y.1 ∧ y.1 < (k : Int) ∧ y.2 = 0 := by
  unfold seqE at h
  obtain ⟨i, hi, rfl⟩ := List.mem_map.1 h
  rw [List.mem_range] at hi
  exact ⟨by show (0 : Int) ≤ (i : Int); omega, by show (i : Int) < (k : Int); omega, rfl⟩
theorem one_start {s : Nat} (h0 : 0 < s) (h : s ≤ 240) : OneTree Clean s [0] (madeM s 9) (-1) [] 0 := by
  refine ⟨exact_congr (made_exact s 9 h0 h (by decide)) (fun p _ => ?_), rfl, fun q => ?_, fun b hb => ?_, ⟨List.Pairwise.nil, fun y hy => by cases hy⟩, .inl ⟨rfl, rfl⟩, made_loose s 9 h0 []⟩
  · unfold extB extOne
    rw [show (if (p : Int) = -1 then 1 else 0) = 0 from if_neg (by omega), Nat.add_zero, List.count_singleton]
    by_cases e : p = 0
    · rw [if_pos e, if_pos (by simp [e])]
    · rw [if_neg e, if_neg (by simp; exact fun e' => e e'.symm)]
  · unfold madeM PM.setCnt PM.setSt PM.fresh0
    dsimp only
    by_cases e : q = 0
    · simp [e]
    · simp [e]
  · rw [List.mem_singleton] at hb
    subst hb
    exact ⟨by rw [made_live s 9 0 h0]; rfl, _, made_node s 9, rfl, rfl⟩
/-- The build, step by step. -/
theorem seq_build : ∀ (n k : Nat) {M : SM} {root : Int}, OneTree Clean 196 [0] M root (seqE k) k → AscSt M root (seqE k) k → k + n ≤ 64 →
    ∃ M' root', SM.build ((seqE (k + n)).drop k) M root = (M', root', 0) ∧ OneTree Clean 196 [0] M' root' (seqE (k + n)) (k + n) ∧ AscSt M' root' (seqE (k + n)) (k + n) ∧ M'.log.length ≤ M.log.length + 22 * n
  | 0, k, M, root, h, hA, _ => ⟨M, root, by rw [Nat.add_zero, List.drop_eq_nil_of_le (by rw [seqE_len]; exact Nat.le_refl _)]; rfl, h, hA, Nat.le_refl _⟩
  | n + 1, k, M, root, h, hA, hk => by
    have hmax : ∀ y ∈ seqE k, y.1 < (k : Int) := fun y hy => (seqE_in hy).2.1
    have hput : putL (seqE k) ((k : Int), 0) = seqE (k + 1) := by rw [putL_end hmax, seqE_succ]
    obtain ⟨e1, e2, hI, _⟩ := one_put h clean_besides (by omega) (by decide) (by decide) (key := (k : Int)) (page := 0) (by omega) (by omega) ⟨0, List.mem_singleton.2 rfl, rfl⟩
    have hA2 := asc_put h (by decide) hA (by omega) (key := (k : Int)) (by omega) (by omega) hmax hI
    rw [hput] at hI hA2
    have hl1 := put_log M root (k : Int) 0
    have hl2 := swap_log (M.put root (k : Int) 0).1 root (M.put root (k : Int) 0).2.1
    obtain ⟨M', root', e3, hI', hA', hl⟩ := seq_build n (k + 1) hI hA2 (by omega)
    rw [show k + 1 + n = k + (n + 1) by omega] at e3 hI' hA'
    refine ⟨M', root', ?_, hI', hA', by rw [hl2] at hl; omega⟩
    have hd : (seqE (k + (n + 1))).drop k = ((k : Int), 0) :: (seqE (k + (n + 1))).drop (k + 1) := by
      have hlt : k < (seqE (k + (n + 1))).length := by rw [seqE_len]; omega
      rw [List.drop_eq_getElem_cons hlt]
      congr 1
      simp only [seqE, List.getElem_map, List.getElem_range]
    rw [hd, build_cons]
    dsimp only
    rw [if_pos e1, if_pos e2, e3]
theorem build_64 : ∃ M root, SM.build (seqE 64) (madeM 196 9) (-1) = (M, root, 0) ∧ OneTree Clean 196 [0] M root (seqE 64) 64 ∧ DenseAt M root (seqE 64) ∧ M.log.length ≤ 2000 := by
  obtain ⟨M, root, e, h, hA, hl⟩ := seq_build 64 0 (one_start (s := 196) (by decide) (by decide)) (.inl ⟨rfl, rfl, rfl⟩) (by decide)
  rw [Nat.zero_add] at e h hA
  refine ⟨M, root, e, h, asc_dense hA, ?_⟩
  have : (madeM 196 9).log.length = 1 := rfl
  omega
/-- What holds behind the build, and each cut. -/
structure DenseSt (w1 : World) (pb sb : Nat) (root : Int) (A : SA) (M : SM) (l : List (Int × Int)) (wr : World) : Prop where
  own : OwnStore w1 A M wr
  pv : PrunerVar wr A pb sb
  one : OneTree Clean 196 [0] M root l 64
  dense : DenseAt M root l
theorem dense_trim {M : SM} {root : Int} {l : List (Int × Int)} (h : OneTree Clean 196 [0] M root l 64) (hD : DenseAt M root l) {key : Int} (k0 : 0 ≤ key) (k1 : key < 64) :
    (SM.trim [key] M root).2.2 = 0 ∧ ∃ l', OneTree Clean 196 [0] (SM.trim [key] M root).1 (SM.trim [key] M root).2.1 l' 64 ∧ DenseAt (SM.trim [key] M root).1 (SM.trim [key] M root).2.1 l' := by
  rw [trim_cons]
  rcases one_cut h clean_besides (by decide) (by decide) (by decide) k0 k1 with ⟨e, _, _⟩ | ⟨e1, e2, _, _, e3, e4⟩
  · rw [e]
    exact ⟨rfl, l, h, hD⟩
  · have hd := dense_cut h (by decide) (by decide) hD k0 k1 e2 e4
    rw [if_pos e1, if_pos e2, if_pos e3]
    exact ⟨rfl, _, e4, hd⟩

end Go.Proofs.YthmjcbmeiabbgaaGreat.pruneDense
/-
  PruneCuts: the walk.
-/
namespace Go.Proofs.YthmjcbmeiabbgaaGreat.pruneCuts
open Go.RowKit
open pruneDense (PrunerVar one_start)
set_option maxRecDepth 100000

/-- Acts that came in. -/
def ActsIn (w : World) (v : Value) (l : List (Int × Int)) : Prop := ∃ A cap, v = .slice A l.length cap ∧ l.length ≤ cap ∧ cap ≤ maxLen ∧
    ∀ i x, l[i]? = some x → ∃ b off, A = some ⟨b, off, none⟩ ∧ b < w.heap.size ∧ w.cell? ⟨b, off + i * 2, none⟩ = some (.int .i64 x.1) ∧ w.cell? ⟨b, off + i * 2 + 1, none⟩ = some (.int .i64 x.2)
/-- What holds behind each act. -/
structure CutSt (w1 : World) (pb sb : Nat) (root : Int) (A : SA) (M : SM) (W : List (Int × Int)) (wv : Value) (k : Nat) (wr : World) : Prop where
  own : OwnStore w1 A M wr
  pv : PrunerVar wr A pb sb
  one : OneTree Clean 196 [0] M root W k
  out : OutAt wr A w1.heap.size wv W
  log : M.log.length ≤ 2000 + 50 * k
section
variable {w1 wr w' : World} {pb sb : Nat} {root : Int} {A A' : SA} {M M' : SM} {W : List (Int × Int)} {wv : Value} {k : Nat}
theorem CutSt.fresh (h : CutSt w1 pb sb root A M W wv k wr) (q : Kept (fun _ => False) wr w') : CutSt w1 pb sb root A M W wv k w' := ⟨h.own.fresh q, h.pv.fresh q, h.one, h.out.fresh q, h.log⟩
end
theorem cut_less : ∀ {l : List (Int × Int)} {y : Int × Int} {key : Int}, y ∈ l → y.1 = key → (cutL l key).length < l.length
  | z :: l, y, key, hy, he => by
    unfold cutL
    by_cases hz : z.1 = key
    · rw [List.filter_cons_of_neg (by simp [hz]), List.length_cons]
      exact Nat.lt_succ_of_le (List.length_filter_le _ _)
    · rw [List.filter_cons_of_pos (by simp [hz]), List.length_cons, List.length_cons]
      have hy' : y ∈ l := by
        rcases List.mem_cons.1 hy with e | e
        · exact absurd (e ▸ he) hz
        · exact e
      exact Nat.succ_lt_succ (cut_less hy' he)
theorem OneTree.more {K : SM → Prop} {s : Nat} {bl : List Nat} {M : SM} {root : Int} {l : List (Int × Int)} {P : Nat} (h : OneTree K s bl M root l P) : OneTree K s bl M root l (P + 1) :=
  ⟨h.exact, h.size, h.kk, h.data, h.keys, h.root.imp id fun ⟨k, t, j⟩ => ⟨k, t, Led.weak j (Nat.le_succ _)⟩, h.loose⟩

set_option maxHeartbeats 8000000 in
theorem walkIn {w : World} (va : Value) (l : List (Int × Int)) (hl : ActsIn w va l) : Calls Tryz.prog 5 #[va] w fun e w' => e = .returned (.bool true) ∧ Kept (fun _ => False) w w' := by
  obtain ⟨Aa, ca, rfl, hc1, hc2, hget⟩ := hl
  unfold maxLen at hc2
  have hget' := Lib.hid hget
  clear hget
  by_cases hlong : 120 < l.length
  · have hb : decide ((120 : Int) < (l.length : Int)) = true := by rw [decide_eq_true_eq]; omega
    clear hlong
    go_enter Tryz.func5, Tryz.ntmps5
    go_wp2_with fail
    refine (alive11 _).mono ?_
    rintro e w1 ⟨rfl, k1⟩
    have k1' := Lib.hid k1
    clear k1
    go_wp2_with fail
    go_ret
    exact ⟨rfl, k1'.out⟩
  have hshort : l.length ≤ 120 := by omega
  have hb : decide ((120 : Int) < (l.length : Int)) = false := by rw [decide_eq_false_iff_not]; omega
  have hm := fun w => made11 200 (by decide) (by decide) w
  rw [show (min (200 : Int) 244 - 4).toNat = 196 from by decide] at hm
  have hm' := Lib.hid hm
  clear hm hlong
  go_enter Tryz.func5, Tryz.ntmps5
  go_wp2_with fail
  refine (alive11 _).mono ?_
  rintro e w1 ⟨rfl, k1⟩
  have k1' := Lib.hid k1
  clear k1
  go_wp2_with fail
  refine (hm'.out _).mono ?_
  rintro e w2 ⟨A, rfl, hA, hk, hn⟩
  have O2 : OwnStore w1 A (madeM 196 9) w2 := ⟨hA, hk, hn⟩
  obtain ⟨sb, hsb⟩ : ∃ sb, A.sb = sb := ⟨_, rfl⟩
  obtain ⟨pb, hpb⟩ : ∃ pb, w2.heap.size = pb := ⟨_, rfl⟩
  obtain ⟨w3, hw3⟩ : ∃ w3, (w2.alloc (.cells #[.pointer none] 52)).setRow pb #[.pointer (some ⟨sb, 0, none⟩)] = w3 := ⟨_, rfl⟩
  have k3 : Kept (fun _ => False) w2 w3 := by rw [← hw3]; exact ((Kept.refl _ _).alloc _).setRowNew (by omega) _
  have q3 : w3.heap[pb]? = some (.cells #[.pointer (some ⟨sb, 0, none⟩)] 52 (0, 0)) := by rw [← hw3, ← hpb]; exact setRow_heap _ _ _ _ _ _ (heap_alloc_new _ _)
  have O3 := Lib.hid (O2.fresh k3)
  have V3 : Hid (PrunerVar w3 A pb sb) := Lib.hid ⟨q3, Safe.new hA (by omega) (lt_of_heap q3), hsb⟩
  have hw3' := Lib.hid hw3
  have hpb' := Lib.hid hpb
  rw [hsb]
  clear hA hk hn O2 k3 q3 hw3 hpb hsb
  go_wp2_with (first | (refine wpList_alloc_as 52 rfl rfl #[.pointer none] pruner_zero ?_; rw [hpb'.out]) | (refine wpList_store_whole 52 rfl rfl rfl [.pointer (some ⟨sb, 0, none⟩)] rfl (by kernel_rfl) 52 #[.pointer none] (by rw [← hpb'.out]; exact heap_alloc_new _ _) rfl (by intro c hc; simp at hc; subst hc; rfl) ?_; rw [hw3'.out]))
  have I4 : Hid (∃ A M W, CutSt w1 pb sb (-1) A M W (.slice (some ⟨w3.heap.size, 0, none⟩) 0 0) 0 (w3.alloc (.cells #[] 33))) := Lib.hid ⟨A, madeM 196 9, [], by
    have kq : Kept (fun _ => False) w3 (w3.alloc (.cells #[] 33)) := (Kept.refl _ _).alloc _
    exact ⟨O3.out.fresh kq, V3.out.fresh kq, one_start (by decide) (by decide), ⟨owns_empty w3 w1.heap.size w3.heap.size 33 2 O3.out.kept.size rfl, fun b hb => by
      simp [Value.ownBlock] at hb
      subst hb
      exact fun e => Nat.lt_irrefl _ (O3.out.store.lt (.inl e))⟩, by show 1 ≤ 2000 + 50 * 0; omega⟩⟩
  go_loopw [6, 7, 38] (fun r v i wr => ∃ (k : Nat) (root : Int), k ≤ l.length ∧ i = .int .i64 k ∧ r = .int .i64 root ∧ Hid (∃ A M W, CutSt w1 pb sb root A M W v k wr)) (fun _ _ i _ => l.length - (intOf i).toNat)
  case atStart => exact ⟨0, -1, Nat.zero_le _, rfl, rfl, I4⟩
  case round =>
    obtain ⟨k, root, hk, rfl, rfl, hI⟩ := hrel
    by_cases hlt : k < l.length
    · obtain ⟨x, hx⟩ : ∃ x, l[k]? = some x := ⟨_, List.getElem?_eq_getElem hlt⟩
      obtain ⟨eb, eo, rfl, heb, hx0, hx1⟩ := hget'.out k x hx
      obtain ⟨A, M, W, St⟩ := hI.out
      obtain ⟨Aw, cw, rfl, hw1, hw2⟩ := St.out.ents.at_.form
      unfold maxLen at hw2
      have kw := k1'.out.trans St.own.kept
      have hki : (k : Int) < (l.length : Int) := by omega
      have hlo : Hid (∀ i v, [Value.int .i64 x.1, .int .i64 x.2][i]? = some v → wr.cell? ⟨eb, eo + k * 2 + i, none⟩ = some v) := Lib.hid (fun i v hi => by
        match i, hi with
        | 0, hi => cases hi; exact kw.cell hx0 id
        | 1, hi => cases hi; exact kw.cell hx1 id)
      obtain ⟨xb, hxb⟩ : ∃ xb, wr.heap.size = xb := ⟨_, rfl⟩
      obtain ⟨wx, hwx⟩ : ∃ wx, (wr.alloc (.cells #[.int .i64 0, .int .i64 0] 56)).setRow xb #[.int .i64 x.1, .int .i64 x.2] = wx := ⟨_, rfl⟩
      have kx : Kept (fun _ => False) wr wx := by rw [← hwx]; exact ((Kept.refl _ _).alloc _).setRowNew (by omega) _
      have qx : wx.heap[xb]? = some (.cells #[.int .i64 x.1, .int .i64 x.2] 56 (0, 0)) := by rw [← hwx, ← hxb]; exact setRow_heap _ _ _ _ _ _ (heap_alloc_new _ _)
      have qx' := Lib.hid qx
      have cx0 : wx.cell? ⟨xb, 0, none⟩ = some (.int .i64 x.1) := by rw [cell_of_heap qx]; rfl
      have cx1 : wx.cell? ⟨xb, 1, none⟩ = some (.int .i64 x.2) := by rw [cell_of_heap qx]; rfl
      have Sx := Lib.hid (St.fresh kx)
      have hsx : Hid (Safe wx A xb) := Lib.hid (Safe.new St.own.store (by omega) (lt_of_heap qx))
      have hxb' := Lib.hid hxb
      have hwx' := Lib.hid hwx
      have hW64 : Hid (W.length ≤ 64) := Lib.hid St.one.len
      have Ox := Lib.hid Sx.out.own
      have Px := Lib.hid Sx.out.pv
      have Ux := Lib.hid Sx.out.out
      have Nx := Lib.hid Sx.out.one
      have keep : Hid (∀ A' M' W' V wz, OwnStore w1 A' M' wz → PrunerVar wz A' pb sb → OutAt wz A' w1.heap.size V W' → M' = M ∧ W' = W → ∃ A M W, CutSt w1 pb sb root A M W V (k + 1) wz) := Lib.hid (fun A' M' W' V wz o p u e => by obtain ⟨rfl, rfl⟩ := e; exact ⟨A', M', W', o, p, OneTree.more Nx.out, u, by have := Sx.out.log; omega⟩)
      clear hx hx0 hx1 kw kx qx hxb hwx St hI
      by_cases hk0 : x.1 = 0
      · have hx0e : (x.1 == 0) = true := by simp [hk0]
        have hP := treePut Ox.out.store root x.2 0 (by have := Sx.out.log; omega)
        rw [Px.out.eq] at hP
        have hldx := Lib.hid Px.out.load
        clear hk0
        by_cases hr : x.2 < 0 ∨ 63 < x.2
        · rw [put_bad M root 0 hr] at hP
          dsimp only at hP
          have hP' := Lib.hid hP
          have hr' := Lib.hid hr
          clear hP hr
          go_wp2_with (first | (refine wpList_load_agg 56 rfl rfl rfl _ Tryz.underlying56 rfl [.int .i64 x.1, .int .i64 x.2] (by kernel_rfl) hlo.out ?_) | (refine wpList_alloc_as 56 rfl rfl #[.int .i64 0, .int .i64 0] (by kernel_rfl) ?_; rw [hxb'.out]) | (refine wpList_store_whole 56 rfl rfl rfl [.int .i64 x.1, .int .i64 x.2] rfl (by kernel_rfl) 56 #[.int .i64 0, .int .i64 0] (by rw [← hxb'.out]; exact heap_alloc_new _ _) rfl (by intro c hc; simp at hc; rcases hc with rfl | rfl <;> rfl) ?_; rw [hwx'.out]) | (refine wpList_load_agg 26 rfl rfl rfl _ Tryz.underlying26 rfl [.pointer (some ⟨sb, 0, none⟩)] (by kernel_rfl) hldx.out ?_))
          refine hP'.out.mono ?_
          rintro e wp ⟨A1, rfl, hT⟩
          have cp1 := cell_of_heap (hT.get qx'.out hsx.out) 1
          simp at cp1
          have O1 := Lib.hid (Ox.out.to hT)
          have P1 := Lib.hid (Px.out.to hT)
          have U1 := Lib.hid (Ux.out.to hT)
          clear hT
          go_wp2_with fail
          refine (refPutBad10 (x.2, 0) hr'.out).mono ?_
          rintro e wq ⟨rfl, hkq⟩
          have O2 := Lib.hid (O1.out.fresh hkq)
          have P2 := Lib.hid (P1.out.fresh hkq)
          have U2 := Lib.hid (U1.out.fresh hkq)
          clear hkq
          have hL := treeList O2.out.store root
          rw [Nx.out.list (by omega), P2.out.eq] at hL
          dsimp only at hL
          have hL' := Lib.hid hL
          have hldL := Lib.hid P2.out.load
          clear hL
          go_wp2_with (first | (refine wpList_load_agg 26 rfl rfl rfl _ Tryz.underlying26 rfl [.pointer (some ⟨sb, 0, none⟩)] (by kernel_rfl) hldL.out ?_))
          refine hL'.out.mono ?_
          rintro e wl ⟨vl, rfl, hownl, hkl⟩
          obtain ⟨Al, cl, rfl, hl1, hl2⟩ := EntsAt.form (show EntsAt wl vl W from SliceAt.of_owns hownl)
          unfold maxLen at hl2
          have OL := Lib.hid (O2.out.fresh hkl)
          have PL := Lib.hid (P2.out.fresh hkl)
          have UL := Lib.hid (U2.out.fresh hkl)
          have hS := same10 (show EntsAt wl (.slice Al W.length cl) W from SliceAt.of_owns hownl) UL.out.ents.at_ (by have := hW64.out; omega)
          rw [decide_eq_true (rfl : W = W)] at hS
          have hS' := Lib.hid hS
          have hkl' := Lib.hid hkl
          clear hS hownl hkl
          go_wp2_with fail
          refine hS'.out.mono ?_
          rintro e wm ⟨rfl, hkm⟩
          have hkm' := Lib.hid hkm
          clear hkm
          go_wp2_with fail
          go_roundw
          case rel => exact ⟨k + 1, root, by omega, by go_num, rfl, Lib.hid (keep.out _ _ _ _ _ (OL.out.fresh hkm'.out) (PL.out.fresh hkm'.out) (UL.out.fresh hkm'.out) ⟨rfl, rfl⟩)⟩
          case measure => simp [intOf]; omega
        · obtain ⟨p1, p2, p3, p4⟩ := one_put Nx.out clean_besides (by omega) (by decide) (by decide) (key := x.2) (page := 0) (by omega) (by omega) ⟨0, List.mem_singleton.2 rfl, rfl⟩
          have hlg := put_log M root x.2 0
          obtain ⟨R, hR⟩ : ∃ R, M.put root x.2 0 = R := ⟨_, rfl⟩
          rw [hR] at hP p1 p2 p3 p4 hlg
          obtain ⟨M1, next, er⟩ := R
          dsimp only at hP p1 p2 p3 p4 hlg
          subst p1
          have hlog1 : Hid (M1.log.length ≤ 2000 + 50 * k + 22) := Lib.hid (by have := Sx.out.log; omega)
          have hkey : Hid (0 ≤ x.2 ∧ x.2 ≤ 63) := Lib.hid (by omega)
          have hP' := Lib.hid hP
          have hsw0 := Lib.hid p2
          have hlist1 := Lib.hid p4
          have hrise := Lib.hid Nx.out.keys.1
          obtain ⟨W2, hW2e⟩ : ∃ W2, putL W (x.2, 0) = W2 := ⟨_, rfl⟩
          rw [hW2e] at p3
          have one' := Lib.hid p3
          have hW2e' := Lib.hid hW2e
          clear hP hR p2 p3 p4 hlg hr hW2e
          go_wp2_with (first | (refine wpList_load_agg 56 rfl rfl rfl _ Tryz.underlying56 rfl [.int .i64 x.1, .int .i64 x.2] (by kernel_rfl) hlo.out ?_) | (refine wpList_alloc_as 56 rfl rfl #[.int .i64 0, .int .i64 0] (by kernel_rfl) ?_; rw [hxb'.out]) | (refine wpList_store_whole 56 rfl rfl rfl [.int .i64 x.1, .int .i64 x.2] rfl (by kernel_rfl) 56 #[.int .i64 0, .int .i64 0] (by rw [← hxb'.out]; exact heap_alloc_new _ _) rfl (by intro c hc; simp at hc; rcases hc with rfl | rfl <;> rfl) ?_; rw [hwx'.out]) | (refine wpList_load_agg 26 rfl rfl rfl _ Tryz.underlying26 rfl [.pointer (some ⟨sb, 0, none⟩)] (by kernel_rfl) hldx.out ?_))
          refine hP'.out.mono ?_
          rintro e wp ⟨A1, rfl, hT⟩
          have cp1 := cell_of_heap (hT.get qx'.out hsx.out) 1
          simp at cp1
          have O1 := Lib.hid (Ox.out.to hT)
          have P1 := Lib.hid (Px.out.to hT)
          have U1 := Lib.hid (Ux.out.to hT)
          have hRf := refPut10 U1.out.ents.at_ (by have := hW64.out; omega) (x.2, 0) hkey.out
          rw [refPut_eq hrise.out, hW2e'.out] at hRf
          have hRf' := Lib.hid hRf
          clear hT hRf
          go_wp2_with fail
          refine hRf'.out.mono ?_
          rintro e wq ⟨v, rfl, hownq, hkq⟩
          obtain ⟨Av, cv, rfl, hv1, hv2⟩ := EntsAt.form (show EntsAt wq v W2 from SliceAt.of_owns hownq)
          unfold maxLen at hv2
          have O2 := Lib.hid (O1.out.fresh hkq)
          have P2 := Lib.hid (P1.out.fresh hkq)
          have U2 := Lib.hid (U1.out.fresh hkq)
          have V2 : Hid (OutAt wq A1 w1.heap.size (.slice Av W2.length cv) W2) := Lib.hid ⟨owns_le' hownq O1.out.kept.size, fun b hb e => absurd (O1.out.store.lt (.inl e)) (Nat.not_lt.2 (hownq.lt b hb).1)⟩
          have cq1 := hkq.cell cp1 id
          clear hownq hkq
          have hL := treeList O2.out.store root
          rw [hlist1.out, P2.out.eq] at hL
          dsimp only at hL
          have hL' := Lib.hid hL
          have hldL := Lib.hid P2.out.load
          clear hL
          go_wp2_with (first | (refine wpList_load_agg 26 rfl rfl rfl _ Tryz.underlying26 rfl [.pointer (some ⟨sb, 0, none⟩)] (by kernel_rfl) hldL.out ?_))
          refine hL'.out.mono ?_
          rintro e wl ⟨vl, rfl, hownl, hkl⟩
          obtain ⟨Al, cl, rfl, hl1, hl2⟩ := EntsAt.form (show EntsAt wl vl W from SliceAt.of_owns hownl)
          unfold maxLen at hl2
          have OL := Lib.hid (O2.out.fresh hkl)
          have PL := Lib.hid (P2.out.fresh hkl)
          have UL := Lib.hid (U2.out.fresh hkl)
          have hS := same10 (show EntsAt wl (.slice Al W.length cl) W from SliceAt.of_owns hownl) UL.out.ents.at_ (by have := hW64.out; omega)
          rw [decide_eq_true (rfl : W = W)] at hS
          have hS' := Lib.hid hS
          have hkl' := Lib.hid hkl
          clear hS hownl hkl
          have VL := Lib.hid (V2.out.fresh (show Kept (fun _ => False) wq wl from hkl'.out))
          go_wp2_with fail
          refine hS'.out.mono ?_
          rintro e wm ⟨rfl, hkm⟩
          have hkm' := Lib.hid hkm
          have hSw := treeSwap (OL.out.store.fresh hkm) root next
          rw [PL.out.eq, hsw0.out] at hSw
          have hSw' := Lib.hid hSw
          have hld8 := Lib.hid (PL.out.fresh hkm).load
          clear hSw hkm
          go_wp2_with (first | (refine wpList_load_agg 26 rfl rfl rfl _ Tryz.underlying26 rfl [.pointer (some ⟨sb, 0, none⟩)] (by kernel_rfl) hld8.out ?_))
          refine hSw'.out.mono ?_
          rintro e w8 ⟨rfl, hT8⟩
          have O8 := Lib.hid ((OL.out.fresh hkm'.out).to hT8)
          have P8 := Lib.hid ((PL.out.fresh hkm'.out).to hT8)
          have V8 := Lib.hid ((VL.out.fresh hkm'.out).to hT8)
          have hM2log : Hid ((M1.swap root next).1.log.length ≤ 2000 + 50 * (k + 1)) := Lib.hid (by rw [swap_log]; have h1 := hlog1.out; omega)
          obtain ⟨M2, hM2⟩ : ∃ M2, (M1.swap root next).1 = M2 := ⟨_, rfl⟩
          rw [hM2] at O8 one' hM2log
          have hL2 := treeList O8.out.store next
          rw [one'.out.list (by omega), P8.out.eq] at hL2
          dsimp only at hL2
          have hL2' := Lib.hid hL2
          have hld9 := Lib.hid P8.out.load
          obtain ⟨hh, hhe, hh5, _⟩ := one'.out.height (by omega)
          have hW2 := one'.out.len
          clear hL2 hT8 hM2 hSw'
          go_wp2_with (first | (refine wpList_load_agg 26 rfl rfl rfl _ Tryz.underlying26 rfl [.pointer (some ⟨sb, 0, none⟩)] (by kernel_rfl) hld9.out ?_))
          refine hL2'.out.mono ?_
          rintro e w9 ⟨v9, rfl, hown9, hk9⟩
          obtain ⟨A9, c9, rfl, h91, h92⟩ := EntsAt.form (show EntsAt w9 v9 W2 from SliceAt.of_owns hown9)
          unfold maxLen at h92
          have O9 := Lib.hid (O8.out.fresh hk9)
          have P9 := Lib.hid (P8.out.fresh hk9)
          have V9 := Lib.hid (V8.out.fresh hk9)
          have hH := treeHeight O9.out.store next
          rw [hhe, P9.out.eq] at hH
          dsimp only at hH
          have hH' := Lib.hid hH
          have hld10 := Lib.hid P9.out.load
          have hown9' := Lib.hid hown9
          clear hH hown9 hk9 hhe
          go_wp2_with (first | (refine wpList_load_agg 26 rfl rfl rfl _ Tryz.underlying26 rfl [.pointer (some ⟨sb, 0, none⟩)] (by kernel_rfl) hld10.out ?_))
          refine hH'.out.mono ?_
          rintro e w10 ⟨rfl, hk10⟩
          have hS := same10 (show EntsAt w10 (.slice A9 W2.length c9) W2 from SliceAt.of_owns (ownsRow.keptOf hown9'.out hk10 (fun _ _ => id))) (V9.out.fresh hk10).ents.at_ (by omega)
          rw [decide_eq_true (rfl : W2 = W2)] at hS
          have hS2 := Lib.hid hS
          have h10' := Lib.hid hk10
          have hgt : decide ((8 : Int) < (hh : Int)) = false := by rw [decide_eq_false_iff_not]; omega
          obtain ⟨bb, hbb⟩ : ∃ bb, (next == (-1 : Int)) = bb := ⟨_, rfl⟩
          have hbl : (((W2.length : Nat) : Int) == 0) = bb := by rw [← hbb, Bool.eq_iff_iff]; simp only [beq_iff_eq]; rw [one'.out.none]; constructor <;> intro e; (have e' : W2.length = 0 := by omega); exact List.length_eq_zero_iff.1 e'; rw [e]; rfl
          have hbb' := Lib.hid hbb
          clear hS hk10
          go_wp2_with fail
          refine hS2.out.mono ?_
          rintro e w11 ⟨rfl, hk11⟩
          have fin : Hid (∃ A M W, CutSt w1 pb sb next A M W (.slice Av W2.length cv) (k + 1) w11) := Lib.hid ⟨A1, M2, W2, (O9.out.fresh h10'.out).fresh hk11, (P9.out.fresh h10'.out).fresh hk11, one'.out, (V9.out.fresh h10'.out).fresh hk11, hM2log.out⟩
          clear hk11
          go_wp2_with fail
          go_roundw
          case rel => exact ⟨k + 1, next, by omega, by go_num, rfl, fin⟩
          case measure => simp [intOf]; omega
      by_cases hk1 : x.1 = 1
      · have hb0 : (x.1 == 0) = false := by simp [hk0]
        have hx1e : (x.1 == 1) = true := by simp [hk1]
        have hP := pruneCut Ox.out.store root x.2 (by have := Sx.out.log; omega)
        rw [Px.out.eq] at hP
        have hldx := Lib.hid Px.out.load
        have hcl := hW64.out
        clear hk0 hk1
        by_cases hr : x.2 < 0 ∨ 63 < x.2
        · rw [cut_bad M root hr] at hP
          dsimp only at hP
          have hW2e' : Hid (cutL W x.2 = W) := Lib.hid (Nx.out.out hr)
          have hP' := Lib.hid hP
          have hor : (decide (x.2 < 0) = true) ∨ (decide (x.2 < 0) = false ∧ decide (63 < x.2) = true) := by simp only [decide_eq_true_eq, decide_eq_false_iff_not]; omega
          clear hP hr
          rcases hor with hd0 | ⟨hd0, hd1⟩
          · go_wp2_with (first | (refine wpList_load_agg 56 rfl rfl rfl _ Tryz.underlying56 rfl [.int .i64 x.1, .int .i64 x.2] (by kernel_rfl) hlo.out ?_) | (refine wpList_alloc_as 56 rfl rfl #[.int .i64 0, .int .i64 0] (by kernel_rfl) ?_; rw [hxb'.out]) | (refine wpList_store_whole 56 rfl rfl rfl [.int .i64 x.1, .int .i64 x.2] rfl (by kernel_rfl) 56 #[.int .i64 0, .int .i64 0] (by rw [← hxb'.out]; exact heap_alloc_new _ _) rfl (by intro c hc; simp at hc; rcases hc with rfl | rfl <;> rfl) ?_; rw [hwx'.out]) | (refine wpList_load_agg 52 rfl rfl rfl _ Tryz.underlying52 rfl [.pointer (some ⟨sb, 0, none⟩)] (by kernel_rfl) hldx.out ?_))
            refine hP'.out.mono ?_
            rintro e wp ⟨A1, rfl, hT⟩
            have cp1 := cell_of_heap (hT.get qx'.out hsx.out) 1
            simp at cp1
            have O1 := Lib.hid (Ox.out.to hT)
            have P1 := Lib.hid (Px.out.to hT)
            have U1 := Lib.hid (Ux.out.to hT)
            have hRf := refCut10 U1.out.ents.at_ (by have := hW64.out; omega) x.2
            rw [hW2e'.out] at hRf
            rw [decide_eq_false (Nat.lt_irrefl _)] at hRf
            have hRf' := Lib.hid hRf
            clear hT hRf
            go_wp2_with fail
            refine hRf'.out.mono ?_
            rintro e wq ⟨v, rfl, hownq, hkq⟩
            obtain ⟨Av, cv, rfl, hv1, hv2⟩ := EntsAt.form (show EntsAt wq v W from SliceAt.of_owns hownq)
            unfold maxLen at hv2
            have O2 := Lib.hid (O1.out.fresh hkq)
            have P2 := Lib.hid (P1.out.fresh hkq)
            have U2 := Lib.hid (U1.out.fresh hkq)
            have cq1 := hkq.cell cp1 id
            clear hownq hkq
            have hL := treeList O2.out.store root
            rw [Nx.out.list (by omega), P2.out.eq] at hL
            dsimp only at hL
            have hL' := Lib.hid hL
            have hldL := Lib.hid P2.out.load
            clear hL
            go_wp2_with (first | (refine wpList_load_agg 26 rfl rfl rfl _ Tryz.underlying26 rfl [.pointer (some ⟨sb, 0, none⟩)] (by kernel_rfl) hldL.out ?_))
            refine hL'.out.mono ?_
            rintro e wl ⟨vl, rfl, hownl, hkl⟩
            obtain ⟨Al, cl, rfl, hl1, hl2⟩ := EntsAt.form (show EntsAt wl vl W from SliceAt.of_owns hownl)
            unfold maxLen at hl2
            have OL := Lib.hid (O2.out.fresh hkl)
            have PL := Lib.hid (P2.out.fresh hkl)
            have UL := Lib.hid (U2.out.fresh hkl)
            have hS := same10 (show EntsAt wl (.slice Al W.length cl) W from SliceAt.of_owns hownl) UL.out.ents.at_ (by have := hW64.out; omega)
            rw [decide_eq_true (rfl : W = W)] at hS
            have hS' := Lib.hid hS
            have hkl' := Lib.hid hkl
            clear hS hownl hkl
            go_wp2_with fail
            refine hS'.out.mono ?_
            rintro e wm ⟨rfl, hkm⟩
            have hkm' := Lib.hid hkm
            clear hkm
            go_wp2_with fail
            go_roundw
            case rel => exact ⟨k + 1, root, by omega, by go_num, rfl, Lib.hid (keep.out _ _ _ _ _ (OL.out.fresh hkm'.out) (PL.out.fresh hkm'.out) (UL.out.fresh hkm'.out) ⟨rfl, rfl⟩)⟩
            case measure => simp [intOf]; omega
          · go_wp2_with (first | (refine wpList_load_agg 56 rfl rfl rfl _ Tryz.underlying56 rfl [.int .i64 x.1, .int .i64 x.2] (by kernel_rfl) hlo.out ?_) | (refine wpList_alloc_as 56 rfl rfl #[.int .i64 0, .int .i64 0] (by kernel_rfl) ?_; rw [hxb'.out]) | (refine wpList_store_whole 56 rfl rfl rfl [.int .i64 x.1, .int .i64 x.2] rfl (by kernel_rfl) 56 #[.int .i64 0, .int .i64 0] (by rw [← hxb'.out]; exact heap_alloc_new _ _) rfl (by intro c hc; simp at hc; rcases hc with rfl | rfl <;> rfl) ?_; rw [hwx'.out]) | (refine wpList_load_agg 52 rfl rfl rfl _ Tryz.underlying52 rfl [.pointer (some ⟨sb, 0, none⟩)] (by kernel_rfl) hldx.out ?_))
            refine hP'.out.mono ?_
            rintro e wp ⟨A1, rfl, hT⟩
            have cp1 := cell_of_heap (hT.get qx'.out hsx.out) 1
            simp at cp1
            have O1 := Lib.hid (Ox.out.to hT)
            have P1 := Lib.hid (Px.out.to hT)
            have U1 := Lib.hid (Ux.out.to hT)
            have hRf := refCut10 U1.out.ents.at_ (by have := hW64.out; omega) x.2
            rw [hW2e'.out] at hRf
            rw [decide_eq_false (Nat.lt_irrefl _)] at hRf
            have hRf' := Lib.hid hRf
            clear hT hRf
            go_wp2_with fail
            refine hRf'.out.mono ?_
            rintro e wq ⟨v, rfl, hownq, hkq⟩
            obtain ⟨Av, cv, rfl, hv1, hv2⟩ := EntsAt.form (show EntsAt wq v W from SliceAt.of_owns hownq)
            unfold maxLen at hv2
            have O2 := Lib.hid (O1.out.fresh hkq)
            have P2 := Lib.hid (P1.out.fresh hkq)
            have U2 := Lib.hid (U1.out.fresh hkq)
            have cq1 := hkq.cell cp1 id
            clear hownq hkq
            have hL := treeList O2.out.store root
            rw [Nx.out.list (by omega), P2.out.eq] at hL
            dsimp only at hL
            have hL' := Lib.hid hL
            have hldL := Lib.hid P2.out.load
            clear hL
            go_wp2_with (first | (refine wpList_load_agg 26 rfl rfl rfl _ Tryz.underlying26 rfl [.pointer (some ⟨sb, 0, none⟩)] (by kernel_rfl) hldL.out ?_))
            refine hL'.out.mono ?_
            rintro e wl ⟨vl, rfl, hownl, hkl⟩
            obtain ⟨Al, cl, rfl, hl1, hl2⟩ := EntsAt.form (show EntsAt wl vl W from SliceAt.of_owns hownl)
            unfold maxLen at hl2
            have OL := Lib.hid (O2.out.fresh hkl)
            have PL := Lib.hid (P2.out.fresh hkl)
            have UL := Lib.hid (U2.out.fresh hkl)
            have hS := same10 (show EntsAt wl (.slice Al W.length cl) W from SliceAt.of_owns hownl) UL.out.ents.at_ (by have := hW64.out; omega)
            rw [decide_eq_true (rfl : W = W)] at hS
            have hS' := Lib.hid hS
            have hkl' := Lib.hid hkl
            clear hS hownl hkl
            go_wp2_with fail
            refine hS'.out.mono ?_
            rintro e wm ⟨rfl, hkm⟩
            have hkm' := Lib.hid hkm
            clear hkm
            go_wp2_with fail
            go_roundw
            case rel => exact ⟨k + 1, root, by omega, by go_num, rfl, Lib.hid (keep.out _ _ _ _ _ (OL.out.fresh hkm'.out) (PL.out.fresh hkm'.out) (UL.out.fresh hkm'.out) ⟨rfl, rfl⟩)⟩
            case measure => simp [intOf]; omega
        · have hd0 : decide (x.2 < 0) = false := by rw [decide_eq_false_iff_not]; omega
          have hd1 : decide (63 < x.2) = false := by rw [decide_eq_false_iff_not]; omega
          rcases one_cut Nx.out clean_besides (by omega) (by decide) (by decide) (key := x.2) (by omega) (by omega) with ⟨c1, c2, c3⟩ | ⟨p1, p1w, had, p4, p2, p3⟩
          · rw [c1] at hP
            dsimp only at hP
            have hW2e' : Hid (cutL W x.2 = W) := Lib.hid (c2)
            have hP' := Lib.hid hP
            clear hP hr c1 c2 c3
            go_wp2_with (first | (refine wpList_load_agg 56 rfl rfl rfl _ Tryz.underlying56 rfl [.int .i64 x.1, .int .i64 x.2] (by kernel_rfl) hlo.out ?_) | (refine wpList_alloc_as 56 rfl rfl #[.int .i64 0, .int .i64 0] (by kernel_rfl) ?_; rw [hxb'.out]) | (refine wpList_store_whole 56 rfl rfl rfl [.int .i64 x.1, .int .i64 x.2] rfl (by kernel_rfl) 56 #[.int .i64 0, .int .i64 0] (by rw [← hxb'.out]; exact heap_alloc_new _ _) rfl (by intro c hc; simp at hc; rcases hc with rfl | rfl <;> rfl) ?_; rw [hwx'.out]) | (refine wpList_load_agg 52 rfl rfl rfl _ Tryz.underlying52 rfl [.pointer (some ⟨sb, 0, none⟩)] (by kernel_rfl) hldx.out ?_))
            refine hP'.out.mono ?_
            rintro e wp ⟨A1, rfl, hT⟩
            have cp1 := cell_of_heap (hT.get qx'.out hsx.out) 1
            simp at cp1
            have O1 := Lib.hid (Ox.out.to hT)
            have P1 := Lib.hid (Px.out.to hT)
            have U1 := Lib.hid (Ux.out.to hT)
            have hRf := refCut10 U1.out.ents.at_ (by have := hW64.out; omega) x.2
            rw [hW2e'.out] at hRf
            rw [decide_eq_false (Nat.lt_irrefl _)] at hRf
            have hRf' := Lib.hid hRf
            clear hT hRf
            go_wp2_with fail
            refine hRf'.out.mono ?_
            rintro e wq ⟨v, rfl, hownq, hkq⟩
            obtain ⟨Av, cv, rfl, hv1, hv2⟩ := EntsAt.form (show EntsAt wq v W from SliceAt.of_owns hownq)
            unfold maxLen at hv2
            have O2 := Lib.hid (O1.out.fresh hkq)
            have P2 := Lib.hid (P1.out.fresh hkq)
            have U2 := Lib.hid (U1.out.fresh hkq)
            have cq1 := hkq.cell cp1 id
            clear hownq hkq
            have hL := treeList O2.out.store root
            rw [Nx.out.list (by omega), P2.out.eq] at hL
            dsimp only at hL
            have hL' := Lib.hid hL
            have hldL := Lib.hid P2.out.load
            clear hL
            go_wp2_with (first | (refine wpList_load_agg 26 rfl rfl rfl _ Tryz.underlying26 rfl [.pointer (some ⟨sb, 0, none⟩)] (by kernel_rfl) hldL.out ?_))
            refine hL'.out.mono ?_
            rintro e wl ⟨vl, rfl, hownl, hkl⟩
            obtain ⟨Al, cl, rfl, hl1, hl2⟩ := EntsAt.form (show EntsAt wl vl W from SliceAt.of_owns hownl)
            unfold maxLen at hl2
            have OL := Lib.hid (O2.out.fresh hkl)
            have PL := Lib.hid (P2.out.fresh hkl)
            have UL := Lib.hid (U2.out.fresh hkl)
            have hS := same10 (show EntsAt wl (.slice Al W.length cl) W from SliceAt.of_owns hownl) UL.out.ents.at_ (by have := hW64.out; omega)
            rw [decide_eq_true (rfl : W = W)] at hS
            have hS' := Lib.hid hS
            have hkl' := Lib.hid hkl
            clear hS hownl hkl
            go_wp2_with fail
            refine hS'.out.mono ?_
            rintro e wm ⟨rfl, hkm⟩
            have hkm' := Lib.hid hkm
            clear hkm
            go_wp2_with fail
            go_roundw
            case rel => exact ⟨k + 1, root, by omega, by go_num, rfl, Lib.hid (keep.out _ _ _ _ _ (OL.out.fresh hkm'.out) (PL.out.fresh hkm'.out) (UL.out.fresh hkm'.out) ⟨rfl, rfl⟩)⟩
            case measure => simp [intOf]; omega
          · have hlg := cut_log Ox.out.store root x.2
            obtain ⟨R, hR⟩ : ∃ R, M.cut root x.2 = R := ⟨_, rfl⟩
            rw [hR] at hP p1 p1w p2 p3 p4 hlg
            obtain ⟨M1, next, wb, er⟩ := R
            dsimp only at hP p1 p1w p2 p3 p4 hlg
            subst p1 p1w
            have hlog1 : Hid (M1.log.length ≤ 2000 + 50 * k + 22) := Lib.hid (by have := Sx.out.log; omega)
            have hP' := Lib.hid hP
            have hsw0 := Lib.hid p2
            have hlist1 := Lib.hid p4
            have hless : Hid ((cutL W x.2).length < W.length) := Lib.hid (by obtain ⟨y, hy, hye⟩ := had; exact cut_less hy hye)
            obtain ⟨W2, hW2e⟩ : ∃ W2, cutL W x.2 = W2 := ⟨_, rfl⟩
            rw [hW2e] at p3 hless
            have one' := Lib.hid (OneTree.more p3)
            have hW2e' := Lib.hid hW2e
            clear hP hR p2 p3 p4 hlg hr hW2e had
            go_wp2_with (first | (refine wpList_load_agg 56 rfl rfl rfl _ Tryz.underlying56 rfl [.int .i64 x.1, .int .i64 x.2] (by kernel_rfl) hlo.out ?_) | (refine wpList_alloc_as 56 rfl rfl #[.int .i64 0, .int .i64 0] (by kernel_rfl) ?_; rw [hxb'.out]) | (refine wpList_store_whole 56 rfl rfl rfl [.int .i64 x.1, .int .i64 x.2] rfl (by kernel_rfl) 56 #[.int .i64 0, .int .i64 0] (by rw [← hxb'.out]; exact heap_alloc_new _ _) rfl (by intro c hc; simp at hc; rcases hc with rfl | rfl <;> rfl) ?_; rw [hwx'.out]) | (refine wpList_load_agg 52 rfl rfl rfl _ Tryz.underlying52 rfl [.pointer (some ⟨sb, 0, none⟩)] (by kernel_rfl) hldx.out ?_))
            refine hP'.out.mono ?_
            rintro e wp ⟨A1, rfl, hT⟩
            have cp1 := cell_of_heap (hT.get qx'.out hsx.out) 1
            simp at cp1
            have O1 := Lib.hid (Ox.out.to hT)
            have P1 := Lib.hid (Px.out.to hT)
            have U1 := Lib.hid (Ux.out.to hT)
            have hRf := refCut10 U1.out.ents.at_ (by have := hW64.out; omega) x.2
            rw [hW2e'.out] at hRf
            rw [decide_eq_true hless.out] at hRf
            have hRf' := Lib.hid hRf
            clear hT hRf
            go_wp2_with fail
            refine hRf'.out.mono ?_
            rintro e wq ⟨v, rfl, hownq, hkq⟩
            obtain ⟨Av, cv, rfl, hv1, hv2⟩ := EntsAt.form (show EntsAt wq v W2 from SliceAt.of_owns hownq)
            unfold maxLen at hv2
            have O2 := Lib.hid (O1.out.fresh hkq)
            have P2 := Lib.hid (P1.out.fresh hkq)
            have U2 := Lib.hid (U1.out.fresh hkq)
            have V2 : Hid (OutAt wq A1 w1.heap.size (.slice Av W2.length cv) W2) := Lib.hid ⟨owns_le' hownq O1.out.kept.size, fun b hb e => absurd (O1.out.store.lt (.inl e)) (Nat.not_lt.2 (hownq.lt b hb).1)⟩
            have cq1 := hkq.cell cp1 id
            clear hownq hkq
            have hL := treeList O2.out.store root
            rw [hlist1.out, P2.out.eq] at hL
            dsimp only at hL
            have hL' := Lib.hid hL
            have hldL := Lib.hid P2.out.load
            clear hL
            go_wp2_with (first | (refine wpList_load_agg 26 rfl rfl rfl _ Tryz.underlying26 rfl [.pointer (some ⟨sb, 0, none⟩)] (by kernel_rfl) hldL.out ?_))
            refine hL'.out.mono ?_
            rintro e wl ⟨vl, rfl, hownl, hkl⟩
            obtain ⟨Al, cl, rfl, hl1, hl2⟩ := EntsAt.form (show EntsAt wl vl W from SliceAt.of_owns hownl)
            unfold maxLen at hl2
            have OL := Lib.hid (O2.out.fresh hkl)
            have PL := Lib.hid (P2.out.fresh hkl)
            have UL := Lib.hid (U2.out.fresh hkl)
            have hS := same10 (show EntsAt wl (.slice Al W.length cl) W from SliceAt.of_owns hownl) UL.out.ents.at_ (by have := hW64.out; omega)
            rw [decide_eq_true (rfl : W = W)] at hS
            have hS' := Lib.hid hS
            have hkl' := Lib.hid hkl
            clear hS hownl hkl
            have VL := Lib.hid (V2.out.fresh (show Kept (fun _ => False) wq wl from hkl'.out))
            go_wp2_with fail
            refine hS'.out.mono ?_
            rintro e wm ⟨rfl, hkm⟩
            have hkm' := Lib.hid hkm
            have hSw := treeSwap (OL.out.store.fresh hkm) root next
            rw [PL.out.eq, hsw0.out] at hSw
            have hSw' := Lib.hid hSw
            have hld8 := Lib.hid (PL.out.fresh hkm).load
            clear hSw hkm
            go_wp2_with (first | (refine wpList_load_agg 26 rfl rfl rfl _ Tryz.underlying26 rfl [.pointer (some ⟨sb, 0, none⟩)] (by kernel_rfl) hld8.out ?_))
            refine hSw'.out.mono ?_
            rintro e w8 ⟨rfl, hT8⟩
            have O8 := Lib.hid ((OL.out.fresh hkm'.out).to hT8)
            have P8 := Lib.hid ((PL.out.fresh hkm'.out).to hT8)
            have V8 := Lib.hid ((VL.out.fresh hkm'.out).to hT8)
            have hM2log : Hid ((M1.swap root next).1.log.length ≤ 2000 + 50 * (k + 1)) := Lib.hid (by rw [swap_log]; have h1 := hlog1.out; omega)
            obtain ⟨M2, hM2⟩ : ∃ M2, (M1.swap root next).1 = M2 := ⟨_, rfl⟩
            rw [hM2] at O8 one' hM2log
            have hL2 := treeList O8.out.store next
            rw [one'.out.list (by omega), P8.out.eq] at hL2
            dsimp only at hL2
            have hL2' := Lib.hid hL2
            have hld9 := Lib.hid P8.out.load
            obtain ⟨hh, hhe, hh5, _⟩ := one'.out.height (by omega)
            have hW2 := one'.out.len
            clear hL2 hT8 hM2 hSw'
            go_wp2_with (first | (refine wpList_load_agg 26 rfl rfl rfl _ Tryz.underlying26 rfl [.pointer (some ⟨sb, 0, none⟩)] (by kernel_rfl) hld9.out ?_))
            refine hL2'.out.mono ?_
            rintro e w9 ⟨v9, rfl, hown9, hk9⟩
            obtain ⟨A9, c9, rfl, h91, h92⟩ := EntsAt.form (show EntsAt w9 v9 W2 from SliceAt.of_owns hown9)
            unfold maxLen at h92
            have O9 := Lib.hid (O8.out.fresh hk9)
            have P9 := Lib.hid (P8.out.fresh hk9)
            have V9 := Lib.hid (V8.out.fresh hk9)
            have hH := treeHeight O9.out.store next
            rw [hhe, P9.out.eq] at hH
            dsimp only at hH
            have hH' := Lib.hid hH
            have hld10 := Lib.hid P9.out.load
            have hown9' := Lib.hid hown9
            clear hH hown9 hk9 hhe
            go_wp2_with (first | (refine wpList_load_agg 26 rfl rfl rfl _ Tryz.underlying26 rfl [.pointer (some ⟨sb, 0, none⟩)] (by kernel_rfl) hld10.out ?_))
            refine hH'.out.mono ?_
            rintro e w10 ⟨rfl, hk10⟩
            have hS := same10 (show EntsAt w10 (.slice A9 W2.length c9) W2 from SliceAt.of_owns (ownsRow.keptOf hown9'.out hk10 (fun _ _ => id))) (V9.out.fresh hk10).ents.at_ (by omega)
            rw [decide_eq_true (rfl : W2 = W2)] at hS
            have hS2 := Lib.hid hS
            have h10' := Lib.hid hk10
            have hgt : decide ((8 : Int) < (hh : Int)) = false := by rw [decide_eq_false_iff_not]; omega
            obtain ⟨bb, hbb⟩ : ∃ bb, (next == (-1 : Int)) = bb := ⟨_, rfl⟩
            have hbl : (((W2.length : Nat) : Int) == 0) = bb := by rw [← hbb, Bool.eq_iff_iff]; simp only [beq_iff_eq]; rw [one'.out.none]; constructor <;> intro e; (have e' : W2.length = 0 := by omega); exact List.length_eq_zero_iff.1 e'; rw [e]; rfl
            have hbb' := Lib.hid hbb
            clear hS hk10
            go_wp2_with fail
            refine hS2.out.mono ?_
            rintro e w11 ⟨rfl, hk11⟩
            have fin : Hid (∃ A M W, CutSt w1 pb sb next A M W (.slice Av W2.length cv) (k + 1) w11) := Lib.hid ⟨A1, M2, W2, (O9.out.fresh h10'.out).fresh hk11, (P9.out.fresh h10'.out).fresh hk11, one'.out, (V9.out.fresh h10'.out).fresh hk11, hM2log.out⟩
            clear hk11
            go_wp2_with fail
            go_roundw
            case rel => exact ⟨k + 1, next, by omega, by go_num, rfl, fin⟩
            case measure => simp [intOf]; omega
      have hb0 : (x.1 == 0) = false := by simp [hk0]
      have hb1 : (x.1 == 1) = false := by simp [hk1]
      clear hk0 hk1
      have hL := treeList Ox.out.store root
      rw [Nx.out.list (by omega), Px.out.eq] at hL
      dsimp only at hL
      have hL' := Lib.hid hL
      have hldL := Lib.hid Px.out.load
      clear hL
      go_wp2_with (first | (refine wpList_load_agg 56 rfl rfl rfl _ Tryz.underlying56 rfl [.int .i64 x.1, .int .i64 x.2] (by kernel_rfl) hlo.out ?_) | (refine wpList_alloc_as 56 rfl rfl #[.int .i64 0, .int .i64 0] (by kernel_rfl) ?_; rw [hxb'.out]) | (refine wpList_store_whole 56 rfl rfl rfl [.int .i64 x.1, .int .i64 x.2] rfl (by kernel_rfl) 56 #[.int .i64 0, .int .i64 0] (by rw [← hxb'.out]; exact heap_alloc_new _ _) rfl (by intro c hc; simp at hc; rcases hc with rfl | rfl <;> rfl) ?_; rw [hwx'.out]) | (refine wpList_load_agg 26 rfl rfl rfl _ Tryz.underlying26 rfl [.pointer (some ⟨sb, 0, none⟩)] (by kernel_rfl) hldL.out ?_))
      refine hL'.out.mono ?_
      rintro e wl ⟨vl, rfl, hownl, hkl⟩
      obtain ⟨Al, cl, rfl, hl1, hl2⟩ := EntsAt.form (show EntsAt wl vl W from SliceAt.of_owns hownl)
      unfold maxLen at hl2
      have OL := Lib.hid (Ox.out.fresh hkl)
      have PL := Lib.hid (Px.out.fresh hkl)
      have UL := Lib.hid (Ux.out.fresh hkl)
      have hS := same10 (show EntsAt wl (.slice Al W.length cl) W from SliceAt.of_owns hownl) UL.out.ents.at_ (by have := hW64.out; omega)
      rw [decide_eq_true (rfl : W = W)] at hS
      have hS' := Lib.hid hS
      have hkl' := Lib.hid hkl
      clear hS hownl hkl
      go_wp2_with fail
      refine hS'.out.mono ?_
      rintro e wm ⟨rfl, hkm⟩
      have hkm' := Lib.hid hkm
      clear hkm
      go_wp2_with fail
      go_roundw
      case rel => exact ⟨k + 1, root, by omega, by go_num, rfl, Lib.hid (keep.out _ _ _ _ _ (OL.out.fresh hkm'.out) (PL.out.fresh hkm'.out) (UL.out.fresh hkm'.out) ⟨rfl, rfl⟩)⟩
      case measure => simp [intOf]; omega
    · obtain rfl : k = l.length := by omega
      obtain ⟨A, M, W, St⟩ := hI.out
      obtain ⟨Aw, cw, rfl, hw1, hw2⟩ := St.out.ents.at_.form
      unfold maxLen at hw2
      have hE := exact11 St.one (clean_mild St.one.kk) (by simp) rfl (by have := St.one.range; omega) St.own.store
      rw [St.pv.eq] at hE
      have hE' := Lib.hid hE
      have hldE := Lib.hid St.pv.load
      have kE := Lib.hid St.own
      clear hE hI
      go_wp2_with (first | (refine wpList_load_agg 52 rfl rfl rfl _ Tryz.underlying52 rfl [.pointer (some ⟨sb, 0, none⟩)] (by kernel_rfl) hldE.out ?_))
      refine hE'.out.mono ?_
      rintro e wz ⟨rfl, hTz⟩
      have kk : Hid (Kept (fun _ => False) w wz) := Lib.hid (k1'.out.trans (kE.out.to hTz).kept)
      clear hTz
      go_wp2_with fail
      go_ret
      exact ⟨rfl, kk.out⟩
end Go.Proofs.YthmjcbmeiabbgaaGreat.pruneCuts
