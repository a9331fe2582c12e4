/-
  TreeSplits: the walk.
-/
import Derived.Test.YthmjcbmeiabbgaaGreatK16
import Derived.Test.YthmjcbmeiabbgaaGreatK18
import Derived.Test.YthmjcbmeiabbgaaGreatK20
set_option linter.unusedVariables false
set_option linter.unusedSimpArgs false
namespace Go.Proofs.YthmjcbmeiabbgaaGreat.treeSplits
open Go.RowKit
set_option maxRecDepth 100000

/-- A slice of ints that came in. -/
def IntsIn (w : World) (v : Value) (l : List Int) : Prop := ∃ A cap, v = .slice A l.length cap ∧ l.length ≤ cap ∧ cap ≤ maxLen ∧
    ∀ (i : Nat) (x : Int), l[i]? = some x → ∃ b off, A = some ⟨b, off, none⟩ ∧ b < w.heap.size ∧ w.cell? ⟨b, off + i, none⟩ = some (.int .i64 x)
/-- The entries so far, and the last key. -/
def step (s : List (Int × Int) × Int) (k : Int) : List (Int × Int) × Int := if s.2 < k ∧ k < 64 then (s.1 ++ [(k, 0)], k) else s
def upTo (l : List Int) (k : Nat) : List (Int × Int) × Int := (l.take k).foldl step ([], -1)
theorem upTo_succ {l : List Int} {k : Nat} {x : Int} (h : l[k]? = some x) : upTo l (k + 1) = step (upTo l k) x := by
  unfold upTo
  rw [List.take_add_one, h]
  simp
theorem upTo_len (l : List Int) : ∀ k, (upTo l k).1.length ≤ k
  | 0 => Nat.le_refl _
  | k + 1 => by
    cases h : l[k]? with
    | none =>
      have : upTo l (k + 1) = upTo l k := by unfold upTo; rw [List.take_add_one, h]; simp
      rw [this]
      exact Nat.le_succ_of_le (upTo_len l k)
    | some x =>
      rw [upTo_succ h]
      unfold step
      have := upTo_len l k
      split
      · rw [List.length_append, List.length_singleton]; omega
      · omega
theorem upTo_good (l : List Int) : ∀ k, RisesK (upTo l k).1 ∧ (∀ y ∈ (upTo l k).1, 0 ≤ y.1 ∧ y.1 < 64 ∧ y.1 ≤ (upTo l k).2 ∧ y.2 = 0) ∧ -1 ≤ (upTo l k).2 ∧ (upTo l k).2 < 64
  | 0 => ⟨List.Pairwise.nil, (fun y hy => by cases hy), by show (-1 : Int) ≤ -1; omega, by show (-1 : Int) < 64; omega⟩
  | k + 1 => by
    obtain ⟨h1, h2, h3, h4⟩ := upTo_good l k
    cases h : l[k]? with
    | none =>
      have : upTo l (k + 1) = upTo l k := by unfold upTo; rw [List.take_add_one, h]; simp
      rw [this]
      exact ⟨h1, h2, h3, h4⟩
    | some x =>
      rw [upTo_succ h]
      unfold step
      split
      · rename_i hc
        refine ⟨List.pairwise_append.2 ⟨h1, List.pairwise_singleton _ _, fun a ha b hb => ?_⟩, fun y hy => ?_, by dsimp only; omega, hc.2⟩
        · rw [List.mem_singleton.1 hb]
          have := h2 a ha
          show a.1 < x
          omega
        · rcases List.mem_append.1 hy with hy | hy
          · have := h2 y hy
            exact ⟨this.1, this.2.1, by dsimp only; omega, this.2.2.2⟩
          · rw [List.mem_singleton.1 hy]
            exact ⟨by dsimp only; omega, hc.2, Int.le_refl _, rfl⟩
      · exact ⟨h1, h2, h3, h4⟩

/-- What the split pages are. -/
def leaves (M : SM) (out : List (Int × Int)) (k : Nat) : List (Int × Int) := (out.take k).flatMap fun e => (M.get e.2).1.ents
theorem kids_leaves {m : Nat} {M : SM} : ∀ (es l : List (Int × Int)), Kids (Sub m M 1) es l → (es.flatMap fun e => (M.get e.2).1.ents) = l ∧
    ∀ e ∈ es, ∃ n x, M.get e.2 = (n, 0) ∧ n.kind = 2 ∧ n.ents[0]? = some x ∧ x.1 = e.1 ∧ n.ents.length ≤ 6
  | [], l, h => ⟨h.symm, fun e he => by cases he⟩
  | e :: es, l, ⟨a, b, x, h1, h2, h3, h4, h5⟩ => by
    obtain ⟨n, g1, g2, g3, g4, g5⟩ := leaf_get h2.1
    obtain ⟨i1, i2⟩ := kids_leaves es b h5
    refine ⟨by rw [List.flatMap_cons, i1, g1, g3, h1], fun f hf => ?_⟩
    rcases List.mem_cons.1 hf with rfl | hf
    · exact ⟨n, x, g1, g2, by rw [g3, ← h3, List.head?_eq_getElem?], h4, by rw [g3]; exact g5⟩
    · exact i2 f hf
theorem leaves_succ {M : SM} {out : List (Int × Int)} {k : Nat} {e : Int × Int} (h : out[k]? = some e) : leaves M out (k + 1) = leaves M out k ++ (M.get e.2).1.ents := by
  unfold leaves
  rw [List.take_add_one, h]
  simp
theorem leaves_len {M : SM} {out : List (Int × Int)} (h : ∀ e ∈ out, ∃ n x, M.get e.2 = (n, 0) ∧ n.kind = 2 ∧ n.ents[0]? = some x ∧ x.1 = e.1 ∧ n.ents.length ≤ 6) : ∀ k, (leaves M out k).length ≤ 6 * k
  | 0 => Nat.le_refl _
  | k + 1 => by
    have ih := leaves_len h k
    cases he : out[k]? with
    | none =>
      have : leaves M out (k + 1) = leaves M out k := by unfold leaves; rw [List.take_add_one, he]; simp
      rw [this]; omega
    | some e =>
      rw [leaves_succ he, List.length_append]
      obtain ⟨n, x, g1, _, _, _, g5⟩ := h e (List.mem_of_getElem? he)
      rw [g1]
      show _ + n.ents.length ≤ _
      omega
theorem split_facts {l : List Int} {E : List (Int × Int)} {k : Nat} (hE : (upTo l k).1 = E) (h12 : E.length ≤ 12) :
    ∃ M' out, (madeM 56 9).split ⟨2, zeros16, E⟩ = (M', out, 0) ∧ out.length = (if 6 < E.length then 2 else if 0 < E.length then 1 else 0) ∧ leaves M' out out.length = E ∧
      ∀ e ∈ out, ∃ n x, M'.get e.2 = (n, 0) ∧ n.kind = 2 ∧ n.ents[0]? = some x ∧ x.1 = e.1 ∧ n.ents.length ≤ 6 := by
  by_cases h0 : E.length = 0
  · have : E = [] := List.eq_nil_of_length_eq_zero h0
    subst this
    exact ⟨madeM 56 9, [], rfl, rfl, rfl, fun e he => by cases he⟩
  · have hg := upTo_good l k
    rw [hE] at hg
    have g : Good (madeM 56 9) E := ⟨hg.1, fun y hy => by
      have := hg.2.1 y hy
      exact ⟨this.1, this.2.1, by rw [this.2.2.2]; exact made_held 56 9 (by decide)⟩⟩
    have t : NTr (Sub 1 (madeM 56 9) 0) 0 ⟨2, zeros16, E⟩ E := .inl ⟨rfl, rfl, rfl⟩
    rcases split_ok (made_exact 56 9 (by decide) (by decide) (by decide)) t g (by show 1 ≤ E.length; omega) h12 with ⟨e, S⟩ | ⟨e, hf⟩ | ⟨e, c, hc⟩
    · have hK := S.kids (by decide) (by show 1 ≤ E.length; omega)
      obtain ⟨k1, k2⟩ := kids_leaves _ _ hK
      refine ⟨_, _, Prod.ext rfl (Prod.ext rfl e), ?_, ?_, k2⟩
      · rw [S.len]
        show (if 6 < E.length then 2 else 1) = _
        split
        · rfl
        · rw [if_pos (by omega)]
      · unfold leaves
        rw [List.take_length]
        exact k1
    · rw [made_free 56 9 (by decide)] at hf
      split at hf <;> omega
    · rw [made_sum] at hc
      have : extOne c ≤ 1 := by unfold extOne; split <;> omega
      have hc2 : 255 < 0 + E.length + extOne c := hc
      omega
end Go.Proofs.YthmjcbmeiabbgaaGreat.treeSplits
/-
  PruneDense: the walk.
-/
namespace Go.Proofs.YthmjcbmeiabbgaaGreat.pruneDense
open Go.RowKit
open treeSplits (IntsIn)
set_option maxRecDepth 100000

/-- A pruner's variable: a box with its store's address. -/
structure PrunerVar (wr : World) (A : SA) (b sb : Nat) : Prop where
  heap : wr.heap[b]? = some (.cells #[.pointer (some ⟨sb, 0, none⟩)] 52 (0, 0))
  safe : Safe wr A b
  eq : A.sb = sb
theorem PrunerVar.fresh {wr w' : World} {A : SA} {b sb : Nat} (h : PrunerVar wr A b sb) (k : Kept (fun _ => False) wr w') : PrunerVar w' A b sb := ⟨k.get h.heap id, h.safe.fresh k, h.eq⟩
theorem PrunerVar.to {wr w' : World} {A A' : SA} {M' : SM} {b sb : Nat} (h : PrunerVar wr A b sb) (k : StoreTo A A' M' wr w') : PrunerVar w' A' b sb := ⟨k.get h.heap h.safe, h.safe.to k, k.sb.trans h.eq⟩
theorem PrunerVar.load {wr : World} {A : SA} {b sb : Nat} (h : PrunerVar wr A b sb) : ∀ j v, [Value.pointer (some ⟨sb, 0, none⟩)][j]? = some v → wr.cell? ⟨b, 0 + j, none⟩ = some v := fun j v hj => by rw [Nat.zero_add, cell_of_heap h.heap]; simpa using hj
theorem PrunerVar.c0 {wr : World} {A : SA} {b sb : Nat} (h : PrunerVar wr A b sb) : wr.cell? ⟨b, 0, none⟩ = some (.pointer (some ⟨sb, 0, none⟩)) := by rw [cell_of_heap h.heap]; rfl

/-- The entries that the tree is built of. -/
def seqE (k : Nat) : List (Int × Int) := (List.range k).map fun (i : Nat) => ((i : Int), (0 : Int))
theorem seqE_succ (k : Nat) : seqE (k + 1) = seqE k ++ [((k : Int), 0)] := by unfold seqE; rw [List.range_succ, List.map_append]; rfl
theorem seqE_len (k : Nat) : (seqE k).length = k := by unfold seqE; rw [List.length_map, List.length_range]
theorem seqE_in {k : Nat} {y : Int × Int} (h : y ∈ seqE k) : 0 ≤ y.1 ∧ y.1 < (k : Int) ∧ y.2 = 0 := by
  unfold seqE at h
  obtain ⟨i, hi, rfl⟩ := List.mem_map.1 h
  rw [List.mem_range] at hi
  exact ⟨by show (0 : Int) ≤ (i : Int); omega, by show (i : Int) < (k : Int); omega, rfl⟩
theorem one_start {s : Nat} (h0 : 0 < s) (h : s ≤ 240) : OneTree Clean s [0] (madeM s 9) (-1) [] 0 := by
  refine ⟨exact_congr (made_exact s 9 h0 h (by decide)) (fun p _ => ?_), rfl, fun q => ?_, fun b hb => ?_, ⟨List.Pairwise.nil, fun y hy => by cases hy⟩, .inl ⟨rfl, rfl⟩, made_loose s 9 h0 []⟩
  · unfold extB extOne
    rw [show (if (p : Int) = -1 then 1 else 0) = 0 from if_neg (by omega), Nat.add_zero, List.count_singleton]
    by_cases e : p = 0
    · rw [if_pos e, if_pos (by simp [e])]
    · rw [if_neg e, if_neg (by simp; exact fun e' => e e'.symm)]
  · unfold madeM PM.setCnt PM.setSt PM.fresh0
    dsimp only
    by_cases e : q = 0
    · simp [e]
    · simp [e]
  · rw [List.mem_singleton] at hb
    subst hb
    exact ⟨by rw [made_live s 9 0 h0]; rfl, _, made_node s 9, rfl, rfl⟩
/-- The build, step by step. -/
theorem seq_build : ∀ (n k : Nat) {M : SM} {root : Int}, OneTree Clean 196 [0] M root (seqE k) k → AscSt M root (seqE k) k → k + n ≤ 64 →
    ∃ M' root', SM.build ((seqE (k + n)).drop k) M root = (M', root', 0) ∧ OneTree Clean 196 [0] M' root' (seqE (k + n)) (k + n) ∧ AscSt M' root' (seqE (k + n)) (k + n) ∧ M'.log.length ≤ M.log.length + 22 * n
  | 0, k, M, root, h, hA, _ => ⟨M, root, by rw [Nat.add_zero, List.drop_eq_nil_of_le (by rw [seqE_len]; exact Nat.le_refl _)]; rfl, h, hA, Nat.le_refl _⟩
  | n + 1, k, M, root, h, hA, hk => by
    have hmax : ∀ y ∈ seqE k, y.1 < (k : Int) := fun y hy => (seqE_in hy).2.1
    have hput : putL (seqE k) ((k : Int), 0) = seqE (k + 1) := by rw [putL_end hmax, seqE_succ]
    obtain ⟨e1, e2, hI, _⟩ := one_put h clean_besides (by omega) (by decide) (by decide) (key := (k : Int)) (page := 0) (by omega) (by omega) ⟨0, List.mem_singleton.2 rfl, rfl⟩
    have hA2 := asc_put h (by decide) hA (by omega) (key := (k : Int)) (by omega) (by omega) hmax hI
    rw [hput] at hI hA2
    have hl1 := put_log M root (k : Int) 0
    have hl2 := swap_log (M.put root (k : Int) 0).1 root (M.put root (k : Int) 0).2.1
    obtain ⟨M', root', e3, hI', hA', hl⟩ := seq_build n (k + 1) hI hA2 (by omega)
    rw [show k + 1 + n = k + (n + 1) by omega] at e3 hI' hA'
    refine ⟨M', root', ?_, hI', hA', by rw [hl2] at hl; omega⟩
    have hd : (seqE (k + (n + 1))).drop k = ((k : Int), 0) :: (seqE (k + (n + 1))).drop (k + 1) := by
      have hlt : k < (seqE (k + (n + 1))).length := by rw [seqE_len]; omega
      rw [List.drop_eq_getElem_cons hlt]
      congr 1
      simp only [seqE, List.getElem_map, List.getElem_range]
    rw [hd, build_cons]
    dsimp only
    rw [if_pos e1, if_pos e2, e3]
theorem build_64 : ∃ M root, SM.build (seqE 64) (madeM 196 9) (-1) = (M, root, 0) ∧ OneTree Clean 196 [0] M root (seqE 64) 64 ∧ DenseAt M root (seqE 64) ∧ M.log.length ≤ 2000 := by
  obtain ⟨M, root, e, h, hA, hl⟩ := seq_build 64 0 (one_start (s := 196) (by decide) (by decide)) (.inl ⟨rfl, rfl, rfl⟩) (by decide)
  rw [Nat.zero_add] at e h hA
  refine ⟨M, root, e, h, asc_dense hA, ?_⟩
  have : (madeM 196 9).log.length = 1 := rfl
  omega
/-- What holds behind the build, and each cut. -/
structure DenseSt (w1 : World) (pb sb : Nat) (root : Int) (A : SA) (M : SM) (l : List (Int × Int)) (wr : World) : Prop where
  own : OwnStore w1 A M wr
  pv : PrunerVar wr A pb sb
  one : OneTree Clean 196 [0] M root l 64
  dense : DenseAt M root l
theorem dense_trim {M : SM} {root : Int} {l : List (Int × Int)} (h : OneTree Clean 196 [0] M root l 64) (hD : DenseAt M root l) {key : Int} (k0 : 0 ≤ key) (k1 : key < 64) :
    (SM.trim [key] M root).2.2 = 0 ∧ ∃ l', OneTree Clean 196 [0] (SM.trim [key] M root).1 (SM.trim [key] M root).2.1 l' 64 ∧ DenseAt (SM.trim [key] M root).1 (SM.trim [key] M root).2.1 l' := by
  rw [trim_cons]
  rcases one_cut h clean_besides (by decide) (by decide) (by decide) k0 k1 with ⟨e, _, _⟩ | ⟨e1, e2, _, _, e3, e4⟩
  · rw [e]
    exact ⟨rfl, l, h, hD⟩
  · have hd := dense_cut h (by decide) (by decide) hD k0 k1 e2 e4
    rw [if_pos e1, if_pos e2, if_pos e3]
    exact ⟨rfl, _, e4, hd⟩

end Go.Proofs.YthmjcbmeiabbgaaGreat.pruneDense
/-
  PruneBack: the walk.
-/
namespace Go.Proofs.YthmjcbmeiabbgaaGreat.pruneBack
open Go.RowKit
open treeSplits (IntsIn)
open pruneDense (PrunerVar one_start)
set_option maxRecDepth 100000

/-- The entries that the tree is built of. -/
def bkE (l : List Int) : List (Int × Int) := (l.filter fun k => decide (0 ≤ k) && decide (k < 64)).map fun k => (k, 0)
theorem bkE_take {l : List Int} {k : Nat} {x : Int} (h : l[k]? = some x) : bkE (l.take (k + 1)) = bkE (l.take k) ++ (if 0 ≤ x ∧ x < 64 then [(x, 0)] else []) := by
  unfold bkE
  rw [List.take_add_one, h, List.filter_append, List.map_append]
  congr 1
  by_cases e : 0 ≤ x ∧ x < 64
  · rw [if_pos e]; simp [e]
  · rw [if_neg e]
    have : (decide (0 ≤ x) && decide (x < 64)) = false := by
      rw [Bool.and_eq_false_iff]; simp only [decide_eq_false_iff_not]; omega
    show List.map _ (List.filter _ [x]) = []
    rw [List.filter_cons_of_neg (by rw [this]; decide)]
    rfl
theorem bkE_len (l : List Int) : (bkE l).length ≤ l.length := by unfold bkE; rw [List.length_map]; exact List.length_filter_le _ _
theorem bkE_in {l : List Int} {y : Int × Int} (h : y ∈ bkE l) : 0 ≤ y.1 ∧ y.1 < 64 ∧ ∃ b ∈ [0], y.2 = ((b : Nat) : Int) := by
  unfold bkE at h
  obtain ⟨i, hi, rfl⟩ := List.mem_map.1 h
  have := (List.mem_filter.1 hi).2
  simp only [Bool.and_eq_true, decide_eq_true_eq] at this
  exact ⟨this.1, this.2, 0, List.mem_singleton.2 rfl, rfl⟩

set_option maxHeartbeats 8000000 in
theorem walkIn {w : World} (va : Value) (l : List Int) (hl : IntsIn w va l) (key : Int) : Calls Tryz.prog 7 #[va, .int .i64 key] w fun e w' => e = .returned (.bool true) ∧ Kept (fun _ => False) w w' := by
  obtain ⟨Aa, ca, rfl, hc1, hc2, hget⟩ := hl
  unfold maxLen at hc2
  have hget' := Lib.hid hget
  clear hget
  have early : (decide ((64 : Int) < (l.length : Int)) = true ∨ (decide ((64 : Int) < (l.length : Int)) = false ∧ decide (key < 0) = true) ∨ (decide ((64 : Int) < (l.length : Int)) = false ∧ decide (key < 0) = false ∧ decide (63 < key) = true)) ∨ (l.length ≤ 64 ∧ 0 ≤ key ∧ key < 64) := by
    simp only [decide_eq_true_eq, decide_eq_false_iff_not]; omega
  rcases early with early | ⟨hshort, k0, k1⟩
  · rcases early with hb | ⟨hb, hb1⟩ | ⟨hb, hb1, hb2⟩
    · go_enter Tryz.func7, Tryz.ntmps7
      go_wp2_with fail
      refine (alive11 _).mono ?_
      rintro e w1 ⟨rfl, k1⟩
      have k1' := Lib.hid k1
      clear k1
      go_wp2_with fail
      go_ret
      exact ⟨rfl, k1'.out⟩
    · go_enter Tryz.func7, Tryz.ntmps7
      go_wp2_with fail
      refine (alive11 _).mono ?_
      rintro e w1 ⟨rfl, k1⟩
      have k1' := Lib.hid k1
      clear k1
      go_wp2_with fail
      go_ret
      exact ⟨rfl, k1'.out⟩
    · go_enter Tryz.func7, Tryz.ntmps7
      go_wp2_with fail
      refine (alive11 _).mono ?_
      rintro e w1 ⟨rfl, k1⟩
      have k1' := Lib.hid k1
      clear k1
      go_wp2_with fail
      go_ret
      exact ⟨rfl, k1'.out⟩
  have hb : decide ((64 : Int) < (l.length : Int)) = false := by rw [decide_eq_false_iff_not]; omega
  have hb1 : decide (key < 0) = false := by rw [decide_eq_false_iff_not]; omega
  have hb2 : decide (63 < key) = false := by rw [decide_eq_false_iff_not]; omega
  have hm := fun w => made11 244 (by decide) (by decide) w
  rw [show (min (244 : Int) 244 - 4).toNat = 240 from by decide] at hm
  have hm' := Lib.hid hm
  clear hm
  go_enter Tryz.func7, Tryz.ntmps7
  go_wp2_with fail
  refine (alive11 _).mono ?_
  rintro e w1 ⟨rfl, k1⟩
  have k1' := Lib.hid k1
  clear k1
  go_wp2_with fail
  refine (hm'.out _).mono ?_
  rintro e w2 ⟨A, rfl, hA, hk, hn⟩
  have O2 : OwnStore w1 A (madeM 240 9) w2 := ⟨hA, hk, hn⟩
  obtain ⟨sb, hsb⟩ : ∃ sb, A.sb = sb := ⟨_, rfl⟩
  obtain ⟨pb, hpb⟩ : ∃ pb, w2.heap.size = pb := ⟨_, rfl⟩
  obtain ⟨w3, hw3⟩ : ∃ w3, (w2.alloc (.cells #[.pointer none] 52)).setRow pb #[.pointer (some ⟨sb, 0, none⟩)] = w3 := ⟨_, rfl⟩
  have k3 : Kept (fun _ => False) w2 w3 := by rw [← hw3]; exact ((Kept.refl _ _).alloc _).setRowNew (by omega) _
  have q3 : w3.heap[pb]? = some (.cells #[.pointer (some ⟨sb, 0, none⟩)] 52 (0, 0)) := by rw [← hw3, ← hpb]; exact setRow_heap _ _ _ _ _ _ (heap_alloc_new _ _)
  have O3 := Lib.hid (O2.fresh k3)
  have V3 : Hid (PrunerVar w3 A pb sb) := Lib.hid ⟨q3, Safe.new hA (by omega) (lt_of_heap q3), hsb⟩
  have hw3' := Lib.hid hw3
  have hpb' := Lib.hid hpb
  rw [hsb]
  clear hA hk hn O2 k3 q3 hw3 hpb hsb
  go_wp2_with (first | (refine wpList_alloc_as 52 rfl rfl #[.pointer none] pruner_zero ?_; rw [hpb'.out]) | (refine wpList_store_whole 52 rfl rfl rfl [.pointer (some ⟨sb, 0, none⟩)] rfl (by kernel_rfl) 52 #[.pointer none] (by rw [← hpb'.out]; exact heap_alloc_new _ _) rfl (by intro c hc; simp at hc; subst hc; rfl) ?_; rw [hw3'.out]))
  have I4 : Hid (Kept (fun _ => False) w3 (w3.alloc (.cells #[] 33)) ∧ (w3.alloc (.cells #[] 33)).ownsRow w3.heap.size 33 2 (.slice (some ⟨w3.heap.size, 0, none⟩) 0 0) (bkE (l.take 0)).length (entCells (bkE (l.take 0)))) := Lib.hid ⟨(Kept.refl _ _).alloc _, owns_empty w3 w3.heap.size w3.heap.size 33 2 (Nat.le_refl _) rfl⟩
  go_loopw [8, 46] (fun v i wr => ∃ (k : Nat), k ≤ l.length ∧ i = .int .i64 k ∧ Hid (Kept (fun _ => False) w3 wr ∧ wr.ownsRow w3.heap.size 33 2 v (bkE (l.take k)).length (entCells (bkE (l.take k))))) (fun _ i _ => l.length - (intOf i).toNat)
  case atStart => exact ⟨0, Nat.zero_le _, rfl, I4⟩
  case round =>
    obtain ⟨k, hk, rfl, hI⟩ := hrel
    obtain ⟨Av, cv, rfl, hf1, hf2⟩ := EntsAt.form (show EntsAt wr _ (bkE (l.take k)) from SliceAt.of_owns hI.out.2)
    unfold maxLen at hf2
    have hbl := bkE_len (l.take k)
    rw [List.length_take] at hbl
    by_cases hlt : k < l.length
    · obtain ⟨x, hx⟩ : ∃ x, l[k]? = some x := ⟨_, List.getElem?_eq_getElem hlt⟩
      obtain ⟨ab, ao, rfl, hab, c1⟩ := hget'.out k x hx
      have c1' := hI.out.1.cell (O3.out.kept.cell (k1'.out.cell c1 id) id) id
      have hki : (k : Int) < (l.length : Int) := by omega
      have hnext := bkE_take hx
      clear hx c1
      by_cases hin : 0 ≤ x ∧ x < 64
      · have hd0 : decide (0 ≤ x) = true := by rw [decide_eq_true_eq]; exact hin.1
        have hd1 : decide (x < 64) = true := by rw [decide_eq_true_eq]; exact hin.2
        rw [if_pos hin] at hnext
        have hnext' := Lib.hid hnext
        have K5 := Lib.hid (hI.out.1.trans ((Kept.refl (fun _ => False) wr).alloc (.cells #[.int .i64 x, .int .i64 0] 33)))
        have R5 := Lib.hid (ownsRow.keptOf hI.out.2 ((Kept.refl (fun _ => False) wr).alloc (.cells #[.int .i64 x, .int .i64 0] 33)) (fun _ _ => id))
        clear hI hnext hin
        go_wp2_with (at_builtin; refine wpList_append_src rfl elemEntry (.tmp 56) (.tmp 60) rfl (by rfl) (by rfl) R5.out (SliceAt.block_new (ys := [.int .i64 x, .int .i64 0]) (m := 1) (heap_alloc_new _ _) (by rfl) (by decide)) (by intro c hc; simp at hc; rcases hc with rfl | rfl <;> rfl) (by omega) (by omega) K5.out.size ?_; intro v2 w10 hown10 hg10 hat10)
        have fin : Hid (Kept (fun _ => False) w3 w10 ∧ w10.ownsRow w3.heap.size 33 2 v2 (bkE (l.take (k + 1))).length (entCells (bkE (l.take (k + 1))))) := Lib.hid ⟨K5.out.trans_new (Kept.of_grown hg10) (fun i hi e => absurd hi (Nat.not_lt.2 (R5.out.lt i e).1)), by rw [hnext'.out, entCells_append, List.length_append]; exact hown10⟩
        clear hown10 hg10 hat10
        go_wp2_with fail
        go_roundw
        case rel => exact ⟨k + 1, by omega, by go_num, fin⟩
        case measure => simp [intOf]; omega
      · rw [if_neg hin, List.append_nil] at hnext
        have fin : Hid (Kept (fun _ => False) w3 wr ∧ wr.ownsRow w3.heap.size 33 2 (.slice Av (bkE (l.take k)).length cv) (bkE (l.take (k + 1))).length (entCells (bkE (l.take (k + 1))))) := Lib.hid (by rw [hnext]; exact hI.out)
        have hor : decide (0 ≤ x) = false ∨ (decide (0 ≤ x) = true ∧ decide (x < 64) = false) := by simp only [decide_eq_true_eq, decide_eq_false_iff_not]; omega
        clear hI hnext hin
        rcases hor with hd0 | ⟨hd0, hd1⟩
        · go_wp2_with fail
          go_roundw
          case rel => exact ⟨k + 1, by omega, by go_num, fin⟩
          case measure => simp [intOf]; omega
        · go_wp2_with fail
          go_roundw
          case rel => exact ⟨k + 1, by omega, by go_num, fin⟩
          case measure => simp [intOf]; omega
    · obtain rfl : k = l.length := by omega
      rw [List.take_length] at hI hf1 hbl ⊢
      have O5 := Lib.hid (O3.out.fresh hI.out.1)
      have V5 := Lib.hid (V3.out.fresh hI.out.1)
      have E5 : EntsOff wr A _ (bkE l) := ⟨SliceAt.of_owns hI.out.2, fun _ b hb => ⟨(hI.out.2.lt b hb).2, fun e => absurd (O3.out.store.lt (.inl e)) (Nat.not_lt.2 (hI.out.2.lt b hb).1)⟩⟩
      have hbl2 : (bkE l).length ≤ 64 := by omega
      obtain ⟨MB, root, hbuild, hone, hlogB⟩ := build_one (s := 240) clean_besides (by decide) (by decide) (bkE l) (one_start (by decide) (by decide)) (by omega) (fun y hy => bkE_in hy)
      have hB := treeBuild O5.out.store E5 (by omega) (by show 1 + 100000 < 100000000; omega)
      rw [hbuild, V5.out.eq] at hB
      have hB' := Lib.hid hB
      obtain ⟨W, hW⟩ : ∃ W, (bkE l).foldl putL [] = W := ⟨_, rfl⟩
      rw [hW] at hone
      have hlog : Hid (MB.log.length ≤ 2000) := Lib.hid (by have : (madeM 240 9).log.length = 1 := rfl; omega)
      obtain ⟨P, hP⟩ : ∃ P, 0 + (bkE l).length = P := ⟨_, rfl⟩
      rw [hP] at hone
      have hP64 : P ≤ 64 := by omega
      have N6 := Lib.hid hone
      have c50 := V5.out.c0
      have hload5 := Lib.hid V5.out.load
      have hW64 : Hid (W.length ≤ 64) := Lib.hid hone.len
      clear hI E5 hB hbuild hone hlogB hW hP hf1 hbl
      go_wp2_with (first | (refine wpList_load_agg 26 rfl rfl rfl _ Tryz.underlying26 rfl [.pointer (some ⟨sb, 0, none⟩)] (by kernel_rfl) hload5.out ?_))
      refine hB'.out.mono ?_
      rintro e w6 ⟨A6, rfl, hT6⟩
      have O6 := Lib.hid (O5.out.to hT6)
      have V6 := Lib.hid (V5.out.to hT6)
      clear hT6 c50
      have hL := treeList O6.out.store root
      rw [N6.out.list (by omega), V6.out.eq] at hL
      dsimp only at hL
      have hL' := Lib.hid hL
      have hld6 := Lib.hid V6.out.load
      clear hL
      go_wp2_with (first | (refine wpList_load_agg 26 rfl rfl rfl _ Tryz.underlying26 rfl [.pointer (some ⟨sb, 0, none⟩)] (by kernel_rfl) hld6.out ?_))
      refine hL'.out.mono ?_
      rintro e w7 ⟨v7, rfl, hown7, hk7⟩
      obtain ⟨A7, c7, rfl, h71, h72⟩ := EntsAt.form (show EntsAt w7 v7 W from SliceAt.of_owns hown7)
      unfold maxLen at h72
      have O7 := Lib.hid (O6.out.fresh hk7)
      have V7 := Lib.hid (V6.out.fresh hk7)
      have U7 : Hid (OutAt w7 A6 w1.heap.size (.slice A7 W.length c7) W) := Lib.hid ⟨owns_le' hown7 O6.out.kept.size, fun b hb e => absurd (O6.out.store.lt (.inl e)) (Nat.not_lt.2 (hown7.lt b hb).1)⟩
      have hF := treeFind O7.out.store root key
      rw [N6.out.find (by omega) key, V7.out.eq] at hF
      dsimp only at hF
      have hF' := Lib.hid hF
      have hld7 := Lib.hid V7.out.load
      obtain ⟨at0, hat⟩ : ∃ at0, findL W key = at0 := ⟨_, rfl⟩
      rw [hat] at hF'
      have hat' := Lib.hid hat
      clear hF hat hown7 hk7
      go_wp2_with (first | (refine wpList_load_agg 26 rfl rfl rfl _ Tryz.underlying26 rfl [.pointer (some ⟨sb, 0, none⟩)] (by kernel_rfl) hld7.out ?_))
      refine hF'.out.mono ?_
      rintro e w8 ⟨rfl, hk8⟩
      have O8 := Lib.hid (O7.out.fresh hk8)
      have V8 := Lib.hid (V7.out.fresh hk8)
      have U8 := Lib.hid (U7.out.fresh hk8)
      have hld8 := Lib.hid V8.out.load
      clear hk8
      by_cases hno : at0 = -1
      · have hnb : (at0 == -1) = true := by simp [hno]
        have hP1 := treePut O8.out.store root key 0 (by have := hlog.out; omega)
        rw [V8.out.eq] at hP1
        obtain ⟨p1, p2, p3, _⟩ := one_put N6.out clean_besides (by omega) (by decide) (by decide) (key := key) (page := 0) k0 k1 ⟨0, List.mem_singleton.2 rfl, rfl⟩
        have hlg := put_log MB root key 0
        obtain ⟨R, hR⟩ : ∃ R, MB.put root key 0 = R := ⟨_, rfl⟩
        rw [hR] at hP1 p1 p2 p3 hlg
        obtain ⟨M1, next, er⟩ := R
        dsimp only at hP1 p1 p2 p3 hlg
        subst p1
        have hback : Hid (cutL (putL W (key, 0)) key = W) := Lib.hid (cut_put N6.out.keys.1 0 (findL_neg (fun y hy => by obtain ⟨_, _, b, _, e⟩ := N6.out.keys.2 y hy; omega) (by rw [hat'.out]; exact hno)))
        have hsl := swap_log M1 root next
        obtain ⟨t1, t2⟩ := one_trim p3 clean_besides (by omega) (by decide) (by decide) k0 k1
        obtain ⟨S, hS⟩ : ∃ S, M1.swap root next = S := ⟨_, rfl⟩
        rw [hS] at p2 t1 t2 hsl
        obtain ⟨M2, es⟩ := S
        dsimp only at p2 t1 t2 hsl
        subst p2
        have hlog2 : Hid (M2.log.length ≤ 3000) := Lib.hid (by have := hlog.out; rw [hsl]; omega)
        rw [hback.out] at t2
        obtain ⟨T, hT⟩ : ∃ T, SM.trim [key] M2 next = T := ⟨_, rfl⟩
        rw [hT] at t1 t2
        obtain ⟨M3, root3, et⟩ := T
        dsimp only at t1 t2
        subst t1
        have hP1' := Lib.hid hP1
        have hS' := Lib.hid hS
        have hT' := Lib.hid hT
        have N9 := Lib.hid t2
        clear hP1 hR p3 hlg hsl hS t2 hT hno
        go_wp2_with (first | (refine wpList_load_agg 26 rfl rfl rfl _ Tryz.underlying26 rfl [.pointer (some ⟨sb, 0, none⟩)] (by kernel_rfl) hld8.out ?_))
        refine hP1'.out.mono ?_
        rintro e w9 ⟨A9, rfl, hT9⟩
        have O9 := Lib.hid (O8.out.to hT9)
        have V9 := Lib.hid (V8.out.to hT9)
        have U9 := Lib.hid (U8.out.to hT9)
        have hSw := treeSwap O9.out.store root next
        rw [V9.out.eq, hS'.out] at hSw
        dsimp only at hSw
        have hSw' := Lib.hid hSw
        have hld9 := Lib.hid V9.out.load
        clear hSw hT9
        go_wp2_with (first | (refine wpList_load_agg 26 rfl rfl rfl _ Tryz.underlying26 rfl [.pointer (some ⟨sb, 0, none⟩)] (by kernel_rfl) hld9.out ?_) | (refine wpList_exec_g (by rfl) (exec_load_agg (g := pb) (off := 0) rfl rfl [.pointer (some ⟨sb, 0, none⟩)] Tryz.underlying26 rfl (by kernel_rfl) hld9.out) ?_))
        refine hSw'.out.mono ?_
        rintro e w10 ⟨rfl, hT10⟩
        have O10 := Lib.hid (O9.out.to hT10)
        have V10 := Lib.hid (V9.out.to hT10)
        have U10 := Lib.hid (U9.out.to hT10)
        have kx : Kept (fun _ => False) w10 (w10.alloc (.cells #[.int .i64 key] 3)) := (Kept.refl _ _).alloc _
        have hkeys : IntsOff (w10.alloc (.cells #[.int .i64 key] 3)) A9 (.slice (some ⟨w10.heap.size, 0, none⟩) 1 1) [key] := ⟨SliceAt.block_new (heap_alloc_new _ _) rfl (by decide), fun _ b hb => by
          simp [Value.ownBlock] at hb
          subst hb
          exact ⟨by simp, fun e => Nat.lt_irrefl _ (O10.out.store.lt (.inl e))⟩⟩
        have hTr := pruneTrim (O10.out.store.fresh kx) next hkeys (by simp) (by have := hlog2.out; omega)
        rw [V10.out.eq, hT'.out] at hTr
        dsimp only at hTr
        have hTr' := Lib.hid hTr
        have hldp := Lib.hid V10.out.load
        have hldq : Hid (∀ j v, [Value.pointer (some ⟨sb, 0, none⟩)][j]? = some v → (w10.alloc (.cells #[.int .i64 key] 3)).cell? ⟨pb, 0 + j, none⟩ = some v) := Lib.hid (V10.out.fresh kx).load
        have kx' := Lib.hid kx
        clear kx hkeys hTr
        go_wp2_with (first | (refine wpList_load_agg 52 rfl rfl rfl _ Tryz.underlying52 rfl [.pointer (some ⟨sb, 0, none⟩)] (by kernel_rfl) hldp.out ?_) | (refine wpList_load_agg 52 rfl rfl rfl _ Tryz.underlying52 rfl [.pointer (some ⟨sb, 0, none⟩)] (by kernel_rfl) hldq.out ?_))
        refine hTr'.out.mono ?_
        rintro e w11 ⟨A11, rfl, hT11⟩
        have O11 := Lib.hid ((O10.out.fresh kx'.out).to hT11)
        have V11 := Lib.hid ((V10.out.fresh kx'.out).to hT11)
        have U11 := Lib.hid ((U10.out.fresh kx'.out).to hT11)
        clear hT11
        have hLz := treeList O11.out.store root3
        rw [N9.out.list (by omega), V11.out.eq] at hLz
        dsimp only at hLz
        have hLz' := Lib.hid hLz
        have hldz := Lib.hid V11.out.load
        clear hLz
        go_wp2_with (first | (refine wpList_load_agg 26 rfl rfl rfl _ Tryz.underlying26 rfl [.pointer (some ⟨sb, 0, none⟩)] (by kernel_rfl) hldz.out ?_))
        refine hLz'.out.mono ?_
        rintro e wy ⟨vy, rfl, howny, hky⟩
        obtain ⟨Ay, cy, rfl, hy1, hy2⟩ := EntsAt.form (show EntsAt wy vy W from SliceAt.of_owns howny)
        unfold maxLen at hy2
        have Oy := Lib.hid (O11.out.fresh hky)
        have Vy := Lib.hid (V11.out.fresh hky)
        have hS := same10 (U11.out.fresh hky).ents.at_ (show EntsAt wy (.slice Ay W.length cy) W from SliceAt.of_owns howny) (by have := hW64.out; omega)
        rw [decide_eq_true (rfl : W = W)] at hS
        have hS2 := Lib.hid hS
        clear hS howny hky
        go_wp2_with fail
        refine hS2.out.mono ?_
        rintro e wz ⟨rfl, hkz⟩
        have Oz := Lib.hid (Oy.out.fresh hkz)
        have Vz := Lib.hid (Vy.out.fresh hkz)
        have hE := exact11 N9.out (clean_mild N9.out.kk) (by simp) rfl (by have := N9.out.range; omega) Oz.out.store
        rw [Vz.out.eq] at hE
        have hE' := Lib.hid hE
        have hldE := Lib.hid Vz.out.load
        clear hE hkz
        go_wp2_with (first | (refine wpList_load_agg 52 rfl rfl rfl _ Tryz.underlying52 rfl [.pointer (some ⟨sb, 0, none⟩)] (by kernel_rfl) hldE.out ?_) | (refine wpList_exec_g (by rfl) (exec_load_agg (g := pb) (off := 0) rfl rfl [.pointer (some ⟨sb, 0, none⟩)] Tryz.underlying52 rfl (by kernel_rfl) hldE.out) ?_))
        refine hE'.out.mono ?_
        rintro e wE ⟨rfl, hTE⟩
        have kk : Hid (Kept (fun _ => False) w wE) := Lib.hid (k1'.out.trans (Oz.out.to hTE).kept)
        clear hTE
        go_wp2_with fail
        go_ret
        exact ⟨rfl, kk.out⟩
      · have hnb : (at0 == -1) = false := by simp [hno]
        have hmem : Hid ((key, (0 : Int)) ∈ W) := Lib.hid (by have h := findL_pos (l := W) (k := key) (by rw [hat'.out]; exact hno); obtain ⟨_, _, b, hb, e⟩ := N6.out.keys.2 _ h; rw [List.mem_singleton.1 hb] at e; dsimp only at e; rw [e] at h; exact h)
        have hback : Hid (putL (cutL W key) (key, 0) = W) := Lib.hid (put_cut N6.out.keys.1 hmem.out)
        obtain ⟨t1, t2⟩ := one_trim N6.out clean_besides (by omega) (by decide) (by decide) k0 k1
        have htl := trim_log O8.out.store root key
        obtain ⟨T, hT⟩ : ∃ T, SM.trim [key] MB root = T := ⟨_, rfl⟩
        rw [hT] at t1 t2 htl
        obtain ⟨M1, next, et⟩ := T
        dsimp only at t1 t2 htl
        subst t1
        have hlog1 : Hid (M1.log.length ≤ 2100) := Lib.hid (by have := hlog.out; omega)
        obtain ⟨p1, p2, p3, _⟩ := one_put t2 clean_besides (by omega) (by decide) (by decide) (key := key) (page := 0) k0 k1 ⟨0, List.mem_singleton.2 rfl, rfl⟩
        rw [hback.out] at p3
        obtain ⟨R, hR⟩ : ∃ R, M1.put next key 0 = R := ⟨_, rfl⟩
        rw [hR] at p1 p2 p3
        obtain ⟨M2, root2, er⟩ := R
        dsimp only at p1 p2 p3
        subst p1
        obtain ⟨S, hS⟩ : ∃ S, M2.swap next root2 = S := ⟨_, rfl⟩
        rw [hS] at p2 p3
        obtain ⟨M3, es⟩ := S
        dsimp only at p2 p3
        subst p2
        have hS' := Lib.hid hS
        have hT' := Lib.hid hT
        have hR' := Lib.hid hR
        have N9 := Lib.hid p3
        clear hR p3 hS t2 hT hno htl
        have kx : Kept (fun _ => False) w8 (w8.alloc (.cells #[.int .i64 key] 3)) := (Kept.refl _ _).alloc _
        have hkeys : IntsOff (w8.alloc (.cells #[.int .i64 key] 3)) A6 (.slice (some ⟨w8.heap.size, 0, none⟩) 1 1) [key] := ⟨SliceAt.block_new (heap_alloc_new _ _) rfl (by decide), fun _ b hb => by
          simp [Value.ownBlock] at hb
          subst hb
          exact ⟨by simp, fun e => Nat.lt_irrefl _ (O8.out.store.lt (.inl e))⟩⟩
        have hTr := pruneTrim (O8.out.store.fresh kx) root hkeys (by simp) (by have := hlog.out; omega)
        rw [V8.out.eq, hT'.out] at hTr
        dsimp only at hTr
        have hTr' := Lib.hid hTr
        have hldp := Lib.hid V8.out.load
        have hldq : Hid (∀ j v, [Value.pointer (some ⟨sb, 0, none⟩)][j]? = some v → (w8.alloc (.cells #[.int .i64 key] 3)).cell? ⟨pb, 0 + j, none⟩ = some v) := Lib.hid (V8.out.fresh kx).load
        have kx' := Lib.hid kx
        clear kx hkeys hTr
        go_wp2_with (first | (refine wpList_load_agg 52 rfl rfl rfl _ Tryz.underlying52 rfl [.pointer (some ⟨sb, 0, none⟩)] (by kernel_rfl) hldp.out ?_) | (refine wpList_load_agg 52 rfl rfl rfl _ Tryz.underlying52 rfl [.pointer (some ⟨sb, 0, none⟩)] (by kernel_rfl) hldq.out ?_))
        refine hTr'.out.mono ?_
        rintro e w9 ⟨A9, rfl, hT9⟩
        have O9 := Lib.hid ((O8.out.fresh kx'.out).to hT9)
        have V9 := Lib.hid ((V8.out.fresh kx'.out).to hT9)
        have U9 := Lib.hid ((U8.out.fresh kx'.out).to hT9)
        clear hT9
        have hP1 := treePut O9.out.store next key 0 (by have := hlog1.out; omega)
        rw [V9.out.eq, hR'.out] at hP1
        dsimp only at hP1
        have hP1' := Lib.hid hP1
        have hld9 := Lib.hid V9.out.load
        clear hP1
        go_wp2_with (first | (refine wpList_load_agg 26 rfl rfl rfl _ Tryz.underlying26 rfl [.pointer (some ⟨sb, 0, none⟩)] (by kernel_rfl) hld9.out ?_))
        refine hP1'.out.mono ?_
        rintro e w10 ⟨A10, rfl, hT10⟩
        have O10 := Lib.hid (O9.out.to hT10)
        have V10 := Lib.hid (V9.out.to hT10)
        have U10 := Lib.hid (U9.out.to hT10)
        have hSw := treeSwap O10.out.store next root2
        rw [V10.out.eq, hS'.out] at hSw
        dsimp only at hSw
        have hSw' := Lib.hid hSw
        have hld10 := Lib.hid V10.out.load
        clear hSw hT10
        go_wp2_with (first | (refine wpList_load_agg 26 rfl rfl rfl _ Tryz.underlying26 rfl [.pointer (some ⟨sb, 0, none⟩)] (by kernel_rfl) hld10.out ?_))
        refine hSw'.out.mono ?_
        rintro e w11 ⟨rfl, hT11⟩
        have O11 := Lib.hid (O10.out.to hT11)
        have V11 := Lib.hid (V10.out.to hT11)
        have U11 := Lib.hid (U10.out.to hT11)
        clear hT11
        have hLz := treeList O11.out.store root2
        rw [N9.out.list (by omega), V11.out.eq] at hLz
        dsimp only at hLz
        have hLz' := Lib.hid hLz
        have hldz := Lib.hid V11.out.load
        clear hLz
        go_wp2_with (first | (refine wpList_load_agg 26 rfl rfl rfl _ Tryz.underlying26 rfl [.pointer (some ⟨sb, 0, none⟩)] (by kernel_rfl) hldz.out ?_))
        refine hLz'.out.mono ?_
        rintro e wy ⟨vy, rfl, howny, hky⟩
        obtain ⟨Ay, cy, rfl, hy1, hy2⟩ := EntsAt.form (show EntsAt wy vy W from SliceAt.of_owns howny)
        unfold maxLen at hy2
        have Oy := Lib.hid (O11.out.fresh hky)
        have Vy := Lib.hid (V11.out.fresh hky)
        have hS := same10 (U11.out.fresh hky).ents.at_ (show EntsAt wy (.slice Ay W.length cy) W from SliceAt.of_owns howny) (by have := hW64.out; omega)
        rw [decide_eq_true (rfl : W = W)] at hS
        have hS2 := Lib.hid hS
        clear hS howny hky
        go_wp2_with fail
        refine hS2.out.mono ?_
        rintro e wz ⟨rfl, hkz⟩
        have Oz := Lib.hid (Oy.out.fresh hkz)
        have Vz := Lib.hid (Vy.out.fresh hkz)
        have hE := exact11 N9.out (clean_mild N9.out.kk) (by simp) rfl (by have := N9.out.range; omega) Oz.out.store
        rw [Vz.out.eq] at hE
        have hE' := Lib.hid hE
        have hldE := Lib.hid Vz.out.load
        clear hE hkz
        go_wp2_with (first | (refine wpList_load_agg 52 rfl rfl rfl _ Tryz.underlying52 rfl [.pointer (some ⟨sb, 0, none⟩)] (by kernel_rfl) hldE.out ?_) | (refine wpList_exec_g (by rfl) (exec_load_agg (g := pb) (off := 0) rfl rfl [.pointer (some ⟨sb, 0, none⟩)] Tryz.underlying52 rfl (by kernel_rfl) hldE.out) ?_))
        refine hE'.out.mono ?_
        rintro e wE ⟨rfl, hTE⟩
        have kk : Hid (Kept (fun _ => False) w wE) := Lib.hid (k1'.out.trans (Oz.out.to hTE).kept)
        clear hTE
        go_wp2_with fail
        go_ret
        exact ⟨rfl, kk.out⟩
end Go.Proofs.YthmjcbmeiabbgaaGreat.pruneBack
