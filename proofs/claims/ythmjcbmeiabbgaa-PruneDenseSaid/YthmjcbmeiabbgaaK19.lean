/-
  PruneDense: the walk.
-/
import Derived.Test.YthmjcbmeiabbgaaK18
set_option linter.unusedVariables false
set_option linter.unusedSimpArgs false
namespace Go.Proofs.Ythmjcbmeiabbgaa.pruneDense
open Go.RowKit
open treeSplits (IntsIn)
set_option maxRecDepth 100000

/-- A pruner's variable: a box with its store's address. -/
structure PrunerVar (wr : World) (A : SA) (b sb : Nat) : Prop where
  heap : wr.heap[b]? = some (.cells #[.pointer (some ⟨sb, 0, none⟩)] 57 (0, 0))
  safe : Safe wr A b
  eq : A.sb = sb
theorem PrunerVar.fresh {wr w' : World} {A : SA} {b sb : Nat} (h : PrunerVar wr A b sb) (k : Kept (fun _ => False) wr w') : PrunerVar w' A b sb := ⟨k.get h.heap id, h.safe.fresh k, h.eq⟩
theorem PrunerVar.to {wr w' : World} {A A' : SA} {M' : SM} {b sb : Nat} (h : PrunerVar wr A b sb) (k : StoreTo A A' M' wr w') : PrunerVar w' A' b sb := ⟨k.get h.heap h.safe, h.safe.to k, k.sb.trans h.eq⟩
theorem PrunerVar.load {wr : World} {A : SA} {b sb : Nat} (h : PrunerVar wr A b sb) : ∀ j v, [Value.pointer (some ⟨sb, 0, none⟩)][j]? = some v → wr.cell? ⟨b, 0 + j, none⟩ = some v := fun j v hj => by rw [Nat.zero_add, cell_of_heap h.heap]; simpa using hj
theorem PrunerVar.c0 {wr : World} {A : SA} {b sb : Nat} (h : PrunerVar wr A b sb) : wr.cell? ⟨b, 0, none⟩ = some (.pointer (some ⟨sb, 0, none⟩)) := by rw [cell_of_heap h.heap]; rfl

/-- The entries that the tree is built of. -/
def seqE (k : Nat) : List (Int × Int) := (List.range k).map fun (i : Nat) => ((i : Int), (0 : Int))
theorem seqE_succ (k : Nat) : seqE (k + 1) = seqE k ++ [((k : Int), 0)] := by unfold seqE; rw [List.range_succ, List.map_append]; rfl
theorem seqE_len (k : Nat) : (seqE k).length = k := by unfold seqE; rw [List.length_map, List.length_range]
theorem seqE_in {k : Nat} {y : Int × Int} (h : y ∈ seqE k) : 0 ≤ y.1 ∧ y.1 < (k : Int) ∧ y.2 = 0 := by
  unfold seqE at h
  obtain ⟨i, hi, rfl⟩ := List.mem_map.1 h
  rw [List.mem_range] at hi
  exact ⟨by show (0 : Int) ≤ (i : Int); omega, by show (i : Int) < (k : Int); omega, rfl⟩
theorem one_start {s : Nat} (h0 : 0 < s) (h : s ≤ 240) : OneTree Clean s [0] (madeM s 9) (-1) [] 0 := by
  refine ⟨exact_congr (made_exact s 9 h0 h (by decide)) (fun p _ => ?_), rfl, fun q => ?_, fun b hb => ?_, ⟨List.Pairwise.nil, fun y hy => by cases hy⟩, .inl ⟨rfl, rfl⟩, made_loose s 9 h0 []⟩
  · unfold extB extOne
    rw [show (if (p : Int) = -1 then 1 else 0) = 0 from if_neg (by omega), Nat.add_zero, List.count_singleton]
    by_cases e : p = 0
    · rw [if_pos e, if_pos (by simp [e])]
    · rw [if_neg e, if_neg (by simp; exact fun e' => e e'.symm)]
  · unfold madeM PM.setCnt PM.setSt PM.fresh0
    dsimp only
    by_cases e : q = 0
    · simp [e]
    · simp [e]
  · rw [List.mem_singleton] at hb
    subst hb
    exact ⟨by rw [made_live s 9 0 h0]; rfl, _, made_node s 9, rfl, rfl⟩
/-- The build, step by step. -/
theorem seq_build : ∀ (n k : Nat) {M : SM} {root : Int}, OneTree Clean 196 [0] M root (seqE k) k → AscSt M root (seqE k) k → k + n ≤ 64 →
    ∃ M' root', SM.build ((seqE (k + n)).drop k) M root = (M', root', 0) ∧ OneTree Clean 196 [0] M' root' (seqE (k + n)) (k + n) ∧ AscSt M' root' (seqE (k + n)) (k + n) ∧ M'.log.length ≤ M.log.length + 22 * n
  | 0, k, M, root, h, hA, _ => ⟨M, root, by rw [Nat.add_zero, List.drop_eq_nil_of_le (by rw [seqE_len]; exact Nat.le_refl _)]; rfl, h, hA, Nat.le_refl _⟩
  | n + 1, k, M, root, h, hA, hk => by
    have hmax : ∀ y ∈ seqE k, y.1 < (k : Int) := fun y hy => (seqE_in hy).2.1
    have hput : putL (seqE k) ((k : Int), 0) = seqE (k + 1) := by rw [putL_end hmax, seqE_succ]
    obtain ⟨e1, e2, hI, _⟩ := one_put h clean_besides (by omega) (by decide) (by decide) (key := (k : Int)) (page := 0) (by omega) (by omega) ⟨0, List.mem_singleton.2 rfl, rfl⟩
    have hA2 := asc_put h (by decide) hA (by omega) (key := (k : Int)) (by omega) (by omega) hmax hI
    rw [hput] at hI hA2
    have hl1 := put_log M root (k : Int) 0
    have hl2 := swap_log (M.put root (k : Int) 0).1 root (M.put root (k : Int) 0).2.1
    obtain ⟨M', root', e3, hI', hA', hl⟩ := seq_build n (k + 1) hI hA2 (by omega)
    rw [show k + 1 + n = k + (n + 1) by omega] at e3 hI' hA'
    refine ⟨M', root', ?_, hI', hA', by rw [hl2] at hl; omega⟩
    have hd : (seqE (k + (n + 1))).drop k = ((k : Int), 0) :: (seqE (k + (n + 1))).drop (k + 1) := by
      have hlt : k < (seqE (k + (n + 1))).length := by rw [seqE_len]; omega
      rw [List.drop_eq_getElem_cons hlt]
      congr 1
      simp only [seqE, List.getElem_map, List.getElem_range]
    rw [hd, build_cons]
    dsimp only
    rw [if_pos e1, if_pos e2, e3]
theorem build_64 : ∃ M root, SM.build (seqE 64) (madeM 196 9) (-1) = (M, root, 0) ∧ OneTree Clean 196 [0] M root (seqE 64) 64 ∧ DenseAt M root (seqE 64) ∧ M.log.length ≤ 2000 := by
  obtain ⟨M, root, e, h, hA, hl⟩ := seq_build 64 0 (one_start (s := 196) (by decide) (by decide)) (.inl ⟨rfl, rfl, rfl⟩) (by decide)
  rw [Nat.zero_add] at e h hA
  refine ⟨M, root, e, h, asc_dense hA, ?_⟩
  have : (madeM 196 9).log.length = 1 := rfl
  omega
/-- What holds behind the build, and each cut. -/
structure DenseSt (w1 : World) (pb sb : Nat) (root : Int) (A : SA) (M : SM) (l : List (Int × Int)) (wr : World) : Prop where
  own : OwnStore w1 A M wr
  pv : PrunerVar wr A pb sb
  one : OneTree Clean 196 [0] M root l 64
  dense : DenseAt M root l
theorem dense_trim {M : SM} {root : Int} {l : List (Int × Int)} (h : OneTree Clean 196 [0] M root l 64) (hD : DenseAt M root l) {key : Int} (k0 : 0 ≤ key) (k1 : key < 64) :
    (SM.trim [key] M root).2.2 = 0 ∧ ∃ l', OneTree Clean 196 [0] (SM.trim [key] M root).1 (SM.trim [key] M root).2.1 l' 64 ∧ DenseAt (SM.trim [key] M root).1 (SM.trim [key] M root).2.1 l' := by
  rw [trim_cons]
  rcases one_cut h clean_besides (by decide) (by decide) (by decide) k0 k1 with ⟨e, _, _⟩ | ⟨e1, e2, _, _, e3, e4⟩
  · rw [e]
    exact ⟨rfl, l, h, hD⟩
  · have hd := dense_cut h (by decide) (by decide) hD k0 k1 e2 e4
    rw [if_pos e1, if_pos e2, if_pos e3]
    exact ⟨rfl, _, e4, hd⟩

set_option maxHeartbeats 8000000 in
theorem walkIn {w : World} (va : Value) (l : List Int) (hl : IntsIn w va l) : Calls Try.prog 12 #[va] w fun e w' => e = .returned (.bool true) ∧ Kept (fun _ => False) w w' := by
  obtain ⟨Aa, ca, rfl, hc1, hc2, hget⟩ := hl
  unfold maxLen at hc2
  have hget' := Lib.hid hget
  clear hget
  by_cases hlong : 80 < l.length
  · have hb : decide ((80 : Int) < (l.length : Int)) = true := by rw [decide_eq_true_eq]; omega
    clear hlong
    go_enter Try.func12, Try.ntmps12
    go_wp2_with fail
    refine (alive11 _).mono ?_
    rintro e w1 ⟨rfl, k1⟩
    have k1' := Lib.hid k1
    clear k1
    go_wp2_with fail
    go_ret
    exact ⟨rfl, k1'.out⟩
  have hshort : l.length ≤ 80 := by omega
  have hb : decide ((80 : Int) < (l.length : Int)) = false := by rw [decide_eq_false_iff_not]; omega
  have hm := fun w => made11 200 (by decide) (by decide) w
  rw [show (min (200 : Int) 244 - 4).toNat = 196 from by decide] at hm
  have hm' := Lib.hid hm
  obtain ⟨MB, rootB, hbuild, hone, hdense, hlogB⟩ := build_64
  have hbuild' := Lib.hid hbuild
  have hone' := Lib.hid hone
  have hdense' := Lib.hid hdense
  clear hm hlong hbuild hone hdense
  go_enter Try.func12, Try.ntmps12
  go_wp2_with fail
  refine (alive11 _).mono ?_
  rintro e w1 ⟨rfl, k1⟩
  have k1' := Lib.hid k1
  clear k1
  go_wp2_with fail
  refine (hm'.out _).mono ?_
  rintro e w2 ⟨A, rfl, hA, hk, hn⟩
  have O2 : OwnStore w1 A (madeM 196 9) w2 := ⟨hA, hk, hn⟩
  obtain ⟨sb, hsb⟩ : ∃ sb, A.sb = sb := ⟨_, rfl⟩
  obtain ⟨pb, hpb⟩ : ∃ pb, w2.heap.size = pb := ⟨_, rfl⟩
  obtain ⟨w3, hw3⟩ : ∃ w3, (w2.alloc (.cells #[.pointer none] 57)).setRow pb #[.pointer (some ⟨sb, 0, none⟩)] = w3 := ⟨_, rfl⟩
  have k3 : Kept (fun _ => False) w2 w3 := by rw [← hw3]; exact ((Kept.refl _ _).alloc _).setRowNew (by omega) _
  have q3 : w3.heap[pb]? = some (.cells #[.pointer (some ⟨sb, 0, none⟩)] 57 (0, 0)) := by rw [← hw3, ← hpb]; exact setRow_heap _ _ _ _ _ _ (heap_alloc_new _ _)
  have O3 := Lib.hid (O2.fresh k3)
  have V3 : Hid (PrunerVar w3 A pb sb) := Lib.hid ⟨q3, Safe.new hA (by omega) (lt_of_heap q3), hsb⟩
  have hw3' := Lib.hid hw3
  have hpb' := Lib.hid hpb
  rw [hsb]
  clear hA hk hn O2 k3 q3 hw3 hpb hsb
  go_wp2_with (first | (refine wpList_alloc_as 57 rfl rfl #[.pointer none] pruner_zero ?_; rw [hpb'.out]) | (refine wpList_store_whole 57 rfl rfl rfl [.pointer (some ⟨sb, 0, none⟩)] rfl (by kernel_rfl) 57 #[.pointer none] (by rw [← hpb'.out]; exact heap_alloc_new _ _) rfl (by intro c hc; simp at hc; subst hc; rfl) ?_; rw [hw3'.out]))
  have I4 : Hid (∃ v, v = Value.slice (some ⟨w3.heap.size, 0, none⟩) 0 0 ∧ Kept (fun _ => False) w3 (w3.alloc (.cells #[] 35)) ∧ (w3.alloc (.cells #[] 35)).ownsRow w3.heap.size 35 2 v (seqE 0).length (entCells (seqE 0))) := Lib.hid ⟨_, rfl, (Kept.refl _ _).alloc _, owns_empty w3 w3.heap.size w3.heap.size 35 2 (Nat.le_refl _) rfl⟩
  go_loopw [6, 7] (fun v i wr => ∃ (k : Nat), k ≤ 64 ∧ i = .int .i64 k ∧ Hid (Kept (fun _ => False) w3 wr ∧ wr.ownsRow w3.heap.size 35 2 v (seqE k).length (entCells (seqE k)))) (fun _ i _ => 64 - (intOf i).toNat)
  case atStart => exact ⟨0, by omega, rfl, Lib.hid (by obtain ⟨v, rfl, h1, h2⟩ := I4.out; exact ⟨h1, h2⟩)⟩
  case round =>
    obtain ⟨k, hk, rfl, hI⟩ := hrel
    by_cases hlt : k < 64
    · have hki : (k : Int) < 64 := by omega
      obtain ⟨Av, cv, rfl, hf1, hf2⟩ := EntsAt.form (show EntsAt wr _ (seqE k) from SliceAt.of_owns hI.out.2)
      unfold maxLen at hf2
      have K5 := Lib.hid (hI.out.1.trans ((Kept.refl (fun _ => False) wr).alloc (.cells #[.int .i64 k, .int .i64 0] 35)))
      have R5 := Lib.hid (ownsRow.keptOf hI.out.2 ((Kept.refl (fun _ => False) wr).alloc (.cells #[.int .i64 k, .int .i64 0] 35)) (fun _ _ => id))
      have hsl : (seqE k).length = k := seqE_len k
      have hsl' := Lib.hid hsl
      clear hI hsl
      go_wp2_with (at_builtin; refine wpList_append_src rfl elemEntry (.tmp 33) (.tmp 37) rfl (by rfl) (by rfl) R5.out (SliceAt.block_new (ys := [.int .i64 k, .int .i64 0]) (m := 1) (heap_alloc_new _ _) (by rfl) (by decide)) (by intro c hc; simp at hc; rcases hc with rfl | rfl <;> rfl) (by rw [hsl'.out]; omega) (by omega) K5.out.size ?_; intro v2 w10 hown10 hg10 hat10)
      have fin : Hid (Kept (fun _ => False) w3 w10 ∧ w10.ownsRow w3.heap.size 35 2 v2 (seqE (k + 1)).length (entCells (seqE (k + 1)))) := Lib.hid ⟨K5.out.trans_new (Kept.of_grown hg10) (fun i hi e => absurd hi (Nat.not_lt.2 (R5.out.lt i e).1)), by rw [seqE_succ, entCells_append, List.length_append]; exact hown10⟩
      clear hown10 hg10 hat10
      go_wp2_with fail
      go_roundw
      case rel => exact ⟨k + 1, by omega, by go_num, fin⟩
      case measure => simp [intOf]; omega
    · obtain rfl : k = 64 := by omega
      have O5 := Lib.hid (O3.out.fresh hI.out.1)
      have V5 := Lib.hid (V3.out.fresh hI.out.1)
      have E5 : EntsOff wr A _ (seqE 64) := ⟨SliceAt.of_owns hI.out.2, fun _ b hb => ⟨(hI.out.2.lt b hb).2, fun e => absurd (O3.out.store.lt (.inl e)) (Nat.not_lt.2 (hI.out.2.lt b hb).1)⟩⟩
      have hB := treeBuild O5.out.store E5 (by rw [seqE_len]; omega) (by show 1 + 100000 < 100000000; omega)
      rw [hbuild'.out, V5.out.eq] at hB
      have hB' := Lib.hid hB
      obtain ⟨Av, cv, rfl, hf1, hf2⟩ := EntsAt.form E5.at_
      have c50 := V5.out.c0
      have hload5 := Lib.hid V5.out.load
      clear hI E5 hB
      go_wp2_with (first | (refine wpList_load_agg 26 rfl rfl rfl _ Try.underlying26 rfl [.pointer (some ⟨sb, 0, none⟩)] (by kernel_rfl) hload5.out ?_))
      refine hB'.out.mono ?_
      rintro e w6 ⟨A6, rfl, hT6⟩
      have I6 : Hid (∃ A M L, DenseSt w1 pb sb rootB A M L w6 ∧ M.log.length ≤ 2000 + 20 * 0) := Lib.hid ⟨A6, MB, _, ⟨O5.out.to hT6, V5.out.to hT6, hone'.out, hdense'.out⟩, by omega⟩
      clear hT6 c50
      go_wp2_with fail
      go_loopw [8, 50] (fun r i wr => ∃ (k : Nat) (root : Int), k ≤ l.length ∧ i = .int .i64 k ∧ r = .int .i64 root ∧ Hid (∃ A M L, DenseSt w1 pb sb root A M L wr ∧ M.log.length ≤ 2000 + 20 * k)) (fun _ i _ => l.length - (intOf i).toNat)
      case atStart => exact ⟨0, rootB, Nat.zero_le _, rfl, rfl, I6⟩
      case round =>
        obtain ⟨k, root, hk, rfl, rfl, hI⟩ := hrel
        by_cases hlt : k < l.length
        · obtain ⟨x, hx⟩ : ∃ x, l[k]? = some x := ⟨_, List.getElem?_eq_getElem hlt⟩
          obtain ⟨ab, ao, rfl, hab, c1⟩ := hget'.out k x hx
          obtain ⟨A, M, L, St, hlog⟩ := hI.out
          have St' := Lib.hid St
          have c1' := St.own.kept.cell (k1'.out.cell c1 id) id
          have hki : (k : Int) < (l.length : Int) := by omega
          clear hx c1 St
          by_cases hx0 : x < 0
          · have hd0 : decide (x < 0) = true := by rw [decide_eq_true_eq]; exact hx0
            have fin : Hid (∃ A M L, DenseSt w1 pb sb root A M L wr ∧ M.log.length ≤ 2000 + 20 * (k + 1)) := Lib.hid ⟨A, M, L, St'.out, by omega⟩
            clear hI hx0
            go_wp2_with fail
            go_roundw
            case rel => exact ⟨k + 1, root, by omega, by go_num, rfl, fin⟩
            case measure => simp [intOf]; omega
          have hd0 : decide (x < 0) = false := by rw [decide_eq_false_iff_not]; exact hx0
          by_cases hx1 : 63 < x
          · have hd1 : decide (63 < x) = true := by rw [decide_eq_true_eq]; exact hx1
            have fin : Hid (∃ A M L, DenseSt w1 pb sb root A M L wr ∧ M.log.length ≤ 2000 + 20 * (k + 1)) := Lib.hid ⟨A, M, L, St'.out, by omega⟩
            clear hI hx1 hx0
            go_wp2_with fail
            go_roundw
            case rel => exact ⟨k + 1, root, by omega, by go_num, rfl, fin⟩
            case measure => simp [intOf]; omega
          have hd1 : decide (63 < x) = false := by rw [decide_eq_false_iff_not]; exact hx1
          have kx : Kept (fun _ => False) wr (wr.alloc (.cells #[.int .i64 x] 3)) := (Kept.refl _ _).alloc _
          have hkeys : IntsOff (wr.alloc (.cells #[.int .i64 x] 3)) A (.slice (some ⟨wr.heap.size, 0, none⟩) 1 1) [x] := ⟨SliceAt.block_new (heap_alloc_new _ _) rfl (by decide), fun _ b hb => by
            simp [Value.ownBlock] at hb
            subst hb
            exact ⟨by simp, fun e => Nat.lt_irrefl _ (St'.out.own.store.lt (.inl e))⟩⟩
          have hT := pruneTrim (St'.out.own.store.fresh kx) root hkeys (by simp) (by omega)
          rw [St'.out.pv.eq] at hT
          obtain ⟨t1, L', t2, t3⟩ := dense_trim St'.out.one St'.out.dense (key := x) (by omega) (by omega)
          have hlt2 := trim_log (St'.out.own.store) root x
          obtain ⟨R, hR⟩ : ∃ R, SM.trim [x] M root = R := ⟨_, rfl⟩
          rw [hR] at hT t1 t2 t3 hlt2
          obtain ⟨M2, root2, er⟩ := R
          dsimp only at hT t1 t2 t3 hlt2
          subst t1
          have hT' := Lib.hid hT
          have t2' := Lib.hid t2
          have t3' := Lib.hid t3
          have kx' := Lib.hid kx
          have hload := Lib.hid St'.out.pv.load
          have hload2 : Hid (∀ j v, [Value.pointer (some ⟨sb, 0, none⟩)][j]? = some v → (wr.alloc (.cells #[.int .i64 x] 3)).cell? ⟨pb, 0 + j, none⟩ = some v) := Lib.hid (St'.out.pv.fresh kx).load
          clear hT hR hI hx0 hx1 kx hkeys t2 t3
          go_wp2_with (first | (refine wpList_load_agg 57 rfl rfl rfl _ Try.underlying57 rfl [.pointer (some ⟨sb, 0, none⟩)] (by kernel_rfl) hload.out ?_))
          refine hT'.out.mono ?_
          rintro e w7 ⟨A7, rfl, hT7⟩
          have S7 : Hid (DenseSt w1 pb sb root2 A7 M2 L' w7) := Lib.hid ⟨(St'.out.own.fresh kx'.out).to hT7, (St'.out.pv.fresh kx'.out).to hT7, t2'.out, t3'.out⟩
          have hL := treeList S7.out.own.store root2
          rw [S7.out.one.list (by decide), S7.out.pv.eq] at hL
          dsimp only at hL
          have hL' := Lib.hid hL
          have hload7 := Lib.hid S7.out.pv.load
          clear hT7 hL
          go_wp2_with (first | (refine wpList_load_agg 26 rfl rfl rfl _ Try.underlying26 rfl [.pointer (some ⟨sb, 0, none⟩)] (by kernel_rfl) hload7.out ?_))
          refine hL'.out.mono ?_
          rintro e w8 ⟨v8, rfl, hown8, hk8⟩
          obtain ⟨A8, c8, rfl, hf1, hf2⟩ := EntsAt.form (show EntsAt w8 v8 L' from SliceAt.of_owns hown8)
          unfold maxLen at hf2
          have S8 : Hid (DenseSt w1 pb sb root2 A7 M2 L' w8) := Lib.hid ⟨S7.out.own.fresh hk8, S7.out.pv.fresh hk8, S7.out.one, S7.out.dense⟩
          have c80 := Lib.hid S8.out.pv.c0
          have hcnt := dense_count S8.out.one S8.out.dense
          have hlen := S8.out.one.len
          have hsz : Hid (M2.pool.size = 196) := Lib.hid S8.out.one.size
          have hfr : M2.pool.freeCount ≤ 196 := by have h1 := M2.pool.freeN_le M2.pool.size; have h2 := hsz.out; unfold PM.freeCount; omega
          obtain ⟨fr, hfre⟩ : ∃ fr, M2.pool.freeCount = fr := ⟨_, rfl⟩
          rw [hfre] at hcnt hfr
          have hfre' := Lib.hid hfre
          obtain ⟨n, hn⟩ : ∃ n, L'.length = n := ⟨_, rfl⟩
          have hn' := Lib.hid hn
          rw [hn] at hcnt hlen hf1 ⊢
          have a1 : IntKind.i64.wrap ((196 : Int) - (fr : Int)) = (196 : Int) - (fr : Int) := by rw [IntKind.wrap_i64]; omega
          have a2 : IntKind.i64.wrap ((196 : Int) - (fr : Int) - 1) = (196 : Int) - (fr : Int) - 1 := by rw [IntKind.wrap_i64]; omega
          have a3 : (n : Int).tdiv 2 = (n : Int) / 2 := Int.tdiv_eq_ediv_of_nonneg (by omega)
          have a4 : IntKind.i64.wrap ((n : Int) / 2) = (n : Int) / 2 := by rw [IntKind.wrap_i64]; omega
          have a5 : IntKind.i64.wrap ((n : Int) + (n : Int) / 2) = (n : Int) + (n : Int) / 2 := by rw [IntKind.wrap_i64]; omega
          have a6 : IntKind.i64.wrap ((n : Int) + (n : Int) / 2 + 1) = (n : Int) + (n : Int) / 2 + 1 := by rw [IntKind.wrap_i64]; omega
          have a7 : decide ((n : Int) + (n : Int) / 2 + 1 < (196 : Int) - (fr : Int) - 1) = false := by rw [decide_eq_false_iff_not]; omega
          have fin : Hid (∀ wz, Kept (fun _ => False) w8 wz → ∃ A M L, DenseSt w1 pb sb root2 A M L wz ∧ M.log.length ≤ 2000 + 20 * (k + 1)) := Lib.hid (fun wz hz => ⟨A7, M2, L', ⟨S8.out.own.fresh hz, S8.out.pv.fresh hz, S8.out.one, S8.out.dense⟩, by omega⟩)
          clear hown8 hk8 hfre hn hcnt hlog hlt2
          go_wp2_with fail
          refine wp_region_quiet (C := fun w' => Kept (fun _ => False) w8 w') (by kernel_rfl) (by kernel_rfl) (Kept.refl _ _).drew ?_
          simp only []
          refine wpQuiet_step (fun K hK => ?_); go_simp; refine ⟨_, fun _ _ => rfl, hK _ ?_⟩; clear hK K
          refine wpQuiet_step (fun K hK => ?_); go_simp; refine ⟨_, fun _ _ => rfl, hK _ ?_⟩; clear hK K
          refine wpQuiet_step (fun K hK => ?_); go_simp; refine ⟨_, fun _ _ => rfl, hK _ ?_⟩; clear hK K
          refine wpQuiet_step (fun K hK => ?_); go_simp; refine ⟨_, fun _ _ => rfl, hK _ ?_⟩; clear hK K
          refine wpQuiet_step (fun K hK => ?_); go_simp; refine ⟨_, fun _ _ => rfl, hK _ ?_⟩; clear hK K
          refine wpQuiet_step (fun K hK => ?_); refine q_on rfl (q_val (.pointer (some ⟨sb, 0, none⟩)) (fun W hW => by have hc := hW.cell c80.out id; clear hW; go_simp) (hK _ ?_)); clear hK K
          refine wpQuiet_step (fun K hK => ?_); go_simp; refine ⟨_, fun W hW => Calls.stay hW (by have h := storePool (S8.out.own.store.fresh hW); rw [S8.out.pv.eq] at h; exact h), hK _ ?_⟩; clear hK K
          refine wpQuiet_step (fun K hK => ?_); go_simp; refine ⟨_, fun W hW => Calls.stay hW (by have h := size_any (S8.out.own.store.fresh hW).pool; rw [hsz.out] at h; exact h), hK _ ?_⟩; clear hK K
          refine wpQuiet_step (fun K hK => ?_); go_simp; refine ⟨_, fun _ _ => rfl, hK _ ?_⟩; clear hK K
          refine wpQuiet_step (fun K hK => ?_); go_simp; refine ⟨_, fun _ _ => rfl, hK _ ?_⟩; clear hK K
          refine wpQuiet_step (fun K hK => ?_); refine q_on rfl (q_val (.pointer (some ⟨sb, 0, none⟩)) (fun W hW => by have hc := hW.cell c80.out id; clear hW; go_simp) (hK _ ?_)); clear hK K
          refine wpQuiet_step (fun K hK => ?_); go_simp; refine ⟨_, fun W hW => Calls.stay hW (by have h := storePool (S8.out.own.store.fresh hW); rw [S8.out.pv.eq] at h; exact h), hK _ ?_⟩; clear hK K
          refine wpQuiet_step (fun K hK => ?_); go_simp; refine ⟨_, fun W hW => Calls.stay hW (by have h := freeCount_any (S8.out.own.store.fresh hW).pool; rw [hfre'.out] at h; exact h), hK _ ?_⟩; clear hK K
          refine wpQuiet_step (fun K hK => ?_); go_simp; refine ⟨_, fun _ _ => rfl, hK _ ?_⟩; clear hK K
          refine wpQuiet_step (fun K hK => ?_); go_simp; refine ⟨_, fun _ _ => rfl, hK _ ?_⟩; clear hK K
          refine wpQuiet_step (fun K hK => ?_); go_simp; refine ⟨_, fun _ _ => rfl, hK _ ?_⟩; clear hK K
          refine wpQuiet_step (fun K hK => ?_); go_simp; refine ⟨_, fun _ _ => rfl, hK _ ?_⟩; clear hK K
          refine wpQuiet_step (fun K hK => ?_); go_simp; refine ⟨_, fun _ _ => rfl, hK _ ?_⟩; clear hK K
          refine wpQuiet_step (fun K hK => ?_); go_simp; refine ⟨_, fun _ _ => rfl, hK _ ?_⟩; clear hK K
          refine wpQuiet_step (fun K hK => ?_); go_simp; refine ⟨_, fun _ _ => rfl, hK _ ?_⟩; clear hK K
          refine wpQuiet_step (fun K hK => ?_); go_simp; refine ⟨_, fun _ _ => rfl, hK _ ?_⟩; clear hK K
          refine wpQuiet_step (fun K hK => ?_); go_simp; refine ⟨_, fun _ _ => rfl, hK _ ?_⟩; clear hK K
          refine wpQuiet_step (fun K hK => ?_); go_simp; refine ⟨_, fun _ _ => rfl, hK _ ?_⟩; clear hK K
          refine wpQuiet_step (fun K hK => ?_); go_simp; refine ⟨_, fun _ _ => rfl, hK _ ?_⟩; clear hK K
          refine wpQuiet_nil ?_
          intro wq hwq
          have fin2 := Lib.hid (fin.out _ hwq)
          clear hwq
          go_wp2_with fail
          go_roundw
          case rel => exact ⟨k + 1, root2, by omega, by go_num, rfl, fin2⟩
          case measure => simp [intOf]; omega
        · obtain rfl : k = l.length := by omega
          have hkk : Hid (Kept (fun _ => False) w1 wr) := Lib.hid (by obtain ⟨A, M, L, St, _⟩ := hI.out; exact St.own.kept)
          clear hI
          go_wp2_with fail
          go_ret
          exact ⟨rfl, k1'.out.trans hkk.out⟩
end Go.Proofs.Ythmjcbmeiabbgaa.pruneDense
