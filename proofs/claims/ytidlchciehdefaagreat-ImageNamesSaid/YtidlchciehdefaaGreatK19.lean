/-
  Images, plain: a block is read; what can be reached.
-/
import Derived.Test.YtidlchciehdefaaGreatK06
import Derived.Test.YtidlchciehdefaaGreatK08
import Derived.Test.YtidlchciehdefaaGreatK12
import Derived.Test.YtidlchciehdefaaGreatK17
import Derived.Test.YtidlchciehdefaaGreatK18
set_option linter.unusedVariables false
set_option linter.unusedSimpArgs false
namespace Go.Proofs.YtidlchciehdefaaGreat
open Go.RowKit

section
variable {m : Nat} {M : SM} {ext : Nat → Nat} {root : Int} {l : List (Int × Int)} {P : Nat} {i : IM}
theorem TreeIn.find (t : TreeIn m M root l P) (E : Exact M ext) (hP : P ≤ 150) (key : Int) : M.find root key = (findL l key, 0) := by
  obtain ⟨k, hr, hk, _⟩ := t.rooted hP
  rcases hr with ⟨e, el, _⟩ | tt
  · subst e el
    rfl
  · exact find_ok k 0 root l (by omega) tt (t.good E)
/-- A page of a block. -/
theorem Img.page (h : Img m M i) (E : Exact M ext) {y : Int × Int} (hy : y ∈ i.l) : ∃ d, M.get y.2 = (d, 0) ∧ d.kind = 1 ∧ d.block = i.w y.1 := by
  obtain ⟨n, hn, _, hg⟩ := get_live E (h.tree.held E y hy)
  obtain ⟨d, hd, e1, e2, _⟩ := h.data y hy
  rw [hd] at hn
  cases hn
  exact ⟨n, hg, e1, e2⟩
theorem Img.low (h : Img m M i) (E : Exact M ext) {y : Int × Int} (hy : y ∈ i.l) : 0 ≤ y.2 := (heldB_int (h.tree.held E y hy)).1
/-- What is read at a key. -/
theorem Img.read (h : Img m M i) (E : Exact M ext) {key : Int} (k0 : 0 ≤ key) (k1 : key < 64) :
    (findL i.l key = -1 ∧ i.w key = zeros16) ∨ (findL i.l key ≠ -1 ∧ ∃ d, M.get (findL i.l key) = (d, 0) ∧ d.kind = 1 ∧ d.block = i.w key) := by
  by_cases e : findL i.l key = -1
  · exact .inl ⟨e, h.zero key k0 k1 (findL_neg (fun y hy => h.low E hy) e)⟩
  · exact .inr ⟨e, h.page E (findL_pos e)⟩
end
/-- Of each image just its entries' blocks, and zeros elsewhere: set one behind the other. -/
theorem img_all {m : Nat} {M : SM} {i : IM} (h : Img m M i) {k : Nat} (hk : k < 64) : i.w (k : Int) = if (∃ y ∈ i.l, y.1 = (k : Int)) then i.w (k : Int) else zeros16 := by
  by_cases e : ∃ y ∈ i.l, y.1 = (k : Int)
  · rw [if_pos e]
  · rw [if_neg e]
    exact h.zero _ (by omega) (by omega) fun y hy he => e ⟨y, hy, he⟩
/-- Pages whose count isn't nought are just those that are reached. -/
theorem imgs_reach {m : Nat} {M : SM} {is : List IM} (h : Imgs m M is) : ∃ L, M.reach (is.map (·.root)) = (L, 0) ∧ L.length = sumN (fun q => if decide (0 < M.pool.cnt q) then 1 else 0) M.pool.size := by
  have hr : ∀ r ∈ is.map (·.root), r = -1 ∨ M.pool.heldB r = true := fun r hr => by
    obtain ⟨i, hi, rfl⟩ := List.mem_map.1 hr
    rcases (h.img i hi).tree.root with ⟨e, _⟩ | ⟨_, t, _⟩
    · exact .inl e
    · exact .inr t.held
  obtain ⟨L, e, R⟩ := reach_ok h.exact hr
  refine ⟨L, e, ?_⟩
  have hcnt : ∀ q, M.live q = true → 0 < M.pool.cnt q := fun q hq => Nat.pos_of_ne_zero fun e => by
    obtain ⟨y, hy, _⟩ := h.loose q hq e
    cases hy
  have hin : ∀ q, M.live q = true → q ∈ L.map Int.toNat := reach_all h.exact h.loose (fun q hq h0 => by
      unfold extL at h0
      have hm := List.count_pos_iff.1 h0
      exact List.mem_map.2 ⟨(q : Int), R.next _ hm (by omega), Int.toNat_natCast q⟩) (fun q hq x hx => by
      obtain ⟨y, hy, rfl⟩ := List.mem_map.1 hq
      exact List.mem_map.2 ⟨x.2, R.kids y hy x hx, rfl⟩)
  have hnd : (L.map Int.toNat).Nodup := by
    rw [List.nodup_iff_pairwise_ne, List.pairwise_map]
    refine R.nodup.imp_of_mem fun ha hb hne => ?_
    have h0 := (heldB_int (R.live _ ha)).1
    have h1 := (heldB_int (R.live _ hb)).1
    omega
  have hsum := sum_list_eq (f := fun _ => 1) (L.map Int.toNat) (fun q => decide (0 < M.pool.cnt q)) M.pool.size hnd
    (fun q hq => by
      obtain ⟨y, hy, rfl⟩ := List.mem_map.1 hq
      have hl := (heldB_int (R.live y hy)).2
      exact ⟨live_lt (M := M) hl, decide_eq_true (hcnt _ hl)⟩)
    (fun q hq hc => hin q (by
      have hc' : 0 < M.pool.cnt q := of_decide_eq_true hc
      unfold SM.live PM.live
      simp [hq, hc']))
  have hone : ∀ L : List Nat, (L.map fun _ => 1).sum = L.length := fun L => by
    induction L with
    | nil => rfl
    | cons a L ih => rw [List.map_cons, List.sum_cons, ih, List.length_cons]; omega
  rw [hone, List.length_map] at hsum
  exact hsum.symm
end Go.Proofs.YtidlchciehdefaaGreat
/-
  Images, plain: an image's 64 blocks as one row of bytes.
-/
namespace Go.Proofs.YtidlchciehdefaaGreat
open Go.RowKit

def blocksOf (w : Int → List Nat) : List (List Nat) := (List.range 64).map fun (k : Nat) => w (k : Int)
theorem blocksOf_len (w : Int → List Nat) : (blocksOf w).length = 64 := by unfold blocksOf; simp
theorem blocksOf_get (w : Int → List Nat) {k : Nat} (h : k < 64) : (blocksOf w)[k]? = some (w (k : Int)) := by unfold blocksOf; simp [h]
theorem blocksOf_upd (w : Int → List Nat) {k : Nat} (b : List Nat) : blocksOf (upd w (k : Int) b) = (blocksOf w).set k b := by
  refine List.ext_getElem? fun j => ?_
  by_cases hj : j < 64
  · rw [blocksOf_get _ hj, List.getElem?_set]
    unfold upd
    by_cases e : k = j
    · subst e
      rw [if_pos rfl, if_pos rfl, if_pos (by rw [blocksOf_len]; exact hj)]
    · rw [if_neg (show ¬ ((j : Nat) : Int) = (k : Int) by omega), if_neg e, blocksOf_get _ hj]
  · rw [List.getElem?_eq_none (by rw [blocksOf_len]; omega), List.getElem?_eq_none (by rw [List.length_set, blocksOf_len]; omega)]
/-- Blocks of bytes. -/
structure Bytes (w : Int → List Nat) : Prop where
  len : ∀ k, (w k).length = 16
  lt : ∀ k, ∀ x ∈ w k, x < 256
theorem Bytes.zero : Bytes (fun _ => zeros16) := ⟨fun _ => zeros_ok.1, fun _ => zeros_ok.2.1⟩
theorem Bytes.upd {w : Int → List Nat} (h : Bytes w) (key : Int) {b : List Nat} (hb : b.length = 16) (h256 : ∀ x ∈ b, x < 256) : Bytes (Go.Proofs.YtidlchciehdefaaGreat.upd w key b) := by
  refine ⟨fun k => ?_, fun k => ?_⟩
  · unfold Go.Proofs.YtidlchciehdefaaGreat.upd; split
    · exact hb
    · exact h.len k
  · unfold Go.Proofs.YtidlchciehdefaaGreat.upd; split
    · exact h256
    · exact h.lt k
theorem Bytes.wipe {w : Int → List Nat} (h : Bytes w) (key : Int) : Bytes (Go.Proofs.YtidlchciehdefaaGreat.upd w key zeros16) := h.upd key zeros_ok.1 zeros_ok.2.1
theorem blocksOf_each {w : Int → List Nat} (h : Bytes w) : ∀ l ∈ blocksOf w, l.length = 16 := fun l hl => by
  obtain ⟨k, _, rfl⟩ := List.mem_map.1 hl
  exact h.len k
theorem rowl_len {α : Type} : ∀ {ls : List (List α)}, (∀ l ∈ ls, l.length = 16) → ls.flatten.length = ls.length * 16
  | [], _ => rfl
  | l :: ls, h => by
    rw [List.flatten_cons, List.length_append, h l (List.mem_cons_self ..), rowl_len (fun x hx => h x (List.mem_cons_of_mem _ hx)), List.length_cons]
    omega
theorem rowl_set {α : Type} {b : List α} (hb : b.length = 16) : ∀ {ls : List (List α)} {k : Nat}, (∀ l ∈ ls, l.length = 16) → k < ls.length → (ls.set k b).flatten = ls.flatten.take (k * 16) ++ b ++ ls.flatten.drop (k * 16 + 16)
  | [], _, _, h => by simp at h
  | l :: ls, 0, h, _ => by
    rw [List.set_cons_zero, List.flatten_cons, List.flatten_cons, Nat.zero_mul, Nat.zero_add, List.take_zero, List.nil_append]
    rw [List.drop_append_of_le_length (by rw [h l (List.mem_cons_self ..)]; exact Nat.le_refl _), List.drop_eq_nil_of_le (by rw [h l (List.mem_cons_self ..)]; exact Nat.le_refl _), List.nil_append]
  | l :: ls, k + 1, h, hk => by
    have hl := h l (List.mem_cons_self ..)
    rw [List.set_cons_succ, List.flatten_cons, List.flatten_cons, rowl_set hb (fun x hx => h x (List.mem_cons_of_mem _ hx)) (by simpa using hk)]
    rw [show (k + 1) * 16 = l.length + k * 16 by omega, show l.length + k * 16 + 16 = l.length + (k * 16 + 16) by omega, List.take_length_add_append, List.drop_length_add_append]
    simp only [List.append_assoc]
theorem rowl_get {α : Type} : ∀ {ls : List (List α)} {k j : Nat} {l : List α}, (∀ l ∈ ls, l.length = 16) → ls[k]? = some l → j < 16 → ls.flatten[k * 16 + j]? = l[j]?
  | [], _, _, _, _, h, _ => by simp at h
  | a :: ls, 0, j, l, h, hk, hj => by
    simp at hk
    subst hk
    rw [List.flatten_cons, Nat.zero_mul, Nat.zero_add, List.getElem?_append_left (by rw [h a (List.mem_cons_self ..)]; exact hj)]
  | a :: ls, k + 1, j, l, h, hk, hj => by
    have ha := h a (List.mem_cons_self ..)
    rw [List.flatten_cons, List.getElem?_append_right (by rw [ha]; omega), ha, show (k + 1) * 16 + j - 16 = k * 16 + j by omega]
    exact rowl_get (fun x hx => h x (List.mem_cons_of_mem _ hx)) (by simpa using hk) hj
/-- An image's bytes, as cells. -/
def imgBytes (w : Int → List Nat) : List Nat := (blocksOf w).flatten
def imgCells (w : Int → List Nat) : List Value := byteCells (imgBytes w)
theorem imgBytes_len {w : Int → List Nat} (h : Bytes w) : (imgBytes w).length = 1024 := by
  unfold imgBytes
  rw [rowl_len (blocksOf_each h), blocksOf_len]
theorem imgBytes_lt {w : Int → List Nat} (h : Bytes w) : ∀ x ∈ imgBytes w, x < 256 := fun x hx => by
  obtain ⟨l, hl, hx⟩ := List.mem_flatten.1 hx
  obtain ⟨k, _, rfl⟩ := List.mem_map.1 hl
  exact h.lt k x hx
theorem imgCells_len {w : Int → List Nat} (h : Bytes w) : (imgCells w).length = 1024 := by unfold imgCells; rw [byteCells_len, imgBytes_len h]
theorem imgCells_upd {w : Int → List Nat} (h : Bytes w) {k : Nat} (hk : k < 64) {b : List Nat} (hb : b.length = 16) :
    imgCells (upd w (k : Int) b) = (imgCells w).take (k * 16) ++ byteCells b ++ (imgCells w).drop (k * 16 + 16) := by
  unfold imgCells imgBytes
  rw [blocksOf_upd, rowl_set hb (blocksOf_each h) (by rw [blocksOf_len]; exact hk), byteCells_append, byteCells_append]
  unfold byteCells
  rw [List.map_take, List.map_drop]
theorem imgCells_get {w : Int → List Nat} (h : Bytes w) {k j : Nat} (hk : k < 64) (hj : j < 16) : (imgCells w)[k * 16 + j]? = (byteCells (w (k : Int)))[j]? := by
  unfold imgCells imgBytes byteCells
  rw [List.getElem?_map, List.getElem?_map, rowl_get (blocksOf_each h) (blocksOf_get w hk) hj]
end Go.Proofs.YtidlchciehdefaaGreat
/-
  Two trees held against one another (package diff): one, Apply.
-/
namespace Go.Proofs.YtidlchciehdefaaGreat
open Go.RowKit
set_option maxRecDepth 100000

theorem change_zero : (Tryz.prog.info? 92).map (·.zero) = some (some (.agg #[.int .i64 0, .int .i64 0])) := by kernel_rfl
set_option maxHeartbeats 4000000 in
theorem diffOne {w : World} {A : SA} {M : SM} (h : StoreAt w A M) (root : Int) (c : Int × Int) (hfew : M.log.length + 30 < 100000000) :
    Calls Tryz.prog 103 #[.agg #[.pointer (some ⟨A.sb, 0, none⟩)], .int .i64 root, .agg #[.int .i64 c.1, .int .i64 c.2]] w fun e w' => ∃ A', e = .returned (.tuple #[.int .i64 (M.one root c).2.1, .int .i64 (M.one root c).2.2]) ∧ StoreTo A A' (M.one root c).1 w w' := by
  obtain ⟨db, hdb⟩ : ∃ db, w.heap.size = db := ⟨_, rfl⟩
  obtain ⟨w1, hw1⟩ : ∃ w1, w.alloc (.cells #[.pointer (some ⟨A.sb, 0, none⟩)] 30) = w1 := ⟨_, rfl⟩
  obtain ⟨cb, hcb⟩ : ∃ cb, w1.heap.size = cb := ⟨_, rfl⟩
  obtain ⟨w2, hw2⟩ : ∃ w2, w1.alloc (.cells #[.int .i64 c.1, .int .i64 c.2] 92) = w2 := ⟨_, rfl⟩
  have k1 : Kept (fun _ => False) w w1 := by rw [← hw1]; exact (Kept.refl _ _).alloc _
  have k12 : Kept (fun _ => False) w1 w2 := by rw [← hw2]; exact (Kept.refl _ _).alloc _
  have t1 : w1.heap[db]? = some (.cells #[.pointer (some ⟨A.sb, 0, none⟩)] 30 (0, 0)) := by rw [← hw1, ← hdb]; exact heap_alloc_new _ _
  have t2 := k12.get t1 id
  have tc : w2.heap[cb]? = some (.cells #[.int .i64 c.1, .int .i64 c.2] 92 (0, 0)) := by rw [← hw2, ← hcb]; exact heap_alloc_new _ _
  have c0 := cell_of_heap tc 0
  have c1 := cell_of_heap tc 1
  simp at c0 c1
  have hload : Hid (∀ j v, [Value.pointer (some ⟨A.sb, 0, none⟩)][j]? = some v → w2.cell? ⟨db, 0 + j, none⟩ = some v) := Lib.hid (fun j v hj => by rw [Nat.zero_add, cell_of_heap t2]; simpa using hj)
  have k2 := Lib.hid (k1.trans k12)
  have h2 := Lib.hid (h.fresh (k1.trans k12))
  have hw1' := Lib.hid hw1
  have hw2' := Lib.hid hw2
  have hdb' := Lib.hid hdb
  have hcb' := Lib.hid hcb
  clear hw1 hw2 hdb hcb k1 k12 t1 t2 tc h
  by_cases hc : c.2 = -1
  · have hb : (c.2 == -1) = true := by simp [hc]
    have hone : Hid (M.one root c = ((M.cut root c.1).1, (M.cut root c.1).2.1, (M.cut root c.1).2.2.2)) := Lib.hid (by unfold SM.one; rw [if_pos hc])
    have hP := pruneCut h2.out root c.1 (by omega)
    obtain ⟨R, hR⟩ : ∃ R, M.cut root c.1 = R := ⟨_, rfl⟩
    rw [hR] at hP hone
    obtain ⟨M1, next, was, er⟩ := R
    dsimp only at hP hone
    rw [hone.out]
    dsimp only
    have hP' := Lib.hid hP
    clear hP hR hc hone
    go_enter Tryz.func103, Tryz.ntmps103
    go_wp2_with (first | (refine wpList_box_named 30 rfl rfl _ rfl hw1'.out ?_; rw [hdb'.out]) | (refine wpList_box_named 92 rfl rfl _ rfl hw2'.out ?_; rw [hcb'.out]) | (refine wpList_load_agg 28 rfl rfl rfl _ Tryz.underlying28 rfl [.pointer (some ⟨A.sb, 0, none⟩)] (by kernel_rfl) hload.out ?_))
    refine hP'.out.mono ?_
    rintro e w3 ⟨A3, rfl, hT⟩
    have T := Lib.hid (StoreTo.before k2.out hT)
    clear hT
    go_wp2_with fail
    go_ret2
    exact ⟨A3, rfl, T.out⟩
  · have hb : (c.2 == -1) = false := by simp [hc]
    have hone : Hid (M.one root c = M.put root c.1 c.2) := Lib.hid (by unfold SM.one; rw [if_neg hc])
    have hP := treePut h2.out root c.1 c.2 (by omega)
    rw [hone.out]
    obtain ⟨R, hR⟩ : ∃ R, M.put root c.1 c.2 = R := ⟨_, rfl⟩
    rw [hR] at hP ⊢
    obtain ⟨M1, next, er⟩ := R
    dsimp only at hP ⊢
    have hP' := Lib.hid hP
    clear hP hR hc hone
    go_enter Tryz.func103, Tryz.ntmps103
    go_wp2_with (first | (refine wpList_box_named 30 rfl rfl _ rfl hw1'.out ?_; rw [hdb'.out]) | (refine wpList_box_named 92 rfl rfl _ rfl hw2'.out ?_; rw [hcb'.out]) | (refine wpList_load_agg 26 rfl rfl rfl _ Tryz.underlying26 rfl [.pointer (some ⟨A.sb, 0, none⟩)] (by kernel_rfl) hload.out ?_))
    refine hP'.out.mono ?_
    rintro e w3 ⟨A3, rfl, hT⟩
    have T := Lib.hid (StoreTo.before k2.out hT)
    clear hT
    go_wp2_with fail
    go_ret2
    exact ⟨A3, rfl, T.out⟩
theorem one_log {w : World} {A : SA} {M : SM} (h : StoreAt w A M) (root : Int) (c : Int × Int) : (M.one root c).1.log.length ≤ M.log.length + 22 := by
  unfold SM.one
  split
  · have := cut_log h root c.1; dsimp only; omega
  · exact put_log M root c.1 c.2
theorem changes_cons (c : Int × Int) (cs : List (Int × Int)) (M : SM) (root : Int) : SM.changes (c :: cs) M root = if (M.change root c).2.2 = 0 then SM.changes cs (M.change root c).1 (M.change root c).2.1 else M.change root c := rfl
/-- What holds in the midst of Apply. -/
structure ApSt (w : World) (A : SA) (M : SM) (cs : List (Int × Int)) (root : Int) (v : Value) (k : Nat) (root' : Int) (A' : SA) (M' : SM) (wr : World) : Prop where
  to_ : StoreTo A A' M' w wr
  db : wr.heap[w.heap.size]? = some (.cells #[.pointer (some ⟨A.sb, 0, none⟩)] 30 (0, 0))
  sp : Safe wr A' w.heap.size
  ents : EntsOff wr A' v cs
  rest : SM.changes (cs.drop k) M' root' = SM.changes cs M root
  log : M'.log.length ≤ M.log.length + 22 * k
theorem ApSt.load {w wr : World} {A A' : SA} {M M' : SM} {cs : List (Int × Int)} {root root' : Int} {v : Value} {k : Nat} (h : ApSt w A M cs root v k root' A' M' wr) : ∀ j u, [Value.pointer (some ⟨A.sb, 0, none⟩)][j]? = some u → wr.cell? ⟨w.heap.size, 0 + j, none⟩ = some u := fun j u hj => by rw [Nat.zero_add, cell_of_heap h.db]; simpa using hj
theorem ApSt.fresh {w wr w' : World} {A A' : SA} {M M' : SM} {cs : List (Int × Int)} {root root' : Int} {v : Value} {k : Nat} (h : ApSt w A M cs root v k root' A' M' wr) (q : Kept (fun _ => False) wr w') : ApSt w A M cs root v k root' A' M' w' :=
  ⟨h.to_.fresh q, q.get h.db id, h.sp.fresh q, h.ents.fresh q, h.rest, h.log⟩
set_option maxHeartbeats 8000000 in
theorem diffApply {w : World} {A : SA} {M : SM} (h : StoreAt w A M) (root : Int) {v : Value} {cs : List (Int × Int)} (hv : EntsOff w A v cs) (hcs : cs.length ≤ 1000) (hfew : M.log.length + 100000 < 100000000) :
    Calls Tryz.prog 65 #[.agg #[.pointer (some ⟨A.sb, 0, none⟩)], .int .i64 root, v] w fun e w' => ∃ A', e = .returned (.tuple #[.int .i64 (SM.changes cs M root).2.1, .int .i64 (SM.changes cs M root).2.2]) ∧ StoreTo A A' (SM.changes cs M root).1 w w' := by
  obtain ⟨Av, cap, rfl, hc1, hc2⟩ := hv.at_.form
  unfold maxLen at hc2
  obtain ⟨w1, hw1⟩ : ∃ w1, w.alloc (.cells #[.pointer (some ⟨A.sb, 0, none⟩)] 30) = w1 := ⟨_, rfl⟩
  have k1 : Kept (fun _ => False) w w1 := by rw [← hw1]; exact (Kept.refl _ _).alloc _
  have I1 : Hid (∃ A' M', ApSt w A M cs root (.slice Av cs.length cap) 0 root A' M' w1) := Lib.hid ⟨A, M, (StoreTo.refl h).fresh k1, by rw [← hw1]; exact heap_alloc_new _ _, Safe.new h (Nat.le_refl _) (by rw [← hw1]; simp), hv.fresh k1, rfl, Nat.le_refl _⟩
  have hw1' := Lib.hid hw1
  clear hw1 k1 h hv
  go_enter Tryz.func65, Tryz.ntmps65
  go_wp2_with (first | (refine wpList_box_named 30 rfl rfl _ rfl hw1'.out ?_))
  go_loopw [1, 14] (fun r i wr => ∃ (k : Nat) (root' : Int), k ≤ cs.length ∧ i = .int .i64 k ∧ r = .int .i64 root' ∧ Hid (∃ A' M', ApSt w A M cs root (.slice Av cs.length cap) k root' A' M' wr)) (fun _ i _ => cs.length - (intOf i).toNat)
  case atStart => exact ⟨0, root, Nat.zero_le _, rfl, rfl, I1⟩
  case round =>
    obtain ⟨k, root', hk, rfl, rfl, hI⟩ := hrel
    obtain ⟨A', M', St⟩ := hI.out
    by_cases hlt : k < cs.length
    · obtain ⟨x, hx⟩ : ∃ x, cs[k]? = some x := ⟨_, List.getElem?_eq_getElem hlt⟩
      obtain ⟨eb, eo, rfl, heb, hx0, hx1⟩ := St.ents.at_.get hx
      have hd : cs.drop k = x :: cs.drop (k + 1) := by rw [List.drop_eq_getElem_cons hlt, (List.getElem?_eq_some_iff.1 hx).2]
      have hrest := St.rest
      rw [hd] at hrest
      have hki : (k : Int) < (cs.length : Int) := by omega
      have hlo : Hid (∀ i v, [Value.int .i64 x.1, .int .i64 x.2][i]? = some v → wr.cell? ⟨eb, eo + k * 2 + i, none⟩ = some v) := Lib.hid (fun i v hi => by
        match i, hi with
        | 0, hi => cases hi; exact hx0
        | 1, hi => cases hi; exact hx1)
      obtain ⟨xb, hxb⟩ : ∃ xb, wr.heap.size = xb := ⟨_, rfl⟩
      obtain ⟨wx, hwx⟩ : ∃ wx, (wr.alloc (.cells #[.int .i64 0, .int .i64 0] 92)).setRow xb #[.int .i64 x.1, .int .i64 x.2] = wx := ⟨_, rfl⟩
      have kx : Kept (fun _ => False) wr wx := by rw [← hwx]; exact ((Kept.refl _ _).alloc _).setRowNew (by omega) _
      have qx : wx.heap[xb]? = some (.cells #[.int .i64 x.1, .int .i64 x.2] 92 (0, 0)) := by rw [← hwx, ← hxb]; exact setRow_heap _ _ _ _ _ _ (heap_alloc_new _ _)
      have hlx : Hid (∀ i v, [Value.int .i64 x.1, .int .i64 x.2][i]? = some v → wx.cell? ⟨xb, 0 + i, none⟩ = some v) := Lib.hid (fun i v hi => by rw [cell_of_heap qx, Nat.zero_add]; simpa using hi)
      have Sx := Lib.hid (St.fresh kx)
      have hld := Lib.hid Sx.out.load
      have hone := diffOne Sx.out.to_.store root' x (by have := St.log; omega)
      rw [St.to_.sb] at hone
      have hlog := one_log Sx.out.to_.store root' x
      rw [changes_cons] at hrest
      unfold SM.change at hrest
      obtain ⟨R, hR⟩ : ∃ R, M'.one root' x = R := ⟨_, rfl⟩
      simp only [hR] at hrest hone hlog
      obtain ⟨M1, next, er⟩ := R
      dsimp only at hrest hone hlog
      have hone' := Lib.hid hone
      have hrest' := Lib.hid hrest
      have hlog' := Lib.hid hlog
      have hxb' := Lib.hid hxb
      have hwx' := Lib.hid hwx
      clear hone hR hx hx0 hx1 hd hI St hrest hlog kx qx hxb hwx I1
      go_wp2_with (first | (refine wpList_load_agg 92 rfl rfl rfl _ Tryz.underlying92 rfl [.int .i64 x.1, .int .i64 x.2] (by kernel_rfl) hlo.out ?_) | (refine wpList_load_agg 92 rfl rfl rfl _ Tryz.underlying92 rfl [.int .i64 x.1, .int .i64 x.2] (by kernel_rfl) hlx.out ?_) | (refine wpList_alloc_as 92 rfl rfl #[.int .i64 0, .int .i64 0] (by kernel_rfl) ?_; rw [hxb'.out]) | (refine wpList_store_whole 92 rfl rfl rfl [.int .i64 x.1, .int .i64 x.2] rfl (by kernel_rfl) 92 #[.int .i64 0, .int .i64 0] (by rw [← hxb'.out]; exact heap_alloc_new _ _) rfl (by intro c hc; simp at hc; rcases hc with rfl | rfl <;> rfl) ?_; rw [hwx'.out]) | (refine wpList_load_agg 30 rfl rfl rfl _ Tryz.underlying30 rfl [.pointer (some ⟨A.sb, 0, none⟩)] (by kernel_rfl) hld.out ?_))
      refine hone'.out.mono ?_
      rintro e w3 ⟨A3, rfl, hT3⟩
      have T3 := Lib.hid (Sx.out.to_.trans hT3)
      have p3 := Lib.hid (hT3.get Sx.out.db Sx.out.sp)
      have s3 := Lib.hid (Sx.out.sp.to hT3)
      have K3 := Lib.hid (Sx.out.ents.to hT3)
      clear hT3
      by_cases h0 : er = 0
      · subst h0
        have hr2 := hrest'.out
        rw [if_pos rfl] at hr2
        have hS := treeSwap T3.out.store root' next
        rw [T3.out.sb] at hS
        have hlogS := swap_log M1 root' next
        obtain ⟨R, hRe⟩ : ∃ R, M1.swap root' next = R := ⟨_, rfl⟩
        rw [hRe] at hS hlogS
        simp only [hRe] at hr2
        obtain ⟨M2, es⟩ := R
        dsimp only at hS hr2 hlogS
        have hS' := Lib.hid hS
        have hr2' := Lib.hid hr2
        have hload3 : Hid (∀ j u, [Value.pointer (some ⟨A.sb, 0, none⟩)][j]? = some u → w3.cell? ⟨w.heap.size, 0 + j, none⟩ = some u) := Lib.hid (fun j u hj => by rw [Nat.zero_add, cell_of_heap p3.out]; simpa using hj)
        have hlogS' := Lib.hid hlogS
        clear hS hRe hr2 hlogS
        go_wp2_with (first | (refine wpList_load_agg 26 rfl rfl rfl _ Tryz.underlying26 rfl [.pointer (some ⟨A.sb, 0, none⟩)] (by kernel_rfl) hload3.out ?_))
        refine hS'.out.mono ?_
        rintro e w4 ⟨rfl, hT4⟩
        have T4 := Lib.hid (T3.out.trans hT4)
        have p4 := Lib.hid (hT4.get p3.out s3.out)
        have s4 := Lib.hid (s3.out.to hT4)
        have K4 := Lib.hid (K3.out.to hT4)
        clear hT4
        by_cases h1 : es = 0
        · subst h1
          have hr3 := hr2'.out
          rw [if_pos rfl] at hr3
          dsimp only at hr3
          rw [if_pos rfl] at hr3
          have fin : Hid (∃ A' M', ApSt w A M cs root (.slice (some ⟨eb, eo, none⟩) cs.length cap) (k + 1) next A' M' w4) := Lib.hid ⟨_, M2, T4.out, p4.out, s4.out, K4.out, hr3, by have := hlog'.out; have := Sx.out.log; have := hlogS'.out; rw [this]; omega⟩
          clear hr3
          go_wp2_with fail
          go_roundw
          case rel => exact ⟨k + 1, next, by omega, by go_num, rfl, fin⟩
          case measure => simp [intOf]; omega
        · have h1' : ((es : Int) == 0) = false := by simp; omega
          have hr3 := hr2'.out
          rw [if_neg h1] at hr3
          dsimp only at hr3
          rw [if_neg h1] at hr3
          have hr3' := Lib.hid hr3
          clear hr3 h1
          go_wp2_with fail
          go_ret2
          exact ⟨_, by rw [← hr3'.out]; rfl, by rw [← hr3'.out]; exact T4.out⟩
      · have h0' : ((er : Int) == 0) = false := by simp; omega
        have hr2 := hrest'.out
        rw [if_neg h0] at hr2
        dsimp only at hr2
        rw [if_neg h0] at hr2
        have hr2' := Lib.hid hr2
        clear hr2 h0
        go_wp2_with fail
        go_ret2
        exact ⟨_, by rw [← hr2'.out]; rfl, by rw [← hr2'.out]; exact T3.out⟩
    · obtain rfl : k = cs.length := by omega
      have hr := St.rest
      rw [List.drop_length] at hr
      have hr' : Hid ((M', root', 0) = SM.changes cs M root) := Lib.hid hr
      have St' := Lib.hid St
      clear hI St hr
      go_wp2_with fail
      go_ret2
      exact ⟨A', by rw [← hr'.out]; rfl, by rw [← hr'.out]; exact St'.out.to_⟩
end Go.Proofs.YtidlchciehdefaaGreat
/-
  Blocks in trees (package image): a page's block; a block is read.
-/
namespace Go.Proofs.YtidlchciehdefaaGreat
open Go.RowKit
set_option maxRecDepth 100000


theorem block_zero : (Tryz.prog.info? 35).map (·.zero) = some (some (.agg (byteCells zeros16).toArray)) := by kernel_rfl
theorem run_build_block (w : World) : (Instr.build 35 #[]).run Tryz.prog w = .ok (.agg (byteCells zeros16).toArray) w := run_build _ _ _ _ (by kernel_rfl)
theorem imageThere (k : Int) (w : World) : Calls Tryz.prog 61 #[.int .i64 k] w fun e w' => e = .returned (.bool (decide (0 ≤ k ∧ k < 64))) ∧ w = w' := by
  by_cases h0 : 0 ≤ k
  · have hb0 : decide (0 ≤ k) = true := decide_eq_true h0
    by_cases h1 : k < 64
    · have hb1 : decide (k < 64) = true := decide_eq_true h1
      rw [decide_eq_true (show 0 ≤ k ∧ k < 64 from ⟨h0, h1⟩)]
      clear h0 h1
      go_enter Tryz.func61, Tryz.ntmps61
      go_wp2_with fail
      go_ret
      exact ⟨rfl, rfl⟩
    · have hb1 : decide (k < 64) = false := decide_eq_false h1
      rw [decide_eq_false (show ¬ (0 ≤ k ∧ k < 64) from fun h => h1 h.2)]
      clear h0 h1
      go_enter Tryz.func61, Tryz.ntmps61
      go_wp2_with fail
      go_ret
      exact ⟨rfl, rfl⟩
  · have hb0 : decide (0 ≤ k) = false := decide_eq_false h0
    rw [decide_eq_false (show ¬ (0 ≤ k ∧ k < 64) from fun h => h0 h.1)]
    clear h0
    go_enter Tryz.func61, Tryz.ntmps61
    go_wp2_with fail
    go_ret
    exact ⟨rfl, rfl⟩
/-- The block that a page stands for. -/
def PageOf (M : SM) (pg : Int) (b : List Nat) : Prop := b.length = 16 ∧ ((pg = -1 ∧ b = zeros16) ∨ (pg ≠ -1 ∧ ∃ d, M.get pg = (d, 0) ∧ d.kind = 1 ∧ d.block = b))
set_option maxHeartbeats 4000000 in
theorem imageBlock {w : World} {A : SA} {M : SM} (h : StoreAt w A M) {pg : Int} {b : List Nat} (hp : PageOf M pg b) :
    Calls Tryz.prog 67 #[.agg #[.pointer (some ⟨A.sb, 0, none⟩)], .int .i64 pg] w fun e w' => e = .returned (.tuple #[.agg (byteCells b).toArray, .int .i64 0]) ∧ Kept (fun _ => False) w w' := by
  obtain ⟨Z, hZ⟩ : ∃ Z, byteCells zeros16 = Z := ⟨_, rfl⟩
  have hZz : Hid ((Tryz.prog.info? 35).map (·.zero) = some (some (.agg Z.toArray))) := Lib.hid (by rw [← hZ]; exact block_zero)
  have hZl : Hid (Z.length = 16) := Lib.hid (by rw [← hZ]; rfl)
  have hZ1 : Hid (∀ v ∈ Z, v.oneCell' = true) := Lib.hid (by rw [← hZ]; exact byteCells_one _)
  have hbz : Hid (∀ w, (Instr.build 35 #[]).run Tryz.prog w = .ok (.agg Z.toArray) w) := Lib.hid (fun w => by rw [← hZ]; exact run_build_block w)
  obtain ⟨mb, hmb⟩ : ∃ mb, w.heap.size = mb := ⟨_, rfl⟩
  obtain ⟨w1, hw1⟩ : ∃ w1, w.alloc (.cells #[.pointer (some ⟨A.sb, 0, none⟩)] 32) = w1 := ⟨_, rfl⟩
  obtain ⟨rb, hrb⟩ : ∃ rb, w1.heap.size = rb := ⟨_, rfl⟩
  obtain ⟨w2, hw2⟩ : ∃ w2, w1.alloc (.cells Z.toArray 35) = w2 := ⟨_, rfl⟩
  have k1 : Kept (fun _ => False) w w1 := by rw [← hw1]; exact (Kept.refl _ _).alloc _
  have k12 : Kept (fun _ => False) w1 w2 := by rw [← hw2]; exact (Kept.refl _ _).alloc _
  have t1 : w1.heap[mb]? = some (.cells #[.pointer (some ⟨A.sb, 0, none⟩)] 32 (0, 0)) := by rw [← hw1, ← hmb]; exact heap_alloc_new _ _
  have t2 := Lib.hid (k12.get t1 id)
  have d2 : Hid (w2.heap[rb]? = some (.cells Z.toArray 35 (0, 0))) := Lib.hid (by rw [← hw2, ← hrb]; exact heap_alloc_new _ _)
  have k2 := Lib.hid (k1.trans k12)
  have hrbw : Hid (w.heap.size ≤ rb) := Lib.hid (by rw [← hrb]; exact k1.size)
  have h2 := Lib.hid (h.fresh (k1.trans k12))
  have hw1' := Lib.hid hw1
  have hw2' := Lib.hid hw2
  have hmb' := Lib.hid hmb
  have hrb' := Lib.hid hrb
  have hZ' := Lib.hid hZ
  obtain ⟨hlen, hp⟩ := hp
  rcases hp with ⟨rfl, rfl⟩ | ⟨hne, d, hg, hk, rfl⟩
  · rw [hZ]
    clear hw1 hw2 hmb hrb k1 k12 t1 h hZ hlen
    go_enter Tryz.func67, Tryz.ntmps67
    go_wp2_with (first | (refine wpList_box_named 32 rfl rfl _ rfl hw1'.out ?_; rw [hmb'.out]) | (refine wpList_alloc_as 35 rfl rfl Z.toArray hZz.out ?_; rw [hw2'.out, hrb'.out]) | (refine wpList_exec rfl (exec_build 35 #[] _ rfl (by simp) (hbz.out _)) ?_) | (refine wpList_store_whole 35 rfl rfl rfl Z rfl (by rw [hZl.out]; exact block_size) 35 _ d2.out (by simp [hZl.out, hZl.out]) hZ1.out ?_))
    refine bodyPost_ret (results_row_tmp rfl _ _ rb 35 Z.toArray (0, 0) _ rfl (setRow_heap _ _ _ _ 35 (0, 0) d2.out) Tryz.underlying35 rfl (by simp only [List.size_toArray]; rw [hZl.out]; exact block_size)) rfl ?_
    exact ⟨rfl, k2.out.setRowNew hrbw.out _⟩
  · have hb0 : (pg == -1) = false := by simp [hne]
    obtain ⟨C, hC⟩ : ∃ C, byteCells d.block = C := ⟨_, rfl⟩
    have hCl : Hid (C.length = 16) := Lib.hid (by rw [← hC, byteCells_len]; exact hlen)
    have hC1 : Hid (∀ v ∈ C, v.oneCell' = true) := Lib.hid (by rw [← hC]; exact byteCells_one _)
    have hCb : Hid (blockCells d.block = C) := Lib.hid (by rw [blockCells_eq _ hlen, hC])
    rw [hC]
    have hG := get_any h2.out pg
    rw [hg] at hG
    dsimp only at hG
    have hG' := Lib.hid hG
    obtain ⟨NZ, hNZ⟩ : ∃ NZ, nodeCells NM.zero (.slice none 0 0) = NZ := ⟨_, rfl⟩
    have hNz : Hid ((Tryz.prog.info? 115).map (·.zero) = some (some (.agg NZ.toArray))) := Lib.hid (by rw [← hNZ]; exact node_zero)
    have hNl : Hid (NZ.length = 18) := Lib.hid (by rw [← hNZ]; exact nodeCells_len _ _)
    have cm2 := cell_of_heap t2.out 0
    simp at cm2
    clear hw1 hw2 hmb hrb k1 k12 t1 h hZ hlen hne hg hG hNZ hC
    go_enter Tryz.func67, Tryz.ntmps67
    go_wp2_with (first | (refine wpList_box_named 32 rfl rfl _ rfl hw1'.out ?_; rw [hmb'.out]) | (refine wpList_alloc_as 35 rfl rfl Z.toArray hZz.out ?_; rw [hw2'.out, hrb'.out]))
    refine hG'.out.mono ?_
    rintro e w3 ⟨v, rfl, hown3, hk3⟩
    obtain ⟨A3, cap3, rfl, _, _⟩ := EntsAt.form (show EntsAt w3 v d.ents from SliceAt.of_owns hown3)
    obtain ⟨F, hF⟩ : ∃ F, nodeCells d (.slice A3 d.ents.length cap3) = F := ⟨_, rfl⟩
    have hFl : Hid (F.length = 18) := Lib.hid (by rw [← hF]; exact nodeCells_len _ _)
    have hF1 : Hid (∀ v ∈ F, v.oneCell' = true) := Lib.hid (by rw [← hF]; exact nodeCells_one _ _ _ _)
    have hF0 : F[0]? = some (.int .i64 1) := by rw [← hF, nodeCells_0, hk]
    have hFb : ∀ j u, C[j]? = some u → F[1 + j]? = some u := fun j u hj => by rw [← hF]; exact nodeCells_block _ _ j u (by rw [hCb.out]; exact hj)
    obtain ⟨nb, hnb⟩ : ∃ nb, w3.heap.size = nb := ⟨_, rfl⟩
    obtain ⟨w4, hw4⟩ : ∃ w4, (w3.alloc (.cells NZ.toArray 115)).setRow nb F.toArray = w4 := ⟨_, rfl⟩
    have k34 : Kept (fun _ => False) w3 w4 := by rw [← hw4]; exact ((Kept.refl _ _).alloc _).setRowNew (by omega) _
    have q4 : w4.heap[nb]? = some (.cells F.toArray 115 (0, 0)) := by rw [← hw4, ← hnb]; exact setRow_heap _ _ _ _ _ _ (heap_alloc_new _ _)
    have cn0 : w4.cell? ⟨nb, 0, none⟩ = some (.int .i64 1) := by rw [cell_of_heap q4]; simpa using hF0
    have hlb : Hid (∀ j u, C[j]? = some u → w4.cell? ⟨nb, 1 + j, none⟩ = some u) := Lib.hid (fun j u hj => by rw [cell_of_heap q4]; simpa using hFb j u hj)
    have d4 := Lib.hid (k34.get (hk3.get d2.out id) id)
    have k4 := Lib.hid ((k2.out.trans hk3).trans k34)
    have hw4' := Lib.hid hw4
    have hnb' := Lib.hid hnb
    rw [hF]
    clear hown3 hk3 k34 q4 hw4 hnb hF hF0 hFb
    go_wp2_with (first | (refine wpList_alloc_as 115 rfl rfl NZ.toArray hNz.out ?_; rw [hnb'.out]) | (refine wpList_store_whole 115 rfl rfl rfl F rfl (by rw [hFl.out]; exact node_size) 115 NZ.toArray (by rw [← hnb'.out]; exact heap_alloc_new _ _) (by simp [hFl.out, hNl.out]) hF1.out ?_; rw [hw4'.out]) | (refine wpList_load_agg 35 rfl rfl rfl _ Tryz.underlying35 rfl C (by rw [hCl.out]; exact block_size) hlb.out ?_) | (refine wpList_store_whole 35 rfl rfl rfl C rfl (by rw [hCl.out]; exact block_size) 35 _ d4.out (by simp [hCl.out, hZl.out]) hC1.out ?_))
    refine bodyPost_ret (results_row_tmp rfl _ _ rb 35 C.toArray (0, 0) _ rfl (setRow_heap _ _ _ _ 35 (0, 0) d4.out) Tryz.underlying35 rfl (by simp only [List.size_toArray]; rw [hCl.out]; exact block_size)) rfl ?_
    exact ⟨rfl, k4.out.setRowNew hrbw.out _⟩
set_option maxHeartbeats 4000000 in
theorem imageRead {w : World} {A : SA} {M : SM} (h : StoreAt w A M) (root : Int) {key pg : Int} (k0 : 0 ≤ key) (k64 : key < 64) (hf : M.find root key = (pg, 0)) {b : List Nat} (hp : PageOf M pg b) :
    Calls Tryz.prog 21 #[.agg #[.pointer (some ⟨A.sb, 0, none⟩)], .int .i64 root, .int .i64 key] w fun e w' => e = .returned (.tuple #[.agg (byteCells b).toArray, .int .i64 0]) ∧ Kept (fun _ => False) w w' := by
  obtain ⟨Z, hZ⟩ : ∃ Z, byteCells zeros16 = Z := ⟨_, rfl⟩
  have hZz : Hid ((Tryz.prog.info? 35).map (·.zero) = some (some (.agg Z.toArray))) := Lib.hid (by rw [← hZ]; exact block_zero)
  have hZl : Hid (Z.length = 16) := Lib.hid (by rw [← hZ]; rfl)
  have hZ1 : Hid (∀ v ∈ Z, v.oneCell' = true) := Lib.hid (by rw [← hZ]; exact byteCells_one _)
  have hbz : Hid (∀ w, (Instr.build 35 #[]).run Tryz.prog w = .ok (.agg Z.toArray) w) := Lib.hid (fun w => by rw [← hZ]; exact run_build_block w)
  obtain ⟨mb, hmb⟩ : ∃ mb, w.heap.size = mb := ⟨_, rfl⟩
  obtain ⟨w1, hw1⟩ : ∃ w1, w.alloc (.cells #[.pointer (some ⟨A.sb, 0, none⟩)] 32) = w1 := ⟨_, rfl⟩
  obtain ⟨rb, hrb⟩ : ∃ rb, w1.heap.size = rb := ⟨_, rfl⟩
  obtain ⟨w2, hw2⟩ : ∃ w2, w1.alloc (.cells Z.toArray 35) = w2 := ⟨_, rfl⟩
  have k1 : Kept (fun _ => False) w w1 := by rw [← hw1]; exact (Kept.refl _ _).alloc _
  have k12 : Kept (fun _ => False) w1 w2 := by rw [← hw2]; exact (Kept.refl _ _).alloc _
  have t1 : w1.heap[mb]? = some (.cells #[.pointer (some ⟨A.sb, 0, none⟩)] 32 (0, 0)) := by rw [← hw1, ← hmb]; exact heap_alloc_new _ _
  have t2 := Lib.hid (k12.get t1 id)
  have d2 : Hid (w2.heap[rb]? = some (.cells Z.toArray 35 (0, 0))) := Lib.hid (by rw [← hw2, ← hrb]; exact heap_alloc_new _ _)
  have k2 := Lib.hid (k1.trans k12)
  have hrbw : Hid (w.heap.size ≤ rb) := Lib.hid (by rw [← hrb]; exact k1.size)
  have h2 := Lib.hid (h.fresh (k1.trans k12))
  have hw1' := Lib.hid hw1
  have hw2' := Lib.hid hw2
  have hmb' := Lib.hid hmb
  have hrb' := Lib.hid hrb
  have hZ' := Lib.hid hZ
  have hF := treeFind h2.out root key
  rw [hf] at hF
  dsimp only at hF
  have hF' := Lib.hid hF
  have hth := imageThere key w2
  rw [decide_eq_true (show 0 ≤ key ∧ key < 64 from ⟨k0, k64⟩)] at hth
  have hth' := Lib.hid hth
  have hld2 : Hid (∀ j v, [Value.pointer (some ⟨A.sb, 0, none⟩)][j]? = some v → w2.cell? ⟨mb, 0 + j, none⟩ = some v) := Lib.hid (fun j v hj => by rw [Nat.zero_add, cell_of_heap t2.out]; simpa using hj)
  obtain ⟨C, hC⟩ : ∃ C, byteCells b = C := ⟨_, rfl⟩
  have hCl : Hid (C.length = 16) := Lib.hid (by rw [← hC, byteCells_len]; exact hp.1)
  have hC1 : Hid (∀ v ∈ C, v.oneCell' = true) := Lib.hid (by rw [← hC]; exact byteCells_one _)
  have hBl := fun w (h : StoreAt w A M) => imageBlock h hp
  rw [hC] at hBl
  have hBl' := Lib.hid hBl
  rw [hC]
  clear hw1 hw2 hmb hrb k1 k12 t1 h hZ hF hth hC hBl hf hp k0 k64
  go_enter Tryz.func21, Tryz.ntmps21
  go_wp2_with (first | (refine wpList_box_named 32 rfl rfl _ rfl hw1'.out ?_; rw [hmb'.out]) | (refine wpList_alloc_as 35 rfl rfl Z.toArray hZz.out ?_; rw [hw2'.out, hrb'.out]))
  refine hth'.out.mono ?_
  rintro e w3 ⟨rfl, rfl⟩
  go_wp2_with (first | (refine wpList_load_agg 26 rfl rfl rfl _ Tryz.underlying26 rfl [.pointer (some ⟨A.sb, 0, none⟩)] (by kernel_rfl) hld2.out ?_))
  refine hF'.out.mono ?_
  rintro e w3 ⟨rfl, hk3⟩
  have hld3 : Hid (∀ j v, [Value.pointer (some ⟨A.sb, 0, none⟩)][j]? = some v → w3.cell? ⟨mb, 0 + j, none⟩ = some v) := Lib.hid (fun j v hj => by rw [Nat.zero_add, cell_of_heap (hk3.get t2.out id)]; simpa using hj)
  have hB3 := Lib.hid (hBl'.out w3 (h2.out.fresh hk3))
  have d3 := Lib.hid (hk3.get d2.out id)
  have k3 := Lib.hid (k2.out.trans hk3)
  clear hk3
  go_wp2_with (first | (refine wpList_load_agg 32 rfl rfl rfl _ Tryz.underlying32 rfl [.pointer (some ⟨A.sb, 0, none⟩)] (by kernel_rfl) hld3.out ?_))
  refine hB3.out.mono ?_
  rintro e w4 ⟨rfl, hk4⟩
  have d4 := Lib.hid (hk4.get d3.out id)
  have k4 := Lib.hid (k3.out.trans hk4)
  clear hk4
  go_wp2_with (first | (refine wpList_store_whole 35 rfl rfl rfl C rfl (by rw [hCl.out]; exact block_size) 35 _ d4.out (by simp [hCl.out, hZl.out]) hC1.out ?_))
  refine bodyPost_ret (results_row_tmp rfl _ _ rb 35 C.toArray (0, 0) _ rfl (setRow_heap _ _ _ _ 35 (0, 0) d4.out) Tryz.underlying35 rfl (by simp only [List.size_toArray]; rw [hCl.out]; exact block_size)) rfl ?_
  exact ⟨rfl, k4.out.setRowNew hrbw.out _⟩
set_option maxHeartbeats 4000000 in
theorem imageRead_bad {w : World} {A : SA} {M : SM} (h : StoreAt w A M) (root : Int) {key : Int} (hk : ¬ (0 ≤ key ∧ key < 64)) :
    Calls Tryz.prog 21 #[.agg #[.pointer (some ⟨A.sb, 0, none⟩)], .int .i64 root, .int .i64 key] w fun e w' => e = .returned (.tuple #[.agg (byteCells zeros16).toArray, .int .i64 101]) ∧ Kept (fun _ => False) w w' := by
  obtain ⟨Z, hZ⟩ : ∃ Z, byteCells zeros16 = Z := ⟨_, rfl⟩
  have hZz : Hid ((Tryz.prog.info? 35).map (·.zero) = some (some (.agg Z.toArray))) := Lib.hid (by rw [← hZ]; exact block_zero)
  have hZl : Hid (Z.length = 16) := Lib.hid (by rw [← hZ]; rfl)
  have hZ1 : Hid (∀ v ∈ Z, v.oneCell' = true) := Lib.hid (by rw [← hZ]; exact byteCells_one _)
  have hbz : Hid (∀ w, (Instr.build 35 #[]).run Tryz.prog w = .ok (.agg Z.toArray) w) := Lib.hid (fun w => by rw [← hZ]; exact run_build_block w)
  obtain ⟨mb, hmb⟩ : ∃ mb, w.heap.size = mb := ⟨_, rfl⟩
  obtain ⟨w1, hw1⟩ : ∃ w1, w.alloc (.cells #[.pointer (some ⟨A.sb, 0, none⟩)] 32) = w1 := ⟨_, rfl⟩
  obtain ⟨rb, hrb⟩ : ∃ rb, w1.heap.size = rb := ⟨_, rfl⟩
  obtain ⟨w2, hw2⟩ : ∃ w2, w1.alloc (.cells Z.toArray 35) = w2 := ⟨_, rfl⟩
  have k1 : Kept (fun _ => False) w w1 := by rw [← hw1]; exact (Kept.refl _ _).alloc _
  have k12 : Kept (fun _ => False) w1 w2 := by rw [← hw2]; exact (Kept.refl _ _).alloc _
  have t1 : w1.heap[mb]? = some (.cells #[.pointer (some ⟨A.sb, 0, none⟩)] 32 (0, 0)) := by rw [← hw1, ← hmb]; exact heap_alloc_new _ _
  have t2 := Lib.hid (k12.get t1 id)
  have d2 : Hid (w2.heap[rb]? = some (.cells Z.toArray 35 (0, 0))) := Lib.hid (by rw [← hw2, ← hrb]; exact heap_alloc_new _ _)
  have k2 := Lib.hid (k1.trans k12)
  have hrbw : Hid (w.heap.size ≤ rb) := Lib.hid (by rw [← hrb]; exact k1.size)
  have h2 := Lib.hid (h.fresh (k1.trans k12))
  have hw1' := Lib.hid hw1
  have hw2' := Lib.hid hw2
  have hmb' := Lib.hid hmb
  have hrb' := Lib.hid hrb
  have hZ' := Lib.hid hZ
  have hth := imageThere key w2
  rw [decide_eq_false hk] at hth
  have hth' := Lib.hid hth
  rw [hZ]
  clear hw1 hw2 hmb hrb k1 k12 t1 h hZ hth hk
  go_enter Tryz.func21, Tryz.ntmps21
  go_wp2_with (first | (refine wpList_box_named 32 rfl rfl _ rfl hw1'.out ?_; rw [hmb'.out]) | (refine wpList_alloc_as 35 rfl rfl Z.toArray hZz.out ?_; rw [hw2'.out, hrb'.out]))
  refine hth'.out.mono ?_
  rintro e w3 ⟨rfl, rfl⟩
  go_wp2_with (first | (refine wpList_exec rfl (exec_build 35 #[] _ rfl (by simp) (hbz.out _)) ?_) | (refine wpList_store_whole 35 rfl rfl rfl Z rfl (by rw [hZl.out]; exact block_size) 35 _ d2.out (by simp [hZl.out, hZl.out]) hZ1.out ?_))
  refine bodyPost_ret (results_row_tmp rfl _ _ rb 35 Z.toArray (0, 0) _ rfl (setRow_heap _ _ _ _ 35 (0, 0) d2.out) Tryz.underlying35 rfl (by simp only [List.size_toArray]; rw [hZl.out]; exact block_size)) rfl ?_
  exact ⟨rfl, k2.out.setRowNew hrbw.out _⟩
end Go.Proofs.YtidlchciehdefaaGreat
/-
  Images (package image): what is done safely; a block is written; blocks are cleared; a copy.
-/
namespace Go.Proofs.YtidlchciehdefaaGreat
open Go.RowKit
set_option maxRecDepth 100000

theorem run_build_data (w : World) (b : List Nat) : (Instr.build 115 #[(0, .int .i64 1), (1, .agg (blockCells b).toArray)]).run Tryz.prog w = .ok (.agg (nodeCells ⟨1, b, []⟩ (.slice none 0 0)).toArray) w := run_build _ _ _ _ (by kernel_rfl)
theorem ptr_load {w : World} {p s : Nat} {t : TypeId} (h : w.heap[p]? = some (.cells #[.pointer (some ⟨s, 0, none⟩)] t (0, 0))) : ∀ j v, [Value.pointer (some ⟨s, 0, none⟩)][j]? = some v → w.cell? ⟨p, 0 + j, none⟩ = some v := fun j v hj => by rw [Nat.zero_add, cell_of_heap h]; simpa using hj
set_option maxHeartbeats 4000000 in
/-- What Write does safely. -/
theorem writeDo {w : World} {A : SA} {M : SM} (h : StoreAt w A M) (root key : Int) {b : List Nat} (hb : b.length = 16) (h256 : ∀ x ∈ b, x < 256) {mb bb rb kb : Nat}
    (hm : w.heap[mb]? = some (.cells #[.pointer (some ⟨A.sb, 0, none⟩)] 32 (0, 0))) (hbb : w.heap[bb]? = some (.cells (blockCells b).toArray 35 (0, 0)))
    (hr : w.heap[rb]? = some (.cells #[.int .i64 root] 3 (0, 0))) (hk : w.heap[kb]? = some (.cells #[.int .i64 key] 3 (0, 0))) (sm : Safe w A mb) (sr : Safe w A rb) (sk : Safe w A kb) (hfew : M.log.length + 100100 < 100000000) :
    Calls Tryz.prog 63 #[.pointer (some ⟨mb, 0, none⟩), .pointer (some ⟨bb, 0, none⟩), .pointer (some ⟨rb, 0, none⟩), .pointer (some ⟨kb, 0, none⟩)] w fun e w' =>
      ∃ A', e = .returned (.tuple #[.int .i64 (M.write1 root key b).2.1, .int .i64 (M.write1 root key b).2.2]) ∧ StoreTo A A' (M.write1 root key b).1 w w' := by
  obtain ⟨C, hC⟩ : ∃ C, blockCells b = C := ⟨_, rfl⟩
  obtain ⟨D, hD⟩ : ∃ D, nodeCells ⟨1, b, []⟩ (.slice none 0 0) = D := ⟨_, rfl⟩
  have hbd : Hid (∀ w, (Instr.build 115 #[(0, .int .i64 1), (1, .agg C.toArray)]).run Tryz.prog w = .ok (.agg D.toArray) w) := Lib.hid (fun w => by rw [← hC, ← hD]; exact run_build_data w b)
  have hCl : Hid (C.length = 16) := Lib.hid (by rw [← hC]; exact blockCells_len _)
  rw [hC] at hbb
  have hlb : Hid (∀ j u, C[j]? = some u → w.cell? ⟨bb, 0 + j, none⟩ = some u) := Lib.hid (fun j u hj => by rw [Nat.zero_add, cell_of_heap hbb]; simpa using hj)
  have cm0 := cell_of_heap hm 0
  simp at cm0
  have hMk := storeMake h (n := ⟨1, b, []⟩) (sv := .slice none 0 0) ⟨sliceNil (by decide), fun _ b hb => by simp [Value.ownBlock] at hb⟩ hb h256 (by omega)
  have hml := make_log M ⟨1, b, []⟩
  rw [hD] at hMk
  have hw : M.write1 root key b = if (M.make ⟨1, b, []⟩).2.2 = 0 then (M.make ⟨1, b, []⟩).1.changes [(key, (M.make ⟨1, b, []⟩).2.1)] root else ((M.make ⟨1, b, []⟩).1, -1, (M.make ⟨1, b, []⟩).2.2) := rfl
  obtain ⟨R, hR⟩ : ∃ R, M.make ⟨1, b, []⟩ = R := ⟨_, rfl⟩
  rw [hR] at hMk hml hw
  obtain ⟨M1, pg, er⟩ := R
  dsimp only at hMk hml hw
  have hMk' := Lib.hid hMk
  have hw' := Lib.hid hw
  have hml' := Lib.hid hml
  have hm' := Lib.hid hm
  have hr' := Lib.hid hr
  have hk' := Lib.hid hk
  have sm' := Lib.hid sm
  have sr' := Lib.hid sr
  have sk' := Lib.hid sk
  clear hMk hw hml hR hC hD hbb hm hr hk sm sr sk hb h256 h
  go_enter Tryz.func63, Tryz.ntmps63
  go_wp2_with (first | (refine wpList_load_agg 35 rfl rfl rfl _ Tryz.underlying35 rfl C (by rw [hCl.out]; exact block_size) hlb.out ?_) | (refine wpList_exec rfl (exec_build 115 #[(0, .const (.int .i64 1)), (1, .tmp 14)] _ rfl (by simp [Act.eval, Act.put]) (hbd.out _)) ?_))
  refine hMk'.out.mono ?_
  rintro e w1 ⟨A1, rfl, hT1⟩
  have T1 := Lib.hid hT1
  have hm1 := hT1.get hm'.out sm'.out
  have hr1 := hT1.get hr'.out sr'.out
  have hk1 := hT1.get hk'.out sk'.out
  have cr1 := cell_of_heap hr1 0
  have ck1 := cell_of_heap hk1 0
  simp at cr1 ck1
  have hld1 := Lib.hid (ptr_load hm1)
  clear hT1 hm1 hr1 hk1 cm0
  by_cases h0 : er = 0
  · subst h0
    have hw2 := hw'.out
    rw [if_pos rfl] at hw2
    have kx : Kept (fun _ => False) w1 (w1.alloc (.cells #[.int .i64 key, .int .i64 pg] 92)) := (Kept.refl _ _).alloc _
    have E1 : EntsOff (w1.alloc (.cells #[.int .i64 key, .int .i64 pg] 92)) A1 (.slice (some ⟨w1.heap.size, 0, none⟩) 1 1) [(key, pg)] := ⟨SliceAt.block_new (heap_alloc_new _ _) rfl (by decide), fun _ b hb => by
      simp [Value.ownBlock] at hb
      subst hb
      exact ⟨by simp, fun e => Nat.lt_irrefl _ (T1.out.store.lt (.inl e))⟩⟩
    have hAp := diffApply (T1.out.store.fresh kx) root E1 (by simp) (by have := hml'.out; omega)
    rw [T1.out.sb] at hAp
    obtain ⟨R, hR⟩ : ∃ R, SM.changes [(key, pg)] M1 root = R := ⟨_, rfl⟩
    rw [hR] at hAp hw2
    obtain ⟨M2, next, es⟩ := R
    dsimp only at hAp
    have hAp' := Lib.hid hAp
    have hw3 := Lib.hid hw2
    have kx' := Lib.hid kx
    have hldq : Hid (∀ j v, [Value.pointer (some ⟨A.sb, 0, none⟩)][j]? = some v → (w1.alloc (.cells #[.int .i64 key, .int .i64 pg] 92)).cell? ⟨mb, 0 + j, none⟩ = some v) := Lib.hid (fun j v hj => kx.cell (hld1.out j v hj) id)
    clear hAp hR E1 kx hw2 hw'
    go_wp2_with (first | (refine wpList_load_agg 30 rfl rfl rfl _ Tryz.underlying30 rfl [.pointer (some ⟨A.sb, 0, none⟩)] (by kernel_rfl) hld1.out ?_) | (refine wpList_load_agg 30 rfl rfl rfl _ Tryz.underlying30 rfl [.pointer (some ⟨A.sb, 0, none⟩)] (by kernel_rfl) hldq.out ?_))
    refine hAp'.out.mono ?_
    rintro e w2 ⟨A2, rfl, hT2⟩
    have T2 := Lib.hid (T1.out.trans (StoreTo.before kx'.out hT2))
    clear hT2
    go_wp2_with fail
    go_ret2
    rw [hw3.out]
    exact ⟨A2, rfl, T2.out⟩
  · have h0' : ((er : Int) == 0) = false := by simp; omega
    have hw2 := hw'.out
    rw [if_neg h0] at hw2
    have hw3 := Lib.hid hw2
    clear hw2 hw' h0
    go_wp2_with fail
    go_ret2
    rw [hw3.out]
    exact ⟨A1, rfl, T1.out⟩
set_option maxHeartbeats 4000000 in
theorem safelyWrite {w : World} {A : SA} {M : SM} (h : StoreAt w A M) (p0 p1 p2 p3 : Value) (R : SM × Int × Nat) (hsz : R.1.pool.size = M.pool.size)
    (hdo : ∀ w' A', StoreTo A A' M.marked w w' → Calls Tryz.prog 63 #[p0, p1, p2, p3] w' fun e w2 => ∃ A2, e = .returned (.tuple #[.int .i64 R.2.1, .int .i64 R.2.2]) ∧ StoreTo A' A2 R.1 w' w2) :
    Calls Tryz.prog 62 #[.agg #[.pointer (some ⟨A.sb, 0, none⟩)], .func (.func 63) #[] #[p0, p1, p2, p3]] w fun e w' => ∃ A', e = .returned (.tuple #[.int .i64 (M.safely R).2.1, .int .i64 (M.safely R).2.2]) ∧ StoreTo A A' (M.safely R).1 w w' := by
  obtain ⟨mb, hmb⟩ : ∃ mb, w.heap.size = mb := ⟨_, rfl⟩
  obtain ⟨w1, hw1⟩ : ∃ w1, w.alloc (.cells #[.pointer (some ⟨A.sb, 0, none⟩)] 32) = w1 := ⟨_, rfl⟩
  have k1 : Kept (fun _ => False) w w1 := by rw [← hw1]; exact (Kept.refl _ _).alloc _
  have q1 : w1.heap[mb]? = some (.cells #[.pointer (some ⟨A.sb, 0, none⟩)] 32 (0, 0)) := by rw [← hw1, ← hmb]; exact heap_alloc_new _ _
  have S1 := Lib.hid (h.fresh k1)
  have hsafe : Hid (Safe w1 A mb) := Lib.hid (Safe.new h (by omega) (lt_of_heap q1))
  have k1' := Lib.hid k1
  have q1' := Lib.hid q1
  have hw1' := Lib.hid hw1
  have hmb' := Lib.hid hmb
  have hdo' := Lib.hid hdo
  have hsz' := Lib.hid hsz
  have cm1 := cell_of_heap q1 0
  simp at cm1
  have hsafely : Hid (M.safely R = if R.2.2 = 0 then R else (⟨M.marked.pool, R.1.log⟩, -1, R.2.2)) := Lib.hid rfl
  clear h k1 q1 hw1 hmb hdo hsz
  go_enter Tryz.func62, Tryz.ntmps62
  go_wp2_with (first | (refine wpList_box_named 32 rfl rfl _ rfl hw1'.out ?_; rw [hmb'.out]))
  refine (storePool S1.out).mono ?_
  rintro e w2 ⟨rfl, rfl⟩
  go_wp2_with fail
  refine (tidy_any S1.out.pool).mono ?_
  rintro e w2 ⟨rfl, hT⟩
  have T2 : Hid (StoreTo A A M.tidy w1 w2) := Lib.hid (S1.out.pooled hT rfl)
  have q2 := Lib.hid (T2.out.get q1'.out hsafe.out)
  have s2 := Lib.hid (hsafe.out.to T2.out)
  have cm2 := cell_of_heap q2.out 0
  simp at cm2
  have hMk' := Lib.hid (storeMark T2.out.store)
  clear hT cm1
  go_wp2_with fail
  refine hMk'.out.mono ?_
  rintro e w3 ⟨c, rfl, hT3, hpo3⟩
  have T3 : Hid (StoreTo A A M.marked w w3) := Lib.hid (StoreTo.before k1'.out (T2.out.trans hT3))
  have P3 : Hid (PoolOff w3 A c M.marked.pool) := Lib.hid hpo3
  have q3 := Lib.hid (hT3.get q2.out s2.out)
  have s3 := Lib.hid (s2.out.to hT3)
  have hdo3 := Lib.hid (hdo'.out w3 A T3.out)
  clear hT3 hpo3 cm2 hdo'
  go_wp2_with fail
  refine hdo3.out.mono ?_
  rintro e w4 ⟨A4, rfl, hT4⟩
  have T4 := Lib.hid (T3.out.trans hT4)
  have P4 := Lib.hid (P3.out.to hT4)
  have q4 := Lib.hid (hT4.get q3.out s3.out)
  have cm4 := cell_of_heap q4.out 0
  simp at cm4
  obtain ⟨M4, next, er⟩ := R
  dsimp only at T4 hsz' hsafely
  clear hT4
  by_cases h0 : er = 0
  · subst h0
    have hs := hsafely.out
    rw [if_pos rfl] at hs
    have hs' := Lib.hid hs
    clear hs hsafely
    go_wp2_with fail
    go_ret2
    rw [hs'.out]
    exact ⟨A4, rfl, T4.out⟩
  · have h0' : ((er : Int) == 0) = false := by simp; omega
    have hs := hsafely.out
    rw [if_neg h0] at hs
    have hs' := Lib.hid hs
    have hU := storeUndo T4.out.store P4.out.pool (by show M.pool.size = M4.pool.size; exact hsz'.out.symm)
    rw [T4.out.sb] at hU
    have hU' := Lib.hid hU
    clear hs hsafely h0 hU
    go_wp2_with fail
    refine hU'.out.mono ?_
    rintro e w5 ⟨v5, A5, rfl, hT5⟩
    have T5 := Lib.hid (T4.out.trans hT5)
    clear hT5
    go_wp2_with fail
    go_ret2
    rw [hs'.out]
    exact ⟨A5, rfl, T5.out⟩
set_option maxHeartbeats 4000000 in
theorem safelyClear {w : World} {A : SA} {M : SM} (h : StoreAt w A M) (p0 p1 p2 : Value) (R : SM × Int × Nat) (hsz : R.1.pool.size = M.pool.size)
    (hdo : ∀ w' A', StoreTo A A' M.marked w w' → Calls Tryz.prog 70 #[p0, p1, p2] w' fun e w2 => ∃ A2, e = .returned (.tuple #[.int .i64 R.2.1, .int .i64 R.2.2]) ∧ StoreTo A' A2 R.1 w' w2) :
    Calls Tryz.prog 62 #[.agg #[.pointer (some ⟨A.sb, 0, none⟩)], .func (.func 70) #[] #[p0, p1, p2]] w fun e w' => ∃ A', e = .returned (.tuple #[.int .i64 (M.safely R).2.1, .int .i64 (M.safely R).2.2]) ∧ StoreTo A A' (M.safely R).1 w w' := by
  obtain ⟨mb, hmb⟩ : ∃ mb, w.heap.size = mb := ⟨_, rfl⟩
  obtain ⟨w1, hw1⟩ : ∃ w1, w.alloc (.cells #[.pointer (some ⟨A.sb, 0, none⟩)] 32) = w1 := ⟨_, rfl⟩
  have k1 : Kept (fun _ => False) w w1 := by rw [← hw1]; exact (Kept.refl _ _).alloc _
  have q1 : w1.heap[mb]? = some (.cells #[.pointer (some ⟨A.sb, 0, none⟩)] 32 (0, 0)) := by rw [← hw1, ← hmb]; exact heap_alloc_new _ _
  have S1 := Lib.hid (h.fresh k1)
  have hsafe : Hid (Safe w1 A mb) := Lib.hid (Safe.new h (by omega) (lt_of_heap q1))
  have k1' := Lib.hid k1
  have q1' := Lib.hid q1
  have hw1' := Lib.hid hw1
  have hmb' := Lib.hid hmb
  have hdo' := Lib.hid hdo
  have hsz' := Lib.hid hsz
  have cm1 := cell_of_heap q1 0
  simp at cm1
  have hsafely : Hid (M.safely R = if R.2.2 = 0 then R else (⟨M.marked.pool, R.1.log⟩, -1, R.2.2)) := Lib.hid rfl
  clear h k1 q1 hw1 hmb hdo hsz
  go_enter Tryz.func62, Tryz.ntmps62
  go_wp2_with (first | (refine wpList_box_named 32 rfl rfl _ rfl hw1'.out ?_; rw [hmb'.out]))
  refine (storePool S1.out).mono ?_
  rintro e w2 ⟨rfl, rfl⟩
  go_wp2_with fail
  refine (tidy_any S1.out.pool).mono ?_
  rintro e w2 ⟨rfl, hT⟩
  have T2 : Hid (StoreTo A A M.tidy w1 w2) := Lib.hid (S1.out.pooled hT rfl)
  have q2 := Lib.hid (T2.out.get q1'.out hsafe.out)
  have s2 := Lib.hid (hsafe.out.to T2.out)
  have cm2 := cell_of_heap q2.out 0
  simp at cm2
  have hMk' := Lib.hid (storeMark T2.out.store)
  clear hT cm1
  go_wp2_with fail
  refine hMk'.out.mono ?_
  rintro e w3 ⟨c, rfl, hT3, hpo3⟩
  have T3 : Hid (StoreTo A A M.marked w w3) := Lib.hid (StoreTo.before k1'.out (T2.out.trans hT3))
  have P3 : Hid (PoolOff w3 A c M.marked.pool) := Lib.hid hpo3
  have q3 := Lib.hid (hT3.get q2.out s2.out)
  have s3 := Lib.hid (s2.out.to hT3)
  have hdo3 := Lib.hid (hdo'.out w3 A T3.out)
  clear hT3 hpo3 cm2 hdo'
  go_wp2_with fail
  refine hdo3.out.mono ?_
  rintro e w4 ⟨A4, rfl, hT4⟩
  have T4 := Lib.hid (T3.out.trans hT4)
  have P4 := Lib.hid (P3.out.to hT4)
  have q4 := Lib.hid (hT4.get q3.out s3.out)
  have cm4 := cell_of_heap q4.out 0
  simp at cm4
  obtain ⟨M4, next, er⟩ := R
  dsimp only at T4 hsz' hsafely
  clear hT4
  by_cases h0 : er = 0
  · subst h0
    have hs := hsafely.out
    rw [if_pos rfl] at hs
    have hs' := Lib.hid hs
    clear hs hsafely
    go_wp2_with fail
    go_ret2
    rw [hs'.out]
    exact ⟨A4, rfl, T4.out⟩
  · have h0' : ((er : Int) == 0) = false := by simp; omega
    have hs := hsafely.out
    rw [if_neg h0] at hs
    have hs' := Lib.hid hs
    have hU := storeUndo T4.out.store P4.out.pool (by show M.pool.size = M4.pool.size; exact hsz'.out.symm)
    rw [T4.out.sb] at hU
    have hU' := Lib.hid hU
    clear hs hsafely h0 hU
    go_wp2_with fail
    refine hU'.out.mono ?_
    rintro e w5 ⟨v5, A5, rfl, hT5⟩
    have T5 := Lib.hid (T4.out.trans hT5)
    clear hT5
    go_wp2_with fail
    go_ret2
    rw [hs'.out]
    exact ⟨A5, rfl, T5.out⟩
theorem write1_size (M : SM) (root key : Int) (b : List Nat) : (M.write1 root key b).1.pool.size = M.pool.size := write1_closed (Q := fun N => N.pool.size = M.pool.size) ⟨fun _ _ _ _ h => h, fun N i h => by show (N.pool.holdTo i).size = _; rw [holdTo_size]; exact h, fun N i _ h => by show (N.pool.dropTo i.toNat).size = _; rw [dropTo_size]; exact h⟩ root key b rfl
set_option maxHeartbeats 4000000 in
theorem imageWrite {w : World} {A : SA} {M : SM} (h : StoreAt w A M) (root key : Int) {b : List Nat} (hb : b.length = 16) (h256 : ∀ x ∈ b, x < 256) (hfew : M.log.length + 100100 < 100000000) :
    Calls Tryz.prog 19 #[.agg #[.pointer (some ⟨A.sb, 0, none⟩)], .int .i64 root, .int .i64 key, .agg (blockCells b).toArray] w fun e w' => ∃ A', e = .returned (.tuple #[.int .i64 (M.write root key b).2.1, .int .i64 (M.write root key b).2.2]) ∧ StoreTo A A' (M.write root key b).1 w w' := by
  obtain ⟨C, hC⟩ : ∃ C, blockCells b = C := ⟨_, rfl⟩
  rw [hC]
  obtain ⟨mb, hmb⟩ : ∃ mb, w.heap.size = mb := ⟨_, rfl⟩
  obtain ⟨w1, hw1⟩ : ∃ w1, w.alloc (.cells #[.pointer (some ⟨A.sb, 0, none⟩)] 32) = w1 := ⟨_, rfl⟩
  obtain ⟨rb, hrb⟩ : ∃ rb, w1.heap.size = rb := ⟨_, rfl⟩
  obtain ⟨w2, hw2⟩ : ∃ w2, w1.alloc (.cells #[.int .i64 root] 3) = w2 := ⟨_, rfl⟩
  obtain ⟨kb, hkb⟩ : ∃ kb, w2.heap.size = kb := ⟨_, rfl⟩
  obtain ⟨w3, hw3⟩ : ∃ w3, w2.alloc (.cells #[.int .i64 key] 3) = w3 := ⟨_, rfl⟩
  obtain ⟨bb, hbb⟩ : ∃ bb, w3.heap.size = bb := ⟨_, rfl⟩
  obtain ⟨w4, hw4⟩ : ∃ w4, w3.alloc (.cells C.toArray 35) = w4 := ⟨_, rfl⟩
  have k1 : Kept (fun _ => False) w w1 := by rw [← hw1]; exact (Kept.refl _ _).alloc _
  have k12 : Kept (fun _ => False) w1 w2 := by rw [← hw2]; exact (Kept.refl _ _).alloc _
  have k23 : Kept (fun _ => False) w2 w3 := by rw [← hw3]; exact (Kept.refl _ _).alloc _
  have k34 : Kept (fun _ => False) w3 w4 := by rw [← hw4]; exact (Kept.refl _ _).alloc _
  have k4 := ((k1.trans k12).trans k23).trans k34
  have q1 : w4.heap[mb]? = some (.cells #[.pointer (some ⟨A.sb, 0, none⟩)] 32 (0, 0)) := ((k12.trans k23).trans k34).get (by rw [← hw1, ← hmb]; exact heap_alloc_new _ _) id
  have q2 : w4.heap[rb]? = some (.cells #[.int .i64 root] 3 (0, 0)) := (k23.trans k34).get (by rw [← hw2, ← hrb]; exact heap_alloc_new _ _) id
  have q3 : w4.heap[kb]? = some (.cells #[.int .i64 key] 3 (0, 0)) := k34.get (by rw [← hw3, ← hkb]; exact heap_alloc_new _ _) id
  have q4 : w4.heap[bb]? = some (.cells C.toArray 35 (0, 0)) := by rw [← hw4, ← hbb]; exact heap_alloc_new _ _
  have s1 : Safe w4 A mb := Safe.new h (by omega) (lt_of_heap q1)
  have s2 : Safe w4 A rb := Safe.new h (by have := k1.size; omega) (lt_of_heap q2)
  have s3 : Safe w4 A kb := Safe.new h (by have := k1.size; have := k12.size; omega) (lt_of_heap q3)
  have s4 : Safe w4 A bb := Safe.new h (by have := k1.size; have := k12.size; have := k23.size; omega) (lt_of_heap q4)
  have hth := imageThere key w4
  have ck4 := cell_of_heap q3 0
  simp at ck4
  have hld4 := Lib.hid (ptr_load q1)
  have hSf := safelyWrite (h.fresh k4) (.pointer (some ⟨mb, 0, none⟩)) (.pointer (some ⟨bb, 0, none⟩)) (.pointer (some ⟨rb, 0, none⟩)) (.pointer (some ⟨kb, 0, none⟩)) (M.marked.write1 root key b) (write1_size _ _ _ _)
    (fun w' A' hT => by
      have hd := writeDo hT.store root key hb h256 (mb := mb) (bb := bb) (rb := rb) (kb := kb) (by rw [hT.sb]; exact hT.get q1 s1) (by rw [hC]; exact hT.get q4 s4) (hT.get q2 s2) (hT.get q3 s3) (s1.to hT) (s2.to hT) (s3.to hT) hfew
      exact hd)
  have hSf' := Lib.hid hSf
  have k4' := Lib.hid k4
  have hw1' := Lib.hid hw1
  have hw2' := Lib.hid hw2
  have hw3' := Lib.hid hw3
  have hw4' := Lib.hid hw4
  have hmb' := Lib.hid hmb
  have hrb' := Lib.hid hrb
  have hkb' := Lib.hid hkb
  have hbb' := Lib.hid hbb
  have hkb2 : Hid (w1.heap.size + 1 = kb) := Lib.hid (by rw [← hkb, ← hw2]; simp)
  have hbb2 : Hid (w1.heap.size + 1 + 1 = bb) := Lib.hid (by rw [← hbb, ← hw3, ← hw2]; simp)
  by_cases hk : 0 ≤ key ∧ key < 64
  · rw [decide_eq_true hk] at hth
    have hth' := Lib.hid hth
    have hwr : M.write root key b = M.safely (M.marked.write1 root key b) := by unfold SM.write; rw [if_neg (by omega)]
    rw [hwr]
    have h' := Lib.hid (h.fresh k4)
    clear hw1 hw2 hw3 hw4 hmb hrb hkb hbb k1 k12 k23 k34 k4 q1 q2 q3 q4 s1 s2 s3 s4 hth hSf hC hk hwr h hb h256
    go_enter Tryz.func19, Tryz.ntmps19
    go_wp2_with (first | (refine wpList_box_named 32 rfl rfl _ rfl hw1'.out ?_; rw [hmb'.out]))
    rw [hw2'.out, hw3'.out, hw4'.out, hbb2.out, hkb2.out, hrb'.out]
    refine hth'.out.mono ?_
    rintro e w5 ⟨rfl, rfl⟩
    go_wp2_with (first | (refine wpList_load_agg 32 rfl rfl rfl _ Tryz.underlying32 rfl [.pointer (some ⟨A.sb, 0, none⟩)] (by kernel_rfl) hld4.out ?_))
    refine hSf'.out.mono ?_
    rintro e w6 ⟨A6, rfl, hT6⟩
    have T6 := Lib.hid (StoreTo.before k4'.out hT6)
    clear hT6
    go_wp2_with fail
    go_ret2
    exact ⟨A6, rfl, T6.out⟩
  · rw [decide_eq_false hk] at hth
    have hth' := Lib.hid hth
    have hwr : M.write root key b = (M, -1, 101) := by unfold SM.write; rw [if_pos (by omega)]
    rw [hwr]
    dsimp only
    have h' := Lib.hid ((StoreTo.refl h).fresh k4)
    clear hw1 hw2 hw3 hw4 hmb hrb hkb hbb k1 k12 k23 k34 k4 q1 q2 q3 q4 s1 s2 s3 s4 hth hSf hC hk hwr h hb h256
    go_enter Tryz.func19, Tryz.ntmps19
    go_wp2_with (first | (refine wpList_box_named 32 rfl rfl _ rfl hw1'.out ?_; rw [hmb'.out]))
    rw [hw2'.out, hw3'.out, hw4'.out, hbb2.out, hkb2.out, hrb'.out]
    refine hth'.out.mono ?_
    rintro e w5 ⟨rfl, rfl⟩
    go_wp2_with fail
    go_ret2
    exact ⟨A, rfl, h'.out⟩
end Go.Proofs.YtidlchciehdefaaGreat
/-
  Images (package image): all blocks; the sum of all blocks.
-/
namespace Go.Proofs.YtidlchciehdefaaGreat
open Go.RowKit
set_option maxRecDepth 100000

theorem block_info : (Tryz.prog.info? 35).map (fun i => (i.zero, i.size, i.bytes)) = some (some (.agg (byteCells zeros16).toArray), 16, 16) := by kernel_rfl
theorem zero_cells : (imgCells fun _ => zeros16) = List.replicate 1024 (Value.int .u8 0) := by
  unfold imgCells imgBytes blocksOf zeros16 byteCells
  rw [List.map_const', List.length_range, List.flatten_replicate_replicate, List.map_replicate]
  rfl
theorem made_blocks : madeCells (byteCells zeros16).toArray (64 * 16) = (imgCells fun _ => zeros16).toArray := by
  rw [zero_cells]
  have hz : ∀ i, i < 16 → (byteCells zeros16)[i]? = some (.int .u8 0) := fun i hi => by
    unfold byteCells zeros16
    rw [List.map_replicate, List.getElem?_replicate, if_pos hi]
    rfl
  have hl : (byteCells zeros16).toArray.size = 16 := rfl
  refine Array.ext_getElem? fun j => ?_
  by_cases hj : j < 1024
  · have := hz (j % 16) (Nat.mod_lt _ (by omega))
    have e : (List.replicate 1024 (Value.int .u8 0)).toArray[j]? = some (.int .u8 0) := by
      rw [List.getElem?_toArray, List.getElem?_replicate, if_pos hj]
    rw [e]
    simp [madeCells, hj, hl, Array.getElem!_eq_getD, this]
  · rw [Array.getElem?_eq_none (by simp [madeCells]; omega), Array.getElem?_eq_none (by simp; omega)]
theorem wpList_makeBlocks {ops : Array Oper} {rest : List Oper} {o : Oper} {a : Act} {Q : Exit → Act → World → Prop} {w : World} (hgd : o.guard = none) (x : Operand) (ho : o.op = .makeSlice 73 x x) (hx : a.eval x = .int .i64 64)
    (h : wpList Tryz.prog ops Q rest (a.put o.dst (.slice (some ⟨w.heap.size, 0, none⟩) 64 64)) (w.alloc (.cells (imgCells fun _ => zeros16).toArray 35))) :
    wpList Tryz.prog ops Q (o :: rest) a w := by
  obtain ⟨i0, hi0, hz0, hz1, hz2⟩ := info_parts block_info
  have hr := run_make (P := Tryz.prog) w 73 35 i0 (.agg (byteCells zeros16).toArray) Tryz.underlying73 hi0 hz0 .i64 .i64 ((64 : Nat) : Int) ((64 : Nat) : Int) (by omega) (by omega) (by rw [hz2]; omega) (by omega)
  refine wpList_exec hgd ?_ h
  have hx' : a.eval x = .int .i64 ((64 : Nat) : Int) := hx
  unfold execOp
  simp only [ho, hx', Sem.run_bind, hr, Result.andThen_ok, Int.toNat_natCast, hz1]
  rw [← made_blocks]
  rfl
/-- The blocks that were set so far. -/
def partW (w : Int → List Nat) (l : List (Int × Int)) : Int → List Nat := l.foldl (fun f y => upd f y.1 (w y.1)) (fun _ => zeros16)
theorem partW_get (w : Int → List Nat) (l : List (Int × Int)) (k : Int) : partW w l k = if (∃ y ∈ l, y.1 = k) then w k else zeros16 := by
  have key : ∀ (l : List (Int × Int)) (f : Int → List Nat), l.foldl (fun f y => upd f y.1 (w y.1)) f k = if (∃ y ∈ l, y.1 = k) then w k else f k := by
    intro l
    induction l with
    | nil => intro f; rw [if_neg (fun ⟨y, hy, _⟩ => by cases hy)]; rfl
    | cons x l ih =>
      intro f
      rw [List.foldl_cons, ih]
      by_cases h1 : ∃ y ∈ l, y.1 = k
      · rw [if_pos h1, if_pos (by obtain ⟨y, hy, e⟩ := h1; exact ⟨y, List.mem_cons_of_mem _ hy, e⟩)]
      · rw [if_neg h1]
        unfold upd
        by_cases e : k = x.1
        · rw [if_pos e, if_pos ⟨x, List.mem_cons_self .., e.symm⟩, e]
        · rw [if_neg e, if_neg (fun ⟨y, hy, hy2⟩ => by
            rcases List.mem_cons.1 hy with rfl | hy
            · exact e hy2.symm
            · exact h1 ⟨y, hy, hy2⟩)]
  exact key l _
theorem partW_bytes {w : Int → List Nat} (h : Bytes w) (l : List (Int × Int)) : Bytes (partW w l) := by
  refine ⟨fun k => ?_, fun k => ?_⟩ <;> rw [partW_get] <;> split
  · exact h.len k
  · exact zeros_ok.1
  · exact h.lt k
  · exact zeros_ok.2.1
theorem blocksOf_congr {f g : Int → List Nat} (h : ∀ k : Nat, k < 64 → f (k : Int) = g (k : Int)) : blocksOf f = blocksOf g := by
  unfold blocksOf
  exact List.map_congr_left fun k hk => h k (List.mem_range.1 hk)
theorem partW_all {m : Nat} {M : SM} {i : IM} (h : Img m M i) : imgCells (partW i.w i.l) = imgCells i.w := by
  unfold imgCells imgBytes
  rw [blocksOf_congr fun k hk => ?_]
  rw [partW_get]
  exact (img_all h hk).symm
theorem partW_take (w : Int → List Nat) {l : List (Int × Int)} {k : Nat} {y : Int × Int} (h : l[k]? = some y) : partW w (l.take (k + 1)) = upd (partW w (l.take k)) y.1 (w y.1) := by
  unfold partW
  rw [List.take_add_one, h, List.foldl_append]
  rfl
/-- Where All's loop stands. -/
structure AllSt (w : World) (mb gb sb : Nat) (v : Value) (i : IM) (k : Nat) (wr : World) : Prop where
  kept : Kept (fun _ => False) w wr
  im : wr.heap[mb]? = some (.cells #[.pointer (some ⟨sb, 0, none⟩)] 32 (0, 0))
  ents : EntsAt wr v i.l
  out : wr.heap[gb]? = some (.cells (imgCells (partW i.w (i.l.take k))).toArray 35 (0, 0))
set_option maxHeartbeats 8000000 in
theorem imageAll {w : World} {A : SA} {M : SM} {m : Nat} {ext : Nat → Nat} {i : IM} (h : StoreAt w A M) (hi : Img m M i) (E : Exact M ext) (hP : i.P ≤ 150) (hB : Bytes i.w) :
    Calls Tryz.prog 44 #[.agg #[.pointer (some ⟨A.sb, 0, none⟩)], .int .i64 i.root] w fun e w' => ∃ gb, e = .returned (.tuple #[.slice (some ⟨gb, 0, none⟩) 64 64, .int .i64 0]) ∧ w.heap.size ≤ gb ∧
      w'.heap[gb]? = some (.cells (imgCells i.w).toArray 35 (0, 0)) ∧ Kept (fun _ => False) w w' := by
  obtain ⟨mb, hmb⟩ : ∃ mb, w.heap.size = mb := ⟨_, rfl⟩
  obtain ⟨w1, hw1⟩ : ∃ w1, w.alloc (.cells #[.pointer (some ⟨A.sb, 0, none⟩)] 32) = w1 := ⟨_, rfl⟩
  have k1 : Kept (fun _ => False) w w1 := by rw [← hw1]; exact (Kept.refl _ _).alloc _
  have q1 : w1.heap[mb]? = some (.cells #[.pointer (some ⟨A.sb, 0, none⟩)] 32 (0, 0)) := by rw [← hw1, ← hmb]; exact heap_alloc_new _ _
  have hL := treeList (h.fresh k1) i.root
  rw [hi.tree.list hP] at hL
  dsimp only at hL
  have hL' := Lib.hid hL
  have hld1 := Lib.hid (ptr_load q1)
  have hpage : Hid (∀ y ∈ i.l, PageOf M y.2 (i.w y.1) ∧ 0 ≤ y.1 ∧ y.1 < 64) := Lib.hid (fun y hy => ⟨⟨hB.len _, .inr ⟨by have := hi.low E hy; omega, hi.page E hy⟩⟩, hi.tree.keys.2 y hy⟩)
  have hlen64 := hi.tree.len
  have hall := Lib.hid (partW_all hi)
  have hB' := Lib.hid hB
  have h' := Lib.hid h
  have k1' := Lib.hid k1
  have q1' := Lib.hid q1
  have hw1' := Lib.hid hw1
  have hmb' := Lib.hid hmb
  obtain ⟨Z, hZ⟩ : ∃ Z, byteCells zeros16 = Z := ⟨_, rfl⟩
  have hZz : Hid ((Tryz.prog.info? 35).map (·.zero) = some (some (.agg Z.toArray))) := Lib.hid (by rw [← hZ]; exact block_zero)
  have hZl : Hid (Z.length = 16) := Lib.hid (by rw [← hZ]; rfl)
  clear hw1 hmb k1 q1 hL hi E hB h hZ
  go_enter Tryz.func44, Tryz.ntmps44
  go_wp2_with (first | (refine wpList_box_named 32 rfl rfl _ rfl hw1'.out ?_; rw [hmb'.out]) | (refine wpList_load_agg 26 rfl rfl rfl _ Tryz.underlying26 rfl [.pointer (some ⟨A.sb, 0, none⟩)] (by kernel_rfl) hld1.out ?_))
  refine hL'.out.mono ?_
  rintro e w2 ⟨v, rfl, hown2, hk2⟩
  obtain ⟨Av, cv, rfl, hv1, hv2⟩ := EntsAt.form (show EntsAt w2 v i.l from SliceAt.of_owns hown2)
  unfold maxLen at hv2
  obtain ⟨gb, hgb⟩ : ∃ gb, w2.heap.size = gb := ⟨_, rfl⟩
  obtain ⟨w3, hw3⟩ : ∃ w3, w2.alloc (.cells (imgCells fun _ => zeros16).toArray 35) = w3 := ⟨_, rfl⟩
  have k3 : Kept (fun _ => False) w2 w3 := by rw [← hw3]; exact (Kept.refl _ _).alloc _
  have I3 : Hid (AllSt w mb gb A.sb (.slice Av i.l.length cv) i 0 w3) := Lib.hid ⟨(k1'.out.trans hk2).trans k3, k3.get (hk2.get q1'.out id) id, SliceAt.fresh (SliceAt.of_owns hown2) k3, by rw [← hw3, ← hgb]; exact heap_alloc_new _ _⟩
  have hgbw : Hid (w.heap.size ≤ gb ∧ mb < gb) := Lib.hid ⟨by have := (k1'.out.trans hk2).size; omega, by have := lt_of_heap (hk2.get q1'.out id); omega⟩
  have hvb : Hid (∀ b, (Value.slice Av i.l.length cv).ownBlock = some b → b < gb) := Lib.hid (fun b hb => by rw [← hgb]; exact (hown2.lt b hb).2)
  have hw3' := Lib.hid hw3
  have hgb' := Lib.hid hgb
  clear hown2 hk2 hw3 hgb k3
  go_wp2_with (first | (at_make; refine wpList_makeBlocks rfl (.const (.int .i64 64)) rfl rfl ?_; rw [hw3'.out, hgb'.out]))
  go_loopw [28] (fun n wr => ∃ (k : Nat), k ≤ i.l.length ∧ n = .int .i64 k ∧ Hid (AllSt w mb gb A.sb (.slice Av i.l.length cv) i k wr)) (fun n _ => i.l.length - (intOf n).toNat)
  case atStart => exact ⟨0, Nat.zero_le _, rfl, I3⟩
  case round =>
    obtain ⟨k, hk, rfl, hI⟩ := hrel
    by_cases hlt : k < i.l.length
    · obtain ⟨y, hy⟩ : ∃ y, i.l[k]? = some y := ⟨_, List.getElem?_eq_getElem hlt⟩
      have hym : y ∈ i.l := List.mem_of_getElem? hy
      obtain ⟨eb, eo, rfl, heb, hy0, hy1⟩ := hI.out.ents.get hy
      obtain ⟨hpg, y0, y64⟩ := hpage.out y hym
      have hpt := partW_take i.w hy
      obtain ⟨yk, yp⟩ := y
      dsimp only at hy0 hy1 hpg y0 y64 hpt
      obtain ⟨q, rfl⟩ := Int.eq_ofNat_of_zero_le y0
      have hq64 : q < 64 := by omega
      have hqi : (q : Int) < 64 := by omega
      have hki : (k : Int) < (i.l.length : Int) := by omega
      have hlo : Hid (∀ j v, [Value.int .i64 (q : Int), .int .i64 yp][j]? = some v → wr.cell? ⟨eb, eo + k * 2 + j, none⟩ = some v) := Lib.hid (fun j v hj => by
        match j, hj with
        | 0, hj => cases hj; exact hy0
        | 1, hj => cases hj; exact hy1)
      obtain ⟨xb, hxb⟩ : ∃ xb, wr.heap.size = xb := ⟨_, rfl⟩
      obtain ⟨wx, hwx⟩ : ∃ wx, (wr.alloc (.cells #[.int .i64 0, .int .i64 0] 86)).setRow xb #[.int .i64 (q : Int), .int .i64 yp] = wx := ⟨_, rfl⟩
      have kx : Kept (fun _ => False) wr wx := by rw [← hwx]; exact ((Kept.refl _ _).alloc _).setRowNew (by omega) _
      have qx : wx.heap[xb]? = some (.cells #[.int .i64 (q : Int), .int .i64 yp] 86 (0, 0)) := by rw [← hwx, ← hxb]; exact setRow_heap _ _ _ _ _ _ (heap_alloc_new _ _)
      have cx1 := cell_of_heap qx 1
      simp at cx1
      have hldx := Lib.hid (ptr_load (kx.get hI.out.im id))
      have hBk := imageBlock (h'.out.fresh (hI.out.kept.trans kx)) hpg
      obtain ⟨C, hC⟩ : ∃ C, byteCells (i.w (q : Int)) = C := ⟨_, rfl⟩
      have hCl : Hid (C.length = 16) := Lib.hid (by rw [← hC, byteCells_len]; exact hB'.out.len _)
      have hC1 : Hid (∀ v ∈ C, v.oneCell' = true) := Lib.hid (by rw [← hC]; exact byteCells_one _)
      have hnew : Hid (imgCells (partW i.w (i.l.take (k + 1))) = (imgCells (partW i.w (i.l.take k))).take (q * 16) ++ (C ++ (imgCells (partW i.w (i.l.take k))).drop (q * 16 + 16))) := Lib.hid (by rw [hpt, ← hC, ← List.append_assoc]; exact imgCells_upd (partW_bytes hB'.out _) hq64 (hB'.out.len _))
      have hcl : Hid ((imgCells (partW i.w (i.l.take k))).length = 1024) := Lib.hid (imgCells_len (partW_bytes hB'.out _))
      rw [hC] at hBk
      have hBk' := Lib.hid hBk
      have qx' := Lib.hid qx
      have kx' := Lib.hid kx
      have hI' := Lib.hid hI.out
      have hxb' := Lib.hid hxb
      have hwx' := Lib.hid hwx
      clear hy hym hy0 hy1 hpg hpt hBk hC qx kx hI hxb hwx
      go_wp2_with (first | (refine wpList_load_agg 86 rfl rfl rfl _ Tryz.underlying86 rfl [.int .i64 (q : Int), .int .i64 yp] (by kernel_rfl) hlo.out ?_) | (refine wpList_alloc_as 86 rfl rfl #[.int .i64 0, .int .i64 0] (by kernel_rfl) ?_; rw [hxb'.out]) | (refine wpList_store_whole 86 rfl rfl rfl [.int .i64 (q : Int), .int .i64 yp] rfl (by kernel_rfl) 86 #[.int .i64 0, .int .i64 0] (by rw [← hxb'.out]; exact heap_alloc_new _ _) rfl (by intro c hc; simp at hc; rcases hc with rfl | rfl <;> rfl) ?_; rw [hwx'.out]) | (refine wpList_load_agg 32 rfl rfl rfl _ Tryz.underlying32 rfl [.pointer (some ⟨A.sb, 0, none⟩)] (by kernel_rfl) hldx.out ?_))
      refine hBk'.out.mono ?_
      rintro e w4 ⟨rfl, hk4⟩
      obtain ⟨bb, hbb⟩ : ∃ bb, w4.heap.size = bb := ⟨_, rfl⟩
      obtain ⟨w5, hw5⟩ : ∃ w5, (w4.alloc (.cells Z.toArray 35)).setRow bb C.toArray = w5 := ⟨_, rfl⟩
      have k5 : Kept (fun _ => False) w4 w5 := by rw [← hw5]; exact ((Kept.refl _ _).alloc _).setRowNew (by omega) _
      have q5 : w5.heap[bb]? = some (.cells C.toArray 35 (0, 0)) := by rw [← hw5, ← hbb]; exact setRow_heap _ _ _ _ _ _ (heap_alloc_new _ _)
      have hlb : Hid (∀ j v, C[j]? = some v → w5.cell? ⟨bb, 0 + j, none⟩ = some v) := Lib.hid (fun j v hj => by rw [Nat.zero_add, cell_of_heap q5]; simpa using hj)
      have c50 := cell_of_heap (k5.get (hk4.get qx'.out id) id) 0
      simp at c50
      have kw5 := (kx'.out.trans hk4).trans k5
      have hg5 := Lib.hid (kw5.get hI'.out.out id)
      have fin : Hid (AllSt w mb gb A.sb (.slice (some ⟨eb, eo, none⟩) i.l.length cv) i (k + 1) (w5.setRow gb ((imgCells (partW i.w (i.l.take k))).take (q * 16) ++ (C ++ (imgCells (partW i.w (i.l.take k))).drop (q * 16 + 16))).toArray)) := Lib.hid (by
        have kset : Kept (fun j => j = gb) w5 (w5.setRow gb ((imgCells (partW i.w (i.l.take k))).take (q * 16) ++ (C ++ (imgCells (partW i.w (i.l.take k))).drop (q * 16 + 16))).toArray) := Kept.setRow (S := fun j => j = gb) (Kept.refl _ _) rfl _
        refine ⟨(hI'.out.kept.trans kw5).setRowNew hgbw.out.1 _, kset.get (kw5.get hI'.out.im id) (fun e => by have := hgbw.out.2; omega), SliceAt.kept (SliceAt.fresh hI'.out.ents kw5) kset (fun b hb e => ?_), by rw [hnew.out]; exact setRow_heap _ _ _ _ _ _ hg5.out⟩
        exact absurd (hvb.out b hb) (by omega))
      have hw5' := Lib.hid hw5
      have hbb' := Lib.hid hbb
      clear hk4 k5 q5 kw5 hw5 hbb cx1
      go_wp2_with (first | (refine wpList_alloc_as 35 rfl rfl Z.toArray hZz.out ?_; rw [hbb'.out]) | (refine wpList_store_whole 35 rfl rfl rfl C rfl (by rw [hCl.out]; exact block_size) 35 Z.toArray (by rw [← hbb'.out]; exact heap_alloc_new _ _) (by simp [hZl.out, hCl.out]) hC1.out ?_; rw [hw5'.out]) | (refine wpList_load_agg 35 rfl rfl rfl _ Tryz.underlying35 rfl C (by rw [hCl.out]; exact block_size) hlb.out ?_) | (refine wpList_store_agg 35 rfl rfl (g := gb) (off := q * 16) (by rfl) C rfl (by rw [hCl.out]; exact block_size) 35 _ hg5.out (by simp [hcl.out, hCl.out]; omega) hC1.out ?_))
      rw [hCl.out]
      go_roundw
      case rel => exact ⟨k + 1, by omega, by go_num, fin⟩
      case measure => simp [intOf]; omega
    · obtain rfl : k = i.l.length := by omega
      have ho := hI.out.out
      rw [List.take_length, hall.out] at ho
      have ho' := Lib.hid ho
      have kk := Lib.hid hI.out.kept
      clear ho hI
      go_wp2_with fail
      go_ret2
      exact ⟨gb, rfl, hgbw.out.1, ho'.out, kk.out⟩
end Go.Proofs.YtidlchciehdefaaGreat
/-
  Images (package image): the sum of all blocks; a copy; blocks are cleared.
-/
namespace Go.Proofs.YtidlchciehdefaaGreat
open Go.RowKit
set_option maxRecDepth 100000

theorem elemRow : Elem 120 121 1 24 := Elem.of (z := .slice none 0 0) Tryz.underlying120 (by kernel_rfl) (by kernel_rfl) (by omega)
def rowsV (gb k : Nat) : List Value := (List.range k).map fun j => Value.slice (some ⟨gb, j * 16, none⟩) 16 16
theorem rowsV_succ (gb k : Nat) : rowsV gb (k + 1) = rowsV gb k ++ [.slice (some ⟨gb, k * 16, none⟩) 16 16] := by unfold rowsV; rw [List.range_succ, List.map_append]; rfl
theorem rows_parts {w : World} {v : Value} {gb base : Nat} {f : Int → List Nat} (hB : Bytes f) (hb : w.heap[gb]? = some (.cells (imgCells f).toArray 35 (0, 0))) (hv : w.ownsRow base 121 1 v 64 (rowsV gb 64)) : PartsAt w v (blocksOf f) (rowsV gb 64) := by
  refine ⟨by rw [blocksOf_len]; unfold rowsV; simp, by rw [blocksOf_len]; exact SliceAt.of_owns hv, fun j u l hj hl => ?_⟩
  have hj64 : j < 64 := by
    have := (List.getElem?_eq_some_iff.1 hl).1
    rwa [blocksOf_len] at this
  rw [blocksOf_get f hj64] at hl
  cases hl
  have hu : u = .slice (some ⟨gb, j * 16, none⟩) 16 16 := by
    unfold rowsV at hj
    rw [List.getElem?_map, List.getElem?_range hj64] at hj
    exact (Option.some.inj hj).symm
  subst hu
  have hlen := hB.len (j : Int)
  refine ⟨⟨by simp [byteCells_len], some ⟨gb, j * 16, none⟩, 16, by rw [hlen], by rw [hlen]; exact Nat.le_refl _, by decide, fun n u hn => ⟨gb, j * 16, rfl, ?_⟩⟩, hB.lt _⟩
  have hn16 : n < 16 := by
    have := (List.getElem?_eq_some_iff.1 hn).1
    rw [byteCells_len, hlen] at this
    exact this
  rw [cell_of_heap hb]
  have := imgCells_get hB hj64 hn16
  rw [hn] at this
  simpa using this
/-- Where Sum's loop stands. -/
structure SumSt (w : World) (gb : Nat) (f : Int → List Nat) (v : Value) (k : Nat) (wr : World) : Prop where
  kept : Kept (fun _ => False) w wr
  blk : wr.heap[gb]? = some (.cells (imgCells f).toArray 35 (0, 0))
  row : wr.ownsRow w.heap.size 121 1 v k (rowsV gb k)
set_option maxHeartbeats 8000000 in
theorem imageSum {w : World} {A : SA} {M : SM} {m : Nat} {ext : Nat → Nat} {i : IM} (h : StoreAt w A M) (hi : Img m M i) (E : Exact M ext) (hP : i.P ≤ 150) (hB : Bytes i.w) :
    Calls Tryz.prog 22 #[.agg #[.pointer (some ⟨A.sb, 0, none⟩)], .int .i64 i.root] w fun e w' => e = .returned (.tuple #[.int .u32 (crcOf (imgBytes i.w)), .int .i64 0]) ∧ Kept (fun _ => False) w w' := by
  have hAll := Lib.hid (fun w (h : StoreAt w A M) => imageAll h hi E hP hB)
  have h' := Lib.hid h
  have hB' := Lib.hid hB
  clear h hi E hB
  go_enter Tryz.func22, Tryz.ntmps22
  go_wp2_with fail
  refine (hAll.out _ (h'.out.fresh ((Kept.refl (fun _ => False) w).alloc (.cells #[.pointer (some ⟨A.sb, 0, none⟩)] 32)))).mono ?_
  rintro e w2 ⟨gb, rfl, hgb2, hblk2, hk2⟩
  have hgbl := lt_of_heap hblk2
  have I2 : Hid (SumSt w2 gb i.w (.slice none 0 0) 0 w2) := Lib.hid ⟨Kept.refl _ _, hblk2, World.ownsRow_nil _ _ _ _⟩
  have kall := Lib.hid (((Kept.refl (fun _ => False) w).alloc (.cells #[.pointer (some ⟨A.sb, 0, none⟩)] 32)).trans hk2)
  clear hk2 hblk2
  go_wp2_with fail
  go_loopw [8, 21] (fun v n wr => ∃ (k : Nat), k ≤ 64 ∧ n = .int .i64 k ∧ Hid (SumSt w2 gb i.w v k wr)) (fun _ n _ => 64 - (intOf n).toNat)
  case atStart => exact ⟨0, Nat.zero_le _, rfl, I2⟩
  case round =>
    obtain ⟨k, hk, rfl, hI⟩ := hrel
    obtain ⟨_, Av, cv, rfl, hv1, hv2, _⟩ := SliceAt.of_owns hI.out.row
    unfold maxLen at hv2
    by_cases hlt : k < 64
    · have hki : (k : Int) < 64 := by omega
      have R5 := Lib.hid (ownsRow.keptOf hI.out.row ((Kept.refl (fun _ => False) wr).alloc (.cells #[.slice (some ⟨gb, k * 16, none⟩) 16 16] 121)) (fun _ _ => id))
      have K5 := Lib.hid (hI.out.kept.trans ((Kept.refl (fun _ => False) wr).alloc (.cells #[.slice (some ⟨gb, k * 16, none⟩) 16 16] 121)))
      have hb5 := Lib.hid (((Kept.refl (fun _ => False) wr).alloc (.cells #[.slice (some ⟨gb, k * 16, none⟩) 16 16] 121)).get hI.out.blk id)
      clear hI
      go_wp2_with (at_builtin; refine wpList_append_src rfl elemRow (.tmp 24) (.tmp 29) rfl (by rfl) (by rfl) R5.out (SliceAt.block_new (ys := [.slice (some ⟨gb, k * 16, none⟩) 16 16]) (m := 1) (heap_alloc_new _ _) (by rfl) (by decide)) (by intro c hc; simp at hc; subst hc; rfl) (by omega) (by omega) K5.out.size ?_; intro v2 w10 hown10 hg10 hat10)
      have fin : Hid (SumSt w2 gb i.w v2 (k + 1) w10) := Lib.hid ⟨K5.out.trans_new (Kept.of_grown hg10) (fun j hj e => absurd hj (Nat.not_lt.2 (R5.out.lt j e).1)), (Kept.of_grown hg10).get hb5.out (fun e => by have := (R5.out.lt gb e).1; omega), by rw [rowsV_succ]; exact hown10⟩
      clear hown10 hg10 hat10
      go_wp2_with fail
      go_roundw
      case rel => exact ⟨k + 1, by omega, by go_num, fin⟩
      case measure => simp [intOf]; omega
    · obtain rfl : k = 64 := by omega
      have hcrc := Lib.hid (crcOf_any (rows_parts hB'.out hI.out.blk hI.out.row))
      have kk := Lib.hid (kall.out.trans hI.out.kept)
      clear hI
      go_wp2_with fail
      refine hcrc.out.mono ?_
      rintro e w9 ⟨rfl, rfl⟩
      go_wp2_with fail
      go_ret2
      exact ⟨rfl, kk.out⟩
set_option maxHeartbeats 4000000 in
theorem imageCopy {w : World} {A : SA} {M : SM} (h : StoreAt w A M) (root : Int) :
    Calls Tryz.prog 27 #[.agg #[.pointer (some ⟨A.sb, 0, none⟩)], .int .i64 root] w fun e w' =>
      e = .returned (.tuple #[.int .i64 (if root = -1 then root else if (M.hold root).2 = 0 then root else -1), .int .i64 (if root = -1 then 0 else (M.hold root).2 : Nat)]) ∧ StoreTo A A (if root = -1 then M else (M.hold root).1) w w' := by
  obtain ⟨mb, hmb⟩ : ∃ mb, w.heap.size = mb := ⟨_, rfl⟩
  obtain ⟨w1, hw1⟩ : ∃ w1, w.alloc (.cells #[.pointer (some ⟨A.sb, 0, none⟩)] 32) = w1 := ⟨_, rfl⟩
  have k1 : Kept (fun _ => False) w w1 := by rw [← hw1]; exact (Kept.refl _ _).alloc _
  have q1 : w1.heap[mb]? = some (.cells #[.pointer (some ⟨A.sb, 0, none⟩)] 32 (0, 0)) := by rw [← hw1, ← hmb]; exact heap_alloc_new _ _
  have cm := cell_of_heap q1 0
  simp at cm
  have h1 := Lib.hid (h.fresh k1)
  have k1' := Lib.hid k1
  have hw1' := Lib.hid hw1
  have hmb' := Lib.hid hmb
  by_cases hr : root = -1
  · have hb : (root == -1) = true := by simp [hr]
    rw [if_pos hr, if_pos hr, if_pos hr]
    have fin := Lib.hid ((StoreTo.refl h).fresh k1)
    clear hr hw1 hmb k1 q1 h
    go_enter Tryz.func27, Tryz.ntmps27
    go_wp2_with (first | (refine wpList_box_named 32 rfl rfl _ rfl hw1'.out ?_; rw [hmb'.out]))
    go_ret2
    exact ⟨rfl, fin.out⟩
  · have hb : (root == -1) = false := by simp [hr]
    rw [if_neg hr, if_neg hr, if_neg hr]
    have hH := storeHold h1.out root
    obtain ⟨R, hR⟩ : ∃ R, M.hold root = R := ⟨_, rfl⟩
    rw [hR] at hH ⊢
    obtain ⟨M1, er⟩ := R
    dsimp only at hH ⊢
    have hH' := Lib.hid hH
    by_cases h0 : er = 0
    · subst h0
      rw [if_pos rfl]
      clear hr hw1 hmb k1 q1 h hR hH
      go_enter Tryz.func27, Tryz.ntmps27
      go_wp2_with (first | (refine wpList_box_named 32 rfl rfl _ rfl hw1'.out ?_; rw [hmb'.out]))
      refine hH'.out.mono ?_
      rintro e w2 ⟨rfl, hT⟩
      have T := Lib.hid (StoreTo.before k1'.out hT)
      clear hT
      go_wp2_with fail
      go_ret2
      exact ⟨rfl, T.out⟩
    · have h0' : ((er : Int) == 0) = false := by simp; omega
      rw [if_neg h0]
      clear hr hw1 hmb k1 q1 h hR hH h0
      go_enter Tryz.func27, Tryz.ntmps27
      go_wp2_with (first | (refine wpList_box_named 32 rfl rfl _ rfl hw1'.out ?_; rw [hmb'.out]))
      refine hH'.out.mono ?_
      rintro e w2 ⟨rfl, hT⟩
      have T := Lib.hid (StoreTo.before k1'.out hT)
      clear hT
      go_wp2_with fail
      go_ret2
      exact ⟨rfl, T.out⟩
end Go.Proofs.YtidlchciehdefaaGreat
/-
  Images (package image): blocks are cleared.
-/
namespace Go.Proofs.YtidlchciehdefaaGreat
open Go.RowKit
set_option maxRecDepth 100000

set_option maxHeartbeats 4000000 in
/-- What Clear does safely. -/
theorem clearDo {w : World} {A : SA} {M : SM} (h : StoreAt w A M) (root : Int) {vk : Value} {ks : List Int} (hks : IntsOff w A vk ks) (hkl : ks.length ≤ 1000) {mb rb kb : Nat}
    (hm : w.heap[mb]? = some (.cells #[.pointer (some ⟨A.sb, 0, none⟩)] 32 (0, 0))) (hr : w.heap[rb]? = some (.cells #[.int .i64 root] 3 (0, 0))) (hk : w.heap[kb]? = some (.cells #[vk] 38 (0, 0))) (hfew : M.log.length + 100000 < 100000000) :
    Calls Tryz.prog 70 #[.pointer (some ⟨mb, 0, none⟩), .pointer (some ⟨rb, 0, none⟩), .pointer (some ⟨kb, 0, none⟩)] w fun e w' =>
      ∃ A', e = .returned (.tuple #[.int .i64 (SM.trim ks M root).2.1, .int .i64 (SM.trim ks M root).2.2]) ∧ StoreTo A A' (SM.trim ks M root).1 w w' := by
  have hT := pruneTrim h root hks hkl hfew
  obtain ⟨Av, cap, rfl, _, _⟩ := hks.form
  have cr := cell_of_heap hr 0
  have ck := cell_of_heap hk 0
  simp at cr ck
  have hld := Lib.hid (ptr_load hm)
  have hT' := Lib.hid hT
  clear hT hm hr hk h hks
  go_enter Tryz.func70, Tryz.ntmps70
  go_wp2_with (first | (refine wpList_load_agg 28 rfl rfl rfl _ Tryz.underlying28 rfl [.pointer (some ⟨A.sb, 0, none⟩)] (by kernel_rfl) hld.out ?_))
  refine hT'.out.mono ?_
  rintro e w1 ⟨A1, rfl, hT1⟩
  have T1 := Lib.hid hT1
  clear hT1
  go_wp2_with fail
  go_ret2
  exact ⟨A1, rfl, T1.out⟩
theorem trim_size (ks : List Int) (M : SM) (root : Int) : (SM.trim ks M root).1.pool.size = M.pool.size := trim_closed (Q := fun N => N.pool.size = M.pool.size) ⟨fun _ _ _ _ h => h, fun N i h => by show (N.pool.holdTo i).size = _; rw [holdTo_size]; exact h, fun N i _ h => by show (N.pool.dropTo i.toNat).size = _; rw [dropTo_size]; exact h⟩ ks root rfl
set_option maxHeartbeats 8000000 in
theorem imageClear {w : World} {A : SA} {M : SM} (h : StoreAt w A M) (root : Int) {vk : Value} {ks : List Int} (hks : IntsOff w A vk ks) (hkl : ks.length ≤ 1000) (hfew : M.log.length + 100000 < 100000000) :
    Calls Tryz.prog 26 #[.agg #[.pointer (some ⟨A.sb, 0, none⟩)], .int .i64 root, vk] w fun e w' => ∃ A', e = .returned (.tuple #[.int .i64 (M.clear root ks).2.1, .int .i64 (M.clear root ks).2.2]) ∧ StoreTo A A' (M.clear root ks).1 w w' := by
  obtain ⟨Av, cap, rfl, hc1, hc2⟩ := hks.form
  unfold maxLen at hc2
  obtain ⟨w3, hw3⟩ : ∃ w3, ((w.alloc (.cells #[.pointer (some ⟨A.sb, 0, none⟩)] 32)).alloc (.cells #[.int .i64 root] 3)).alloc (.cells #[.slice Av ks.length cap] 38) = w3 := ⟨_, rfl⟩
  have ka : Kept (fun _ => False) w (w.alloc (.cells #[.pointer (some ⟨A.sb, 0, none⟩)] 32)) := (Kept.refl _ _).alloc _
  have kb : Kept (fun _ => False) (w.alloc (.cells #[.pointer (some ⟨A.sb, 0, none⟩)] 32)) ((w.alloc (.cells #[.pointer (some ⟨A.sb, 0, none⟩)] 32)).alloc (.cells #[.int .i64 root] 3)) := (Kept.refl _ _).alloc _
  have kc : Kept (fun _ => False) ((w.alloc (.cells #[.pointer (some ⟨A.sb, 0, none⟩)] 32)).alloc (.cells #[.int .i64 root] 3)) w3 := by rw [← hw3]; exact (Kept.refl _ _).alloc _
  have q1 : w3.heap[w.heap.size]? = some (.cells #[.pointer (some ⟨A.sb, 0, none⟩)] 32 (0, 0)) := (kb.trans kc).get (heap_alloc_new _ _) id
  have q2 : w3.heap[w.heap.size + 1]? = some (.cells #[.int .i64 root] 3 (0, 0)) := kc.get (by
    have := heap_alloc_new (w.alloc (.cells #[.pointer (some ⟨A.sb, 0, none⟩)] 32)) (.cells #[.int .i64 root] 3)
    rw [show (w.alloc (.cells #[.pointer (some ⟨A.sb, 0, none⟩)] 32)).heap.size = w.heap.size + 1 by simp] at this
    exact this) id
  have q3 : w3.heap[w.heap.size + 1 + 1]? = some (.cells #[.slice Av ks.length cap] 38 (0, 0)) := by
    have := heap_alloc_new ((w.alloc (.cells #[.pointer (some ⟨A.sb, 0, none⟩)] 32)).alloc (.cells #[.int .i64 root] 3)) (.cells #[.slice Av ks.length cap] 38)
    rw [show ((w.alloc (.cells #[.pointer (some ⟨A.sb, 0, none⟩)] 32)).alloc (.cells #[.int .i64 root] 3)).heap.size = w.heap.size + 1 + 1 by simp, hw3] at this
    exact this
  have k3 := (ka.trans kb).trans kc
  have s1 : Safe w3 A w.heap.size := Safe.new h (Nat.le_refl _) (lt_of_heap q1)
  have s2 : Safe w3 A (w.heap.size + 1) := Safe.new h (by omega) (lt_of_heap q2)
  have s3 : Safe w3 A (w.heap.size + 1 + 1) := Safe.new h (by omega) (lt_of_heap q3)
  have hk3 := hks.fresh k3
  have hSf := safelyClear (h.fresh k3) (.pointer (some ⟨w.heap.size, 0, none⟩)) (.pointer (some ⟨w.heap.size + 1, 0, none⟩)) (.pointer (some ⟨w.heap.size + 1 + 1, 0, none⟩)) (SM.trim ks M.marked root) (trim_size _ _ _)
    (fun w' A' hT => clearDo hT.store root (hk3.to hT) hkl (mb := w.heap.size) (rb := w.heap.size + 1) (kb := w.heap.size + 1 + 1) (by rw [hT.sb]; exact hT.get q1 s1) (hT.get q2 s2) (hT.get q3 s3) hfew)
  have ck3 := cell_of_heap q3 0
  simp at ck3
  have hld3 := Lib.hid (ptr_load q1)
  have hSf' := Lib.hid hSf
  have hk3' := Lib.hid hk3
  have k3' := Lib.hid k3
  have h' := Lib.hid ((StoreTo.refl h).fresh k3)
  have hw3' := Lib.hid hw3
  clear hSf hk3 k3 hw3 ka kb kc q1 q2 q3 s1 s2 s3 h hks
  go_enter Tryz.func26, Tryz.ntmps26
  go_wp2_with fail
  rw [hw3'.out]
  go_wp2_with fail
  go_loopw [12] (fun n wr => ∃ (k : Nat), k ≤ ks.length ∧ n = .int .i64 k ∧ wr = w3 ∧ Hid (∀ j x, j < k → ks[j]? = some x → 0 ≤ x ∧ x < 64)) (fun n _ => ks.length - (intOf n).toNat)
  case atStart => exact ⟨0, Nat.zero_le _, rfl, rfl, Lib.hid (fun j x hj => absurd hj (Nat.not_lt_zero _))⟩
  case round =>
    obtain ⟨k, hk, rfl, rfl, hI⟩ := hrel
    by_cases hlt : k < ks.length
    · obtain ⟨x, hx⟩ : ∃ x, ks[k]? = some x := ⟨_, List.getElem?_eq_getElem hlt⟩
      obtain ⟨lb, lo, rfl, hlb, hlc⟩ := hk3'.out.get hx
      have hki : (k : Int) < (ks.length : Int) := by omega
      have hth := imageThere x wr
      by_cases hin : 0 ≤ x ∧ x < 64
      · rw [decide_eq_true hin] at hth
        have hth' := Lib.hid hth
        have fin : Hid (∀ j y, j < k + 1 → ks[j]? = some y → 0 ≤ y ∧ y < 64) := Lib.hid (fun j y hj hy => by
          by_cases e : j = k
          · subst e
            rw [hx] at hy
            cases hy
            exact hin
          · exact hI.out j y (by omega) hy)
        clear hth hx hI hin
        go_wp2_with fail
        refine hth'.out.mono ?_
        rintro e w5 ⟨rfl, rfl⟩
        go_wp2_with fail
        go_roundw
        case rel => exact ⟨k + 1, by omega, by go_num, (by first | rfl | trivial), fin⟩
        case measure => simp [intOf]; omega
      · rw [decide_eq_false hin] at hth
        have hth' := Lib.hid hth
        have hcl : Hid (M.clear root ks = (M, -1, 101)) := Lib.hid (by unfold SM.clear; rw [if_pos ⟨x, List.mem_of_getElem? hx, by omega⟩])
        clear hth hx hI hin
        go_wp2_with fail
        refine hth'.out.mono ?_
        rintro e w5 ⟨rfl, rfl⟩
        go_wp2_with fail
        go_ret2
        rw [hcl.out]
        exact ⟨A, rfl, h'.out⟩
    · obtain rfl : k = ks.length := by omega
      have hcl : Hid (M.clear root ks = M.safely (SM.trim ks M.marked root)) := Lib.hid (by
        unfold SM.clear
        rw [if_neg]
        rintro ⟨x, hx, e⟩
        obtain ⟨j, hj, hj2⟩ := List.getElem_of_mem hx
        have := hI.out j x hj (by rw [List.getElem?_eq_getElem hj, hj2])
        omega)
      clear hI
      go_wp2_with (first | (refine wpList_load_agg 32 rfl rfl rfl _ Tryz.underlying32 rfl [.pointer (some ⟨A.sb, 0, none⟩)] (by kernel_rfl) hld3.out ?_))
      refine hSf'.out.mono ?_
      rintro e w6 ⟨A6, rfl, hT6⟩
      have T6 := Lib.hid (StoreTo.before k3'.out hT6)
      clear hT6
      go_wp2_with fail
      go_ret2
      rw [hcl.out]
      exact ⟨A6, rfl, T6.out⟩
end Go.Proofs.YtidlchciehdefaaGreat
