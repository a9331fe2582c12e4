/-
 Layer 17: one chunk (delta.Chunk).
-/
import Derived.Test.YtidlchciehdefaaGreatK30
import Derived.Test.YtidlchciehdefaaGreatK32
set_option linter.unusedVariables false
set_option linter.unusedSimpArgs false
namespace Go.Proofs.YtidlchciehdefaaGreat
open Go.RowKit Go.Shelf
attribute [local go_sem] Oper.semAt_some
set_option maxRecDepth 100000

def chunkL (l : List ItemM) (s : Nat) (k : Int) : List ItemM := if k < 0 then [] else (l.drop (k.toNat * s)).take s
theorem ownsRow.turned {W W' : World} {row : Option Nat} {base sz n : Nat} {e : TypeId} {v : Value} {xs : List Value} (h : W.ownsRow base e sz v n xs) (hg : W.grownBy W' row) (hr : ∀ r, row = some r → ∃ o : Obj, W.heap[r]? = some o ∧ o.isCells = false) : W'.ownsRow base e sz v n xs :=
 _root_.Go.Proofs.YtidlchciehdefaaGreat.ownsRow.keptOf h (Kept.of_grown hg) (fun b hb hk => by
  obtain ⟨o, ho, hc⟩ := hr b hk
  rcases h.2 with ⟨rfl, _⟩ | ⟨g, cap, cur, rfl, _, hgc, _⟩
  ·cases hb
  ·cases hb
   rw [hgc] at ho
   cases ho
   cases hc)
theorem cell_put {W : World} {r B : Nat} {o : Obj} (ho : W.heap[r]? = some o) (hB : B < r) (o' : Obj) : (W.putObj r o').cell? ⟨B, 0, none⟩ = W.cell? ⟨B, 0, none⟩ :=
 World.cell?_of_block ((grownBy_putObj' W r o').block B (by have := (Array.getElem?_eq_some_iff.1 ho).1; omega) (fun e => by injection e with e; omega))
theorem chunkL_end {l : List ItemM} {s N : Nat} {k : Int} (hN : l.length ≤ N * s) (hk : k < 0 ∨ (N : Int) ≤ k) : chunkL l s k = [] := by
 unfold chunkL
 split
 ·rfl
 ·have h1 : N ≤ k.toNat := by omega
  have h2 := Nat.mul_le_mul_right s h1
  rw [List.drop_eq_nil_of_le (by omega), List.take_nil]
theorem chunkL_at {l : List ItemM} {s x : Nat} : chunkL l s x = (l.drop (x * s)).take s := by
 unfold chunkL
 rw [if_neg (by omega), Int.toNat_natCast]
theorem range_last {N x : Nat} {pre : List Nat} (h : List.range N = pre ++ [x]) : x = pre.length := by
 have h1 : N = pre.length + 1 := by simpa using congrArg List.length h
 subst h1
 rw [List.range_succ] at h
 have := (List.append_inj' h rfl).2
 injection this with e _
 exact e.symm
def ChX (B : Nat) (w0 : World) (l : List ItemM) (s : Nat) (k : Int) (ys : List Nat) (W : World) : Prop :=
 ∃ (x : Nat) (pre : List Nat) (v : Value), ys = pre ++ [x] ∧ (pre.length : Int) = k ∧ Boxed W (B + 1) 63 v ∧ W.ownsRow w0.heap.size 61 18 v ((l.drop (x * s)).take s).length (((l.drop (x * s)).take s).flatMap itemCells) ∧ Kept (fun _ => False) w0 W
set_option maxHeartbeats 8000000 in
theorem deltaChunk {w : World} {v : Value} {l : List ItemM} (hv : ItemsAt w v l) (hn : l.length ≤ 1000) (size k : Int) :
  Calls Tryz.prog 34 #[v, .int .i64 size, .int .i64 k] w fun e w' => ∃ u, e = .returned u ∧ w'.ownsRow w.heap.size 61 18 u (chunkL l (boundI size).toNat k).length ((chunkL l (boundI size).toNat k).flatMap itemCells) ∧ Kept (fun _ => False) w w' := by
 obtain ⟨_, A, cap, rfl, hc1, hc2, hcell⟩ := id hv
 unfold maxLen at hc2
 obtain ⟨b, off, hA⟩ : ∃ b off, 0 < l.length → A = some ⟨b, off, none⟩ := by
  cases l with
  | nil => exact ⟨0, 0, fun h => by simp at h⟩
  | cons x l =>
   have h0 : 0 < ((x :: l).flatMap itemCells).length := by rw [items_len]; simp
   obtain ⟨b, off, hA, _⟩ := hcell 0 _ (List.getElem?_eq_getElem h0)
   exact ⟨b, off, fun _ => hA⟩
 obtain ⟨s, hs⟩ : ∃ s : Nat, boundI size = s := ⟨(boundI size).toNat, by have := boundI_in size; omega⟩
 have hs14 : 1 ≤ s ∧ s ≤ 4 := by have := boundI_in size; omega
 have hB := fun W => deltaBounded size W
 rw [hs] at hB ⊢
 rw [Int.toNat_natCast]
 have hB' := h_ hB
 have hv' := h_ hv
 have hA' := h_ hA
 obtain ⟨w3, hw3⟩ : ∃ w3, ((w.alloc (.cells #[.int .i64 k] 3)).alloc (.cells #[.slice none 0 0] 63)).alloc (.cells #[.int .i64 0] 3) = w3 := ⟨_, rfl⟩
 have k3 : Kept (fun _ => False) w w3 := by rw [← hw3]; exact (((Kept.refl _ w).alloc _).alloc _).alloc _
 have hs3 : w3.heap.size = w.heap.size + 3 := by rw [← hw3]; simp
 have b1 : Boxed w3 w.heap.size 3 (.int .i64 k) := by rw [← hw3]; exact ((Boxed.new w 3 (.int .i64 k)).alloc (.cells #[.slice none 0 0] 63)).alloc (.cells #[.int .i64 0] 3)
 have b2 : Boxed w3 (w.heap.size + 1) 63 (.slice none 0 0) := by
  have := (Boxed.new (w.alloc (.cells #[.int .i64 k] 3)) 63 (.slice none 0 0)).alloc (.cells #[.int .i64 0] 3)
  rwa [World.size_alloc, hw3] at this
 have b3 : Boxed w3 (w.heap.size + 1 + 1) 3 (.int .i64 0) := by
  have := Boxed.new ((w.alloc (.cells #[.int .i64 k] 3)).alloc (.cells #[.slice none 0 0] 63)) 3 (.int .i64 0)
  rwa [World.size_alloc, World.size_alloc, hw3] at this
 obtain ⟨w4, hw4⟩ : ∃ w4, (w3.alloc (.cells #[.slice A l.length cap] 63)).alloc (.cells #[.int .i64 s] 3) = w4 := ⟨_, rfl⟩
 have k34 : Kept (fun _ => False) w3 w4 := by rw [← hw4]; exact ((Kept.refl _ _).alloc _).alloc _
 have hs4 : w4.heap.size = w3.heap.size + 2 := by rw [← hw4]; simp
 have c1 : w4.cell? ⟨w3.heap.size, 0, none⟩ = some (.slice A l.length cap) := by rw [← hw4]; exact ((Boxed.new w3 63 _).alloc _).cell
 have c2 : w4.cell? ⟨w3.heap.size + 1, 0, none⟩ = some (.int .i64 s) := by
  have := (Boxed.new (w3.alloc (.cells #[.slice A l.length cap] 63)) 3 (.int .i64 s)).cell
  rw [World.size_alloc, hw4] at this
  exact this
 have I4 : Hid (Boxed w4 w.heap.size 3 (.int .i64 k) ∧ Boxed w4 (w.heap.size + 1) 63 (.slice none 0 0) ∧ Boxed w4 (w.heap.size + 1 + 1) 3 (.int .i64 0) ∧ Kept (fun _ => False) w w4) := h_ ⟨k34.get b1 id, k34.get b2 id, k34.get b3 id, k3.trans k34⟩
 have hsz : Hid (w4.heap.size = w.heap.size + 5 ∧ w3.heap.size = w.heap.size + 3) := h_ ⟨by omega, hs3⟩
 have hpart : Hid (∀ (W : World) (x : Nat), Kept (fun _ => False) w W → SliceAt W (.slice (some ⟨b, off + x * s * 18, none⟩) (min s (l.length - x * s)) (min s (l.length - x * s))) 18 (min s (l.length - x * s)) (((l.drop (x * s)).take s).flatMap itemCells)) := h_ (fun W x hK => partAt (SliceAt.fresh hv hK) hA (x * s) s)
 have c1' := h_ c1
 have c2' := h_ c2
 have hw3' := h_ hw3
 have hw4' := h_ hw4
 clear hv hcell hs hB hA k3 b1 b2 b3 k34 c1 c2 hw3 hw4 hs3 hs4
 refine (callsIn_wide (n := 9)).1 ?_
 refine callsIn_of_wp_marks Tryz.func34 rfl trivial ?_ rfl
 simp only [Tryz.ntmps34, List.size_toArray, List.length_cons, List.length_nil, Nat.reduceAdd, Nat.reduceSub, Array.replicate_succ, Array.replicate_zero, List.push_toArray, List.append_toArray, List.nil_append, List.cons_append]
 gi_wp2_with (first | (refine ⟨trivial, ?_⟩; gi_at_call 76; refine (callsIn_wide.2 (hB'.out _)).mono ?_; rintro e w' ⟨rfl, rfl⟩; rw [hw3'.out]) | (refine ⟨trivial, ?_⟩; gi_at_call 77; refine (chunk_in Fence.wide _ trivial rfl _ _ _ _ (by omega) _).mono ?_; rintro e w' ⟨rfl, rfl⟩; rw [hw4'.out]))
 refine wpIn_rangeFunc_ownF (F := Fence.wide) (n := 9) rfl (by omega) (gf := 110) (lb := #[.pointer (some ⟨w3.heap.size, 0, none⟩), .pointer (some ⟨w3.heap.size + 1, 0, none⟩)]) rfl trivial (enters_of Tryz.func110 (by kernel_rfl) rfl)
  (chunk_stops Fence.wide 8 trivial rfl (by omega) w3.heap.size (w3.heap.size + 1) b off l.length cap s A hA'.out hs14.1 hs14.2 hn (by omega) (by omega) w4 (by have := hsz.out; omega) (by have := hsz.out; omega) c1'.out c2'.out)
  (fun h1 h2 => ⟨h2.1.trans h1.1, h2.2.trans h1.2⟩) (fun W r o o' hr ho hc hw => ⟨cell_put ho (by have := hsz.out; omega) _, cell_put ho (by have := hsz.out; omega) _⟩) (Below.refl _ _) (fun _ => rfl)
  (fun pre W => Boxed W w.heap.size 3 (.int .i64 k) ∧ Boxed W (w.heap.size + 1) 63 (.slice none 0 0) ∧ Boxed W (w.heap.size + 1 + 1) 3 (.int .i64 (pre.length : Nat)) ∧ (k < 0 ∨ (pre.length : Int) ≤ k) ∧ Kept (fun _ => False) w W)
  (fun c ys W => c = .ret ∧ ChX w.heap.size w l s k ys W)
  ?_ ?_ ?_ (fun x => { tmps := #[.slice A l.length cap, .int .i64 size, .int .i64 k, undef, undef, .pointer (some ⟨w.heap.size, 0, none⟩), .pointer (some ⟨w.heap.size + 1, 0, none⟩), .pointer (some ⟨w.heap.size + 1 + 1, 0, none⟩), .slice (some ⟨b, off + x * s * 18, none⟩) (min s (l.length - x * s)) (min s (l.length - x * s)), .slice A l.length cap, .int .i64 size, .int .i64 s, .func (.func 110) #[] #[.pointer (some ⟨w3.heap.size, 0, none⟩), .pointer (some ⟨w3.heap.size + 1, 0, none⟩)], .slice (some ⟨b, off + x * s * 18, none⟩) (min s (l.length - x * s)) (min s (l.length - x * s)), undef, undef, undef, undef, undef, undef, undef], defers := [] }) ?assign ?body ?done ?stop
 ·exact fun pre W W' row hs hg hr => ⟨boxed_own _ _ (fun _ : List Nat => _) pre W W' row hs.1 hg (fun r e => (hr r e).2), boxed_own _ _ (fun _ : List Nat => _) pre W W' row hs.2.1 hg (fun r e => (hr r e).2), boxed_own _ _ (fun ys : List Nat => .int .i64 (ys.length : Nat)) pre W W' row hs.2.2.1 hg (fun r e => (hr r e).2), hs.2.2.2.1, hs.2.2.2.2.grown hg (fun r e => .inr (by have h1 := (hr r e).1; have h2 := hsz.out; omega))⟩
 ·intro c ys W W' row hs hg hr
  obtain ⟨hc, x, pre, v, hys, hk, bV, hown, hkk⟩ := hs
  exact ⟨hc, x, pre, v, hys, hk, boxed_own _ _ (fun _ : List Nat => _) ys W W' row bV hg (fun r e => (hr r e).2), ownsRow.turned hown hg (fun r e => (hr r e).2), hkk.grown hg (fun r e => .inr (by have h1 := (hr r e).1; have h2 := hsz.out; omega))⟩
 ·exact ⟨I4.out.1, I4.out.2.1, I4.out.2.2.1, by simp; omega, I4.out.2.2.2⟩
 case assign =>
  intro l0 x W K hK
  unfold chEnc
  gi_wp2
  exact hK
 case body =>
  rintro l0 pre x W ⟨bK, bR, bC, hle, hkk⟩ hpl
  have hp' := hpart.out W x hkk
  have cK := bK.cell
  have cC := bC.cell
  have hlen : ((l.drop (x * s)).take s).length = min s (l.length - x * s) := by rw [List.length_take, List.length_drop]
  rw [← hlen] at hp'
  have hcl := h_ (cloneItems hp' (by omega))
  rw [hlen] at hcl
  have hkk' := h_ hkk
  have bs := h_ (And.intro bK (And.intro bR bC))
  by_cases hit : (pre.length : Int) = k
  ·have hq : ((pre.length : Int) == k) = true := by simpa using hit
   clear hp' bK bR bC hkk
   gi_wp2_with (refine ⟨trivial, ?_⟩; gi_at_call 78; refine (CallsIn.inRound l0 (callsIn_wide.2 hcl.out)).mono ?_)
   rintro e w2 ⟨u, rfl, hown, hk2⟩
   have bR2 : Boxed w2 (w.heap.size + 1) 63 (.slice none 0 0) := hk2.get bs.out.2.1 id
   have cR2 := bR2.cell
   have fR2 := bR2.frozen
   obtain ⟨_, Au, cu, rfl, _⟩ := SliceAt.of_owns hown
   have hbl := (lt_of_heap bs.out.2.1)
   have fin : Hid (KeepsOthers W (w2.setCell ⟨w.heap.size + 1, 0, none⟩ (.slice Au (min s (l.length - x * s)) cu)) ∧ (Code.ret = Code.ret ∧ ChX w.heap.size w l s k (pre ++ [x]) (w2.setCell ⟨w.heap.size + 1, 0, none⟩ (.slice Au (min s (l.length - x * s)) cu)))) := h_ (by
    refine ⟨KeepsOthers.trans ⟨hk2.size, fun i o hi _ => hk2.get hi id⟩ (KeepsOthers.setCell _ _ _), rfl, x, pre, _, rfl, hit, bR2.set _, ?_, (hkk'.out.trans hk2).setNew (by show w.heap.size ≤ w.heap.size + 1; omega) _⟩
    rw [hlen]
    exact ownsRow.keptOf (owns_weaken hown hkk'.out.size) (Kept.setCell (S := fun i => i = w.heap.size + 1) (Kept.refl _ _) rfl _) (fun bb hb e => by have h1 := (hown.lt bb hb).1; omega))
   clear hown hk2
   gi_wp2
   exact ⟨fin.out.1, rfl, fin.out.2.2⟩
  ·have hq : ((pre.length : Int) == k) = false := by simpa using hit
   have fC := bC.frozen
   have hw1 : IntKind.i64.wrap ((pre.length : Int) + 1) = (pre.length : Int) + 1 := by rw [IntKind.wrap_i64]; omega
   have kS := Kept.setCell (S := fun i => i = w.heap.size + 1 + 1) (Kept.refl _ W) (p := ⟨w.heap.size + 1 + 1, 0, none⟩) rfl (.int .i64 ((pre.length : Int) + 1))
   have fin : Hid (KeepsOthers W (W.setCell ⟨w.heap.size + 1 + 1, 0, none⟩ (.int .i64 ((pre.length : Int) + 1))) ∧ KpC w3.heap.size (w3.heap.size + 1) W (W.setCell ⟨w.heap.size + 1 + 1, 0, none⟩ (.int .i64 ((pre.length : Int) + 1))) ∧
     (Boxed (W.setCell ⟨w.heap.size + 1 + 1, 0, none⟩ (.int .i64 ((pre.length : Int) + 1))) w.heap.size 3 (.int .i64 k) ∧ Boxed (W.setCell ⟨w.heap.size + 1 + 1, 0, none⟩ (.int .i64 ((pre.length : Int) + 1))) (w.heap.size + 1) 63 (.slice none 0 0) ∧ Boxed (W.setCell ⟨w.heap.size + 1 + 1, 0, none⟩ (.int .i64 ((pre.length : Int) + 1))) (w.heap.size + 1 + 1) 3 (.int .i64 ((pre ++ [x]).length : Nat)) ∧ (k < 0 ∨ ((pre ++ [x]).length : Int) ≤ k) ∧ Kept (fun _ => False) w (W.setCell ⟨w.heap.size + 1 + 1, 0, none⟩ (.int .i64 ((pre.length : Int) + 1))))) := h_ (by
    refine ⟨KeepsOthers.setCell _ _ _, ⟨?_, ?_⟩, kS.get bK (by omega), kS.get bR (by omega), ?_, by simp; omega, hkk.setNew (by show w.heap.size ≤ w.heap.size + 1 + 1; omega) _⟩
    ·exact World.cell?_setCell_other _ _ _ _ (by have := hsz.out; simp <;> omega)
    ·exact World.cell?_setCell_other _ _ _ _ (by have := hsz.out; simp <;> omega)
    ·have := bC.set (.int .i64 ((pre.length : Int) + 1))
     rw [List.length_append, List.length_singleton, Int.natCast_add]
     exact this)
   clear hp' bK bR bC hkk kS
   gi_wp2
   exact fin.out
 case done =>
  rintro D ys W hD ⟨N, hN, rfl⟩ ⟨bK, bR, bC, hle, hkk⟩ hK
  have cR := bR.cell
  have fR := bR.frozen
  rw [List.length_range] at hle
  have hE := chunkL_end hN hle
  have hE' := h_ hE
  clear hE
  gi_wp2
  have hK' := (KeepsOthers.setCell W ⟨w.heap.size + 1, 0, none⟩ (.slice none 0 0)).same D _ hK rfl
  refine ⟨by simp, .inl ⟨_, _, rfl, run_takeDeferred hK', ?_⟩⟩
  have hc5 := cell_kept (World.cell?_setCell_same' W ⟨w.heap.size + 1, 0, none⟩ (.slice none 0 0) (by rw [cR]; rfl)) (grownBy_putObj' _ D (.deferred none)) (fun r e => by cases e; exact ⟨_, hK', rfl⟩)
  refine ⟨.slice none 0 0, ?_, _, rfl, by rw [hE'.out]; exact World.ownsRow_nil _ _ _ _, ?_⟩
  ·simp [results, Tryz.f34, go_sem, hc5]
  ·exact (hkk.setNew (p := ⟨w.heap.size + 1, 0, none⟩) (by show w.heap.size ≤ w.heap.size + 1; omega) _).grown (grownBy_putObj' _ D (.deferred none)) (fun r e => .inr (by cases e; have := hsz.out; omega))
 case stop =>
  rintro D c ys W hD ⟨N, rfl⟩ ⟨rfl, x, pre, v, hys, hk, bV, hown, hkk⟩ hK
  have hx := range_last hys
  subst hx
  subst hk
  obtain ⟨_, Au, cu, rfl, _⟩ := SliceAt.of_owns hown
  rw [← chunkL_at] at hown
  gi_wp2
  refine ⟨by simp, .inl ⟨_, _, rfl, run_takeDeferred hK, ?_⟩⟩
  have hc5 := cell_kept bV.cell (grownBy_putObj' _ D (.deferred none)) (fun r e => by cases e; exact ⟨_, hK, rfl⟩)
  refine ⟨_, ?_, _, rfl, ownsRow.turned hown (grownBy_putObj' _ D (.deferred none)) (fun r e => by cases e; exact ⟨_, hK, rfl⟩), hkk.grown (grownBy_putObj' _ D (.deferred none)) (fun r e => .inr (by cases e; have := hsz.out; omega))⟩
  simp [results, Tryz.f34, go_sem, hc5, chunkL_at]
end Go.Proofs.YtidlchciehdefaaGreat
