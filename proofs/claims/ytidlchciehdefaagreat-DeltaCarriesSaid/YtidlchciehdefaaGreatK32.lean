/-
 Layer 17: slices.Chunk and slices.Clone at items.
-/
import Derived.Test.YtidlchciehdefaaGreatK20
import Derived.Test.YtidlchciehdefaaGreatK30
import Derived.Test.YtidlchciehdefaaGreatK31
set_option linter.unusedVariables false
set_option linter.unusedSimpArgs false
namespace Go.Proofs.YtidlchciehdefaaGreat
open Go.RowKit Go.Shelf
attribute [local go_sem] Oper.semAt_some
set_option maxRecDepth 100000

theorem items_drop : ∀ (m : Nat) (l : List ItemM), (l.drop m).flatMap itemCells = (l.flatMap itemCells).drop (m * 18)
 | 0, l => by simp
 | m + 1, [] => by simp
 | m + 1, x :: l => by
  rw [List.drop_succ_cons, items_drop m l, List.flatMap_cons, show (m + 1) * 18 = (itemCells x).length + m * 18 by rw [itemCells_len]; omega, List.drop_append]
  simp
theorem items_take : ∀ (m : Nat) (l : List ItemM), (l.take m).flatMap itemCells = (l.flatMap itemCells).take (m * 18)
 | 0, l => by simp
 | m + 1, [] => by simp
 | m + 1, x :: l => by
  rw [List.take_succ_cons, List.flatMap_cons, items_take m l, List.flatMap_cons, show (m + 1) * 18 = (itemCells x).length + m * 18 by rw [itemCells_len]; omega, List.take_append, List.take_of_length_le (Nat.le_add_right _ _)]
  simp
theorem partAt {W : World} {A : Option Addr} {b off cap : Nat} {l : List ItemM} (h : ItemsAt W (.slice A l.length cap) l) (hA : 0 < l.length → A = some ⟨b, off, none⟩) (m s : Nat) :
  SliceAt W (.slice (some ⟨b, off + m * 18, none⟩) (min s (l.length - m)) (min s (l.length - m))) 18 (min s (l.length - m)) (((l.drop m).take s).flatMap itemCells) := by
 obtain ⟨hl, A', cap', hv, h1, h2, h3⟩ := h
 injection hv with e1 e2 e3
 subst e1 e3
 refine ⟨by rw [items_len, List.length_take, List.length_drop], _, _, rfl, Nat.le_refl _, by omega, fun j u hj => ⟨b, off + m * 18, rfl, ?_⟩⟩
 rw [items_take, items_drop, List.getElem?_take] at hj
 split at hj
 ·rw [List.getElem?_drop] at hj
  obtain ⟨b', off', hA', hc⟩ := h3 _ u hj
  have hlen : 0 < l.length := by
   rcases Nat.eq_zero_or_pos l.length with e | e
   ·rw [List.eq_nil_of_length_eq_zero e] at hj
    simp at hj
   ·exact e
  rw [hA hlen] at hA'
  injection hA' with e
  injection e with e1 e2
  subst e1 e2
  rw [Nat.add_assoc]
  exact hc
 ·cases hj
theorem items_one (l : List ItemM) : ∀ c ∈ l.flatMap itemCells, c.oneCell' = true := by
 intro c hc
 obtain ⟨x, _, h⟩ := List.mem_flatMap.1 hc
 exact itemCells_one x c h
set_option maxHeartbeats 4000000 in
theorem cloneItems {w : World} {v : Value} {l : List ItemM} (h : ItemsAt w v l) (hn : l.length ≤ 1000) :
  Calls Tryz.prog 78 #[v] w fun e w' => ∃ u, e = .returned u ∧ w'.ownsRow w.heap.size 61 18 u l.length (l.flatMap itemCells) ∧ Kept (fun _ => False) w w' := by
 obtain ⟨hl, A, cap, rfl, hc1, hc2, hcell⟩ := id h
 have h1 := items_one l
 cases A with
 | none =>
  have hl0 : l = [] := by
   cases l with
   | nil => rfl
   | cons x l =>
    have h0 : 0 < ((x :: l).flatMap itemCells).length := by rw [hl]; simp
    obtain ⟨b, off, hA, _⟩ := hcell 0 _ (List.getElem?_eq_getElem h0)
    cases hA
  subst hl0
  have hnil : ∀ w : World, (binOp .eql 63 (.slice none 0 cap) (.slice none 0 0)).run Tryz.prog w = .ok (.bool true) w := fun w => Go.run_eql_slice_nil w 63 61 none 0 cap Tryz.underlying63
  clear hcell h hl h1
  go_enter Tryz.func78, Tryz.ntmps78
  go_wp2_with (simp only [hnil])
  go_ret
  exact ⟨_, rfl, World.ownsRow_nil _ _ _ _, Kept.refl _ _⟩
 | some a =>
  obtain ⟨w1, hw1⟩ : ∃ w1, w.alloc (.cells #[] 61) = w1 := ⟨_, rfl⟩
  have k1 := h_ (show Kept (fun _ => False) w w1 by rw [← hw1]; exact (Kept.refl _ _).alloc _)
  have hown : Hid (w1.ownsRow w.heap.size 61 18 (.slice (some ⟨w.heap.size, 0, none⟩) 0 0) 0 []) := h_ ⟨rfl, .inr ⟨w.heap.size, 0, #[], rfl, Nat.le_refl _, by rw [← hw1]; exact heap_alloc_new _ _, Nat.le_refl _, Nat.zero_le _, rfl, rfl⟩⟩
  have hs := h_ (SliceAt.fresh h k1.out)
  have h1' := h_ h1
  have hsz := k1.out.size
  have hw1' := h_ hw1
  have hnil : ∀ w : World, (binOp .eql 63 (.slice (some a) l.length cap) (.slice none 0 0)).run Tryz.prog w = .ok (.bool false) w := fun w => Go.run_eql_slice_nil w 63 61 (some a) l.length cap Tryz.underlying63
  obtain ⟨X, hX⟩ : ∃ X, l.flatMap itemCells = X := ⟨_, rfl⟩
  rw [hX] at hs h1' ⊢
  clear hcell h hl h1 hw1 hX
  go_enter Tryz.func78, Tryz.ntmps78
  go_wp2_with (first | (simp only [hnil]) | (at_builtin; rw [hw1'.out]; refine wpList_append_src rfl elemItem (.tmp 5) (.tmp 6) rfl (by rfl) (by rfl) hown.out hs.out h1'.out (by omega) (by omega) hsz ?_; intro v2 w2 hown2 hg2 hat2))
  go_ret
  refine ⟨_, rfl, by rw [Nat.zero_add, List.nil_append] at hown2; exact hown2, k1.out.grown hg2 (fun k e => .inr ?_)⟩
  have := (hown.out.lt k e).1
  omega
theorem chunk_in (F : Fence) (n : Nat) (h5 : F.fn 77) (hro : F.round = none) (a : Option Addr) (len cap s : Nat) (hs : 1 ≤ s) (w : World) :
  CallsIn F n Tryz.prog 77 #[.slice a len cap, .int .i64 s] w fun e w' => e = .returned (.func (.func 110) #[] #[.pointer (some ⟨w.heap.size, 0, none⟩), .pointer (some ⟨w.heap.size + 1, 0, none⟩)]) ∧ w' = (w.alloc (.cells #[.slice a len cap] 63)).alloc (.cells #[.int .i64 s] 3) := by
 have hlt : ¬ ((s : Int) < 1) := by omega
 refine callsIn_of_wp Tryz.func77 rfl h5 ?_ hro
 simp only [Tryz.ntmps77, List.size_toArray, List.length_cons, List.length_nil, Nat.reduceAdd, Nat.reduceSub, Array.replicate_succ, Array.replicate_zero, List.push_toArray, List.append_toArray, List.nil_append, List.cons_append]
 gi_wp2
 go_ret
 exact ⟨rfl, rfl⟩
theorem chunk_stops (F : Fence) (n : Nat) (h8 : F.fn 110) (hro : F.round = none) (hn : 1 ≤ n) (Bs Bn b off len cap s : Nat) (A : Option Addr) (hA : 0 < len → A = some ⟨b, off, none⟩) (hs : 1 ≤ s) (hs4 : s ≤ 4) (hlen : len ≤ 1000) (hc1 : len ≤ cap) (hc2 : cap ≤ 9223372036854775807)
  (w : World) (hBs : Bs < w.heap.size) (hBn : Bn < w.heap.size) (c1 : w.cell? ⟨Bs, 0, none⟩ = some (.slice A len cap)) (c2 : w.cell? ⟨Bn, 0, none⟩ = some (.int .i64 s)) :
  SeqStopsK F n Tryz.prog 110 #[.pointer (some ⟨Bs, 0, none⟩), .pointer (some ⟨Bn, 0, none⟩)] (chEnc b off len s) (KpC Bs Bn) (fun ys => ∃ N, len ≤ N * s ∧ ys = List.range N) (fun pre => ∃ N, pre = List.range N) len w := fun l J Jx W hW hJ _ hY h0 =>
 chunk1_in F n h8 hro hn l Bs Bn b off len cap s A hA hs hs4 hlen hc1 hc2 J Jx (fun pre X h => hJ pre X X.drew none h ⟨rfl, rfl, rfl, Nat.le_refl _, fun _ _ _ => rfl⟩ (fun r e => by cases e)) hY W ((hW.cell (p := ⟨Bs, 0, none⟩) hBs).trans c1) ((hW.cell (p := ⟨Bn, 0, none⟩) hBn).trans c2) h0
end Go.Proofs.YtidlchciehdefaaGreat
