/-
 Numbers as bytes (package ends): the next number, of one byte (a range over a function).
-/
import Derived.Test.YtdcnogjbmdhgaaaK06
import Derived.RangeFuncNested
import Derived.RangeFuncBound
import Derived.RangeFuncCalls
import Derived.RangeFuncLeaves
import Derived.RangeFuncBox
import Derived.Shelf.Abstract
import Derived.Shelf.RegionOpen
import Derived.WalkKit
import Derived.OwnWalkIn
import Derived.TacticsInMore
import Derived.LoopNIn
import Derived.LoopIn
import Derived.Laws.BitsAllLaws
set_option linter.unusedVariables false
set_option linter.unusedSimpArgs false
namespace Go.Proofs.Ytdcnogjbmdhgaaa
open Go.RowKit Go.Shelf
abbrev U8 := { x : Int // 0 ≤ x ∧ x ≤ 255 }
attribute [local go_sem] Oper.semAt_some

set_option maxRecDepth 100000 in
set_option maxHeartbeats 2000000 in
theorem backward1_in (F : Fence) (n : Nat) (h8 : F.fn 92) (hro : F.round = none) (hn : 1 ≤ n) (l Bs b off cap : Nat) (c : U8) (J Jx : List U8 → World → Prop)
  (hY : ∀ pre x W, J pre W → pre.length < 1 → YieldAt F (n - 1) Try.prog l #[.int .i64 0, .int .u8 x.1] W fun e W' =>
   (e = .returned (.bool true) ∧ J (pre ++ [x]) W' ∧ True) ∨ (e = .returned (.bool false) ∧ Jx (pre ++ [x]) W'))
  (W : World) (hBs : W.cell? ⟨Bs, 0, none⟩ = some (.slice (some ⟨b, off, none⟩) 1 cap)) (hc : W.cell? ⟨b, off, none⟩ = some (.int .u8 c.1)) (h0 : J [] W) :
  CallsIn F n Try.prog 92 #[.func (.yield l) #[] #[], .pointer (some ⟨Bs, 0, none⟩)] W fun e W' => (∃ v, e = .returned v) ∧
   ((∃ ys, ys = [c] ∧ J ys W') ∨ (∃ pre, True ∧ Jx pre W')) := by
 refine callsIn_of_wp Try.func92 rfl h8 ?_ hro
 simp only [Try.ntmps92, List.size_toArray, List.length_cons, List.length_nil, Nat.reduceAdd, Nat.reduceSub, Array.replicate_succ, Array.replicate_zero, List.push_toArray, List.append_toArray, List.nil_append, List.cons_append]
 obtain ⟨fn, tmps, assign, body, hy, hR⟩ := hY [] c W h0 (by simp)
 gi_wp2
 gi_loopw [3] (fun i wr => (i = .int .i64 0 ∧ wr = W) ∨ (i = .int .i64 (-1) ∧ J [c] wr)) (fun i _ => (intOf i + 1).toNat)
 case atStart => exact .inl ⟨rfl, rfl⟩
 case round =>
  rcases hrel with ⟨rfl, rfl⟩ | ⟨rfl, hJs⟩
  ·gi_wp2
   refine hR.mono ?_
   rintro e W3 (⟨rfl, hJ3, _⟩ | ⟨rfl, hJx3⟩)
   ·gi_wp2
    go_roundw
    case rel => exact .inr ⟨rfl, hJ3⟩
    case measure => simp [intOf]
   ·gi_wp2
    refine bodyPost_ret (results_none rfl _ _ _) rfl ?_
    exact ⟨⟨_, rfl⟩, .inr ⟨_, trivial, hJx3⟩⟩
  ·gi_wp2
   go_end0
   exact ⟨⟨_, rfl⟩, .inl ⟨_, rfl, hJs⟩⟩

theorem backward_in (F : Fence) (n : Nat) (h5 : F.fn 90) (hro : F.round = none) (a : Option Addr) (len cap : Nat) (w : World) :
  CallsIn F n Try.prog 90 #[.slice a len cap] w fun e w' => e = .returned (.func (.func 92) #[] #[.pointer (some ⟨w.heap.size, 0, none⟩)]) ∧ w' = w.alloc (.cells #[.slice a len cap] 119) := by
 refine callsIn_of_wp Try.func90 rfl h5 ?_ hro
 simp only [Try.ntmps90, List.size_toArray, List.length_cons, List.length_nil, Nat.reduceAdd, Nat.reduceSub, Array.replicate_succ, Array.replicate_zero, List.push_toArray, List.append_toArray, List.nil_append, List.cons_append]
 gi_wp2
 go_ret
 exact ⟨rfl, rfl⟩

theorem backward_stops (F : Fence) (n : Nat) (h8 : F.fn 92) (hro : F.round = none) (hn : 1 ≤ n) (Bs b off cap : Nat) (c : U8) (w : World) (hBs : Bs < w.heap.size) (hb : b < w.heap.size)
  (hc : w.cell? ⟨Bs, 0, none⟩ = some (.slice (some ⟨b, off, none⟩) 1 cap)) (hI : w.cell? ⟨b, off, none⟩ = some (.int .u8 c.1)) :
  SeqStopsK F n Try.prog 92 #[.pointer (some ⟨Bs, 0, none⟩)] (fun x : U8 => #[Value.int .i64 0, Value.int .u8 x.1]) (fun _ _ => True) (fun ys => ys = [c]) (fun _ => True) 1 w := fun l J Jx W hW _ _ hY h0 =>
 backward1_in F n h8 hro hn l Bs b off cap c J Jx hY W ((hW.cell (p := ⟨Bs, 0, none⟩) hBs).trans hc) ((hW.cell (p := ⟨b, off, none⟩) hb).trans hI) h0

set_option maxRecDepth 100000 in
set_option maxHeartbeats 2000000 in
theorem readerNum {B : Nat} {w : World} {b c : Nat} {rest : List Nat} (h : ReaderAt B w b (c :: rest)) (hr : rest ≠ []) :
  Calls Try.prog 82 #[.pointer (some ⟨b, 0, none⟩), .int .i64 1] w fun e w' => e = .returned (.int .u64 c) ∧ ReaderAt B w' b rest ∧ Kept (fun k => k = b) w w' := by
 have hlen : 1 < (c :: rest).length := by have := List.length_pos_iff.2 hr; simp; omega
 have hc256 : c < 256 := by obtain ⟨_, _, _, _, h2, _⟩ := h.head; exact h2.lt c (by simp)
 have k1 := (Kept.refl (fun _ => False) w).alloc (.cells #[.int .u64 0] 146)
 have ht := h_ (readerTake (h.kept k1 (fun _ _ => id)) 1 hlen)
 have k1' := h_ k1; clear k1
 have hB := h.le
 have hbB : b < B := by obtain ⟨_, _, _, _, _, _, _, h5⟩ := h.head; exact h5
 clear h hlen hr
 refine (callsIn_wide (n := 9)).1 ?_
 refine callsIn_of_wp_marks Try.func82 rfl trivial ?_ rfl
 simp only [Try.ntmps82, List.size_toArray, List.length_cons, List.length_nil, Nat.reduceAdd, Nat.reduceSub, Array.replicate_succ, Array.replicate_zero, List.push_toArray, List.append_toArray, List.nil_append, List.cons_append]
 gi_wp2_with (first | (refine ⟨trivial, ?_⟩; gi_at_call 89; refine (callsIn_wide.2 (endsRight _)).mono ?_; rintro e w' ⟨rfl, rfl⟩))
 refine ⟨trivial, ?_⟩
 refine (callsIn_wide.2 ht.out).mono ?_
 rintro e w2 ⟨u, rfl, hown, hrd, hk⟩
 obtain ⟨g, cp, cur, rfl, hg1, hg2, hg3, hg4, hg5, hg6⟩ := owns_some hown (by omega)
 have hcg : w2.cell? ⟨g, 0, none⟩ = some (.int .u8 c) := by
  rw [cell_of_heap hg2]
  have h6 := congrArg (fun l => l[0]?) hg6
  simp [byteCells] at h6
  exact h6
 have hglt := lt_of_heap hg2
 have bN : Boxed w2 w.heap.size 146 (.int .u64 0) := hk.get (heap_alloc_new w _) (by omega)
 have hk' := h_ hk; clear hk
 have hrd' := h_ hrd; clear hrd
 clear hown hg2 hg5 hg6 hg3 hg4
 gi_wp2_with (first | (refine ⟨trivial, ?_⟩; gi_at_call 90; refine (backward_in Fence.wide _ trivial rfl _ _ _ _).mono ?_; rintro e w' ⟨rfl, rfl⟩))
 have bS := Boxed.new w2 119 (.slice (some ⟨g, 0, none⟩) 1 cp)
 have hcg2 : (w2.alloc (.cells #[.slice (some ⟨g, 0, none⟩) 1 cp] 119)).cell? ⟨g, 0, none⟩ = some (.int .u8 c) := by rw [World.cell?_alloc_lt _ _ _ hglt]; exact hcg
 have bN2 := bN.alloc (.cells #[.slice (some ⟨g, 0, none⟩) 1 cp] 119)
 obtain ⟨w3, hw3⟩ : ∃ w3, w2.alloc (.cells #[.slice (some ⟨g, 0, none⟩) 1 cp] 119) = w3 := ⟨_, rfl⟩
 have hk3 : Hid (Kept (fun k => k = b) w w3) := h_ (by rw [← hw3]; exact ((k1'.out.mono (fun _ => False.elim)).trans hk'.out).alloc _)
 have hs3 : w3.heap.size = w2.heap.size + 1 := by rw [← hw3]; simp
 have hrd3 : Hid (ReaderAt B w3 b rest) := h_ (by rw [← hw3]; exact hrd'.out.kept ((Kept.refl (fun _ => False) w2).alloc _) (fun _ _ => id))
 have hs2 : w.heap.size < w2.heap.size := bN.lt
 rw [hw3] at bS hcg2 bN2 ⊢
 clear hw3 bN hcg hk' hrd' ht k1'
 refine wpIn_rangeFunc_ownF (F := Fence.wide) (n := 9) rfl (by omega) (gf := 92) (lb := #[.pointer (some ⟨w2.heap.size, 0, none⟩)]) rfl trivial (enters_of Try.func92 (by kernel_rfl) rfl)
  (backward_stops Fence.wide 8 trivial rfl (by omega) w2.heap.size g 0 cp ⟨c, by omega, by omega⟩ w3 (by omega) (by omega) bS.cell hcg2) (fun _ _ => trivial) (fun _ _ _ _ _ _ _ _ => trivial) (Below.refl _ _) (fun _ => rfl)
  (fun pre W => Boxed W w.heap.size 146 (.int .u64 ((pre.map Subtype.val).headD 0)) ∧ Kept (fun k => k = w.heap.size) w3 W)
  (fun _ _ _ => False)
  (OwnFrom.and (Own.from (boxed_own _ _ _) _) (fun s W W' row hs hg hr => hs.grown hg (fun k e => .inr (hr k e).1)))
  (fun _ _ _ _ _ hs _ _ => hs)
  ⟨bN2, Kept.refl _ _⟩
  (fun x => { tmps := #[.pointer (some ⟨b, 0, none⟩), .int .i64 1, undef, undef, .int .u64 0, .pointer (some ⟨w.heap.size, 0, none⟩), undef, .int .u8 x.1, .int .i64 1, .bool true, .bool false, undef, undef, undef, .pointer (some ⟨b, 0, none⟩), .int .i64 1, .slice (some ⟨g, 0, none⟩) 1 cp, .func (.func 92) #[] #[.pointer (some ⟨w2.heap.size, 0, none⟩)], .int .i64 0, .int .u8 x.1, undef, undef, undef, undef, undef, undef], defers := [] }) ?assign ?body ?done ?stop
 case assign =>
  intro l x W K hK
  gi_wp2
  exact hK
 case body =>
  rintro l pre x W ⟨hb, hkk⟩ hpl
  obtain rfl : pre = [] := List.eq_nil_of_length_eq_zero (by omega)
  have hcb := hb.cell
  have hfb := hb.frozen
  simp at hcb
  have hx := x.2
  obtain ⟨hx1, hx2⟩ := hx
  have hor : bits .or .u64 0 x.1 = x.1 := by rw [u64_or 0 x.1 (by omega) (by omega) hx1 (by omega)]; simp; omega
  gi_wp2
  exact ⟨KeepsOthers.setCell _ _ _, trivial, hb.set _, hkk.setCell (p := ⟨w.heap.size, 0, none⟩) rfl _⟩
 case done =>
  rintro D ys W hD rfl ⟨hb, hkk⟩ hK
  have hcb := hb.cell
  gi_wp2
  refine ⟨by simp, .inl ⟨_, _, rfl, run_takeDeferred hK, ?_⟩⟩
  have kall : Kept (fun k => k = w.heap.size) w3 (W.putObj D (.deferred none)) := hkk.grown (grownBy_putObj' W D (.deferred none)) (fun k e => .inr (by cases e; exact hD))
  refine ⟨_, results_tmp rfl _ _ _, rfl, hrd3.out.kept kall (fun i hi e => by omega), hk3.out.trans_new kall (fun i hi e => by omega)⟩
 case stop =>
  rintro D c pre W _ _ h _
  exact h.elim
end Go.Proofs.Ytdcnogjbmdhgaaa
