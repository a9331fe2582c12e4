/-
 slices.Grow from nil, slices.Concat: at bytes, and at entries (printed by gen_seq.py).
-/
import Derived.Test.YtdcnogjbmdhgaaaK03
import Derived.Test.YtdcnogjbmdhgaaaK05
import Derived.Lib.Hide
set_option linter.unusedVariables false
set_option linter.unusedSimpArgs false
namespace Go.Proofs.Ytdcnogjbmdhgaaa
open Go.RowKit
set_option maxRecDepth 100000

structure RowsAt (w : World) (v : Value) (sz : Nat) (ls : List (List Value)) (vs : List Value) : Prop where
 len : vs.length = ls.length
 val : SliceAt w v 1 ls.length vs
 part : ∀ (i : Nat) (u : Value) (l : List Value), vs[i]? = some u → ls[i]? = some l → ∃ m, SliceAt w u sz m l
def lenOfV : Value → Nat
 | .slice _ n _ => n
 | _ => 0
def sumV (vs : List Value) : Nat := (vs.map lenOfV).sum
theorem sumV_take (vs : List Value) (k : Nat) (u : Value) (h : vs[k]? = some u) : sumV (vs.take (k + 1)) = sumV (vs.take k) + lenOfV u := by
 unfold sumV
 rw [List.take_add_one, h]; simp
theorem sumV_le (vs : List Value) (k : Nat) : sumV (vs.take k) ≤ sumV vs := by
 have h := congrArg (fun l => (l.map lenOfV).sum) (List.take_append_drop k vs)
 simp only [List.map_append, List.sum_append] at h
 unfold sumV
 omega
theorem SliceAt.lenV {w : World} {u : Value} {sz m : Nat} {l : List Value} (h : SliceAt w u sz m l) : lenOfV u = m := by
 obtain ⟨_, A, cap, rfl, _⟩ := h; rfl
theorem flat_take (ls : List (List Value)) (k : Nat) (l : List Value) (h : ls[k]? = some l) : (ls.take (k + 1)).flatten = (ls.take k).flatten ++ l := by
 rw [List.take_add_one, h]; simp

theorem growU8 (n : Nat) (hn : n ≤ 100000000) (w : World) :
  Calls Try.prog 85 #[.slice none 0 0, .int .i64 n] w fun e w' => ∃ v, e = .returned v ∧ w'.ownsRow w.heap.size 5 1 v 0 [] ∧ Kept (fun _ => False) w w' := by
 by_cases h0 : n = 0
 ·subst h0
  go_enter Try.func85, Try.ntmps85
  go_wp2_with fail
  go_ret
  exact ⟨_, rfl, World.ownsRow_nil _ _ _ _, Kept.refl _ _⟩
 ·have hp : 0 < n := by omega
  clear h0
  go_enter Try.func85, Try.ntmps85
  go_wp2_with (at_builtin; refine wpList_append_zeros rfl elemU8 (.tmp 20) (.tmp 21) rfl (by rfl) (n := n) (by rfl) hp (by omega) (by omega) ?_; intro g cap w1 hg hc1 hc2 hown hk; have hown' := h_ hown; clear hown; have hk' := h_ hk; clear hk; have hg' := h_ hg; clear hg; unfold maxLen at hc2)
  go_ret
  exact ⟨_, rfl, hown'.out _ (Nat.le_refl _), hk'.out⟩

set_option maxHeartbeats 1000000 in
theorem concatU8 {w : World} {v : Value} {ls : List (List Value)} {vs : List Value} (h : RowsAt w v 1 ls vs) (hsum : sumV vs ≤ 100000000) (h1 : ∀ l ∈ ls, ∀ c ∈ l, c.oneCell' = true) :
  Calls Try.prog 74 #[v] w fun e w' => ∃ u, e = .returned u ∧ w'.ownsRow w.heap.size 5 1 u (sumV vs) ls.flatten ∧ Kept (fun _ => False) w w' := by
 obtain ⟨hlen, hval, hpart⟩ := h
 obtain ⟨A, cap, rfl, hc1, hc2, hcell⟩ := hval.cells1
 unfold maxLen at hc2
 have hcell' := h_ hcell; clear hcell
 have hpart' := h_ hpart; clear hpart hval
 have hlen' := h_ hlen; clear hlen
 have h1' := h_ h1; clear h1
 have hall : Hid (sumV (vs.take ls.length) = sumV vs) := h_ (by rw [← hlen'.out, List.take_length])
 have hall2 : Hid (ls.take ls.length = ls) := h_ List.take_length
 have hle := h_ (fun k => sumV_le vs k)
 go_enter Try.func74, Try.ntmps74
 go_wp2_with fail
 go_loop [3, 11] (fun s i => ∃ k : Nat, k ≤ ls.length ∧ i = .int .i64 k ∧ s = .int .i64 (sumV (vs.take k))) (fun _ i => ls.length - (intOf i).toNat)
 case atStart => exact ⟨0, Nat.zero_le _, rfl, rfl⟩
 case round =>
  obtain ⟨k, hk, rfl, rfl⟩ := hrel
  by_cases hlt : k < ls.length
  ·obtain ⟨l, hl⟩ : ∃ l, ls[k]? = some l := ⟨_, List.getElem?_eq_getElem hlt⟩
   obtain ⟨u, hu⟩ : ∃ u, vs[k]? = some u := ⟨_, List.getElem?_eq_getElem (by rw [hlen'.out]; exact hlt)⟩
   obtain ⟨b, off, rfl, hcb⟩ := hcell'.out k u hu
   obtain ⟨m, hm⟩ := hpart'.out k u l hu hl
   have hst : Hid (sumV (vs.take (k + 1)) = sumV (vs.take k) + m) := h_ (by rw [sumV_take vs k u hu, hm.lenV])
   have hb1 := hle.out (k + 1)
   rw [hst.out] at hb1
   obtain ⟨s0, hs0⟩ : ∃ s0, sumV (vs.take k) = s0 := ⟨_, rfl⟩
   rw [hs0] at hst hb1 ⊢
   obtain ⟨A2, cap2, rfl, hd1, hd2, _⟩ := hm.val
   unfold maxLen at hd2
   clear hl hu hs0 hm
   go_wp2_with fail
   go_round
   case rel => exact ⟨k + 1, by omega, by go_num, by rw [hst.out]; go_num⟩
   case measure => simp [intOf]; omega
  ·obtain rfl : k = ls.length := by omega
   rw [hall.out]
   go_wp2_with fail
   refine (growU8 (sumV vs) hsum _).mono ?_
   rintro e w1 ⟨v1, rfl, hown, hk1⟩
   have hsz : w.heap.size ≤ w1.heap.size := hk1.size
   have hown' := h_ hown; clear hown
   have hk1' := h_ hk1; clear hk1
   have hnone : Hid (∀ k, vs[k]? = none → ls.length ≤ k) := h_ (fun k h => by rw [← hlen'.out]; simpa using h)
   go_wp2_with fail
   go_loopw [6, 27] (fun s i wr => ∃ k : Nat, k ≤ ls.length ∧ i = .int .i64 k ∧ wr.ownsRow w.heap.size 5 1 s (sumV (vs.take k)) (ls.take k).flatten ∧ Kept (fun _ => False) w wr) (fun _ i _ => ls.length - (intOf i).toNat)
   case atStart => exact ⟨0, Nat.zero_le _, rfl, hown'.out, hk1'.out⟩
   case round =>
    obtain ⟨k, hk, rfl, hownk, hkk⟩ := hrel
    by_cases hlt : k < ls.length
    ·obtain ⟨l, hl⟩ : ∃ l, ls[k]? = some l := ⟨_, List.getElem?_eq_getElem hlt⟩
     obtain ⟨u, hu⟩ : ∃ u, vs[k]? = some u := ⟨_, List.getElem?_eq_getElem (by rw [hlen'.out]; exact hlt)⟩
     obtain ⟨b, off, rfl, hcb⟩ := hcell'.out k u hu
     have hcb' := hkk.cell hcb id
     obtain ⟨m, hm⟩ := hpart'.out k u l hu hl
     have hm' := h_ (hm.kept hkk (fun _ _ => id))
     have hst : Hid (sumV (vs.take (k + 1)) = sumV (vs.take k) + m) := h_ (by rw [sumV_take vs k u hu, hm.lenV])
     have hfl : Hid ((ls.take (k + 1)).flatten = (ls.take k).flatten ++ l) := h_ (flat_take ls k l hl)
     have hb1 := hle.out (k + 1)
     rw [hst.out] at hb1
     have ho1 := h_ (h1'.out l (List.mem_of_getElem? hl))
     have hownk' := h_ hownk; clear hownk
     have hkk' := h_ hkk
     have hsz2 := hkk.size
     clear hl hu hm hkk
     go_wp2_with (at_builtin; refine wpList_append_src rfl elemU8 (.tmp 31) (.tmp 32) rfl (by rfl) (by rfl) hownk'.out hm'.out ho1.out (by omega) (by omega) hsz2 ?_; intro v2 w2 hown2 hg2 hat2; have hown2' := h_ hown2; clear hown2; have hk2' := h_ (hkk'.out.grown hg2 (fun k e => .inr (hownk'.out.lt k e).1)); clear hg2 hat2)
     go_roundw
     case rel => exact ⟨k + 1, by omega, by go_num, by rw [hst.out, hfl.out]; exact hown2'.out, hk2'.out⟩
     case measure => simp [intOf]; omega
    ·obtain rfl : k = ls.length := by omega
     rw [hall.out, hall2.out] at hownk
     have hownk' := h_ hownk; clear hownk
     have hkk' := h_ hkk; clear hkk
     go_wp2_with fail
     go_ret
     exact ⟨_, rfl, hownk'.out, hkk'.out⟩

theorem growEnt (n : Nat) (hn : n ≤ 100000000) (w : World) :
  Calls Try.prog 67 #[.slice none 0 0, .int .i64 n] w fun e w' => ∃ v, e = .returned v ∧ w'.ownsRow w.heap.size 58 2 v 0 [] ∧ Kept (fun _ => False) w w' := by
 by_cases h0 : n = 0
 ·subst h0
  go_enter Try.func67, Try.ntmps67
  go_wp2_with fail
  go_ret
  exact ⟨_, rfl, World.ownsRow_nil _ _ _ _, Kept.refl _ _⟩
 ·have hp : 0 < n := by omega
  clear h0
  go_enter Try.func67, Try.ntmps67
  go_wp2_with (at_builtin; refine wpList_append_zeros rfl elemEntry (.tmp 20) (.tmp 21) rfl (by rfl) (n := n) (by rfl) hp (by omega) (by omega) ?_; intro g cap w1 hg hc1 hc2 hown hk; have hown' := h_ hown; clear hown; have hk' := h_ hk; clear hk; have hg' := h_ hg; clear hg; unfold maxLen at hc2)
  go_ret
  exact ⟨_, rfl, hown'.out _ (Nat.le_refl _), hk'.out⟩

set_option maxHeartbeats 1000000 in
theorem concatEnt {w : World} {v : Value} {ls : List (List Value)} {vs : List Value} (h : RowsAt w v 2 ls vs) (hsum : sumV vs ≤ 100000000) (h1 : ∀ l ∈ ls, ∀ c ∈ l, c.oneCell' = true) :
  Calls Try.prog 48 #[v] w fun e w' => ∃ u, e = .returned u ∧ w'.ownsRow w.heap.size 58 2 u (sumV vs) ls.flatten ∧ Kept (fun _ => False) w w' := by
 obtain ⟨hlen, hval, hpart⟩ := h
 obtain ⟨A, cap, rfl, hc1, hc2, hcell⟩ := hval.cells1
 unfold maxLen at hc2
 have hcell' := h_ hcell; clear hcell
 have hpart' := h_ hpart; clear hpart hval
 have hlen' := h_ hlen; clear hlen
 have h1' := h_ h1; clear h1
 have hall : Hid (sumV (vs.take ls.length) = sumV vs) := h_ (by rw [← hlen'.out, List.take_length])
 have hall2 : Hid (ls.take ls.length = ls) := h_ List.take_length
 have hle := h_ (fun k => sumV_le vs k)
 go_enter Try.func48, Try.ntmps48
 go_wp2_with fail
 go_loop [3, 11] (fun s i => ∃ k : Nat, k ≤ ls.length ∧ i = .int .i64 k ∧ s = .int .i64 (sumV (vs.take k))) (fun _ i => ls.length - (intOf i).toNat)
 case atStart => exact ⟨0, Nat.zero_le _, rfl, rfl⟩
 case round =>
  obtain ⟨k, hk, rfl, rfl⟩ := hrel
  by_cases hlt : k < ls.length
  ·obtain ⟨l, hl⟩ : ∃ l, ls[k]? = some l := ⟨_, List.getElem?_eq_getElem hlt⟩
   obtain ⟨u, hu⟩ : ∃ u, vs[k]? = some u := ⟨_, List.getElem?_eq_getElem (by rw [hlen'.out]; exact hlt)⟩
   obtain ⟨b, off, rfl, hcb⟩ := hcell'.out k u hu
   obtain ⟨m, hm⟩ := hpart'.out k u l hu hl
   have hst : Hid (sumV (vs.take (k + 1)) = sumV (vs.take k) + m) := h_ (by rw [sumV_take vs k u hu, hm.lenV])
   have hb1 := hle.out (k + 1)
   rw [hst.out] at hb1
   obtain ⟨s0, hs0⟩ : ∃ s0, sumV (vs.take k) = s0 := ⟨_, rfl⟩
   rw [hs0] at hst hb1 ⊢
   obtain ⟨A2, cap2, rfl, hd1, hd2, _⟩ := hm.val
   unfold maxLen at hd2
   clear hl hu hs0 hm
   go_wp2_with fail
   go_round
   case rel => exact ⟨k + 1, by omega, by go_num, by rw [hst.out]; go_num⟩
   case measure => simp [intOf]; omega
  ·obtain rfl : k = ls.length := by omega
   rw [hall.out]
   go_wp2_with fail
   refine (growEnt (sumV vs) hsum _).mono ?_
   rintro e w1 ⟨v1, rfl, hown, hk1⟩
   have hsz : w.heap.size ≤ w1.heap.size := hk1.size
   have hown' := h_ hown; clear hown
   have hk1' := h_ hk1; clear hk1
   have hnone : Hid (∀ k, vs[k]? = none → ls.length ≤ k) := h_ (fun k h => by rw [← hlen'.out]; simpa using h)
   go_wp2_with fail
   go_loopw [6, 27] (fun s i wr => ∃ k : Nat, k ≤ ls.length ∧ i = .int .i64 k ∧ wr.ownsRow w.heap.size 58 2 s (sumV (vs.take k)) (ls.take k).flatten ∧ Kept (fun _ => False) w wr) (fun _ i _ => ls.length - (intOf i).toNat)
   case atStart => exact ⟨0, Nat.zero_le _, rfl, hown'.out, hk1'.out⟩
   case round =>
    obtain ⟨k, hk, rfl, hownk, hkk⟩ := hrel
    by_cases hlt : k < ls.length
    ·obtain ⟨l, hl⟩ : ∃ l, ls[k]? = some l := ⟨_, List.getElem?_eq_getElem hlt⟩
     obtain ⟨u, hu⟩ : ∃ u, vs[k]? = some u := ⟨_, List.getElem?_eq_getElem (by rw [hlen'.out]; exact hlt)⟩
     obtain ⟨b, off, rfl, hcb⟩ := hcell'.out k u hu
     have hcb' := hkk.cell hcb id
     obtain ⟨m, hm⟩ := hpart'.out k u l hu hl
     have hm' := h_ (hm.kept hkk (fun _ _ => id))
     have hst : Hid (sumV (vs.take (k + 1)) = sumV (vs.take k) + m) := h_ (by rw [sumV_take vs k u hu, hm.lenV])
     have hfl : Hid ((ls.take (k + 1)).flatten = (ls.take k).flatten ++ l) := h_ (flat_take ls k l hl)
     have hb1 := hle.out (k + 1)
     rw [hst.out] at hb1
     have ho1 := h_ (h1'.out l (List.mem_of_getElem? hl))
     have hownk' := h_ hownk; clear hownk
     have hkk' := h_ hkk
     have hsz2 := hkk.size
     clear hl hu hm hkk
     go_wp2_with (at_builtin; refine wpList_append_src rfl elemEntry (.tmp 31) (.tmp 32) rfl (by rfl) (by rfl) hownk'.out hm'.out ho1.out (by omega) (by omega) hsz2 ?_; intro v2 w2 hown2 hg2 hat2; have hown2' := h_ hown2; clear hown2; have hk2' := h_ (hkk'.out.grown hg2 (fun k e => .inr (hownk'.out.lt k e).1)); clear hg2 hat2)
     go_roundw
     case rel => exact ⟨k + 1, by omega, by go_num, by rw [hst.out, hfl.out]; exact hown2'.out, hk2'.out⟩
     case measure => simp [intOf]; omega
    ·obtain rfl : k = ls.length := by omega
     rw [hall.out, hall2.out] at hownk
     have hownk' := h_ hownk; clear hownk
     have hkk' := h_ hkk; clear hkk
     go_wp2_with fail
     go_ret
     exact ⟨_, rfl, hownk'.out, hkk'.out⟩

theorem SliceAt.take {w : World} {A : Option Addr} {cap n m : Nat} {xs : List Value} (h : SliceAt w (.slice A n cap) 1 n xs) (hm : m ≤ n) : SliceAt w (.slice A m cap) 1 m (xs.take m) := by
 obtain ⟨hl, A', cap', hv, h1, h2, h3⟩ := h
 injection hv with e1 e2 e3
 subst e1 e3
 refine ⟨by rw [List.length_take, hl]; omega, A, cap, rfl, by omega, h2, fun j u hj => ?_⟩
 rw [List.getElem?_take] at hj
 split at hj
 ·exact h3 j u hj
 ·cases hj
theorem SliceAt.drop {w : World} {b off cap n m : Nat} {xs : List Value} (h : SliceAt w (.slice (some ⟨b, off, none⟩) n cap) 1 n xs) (hm : m ≤ n) : SliceAt w (.slice (some ⟨b, off + m, none⟩) (n - m) (cap - m)) 1 (n - m) (xs.drop m) := by
 obtain ⟨hl, A', cap', hv, h1, h2, h3⟩ := h
 injection hv with e1 e2 e3
 subst e1 e3
 refine ⟨by rw [List.length_drop, hl]; omega, _, cap - m, rfl, by omega, by omega, fun j u hj => ?_⟩
 rw [List.getElem?_drop] at hj
 obtain ⟨b', off', hA, hc⟩ := h3 (m + j) u hj
 cases hA
 exact ⟨b, off + m, rfl, by rw [Nat.add_assoc]; exact hc⟩

theorem cloneU8 {w : World} {b off cap n : Nat} {xs : List Value} (h : SliceAt w (.slice (some ⟨b, off, none⟩) n cap) 1 n xs) (h1 : ∀ c ∈ xs, c.oneCell' = true) (hn : n ≤ 100000000) :
  Calls Try.prog 84 #[.slice (some ⟨b, off, none⟩) n cap] w fun e w' => ∃ g cap, e = .returned (.slice (some ⟨g, 0, none⟩) n cap) ∧ w'.ownsRow w.heap.size 5 1 (.slice (some ⟨g, 0, none⟩) n cap) n xs ∧ Kept (fun _ => False) w w' := by
 have heq := fun (w : World) (a : Option Addr) (n c n' c' : Nat) => Lib.run_eql_slice_nil (P := Try.prog) w 119 5 a n c n' c' Try.underlying119
 have hown := h_ (owns_empty w w.heap.size w.heap.size 5 1 (Nat.le_refl _) rfl)
 have hk := (Kept.refl (fun _ => False) w).alloc (.cells #[] 5)
 have hs := h_ (h.kept hk (fun _ _ => id))
 have hk' := h_ hk; clear hk h
 have h1' := h_ h1; clear h1
 go_enter Try.func84, Try.ntmps84
 go_wp2_with (at_builtin; refine wpList_append_src rfl elemU8 (.tmp 5) (.tmp 6) rfl (by rfl) (by rfl) hown.out hs.out h1'.out (by omega) (by omega) (by simp) ?_; intro v2 w2 hown2 hg2 hat2)
 have hb : ∀ k, Value.ownBlock (.slice (some ⟨w.heap.size, 0, none⟩) 0 0) = some k → w.heap.size ≤ k := fun k e => by simp [Value.ownBlock] at e; omega
 have hf : ∃ g cap, v2 = .slice (some ⟨g, 0, none⟩) n cap := by
  rcases hown2.2 with ⟨e, _⟩ | ⟨g, cp, cur, e, _⟩
  ·subst e; rcases hat2 with h | h <;> simp [Value.ownBlock] at h
  ·exact ⟨g, cp, by simpa using e⟩
 obtain ⟨g, cp, rfl⟩ := hf
 go_ret
 exact ⟨g, cp, rfl, by simpa using hown2, hk'.out.grown hg2 fun k e => .inr (hb k e)⟩

structure ReaderAt (B : Nat) (w : World) (b : Nat) (l : List Nat) : Prop where
 head : ∃ g off cap, w.heap[b]? = some (.cells #[.slice (some ⟨g, off, none⟩) l.length cap, .bool false] 151 (0, 0)) ∧ BytesAt w (.slice (some ⟨g, off, none⟩) l.length cap) l ∧ g ≠ b ∧ g < B ∧ b < B
 len : l.length ≤ 1000
 le : B ≤ w.heap.size
theorem ReaderAt.kept {S : Nat → Prop} {B : Nat} {w w' : World} {b : Nat} {l : List Nat} (h : ReaderAt B w b l) (k : Kept S w w') (hS : ∀ i, i < B → ¬ S i) : ReaderAt B w' b l := by
 obtain ⟨⟨g, off, cap, h1, h2, h3, h4, h5⟩, hl, hb⟩ := h
 exact ⟨⟨g, off, cap, k.get h1 (hS _ h5), h2.kept k fun c hc => (by cases hc; exact hS _ h4), h3, h4, h5⟩, hl, Nat.le_trans hb k.size⟩

theorem endsNew {w : World} {b off cap : Nat} {l : List Nat} (h : BytesAt w (.slice (some ⟨b, off, none⟩) l.length cap) l) (hn : l.length ≤ 1000) :
  Calls Try.prog 72 #[.slice (some ⟨b, off, none⟩) l.length cap] w fun e w' => ∃ r, e = .returned (.pointer (some ⟨r, 0, none⟩)) ∧ w.heap.size ≤ r ∧ ReaderAt w'.heap.size w' r l ∧ Kept (fun _ => False) w w' := by
 have hc := h_ (cloneU8 h.val (byteCells_one l) (by omega))
 have hlt := h_ h.lt
 clear h
 go_enter Try.func72, Try.ntmps72
 go_wp2_with fail
 refine hc.out.mono ?_
 rintro e w1 ⟨g, cp, rfl, hown, hk⟩
 have hlt1 := hown.lt g rfl
 have hs := SliceAt.of_owns hown
 have hk2 := hk.alloc (.cells #[.slice (some ⟨g, 0, none⟩) l.length cp, .bool false] 151)
 have hs2 := h_ (hs.kept ((Kept.refl (fun _ => False) w1).alloc (.cells #[.slice (some ⟨g, 0, none⟩) l.length cp, .bool false] 151)) (fun _ _ => id))
 have hsz := hk.size
 have hk2' := h_ hk2; clear hk2 hk
 clear hs hown
 go_wp2_with fail
 go_ret
 exact ⟨_, rfl, hsz, ⟨⟨g, 0, cp, heap_alloc_new _ _, ⟨hs2.out, hlt.out⟩, by omega, by simp; omega, by simp⟩, hn, Nat.le_refl _⟩, hk2'.out⟩

theorem readerTake {B : Nat} {w : World} {b : Nat} {l : List Nat} (h : ReaderAt B w b l) (n : Nat) (hn : n < l.length) :
  Calls Try.prog 83 #[.pointer (some ⟨b, 0, none⟩), .int .i64 n] w fun e w' => ∃ u, e = .returned u ∧ w'.ownsRow w.heap.size 5 1 u n (byteCells (l.take n)) ∧ ReaderAt B w' b (l.drop n) ∧ Kept (fun k => k = b) w w' := by
 obtain ⟨⟨g, off, cap, h1, h2, h3, h4, h5⟩, hl, hB⟩ := h
 have hcap : l.length ≤ cap ∧ cap ≤ maxLen := by obtain ⟨_, A, c, hv, q1, q2, _⟩ := h2.val; cases hv; exact ⟨q1, q2⟩
 obtain ⟨hcap, hcap2⟩ := hcap
 unfold maxLen at hcap2
 have c0 := cell_of_heap h1 0
 have c1 := cell_of_heap h1 1
 have f0 := free_of_heap h1 0
 simp at c0 c1
 have hlt := lt_of_heap h1
 have ht := h2.val.take (show n ≤ l.length by omega)
 have hd := h2.val.drop (show n ≤ l.length by omega)
 have hc := h_ (cloneU8 ht (fun c hc => byteCells_one l c (List.mem_of_mem_take hc)) (by omega))
 have hdr : Hid (byteCells (l.drop n) = (byteCells l).drop n) := h_ (by simp [byteCells, List.map_drop])
 have htk : Hid (byteCells (l.take n) = (byteCells l).take n) := h_ (by simp [byteCells, List.map_take])
 have hne : ¬ cap = n := by omega
 have hbl : Hid (∀ x ∈ l.drop n, x < 256) := h_ (fun x hx => h2.lt x (List.mem_of_mem_drop hx))
 have hd' := h_ hd; clear hd ht h2
 have h1' := h_ h1; clear h1
 have hll := h_ (List.length_drop (l := l) (i := n))
 have hnn : (0 : Int) ≤ (n : Int) := by omega
 have hnl : (n : Int) ≤ (l.length : Int) := by omega
 have hnc : (n : Int) ≤ (cap : Int) := by omega
 go_enter Try.func83, Try.ntmps83
 go_wp2_with fail
 refine hc.out.mono ?_
 rintro e w1 ⟨g1, cp1, rfl, hown, hk⟩
 have c0' := hk.cell c0 id
 have f0' : w1.frozen? ⟨b, 0, none⟩ = false := free_of_heap (hk.get h1'.out id) 0
 have hown' := h_ hown
 have hb1 := hown.lt g1 rfl
 have hk' := h_ hk; clear hk hown
 go_wp2_with fail
 go_ret
 have kS : Kept (fun k => k = b) w1 (w1.setCell ⟨b, 0, none⟩ (.slice (some ⟨g, off + n, none⟩) (l.length - n) (cap - n))) := Kept.setCell (S := fun k => k = b) (Kept.refl _ _) (p := ⟨b, 0, none⟩) rfl _
 refine ⟨_, rfl, ?_, ⟨⟨g, off + n, cap - n, ?_, ⟨?_, hbl.out⟩, h3, h4, h5⟩, by rw [hll.out]; omega, ?_⟩, (hk'.out.mono (fun _ => False.elim)).trans kS⟩
 ·rw [htk.out]; exact ownsRow.keptOf hown'.out kS (fun k hk e => by simp [Value.ownBlock] at hk; omega)
 ·have := heap_setCell_same (hk'.out.get h1'.out id) 0 (.slice (some ⟨g, off + n, none⟩) (l.length - n) (cap - n))
  simp at this
  rw [hll.out]; exact this
 ·rw [hll.out, hdr.out]; exact (hd'.out.kept hk'.out (fun _ _ => id)).kept kS (fun k hk e => by simp [Value.ownBlock] at hk; omega)
 ·have := hk'.out.size; simp [World.setCell]; omega

theorem onesCount1 (w : World) : Calls Try.prog 94 #[.int .u64 1] w fun e w' => e = .returned (.int .i64 1) ∧ w = w' := by
 go_enter Try.func94, Try.ntmps94
 go_wp2_with fail
 go_ret
 exact ⟨by kernel_rfl, rfl⟩
theorem onesCount (w : World) : Calls Try.prog 91 #[.int .u64 1] w fun e w' => e = .returned (.int .i64 1) ∧ w = w' := by
 go_enter Try.func91, Try.ntmps91
 go_wp2_with fail
 refine (onesCount1 _).mono ?_
 rintro e w' ⟨rfl, rfl⟩
 go_wp2_with fail
 go_ret
 exact ⟨rfl, rfl⟩
theorem endsRight (w : World) : Calls Try.prog 89 #[.int .i64 1] w fun e w' => e = .returned (.bool true) ∧ w = w' := by
 go_enter Try.func89, Try.ntmps89
 go_wp2_with fail
 refine (onesCount _).mono ?_
 rintro e w' ⟨rfl, rfl⟩
 go_wp2_with fail
 go_ret
 exact ⟨rfl, rfl⟩
end Go.Proofs.Ytdcnogjbmdhgaaa
