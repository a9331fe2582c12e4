/-
 The sum of bytes (package crc): some function of them, and no more is said of it.
-/
import Derived.Test.YtdcnogjbmdhgaaaK02
import Derived.Laws.Closers25b
import Derived.Test.YtdcnogjbmdhgaaaProg
set_option linter.unusedVariables false
set_option linter.unusedSimpArgs false
namespace Go.Proofs.Ytdcnogjbmdhgaaa
open Go.RowKit
set_option maxRecDepth 100000

def crcShift (v : Int) : Int := v * 2 % 4294967296
def crcMix (v : Int) : Int := bits .xor .u32 v 79764919
def crcRound (v : Int) : Int := if v / 2147483648 = 1 then crcMix (crcShift v) else crcShift v
def crcRounds : Nat → Int → Int
 | 0, v => v
 | n + 1, v => crcRound (crcRounds n v)
def crcStep (s c : Int) : Int := crcRounds 8 (bits .xor .u32 s (c * 16777216))
theorem crcShift_in (v : Int) : 0 ≤ crcShift v ∧ crcShift v ≤ 4294967295 := by
 unfold crcShift; omega
theorem crcRounds_in (n : Nat) (v : Int) (h : 0 ≤ v ∧ v ≤ 4294967295) : 0 ≤ crcRounds n v ∧ crcRounds n v ≤ 4294967295 := by
 cases n with
 | zero => exact h
 | succ n =>
  show 0 ≤ crcRound _ ∧ crcRound _ ≤ _
  unfold crcRound crcMix
  split
  ·exact ⟨bits_lo_u32 _ _ _, bits_hi_u32 _ _ _⟩
  ·exact crcShift_in _
theorem crcStep_in (s c : Int) : 0 ≤ crcStep s c ∧ crcStep s c ≤ 4294967295 := crcRounds_in 8 _ ⟨bits_lo_u32 _ _ _, bits_hi_u32 _ _ _⟩

theorem crcStep_any (s c : Int) (w : World) (hs : 0 ≤ s) (hs2 : s ≤ 4294967295) (hc : 0 ≤ c) (hc2 : c ≤ 255) :
  Calls Try.prog 86 #[.int .u32 s, .int .u8 c] w fun e w' => e = .returned (.int .u32 (crcStep s c)) ∧ w = w' := by
 unfold crcStep
 have hb : 0 ≤ bits .xor .u32 s (c * 16777216) ∧ bits .xor .u32 s (c * 16777216) ≤ 4294967295 := ⟨bits_lo_u32 _ _ _, bits_hi_u32 _ _ _⟩
 obtain ⟨v, hv⟩ : ∃ v, bits .xor .u32 s (c * 16777216) = v := ⟨_, rfl⟩
 have hr := fun k => crcRounds_in k v (hv ▸ hb)
 have hr' := h_ hr; clear hr hb
 go_enter Try.func86, Try.ntmps86
 go_wp2_with fail
 have hv' := h_ hv; clear hv
 go_loop [0, 11] (fun s i => ∃ k : Nat, k ≤ 8 ∧ i = .int .i64 k ∧ s = .int .u32 (crcRounds k v)) (fun _ i => 8 - (intOf i).toNat)
 case atStart => exact ⟨0, Nat.zero_le _, rfl, rfl⟩
 case round =>
  obtain ⟨k, hk, rfl, rfl⟩ := hrel
  obtain ⟨h1, h2⟩ := hr'.out k
  by_cases hlt : k < 8
  ·have HS : Hid (crcRounds (k + 1) v = crcRound (crcRounds k v)) := h_ rfl
   obtain ⟨x, hx⟩ : ∃ x, crcRounds k v = x := ⟨_, rfl⟩
   rw [hx] at h1 h2 HS ⊢
   clear hx
   go_wp2_with fail
   ·have ht : (x / 2147483648 == 1) = true := by assumption
    have ht2 : x / 2147483648 = 1 := by simpa using ht
    go_round
    case rel => exact ⟨k + 1, by omega, by go_num, by rw [HS.out]; unfold crcRound crcMix crcShift; rw [if_pos ht2]⟩
    case measure => simp [intOf]; omega
   ·have ht : (x / 2147483648 == 1) = false := by assumption
    have ht2 : ¬ x / 2147483648 = 1 := by simpa using ht
    go_round
    case rel => exact ⟨k + 1, by omega, by go_num, by rw [HS.out]; unfold crcRound crcShift; rw [if_neg ht2]⟩
    case measure => simp [intOf]; omega
  ·obtain rfl : k = 8 := by omega
   go_wp2_with fail
   go_ret
   exact ⟨by rw [hv'.out]; rfl, rfl⟩

def byteCells (l : List Nat) : List Value := l.map fun (b : Nat) => .int .u8 b
theorem byteCells_len (l : List Nat) : (byteCells l).length = l.length := by simp [byteCells]
theorem byteCells_get (l : List Nat) (i : Nat) (h : i < l.length) : (byteCells l)[i]? = some (.int .u8 (l.getD i 0)) := by simp [byteCells, h]
theorem byteCells_one (l : List Nat) : ∀ v ∈ byteCells l, v.oneCell' = true := by
 intro v hv
 simp only [byteCells, List.mem_map] at hv
 obtain ⟨_, _, rfl⟩ := hv
 rfl
structure BytesAt (w : World) (v : Value) (l : List Nat) : Prop where
 val : SliceAt w v 1 l.length (byteCells l)
 lt : ∀ b ∈ l, b < 256
theorem BytesAt.get_lt {w : World} {v : Value} {l : List Nat} (h : BytesAt w v l) (i : Nat) : l.getD i 0 < 256 := by
 by_cases hi : i < l.length
 ·have : l.getD i 0 = l[i] := by simp [hi]
  rw [this]; exact h.lt _ (List.getElem_mem hi)
 ·simp [hi]
theorem BytesAt.kept {S : Nat → Prop} {w w' : World} {v : Value} {l : List Nat} (h : BytesAt w v l) (k : Kept S w w') (hs : ∀ b, v.ownBlock = some b → ¬ S b) : BytesAt w' v l := ⟨h.val.kept k hs, h.lt⟩
structure PartsAt (w : World) (v : Value) (ls : List (List Nat)) (vs : List Value) : Prop where
 len : vs.length = ls.length
 val : SliceAt w v 1 ls.length vs
 part : ∀ (i : Nat) (u : Value) (l : List Nat), vs[i]? = some u → ls[i]? = some l → BytesAt w u l
theorem SliceAt.cells1 {w : World} {v : Value} {n : Nat} {xs : List Value} (h : SliceAt w v 1 n xs) : ∃ A cap, v = .slice A n cap ∧ n ≤ cap ∧ cap ≤ maxLen ∧ ∀ j u, xs[j]? = some u → ∃ b off, A = some ⟨b, off, none⟩ ∧ w.cell? ⟨b, off + j, none⟩ = some u := h.val
def crcFrom (s : Int) (l : List Nat) : Int := l.foldl (fun (a : Int) (b : Nat) => crcStep a b) s
theorem crcFrom_in (s : Int) (l : List Nat) (h : 0 ≤ s ∧ s ≤ 4294967295) : 0 ≤ crcFrom s l ∧ crcFrom s l ≤ 4294967295 := by
 unfold crcFrom
 induction l generalizing s with
 | nil => exact h
 | cons b l ih => exact ih _ (crcStep_in _ _)
theorem crcFrom_take (s : Int) (l : List Nat) (m : Nat) (h : m < l.length) : crcFrom s (l.take (m + 1)) = crcStep (crcFrom s (l.take m)) (l.getD m 0) := by
 unfold crcFrom
 rw [List.take_succ_eq_append_getElem h, List.foldl_append]
 simp [h]
theorem crcFrom_append (s : Int) (a b : List Nat) : crcFrom s (a ++ b) = crcFrom (crcFrom s a) b := by simp [crcFrom, List.foldl_append]
def crcOf (l : List Nat) : Int := crcFrom 4294967295 l
theorem crcOf_in (l : List Nat) : 0 ≤ crcOf l ∧ crcOf l ≤ 4294967295 := crcFrom_in _ _ (by decide)
theorem flatten_take (ls : List (List Nat)) (k : Nat) (l : List Nat) (h : ls[k]? = some l) : (ls.take (k + 1)).flatten = (ls.take k).flatten ++ l := by
 rw [List.take_add_one, h]; simp

set_option maxHeartbeats 1000000 in
theorem crcOf_any {w : World} {v : Value} {ls : List (List Nat)} {vs : List Value} (h : PartsAt w v ls vs) :
  Calls Try.prog 76 #[v] w fun e w' => e = .returned (.int .u32 (crcOf ls.flatten)) ∧ w = w' := by
 obtain ⟨hlen, hval, hpart⟩ := h
 obtain ⟨A, cap, rfl, hc1, hc2, hcell⟩ := hval.cells1
 unfold maxLen at hc2
 have hcell' := h_ hcell; clear hcell
 have hpart' := h_ hpart; clear hpart hval
 have hlen' := h_ hlen; clear hlen
 have hall : Hid (ls.take ls.length = ls) := h_ (List.take_length)
 go_enter Try.func76, Try.ntmps76
 go_wp2_with fail
 go_loop [3, 10] (fun s i => ∃ k : Nat, k ≤ ls.length ∧ i = .int .i64 k ∧ s = .int .u32 (crcOf (ls.take k).flatten)) (fun _ i => ls.length - (intOf i).toNat)
 case atStart => exact ⟨0, Nat.zero_le _, rfl, rfl⟩
 case round =>
  obtain ⟨k, hk, rfl, rfl⟩ := hrel
  by_cases hlt : k < ls.length
  ·obtain ⟨l, hl⟩ : ∃ l, ls[k]? = some l := ⟨_, List.getElem?_eq_getElem hlt⟩
   obtain ⟨u, hu⟩ : ∃ u, vs[k]? = some u := ⟨_, List.getElem?_eq_getElem (by rw [hlen'.out]; exact hlt)⟩
   obtain ⟨b, off, rfl, hcb⟩ := hcell'.out k u hu
   have hb := hpart'.out k u l hu hl
   have hft : Hid (crcOf (ls.take (k + 1)).flatten = crcFrom (crcOf (ls.take k).flatten) l) := h_ (by rw [flatten_take ls k l hl]; exact crcFrom_append _ _ _)
   have hin := crcOf_in (ls.take k).flatten
   obtain ⟨s0, hs0⟩ : ∃ s0, crcOf (ls.take k).flatten = s0 := ⟨_, rfl⟩
   rw [hs0] at hft hin ⊢
   obtain ⟨A2, cap2, rfl, hd1, hd2, hcell2⟩ := hb.val.cells1
   have hfr := fun m => crcFrom_in s0 (l.take m) hin
   have hfr' := h_ hfr
   have hlast : Hid (crcFrom s0 (l.take l.length) = crcFrom s0 l) := h_ (by rw [List.take_length])
   clear hl hu hs0 hfr
   unfold maxLen at hd2
   have hb' := h_ hb; clear hb
   have hcell2' := h_ hcell2; clear hcell2
   obtain ⟨hin1, hin2⟩ := hin
   go_wp2_with fail
   go_loop [3, 16] (fun s i => ∃ m : Nat, m ≤ l.length ∧ i = .int .i64 m ∧ s = .int .u32 (crcFrom s0 (l.take m))) (fun _ i => l.length - (intOf i).toNat)
   case atStart => exact ⟨0, Nat.zero_le _, rfl, rfl⟩
   case round =>
    obtain ⟨m, hm, rfl, rfl⟩ := hrel
    by_cases hlt2 : m < l.length
    ·obtain ⟨b2, off2, rfl, hcm⟩ := hcell2'.out m _ (byteCells_get l m hlt2)
     have hbm := hb'.out.get_lt m
     have hst : Hid (crcFrom s0 (l.take (m + 1)) = crcStep (crcFrom s0 (l.take m)) (l.getD m 0)) := h_ (crcFrom_take s0 l m hlt2)
     obtain ⟨hx1, hx2⟩ := hfr'.out m
     obtain ⟨s1, hs1⟩ : ∃ s1, crcFrom s0 (l.take m) = s1 := ⟨_, rfl⟩
     obtain ⟨c, hc⟩ : ∃ c, l.getD m 0 = c := ⟨_, rfl⟩
     rw [hs1] at hst hx1 hx2 ⊢
     rw [hc] at hst hbm hcm
     clear hs1 hc
     go_wp2_with fail
     refine (crcStep_any s1 c _ hx1 hx2 (by omega) (by omega)).mono ?_
     rintro e w' ⟨rfl, rfl⟩
     go_wp2_with fail
     go_round
     case rel => exact ⟨m + 1, by omega, by go_num, by rw [hst.out]⟩
     case measure => simp [intOf]; omega
    ·obtain rfl : m = l.length := by omega
     go_wp2_with fail
     go_round
     case rel => exact ⟨k + 1, by omega, by go_num, by rw [hft.out, hlast.out]⟩
     case measure => simp [intOf]; omega
  ·obtain rfl : k = ls.length := by omega
   rw [hall.out]
   go_wp2_with fail
   go_ret
   exact ⟨rfl, rfl⟩
end Go.Proofs.Ytdcnogjbmdhgaaa
