/-
 The document's sum of bytes (understudyref02.Of), plain: it is the program's.
-/
import Derived.Test.YtidlchciehdefaaGreatK04
import Derived.Test.YtidlchciehdefaaGreatK06
import Derived.Test.YtidlchciehdefaaGreatK07
import Derived.Test.YtidlchciehdefaaGreatK08
import Derived.Test.YtidlchciehdefaaGreatK12
import Derived.Test.YtidlchciehdefaaGreatK13
import Derived.Test.YtidlchciehdefaaGreatK15
import Derived.Test.YtidlchciehdefaaGreatK18
import Derived.Laws.Bits64
set_option linter.unusedVariables false
set_option linter.unusedSimpArgs false
namespace Go.Proofs.YtidlchciehdefaaGreat
open Go.RowKit
set_option maxRecDepth 100000

theorem bits_xor_u32_nat (a b : Nat) (ha : a < 4294967296) (hb : b < 4294967296) : bits .xor .u32 (a : Int) (b : Int) = ((a ^^^ b : Nat) : Int) := by
 have hx : a ^^^ b < 2 ^ 32 := Nat.xor_lt_two_pow (by omega) (by omega)
 have h1 : (BitVec.ofInt 32 (a : Int)).toNat = a := by
  rw [BitVec.ofInt_natCast, BitVec.toNat_ofNat]; exact Nat.mod_eq_of_lt (by omega)
 have h2 : (BitVec.ofInt 32 (b : Int)).toNat = b := by
  rw [BitVec.ofInt_natCast, BitVec.toNat_ofNat]; exact Nat.mod_eq_of_lt (by omega)
 show IntKind.u32.wrap ((BitVec.ofInt 32 (a : Int) ^^^ BitVec.ofInt 32 (b : Int)).toNat : Int) = _
 rw [BitVec.toNat_xor, h1, h2, show ∀ n : Int, IntKind.u32.wrap n = n % 4294967296 from fun n => by simp [IntKind.wrap, IntKind.bits, IntKind.signed]]
 omega
def refShift (n : Nat) : Nat := n * 2 % 4294967296
def refBit (n : Nat) (bit : Bool) : Nat := if decide (n / 2147483648 = 1) != bit then refShift n ^^^ 79764919 else refShift n
theorem refShift_lt (n : Nat) : refShift n < 4294967296 := Nat.mod_lt _ (by decide)
theorem refBit_lt (n : Nat) (bit : Bool) : refBit n bit < 4294967296 := by
 unfold refBit
 split
 ·exact Nat.xor_lt_two_pow (n := 32) (refShift_lt n) (by decide)
 ·exact refShift_lt n
def refRound (v : Nat) : Nat := if v / 2147483648 = 1 then refShift v ^^^ 79764919 else refShift v
theorem crcRound_nat (v : Nat) : crcRound (v : Int) = ((refRound v : Nat) : Int) := by
 have hs : crcShift (v : Int) = ((refShift v : Nat) : Int) := by unfold crcShift refShift; omega
 unfold crcRound crcMix refRound
 rw [hs]
 by_cases h : v / 2147483648 = 1
 ·rw [if_pos h, if_pos (by omega)]
  exact bits_xor_u32_nat _ 79764919 (refShift_lt v) (by decide)
 ·rw [if_neg h, if_neg (by omega)]
def refRounds : Nat → Nat → Nat
 | 0, v => v
 | n + 1, v => refRound (refRounds n v)
theorem crcRounds_nat (v : Nat) : ∀ n, crcRounds n (v : Int) = ((refRounds n v : Nat) : Int)
 | 0 => rfl
 | n + 1 => by
  show crcRound (crcRounds n (v : Int)) = _
  rw [crcRounds_nat v n, crcRound_nat]; rfl
theorem xor_shift (a b : Nat) : refShift (a ^^^ b) = refShift a ^^^ refShift b := by
 unfold refShift
 have e : ∀ x : Nat, x * 2 % 4294967296 = (x <<< 1) % 2 ^ 32 := fun x => by rw [Nat.shiftLeft_eq]
 rw [e, e, e, Nat.shiftLeft_xor_distrib, Nat.xor_mod_two_pow]
theorem xor_top (a b : Nat) : (a ^^^ b) / 2147483648 = (a / 2147483648) ^^^ (b / 2147483648) := by
 have e : ∀ x : Nat, x / 2147483648 = x >>> 31 := fun x => by rw [Nat.shiftRight_eq_div_pow]
 rw [e, e, e, Nat.shiftRight_xor_distrib]
theorem round_bit {s c : Nat} (hs : s < 4294967296) (hc : c < 256) : refRound (s ^^^ (c * 16777216)) = refBit s (c / 128 == 1) ^^^ ((c * 2 % 256) * 16777216) := by
 have h1 : refShift (c * 16777216) = (c * 2 % 256) * 16777216 := by unfold refShift; omega
 have h2 : c * 16777216 / 2147483648 = c / 128 := by omega
 have hs1 : s / 2147483648 = 0 ∨ s / 2147483648 = 1 := by omega
 have hc1 : c / 128 = 0 ∨ c / 128 = 1 := by omega
 unfold refRound refBit
 rw [xor_shift, xor_top, h1, h2]
 rcases hs1 with e1 | e1 <;> rcases hc1 with e2 | e2 <;> rw [e1, e2]
 ·rfl
 ·show refShift s ^^^ _ ^^^ 79764919 = refShift s ^^^ 79764919 ^^^ _
  rw [Nat.xor_assoc, Nat.xor_assoc, Nat.xor_comm (c * 2 % 256 * 16777216)]
 ·show refShift s ^^^ _ ^^^ 79764919 = refShift s ^^^ 79764919 ^^^ _
  rw [Nat.xor_assoc, Nat.xor_assoc, Nat.xor_comm (c * 2 % 256 * 16777216)]
 ·rfl
def bitOf (c j : Nat) : Bool := c / 2 ^ (7 - j) % 2 == 1
def refByte (s c : Nat) : Nat := (List.range 8).foldl (fun s j => refBit s (bitOf c j)) s
theorem crcStep_nat {s c : Nat} (hs : s < 4294967296) (hc : c < 256) : crcStep (s : Int) (c : Int) = ((refByte s c : Nat) : Int) := by
 unfold crcStep
 rw [show ((c : Int) * 16777216) = ((c * 16777216 : Nat) : Int) by omega, bits_xor_u32_nat _ _ hs (by omega), crcRounds_nat]
 congr 1
 have step : ∀ (t d j : Nat), t < 4294967296 → d = c * 2 ^ j % 256 → j < 8 → refRound (t ^^^ (d * 16777216)) = refBit t (bitOf c j) ^^^ ((c * 2 ^ (j + 1) % 256) * 16777216) := by
  intro t d j ht hd hj
  rw [round_bit ht (by omega)]
  have e1 : (d / 128 == 1) = bitOf c j := by
   unfold bitOf
   rw [hd, Bool.eq_iff_iff, beq_iff_eq, beq_iff_eq]
   match j, hj with
   | 0, _ => omega
   | 1, _ => omega
   | 2, _ => omega
   | 3, _ => omega
   | 4, _ => omega
   | 5, _ => omega
   | 6, _ => omega
   | 7, _ => omega
  have e2 : d * 2 % 256 = c * 2 ^ (j + 1) % 256 := by rw [hd, Nat.pow_succ, ← Nat.mul_assoc]; omega
  rw [e1, e2]
 have h0 : c * 16777216 = (c * 2 ^ 0 % 256) * 16777216 := by rw [Nat.pow_zero, Nat.mul_one, Nat.mod_eq_of_lt hc]
 have chain : ∀ j, j ≤ 8 → refRounds j (s ^^^ c * 16777216) = (List.range j).foldl (fun s j => refBit s (bitOf c j)) s ^^^ ((c * 2 ^ j % 256) * 16777216) := by
  intro j
  induction j with
  | zero => intro _; rw [Nat.pow_zero, Nat.mul_one, Nat.mod_eq_of_lt hc]; rfl
  | succ j ih =>
   intro hj
   have hlt : (List.range j).foldl (fun s j => refBit s (bitOf c j)) s < 4294967296 := by
    cases j with
    | zero => exact hs
    | succ j => rw [List.range_succ, List.foldl_append]; exact refBit_lt _ _
   show refRound (refRounds j (s ^^^ c * 16777216)) = _
   rw [ih (by omega), step _ _ j hlt rfl (by omega), List.range_succ, List.foldl_append]
   rfl
 have hz : c * 2 ^ 8 % 256 * 16777216 = 0 := by
  have : c * 2 ^ 8 = c * 256 := rfl
  rw [this, Nat.mul_mod_left]
 rw [chain 8 (Nat.le_refl _), hz, Nat.xor_zero]
 rfl
def bitAt (bs : List Nat) (n : Nat) : Bool := bitOf (bs.getD (n / 8) 0) (n % 8)
def refSum (bs : List Nat) : Nat → Nat
 | 0 => 4294967295
 | n + 1 => refBit (refSum bs n) (bitAt bs n)
theorem refSum_lt (bs : List Nat) : ∀ n, refSum bs n < 4294967296
 | 0 => by show 4294967295 < 4294967296; decide
 | n + 1 => refBit_lt _ _
theorem refSum_byte (bs : List Nat) (k : Nat) : refSum bs (8 * k + 8) = refByte (refSum bs (8 * k)) (bs.getD k 0) := by
 have hb : ∀ j, j < 8 → bitAt bs (8 * k + j) = bitOf (bs.getD k 0) j := fun j hj => by
  unfold bitAt
  rw [show (8 * k + j) / 8 = k by omega, show (8 * k + j) % 8 = j by omega]
 have hs : ∀ j, j < 8 → refSum bs (8 * k + j + 1) = refBit (refSum bs (8 * k + j)) (bitOf (bs.getD k 0) j) := fun j hj => by rw [← hb j hj]; rfl
 rw [show 8 * k + 8 = 8 * k + 7 + 1 by omega, hs 7 (by omega), show 8 * k + 7 = 8 * k + 6 + 1 by omega, hs 6 (by omega), show 8 * k + 6 = 8 * k + 5 + 1 by omega, hs 5 (by omega), show 8 * k + 5 = 8 * k + 4 + 1 by omega, hs 4 (by omega),
  show 8 * k + 4 = 8 * k + 3 + 1 by omega, hs 3 (by omega), show 8 * k + 3 = 8 * k + 2 + 1 by omega, hs 2 (by omega), show 8 * k + 2 = 8 * k + 1 + 1 by omega, hs 1 (by omega), show 8 * k + 1 = 8 * k + 0 + 1 by omega, hs 0 (by omega)]
 rfl
theorem refSum_crc {bs : List Nat} (hb : ∀ i, bs.getD i 0 < 256) : ∀ k, k ≤ bs.length → crcFrom 4294967295 (bs.take k) = ((refSum bs (8 * k) : Nat) : Int)
 | 0, _ => rfl
 | k + 1, hk => by
  rw [crcFrom_take _ _ _ (by omega), refSum_crc hb k (by omega), crcStep_nat (refSum_lt _ _) (hb k), show 8 * (k + 1) = 8 * k + 8 by omega, refSum_byte]
theorem refSum_of {bs : List Nat} (hb : ∀ i, bs.getD i 0 < 256) : ((refSum bs (8 * bs.length) : Nat) : Int) = crcOf bs := by
 have h := refSum_crc hb bs.length (Nat.le_refl _)
 rw [List.take_length] at h
 exact h.symm

def bitCells (n : Nat) : List Value := (List.range 32).map fun i => Value.bool (n.testBit (31 - i))
theorem bitCells_len (n : Nat) : (bitCells n).length = 32 := by unfold bitCells; simp
theorem bitCells_get (n : Nat) {i : Nat} (h : i < 32) : (bitCells n)[i]? = some (.bool (n.testBit (31 - i))) := by unfold bitCells; simp [h]
theorem bitCells_one (n : Nat) : ∀ v ∈ bitCells n, v.oneCell' = true := by
 intro v hv
 obtain ⟨i, _, rfl⟩ := List.mem_map.1 hv
 rfl
theorem bits_ext {a b : List Value} (ha : a.length = 32) (hb : b.length = 32) (h : ∀ i, i < 32 → a[i]? = b[i]?) : a = b := by
 refine List.ext_getElem? fun i => ?_
 by_cases hi : i < 32
 ·exact h i hi
 ·rw [List.getElem?_eq_none (by omega), List.getElem?_eq_none (by omega)]
theorem top_bit {n : Nat} (hn : n < 4294967296) : n.testBit 31 = decide (n / 2147483648 = 1) := by
 rw [Nat.testBit_eq_decide_div_mod_eq]
 show decide (n / 2147483648 % 2 = 1) = _
 rw [decide_eq_decide]
 omega
theorem shift_bit (n : Nat) {k : Nat} (hk : k < 32) : (refShift n).testBit k = (decide (1 ≤ k) && n.testBit (k - 1)) := by
 unfold refShift
 rw [show (4294967296 : Nat) = 2 ^ 32 from rfl, Nat.testBit_mod_two_pow, show n * 2 = n * 2 ^ 1 from rfl, Nat.testBit_mul_two_pow]
 simp [hk]
theorem bit_bit (n : Nat) (bit : Bool) (k : Nat) : (refBit n bit).testBit k = ((refShift n).testBit k != (((decide (n / 2147483648 = 1)) != bit) && (79764919 : Nat).testBit k)) := by
 unfold refBit
 cases h : (decide (n / 2147483648 = 1) != bit) with
 | true => rw [if_pos rfl, Nat.testBit_xor]; simp
 | false => rw [if_neg (by decide)]; simp
theorem shift_cells (n : Nat) : bitCells (refShift n) = (bitCells n).drop 1 ++ [.bool false] := by
 refine bits_ext (bitCells_len _) (by rw [List.length_append, List.length_drop, bitCells_len]; rfl) fun i hi => ?_
 rw [bitCells_get _ hi, shift_bit n (by omega)]
 by_cases h31 : i < 31
 ·rw [List.getElem?_append_left (by rw [List.length_drop, bitCells_len]; omega), List.getElem?_drop, bitCells_get _ (by omega)]
  rw [show 31 - (1 + i) = 31 - i - 1 by omega]
  have : decide (1 ≤ 31 - i) = true := by rw [decide_eq_true_eq]; omega
  rw [this, Bool.true_and]
 ·obtain rfl : i = 31 := by omega
  rw [List.getElem?_append_right (by rw [List.length_drop, bitCells_len]; omega), List.length_drop, bitCells_len]
  rfl
def mixCells (s : Nat) (t : Bool) (i : Nat) : List Value := (List.range 32).map fun j => Value.bool (if j < i then (s.testBit (31 - j) != (t && (79764919 : Nat).testBit (31 - j))) else s.testBit (31 - j))
theorem mixCells_len (s : Nat) (t : Bool) (i : Nat) : (mixCells s t i).length = 32 := by unfold mixCells; simp
theorem mixCells_get (s : Nat) (t : Bool) (i : Nat) {j : Nat} (h : j < 32) : (mixCells s t i)[j]? = some (.bool (if j < i then (s.testBit (31 - j) != (t && (79764919 : Nat).testBit (31 - j))) else s.testBit (31 - j))) := by unfold mixCells; simp [h]
theorem mix_zero (s : Nat) (t : Bool) : mixCells s t 0 = bitCells s := by
 refine bits_ext (mixCells_len ..) (bitCells_len _) fun i hi => ?_
 rw [mixCells_get _ _ _ hi, bitCells_get _ hi, if_neg (by omega)]
theorem mix_step (s : Nat) (t : Bool) {i : Nat} (hi : i < 32) : mixCells s t (i + 1) = (mixCells s t i).set i (.bool (s.testBit (31 - i) != (t && (79764919 : Nat).testBit (31 - i)))) := by
 refine bits_ext (mixCells_len ..) (by rw [List.length_set, mixCells_len]) fun j hj => ?_
 rw [mixCells_get _ _ _ hj, List.getElem?_set]
 by_cases e : i = j
 ·subst e
  rw [if_pos (show i < i + 1 by omega), if_pos rfl, if_pos (by rw [mixCells_len]; exact hi)]
 ·rw [if_neg e, mixCells_get _ _ _ hj]
  by_cases h : j < i
  ·rw [if_pos h, if_pos (by omega)]
  ·rw [if_neg h, if_neg (by omega)]
theorem mix_done (n : Nat) (bit : Bool) : mixCells (refShift n) (decide (n / 2147483648 = 1) != bit) 32 = bitCells (refBit n bit) := by
 refine bits_ext (mixCells_len ..) (bitCells_len _) fun i hi => ?_
 rw [mixCells_get _ _ _ hi, bitCells_get _ hi, if_pos hi, bit_bit]
theorem mix_stay (s : Nat) (t : Bool) {i : Nat} (hi : i < 32) (h : (t && (79764919 : Nat).testBit (31 - i)) = false) : mixCells s t (i + 1) = mixCells s t i := by
 rw [mix_step s t hi, h]
 refine bits_ext (by rw [List.length_set, mixCells_len]) (mixCells_len ..) fun j hj => ?_
 rw [List.getElem?_set]
 by_cases e : i = j
 ·subst e
  rw [if_pos rfl, if_pos (by rw [mixCells_len]; exact hi), mixCells_get _ _ _ hi, if_neg (by omega)]
  simp
 ·rw [if_neg e]
def oneCells (i : Nat) : List Value := (List.range 32).map fun j => Value.bool (decide (j < i))
theorem oneCells_len (i : Nat) : (oneCells i).length = 32 := by unfold oneCells; simp
theorem oneCells_get (i : Nat) {j : Nat} (h : j < 32) : (oneCells i)[j]? = some (.bool (decide (j < i))) := by unfold oneCells; simp [h]
theorem one_step {i : Nat} (hi : i < 32) : oneCells (i + 1) = (oneCells i).set i (.bool true) := by
 refine bits_ext (oneCells_len ..) (by rw [List.length_set, oneCells_len]) fun j hj => ?_
 rw [oneCells_get _ hj, List.getElem?_set]
 by_cases e : i = j
 ·subst e
  rw [if_pos rfl, if_pos (by rw [oneCells_len]; exact hi)]
  simp
 ·rw [if_neg e, oneCells_get _ hj]
  congr 2
  rw [decide_eq_decide]
  omega
theorem one_done : oneCells 32 = bitCells 4294967295 := by
 refine bits_ext (oneCells_len ..) (bitCells_len _) fun i hi => ?_
 rw [oneCells_get _ hi, bitCells_get _ hi, show (4294967295 : Nat) = 2 ^ 32 - 1 from rfl, Nat.testBit_two_pow_sub_one]
 congr 2
 rw [decide_eq_decide]
 omega
def polyCells (k : Nat) : List Value := (List.range 32).map fun j => Value.bool (decide (32 ≤ j + k) && (79764919 : Nat).testBit (31 - j))
theorem polyCells_len (i : Nat) : (polyCells i).length = 32 := by unfold polyCells; simp
theorem polyCells_get (i : Nat) {j : Nat} (h : j < 32) : (polyCells i)[j]? = some (.bool (decide (32 ≤ j + i) && (79764919 : Nat).testBit (31 - j))) := by unfold polyCells; simp [h]
theorem poly_step {k : Nat} (hk : k < 32) : polyCells (k + 1) = (polyCells k).set (31 - k) (.bool (decide (79764919 / 2 ^ k % 2 = 1))) := by
 refine bits_ext (polyCells_len ..) (by rw [List.length_set, polyCells_len]) fun j hj => ?_
 rw [polyCells_get _ hj, List.getElem?_set]
 by_cases e : 31 - k = j
 ·subst e
  rw [if_pos rfl, if_pos (by rw [polyCells_len]; omega), show 31 - (31 - k) = k by omega, Nat.testBit_eq_decide_div_mod_eq]
  have : decide (32 ≤ 31 - k + (k + 1)) = true := by rw [decide_eq_true_eq]; omega
  rw [this, Bool.true_and]
 ·rw [if_neg e, polyCells_get _ hj]
  congr 3
  rw [decide_eq_decide]
  omega
theorem poly_done : polyCells 32 = bitCells 79764919 := by
 refine bits_ext (polyCells_len ..) (bitCells_len _) fun i hi => ?_
 rw [polyCells_get _ hi, bitCells_get _ hi]
 have : decide (32 ≤ i + 32) = true := by rw [decide_eq_true_eq]; omega
 rw [this, Bool.true_and]
theorem out_step (n : Nat) {k : Nat} (hk : k < 32) : n / 2 ^ (31 - k) = 2 * (n / 2 ^ (32 - k)) + (if n.testBit (31 - k) then 1 else 0) := by
 rw [Nat.testBit_eq_decide_div_mod_eq, show 32 - k = 31 - k + 1 by omega, Nat.pow_succ, ← Nat.div_div_eq_div_mul]
 simp only [decide_eq_true_eq]
 split <;> omega

theorem bits_size : (Tryz.prog.info? 175).map (·.size) = some 32 := by kernel_rfl
theorem bits_zero : (Tryz.prog.info? 175).map (·.zero) = some (some (.agg (polyCells 0).toArray)) := by kernel_rfl
theorem poly_zero : List.replicate 32 (Value.bool false) = polyCells 0 := by kernel_rfl
theorem polyCells_one (i : Nat) : ∀ v ∈ polyCells i, v.oneCell' = true := by
 intro v hv
 obtain ⟨i, _, rfl⟩ := List.mem_map.1 hv
 rfl
theorem results_row1 {P : Program} {fn : Func} {p : Tmp} {ty : TypeId} (h : fn.results = #[.cell p ty]) (tmps : Array Value) (w : World) (g : Nat) (t : TypeId) (cs : Array Value) (fr : Nat × Nat) (d : TypeDesc)
  (hp : tmps.getD p undef = .pointer (some ⟨g, 0, none⟩)) (hg : w.heap[g]? = some (.cells cs t fr))
  (hu : P.underlying ty = some d) (hd : (match d with | .struct _ | .array _ _ => true | _ => false) = true) (hi : (P.info? ty).map (·.size) = some cs.size) :
  (results fn tmps).run P w = .ok (.agg cs) w := by
 have hp' : tmps[p]?.getD undef = .pointer (some ⟨g, 0, none⟩) := by simpa using hp
 simp [results, h, hp', asAddr, run_loadVar_row w g t ty cs fr d hg hu hd hi]
structure PolySt (w : World) (rb ob k : Nat) (wr : World) : Prop where
 kept : Kept (fun _ => False) w wr
 res : wr.heap[rb]? = some (.cells (polyCells 0).toArray 175 (0, 0))
 out : wr.heap[ob]? = some (.cells (polyCells k).toArray 175 (0, 0))
set_option maxHeartbeats 4000000 in
theorem poly02 (w : World) : Calls Tryz.prog 107 #[] w fun e w' => e = .returned (.agg (bitCells 79764919).toArray) ∧ Kept (fun _ => False) w w' := by
 obtain ⟨Z, hZ⟩ : ∃ Z, polyCells 0 = Z := ⟨_, rfl⟩
 have hZz : Hid ((Tryz.prog.info? 175).map (·.zero) = some (some (.agg Z.toArray))) := h_ (by rw [← hZ]; exact bits_zero)
 have hZl : Hid (Z.length = 32) := h_ (by rw [← hZ]; exact polyCells_len _)
 have hZ1 : Hid (∀ v ∈ Z, v.oneCell' = true) := h_ (by rw [← hZ]; exact polyCells_one _)
 have hrep : Hid (List.replicate 32 (Value.bool false) = Z) := h_ (by rw [← hZ]; exact poly_zero)
 obtain ⟨rb, hrb⟩ : ∃ rb, w.heap.size = rb := ⟨_, rfl⟩
 obtain ⟨w1, hw1⟩ : ∃ w1, w.alloc (.cells Z.toArray 175) = w1 := ⟨_, rfl⟩
 obtain ⟨ob, hob⟩ : ∃ ob, w1.heap.size = ob := ⟨_, rfl⟩
 obtain ⟨w2, hw2⟩ : ∃ w2, (w1.alloc (.cells Z.toArray 175)).setRow ob Z.toArray = w2 := ⟨_, rfl⟩
 have k1 : Kept (fun _ => False) w w1 := by rw [← hw1]; exact (Kept.refl _ _).alloc _
 have k12 : Kept (fun _ => False) w1 w2 := by rw [← hw2]; exact ((Kept.refl _ _).alloc _).setRowNew (by omega) _
 have r1 : w1.heap[rb]? = some (.cells Z.toArray 175 (0, 0)) := by rw [← hw1, ← hrb]; exact heap_alloc_new _ _
 have o2 : w2.heap[ob]? = some (.cells Z.toArray 175 (0, 0)) := by rw [← hw2, ← hob]; exact setRow_heap _ _ _ _ _ _ (heap_alloc_new _ _)
 have I2 : Hid (PolySt w rb ob 0 w2) := h_ ⟨k1.trans k12, by rw [hZ]; exact k12.get r1 id, by rw [hZ]; exact o2⟩
 have hrbw : Hid (w.heap.size ≤ rb) := h_ (by omega)
 have hobw : Hid (w.heap.size ≤ ob) := h_ (by have := k1.size; omega)
 have hne : Hid (rb ≠ ob) := h_ (by have := lt_of_heap r1; omega)
 have hw1' := h_ hw1
 have hw2' := h_ hw2
 have hrb' := h_ hrb
 have hob' := h_ hob
 have hZ' := h_ hZ
 clear hw1 hw2 hrb hob k1 k12 r1 o2 hZ
 go_enter Tryz.func107, Tryz.ntmps107
 go_wp2_with (first | (refine wpList_alloc_as 175 rfl rfl Z.toArray hZz.out ?_; first | rw [hw1'.out, hrb'.out] | rw [hob'.out]) | (refine wpList_store_whole 175 rfl rfl rfl (List.replicate 32 (.bool false)) rfl (by exact bits_size) 175 Z.toArray (by rw [← hob'.out]; exact heap_alloc_new _ _) (by simp [hZl.out]) (by intro v hv; rw [List.eq_of_mem_replicate hv]; rfl) ?_; rw [hrep.out, hw2'.out]))
 go_loopw [2, 3] (fun n i wr => ∃ (k : Nat), k ≤ 32 ∧ n = .int .u32 ((79764919 / 2 ^ k : Nat) : Int) ∧ i = .int .i64 (31 - (k : Int)) ∧ Hid (PolySt w rb ob k wr)) (fun _ i _ => (intOf i + 1).toNat)
 case atStart => exact ⟨0, Nat.zero_le _, rfl, rfl, I2⟩
 case round =>
  obtain ⟨k, hk, rfl, rfl, hI⟩ := hrel
  by_cases hlt : k < 32
  ·obtain ⟨j, hj⟩ : ∃ j : Nat, 31 - k = j := ⟨_, rfl⟩
   have hji : (31 : Int) - (k : Int) = (j : Int) := by omega
   have hj32 : j < 32 := by omega
   rw [hji]
   obtain ⟨q, hq⟩ : ∃ q : Nat, 79764919 / 2 ^ k = q := ⟨_, rfl⟩
   have hq2 : 79764919 / 2 ^ (k + 1) = q / 2 := by rw [Nat.pow_succ, ← Nat.div_div_eq_div_mul, hq]
   have hq32 : q < 4294967296 := by rw [← hq]; exact Nat.lt_of_le_of_lt (Nat.div_le_self _ _) (by decide)
   have hstep := poly_step hlt
   rw [hq, hj] at hstep
   rw [hq]
   have hge : decide ((0 : Int) ≤ (j : Int)) = true := by rw [decide_eq_true_eq]; omega
   obtain ⟨bt, hbt⟩ : ∃ bt, decide (q % 2 = 1) = bt := ⟨_, rfl⟩
   rw [hbt] at hstep
   have hbq : ((q : Int) % 2 == 1) = bt := by rw [← hbt, Bool.eq_iff_iff, beq_iff_eq, decide_eq_true_eq]; omega
   have co := cell_of_heap hI.out.out j
   have fo := free_of_heap hI.out.out j
   have fin : Hid (PolySt w rb ob (k + 1) (wr.setCell ⟨ob, j, none⟩ (.bool bt))) := h_ ⟨hI.out.kept.setNew hobw.out _, by
    have := (Kept.setCell (S := fun i => i = ob) (Kept.refl _ wr) (p := ⟨ob, j, none⟩) rfl (.bool bt)).get hI.out.res (fun e => hne.out e)
    exact this, by
    rw [heap_setCell_same hI.out.out, hstep]
    simp⟩
   have hcj : (polyCells k)[j]? = some (.bool (decide (32 ≤ j + k) && (79764919 : Nat).testBit (31 - j))) := polyCells_get _ hj32
   clear hbt hq hj hstep hI
   go_wp2_with fail
   go_roundw
   case rel => exact ⟨k + 1, by omega, by rw [hq2]; go_num, by first | (go_num; done) | (go_num; omega), fin⟩
   case measure => simp [intOf]
  ·obtain rfl : k = 32 := by omega
   rw [show (31 : Int) - ((32 : Nat) : Int) = -1 by omega]
   obtain ⟨C, hC⟩ : ∃ C, polyCells 32 = C := ⟨_, rfl⟩
   have hCl : Hid (C.length = 32) := h_ (by rw [← hC]; exact polyCells_len _)
   have hC1 : Hid (∀ v ∈ C, v.oneCell' = true) := h_ (by rw [← hC]; exact polyCells_one _)
   have ho := hI.out.out
   rw [hC] at ho
   have hlo : Hid (∀ j v, C[j]? = some v → wr.cell? ⟨ob, 0 + j, none⟩ = some v) := h_ (fun j v hj => by rw [Nat.zero_add, cell_of_heap ho]; simpa using hj)
   have hres : Hid (wr.heap[rb]? = some (.cells Z.toArray 175 (0, 0))) := h_ (by rw [← hZ'.out]; exact hI.out.res)
   have kk := h_ hI.out.kept
   have hCp : Hid (bitCells 79764919 = C) := h_ (by rw [← hC]; exact poly_done.symm)
   clear ho hC hI
   go_wp2_with (first | (refine wpList_load_agg 175 rfl rfl rfl _ Tryz.underlying175 rfl C (by rw [hCl.out]; exact bits_size) hlo.out ?_) | (refine wpList_store_whole 175 rfl rfl rfl C rfl (by rw [hCl.out]; exact bits_size) 175 Z.toArray hres.out (by simp [hCl.out, hZl.out]) hC1.out ?_))
   refine bodyPost_ret (results_row1 rfl _ _ rb 175 C.toArray (0, 0) _ rfl (setRow_heap _ _ _ _ 175 (0, 0) hres.out) Tryz.underlying175 rfl (by simp only [List.size_toArray]; rw [hCl.out]; exact bits_size)) rfl ?_
   exact ⟨by rw [hCp.out], kk.out.setRowNew hrbw.out _⟩

theorem oneCells_zero : List.replicate 32 (Value.bool false) = oneCells 0 := by kernel_rfl
theorem elemBool : Elem 177 4 1 1 := Elem.of (z := .bool false) Tryz.underlying177 (by kernel_rfl) (by kernel_rfl) (by omega)
theorem run_copy_bits (w : World) (ty : TypeId) (g o dLen dCap : Nat) (a : Addr) (sLen sCap : Nat) (cur : Array Value) (t : TypeId) (cs : List Value) (m : Nat)
  (hg : w.heap[g]? = some (.cells cur t (0, 0))) (hm : m = Nat.min sLen dLen) (hn : cs.length = m * 1)
  (hsrc : ∀ j v, cs[j]? = some v → w.cell? (a.add j) = some v) (hfit : o + cs.length ≤ cur.size) (h1 : ∀ v ∈ cs, v.oneCell' = true) :
  (Builtin.copy_ #[177, 177] ty #[.slice (some ⟨g, o, none⟩) dLen dCap, .slice (some a) sLen sCap]).run Tryz.prog w =
   .ok (goInt m) (w.setRow g (cur.toList.take o ++ cs ++ cur.toList.drop (o + cs.length)).toArray) := by
 have hl := run_loadCells_list (P := Tryz.prog) w a cs hsrc
 have hst := run_storeCells_at Tryz.prog g o t cs 0 cur w hg (by simpa using hfit) h1
 obtain ⟨i, z, hq, _, hi, _⟩ := elemBool.info
 rw [Nat.mul_one] at hn
 simp [Builtin.copy_, run_underlying elemBool.ht, Builtin.lenOf, Builtin.firstCells, sizeOf, typeInfo, hq, hi, ← hm, ← hn, hl, hst]
theorem wp_copy_bits {o : Oper} {a : Act} {w : World} {K : Act → World → Prop} {Q : Exit → Act → World → Prop} (d s : Operand)
  (ho : o.op = .call { callee := .builtin .copy, args := #[d, s], argTypes := #[177, 177] })
  {g off dLen dCap sg so sLen sCap m : Nat} (hd : a.eval d = .slice (some ⟨g, off, none⟩) dLen dCap) (hs : a.eval s = .slice (some ⟨sg, so, none⟩) sLen sCap)
  {cur cs : List Value} {t : TypeId} (hg : w.heap[g]? = some (.cells cur.toArray t (0, 0))) (hm : m = Nat.min sLen dLen) (hn : cs.length = m * 1)
  (hsrc : ∀ j v, cs[j]? = some v → w.cell? ⟨sg, so + j, none⟩ = some v) (hfit : off + cs.length ≤ cur.length) (h1 : ∀ v ∈ cs, v.oneCell' = true)
  (h : ∀ w', w'.heap[g]? = some (.cells (cur.take off ++ cs ++ cur.drop (off + cs.length)).toArray t (0, 0)) → Kept (fun k => k = g) w w' → K (a.put o.dst (goInt m)) w') :
  o.wp Tryz.prog a w K Q := by
 have hrun := run_copy_bits w o.type g off dLen dCap ⟨sg, so, none⟩ sLen sCap cur.toArray t cs m hg hm hn (fun j v hj => by rw [addr_add]; exact hsrc j v hj) (by simpa using hfit) h1
 unfold Oper.wp
 simp [execOp, ho, resolve, invoke, builtin, hd, hs, hrun, Result.andThen]
 exact h _ (by simpa using setRow_heap w g _ _ t _ hg) (Kept.setRow (S := fun k => k = g) (Kept.refl _ _) rfl _)
structure OneSt (w : World) (sb k : Nat) (wr : World) : Prop where
 kept : Kept (fun _ => False) w wr
 rest : wr.heap[sb]? = some (.cells (oneCells k).toArray 175 (0, 0))
structure OfSt (w : World) (sb pb s : Nat) (wr : World) : Prop where
 kept : Kept (fun _ => False) w wr
 rest : wr.heap[sb]? = some (.cells (bitCells s).toArray 175 (0, 0))
 poly : wr.heap[pb]? = some (.cells (bitCells 79764919).toArray 175 (0, 0))
structure MixSt (w : World) (sb pb nb s s' : Nat) (t : Bool) (j : Nat) (wr : World) : Prop where
 of : OfSt w sb pb s wr
 next : wr.heap[nb]? = some (.cells (mixCells s' t j).toArray 175 (0, 0))
set_option maxHeartbeats 8000000 in
theorem of02 {w : World} {v : Value} {bs : List Nat} (hb : BytesAt w v bs) (hl : bs.length ≤ 100000) : Calls Tryz.prog 69 #[v] w fun e w' => e = .returned (.int .u32 (crcOf bs)) ∧ Kept (fun _ => False) w w' := by
 have hlt := hb.get_lt
 obtain ⟨_, Av, cap, rfl, hc1, hc2, _⟩ := id hb.val
 unfold maxLen at hc2
 obtain ⟨Z, hZ⟩ : ∃ Z, List.replicate 32 (Value.bool false) = Z := ⟨_, rfl⟩
 have hZl : Hid (Z.length = 32) := h_ (by rw [← hZ]; rfl)
 have hZz : Hid ((Tryz.prog.info? 175).map (·.zero) = some (some (.agg Z.toArray))) := h_ (by rw [← hZ, poly_zero]; exact bits_zero)
 obtain ⟨sb, hsb⟩ : ∃ sb, w.heap.size = sb := ⟨_, rfl⟩
 obtain ⟨w1, hw1⟩ : ∃ w1, (w.alloc (.cells Z.toArray 175)).setRow sb Z.toArray = w1 := ⟨_, rfl⟩
 have k1 : Kept (fun _ => False) w w1 := by rw [← hw1]; exact ((Kept.refl _ _).alloc _).setRowNew (by omega) _
 have o1 : w1.heap[sb]? = some (.cells Z.toArray 175 (0, 0)) := by rw [← hw1, ← hsb]; exact setRow_heap _ _ _ _ _ _ (heap_alloc_new _ _)
 have I1 : Hid (OneSt w sb 0 w1) := h_ ⟨k1, by rw [← oneCells_zero, hZ]; exact o1⟩
 have hsbw : Hid (w.heap.size ≤ sb) := h_ (by omega)
 have hrep := h_ hZ
 have hw1' := h_ hw1
 have hsb' := h_ hsb
 have hb' := h_ hb
 have hlt' := h_ hlt
 clear hw1 hsb k1 o1 hZ hb hlt
 go_enter Tryz.func69, Tryz.ntmps69
 go_wp2_with (first | (refine wpList_alloc_as 175 rfl rfl Z.toArray hZz.out ?_; rw [hsb'.out]) | (refine wpList_store_whole 175 rfl rfl rfl (List.replicate 32 (.bool false)) rfl (by exact bits_size) 175 Z.toArray (by rw [← hsb'.out]; exact heap_alloc_new _ _) (by simp [hZl.out]) (by intro v hv; rw [List.eq_of_mem_replicate hv]; rfl) ?_; rw [hrep.out, hw1'.out]))
 go_loopw [15] (fun i wr => ∃ (k : Nat), k ≤ 32 ∧ i = .int .i64 k ∧ Hid (OneSt w sb k wr)) (fun i _ => 32 - (intOf i).toNat)
 case atStart => exact ⟨0, Nat.zero_le _, rfl, I1⟩
 case round =>
  obtain ⟨k, hk, rfl, hI⟩ := hrel
  by_cases hlt : k < 32
  ·have hki : (k : Int) < 32 := by omega
   have co := cell_of_heap hI.out.rest k
   have fo := free_of_heap hI.out.rest k
   have fin : Hid (OneSt w sb (k + 1) (wr.setCell ⟨sb, k, none⟩ (.bool true))) := h_ ⟨hI.out.kept.setNew hsbw.out _, by rw [heap_setCell_same hI.out.rest, one_step hlt]; simp⟩
   have hck := oneCells_get k hlt
   clear hI
   go_wp2_with fail
   go_roundw
   case rel => exact ⟨k + 1, by omega, by go_num, fin⟩
   case measure => simp [intOf]; omega
  ·obtain rfl : k = 32 := by omega
   go_wp2_with fail
   refine (poly02 _).mono ?_
   rintro e w2 ⟨rfl, hk2⟩
   obtain ⟨P, hP⟩ : ∃ P, bitCells 79764919 = P := ⟨_, rfl⟩
   have hPl : Hid (P.length = 32) := h_ (by rw [← hP]; exact bitCells_len _)
   have hP1 : Hid (∀ v ∈ P, v.oneCell' = true) := h_ (by rw [← hP]; exact bitCells_one _)
   obtain ⟨pb, hpb⟩ : ∃ pb, w2.heap.size = pb := ⟨_, rfl⟩
   obtain ⟨w3, hw3⟩ : ∃ w3, (w2.alloc (.cells Z.toArray 175)).setRow pb P.toArray = w3 := ⟨_, rfl⟩
   have k3 : Kept (fun _ => False) w2 w3 := by rw [← hw3]; exact ((Kept.refl _ _).alloc _).setRowNew (by omega) _
   have hpbw : Hid (w.heap.size ≤ pb ∧ sb ≠ pb) := h_ ⟨by have := (hI.out.kept.trans hk2).size; omega, by have := lt_of_heap (hk2.get hI.out.rest id); omega⟩
   have I3 : Hid (OfSt w sb pb (refSum bs 0) w3) := h_ ⟨(hI.out.kept.trans hk2).trans k3, by
    have := k3.get (hk2.get hI.out.rest id) id
    rw [one_done] at this
    exact this, by rw [hP, ← hw3, ← hpb]; exact setRow_heap _ _ _ _ _ _ (heap_alloc_new _ _)⟩
   have hw3' := h_ hw3
   have hpb' := h_ hpb
   have hP' := h_ hP
   rw [hP]
   clear hk2 hw3 hpb k3 hP hI
   go_wp2_with (first | (refine wpList_alloc_as 175 rfl rfl Z.toArray hZz.out ?_; rw [hpb'.out]) | (refine wpList_store_whole 175 rfl rfl rfl P rfl (by rw [hPl.out]; exact bits_size) 175 Z.toArray (by rw [← hpb'.out]; exact heap_alloc_new _ _) (by simp [hZl.out, hPl.out]) hP1.out ?_; rw [hw3'.out]))
   go_loopw [6] (fun i wr => ∃ (k : Nat), k ≤ 8 * bs.length ∧ i = .int .i64 k ∧ Hid (OfSt w sb pb (refSum bs k) wr)) (fun i _ => 8 * bs.length - (intOf i).toNat)
   case atStart => exact ⟨0, Nat.zero_le _, rfl, I3⟩
   case round =>
    obtain ⟨k, hk, rfl, hI⟩ := hrel
    by_cases hlt : k < 8 * bs.length
    ·have hki : (k : Int) < 8 * (bs.length : Int) := by omega
     have hq : k / 8 < bs.length := by omega
     obtain ⟨bb, bo, rfl, hbb, hbc⟩ := SliceAt.elem (SliceAt.fresh hb'.out.val hI.out.kept) hq (by decide)
     obtain ⟨y, hy⟩ : ∃ y, bs.getD (k / 8) 0 = y := ⟨_, rfl⟩
     have cb := hbc 0 (.int .u8 y) (by decide) (by rw [← hy]; simpa using byteCells_get bs (k / 8) hq)
     simp at cb
     obtain ⟨bt, hbt⟩ : ∃ bt, bitAt bs k = bt := ⟨_, rfl⟩
     have hbit : (((y : Int) / 2 ^ (7 - k % 8)).tmod 2 == 1) = bt := by
      rw [← hbt]
      unfold bitAt bitOf
      rw [hy, Bool.eq_iff_iff, beq_iff_eq, beq_iff_eq]
      have e1 : ((y : Int) / 2 ^ (7 - k % 8)) = ((y / 2 ^ (7 - k % 8) : Nat) : Int) := by rw [Int.natCast_ediv, Int.natCast_pow]; rfl
      rw [e1, Int.tmod_eq_emod_of_nonneg (Int.natCast_nonneg _)]
      omega
     obtain ⟨s, hs⟩ : ∃ s, refSum bs k = s := ⟨_, rfl⟩
     have hs32 : s < 4294967296 := by rw [← hs]; exact refSum_lt _ _
     rw [hs] at hI
     have hnext : Hid (refSum bs (k + 1) = refBit s bt) := h_ (by rw [← hs, ← hbt]; rfl)
     obtain ⟨t31, ht31⟩ : ∃ t, decide (s / 2147483648 = 1) = t := ⟨_, rfl⟩
     have c0 : wr.cell? ⟨sb, 0, none⟩ = some (.bool t31) := by rw [cell_of_heap hI.out.rest, ← ht31, ← top_bit hs32]; simpa using bitCells_get s (show 0 < 32 by omega)
     obtain ⟨tp, htp⟩ : ∃ tp, (!(t31 == bt)) = tp := ⟨_, rfl⟩
     have htp2 : Hid ((decide (s / 2147483648 = 1) != bt) = tp) := h_ (by rw [ht31, ← htp]; rfl)
     obtain ⟨nb, hnb⟩ : ∃ nb, wr.heap.size = nb := ⟨_, rfl⟩
     obtain ⟨w4, hw4⟩ : ∃ w4, (wr.alloc (.cells Z.toArray 175)).setRow nb Z.toArray = w4 := ⟨_, rfl⟩
     have k4 : Kept (fun _ => False) wr w4 := by rw [← hw4]; exact ((Kept.refl _ _).alloc _).setRowNew (by omega) _
     have q4 : w4.heap[nb]? = some (.cells Z.toArray 175 (0, 0)) := by rw [← hw4, ← hnb]; exact setRow_heap _ _ _ _ _ _ (heap_alloc_new _ _)
     have r4 := k4.get hI.out.rest id
     have hnb' := h_ hnb
     have hw4' := h_ hw4
     have hq4 := h_ q4
     have hr4 := h_ r4
     have hk4 := h_ k4
     have hI' := h_ hI.out
     clear hbc hI hy hbt hs hnb hw4 q4 r4 k4 ht31
     go_wp2_with (first | (refine wpList_alloc_as 175 rfl rfl Z.toArray hZz.out ?_; rw [hnb'.out]) | (refine wpList_store_whole 175 rfl rfl rfl (List.replicate 32 (.bool false)) rfl (by exact bits_size) 175 Z.toArray (by rw [← hnb'.out]; exact heap_alloc_new _ _) (by simp [hZl.out]) (by intro v hv; rw [List.eq_of_mem_replicate hv]; rfl) ?_; rw [hrep.out, hw4'.out]))
     have hsl := fun wx => run_sliceAt_low (P := Tryz.prog) Tryz.underlying175 (by kernel_rfl) sb 0 (show 1 ≤ 32 by decide) wx
     simp at hsl
     refine wp_region_any (by kernel_rfl) ?_
     change wpAny _ _ _ _ _ _ _ (World.drew _)
     refine wpAny_take (i := 0) (v := .slice (some ⟨nb, 0, none⟩) 32 32) rfl (by kernel_rfl) (by kernel_rfl) (by kernel_rfl) (fun _ _ _ h => h) (.inl ⟨by rfl, fun w => by go_simp⟩) ?_
     simp only [Act.put, q1_, q2_, q3_, List.setIfInBounds_toArray, q5_, q6_]
     refine wpAny_take (i := 1) (v := .slice (some ⟨sb, 1, none⟩) 31 31) rfl (by kernel_rfl) (by kernel_rfl) (by kernel_rfl) (fun _ _ _ h => h) (.inl ⟨by rfl, fun w => by go_simp⟩) ?_
     simp only [Act.put, q1_, q2_, q3_, List.setIfInBounds_toArray, q5_, q6_]
     refine wpAny_ready (rs := [2]) (by kernel_rfl) (by simp) ?_
     refine AllReady.cons rfl (fun K hK => ?_) ?_
     ·rw [if_pos (by rfl)]
      simp only [Go.wp_at_zero, Go.wp_at_succ]
      refine wp_copy_bits (.tmp 45) (.tmp 46) rfl (by rfl) (by rfl) (cur := Z) (cs := (bitCells s).drop 1) (m := 31) hq4.out rfl (by rw [List.length_drop, bitCells_len]) (fun j v hj => by rw [cell_of_heap (show (World.drew w4).heap[sb]? = _ from hr4.out)]; rw [List.getElem?_drop] at hj; simpa using hj) (by rw [List.length_drop, bitCells_len, hZl.out]; decide) (fun v hv => bitCells_one _ v (List.mem_of_mem_drop hv)) ?_
      intro w5 hq5 hk5
      refine hK _ _ ?_
      clear hK K
      try simp only [Act.put, q1_, q2_, q3_, List.setIfInBounds_toArray, q5_, q6_]
      refine wpAny_done (by kernel_rfl) ?_ _
      have I5 : Hid (MixSt w sb pb nb s (refShift s) tp 0 w5) := h_ ⟨⟨hI'.out.kept.trans_new ((hk4.out.drew).mono (fun _ h => h.elim) |>.trans hk5) (fun i hi e => by have h1 := hI'.out.kept.size; have h2 := hnb'.out; omega), hk5.get (show (World.drew w4).heap[sb]? = _ from hr4.out) (fun e => by have h1 := lt_of_heap hI'.out.rest; have h2 := hnb'.out; omega), hk5.get (show (World.drew w4).heap[pb]? = _ from hk4.out.get hI'.out.poly id) (fun e => by have h1 := lt_of_heap hI'.out.poly; have h2 := hnb'.out; omega)⟩, by
       rw [mix_zero, shift_cells, hq5]
       have e1 : List.drop (0 + (List.drop 1 (bitCells s)).length) Z = [.bool false] := by rw [← hrep.out, List.length_drop, bitCells_len]; rfl
       rw [e1, List.take_zero, List.nil_append]⟩
      have hnbw : Hid (w.heap.size ≤ nb ∧ sb ≠ nb ∧ pb ≠ nb) := h_ ⟨by have h1 := hI'.out.kept.size; have h2 := hnb'.out; omega, fun e => by have h1 := lt_of_heap hI'.out.rest; have h2 := hnb'.out; omega, fun e => by have h1 := lt_of_heap hI'.out.poly; have h2 := hnb'.out; omega⟩
      have htp' := h_ htp
      clear hq5 hk5 hsl c0 cb htp hbit
      go_wp2_with fail
      go_loopw [48] (fun i wr => ∃ (j : Nat), j ≤ 32 ∧ i = .int .i64 j ∧ Hid (MixSt w sb pb nb s (refShift s) tp j wr)) (fun i _ => 32 - (intOf i).toNat)
      case atStart => exact ⟨0, Nat.zero_le _, rfl, I5⟩
      case round =>
       obtain ⟨j, hj, rfl, hJ⟩ := hrel
       by_cases hjlt : j < 32
       ·have hji : (j : Int) < 32 := by omega
        obtain ⟨pj, hpj⟩ : ∃ b, (79764919 : Nat).testBit (31 - j) = b := ⟨_, rfl⟩
        obtain ⟨nj, hnj⟩ : ∃ b, (refShift s).testBit (31 - j) = b := ⟨_, rfl⟩
        have cpj : wr.cell? ⟨pb, j, none⟩ = some (.bool pj) := by rw [cell_of_heap hJ.out.of.poly, ← hpj]; simpa using bitCells_get 79764919 hjlt
        have cnj : wr.cell? ⟨nb, j, none⟩ = some (.bool nj) := by rw [cell_of_heap hJ.out.next, ← hnj]; have := mixCells_get (refShift s) tp j hjlt; rw [if_neg (by omega)] at this; simpa using this
        have fnj := free_of_heap hJ.out.next j
        have hst := mix_step (refShift s) tp hjlt
        rw [hpj, hnj] at hst
        have hsy : (tp && pj) = false → mixCells (refShift s) tp (j + 1) = mixCells (refShift s) tp j := fun h => mix_stay _ _ hjlt (by rw [hpj]; exact h)
        have hst' := h_ hst
        have hsy' := h_ hsy
        have hJ' := h_ hJ.out
        clear hpj hnj hst hsy hJ
        cases tp with
        | false =>
         have fin : Hid (MixSt w sb pb nb s (refShift s) false (j + 1) wr) := h_ ⟨hJ'.out.of, by rw [hsy'.out rfl]; exact hJ'.out.next⟩
         go_wp2_with fail
         go_roundw
         case rel => exact ⟨j + 1, by omega, by go_num, fin⟩
         case measure => simp [intOf]; omega
        | true =>
         cases pj with
         | false =>
          have fin : Hid (MixSt w sb pb nb s (refShift s) true (j + 1) wr) := h_ ⟨hJ'.out.of, by rw [hsy'.out rfl]; exact hJ'.out.next⟩
          go_wp2_with fail
          go_roundw
          case rel => exact ⟨j + 1, by omega, by go_num, fin⟩
          case measure => simp [intOf]; omega
         | true =>
          obtain ⟨mj, hmj⟩ : ∃ b, (!nj) = b := ⟨_, rfl⟩
          have kq : Kept (fun i => i = nb) wr (wr.setCell ⟨nb, j, none⟩ (.bool mj)) := Kept.setCell (S := fun i => i = nb) (Kept.refl _ wr) (p := ⟨nb, j, none⟩) rfl _
          have fin : Hid (MixSt w sb pb nb s (refShift s) true (j + 1) (wr.setCell ⟨nb, j, none⟩ (.bool mj))) := h_ ⟨⟨hJ'.out.of.kept.setNew hnbw.out.1 _, kq.get hJ'.out.of.rest hnbw.out.2.1, kq.get hJ'.out.of.poly hnbw.out.2.2⟩, by
           rw [heap_setCell_same hJ'.out.next, hst'.out, ← hmj]
           simp⟩
          clear kq
          go_wp2_with fail
          go_roundw
          case rel => exact ⟨j + 1, by omega, by go_num, fin⟩
          case measure => simp [intOf]; omega
       ·obtain rfl : j = 32 := by omega
        obtain ⟨C, hC⟩ : ∃ C, bitCells (refBit s bt) = C := ⟨_, rfl⟩
        have hCl : Hid (C.length = 32) := h_ (by rw [← hC]; exact bitCells_len _)
        have hC1 : Hid (∀ v ∈ C, v.oneCell' = true) := h_ (by rw [← hC]; exact bitCells_one _)
        have hn := hJ.out.next
        rw [← htp2.out, mix_done, hC] at hn
        have hln : Hid (∀ j v, C[j]? = some v → wr.cell? ⟨nb, 0 + j, none⟩ = some v) := h_ (fun j v hj => by rw [Nat.zero_add, cell_of_heap hn]; simpa using hj)
        have hrest := h_ hJ.out.of.rest
        have kq : Kept (fun i => i = sb) wr (wr.setRow sb C.toArray) := Kept.setRow (S := fun i => i = sb) (Kept.refl _ _) rfl _
        have fin : Hid (OfSt w sb pb (refSum bs (k + 1)) (wr.setRow sb C.toArray)) := h_ ⟨hJ.out.of.kept.setRowNew hsbw.out _, by rw [hnext.out, hC]; exact setRow_heap _ _ _ _ _ _ hrest.out, kq.get hJ.out.of.poly (fun e => hpbw.out.2 e.symm)⟩
        clear hn hC kq hJ
        go_wp2_with (first | (refine wpList_load_agg 175 rfl rfl rfl _ Tryz.underlying175 rfl C (by rw [hCl.out]; exact bits_size) hln.out ?_) | (refine wpList_store_whole 175 rfl rfl rfl C rfl (by rw [hCl.out]; exact bits_size) 175 _ hrest.out (by simp [hCl.out, bitCells_len]) hC1.out ?_))
        go_roundw
        case rel => exact ⟨k + 1, by omega, by go_num, fin⟩
        case measure => simp [intOf]; omega
     exact AllReady.nil
    ·obtain rfl : k = 8 * bs.length := by omega
     obtain ⟨n, hn⟩ : ∃ n, refSum bs (8 * bs.length) = n := ⟨_, rfl⟩
     have hn32 : n < 4294967296 := by rw [← hn]; exact refSum_lt _ _
     have hcrc : Hid (((n : Nat) : Int) = crcOf bs) := h_ (by rw [← hn]; exact refSum_of hlt'.out)
     obtain ⟨C, hC⟩ : ∃ C, bitCells n = C := ⟨_, rfl⟩
     have hCl : Hid (C.length = 32) := h_ (by rw [← hC]; exact bitCells_len _)
     have hr := hI.out.rest
     rw [hn, hC] at hr
     have hlr : Hid (∀ j v, C[j]? = some v → wr.cell? ⟨sb, 0 + j, none⟩ = some v) := h_ (fun j v hj => by rw [Nat.zero_add, cell_of_heap hr]; simpa using hj)
     have hCg : Hid (∀ j, j < 32 → C[j]? = some (.bool (n.testBit (31 - j)))) := h_ (fun j hj => by rw [← hC]; exact bitCells_get n hj)
     have kk := h_ hI.out.kept
     clear hr hC hI hn
     go_wp2_with (first | (refine wpList_load_agg 175 rfl rfl rfl _ Tryz.underlying175 rfl C (by rw [hCl.out]; exact bits_size) hlr.out ?_))
     go_loopw [11, 66] (fun o i wr => ∃ (j : Nat), j ≤ 32 ∧ o = .int .u32 ((n / 2 ^ (32 - j) : Nat) : Int) ∧ i = .int .i64 j ∧ Hid (Kept (fun _ => False) w wr)) (fun _ i _ => 32 - (intOf i).toNat)
     case atStart => exact ⟨0, Nat.zero_le _, by rw [Nat.div_eq_of_lt (show n < 2 ^ (32 - 0) from hn32)]; rfl, rfl, kk⟩
     case round =>
      obtain ⟨j, hj, rfl, rfl, hJ⟩ := hrel
      by_cases hjlt : j < 32
      ·have hji : (j : Int) < 32 := by omega
       have hst := out_step n hjlt
       obtain ⟨bj, hbj⟩ : ∃ b, n.testBit (31 - j) = b := ⟨_, rfl⟩
       have hix := fun wx => run_index_agg (P := Tryz.prog) Tryz.underlying175 Tryz.underlying4 rfl (by kernel_rfl) C hjlt (hCg.out j hjlt) .i64 wx
       rw [hbj] at hst hix
       obtain ⟨q, hq⟩ : ∃ q, n / 2 ^ (32 - j) = q := ⟨_, rfl⟩
       obtain ⟨q2, hq2⟩ : ∃ q2, n / 2 ^ (31 - j) = q2 := ⟨_, rfl⟩
       have hq32 : q2 < 4294967296 := by rw [← hq2]; exact Nat.lt_of_le_of_lt (Nat.div_le_self _ _) hn32
       rw [hq2, hq] at hst
       have hnx : n / 2 ^ (32 - (j + 1)) = q2 := by rw [← hq2]; congr 2; omega
       rw [hq]
       clear hq hq2 hbj
       cases bj with
       | false =>
        have hst2 : q2 = 2 * q := by simpa using hst
        have hqs : (q : Int) * 2 < 4294967296 := by omega
        clear hst
        go_wp2_with fail
        go_roundw
        case rel => exact ⟨j + 1, by omega, by rw [hnx]; first | (go_num; done) | (go_num; omega), by go_num, hJ⟩
        case measure => simp [intOf]; omega
       | true =>
        have hst2 : q2 = 2 * q + 1 := by simpa using hst
        have hqs : (q : Int) * 2 + 1 < 4294967296 := by omega
        clear hst
        go_wp2_with fail
        go_roundw
        case rel => exact ⟨j + 1, by omega, by rw [hnx]; first | (go_num; done) | (go_num; omega), by go_num, hJ⟩
        case measure => simp [intOf]; omega
      ·obtain rfl : j = 32 := by omega
       rw [show n / 2 ^ (32 - 32) = n by simp]
       go_wp2_with fail
       go_ret
       exact ⟨by rw [← hcrc.out]; rfl, hJ.out⟩

theorem run_index_row {P : Program} {t e : TypeId} {len sz : Nat} {d : TypeDesc} (ht : P.underlying t = some (.array len e)) (hu : P.underlying e = some d) (hd : aggDesc d = true)
  (hi : (P.info? e).map (·.size) = some sz) (vs : List Value) {k : Nat} (hk : k < len) (kd : IntKind) (w : World) :
  (Instr.index t (.agg vs.toArray) (.int kd k)).run P w = .ok (.agg (vs.toArray.extract (k * sz) (k * sz + sz))) w := by
 have hn : (isAgg e).run P w = .ok true w := run_isAgg hu hd w
 simp [Instr.index, asIntOf, run_underlying ht, run_sizeOf hi, part, hn, hk]
theorem img_extract {f : Int → List Nat} (hB : Bytes f) {k : Nat} (hk : k < 64) : (imgCells f).toArray.extract (k * 16) (k * 16 + 16) = (byteCells (f (k : Int))).toArray := by
 refine Array.ext_getElem? fun j => ?_
 rw [Array.getElem?_extract]
 by_cases hj : j < 16
 ·have h1 := imgCells_get hB hk hj
  have hs : (imgCells f).toArray.size = 1024 := by simp [imgCells_len hB]
  rw [if_pos (by rw [hs]; omega)]
  simpa using h1
 ·have hs : (imgCells f).toArray.size = 1024 := by simp [imgCells_len hB]
  rw [if_neg (by rw [hs]; omega), Array.getElem?_eq_none (by simp [byteCells_len, hB.len]; omega)]
theorem img_size : (Tryz.prog.info? 37).map (·.size) = some 1024 := by kernel_rfl
theorem bytes_take (f : Int → List Nat) {k : Nat} (hk : k < 64) : ((blocksOf f).take (k + 1)).flatten = ((blocksOf f).take k).flatten ++ f (k : Int) := by
 rw [List.take_add_one, blocksOf_get f hk, List.flatten_append]
 simp
structure RsSt (w : World) (f : Int → List Nat) (v : Value) (k : Nat) (wr : World) : Prop where
 kept : Kept (fun _ => False) w wr
 row : wr.ownsRow w.heap.size 5 1 v (k * 16) (byteCells ((blocksOf f).take k).flatten)
set_option maxHeartbeats 8000000 in
theorem ref13Sum {w : World} {f : Int → List Nat} (hB : Bytes f) : Calls Tryz.prog 23 #[.agg (imgCells f).toArray] w fun e w' => e = .returned (.int .u32 (crcOf (imgBytes f))) ∧ Kept (fun _ => False) w w' := by
 obtain ⟨C, hC⟩ : ∃ C, imgCells f = C := ⟨_, rfl⟩
 have hCl : Hid (C.length = 1024) := h_ (by rw [← hC]; exact imgCells_len hB)
 have hix : Hid (∀ k wx, k < 64 → (Instr.index 37 (.agg C.toArray) (.int .i64 (k : Nat))).run Tryz.prog wx = .ok (.agg (byteCells (f (k : Int))).toArray) wx) := h_ (fun k wx hk => by
  rw [run_index_row (P := Tryz.prog) Tryz.underlying37 Tryz.underlying35 rfl block_size C hk .i64 wx, ← hC, img_extract hB hk])
 rw [hC]
 obtain ⟨mb, hmb⟩ : ∃ mb, w.heap.size = mb := ⟨_, rfl⟩
 obtain ⟨w1, hw1⟩ : ∃ w1, w.alloc (.cells C.toArray 37) = w1 := ⟨_, rfl⟩
 have k1 : Kept (fun _ => False) w w1 := by rw [← hw1]; exact (Kept.refl _ _).alloc _
 have q1 : w1.heap[mb]? = some (.cells C.toArray 37 (0, 0)) := by rw [← hw1, ← hmb]; exact heap_alloc_new _ _
 have hl1 : Hid (∀ j v, C[j]? = some v → (w1.alloc (.cells #[] 5)).cell? ⟨mb, 0 + j, none⟩ = some v) := h_ (fun j v hj => by rw [Nat.zero_add, cell_of_heap (((Kept.refl (fun _ => False) w1).alloc (.cells #[] 5)).get q1 id)]; simpa using hj)
 have I2 : Hid (RsSt w f (.slice (some ⟨w1.heap.size, 0, none⟩) 0 0) 0 (w1.alloc (.cells #[] 5))) := h_ ⟨k1.alloc _, owns_empty w1 w.heap.size w1.heap.size 5 1 k1.size rfl⟩
 obtain ⟨Z, hZ⟩ : ∃ Z, byteCells zeros16 = Z := ⟨_, rfl⟩
 have hZz : Hid ((Tryz.prog.info? 35).map (·.zero) = some (some (.agg Z.toArray))) := h_ (by rw [← hZ]; exact block_zero)
 have hZl : Hid (Z.length = 16) := h_ (by rw [← hZ]; rfl)
 have hB' := h_ hB
 have hw1' := h_ hw1
 have hmb' := h_ hmb
 clear hw1 hmb k1 q1 hC hB hZ
 go_enter Tryz.func23, Tryz.ntmps23
 go_wp2_with (first | (refine wpList_box_named 37 rfl rfl _ rfl hw1'.out ?_; rw [hmb'.out]) | (refine wpList_load_agg 37 rfl rfl rfl _ Tryz.underlying37 rfl C (by rw [hCl.out]; exact img_size) hl1.out ?_))
 go_loopw [3, 8] (fun v n wr => ∃ (k : Nat), k ≤ 64 ∧ n = .int .i64 k ∧ Hid (RsSt w f v k wr)) (fun _ n _ => 64 - (intOf n).toNat)
 case atStart => exact ⟨0, Nat.zero_le _, rfl, I2⟩
 case round =>
  obtain ⟨k, hk, rfl, hI⟩ := hrel
  obtain ⟨_, Av, cv, rfl, hv1, hv2, _⟩ := SliceAt.of_owns hI.out.row
  unfold maxLen at hv2
  by_cases hlt : k < 64
  ·have hki : (k : Int) < 64 := by omega
   have hixk := fun wx => hix.out k wx hlt
   obtain ⟨B, hBq⟩ : ∃ B, byteCells (f (k : Int)) = B := ⟨_, rfl⟩
   have hBl : Hid (B.length = 16) := h_ (by rw [← hBq, byteCells_len]; exact hB'.out.len _)
   have hB1 : Hid (∀ v ∈ B, v.oneCell' = true) := h_ (by rw [← hBq]; exact byteCells_one _)
   rw [hBq] at hixk
   obtain ⟨bb, hbb⟩ : ∃ bb, wr.heap.size = bb := ⟨_, rfl⟩
   obtain ⟨w5, hw5⟩ : ∃ w5, (wr.alloc (.cells Z.toArray 35)).setRow bb B.toArray = w5 := ⟨_, rfl⟩
   have k5 : Kept (fun _ => False) wr w5 := by rw [← hw5]; exact ((Kept.refl _ _).alloc _).setRowNew (by omega) _
   have q5 : Hid (w5.heap[bb]? = some (.cells B.toArray 35 (0, 0))) := h_ (by rw [← hw5, ← hbb]; exact setRow_heap _ _ _ _ _ _ (heap_alloc_new _ _))
   have R5 := h_ (ownsRow.keptOf hI.out.row k5 (fun _ _ => id))
   have K5 := h_ (hI.out.kept.trans k5)
   have hnext : Hid (byteCells ((blocksOf f).take (k + 1)).flatten = byteCells ((blocksOf f).take k).flatten ++ B) := h_ (by rw [bytes_take f hlt, byteCells_append, hBq])
   have hw5' := h_ hw5
   have hbb' := h_ hbb
   clear hI k5 hw5 hbb hBq
   go_wp2_with (first | (refine wpList_alloc_as 35 rfl rfl Z.toArray hZz.out ?_; rw [hbb'.out]) | (refine wpList_store_whole 35 rfl rfl rfl B rfl (by rw [hBl.out]; exact block_size) 35 Z.toArray (by rw [← hbb'.out]; exact heap_alloc_new _ _) (by simp [hZl.out, hBl.out]) hB1.out ?_; rw [hw5'.out]) | (at_builtin; refine wpList_append_src rfl elemU8 (.tmp 11) (.tmp 12) rfl (by rfl) (by rfl) R5.out (SliceAt.block_new (ys := B) (m := 16) (size := 1) q5.out (by rw [hBl.out]) (by decide)) hB1.out (by omega) (by omega) K5.out.size ?_; intro v2 w10 hown10 hg10 hat10))
   have fin : Hid (RsSt w f v2 (k + 1) w10) := h_ ⟨K5.out.trans_new (Kept.of_grown hg10) (fun j hj e => absurd hj (Nat.not_lt.2 (R5.out.lt j e).1)), by rw [hnext.out, show (k + 1) * 16 = k * 16 + 16 by omega]; exact hown10⟩
   clear hown10 hg10 hat10
   go_wp2_with fail
   go_roundw
   case rel => exact ⟨k + 1, by omega, by go_num, fin⟩
   case measure => simp [intOf]; omega
  ·obtain rfl : k = 64 := by omega
   have hall : (blocksOf f).take 64 = blocksOf f := List.take_of_length_le (by rw [blocksOf_len]; exact Nat.le_refl _)
   have hfl : ((blocksOf f).take 64).flatten = imgBytes f := by rw [hall]; rfl
   have hval : BytesAt wr (.slice Av (64 * 16) cv) (imgBytes f) := ⟨by
    have := SliceAt.of_owns hI.out.row
    rw [hfl] at this
    rw [imgBytes_len hB'.out]
    exact this, imgBytes_lt hB'.out⟩
   have hO := of02 hval (by rw [imgBytes_len hB'.out]; decide)
   have hO' := h_ hO
   have kk := h_ hI.out.kept
   clear hI hval hO
   go_wp2_with fail
   refine hO'.out.mono ?_
   rintro e w9 ⟨rfl, hk9⟩
   have kk2 := h_ (kk.out.trans hk9)
   clear hk9
   go_wp2_with fail
   go_ret
   exact ⟨rfl, kk2.out⟩
def Gone (n : Nat) (G : List Nat) (M : SM) : Prop := ∀ q, q < n → M.pool.st q ≤ 4 ∧ (M.pool.st q = 4 → q ∈ G) ∧ (0 < M.pool.cnt q → M.pool.st q ≤ 2 ∧ (M.pool.st q = 0 → q ∈ G))
theorem goneG_live {n : Nat} {G : List Nat} {M : SM} (h : Gone n G M) {i : Int} (hi : M.pool.heldB i = true) (hn : i.toNat < n) : M.pool.st i.toNat ≤ 2 ∧ (M.pool.st i.toNat = 0 → i.toNat ∈ G) := by
 have hl := (heldB_int hi).2
 have := h i.toNat hn
 simp only [PM.live, Bool.and_eq_true, Bool.or_eq_true, decide_eq_true_eq, beq_iff_eq] at hl
 rcases hl.2 with h1 | h1
 ·exact this.2.2 h1
 ·exact ⟨by omega, fun e => by omega⟩
theorem gone_closed (n : Nat) (G : List Nat) : Closed (Gone n G) := by
 refine ⟨fun M i n hi h q hqn => ?_, fun M i h q hqn => ?_, fun M i hi h q hqn => ?_⟩
 ·have := h q hqn
  obtain ⟨_, hf⟩ := takeIx_free hi
  simp only [PM.freeB, Bool.and_eq_true, beq_iff_eq] at hf
  by_cases e : q = i
  ·subst e; simp [PM.setSt]
  ·simp only [PM.setSt, if_neg e]; exact this
 ·have := h q hqn
  show (M.pool.holdTo i).st q ≤ 4 ∧ ((M.pool.holdTo i).st q = 4 → q ∈ G) ∧ (0 < (M.pool.holdTo i).cnt q → (M.pool.holdTo i).st q ≤ 2 ∧ ((M.pool.holdTo i).st q = 0 → q ∈ G))
  unfold PM.holdTo
  split
  ·rename_i hc
   simp only [Bool.and_eq_true] at hc
   have hs := goneG_live h hc.1
   simp only [PM.setCnt]
   refine ⟨this.1, this.2.1, fun hq => ?_⟩
   split at hq
   ·rename_i e; rw [e]; exact hs (e ▸ hqn)
   ·exact this.2.2 hq
  ·exact this
 ·have := h q hqn
  have hs := goneG_live h hi
  show (M.pool.dropTo i.toNat).st q ≤ 4 ∧ ((M.pool.dropTo i.toNat).st q = 4 → q ∈ G) ∧ (0 < (M.pool.dropTo i.toNat).cnt q → (M.pool.dropTo i.toNat).st q ≤ 2 ∧ ((M.pool.dropTo i.toNat).st q = 0 → q ∈ G))
  unfold PM.dropTo
  split
  ·simp only [PM.setCnt]
   refine ⟨this.1, this.2.1, fun hq => ?_⟩
   split at hq
   ·rename_i e; rw [e]; exact hs (e ▸ hqn)
   ·exact this.2.2 hq
  ·simp only [PM.setCnt, PM.setSt]
   by_cases e : q = i.toNat
   ·subst e
    simp only [if_true]
    unfold PM.lastSt
    have hs := hs hqn
    have h3 : M.pool.st i.toNat = 0 ∨ M.pool.st i.toNat = 1 ∨ M.pool.st i.toNat = 2 := by omega
    rcases h3 with e | e | e
    ·rw [e]; exact ⟨by decide, fun _ => hs.2 e, fun h => absurd h (by decide)⟩
    ·rw [e]; exact ⟨by decide, fun h => absurd h (by decide), fun h => absurd h (by decide)⟩
    ·rw [e]; exact ⟨by decide, fun h => absurd h (by decide), fun h => absurd h (by decide)⟩
   ·simp only [if_neg e]
    exact this
theorem gone_tidy {n : Nat} {G : List Nat} {M : SM} (h : Gone n G M) : Gone n G M.tidy := fun q hqn => by
 have := h q hqn
 have e : M.tidy.pool.st q = if M.pool.st q = 3 then 0 else M.pool.st q := rfl
 have ec : M.tidy.pool.cnt q = M.pool.cnt q := rfl
 rw [e, ec]
 by_cases h3 : M.pool.st q = 3
 ·rw [if_pos h3]
  exact ⟨by omega, fun e => by omega, fun hc => by have := (this.2.2 hc).1; omega⟩
 ·rw [if_neg h3]; exact this
theorem gone_mark {n : Nat} {G : List Nat} {M : SM} (h : Gone n G M) : Gone n G (markM M) := fun q hqn => by
 have := h q hqn
 have e : (markM M).pool.st q = if M.pool.st q = 1 then 2 else M.pool.st q := rfl
 have ec : (markM M).pool.cnt q = M.pool.cnt q := rfl
 rw [e, ec]
 by_cases h1 : M.pool.st q = 1
 ·rw [if_pos h1]
  exact ⟨by omega, fun e => by omega, fun _ => ⟨by omega, fun e => by omega⟩⟩
 ·rw [if_neg h1]; exact this
theorem gone_marked {n : Nat} {G : List Nat} {M : SM} (h : Gone n G M) : Gone n G M.marked := gone_mark (gone_tidy h)
theorem gone_room {G : List Nat} {M : SM} (h : Gone M.pool.size G M) : M.pool.size ≤ M.tidy.pool.freeCount + M.liveN + G.length := by
 have h1 : M.pool.size ≤ M.tidy.pool.freeCount + M.liveN + sumN (fun q => if decide (q ∈ G) then 1 else 0) M.pool.size := by
  unfold PM.freeCount SM.liveN
  rw [freeN_sum]
  show M.pool.size ≤ sumN _ M.pool.size + _ + _
  refine sumN_three _ fun q hq => ?_
  have hs := h q hq
  by_cases hl : M.live q = true
  ·rw [if_pos hl]; omega
  ·have hn := hl
   simp only [SM.live, PM.live, Bool.and_eq_true, Bool.or_eq_true, decide_eq_true_eq, beq_iff_eq, not_and, not_or] at hn
   obtain ⟨n1, n2, n3⟩ := hn hq
   by_cases h4 : M.pool.st q = 4
   ·rw [if_pos (show decide (q ∈ G) = true from decide_eq_true (hs.2.1 h4))]; omega
   ·have hfree : M.tidy.pool.freeB q = true := by
     unfold PM.freeB
     have e : M.tidy.pool.st q = if M.pool.st q = 3 then 0 else M.pool.st q := rfl
     have ec : M.tidy.pool.cnt q = M.pool.cnt q := rfl
     simp only [Bool.and_eq_true, beq_iff_eq]
     rw [e, ec]
     refine ⟨by omega, ?_⟩
     split <;> omega
    rw [if_pos hfree]; omega
 have h2 := sum_list (f := fun _ => 1) (b := fun q => decide (q ∈ G)) G M.pool.size (fun q _ hq => by simpa using hq)
 have e : ∀ L : List Nat, (L.map fun _ => 1).sum = L.length := fun L => by
  induction L with
  | nil => rfl
  | cons a L ih => rw [List.map_cons, List.sum_cons, ih, List.length_cons]; omega
 rw [e] at h2
 omega
theorem imgs_pages {m : Nat} {M : SM} {is : List IM} (h : Imgs m M is) (f : IM → Nat) (hf : ∀ i ∈ is, ∀ hh, Tr m M hh i.root i.l → Led M hh i.root i.P → (pagesF M hh i.root).length ≤ f i) :
  ∃ L : List Nat, (∀ q, M.live q = true → q ∈ L) ∧ L.length ≤ (is.map fun i => f i + i.l.length).sum ∧ entSum M L ≤ (is.map fun i => f i + i.l.length).sum := by
 have each : ∀ i ∈ is, ∃ L : List Nat, (i.root = -1 ∨ i.root.toNat ∈ L) ∧ (∀ q ∈ L, ∀ x ∈ M.ents q, x.2.toNat ∈ L) ∧ L.length ≤ f i + i.l.length ∧ entSum M L ≤ f i + i.l.length := fun i hi => by
  have hI := h.img i hi
  have hdat : ∀ q ∈ i.l.map (fun y => y.2.toNat), M.ents q = [] := fun q hq => by
   obtain ⟨y, hy, rfl⟩ := List.mem_map.1 hq
   obtain ⟨d, hd, _, _, he⟩ := hI.data y hy
   rw [ents_of hd, he]
  have hd0 : entSum M (i.l.map fun y => y.2.toNat) = 0 := by
   have key : ∀ L : List Nat, (∀ q ∈ L, M.ents q = []) → entSum M L = 0 := fun L => by
    induction L with
    | nil => intro _; rfl
    | cons a L ih =>
     intro h
     have h1 := ih (fun q hq => h q (List.mem_cons_of_mem _ hq))
     unfold entSum at h1 ⊢
     rw [List.map_cons, List.sum_cons, h a (List.mem_cons_self ..), h1]
     rfl
   exact key _ hdat
  rcases hI.tree.root with ⟨e, el⟩ | ⟨hh, t, j⟩
  ·exact ⟨[], .inl e, fun q hq => (by cases hq), Nat.zero_le _, Nat.zero_le _⟩
  ·have hp := hf i hi hh t j
   have hs := pages_sum t
   refine ⟨pagesF M hh i.root ++ i.l.map (fun y => y.2.toNat), .inr (List.mem_append_left _ (pages_self (tr_pos t))), fun q hq x hx => ?_, by rw [List.length_append, List.length_map]; omega, by rw [entSum_append, hd0]; omega⟩
   rcases List.mem_append.1 hq with hq | hq
   ·rcases pages_closed t q hq x hx with e | e
    ·exact List.mem_append_left _ e
    ·exact List.mem_append_right _ (List.mem_map.2 ⟨x, e, rfl⟩)
   ·rw [hdat q hq] at hx; cases hx
 have all : ∀ js : List IM, (∀ i ∈ js, i ∈ is) → ∃ L : List Nat, (∀ i ∈ js, i.root = -1 ∨ i.root.toNat ∈ L) ∧ (∀ q ∈ L, ∀ x ∈ M.ents q, x.2.toNat ∈ L) ∧ L.length ≤ (js.map fun i => f i + i.l.length).sum ∧ entSum M L ≤ (js.map fun i => f i + i.l.length).sum := by
  intro js
  induction js with
  | nil => intro _; exact ⟨[], fun i hi => (by cases hi), fun q hq => (by cases hq), Nat.le_refl _, Nat.le_refl _⟩
  | cons i js ih =>
   intro hin
   obtain ⟨L, a1, a2, a3, a4⟩ := ih (fun j hj => hin j (List.mem_cons_of_mem _ hj))
   obtain ⟨K, b1, b2, b3, b4⟩ := each i (hin i (List.mem_cons_self ..))
   refine ⟨K ++ L, fun j hj => ?_, fun q hq x hx => ?_, ?_, ?_⟩
   ·rcases List.mem_cons.1 hj with rfl | hj
    ·exact b1.imp id fun e => List.mem_append_left _ e
    ·exact (a1 j hj).imp id fun e => List.mem_append_right _ e
   ·rcases List.mem_append.1 hq with hq | hq
    ·exact List.mem_append_left _ (b2 q hq x hx)
    ·exact List.mem_append_right _ (a2 q hq x hx)
   ·rw [List.length_append, List.map_cons, List.sum_cons]; omega
   ·rw [entSum_append, List.map_cons, List.sum_cons]; omega
 obtain ⟨L, a1, a2, a3, a4⟩ := all is (fun i hi => hi)
 refine ⟨L, reach_all h.exact h.loose (fun q _ hq => ?_) a2, a3, a4⟩
 unfold extL at hq
 obtain ⟨i, hi, e⟩ := List.mem_map.1 (List.count_pos_iff.1 hq)
 rcases a1 i hi with e1 | e1
 ·omega
 ·rw [e, Int.toNat_natCast] at e1; exact e1
theorem write_room {m : Nat} (hm : m ≤ 3) {M : SM} {is : List IM} {i : IM} {k : Nat} (h : Imgs m M is) (hi : is[k]? = some i) (hP : i.P + 1 ≤ 240) {key : Int} (k0 : 0 ≤ key) (k1 : key < 64) {b : List Nat} (hb : b.length = 16) (h256 : ∀ x ∈ b, x < 256)
  {G : List Nat} (hG : Gone M.pool.size G M) (f : IM → Nat) (hf : ∀ i ∈ is, ∀ hh, Tr m M hh i.root i.l → Led M hh i.root i.P → (pagesF M hh i.root).length ≤ f i) {H : Nat} (hH : ∀ M1 hh, Rooted m M1 i.root i.l hh → (i.root = -1 ∨ Led M1 hh i.root i.P) → hh ≤ H)
  (hroom : (is.map fun i => f i + i.l.length).sum + G.length + (2 * H + 4) ≤ M.pool.size) (hsum : (is.map fun i => f i + i.l.length).sum + 38 + is.length < 255) :
  (M.write i.root key b).2.2 = 0 ∧ (∃ pg, Imgs m (M.write i.root key b).1 (is.set k ⟨(M.write i.root key b).2.1, putL i.l (key, pg), i.P + 1, upd i.w key b⟩)) ∧ Gone M.pool.size G (M.write i.root key b).1 ∧ (M.write i.root key b).1.pool.size = M.pool.size := by
 obtain ⟨L, l1, l2, l3⟩ := imgs_pages h f hf
 have hlive := liveN_list l1
 have hsm := sumE_list l1
 have hgr := gone_room hG
 have hext : ∀ q, extL (is.map (·.root)) q ≤ is.length := fun q => by
  unfold extL
  have := List.count_le_length (a := (q : Int)) (l := is.map (·.root))
  rw [List.length_map] at this
  exact this
 rcases write_ok hm h hi hP k0 k1 hb h256 with ⟨e, hw⟩ | ⟨_, _, _, e⟩
 ·have hsafe : M.write i.root key b = M.marked.write1 i.root key b := by
   have hne : ¬ (key < 0 ∨ 63 < key) := by omega
   have e' := e
   unfold SM.write at e' ⊢
   rw [if_neg hne] at e' ⊢
   unfold SM.safely at e' ⊢
   by_cases h0 : (M.marked.write1 i.root key b).2.2 = 0
   ·rw [if_pos h0]
   ·rw [if_neg h0] at e'
    exact absurd e' h0
  refine ⟨e, hw, ?_, ?_⟩
  ·rw [hsafe]; exact write1_closed (gone_closed _ G) _ _ _ (gone_marked hG)
  ·rw [hsafe]; exact (write1_closed (marked_closed M.marked) i.root key b (mark_start M.tidy)).size
 ·exfalso
  rcases e with ⟨_, e | ⟨M1, hh, _, hr, hled, e⟩⟩ | ⟨_, q, e⟩
  ·omega
  ·have := hH M1 hh hr hled
   omega
  ·have hrl := M.refs_le q
   have := hext q
   omega
def Two (M : SM) (root : Int) : Prop := ∀ n, M.nodeAt root.toNat = some n → n.kind = 3 → 2 ≤ n.ents.length

def newM (s : Nat) : SM := ⟨PM.fresh0 s, []⟩
theorem newM_live (s q : Nat) : (newM s).live q = false := by
 unfold newM SM.live PM.live PM.fresh0
 simp
theorem newM_imgs (m : Nat) {s : Nat} (h : s ≤ 240) : Imgs m (newM s) [.none] := by
 refine ⟨⟨h, fun p => Nat.zero_le _, fun p hp => ?_, fun q hq => ?_, fun q hq => ?_, fun _ => 0, fun q hq => ?_⟩, fun q hq => ?_, fun i hi => ?_⟩
 ·have hr : (newM s).refs p = 0 := sumN_zero fun q _ => by rw [newM_live]; rfl
  rw [hr]
  show (0 : Nat) = 0 + List.count (p : Int) [-1]
  rw [List.count_eq_zero.2 (by simp)]
 ·rw [newM_live] at hq; cases hq
 ·rw [newM_live] at hq; cases hq
 ·rw [newM_live] at hq; cases hq
 ·rw [newM_live] at hq; cases hq
 ·rw [List.mem_singleton.1 hi]; exact Img.none m _
theorem newM_gone (s n : Nat) : Gone n [] (newM s) := fun q _ => ⟨Nat.zero_le _, fun h => (by cases h), fun h => absurd h (Nat.lt_irrefl 0)⟩
theorem images_zero : (Tryz.prog.info? 32).map (·.zero) = some (some (.agg #[.pointer none])) := by kernel_rfl
theorem images_size : (Tryz.prog.info? 32).map (·.size) = some 1 := by kernel_rfl
set_option maxHeartbeats 4000000 in
theorem imageOver (sb : Nat) (w : World) : Calls Tryz.prog 56 #[.pointer (some ⟨sb, 0, none⟩)] w fun e w' => e = .returned (.agg #[.pointer (some ⟨sb, 0, none⟩)]) ∧ Kept (fun _ => False) w w' := by
 have hb1 : Hid (∀ w, (Instr.build 26 #[(0, .pointer (some ⟨sb, 0, none⟩))]).run Tryz.prog w = .ok (.agg #[.pointer (some ⟨sb, 0, none⟩)]) w) := h_ (fun w => run_build _ _ _ _ (by kernel_rfl))
 have hb2 : Hid (∀ w, (Instr.build 28 #[(0, .agg #[.pointer (some ⟨sb, 0, none⟩)])]).run Tryz.prog w = .ok (.agg #[.pointer (some ⟨sb, 0, none⟩)]) w) := h_ (fun w => run_build _ _ _ _ (by kernel_rfl))
 have hb3 : Hid (∀ w, (Instr.build 30 #[(0, .agg #[.pointer (some ⟨sb, 0, none⟩)])]).run Tryz.prog w = .ok (.agg #[.pointer (some ⟨sb, 0, none⟩)]) w) := h_ (fun w => run_build _ _ _ _ (by kernel_rfl))
 have hb4 : Hid (∀ w, (Instr.build 32 #[(0, .agg #[.pointer (some ⟨sb, 0, none⟩)])]).run Tryz.prog w = .ok (.agg #[.pointer (some ⟨sb, 0, none⟩)]) w) := h_ (fun w => run_build _ _ _ _ (by kernel_rfl))
 obtain ⟨rb, hrb⟩ : ∃ rb, w.heap.size = rb := ⟨_, rfl⟩
 obtain ⟨w1, hw1⟩ : ∃ w1, w.alloc (.cells #[.pointer none] 32) = w1 := ⟨_, rfl⟩
 have k1 := h_ (show Kept (fun _ => False) w w1 by rw [← hw1]; exact (Kept.refl _ _).alloc _)
 have q1 := h_ (show w1.heap[rb]? = some (.cells #[.pointer none] 32 (0, 0)) by rw [← hw1, ← hrb]; exact heap_alloc_new _ _)
 have hw1' := h_ hw1
 have hrb' := h_ hrb
 clear hw1 hrb
 go_enter Tryz.func56, Tryz.ntmps56
 go_wp2_with (first | (refine wpList_alloc_as 32 rfl rfl #[.pointer none] images_zero ?_; rw [hw1'.out, hrb'.out]) | (refine wpList_exec rfl (exec_build 26 #[(0, .tmp 3)] _ rfl (by simp [Act.eval, Act.put]) (hb1.out _)) ?_) | (refine wpList_exec rfl (exec_build 28 #[(0, .tmp 4)] _ rfl (by simp [Act.eval, Act.put]) (hb2.out _)) ?_) | (refine wpList_exec rfl (exec_build 30 #[(0, .tmp 5)] _ rfl (by simp [Act.eval, Act.put]) (hb3.out _)) ?_) | (refine wpList_exec rfl (exec_build 32 #[(0, .tmp 6)] _ rfl (by simp [Act.eval, Act.put]) (hb4.out _)) ?_) | (refine wpList_store_whole 32 rfl rfl rfl [.pointer (some ⟨sb, 0, none⟩)] rfl images_size 32 #[.pointer none] q1.out rfl (by intro c hc; simp at hc; subst hc; rfl) ?_))
 refine bodyPost_ret (results_row1 rfl _ _ rb 32 #[.pointer (some ⟨sb, 0, none⟩)] (0, 0) _ rfl (setRow_heap _ _ _ _ 32 (0, 0) q1.out) Tryz.underlying32 rfl images_size) rfl ?_
 exact ⟨rfl, k1.out.setRowNew (by rw [hrb'.out]; exact Nat.le_refl _) _⟩
set_option maxHeartbeats 4000000 in
theorem made13 (x : Int) (h0 : 4 ≤ x) (h1 : x ≤ 1000) (w : World) :
  Calls Tryz.prog 17 #[.int .i64 x] w fun e w' => ∃ A, e = .returned (.agg #[.pointer (some ⟨A.sb, 0, none⟩)]) ∧ StoreAt w' A (newM (min x 244 - 4).toNat) ∧ Kept (fun _ => False) w w' ∧ ∀ k, A.own k → w.heap.size ≤ k := by
 obtain ⟨s, hs⟩ : ∃ s, (min x 244 - 4).toNat = s := ⟨_, rfl⟩
 have hsz : Hid (clampN (max 0 (min x 244 - 4)) = s) := h_ (by unfold clampN; omega)
 have hdn : Hid (max 0 (min x 244) = ((s + 4 : Nat) : Int)) := h_ (by omega)
 have hs1 : s ≤ 240 := by omega
 obtain ⟨rb, hrb⟩ : ∃ rb, w.heap.size = rb := ⟨_, rfl⟩
 obtain ⟨w1, hw1⟩ : ∃ w1, w.alloc (.cells #[.pointer none] 32) = w1 := ⟨_, rfl⟩
 have k1 := h_ (show Kept (fun _ => False) w w1 by rw [← hw1]; exact (Kept.refl _ _).alloc _)
 have q1 := h_ (show w1.heap[rb]? = some (.cells #[.pointer none] 32 (0, 0)) by rw [← hw1, ← hrb]; exact heap_alloc_new _ _)
 have hrbw : Hid (w.heap.size = rb ∧ w1.heap.size = rb + 1) := h_ ⟨hrb, by rw [← hw1, ← hrb]; simp⟩
 have hw1' := h_ hw1
 have hrb' := h_ hrb
 rw [hs]
 clear hw1 hrb hs
 go_enter Tryz.func17, Tryz.ntmps17
 go_wp2_with (first | (refine wpList_alloc_as 32 rfl rfl #[.pointer none] images_zero ?_; rw [hw1'.out, hrb'.out]))
 refine (diskNew (s + 4) (by omega) x hdn.out _).mono ?_
 rintro e w2 ⟨D, rfl, hD, hDn, hDp, hDo, hk2⟩
 have hD' := h_ hD
 have hDn' := h_ hDn
 have hDp' := h_ hDp
 have hDo' := h_ hDo
 have hk2' := h_ hk2
 clear hD hDn hDp hDo hk2
 go_wp2_with fail
 refine (nodesSize x _ (by omega) h1).mono ?_
 rintro e w3 ⟨rfl, rfl⟩
 go_wp2_with fail
 refine (new_any _ _).mono ?_
 rintro e w3 ⟨c, rfl, hnew⟩
 have hP := hnew.pool
 rw [hsz.out] at hP
 have hP' := h_ hP
 have hck := hnew.new
 have hk3 := h_ hnew.kept
 clear hnew hP
 go_wp2_with fail
 refine (nodesNew (hD'.out.fresh hk3.out) hP'.out hDp'.out (fun e => by have := hD'.out.lt _ e; omega) (.inr (by rw [hDn'.out]; exact Nat.le_refl _))).mono ?_
 rintro e w4 ⟨A, rfl, hA, hk4, hAo⟩
 have hA' := h_ hA
 have hk14 := h_ (((hk2'.out.trans hk3.out).trans hk4))
 have hAo' : Hid (∀ k, A.own k → w1.heap.size ≤ k) := h_ (fun k hk => by
  rcases hAo k hk with rfl | h | h
  ·have := hk2'.out.size; omega
  ·exact hDo'.out _ h
  ·have := hk2'.out.size; have := hk3.out.size; omega)
 clear hA hk4 hAo
 go_wp2_with fail
 refine (imageOver A.sb _).mono ?_
 rintro e w5 ⟨rfl, hk5⟩
 have q5 := h_ (hk5.get (hk14.out.get q1.out id) id)
 have k15 := h_ ((k1.out.trans hk14.out).trans hk5)
 have hA5 := h_ (hA'.out.fresh hk5)
 clear hk5
 go_wp2_with (first | (refine wpList_store_whole 32 rfl rfl rfl [.pointer (some ⟨A.sb, 0, none⟩)] rfl images_size 32 #[.pointer none] q5.out rfl (by intro c hc; simp at hc; subst hc; rfl) ?_))
 refine bodyPost_ret (results_row1 rfl _ _ rb 32 #[.pointer (some ⟨A.sb, 0, none⟩)] (0, 0) _ rfl (setRow_heap _ _ _ _ 32 (0, 0) q5.out) Tryz.underlying32 rfl images_size) rfl ?_
 have kS := Kept.setRow (S := fun i => i = rb) (Kept.refl _ w5) rfl #[.pointer (some ⟨A.sb, 0, none⟩)]
 exact ⟨A, rfl, hA5.out.kept kS (fun i hi e => by have h1 := hAo'.out i hi; have h2 := hrbw.out.2; omega), k15.out.setRowNew (by have := hrbw.out.1; omega) _, fun k hk => by have h1 := hAo'.out k hk; have h2 := hrbw.out; omega⟩

theorem run_build_img (w : World) : (Instr.build 37 #[]).run Tryz.prog w = .ok (.agg (List.replicate 1024 (Value.int .u8 0)).toArray) w := run_build _ _ _ _ (by kernel_rfl)
theorem blk_all {l m : List Nat} (hl : l.length = 16) (hm : m.length = 16) : ((List.range 16).all fun i => ((l.getD i 0 : Nat) : Int) == ((m.getD i 0 : Nat) : Int)) = decide (l = m) := by
 rw [Bool.eq_iff_iff, List.all_eq_true, decide_eq_true_eq]
 constructor
 ·intro h
  refine List.ext_getElem? fun i => ?_
  by_cases hi : i < 16
  ·have := h i (List.mem_range.2 hi)
   rw [beq_iff_eq] at this
   have e : l.getD i 0 = m.getD i 0 := by omega
   rw [List.getElem?_eq_getElem (by omega), List.getElem?_eq_getElem (by omega)]
   simpa [List.getD, List.getElem?_eq_getElem (show i < l.length by omega), List.getElem?_eq_getElem (show i < m.length by omega)] using e
  ·rw [List.getElem?_eq_none (by omega), List.getElem?_eq_none (by omega)]
 ·rintro rfl i _
  simp
theorem exec_blk_eql {o : Oper} {a : Act} {w : World} {u : TypeId} (x y : Operand) (ho : o.op = .binOp .eql 35 x y u) {l m : List Nat} (hl : l.length = 16) (hm : m.length = 16) (hx : a.eval x = .agg (blockCells l).toArray) (hy : a.eval y = .agg (blockCells m).toArray) :
  (execOp a.eval o).run Tryz.prog w = .ok (.value (.bool (decide (l = m)))) w := by
 rw [← blk_all hl hm]
 exact exec_eql_arr ho (fun i => ((l.getD i 0 : Nat) : Int)) (fun i => ((m.getD i 0 : Nat) : Int)) hx hy (by kernel_rfl) Tryz.underlying35 Tryz.underlying5 (by kernel_rfl)
theorem img_pageOf {m : Nat} {M : SM} {ext : Nat → Nat} {i : IM} (h : Img m M i) (E : Exact M ext) (hB : Bytes i.w) {key : Int} (k0 : 0 ≤ key) (k1 : key < 64) : PageOf M (findL i.l key) (i.w key) := ⟨hB.len _, h.read E k0 k1⟩
theorem make_page {M : SM} {n : NM} (h : (M.make n).2.2 = 0) : (M.make n).2.1 ≠ -1 := by
 unfold SM.make at h ⊢
 split at h
 ·rename_i hr
  rw [if_pos hr]
  split at h
  ·cases h
  ·rename_i hf
   rw [if_neg hf]
   cases hti : M.pool.takeIx with
   | none => rw [hti] at h; cases h
   | some i =>
    rw [hti] at h
    dsimp only at h ⊢
    rw [if_pos h]
    omega
 ·cases h
theorem write1_log (M : SM) (root key : Int) (b : List Nat) : (M.write1 root key b).1.log.length ≤ M.log.length + 23 := by
 have hm := make_log M ⟨1, b, []⟩
 unfold SM.write1
 dsimp only
 by_cases h0 : (M.make ⟨1, b, []⟩).2.2 = 0
 ·rw [if_pos h0, change_one]
  have hne := make_page h0
  have hp := put_log (M.make ⟨1, b, []⟩).1 root key (M.make ⟨1, b, []⟩).2.1
  have hone : (M.make ⟨1, b, []⟩).1.one root (key, (M.make ⟨1, b, []⟩).2.1) = (M.make ⟨1, b, []⟩).1.put root key (M.make ⟨1, b, []⟩).2.1 := by unfold SM.one; rw [if_neg hne]
  unfold SM.change
  rw [hone]
  dsimp only
  split
  ·split
   ·show (SM.swap _ _ _).1.log.length ≤ _
    rw [swap_log]; omega
   ·show (SM.swap _ _ _).1.log.length ≤ _
    rw [swap_log]; omega
  ·show (SM.put _ _ _ _).1.log.length ≤ _
   omega
 ·rw [if_neg h0]
  show (M.make ⟨1, b, []⟩).1.log.length ≤ _
  omega
theorem write_log (M : SM) (root key : Int) (b : List Nat) : (M.write root key b).1.log.length ≤ M.log.length + 23 := by
 have h1 := write1_log M.marked root key b
 have h2 : M.marked.log = M.log := rfl
 rw [h2] at h1
 unfold SM.write
 split
 ·show M.log.length ≤ _
  omega
 ·unfold SM.safely
  split
  ·exact h1
  ·exact h1
def b1 : List Nat := 1 :: List.replicate 15 0
theorem b1_len : b1.length = 16 := rfl
theorem b1_lt : ∀ x ∈ b1, x < 256 := by
 intro c hc
 simp only [b1, List.mem_cons] at hc
 rcases hc with rfl | hc
 ·decide
 ·rw [List.eq_of_mem_replicate hc]; decide
theorem no_tree {m : Nat} {M : SM} {hh : Nat} {l : List (Int × Int)} (t : Tr m M hh (-1) l) : False := by
 have := (heldB_int t.held).1; omega
theorem first_write {m : Nat} (hm : m ≤ 3) {s : Nat} (hs : 10 ≤ s) (h240 : s ≤ 240) {key : Int} (k0 : 0 ≤ key) (k1 : key < 64) {b : List Nat} (hb : b.length = 16) (h256 : ∀ x ∈ b, x < 256) :
  ((newM s).write (-1) key b).2.2 = 0 ∧ (∃ pg, Imgs m ((newM s).write (-1) key b).1 [⟨((newM s).write (-1) key b).2.1, putL [] (key, pg), 1, upd (fun _ => zeros16) key b⟩]) ∧ Gone s [] ((newM s).write (-1) key b).1 ∧ ((newM s).write (-1) key b).1.pool.size = s :=
 write_room hm (i := .none) (k := 0) (newM_imgs m h240) rfl (by decide) k0 k1 hb h256 (newM_gone s s) (fun _ => 0) (fun j hj hh t _ => by rw [List.mem_singleton.1 hj] at t; exact (no_tree t).elim) (H := 0) (fun M1 hh hr _ => by
  rcases hr with ⟨_, _, e⟩ | t
  ·omega
  ·exact (no_tree t).elim) (by show 0 + 0 + 4 ≤ s; omega) (by show 0 + 38 + 1 < 255; omega)
theorem alive13 : ∃ M1 r pg, (newM 16).write (-1) 5 b1 = (M1, r, 0) ∧ Imgs 1 M1 [⟨r, [((5 : Int), pg)], 1, upd (fun _ => zeros16) 5 b1⟩] ∧ M1.log.length ≤ 23 ∧ ∃ M2, M1.clear r [5] = (M2, -1, 0) ∧ Imgs 1 M2 [⟨-1, [], 1, wipe (upd (fun _ => zeros16) 5 b1) 5⟩] := by
 obtain ⟨e, ⟨pg, hI⟩, hG, hsz⟩ := first_write (m := 1) (s := 16) (by decide) (by decide) (by decide) (key := 5) (by decide) (by decide) b1_len b1_lt
 have hlog := write_log (newM 16) (-1) 5 b1
 obtain ⟨W, hW⟩ : ∃ W, (newM 16).write (-1) 5 b1 = W := ⟨_, rfl⟩
 rw [hW] at e hI hG hsz hlog
 obtain ⟨M1, r, er⟩ := W
 dsimp only at e hI hG hsz hlog
 subst e
 have hI : Imgs 1 M1 [⟨r, [((5 : Int), pg)], 1, upd (fun _ => zeros16) 5 b1⟩] := hI
 refine ⟨M1, r, pg, hW, hI, hlog, ?_⟩
 have hi : ([⟨r, [((5 : Int), pg)], 1, upd (fun _ => zeros16) 5 b1⟩] : List IM)[0]? = some ⟨r, [((5 : Int), pg)], 1, upd (fun _ => zeros16) 5 b1⟩ := rfl
 obtain ⟨L, l1, l2, l3⟩ := imgs_pages hI (fun i => 2) (fun j hj hh t l => by
  obtain rfl := List.mem_singleton.1 hj
  dsimp only at t l ⊢
  have := (led_pages t l (show (1 : Nat) ≤ 240 by decide)).2.2
  omega)
 have hlive := liveN_list l1
 have hsm := sumE_list l1
 have l2' : L.length ≤ 3 := l2
 have l3' : entSum M1 L ≤ 3 := l3
 have hgr := gone_room (M := M1) (G := []) (by rw [hsz]; exact hG)
 rw [hsz] at hgr
 have hgr' : 16 ≤ M1.tidy.pool.freeCount + M1.liveN + 0 := hgr
 obtain ⟨e2, hI2⟩ := clear_one hI hi (show (1 : Nat) ≤ 239 by decide) (key := 5) (by decide) (by decide) (by omega) (fun q => by
  have : extL (([⟨r, [((5 : Int), pg)], 1, upd (fun _ => zeros16) 5 b1⟩] : List IM).map (·.root)) q ≤ 1 := List.count_le_length
  omega)
 obtain ⟨C, hC⟩ : ∃ C, M1.clear r [5] = C := ⟨_, rfl⟩
 have hC' : M1.clear (⟨r, [((5 : Int), pg)], 1, upd (fun _ => zeros16) 5 b1⟩ : IM).root [5] = C := hC
 rw [hC'] at e2 hI2
 obtain ⟨M2, next, es⟩ := C
 dsimp only at e2 hI2
 subst e2
 have hcut : cutL [((5 : Int), pg)] 5 = [] := by unfold cutL; simp
 have hI3 : Imgs 1 M2 [⟨next, [], 1, wipe (upd (fun _ => zeros16) 5 b1) 5⟩] := by
  have := hI2
  rw [hcut] at this
  exact this
 have hn := (hI3.img _ (List.mem_singleton.2 rfl)).tree.nil
 dsimp only at hn
 subst hn
 exact ⟨M2, hC, hI3⟩
theorem alive_bytes : imgBytes (wipe (upd (fun _ => zeros16) 5 b1) 5) = imgBytes (fun _ => zeros16) := by
 unfold imgBytes
 rw [blocksOf_congr (fun k _ => ?_)]
 unfold wipe upd
 split <;> rfl

structure OwnStore (w : World) (A : SA) (M : SM) (wr : World) : Prop where
 store : StoreAt wr A M
 kept : Kept (fun _ => False) w wr
 new : ∀ k, A.own k → w.heap.size ≤ k
theorem OwnStore.fresh {w wr w' : World} {A : SA} {M : SM} (h : OwnStore w A M wr) (k : Kept (fun _ => False) wr w') : OwnStore w A M w' := ⟨h.store.fresh k, h.kept.trans k, h.new⟩
theorem OwnStore.to {w wr w' : World} {A A' : SA} {M M' : SM} (h : OwnStore w A M wr) (k : StoreTo A A' M' wr w') : OwnStore w A' M' w' := by
 refine ⟨k.store, h.kept.trans_new k.kept (fun i hi e => by have := h.new _ (.inl e); omega), fun j hj => ?_⟩
 have hsz := h.kept.size
 rcases hj with hj | hj | hj
 ·rcases k.foot j hj with e | e
  ·exact h.new _ (.inl e)
  ·omega
 ·rw [k.fix.2] at hj; exact h.new _ (.inr (.inl hj))
 ·rw [k.fix.1] at hj; exact h.new _ (.inr (.inr hj))

structure ImVar (wr : World) (A : SA) (b sb : Nat) : Prop where
 heap : wr.heap[b]? = some (.cells #[.pointer (some ⟨sb, 0, none⟩)] 32 (0, 0))
 safe : Safe wr A b
 eq : A.sb = sb
theorem ImVar.fresh {wr w' : World} {A : SA} {b sb : Nat} (h : ImVar wr A b sb) (k : Kept (fun _ => False) wr w') : ImVar w' A b sb := ⟨k.get h.heap id, h.safe.fresh k, h.eq⟩
theorem ImVar.to {wr w' : World} {A A' : SA} {M' : SM} {b sb : Nat} (h : ImVar wr A b sb) (k : StoreTo A A' M' wr w') : ImVar w' A' b sb := ⟨k.get h.heap h.safe, h.safe.to k, k.sb.trans h.eq⟩
theorem ImVar.load {wr : World} {A : SA} {b sb : Nat} (h : ImVar wr A b sb) : ∀ j v, [Value.pointer (some ⟨sb, 0, none⟩)][j]? = some v → wr.cell? ⟨b, 0 + j, none⟩ = some v := ptr_load h.heap
theorem ImVar.c0 {wr : World} {A : SA} {b sb : Nat} (h : ImVar wr A b sb) : wr.cell? ⟨b, 0, none⟩ = some (.pointer (some ⟨sb, 0, none⟩)) := h.load 0 _ rfl
theorem ImVar.made {w wr : World} {A : SA} {M : SM} (h : OwnStore w A M wr) {b : Nat} (hb : wr.heap.size = b) :
  OwnStore w A M ((wr.alloc (.cells #[.pointer none] 32)).setRow b #[.pointer (some ⟨A.sb, 0, none⟩)]) ∧ ImVar ((wr.alloc (.cells #[.pointer none] 32)).setRow b #[.pointer (some ⟨A.sb, 0, none⟩)]) A b A.sb := by
 have k : Kept (fun _ => False) wr ((wr.alloc (.cells #[.pointer none] 32)).setRow b #[.pointer (some ⟨A.sb, 0, none⟩)]) := ((Kept.refl _ _).alloc _).setRowNew (by omega) _
 refine ⟨h.fresh k, ⟨by rw [← hb]; exact setRow_heap _ _ _ _ _ _ (heap_alloc_new _ _), Safe.new h.store (by omega) (by simp [World.setRow]; omega), rfl⟩⟩
structure BlkBox (wr : World) (A : SA) (b : Nat) (C : List Value) : Prop where
 heap : wr.heap[b]? = some (.cells C.toArray 35 (0, 0))
 safe : Safe wr A b
theorem BlkBox.fresh {wr w' : World} {A : SA} {b : Nat} {C : List Value} (h : BlkBox wr A b C) (k : Kept (fun _ => False) wr w') : BlkBox w' A b C := ⟨k.get h.heap id, h.safe.fresh k⟩
theorem BlkBox.to {wr w' : World} {A A' : SA} {M' : SM} {b : Nat} {C : List Value} (h : BlkBox wr A b C) (k : StoreTo A A' M' wr w') : BlkBox w' A' b C := ⟨k.get h.heap h.safe, h.safe.to k⟩
theorem BlkBox.load {wr : World} {A : SA} {b : Nat} {C : List Value} (h : BlkBox wr A b C) : ∀ j v, C[j]? = some v → wr.cell? ⟨b, 0 + j, none⟩ = some v := fun j v hj => by rw [Nat.zero_add, cell_of_heap h.heap]; simpa using hj
set_option maxHeartbeats 8000000 in
theorem imageAlive (w : World) : Calls Tryz.prog 16 #[] w fun e w' => e = .returned (.bool true) ∧ Kept (fun _ => False) w w' := by
 obtain ⟨M1, r, pg, hW, hI1, hlog1, M2, hC, hI2⟩ := alive13
 have hm := fun w => made13 20 (by decide) (by decide) w
 rw [show (min (20 : Int) 244 - 4).toNat = 16 from by decide] at hm
 have hm' := h_ hm
 have hW' := h_ hW
 have hC' := h_ hC
 have hI1' := h_ hI1
 have hI2' := h_ hI2
 have hlog1' := h_ hlog1
 obtain ⟨Z, hZ⟩ : ∃ Z, blockCells zeros16 = Z := ⟨_, rfl⟩
 have hZb : Hid (byteCells zeros16 = Z) := h_ (by rw [← hZ, blockCells_eq _ rfl])
 have hZz : Hid ((Tryz.prog.info? 35).map (·.zero) = some (some (.agg Z.toArray))) := h_ (by rw [← hZb.out]; exact block_zero)
 have hZl : Hid (Z.length = 16) := h_ (by rw [← hZ]; rfl)
 have hZ1 : Hid (∀ v ∈ Z, v.oneCell' = true) := h_ (by rw [← hZ]; exact blockCells_one _)
 have hbz : Hid (∀ w, (Instr.build 35 #[]).run Tryz.prog w = .ok (.agg Z.toArray) w) := h_ (fun w => by rw [← hZb.out]; exact run_build_block w)
 obtain ⟨C, hCe⟩ : ∃ C, blockCells b1 = C := ⟨_, rfl⟩
 have hCb : Hid (byteCells b1 = C) := h_ (by rw [← hCe, blockCells_eq _ b1_len])
 have hCl : Hid (C.length = 16) := h_ (by rw [← hCe]; rfl)
 have hC1 : Hid (∀ v ∈ C, v.oneCell' = true) := h_ (by rw [← hCe]; exact blockCells_one _)
 have hbc : Hid (∀ w, (Instr.build 35 #[(0, .int .u8 1)]).run Tryz.prog w = .ok (.agg C.toArray) w) := h_ (fun w => by rw [← hCe]; exact run_build _ _ _ _ (by kernel_rfl))
 have hqC : Hid (∀ (o : Oper) (a : Act) (w : World) (x y : Operand) (u : TypeId), o.op = .binOp .eql 35 x y u → a.eval x = .agg C.toArray → a.eval y = .agg C.toArray → (execOp a.eval o).run Tryz.prog w = .ok (.value (.bool true)) w) := h_ (fun o a w x y u ho hx hy => by
  have := exec_blk_eql (w := w) x y ho b1_len b1_len (by rw [hCe]; exact hx) (by rw [hCe]; exact hy)
  rw [decide_eq_true rfl] at this
  exact this)
 have hqZ : Hid (∀ (o : Oper) (a : Act) (w : World) (x y : Operand) (u : TypeId), o.op = .binOp .eql 35 x y u → a.eval x = .agg Z.toArray → a.eval y = .agg Z.toArray → (execOp a.eval o).run Tryz.prog w = .ok (.value (.bool true)) w) := h_ (fun o a w x y u ho hx hy => by
  have := exec_blk_eql (w := w) x y ho (l := zeros16) (m := zeros16) rfl rfl (by rw [hZ]; exact hx) (by rw [hZ]; exact hy)
  rw [decide_eq_true rfl] at this
  exact this)
 obtain ⟨I, hIe⟩ : ∃ I, (imgCells fun _ => zeros16) = I := ⟨_, rfl⟩
 have hbi : Hid (∀ w, (Instr.build 37 #[]).run Tryz.prog w = .ok (.agg I.toArray) w) := h_ (fun w => by rw [← hIe, zero_cells]; exact run_build_img w)
 obtain ⟨S, hS⟩ : ∃ S, crcOf (imgBytes fun _ => zeros16) = S := ⟨_, rfl⟩
 have hRs : Hid (∀ w, Calls Tryz.prog 23 #[.agg I.toArray] w fun e w' => e = .returned (.int .u32 S) ∧ Kept (fun _ => False) w w') := h_ (fun w => by rw [← hIe, ← hS]; exact ref13Sum Bytes.zero)
 have hS' := h_ hS
 have hCe' := h_ hCe
 clear hm hW hC hI1 hI2 hlog1 hZ hCe hIe hS
 go_enter Tryz.func16, Tryz.ntmps16
 go_wp2_with fail
 refine (hm'.out _).mono ?_
 rintro e w1 ⟨A, rfl, hA, hk, hn⟩
 obtain ⟨b, hbb⟩ : ∃ b, w1.heap.size = b := ⟨_, rfl⟩
 have hO := ImVar.made (b := b) ⟨hA, hk, hn⟩ hbb
 obtain ⟨w2, hw2⟩ : ∃ w2, (w1.alloc (.cells #[.pointer none] 32)).setRow b #[.pointer (some ⟨A.sb, 0, none⟩)] = w2 := ⟨_, rfl⟩
 rw [hw2] at hO
 obtain ⟨hO2, hV2⟩ := hO
 have O2 := h_ hO2
 have V2 := h_ hV2
 have hw2' := h_ hw2
 have hb' := h_ hbb
 obtain ⟨sb, hsb⟩ : ∃ sb, A.sb = sb := ⟨_, rfl⟩
 have hWr := imageWrite hO2.store (-1) 5 b1_len b1_lt (by show 0 + 100100 < 100000000; omega)
 rw [hW'.out, hsb, hCe'.out] at hWr
 dsimp only at hWr
 have hWr' := h_ hWr
 rw [hsb] at hw2' V2 ⊢
 have c20 := V2.out.c0
 have hld2 := h_ V2.out.load
 clear hA hk hn hw2 hbb hO2 hV2 hWr
 go_wp2_with (first | (refine wpList_alloc_as 32 rfl rfl #[.pointer none] images_zero ?_; rw [hb'.out]) | (refine wpList_store_whole 32 rfl rfl rfl [.pointer (some ⟨sb, 0, none⟩)] rfl images_size 32 #[.pointer none] (by rw [← hb'.out]; exact heap_alloc_new _ _) rfl (by intro c hc; simp at hc; subst hc; rfl) ?_; rw [hw2'.out]) | (refine wpList_load_agg 32 rfl rfl rfl _ Tryz.underlying32 rfl [.pointer (some ⟨sb, 0, none⟩)] (by kernel_rfl) hld2.out ?_) | (refine wpList_exec rfl (exec_build 35 #[(0, .const (.int .u8 1))] _ rfl (by simp [Act.eval]) (hbc.out _)) ?_))
 refine hWr'.out.mono ?_
 rintro e w3 ⟨A3, rfl, hT3⟩
 have O3 := h_ (O2.out.to hT3)
 have V3 := h_ (V2.out.to hT3)
 have hImg := hI1'.out.img _ (List.mem_singleton.2 rfl)
 have hBy : Bytes (upd (fun _ => zeros16) 5 b1) := Bytes.zero.upd 5 b1_len b1_lt
 have hR1 := imageRead O3.out.store r (by decide) (by decide) (hImg.tree.find hI1'.out.exact (show (1 : Nat) ≤ 240 by decide) 5) (img_pageOf hImg hI1'.out.exact hBy (key := 5) (by decide) (by decide))
 rw [V3.out.eq, show (IM.w ⟨r, [((5 : Int), pg)], 1, upd (fun _ => zeros16) 5 b1⟩ 5) = b1 from rfl, hCb.out] at hR1
 have hR1' := h_ hR1
 have hld3 := h_ V3.out.load
 clear hT3 hR1 c20 hImg hBy
 go_wp2_with (first | (refine wpList_load_agg 32 rfl rfl rfl _ Tryz.underlying32 rfl [.pointer (some ⟨sb, 0, none⟩)] (by kernel_rfl) hld3.out ?_))
 refine hR1'.out.mono ?_
 rintro e w4 ⟨rfl, hk4⟩
 have O4 := h_ (O3.out.fresh hk4)
 have V4 := h_ (V3.out.fresh hk4)
 obtain ⟨ab, hab⟩ : ∃ ab, w4.heap.size = ab := ⟨_, rfl⟩
 obtain ⟨w5, hw5⟩ : ∃ w5, (w4.alloc (.cells Z.toArray 35)).setRow ab C.toArray = w5 := ⟨_, rfl⟩
 have k5 : Kept (fun _ => False) w4 w5 := by rw [← hw5]; exact ((Kept.refl _ _).alloc _).setRowNew (by omega) _
 have q5 : w5.heap[ab]? = some (.cells C.toArray 35 (0, 0)) := by rw [← hw5, ← hab]; exact setRow_heap _ _ _ _ _ _ (heap_alloc_new _ _)
 have B5 : Hid (BlkBox w5 A3 ab C) := h_ ⟨q5, Safe.new O4.out.store (by omega) (lt_of_heap q5)⟩
 have O5 := h_ (O4.out.fresh k5)
 have V5 := h_ (V4.out.fresh k5)
 have hw5' := h_ hw5
 have hab' := h_ hab
 have hImg := hI1'.out.img _ (List.mem_singleton.2 rfl)
 have hBy : Bytes (upd (fun _ => zeros16) 5 b1) := Bytes.zero.upd 5 b1_len b1_lt
 have hR2 := imageRead O5.out.store r (by decide) (by decide) (hImg.tree.find hI1'.out.exact (show (1 : Nat) ≤ 240 by decide) 6) (img_pageOf hImg hI1'.out.exact hBy (key := 6) (by decide) (by decide))
 rw [V5.out.eq, show (IM.w ⟨r, [((5 : Int), pg)], 1, upd (fun _ => zeros16) 5 b1⟩ 6) = zeros16 from rfl, hZb.out] at hR2
 have hR2' := h_ hR2
 have hld5 := h_ V5.out.load
 clear hk4 k5 q5 hw5 hab hR2 hImg hBy
 go_wp2_with (first | (refine wpList_alloc_as 35 rfl rfl Z.toArray hZz.out ?_; rw [hab'.out]) | (refine wpList_store_whole 35 rfl rfl rfl C rfl (by rw [hCl.out]; exact block_size) 35 Z.toArray (by rw [← hab'.out]; exact heap_alloc_new _ _) (by simp [hZl.out, hCl.out]) hC1.out ?_; rw [hw5'.out]) | (refine wpList_load_agg 32 rfl rfl rfl _ Tryz.underlying32 rfl [.pointer (some ⟨sb, 0, none⟩)] (by kernel_rfl) hld5.out ?_))
 refine hR2'.out.mono ?_
 rintro e w6 ⟨rfl, hk6⟩
 have O6 := h_ (O5.out.fresh hk6)
 have V6 := h_ (V5.out.fresh hk6)
 have B6 := h_ (B5.out.fresh hk6)
 obtain ⟨zb, hzb⟩ : ∃ zb, w6.heap.size = zb := ⟨_, rfl⟩
 obtain ⟨w7, hw7⟩ : ∃ w7, (w6.alloc (.cells Z.toArray 35)).setRow zb Z.toArray = w7 := ⟨_, rfl⟩
 have k7 : Kept (fun _ => False) w6 w7 := by rw [← hw7]; exact ((Kept.refl _ _).alloc _).setRowNew (by omega) _
 have q7 : w7.heap[zb]? = some (.cells Z.toArray 35 (0, 0)) := by rw [← hw7, ← hzb]; exact setRow_heap _ _ _ _ _ _ (heap_alloc_new _ _)
 have Y7 : Hid (BlkBox w7 A3 zb Z) := h_ ⟨q7, Safe.new O6.out.store (by omega) (lt_of_heap q7)⟩
 have O7 := h_ (O6.out.fresh k7)
 have V7 := h_ (V6.out.fresh k7)
 have B7 := h_ (B6.out.fresh k7)
 have hw7' := h_ hw7
 have hzb' := h_ hzb
 have kx : Kept (fun _ => False) w7 (w7.alloc (.cells #[.int .i64 5] 3)) := (Kept.refl _ _).alloc _
 have hkeys : IntsOff (w7.alloc (.cells #[.int .i64 5] 3)) A3 (.slice (some ⟨w7.heap.size, 0, none⟩) 1 1) [5] := ⟨SliceAt.block_new (heap_alloc_new _ _) rfl (by decide), fun _ b hb => by
  simp [Value.ownBlock] at hb
  subst hb
  exact ⟨by simp, fun e => Nat.lt_irrefl _ (O7.out.store.lt (.inl e))⟩⟩
 have hCl7 := imageClear (O7.out.store.fresh kx) r hkeys (by simp) (by have := hlog1'.out; omega)
 rw [V7.out.eq, hC'.out] at hCl7
 dsimp only at hCl7
 have hCl7' := h_ hCl7
 have hld7 := h_ V7.out.load
 have kx' := h_ kx
 clear hk6 k7 q7 hw7 hzb kx hkeys hCl7
 go_wp2_with (first | (refine wpList_alloc_as 35 rfl rfl Z.toArray hZz.out ?_; rw [hzb'.out]) | (refine wpList_store_whole 35 rfl rfl rfl Z rfl (by rw [hZl.out]; exact block_size) 35 Z.toArray (by rw [← hzb'.out]; exact heap_alloc_new _ _) (by simp [hZl.out, hZl.out]) hZ1.out ?_; rw [hw7'.out]) | (refine wpList_load_agg 32 rfl rfl rfl _ Tryz.underlying32 rfl [.pointer (some ⟨sb, 0, none⟩)] (by kernel_rfl) hld7.out ?_))
 refine hCl7'.out.mono ?_
 rintro e w8 ⟨A8, rfl, hT8⟩
 have O8 := h_ ((O7.out.fresh kx'.out).to hT8)
 have V8 := h_ ((V7.out.fresh kx'.out).to hT8)
 have B8 := h_ ((B7.out.fresh kx'.out).to hT8)
 have Y8 := h_ ((Y7.out.fresh kx'.out).to hT8)
 have hSm := imageSum O8.out.store (hI2'.out.img _ (List.mem_singleton.2 rfl)) hI2'.out.exact (show (1 : Nat) ≤ 240 by decide) ((Bytes.zero.upd 5 b1_len b1_lt).wipe 5)
 rw [V8.out.eq, show imgBytes (IM.w ⟨-1, [], 1, wipe (upd (fun _ => zeros16) 5 b1) 5⟩) = imgBytes (fun _ => zeros16) from alive_bytes, hS'.out] at hSm
 have hSm' := h_ hSm
 have hld8 := h_ V8.out.load
 clear hT8 hSm
 go_wp2_with (first | (refine wpList_load_agg 32 rfl rfl rfl _ Tryz.underlying32 rfl [.pointer (some ⟨sb, 0, none⟩)] (by kernel_rfl) hld8.out ?_))
 refine hSm'.out.mono ?_
 rintro e w9 ⟨rfl, hk9⟩
 have O9 := h_ (O8.out.fresh hk9)
 have hlB := h_ (B8.out.fresh hk9).load
 have hlY := h_ (Y8.out.fresh hk9).load
 clear hk9
 go_wp2_with (first | (refine wpList_exec_g (by rfl) (exec_load_agg (g := ab) (off := 0) rfl rfl C Tryz.underlying35 rfl (by rw [hCl.out]; exact block_size) hlB.out) ?_) | (refine wpList_exec_g (by rfl) (exec_load_agg (g := zb) (off := 0) rfl rfl Z Tryz.underlying35 rfl (by rw [hZl.out]; exact block_size) hlY.out) ?_) | (refine wpList_exec_g (by rfl) (exec_build 35 #[(0, .const (.int .u8 1))] _ rfl (by simp [Act.eval]) (hbc.out _)) ?_) | (refine wpList_exec_g (by rfl) (exec_build 35 #[] _ rfl (by simp [Act.eval]) (hbz.out _)) ?_) | (refine wpList_exec_g (by rfl) (hqC.out _ _ _ (.tmp 68) (.tmp 69) 35 rfl (by rfl) (by rfl)) ?_) | (refine wpList_exec_g (by rfl) (hqZ.out _ _ _ (.tmp 73) (.tmp 74) 35 rfl (by rfl) (by rfl)) ?_) | (refine wpList_exec_g (by rfl) (exec_build 37 #[] _ rfl (by simp [Act.eval]) (hbi.out _)) ?_))
 refine (hRs.out _).mono ?_
 rintro e w10 ⟨rfl, hk10⟩
 have kk : Hid (Kept (fun _ => False) w w10) := h_ (O9.out.fresh hk10).kept
 clear hk10
 go_wp2_with fail
 go_ret
 exact ⟨rfl, kk.out⟩

theorem ref13There (k : Int) (w : World) : Calls Tryz.prog 18 #[.int .i64 k] w fun e w' => e = .returned (.bool (decide (0 ≤ k ∧ k < 64))) ∧ w = w' := by
 by_cases h0 : 0 ≤ k
 ·have hb0 : decide (0 ≤ k) = true := decide_eq_true h0
  by_cases h1 : k < 64
  ·have hb1 : decide (k < 64) = true := decide_eq_true h1
   rw [decide_eq_true (show 0 ≤ k ∧ k < 64 from ⟨h0, h1⟩)]
   clear h0 h1
   go_enter Tryz.func18, Tryz.ntmps18
   go_wp2_with fail
   go_ret
   exact ⟨rfl, rfl⟩
  ·have hb1 : decide (k < 64) = false := decide_eq_false h1
   rw [decide_eq_false (show ¬ (0 ≤ k ∧ k < 64) from fun h => h1 h.2)]
   clear h0 h1
   go_enter Tryz.func18, Tryz.ntmps18
   go_wp2_with fail
   go_ret
   exact ⟨rfl, rfl⟩
 ·have hb0 : decide (0 ≤ k) = false := decide_eq_false h0
  rw [decide_eq_false (show ¬ (0 ≤ k ∧ k < 64) from fun h => h0 h.1)]
  clear h0
  go_enter Tryz.func18, Tryz.ntmps18
  go_wp2_with fail
  go_ret
  exact ⟨rfl, rfl⟩
theorem img_zero : (Tryz.prog.info? 37).map (·.zero) = some (some (.agg (List.replicate 1024 (Value.int .u8 0)).toArray)) := by kernel_rfl
set_option maxHeartbeats 4000000 in
theorem ref13Write {w : World} {f : Int → List Nat} (hB : Bytes f) {k : Nat} (hk : k < 64) {b : List Nat} (hb : b.length = 16) :
  Calls Tryz.prog 20 #[.agg (imgCells f).toArray, .int .i64 (k : Int), .agg (blockCells b).toArray] w fun e w' => e = .returned (.agg (imgCells (upd f (k : Int) b)).toArray) ∧ Kept (fun _ => False) w w' := by
 obtain ⟨I, hI⟩ : ∃ I, imgCells f = I := ⟨_, rfl⟩
 obtain ⟨J, hJ⟩ : ∃ J, imgCells (upd f (k : Int) b) = J := ⟨_, rfl⟩
 obtain ⟨C, hC⟩ : ∃ C, blockCells b = C := ⟨_, rfl⟩
 obtain ⟨Z, hZ⟩ : ∃ Z, List.replicate 1024 (Value.int .u8 0) = Z := ⟨_, rfl⟩
 have hIl : Hid (I.length = 1024) := h_ (by rw [← hI]; exact imgCells_len hB)
 have hI1 : Hid (∀ v ∈ I, v.oneCell' = true) := h_ (by rw [← hI]; exact byteCells_one _)
 have hCl : Hid (C.length = 16) := h_ (by rw [← hC]; exact blockCells_len _)
 have hC1 : Hid (∀ v ∈ C, v.oneCell' = true) := h_ (by rw [← hC]; exact blockCells_one _)
 have hZl : Hid (Z.length = 1024) := h_ (by rw [← hZ]; exact List.length_replicate)
 have hZz : Hid ((Tryz.prog.info? 37).map (·.zero) = some (some (.agg Z.toArray))) := h_ (by rw [← hZ]; exact img_zero)
 have hJe : J = I.take (k * 16) ++ (C ++ I.drop (k * 16 + 16)) := by rw [← hJ, imgCells_upd hB hk hb, hI, ← blockCells_eq b hb, hC, List.append_assoc]
 have hJl : Hid (J.length = 1024) := h_ (by rw [hJe, List.length_append, List.length_append, List.length_take, List.length_drop, hIl.out, hCl.out]; omega)
 have hJ1 : Hid (∀ v ∈ J, v.oneCell' = true) := h_ (by rw [← hJ]; exact byteCells_one _)
 rw [hI, hJ, hC]
 obtain ⟨mb, hmb⟩ : ∃ mb, w.heap.size = mb := ⟨_, rfl⟩
 obtain ⟨w1, hw1⟩ : ∃ w1, w.alloc (.cells I.toArray 37) = w1 := ⟨_, rfl⟩
 obtain ⟨bb, hbb⟩ : ∃ bb, w1.heap.size = bb := ⟨_, rfl⟩
 obtain ⟨w2, hw2⟩ : ∃ w2, w1.alloc (.cells C.toArray 35) = w2 := ⟨_, rfl⟩
 obtain ⟨rb, hrb⟩ : ∃ rb, w2.heap.size = rb := ⟨_, rfl⟩
 obtain ⟨w3, hw3⟩ : ∃ w3, w2.alloc (.cells Z.toArray 37) = w3 := ⟨_, rfl⟩
 have k1 : Kept (fun _ => False) w w1 := by rw [← hw1]; exact (Kept.refl _ _).alloc _
 have k12 : Kept (fun _ => False) w1 w2 := by rw [← hw2]; exact (Kept.refl _ _).alloc _
 have k23 : Kept (fun _ => False) w2 w3 := by rw [← hw3]; exact (Kept.refl _ _).alloc _
 have q1 : w3.heap[mb]? = some (.cells I.toArray 37 (0, 0)) := (k12.trans k23).get (by rw [← hw1, ← hmb]; exact heap_alloc_new _ _) id
 have q2 : w3.heap[bb]? = some (.cells C.toArray 35 (0, 0)) := k23.get (by rw [← hw2, ← hbb]; exact heap_alloc_new _ _) id
 have q3 : w3.heap[rb]? = some (.cells Z.toArray 37 (0, 0)) := by rw [← hw3, ← hrb]; exact heap_alloc_new _ _
 obtain ⟨w4, hw4⟩ : ∃ w4, w3.setRow mb (I.take (k * 16) ++ (C ++ I.drop (k * 16 + 16))).toArray = w4 := ⟨_, rfl⟩
 have hs1 := k1.size
 have hs2 := k12.size
 have hl1 : mb < w1.heap.size := by rw [← hw1]; simp; omega
 have hl2 : bb < w2.heap.size := by rw [← hw2]; simp; omega
 have k34 : Kept (fun j => j = mb) w3 w4 := by rw [← hw4]; exact Kept.setRow (S := fun j => j = mb) (Kept.refl _ _) rfl _
 have q4 : w4.heap[mb]? = some (.cells J.toArray 37 (0, 0)) := by rw [← hw4, hJe]; exact setRow_heap _ _ _ _ _ _ q1
 have q5 := h_ (k34.get q3 (show rb ≠ mb by omega))
 have k4 : Hid (Kept (fun _ => False) w w4) := h_ (((k1.trans k12).trans k23).trans_new k34 (fun i hi e => by omega))
 have hlb : Hid (∀ j v, C[j]? = some v → w3.cell? ⟨bb, 0 + j, none⟩ = some v) := h_ (fun j v hj => by rw [Nat.zero_add, cell_of_heap q2]; simpa using hj)
 have hlm : Hid (∀ j v, J[j]? = some v → w4.cell? ⟨mb, 0 + j, none⟩ = some v) := h_ (fun j v hj => by rw [Nat.zero_add, cell_of_heap q4]; simpa using hj)
 have hrbw : Hid (w.heap.size ≤ rb) := h_ (by omega)
 have q1' := h_ q1
 have hw1' := h_ hw1
 have hw2' := h_ hw2
 have hw3' := h_ hw3
 have hw4' := h_ hw4
 have hmb' := h_ hmb
 have hbb' := h_ hbb
 have hrb' := h_ hrb
 have hki : (k : Int) < 64 := by omega
 clear hw1 hw2 hw3 hw4 hmb hbb hrb k1 k12 k23 q1 q2 q3 q4 k34 hs1 hs2 hl1 hl2 hI hJ hC hZ hJe hB hb
 go_enter Tryz.func20, Tryz.ntmps20
 go_wp2_with (first | (refine wpList_box_named 37 rfl rfl _ rfl hw1'.out ?_; rw [hmb'.out]) | (refine wpList_box_named 35 rfl rfl _ rfl hw2'.out ?_; rw [hbb'.out]) | (refine wpList_alloc_as 37 rfl rfl Z.toArray hZz.out ?_; rw [hw3'.out, hrb'.out]) | (refine wpList_load_agg 35 rfl rfl rfl _ Tryz.underlying35 rfl C (by rw [hCl.out]; exact block_size) hlb.out ?_) | (refine wpList_store_agg 35 rfl rfl (g := mb) (off := k * 16) (by rfl) C rfl (by rw [hCl.out]; exact block_size) 37 I.toArray q1'.out (by simp [hIl.out, hCl.out]; omega) hC1.out ?_; rw [hCl.out]; simp only [List.append_assoc]; rw [hw4'.out]) | (refine wpList_load_agg 37 rfl rfl rfl _ Tryz.underlying37 rfl J (by rw [hJl.out]; exact img_size) hlm.out ?_) | (refine wpList_store_whole 37 rfl rfl rfl J rfl (by rw [hJl.out]; exact img_size) 37 Z.toArray q5.out (by simp [hZl.out, hJl.out]) hJ1.out ?_))
 refine bodyPost_ret (results_row1 rfl _ _ rb 37 J.toArray (0, 0) _ rfl (setRow_heap _ _ _ _ 37 (0, 0) q5.out) Tryz.underlying37 rfl (by simp only [List.size_toArray]; rw [hJl.out]; exact img_size)) rfl ?_
 exact ⟨rfl, k4.out.setRowNew hrbw.out _⟩
theorem ints_at {w : World} {Av : Option Addr} {n cap : Nat} {l : List Int} (h : SliceAt w (.slice Av n cap) 1 l.length (l.map (Value.int .i64))) {i : Nat} {x : Int} (hx : l[i]? = some x) :
  ∃ b off, Av = some ⟨b, off, none⟩ ∧ b < w.heap.size ∧ w.cell? ⟨b, off + i, none⟩ = some (.int .i64 x) := by
 have hi : i < l.length := (List.getElem?_eq_some_iff.1 hx).1
 obtain ⟨_, A', cap', hv, h1, h2, h3⟩ := id h
 injection hv with e1 e2 e3
 subst e2
 obtain ⟨b, off, hA, hb, hc⟩ := SliceAt.elem h hi (by decide)
 refine ⟨b, off, hA, hb, ?_⟩
 have := hc 0 (.int .i64 x) (by decide) (by simp [hx])
 simpa using this
theorem row_ne_type {w : World} {base : Nat} {e : TypeId} {sz : Nat} {v : Value} {n : Nat} {xs : List Value} (h : w.ownsRow base e sz v n xs) {b : Nat} {c : Array Value} {t : TypeId} {f : Nat × Nat} (hb : w.heap[b]? = some (.cells c t f)) (hne : t ≠ e) : v.ownBlock ≠ some b := by
 intro hv
 rcases h.2 with ⟨rfl, _⟩ | ⟨g, cap, cur, rfl, _, hg, _⟩
 ·simp [Value.ownBlock] at hv
 ·simp [Value.ownBlock] at hv
  subst hv
  rw [hb] at hg
  cases hg
  exact hne rfl
theorem row_ne_row {w : World} {base base' : Nat} {e e' : TypeId} {sz sz' : Nat} {v v' : Value} {n n' : Nat} {xs xs' : List Value} (h : w.ownsRow base e sz v n xs) (h' : w.ownsRow base' e' sz' v' n' xs') (hne : e ≠ e') {b : Nat} (hb : v.ownBlock = some b) : v'.ownBlock ≠ some b := by
 rcases h.2 with ⟨rfl, _⟩ | ⟨g, cap, cur, rfl, _, hg, _⟩
 ·simp [Value.ownBlock] at hb
 ·simp [Value.ownBlock] at hb
  subst hb
  exact row_ne_type h' hg hne

structure ClSt (w : World) (mb rb : Nat) (f : Int → List Nat) (wr : World) : Prop where
 box : wr.heap[mb]? = some (.cells (imgCells f).toArray 37 (0, 0))
 res : wr.heap[rb]? = some (.cells (List.replicate 1024 (Value.int .u8 0)).toArray 37 (0, 0))
 kept : Kept (fun _ => False) w wr
theorem wipes_bytes {f : Int → List Nat} (h : Bytes f) : ∀ ks : List Int, Bytes (ks.foldl wipe f)
 | [] => h
 | k :: ks => wipes_bytes (Bytes.wipe h k) ks
theorem wipes_take (f : Int → List Nat) {ks : List Int} {k : Nat} {x : Int} (h : ks[k]? = some x) : (ks.take (k + 1)).foldl wipe f = wipe ((ks.take k).foldl wipe f) x := by
 obtain ⟨hk, rfl⟩ := List.getElem?_eq_some_iff.1 h
 rw [List.take_add_one, List.getElem?_eq_getElem hk, List.foldl_append]
 rfl
set_option maxHeartbeats 4000000 in
theorem ref13Clear {w : World} {f : Int → List Nat} (hB : Bytes f) {vk : Value} {ks : List Int} (hv : SliceAt w vk 1 ks.length (ks.map (Value.int .i64))) (hks : ∀ x ∈ ks, 0 ≤ x ∧ x ≤ 63) :
  Calls Tryz.prog 92 #[.agg (imgCells f).toArray, vk] w fun e w' => e = .returned (.agg (imgCells (ks.foldl wipe f)).toArray) ∧ Kept (fun _ => False) w w' := by
 obtain ⟨_, Av, cv, rfl, hv1, hv2, _⟩ := id hv
 unfold maxLen at hv2
 obtain ⟨I, hI⟩ : ∃ I, imgCells f = I := ⟨_, rfl⟩
 obtain ⟨Z, hZ⟩ : ∃ Z, List.replicate 1024 (Value.int .u8 0) = Z := ⟨_, rfl⟩
 obtain ⟨C, hC⟩ : ∃ C, byteCells zeros16 = C := ⟨_, rfl⟩
 have hbC : Hid (∀ w, (Instr.build 35 #[]).run Tryz.prog w = .ok (.agg C.toArray) w) := h_ (fun w => by rw [← hC]; exact run_build_block w)
 have hCl : Hid (C.length = 16) := h_ (by rw [← hC]; rfl)
 have hC1 : Hid (∀ v ∈ C, v.oneCell' = true) := h_ (by rw [← hC]; exact byteCells_one _)
 have hZl : Hid (Z.length = 1024) := h_ (by rw [← hZ]; exact List.length_replicate)
 have hZz : Hid ((Tryz.prog.info? 37).map (·.zero) = some (some (.agg Z.toArray))) := h_ (by rw [← hZ]; exact img_zero)
 obtain ⟨mb, hmb⟩ : ∃ mb, w.heap.size = mb := ⟨_, rfl⟩
 obtain ⟨w1, hw1⟩ : ∃ w1, w.alloc (.cells I.toArray 37) = w1 := ⟨_, rfl⟩
 obtain ⟨rb, hrb⟩ : ∃ rb, w1.heap.size = rb := ⟨_, rfl⟩
 obtain ⟨w2, hw2⟩ : ∃ w2, w1.alloc (.cells Z.toArray 37) = w2 := ⟨_, rfl⟩
 have k1 : Kept (fun _ => False) w w1 := by rw [← hw1]; exact (Kept.refl _ _).alloc _
 have k2 : Kept (fun _ => False) w1 w2 := by rw [← hw2]; exact (Kept.refl _ _).alloc _
 have q1 : w1.heap[mb]? = some (.cells I.toArray 37 (0, 0)) := by rw [← hw1, ← hmb]; exact heap_alloc_new _ _
 have q2 : w2.heap[rb]? = some (.cells Z.toArray 37 (0, 0)) := by rw [← hw2, ← hrb]; exact heap_alloc_new _ _
 have S0 : Hid (ClSt w mb rb f w2) := h_ ⟨by rw [hI]; exact k2.get q1 id, by rw [hZ]; exact q2, k1.trans k2⟩
 have hlt : Hid (w.heap.size ≤ mb ∧ mb < rb) := h_ ⟨by omega, by have := lt_of_heap q1; omega⟩
 have hw1' := h_ hw1
 have hw2' := h_ hw2
 have hmb' := h_ hmb
 have hrb' := h_ hrb
 have hv' := h_ hv
 have hI' := h_ hI
 have hZ' := h_ hZ
 have hC' := h_ hC
 have hks' := h_ hks
 have hB' := h_ hB
 rw [hI]
 clear hw1 hw2 hmb hrb k1 k2 q1 q2 hv hI hZ hC hks hB
 go_enter Tryz.func92, Tryz.ntmps92
 go_wp2_with (first | (refine wpList_box_named 37 rfl rfl _ rfl hw1'.out ?_; rw [hmb'.out]) | (refine wpList_alloc_as 37 rfl rfl Z.toArray hZz.out ?_; rw [hw2'.out, hrb'.out]))
 go_loopw [9] (fun i wr => ∃ (k : Nat), k ≤ ks.length ∧ i = .int .i64 k ∧ Hid (ClSt w mb rb ((ks.take k).foldl wipe f) wr)) (fun i _ => ks.length - (intOf i).toNat)
 case atStart => exact ⟨0, Nat.zero_le _, rfl, S0⟩
 case round =>
  obtain ⟨k, hk, rfl, hI⟩ := hrel
  by_cases hlt2 : k < ks.length
  ·obtain ⟨x, hx⟩ : ∃ x, ks[k]? = some x := ⟨_, List.getElem?_eq_getElem hlt2⟩
   obtain ⟨kb, ko, rfl, hkb, hkc⟩ := ints_at hv'.out hx
   have hkc' := hI.out.kept.cell hkc id
   have hx2 := hks'.out x (List.mem_of_getElem? hx)
   obtain ⟨n, rfl⟩ := Int.eq_ofNat_of_zero_le hx2.1
   have hn : n < 64 := by omega
   have hki : (k : Int) < (ks.length : Int) := by omega
   have hni : (n : Int) < 64 := by omega
   have hBk := wipes_bytes hB'.out (ks.take k)
   have hfin := wipes_take f hx
   obtain ⟨g, hg⟩ : ∃ g, (ks.take k).foldl wipe f = g := ⟨_, rfl⟩
   rw [hg] at hBk hfin
   have hS : Hid (ClSt w mb rb g wr) := h_ (by rw [← hg]; exact hI.out)
   obtain ⟨J, hJ⟩ : ∃ J, imgCells g = J := ⟨_, rfl⟩
   have hJl : Hid (J.length = 1024) := h_ (by rw [← hJ]; exact imgCells_len hBk)
   have qJ : Hid (wr.heap[mb]? = some (.cells J.toArray 37 (0, 0))) := h_ (by rw [← hJ]; exact hS.out.box)
   have hup : imgCells (wipe g (n : Int)) = J.take (n * 16) ++ (C ++ J.drop (n * 16 + 16)) := by
    show imgCells (upd g (n : Int) zeros16) = _
    rw [imgCells_upd hBk hn rfl, hJ, hC'.out, List.append_assoc]
   obtain ⟨w4, hw4⟩ : ∃ w4, wr.setRow mb (J.take (n * 16) ++ (C ++ J.drop (n * 16 + 16))).toArray = w4 := ⟨_, rfl⟩
   have k34 : Kept (fun j => j = mb) wr w4 := by rw [← hw4]; exact Kept.setRow (S := fun j => j = mb) (Kept.refl _ _) rfl _
   have hord := hlt.out
   have S4 : Hid (ClSt w mb rb ((ks.take (k + 1)).foldl wipe f) w4) := h_ ⟨by rw [hfin, hup, ← hw4]; exact setRow_heap _ _ _ _ _ _ qJ.out, k34.get hS.out.res (by omega), hS.out.kept.trans_new k34 (fun i hi e => by omega)⟩
   have hw4' := h_ hw4
   clear hI hx hkc hkb hBk hfin hg hJ hup hw4 k34 hS hord hx2 hn
   go_wp2_with (first | (refine wpList_exec rfl (exec_build 35 #[] _ rfl (by simp [Act.eval]) (hbC.out _)) ?_) | (refine wpList_store_agg 35 rfl rfl (g := mb) (off := n * 16) (by rfl) C rfl (by rw [hCl.out]; exact block_size) 37 J.toArray qJ.out (by simp [hJl.out, hCl.out]; omega) hC1.out ?_; rw [hCl.out]; simp only [List.append_assoc]; rw [hw4'.out]))
   go_roundw
   case rel => exact ⟨k + 1, by omega, by go_num, S4⟩
   case measure => simp [intOf]; omega
  ·have hkk : k = ks.length := by omega
   subst hkk
   have hki : ¬ ((ks.length : Int) < (ks.length : Int)) := by omega
   have hS := hI.out
   rw [List.take_length] at hS
   obtain ⟨g, hg⟩ : ∃ g, ks.foldl wipe f = g := ⟨_, rfl⟩
   have hBk := wipes_bytes hB'.out ks
   rw [hg] at hS hBk
   obtain ⟨J, hJ⟩ : ∃ J, imgCells g = J := ⟨_, rfl⟩
   have hJl : Hid (J.length = 1024) := h_ (by rw [← hJ]; exact imgCells_len hBk)
   have hgJ : Hid (imgCells (ks.foldl wipe f) = J) := h_ (by rw [hg, hJ])
   have hJ1 : Hid (∀ v ∈ J, v.oneCell' = true) := h_ (by rw [← hJ]; exact byteCells_one _)
   have hlm : Hid (∀ j v, J[j]? = some v → wr.cell? ⟨mb, 0 + j, none⟩ = some v) := h_ (fun j v hj => by rw [Nat.zero_add, cell_of_heap hS.box, hJ]; simpa using hj)
   have qZ : Hid (wr.heap[rb]? = some (.cells Z.toArray 37 (0, 0))) := h_ (by rw [← hZ'.out]; exact hS.res)
   have hk4 := h_ hS.kept
   clear hI hS hBk hg hJ
   go_wp2_with (first | (refine wpList_load_agg 37 rfl rfl rfl _ Tryz.underlying37 rfl J (by rw [hJl.out]; exact img_size) hlm.out ?_) | (refine wpList_store_whole 37 rfl rfl rfl J rfl (by rw [hJl.out]; exact img_size) 37 Z.toArray qZ.out (by simp [hZl.out, hJl.out]) hJ1.out ?_))
   refine bodyPost_ret (results_row1 rfl _ _ rb 37 J.toArray (0, 0) _ rfl (setRow_heap _ _ _ _ 37 (0, 0) qZ.out) Tryz.underlying37 rfl (by simp only [List.size_toArray]; rw [hJl.out]; exact img_size)) rfl ?_
   exact ⟨by rw [hgJ.out], hk4.out.setRowNew (by have := hlt.out; omega) _⟩
theorem exec_blk_neq {o : Oper} {a : Act} {w : World} {u : TypeId} (x y : Operand) (ho : o.op = .binOp .neq 35 x y u) {l m : List Nat} (hl : l.length = 16) (hm : m.length = 16) (hx : a.eval x = .agg (blockCells l).toArray) (hy : a.eval y = .agg (blockCells m).toArray) :
  (execOp a.eval o).run Tryz.prog w = .ok (.value (.bool (!decide (l = m)))) w := by
 rw [← blk_all hl hm]
 exact exec_neq_arr ho (fun i => ((l.getD i 0 : Nat) : Int)) (fun i => ((m.getD i 0 : Nat) : Int)) hx hy (by kernel_rfl) Tryz.underlying35 Tryz.underlying5 (by kernel_rfl)
set_option maxHeartbeats 4000000 in
theorem ref13Same {w : World} {f : Int → List Nat} (hB : Bytes f) {gb : Nat} (hg : w.heap[gb]? = some (.cells (imgCells f).toArray 35 (0, 0))) :
  Calls Tryz.prog 45 #[.slice (some ⟨gb, 0, none⟩) 64 64, .agg (imgCells f).toArray] w fun e w' => e = .returned (.bool true) ∧ Kept (fun _ => False) w w' := by
 obtain ⟨I, hI⟩ : ∃ I, imgCells f = I := ⟨_, rfl⟩
 have hIl : Hid (I.length = 1024) := h_ (by rw [← hI]; exact imgCells_len hB)
 have hgI : Hid (w.heap[gb]? = some (.cells I.toArray 35 (0, 0))) := h_ (by rw [← hI]; exact hg)
 obtain ⟨mb, hmb⟩ : ∃ mb, w.heap.size = mb := ⟨_, rfl⟩
 obtain ⟨w1, hw1⟩ : ∃ w1, w.alloc (.cells I.toArray 37) = w1 := ⟨_, rfl⟩
 have k1 : Kept (fun _ => False) w w1 := by rw [← hw1]; exact (Kept.refl _ _).alloc _
 have q1 := h_ (show w1.heap[mb]? = some (.cells I.toArray 37 (0, 0)) by rw [← hw1, ← hmb]; exact heap_alloc_new _ _)
 have q2 := h_ (k1.get hgI.out id)
 have k1' := h_ k1
 have hw1' := h_ hw1
 have hmb' := h_ hmb
 have hI' := h_ hI
 have hB' := h_ hB
 have hrow : Hid (∀ k : Nat, k < 64 → ∀ j v, (blockCells (f (k : Int)))[j]? = some v → I[k * 16 + j]? = some v) := h_ (fun k hk j v hj => by
  have hj16 : j < 16 := by
   have := (List.getElem?_eq_some_iff.1 hj).1
   rwa [blockCells_len] at this
  rw [← hI, imgCells_get hB hk hj16, ← blockCells_eq _ (hB.len _)]
  exact hj)
 rw [hI]
 clear hw1 hmb k1 hI hB hg
 go_enter Tryz.func45, Tryz.ntmps45
 go_wp2_with (first | (refine wpList_box_named 37 rfl rfl _ rfl hw1'.out ?_; rw [hmb'.out]))
 go_loopw [11] (fun i wr => ∃ (k : Nat), k ≤ 64 ∧ i = .int .i64 k ∧ Hid (Kept (fun _ => False) w1 wr)) (fun i _ => 64 - (intOf i).toNat)
 case atStart => exact ⟨0, by omega, rfl, h_ (Kept.refl _ _)⟩
 case round =>
  obtain ⟨k, hk, rfl, hK'⟩ := hrel
  by_cases hlt : k < 64
  ·have hki : (k : Int) < 64 := by omega
   obtain ⟨C, hC⟩ : ∃ C, blockCells (f (k : Int)) = C := ⟨_, rfl⟩
   have hCl : Hid (C.length = 16) := h_ (by rw [← hC]; exact blockCells_len _)
   have hr := hrow.out k hlt
   rw [hC] at hr
   have hr' := h_ hr
   have hix : Hid (∀ (o : Oper) (a : Act) (w : World), o.op = .indexAddr 37 (.tmp 3) (.tmp 18) → a.eval (.tmp 3) = .pointer (some ⟨mb, 0, none⟩) → a.eval (.tmp 18) = .int .i64 (k : Int) → (execOp a.eval o).run Tryz.prog w = .ok (.value (.pointer (some ⟨mb, 0 + k * 16, none⟩))) w) := h_ (fun o a w ho h7 h72 => by
    unfold execOp
    simp only [ho, h7, h72]
    go_simp)
   have hiy : Hid (∀ (o : Oper) (a : Act) (w : World), o.op = .indexAddr 73 (.tmp 14) (.tmp 15) → a.eval (.tmp 14) = .slice (some ⟨gb, 0, none⟩) 64 64 → a.eval (.tmp 15) = .int .i64 (k : Int) → (execOp a.eval o).run Tryz.prog w = .ok (.value (.pointer (some ⟨gb, 0 + k * 16, none⟩))) w) := h_ (fun o a w ho h7 h72 => by
    unfold execOp
    simp only [ho, h7, h72]
    go_simp)
   have hqC : Hid (∀ (o : Oper) (a : Act) (w : World) (x y : Operand) (u : TypeId), o.op = .binOp .neq 35 x y u → a.eval x = .agg C.toArray → a.eval y = .agg C.toArray → (execOp a.eval o).run Tryz.prog w = .ok (.value (.bool false)) w) := h_ (fun o a w x y u ho hx hy => by
    have := exec_blk_neq (w := w) x y ho (hB'.out.len (k : Int)) (hB'.out.len (k : Int)) (by rw [hC]; exact hx) (by rw [hC]; exact hy)
    rw [decide_eq_true rfl] at this
    exact this)
   clear hr hC
   go_wp2_with fail
   refine wp_region_quiet (C := fun w' => Kept (fun _ => False) wr w') (by kernel_rfl) (by kernel_rfl) (Kept.refl _ _).drew ?_
   simp only []
   refine wpQuiet_step (fun K hK => ?_); go_simp; refine ⟨_, fun _ _ => rfl, hK _ ?_⟩; clear hK K
   refine wpQuiet_step (fun K hK => ?_); go_simp; refine ⟨_, fun _ _ => rfl, hK _ ?_⟩; clear hK K
   refine wpQuiet_step (fun K hK => ?_); refine q_on rfl (q_val (.pointer (some ⟨gb, 0 + k * 16, none⟩)) (fun W hW => hiy.out _ _ W rfl (by rfl) (by rfl)) (hK _ ?_)); clear hK K
   refine wpQuiet_step (fun K hK => ?_); refine q_on rfl (q_val (.agg C.toArray) (fun W hW => exec_load_agg (g := gb) (off := 0 + k * 16) rfl (by rfl) C Tryz.underlying35 rfl (by rw [hCl.out]; exact block_size) (fun j v hj => by rw [Nat.zero_add, cell_of_heap ((hK'.out.trans hW).get q2.out id)]; simpa using hr'.out j v hj)) (hK _ ?_)); clear hK K
   refine wpQuiet_step (fun K hK => ?_); go_simp; refine ⟨_, fun _ _ => rfl, hK _ ?_⟩; clear hK K
   refine wpQuiet_step (fun K hK => ?_); refine q_on rfl (q_val (.pointer (some ⟨mb, 0 + k * 16, none⟩)) (fun W hW => hix.out _ _ W rfl (by rfl) (by rfl)) (hK _ ?_)); clear hK K
   refine wpQuiet_step (fun K hK => ?_); refine q_on rfl (q_val (.agg C.toArray) (fun W hW => exec_load_agg (g := mb) (off := 0 + k * 16) rfl (by rfl) C Tryz.underlying35 rfl (by rw [hCl.out]; exact block_size) (fun j v hj => by rw [Nat.zero_add, cell_of_heap ((hK'.out.trans hW).get q1.out id)]; simpa using hr'.out j v hj)) (hK _ ?_)); clear hK K
   refine wpQuiet_step (fun K hK => ?_); refine q_on rfl (q_val (.bool false) (fun W hW => hqC.out _ _ W (.tmp 17) (.tmp 20) _ rfl (by rfl) (by rfl)) (hK _ ?_)); clear hK K
   refine wpQuiet_nil ?_
   intro wq hwq
   have fin := h_ (hK'.out.trans hwq)
   clear hwq
   go_wp2_with fail
   go_roundw
   case rel => exact ⟨k + 1, by omega, by go_num, fin⟩
   case measure => simp [intOf]; omega
  ·obtain rfl : k = 64 := by omega
   go_wp2_with fail
   go_ret
   exact ⟨rfl, k1'.out.trans hK'.out⟩

structure ActI where
 kind : Int
 at_ : Int
 key : Int
 keys : List Int
 block : List Nat
def ActI.ok (a : ActI) : Prop := a.block.length = 16 ∧ ∀ b ∈ a.block, b < 256
def actICells (a : ActI) (kv : Value) : List Value := .int .i64 a.kind :: .int .i64 a.at_ :: .int .i64 a.key :: kv :: blockCells a.block
theorem actICells_len (a : ActI) (kv : Value) : (actICells a kv).length = 20 := by unfold actICells; simp [blockCells_len]
theorem actICells_one (a : ActI) (A : Option Addr) (n c : Nat) : ∀ v ∈ actICells a (.slice A n c), v.oneCell' = true := by
 intro v hv
 unfold actICells at hv
 simp only [List.mem_cons] at hv
 rcases hv with rfl | rfl | rfl | rfl | hv
 ·rfl
 ·rfl
 ·rfl
 ·rfl
 ·exact blockCells_one _ v hv
def ActsI (w : World) (v : Value) (l : List ActI) : Prop := ∃ A cap, v = .slice A l.length cap ∧ l.length ≤ cap ∧ cap ≤ maxLen ∧
  ∀ i x, l[i]? = some x → ∃ b off kA kn kc, A = some ⟨b, off, none⟩ ∧ b < w.heap.size ∧ x.ok ∧ (∀ j u, (actICells x (.slice kA kn kc))[j]? = some u → w.cell? ⟨b, off + i * 20 + j, none⟩ = some u) ∧ SliceAt w (.slice kA kn kc) 1 x.keys.length (x.keys.map (Value.int .i64))
theorem act_zero : (Tryz.prog.info? 40).map (·.zero) = some (some (.agg (actICells ⟨0, 0, 0, [], zeros16⟩ (.slice none 0 0)).toArray)) := by kernel_rfl
theorem act_size : (Tryz.prog.info? 40).map (·.size) = some 20 := by kernel_rfl
theorem act_box {wx : World} {xb : Nat} {a : ActI} {kv : Value} (q : wx.heap[xb]? = some (.cells (actICells a kv).toArray 40 (0, 0))) :
  wx.cell? ⟨xb, 0, none⟩ = some (.int .i64 a.kind) ∧ wx.cell? ⟨xb, 1, none⟩ = some (.int .i64 a.at_) ∧ wx.cell? ⟨xb, 2, none⟩ = some (.int .i64 a.key) ∧ wx.cell? ⟨xb, 3, none⟩ = some kv ∧ ∀ j u, (blockCells a.block)[j]? = some u → wx.cell? ⟨xb, 4 + j, none⟩ = some u := by
 refine ⟨by rw [cell_of_heap q]; rfl, by rw [cell_of_heap q]; rfl, by rw [cell_of_heap q]; rfl, by rw [cell_of_heap q]; rfl, fun j u hj => ?_⟩
 rw [cell_of_heap q]
 have : (actICells a kv)[4 + j]? = (blockCells a.block)[j]? := by
  unfold actICells
  rw [show 4 + j = j + 1 + 1 + 1 + 1 by omega]
  rfl
 simpa [this] using hj
end Go.Proofs.YtidlchciehdefaaGreat
/-
 ImageReads: the walk.
-/
namespace Go.Proofs.YtidlchciehdefaaGreat
open Go.RowKit
set_option maxRecDepth 100000

structure Apart (wr : World) (A : SA) (b : Nat) : Prop where
 lt : b < wr.heap.size
 off : ¬ A.own b
theorem own_to {A A' : SA} {M' : SM} {W w' : World} (k : StoreTo A A' M' W w') {j : Nat} (hj : A'.own j) : A.own j ∨ W.heap.size ≤ j := by
 rcases hj with hj | hj | hj
 ·exact (k.foot j hj).imp .inl id
 ·rw [k.fix.2] at hj; exact .inl (.inr (.inl hj))
 ·rw [k.fix.1] at hj; exact .inl (.inr (.inr hj))
theorem Apart.fresh {wr w' : World} {A : SA} {b : Nat} (h : Apart wr A b) (k : Kept (fun _ => False) wr w') : Apart w' A b := ⟨Nat.lt_of_lt_of_le h.lt k.size, h.off⟩
theorem Apart.to {wr w' : World} {A A' : SA} {M' : SM} {b : Nat} (h : Apart wr A b) (k : StoreTo A A' M' wr w') : Apart w' A' b := ⟨Nat.lt_of_lt_of_le h.lt k.kept.size, fun e => (own_to k e).elim h.off (fun e => by have := h.lt; omega)⟩
theorem Apart.safe {wr : World} {A : SA} {b : Nat} (h : Apart wr A b) : Safe wr A b := ⟨h.lt, fun e => h.off (.inl e)⟩
theorem Apart.new {wr w' : World} {A : SA} {M : SM} {b : Nat} (h : StoreAt wr A M) (hb : wr.heap.size ≤ b) (hl : b < w'.heap.size) : Apart w' A b := ⟨hl, fun e => absurd (h.lt e) (Nat.not_lt.2 hb)⟩
theorem Apart.kept {S : Nat → Prop} {wr w' : World} {A : SA} {b : Nat} (h : Apart wr A b) (k : Kept S wr w') : Apart w' A b := ⟨Nat.lt_of_lt_of_le h.lt k.size, h.off⟩
theorem OwnStore.apart {w wr w' : World} {A : SA} {M : SM} {b : Nat} (h : OwnStore w A M wr) (hb : Apart wr A b) (hn : w.heap.size ≤ b) (k : Kept (fun j => j = b) wr w') : OwnStore w A M w' :=
 ⟨h.store.kept k (fun i hi e => hb.off (e ▸ hi)), h.kept.trans_new k (fun i hi e => by omega), h.new⟩
theorem ImVar.kept {S : Nat → Prop} {wr w' : World} {A : SA} {b sb : Nat} (h : ImVar wr A b sb) (k : Kept S wr w') (hb : ¬ S b) : ImVar w' A b sb := ⟨k.get h.heap hb, ⟨Nat.lt_of_lt_of_le h.safe.lt k.size, h.safe.off⟩, h.eq⟩
structure ImgBox (wr : World) (A : SA) (b : Nat) (f : Int → List Nat) : Prop where
 heap : wr.heap[b]? = some (.cells (imgCells f).toArray 37 (0, 0))
 apart : Apart wr A b
theorem ImgBox.fresh {wr w' : World} {A : SA} {b : Nat} {f : Int → List Nat} (h : ImgBox wr A b f) (k : Kept (fun _ => False) wr w') : ImgBox w' A b f := ⟨k.get h.heap id, h.apart.fresh k⟩
theorem ImgBox.to {wr w' : World} {A A' : SA} {M' : SM} {b : Nat} {f : Int → List Nat} (h : ImgBox wr A b f) (k : StoreTo A A' M' wr w') : ImgBox w' A' b f := ⟨k.get h.heap h.apart.safe, h.apart.to k⟩
theorem ImgBox.load {wr : World} {A : SA} {b : Nat} {f : Int → List Nat} (h : ImgBox wr A b f) : ∀ j v, (imgCells f)[j]? = some v → wr.cell? ⟨b, 0 + j, none⟩ = some v := fun j v hj => by rw [Nat.zero_add, cell_of_heap h.heap]; simpa using hj
theorem ImgBox.row {wr : World} {A : SA} {b : Nat} {f : Int → List Nat} (h : ImgBox wr A b f) (hB : Bytes f) {k : Nat} (hk : k < 64) : ∀ j v, (blockCells (f (k : Int)))[j]? = some v → wr.cell? ⟨b, 0 + k * 16 + j, none⟩ = some v := fun j v hj => by
 have hj16 : j < 16 := by
  have := (List.getElem?_eq_some_iff.1 hj).1
  rwa [blockCells_len] at this
 rw [Nat.zero_add]
 refine (show _ = _ from ?_)
 rw [cell_of_heap h.heap]
 have := imgCells_get hB hk hj16
 rw [← blockCells_eq _ (hB.len _), hj] at this
 simpa using this
theorem ImgBox.set {wr : World} {A : SA} {b : Nat} {f g : Int → List Nat} (h : ImgBox wr A b f) : ImgBox (wr.setRow b (imgCells g).toArray) A b g := ⟨setRow_heap _ _ _ _ _ _ h.heap, h.apart.kept (Kept.setRow (S := fun j => j = b) (Kept.refl _ _) rfl _)⟩
theorem ref13There_bad {k : Int} (h : ¬ (0 ≤ k ∧ k < 64)) (w : World) : Calls Tryz.prog 18 #[.int .i64 k] w fun e w' => e = .returned (.bool false) ∧ w = w' := by
 have := ref13There k w
 rw [decide_eq_false h] at this
 exact this
theorem ref13There_ok {k : Int} (h : 0 ≤ k ∧ k < 64) (w : World) : Calls Tryz.prog 18 #[.int .i64 k] w fun e w' => e = .returned (.bool true) ∧ w = w' := by
 have := ref13There k w
 rw [decide_eq_true h] at this
 exact this
namespace imageReads
structure ReadSt (w1 : World) (b sb vb : Nat) (root : Int) (k : Nat) (wr : World) (A : SA) (M : SM) (i : IM) : Prop where
 own : OwnStore w1 A M wr
 iv : ImVar wr A b sb
 img : Imgs 1 M [i]
 gone : Gone M.pool.size [] M
 size : M.pool.size = 240
 bytes : Bytes i.w
 box : ImgBox wr A vb i.w
 root : i.root = root
 puts : i.P ≤ k
 log : M.log.length ≤ 23 * k
theorem ReadSt.fresh {w1 wr w' : World} {b sb vb : Nat} {root : Int} {k : Nat} {A : SA} {M : SM} {i : IM} (h : ReadSt w1 b sb vb root k wr A M i) (q : Kept (fun _ => False) wr w') : ReadSt w1 b sb vb root k w' A M i :=
 ⟨h.own.fresh q, h.iv.fresh q, h.img, h.gone, h.size, h.bytes, h.box.fresh q, h.root, h.puts, h.log⟩
theorem ReadSt.more {w1 wr : World} {b sb vb : Nat} {root : Int} {k : Nat} {A : SA} {M : SM} {i : IM} (h : ReadSt w1 b sb vb root k wr A M i) : ReadSt w1 b sb vb root (k + 1) wr A M i :=
 ⟨h.own, h.iv, h.img, h.gone, h.size, h.bytes, h.box, h.root, Nat.le_succ_of_le h.puts, by have := h.log; omega⟩
end imageReads
end Go.Proofs.YtidlchciehdefaaGreat
/-
 ImageRuns: the world's box, its roots and its wants.
-/
namespace Go.Proofs.YtidlchciehdefaaGreat
open Go.RowKit
set_option maxRecDepth 100000

section
variable {w : World} {t e ty : TypeId} {size bytes : Nat} {base : Nat} {v u : Value} {n m : Nat} {xs ys : List Value}
theorem run_append_big (E : Elem t e size bytes) (hown : w.ownsRow base e size v n xs) (hu : SliceAt w u size m ys) (h1 : ∀ c ∈ ys, c.oneCell' = true)
  (hnm : n + m ≤ 1000) (hby : bytes ≤ 1000000) (hbase : base ≤ w.heap.size) (hm : 0 < m) :
  ∃ v' w', (Builtin.append_ #[t, t] ty #[v, u]).run Tryz.prog w = .ok v' w' ∧ w'.ownsRow base e size v' (n + m) (xs ++ ys) ∧ w.grownBy w' v.ownBlock ∧ (v'.ownBlock = v.ownBlock ∨ v'.ownBlock = some w.heap.size) := by
 obtain ⟨i, z, hi, hz, hsz, hb2, hzs⟩ := E.info
 obtain ⟨hl, A, cap, hv, hc1, hc2, hcell⟩ := id hu
 subst hv
 cases A with
 | none =>
  obtain ⟨rfl, rfl⟩ := hu.nil_len E.pos
  omega
 | some ad =>
  have hcells : ∀ j c, ys[j]? = some c → w.cell? (ad.add j) = some c := by
   intro j c hj
   obtain ⟨b, off, hA, hh⟩ := hcell j c hj
   cases hA
   rw [addr_add]; exact hh
  obtain ⟨v', w', hrun, h2, h3, _, h5⟩ := run_append_own_at (P := Tryz.prog) w base t ty e i z size bytes E.ht hi hz hsz hb2 hzs E.pos v n xs hown ad m cap ys hl hcells h1 (by simp [maxLen]; omega)
   (Nat.le_trans (Nat.mul_le_mul hnm hby) (by omega)) hbase
  exact ⟨v', w', hrun, h2, h3, h5⟩
theorem step_append_big {ops : Array Oper} {o : Oper} {a : Act} {K : Act → World → Prop} {Q : Exit → Act → World → Prop} {X : Prop} (hgd : o.guard = none) (E : Elem t e size bytes) (s x : Operand)
  (ho : o.op = .call { callee := .builtin .append, args := #[s, x], argTypes := #[t, t] }) (hs : a.eval s = v) (hx : a.eval x = u)
  (hown : w.ownsRow base e size v n xs) (hu : SliceAt w u size m ys) (h1 : ∀ c ∈ ys, c.oneCell' = true) (hnm : n + m ≤ 1000) (hby : bytes ≤ 1000000) (hbase : base ≤ w.heap.size) (hm : 0 < m)
  (h : ∀ v' w', w'.ownsRow base e size v' (n + m) (xs ++ ys) → w.grownBy w' v.ownBlock → (v'.ownBlock = v.ownBlock ∨ v'.ownBlock = some w.heap.size) → K (a.put o.dst v') w') :
  if Region.wanted o (yielded ops a.tmps) = true then Oper.wp Tryz.prog o a w K Q else X := by
 rw [if_pos (by simp [Region.wanted, hgd])]
 obtain ⟨v', w', hr, h2, h3, h4⟩ := run_append_big (ty := o.type) E hown hu h1 hnm hby hbase hm
 unfold Oper.wp execOp
 simp only [ho, resolve, invoke, builtin, Sem.run_bind, Sem.run_pure, Result.andThen_ok, List.map_toArray, List.map_cons, List.map_nil, hs, hx, hr]
 exact h v' w' h2 h3 h4
theorem row_setAt {g cap k sz : Nat} (h : w.ownsRow base e sz (.slice (some ⟨g, 0, none⟩) n cap) n xs) (hk : k < n) {zs : List Value} (hz : zs.length = sz) :
  ∃ cur : List Value, w.heap[g]? = some (.cells cur.toArray e (0, 0)) ∧ k * sz + sz ≤ cur.length ∧
   ∀ w' : World, w'.heap[g]? = some (.cells (cur.take (k * sz) ++ (zs ++ cur.drop (k * sz + sz))).toArray e (0, 0)) → w'.ownsRow base e sz (.slice (some ⟨g, 0, none⟩) n cap) n (xs.take (k * sz) ++ (zs ++ xs.drop (k * sz + sz))) := by
 obtain ⟨hl, h2⟩ := h
 rcases h2 with ⟨e0, _⟩ | ⟨g', cap', cur, e0, hb, hg, hn, hm, hs, ht⟩
 ·cases e0
 ·cases e0
  have hle : k * sz + sz ≤ n * sz := by
   have := Nat.mul_le_mul_right sz (show k + 1 ≤ n by omega)
   rw [Nat.add_mul, Nat.one_mul] at this
   exact this
  have hle2 : n * sz ≤ cap * sz := Nat.mul_le_mul_right sz hn
  have hcl : cur.toList.length = cap * sz := by rw [Array.length_toList]; exact hs
  refine ⟨cur.toList, by rw [hg], by omega, fun w' hw' => ⟨?_, .inr ⟨g, cap, _, rfl, hb, hw', hn, hm, ?_, ?_⟩⟩⟩
  ·simp only [List.length_append, List.length_take, List.length_drop]; omega
  ·simp only [List.size_toArray, List.length_append, List.length_take, List.length_drop]; omega
  ·rw [← ht]
   refine List.ext_getElem? fun j => ?_
   rw [List.getElem?_take]
   simp only [List.getElem?_append, List.length_take, List.getElem?_take, List.getElem?_drop]
   have e1 : min (k * sz) cur.toList.length = k * sz := by omega
   have e2 : min (k * sz) (min (n * sz) cur.toList.length) = k * sz := by omega
   rw [e1, e2, hz]
   by_cases hj : j < k * sz
   ·have hj2 : j < n * sz := by omega
    simp [hj, hj2]
   ·by_cases hj2 : j - k * sz < sz
    ·have hj3 : j < n * sz := by omega
     simp [hj, hj2, hj3]
    ·by_cases hj3 : j < n * sz
     ·have : k * sz + sz + (j - k * sz - sz) < n * sz := by omega
      simp [hj, hj2, hj3, this]
     ·have : ¬ (k * sz + sz + (j - k * sz - sz) < n * sz) := by omega
      simp [hj, hj2, hj3, this]
end
theorem flats_set {α β : Type} {f : α → List β} {s : Nat} : ∀ {l : List α} {k : Nat} (_ : ∀ a ∈ l, (f a).length = s) (_ : k < l.length) (x : α), (l.flatMap f).take (k * s) ++ (f x ++ (l.flatMap f).drop (k * s + s)) = (l.set k x).flatMap f
 | [], k, _, hk, _ => by simp at hk
 | a :: l, 0, hf, _, x => by
  have ha := hf a (List.mem_cons_self ..)
  rw [Nat.zero_mul, List.take_zero, Nat.zero_add, List.nil_append, List.set_cons_zero, List.flatMap_cons, List.flatMap_cons, ← ha, List.drop_left]
 | a :: l, k + 1, hf, hk, x => by
  have ha := hf a (List.mem_cons_self ..)
  have ih := flats_set (fun b hb => hf b (List.mem_cons_of_mem _ hb)) (Nat.lt_of_succ_lt_succ hk) x
  rw [List.set_cons_succ, List.flatMap_cons, List.flatMap_cons, ← ih]
  have e1 : (k + 1) * s = (f a).length + k * s := by rw [ha, Nat.add_mul, Nat.one_mul, Nat.add_comm]
  rw [e1, List.take_length_add_append, Nat.add_assoc, List.drop_length_add_append, List.append_assoc]
theorem flats_get {α β : Type} {f : α → List β} {s : Nat} : ∀ {l : List α} {k j : Nat} {x : α} (_ : ∀ a ∈ l, (f a).length = s) (_ : l[k]? = some x) (_ : j < s), (l.flatMap f)[k * s + j]? = (f x)[j]?
 | [], k, _, _, _, hk, _ => by simp at hk
 | a :: l, 0, j, x, hf, hk, hj => by
  have ha := hf a (List.mem_cons_self ..)
  simp at hk
  subst hk
  rw [Nat.zero_mul, Nat.zero_add, List.flatMap_cons, List.getElem?_append_left (by omega)]
 | a :: l, k + 1, j, x, hf, hk, hj => by
  have ha := hf a (List.mem_cons_self ..)
  have ih := flats_get (fun b hb => hf b (List.mem_cons_of_mem _ hb)) (show l[k]? = some x from by simpa using hk) hj
  rw [List.flatMap_cons, show (k + 1) * s + j = (f a).length + (k * s + j) by rw [ha, Nat.add_mul, Nat.one_mul]; omega, List.getElem?_append_right (by omega), Nat.add_sub_cancel_left, ih]
theorem elemImg : Elem 101 37 1024 1024 := Elem.of (z := .agg (List.replicate 1024 (Value.int .u8 0)).toArray) Tryz.underlying101 (by kernel_rfl) (by simp [Value.cells]) (by omega)
structure RunSt (w0 : World) (wb sb : Nat) (rs : List Int) (ws : List (Int → List Nat)) (rb rc vb vc : Nat) (wr : World) (A : SA) (M : SM) : Prop where
 own : OwnStore w0 A M wr
 eq : A.sb = sb
 box : wr.heap[wb]? = some (.cells #[.pointer (some ⟨sb, 0, none⟩), .slice (some ⟨rb, 0, none⟩) rs.length rc, .slice (some ⟨vb, 0, none⟩) ws.length vc] 103 (0, 0))
 wap : Apart wr A wb
 roots : wr.ownsRow w0.heap.size 3 1 (.slice (some ⟨rb, 0, none⟩) rs.length rc) rs.length (rs.map (Value.int .i64))
 wants : wr.ownsRow w0.heap.size 37 1024 (.slice (some ⟨vb, 0, none⟩) ws.length vc) ws.length (ws.flatMap imgCells)
 rap : Apart wr A rb
 vap : Apart wr A vb
 base : w0.heap.size ≤ wb
section
variable {w0 wr w' : World} {wb sb rb rc vb vc : Nat} {rs : List Int} {ws : List (Int → List Nat)} {A A' : SA} {M M' : SM}
theorem RunSt.ne (h : RunSt w0 wb sb rs ws rb rc vb vc wr A M) : rb ≠ wb ∧ vb ≠ wb ∧ rb ≠ vb := by
 have h1 := row_ne_type h.roots h.box (by decide)
 have h2 := row_ne_type h.wants h.box (by decide)
 have h3 := row_ne_row h.roots h.wants (by decide) (b := rb) rfl
 exact ⟨fun e => h1 (by rw [← e]; rfl), fun e => h2 (by rw [← e]; rfl), fun e => h3 (by rw [e]; rfl)⟩
theorem RunSt.fresh (h : RunSt w0 wb sb rs ws rb rc vb vc wr A M) (k : Kept (fun _ => False) wr w') : RunSt w0 wb sb rs ws rb rc vb vc w' A M :=
 ⟨h.own.fresh k, h.eq, k.get h.box id, h.wap.fresh k, ownsRow.keptOf h.roots k (fun _ _ => id), ownsRow.keptOf h.wants k (fun _ _ => id), h.rap.fresh k, h.vap.fresh k, h.base⟩
theorem RunSt.to (h : RunSt w0 wb sb rs ws rb rc vb vc wr A M) (k : StoreTo A A' M' wr w') : RunSt w0 wb sb rs ws rb rc vb vc w' A' M' :=
 ⟨h.own.to k, k.sb.trans h.eq, k.get h.box h.wap.safe, h.wap.to k, ownsRow.keptOf h.roots k.kept (fun b hb e => h.rap.safe.off (by simp [Value.ownBlock] at hb; subst hb; exact e)), ownsRow.keptOf h.wants k.kept (fun b hb e => h.vap.safe.off (by simp [Value.ownBlock] at hb; subst hb; exact e)), h.rap.to k, h.vap.to k, h.base⟩
theorem RunSt.c0 (h : RunSt w0 wb sb rs ws rb rc vb vc wr A M) : wr.cell? ⟨wb, 0, none⟩ = some (.pointer (some ⟨sb, 0, none⟩)) := by rw [cell_of_heap h.box]; rfl
theorem RunSt.c1 (h : RunSt w0 wb sb rs ws rb rc vb vc wr A M) : wr.cell? ⟨wb, 1, none⟩ = some (.slice (some ⟨rb, 0, none⟩) rs.length rc) := by rw [cell_of_heap h.box]; rfl
theorem RunSt.c2 (h : RunSt w0 wb sb rs ws rb rc vb vc wr A M) : wr.cell? ⟨wb, 2, none⟩ = some (.slice (some ⟨vb, 0, none⟩) ws.length vc) := by rw [cell_of_heap h.box]; rfl
theorem RunSt.load (h : RunSt w0 wb sb rs ws rb rc vb vc wr A M) : ∀ j v, [Value.pointer (some ⟨sb, 0, none⟩)][j]? = some v → wr.cell? ⟨wb, 0 + j, none⟩ = some v := fun j v hj => by
 cases j with
 | zero => rw [h.c0]; simpa using hj
 | succ j => simp at hj
theorem RunSt.root (h : RunSt w0 wb sb rs ws rb rc vb vc wr A M) {n : Nat} {r : Int} (hn : rs[n]? = some r) : wr.cell? ⟨rb, n, none⟩ = some (.int .i64 r) ∧ wr.frozen? ⟨rb, n, none⟩ = false := by
 have h1 := (SliceAt.of_owns h.roots).cell0 (j := n) (v := .int .i64 r) (by rw [List.getElem?_map, hn]; rfl)
 rw [Nat.zero_add] at h1
 rcases h.roots.2 with ⟨e0, _⟩ | ⟨g', cap', cur, e0, hb, hg, _⟩
 ·cases e0
 ·cases e0
  exact ⟨h1, free_of_heap hg n⟩
theorem RunSt.caps (h : RunSt w0 wb sb rs ws rb rc vb vc wr A M) : rs.length ≤ rc ∧ rc ≤ 9223372036854775807 ∧ ws.length ≤ vc ∧ vc ≤ 9223372036854775807 := by
 obtain ⟨_, _, _, e1, a1, a2, _⟩ := SliceAt.of_owns h.roots
 obtain ⟨_, _, _, e2, b1, b2, _⟩ := SliceAt.of_owns h.wants
 cases e1
 cases e2
 unfold maxLen at a2 b2
 exact ⟨a1, a2, b1, b2⟩
theorem RunSt.want (h : RunSt w0 wb sb rs ws rb rc vb vc wr A M) (hB : ∀ f ∈ ws, Bytes f) {n : Nat} {f : Int → List Nat} (hn : ws[n]? = some f) : ∀ j v, (imgCells f)[j]? = some v → wr.cell? ⟨vb, 0 + n * 1024 + j, none⟩ = some v := fun j v hj => by
 have hj' : j < 1024 := by
  have := (List.getElem?_eq_some_iff.1 hj).1
  rwa [imgCells_len (hB f (List.mem_of_getElem? hn))] at this
 have hx : (ws.flatMap imgCells)[n * 1024 + j]? = some v := by rw [flats_get (fun a ha => imgCells_len (hB a ha)) hn hj', hj]
 have := (SliceAt.of_owns h.wants).cell0 hx
 rw [show 0 + n * 1024 + j = 0 + (n * 1024 + j) by omega]
 exact this
theorem RunSt.kept {S : Nat → Prop} (h : RunSt w0 wb sb rs ws rb rc vb vc wr A M) (k : Kept S wr w') (h1 : ∀ i, A.own i → ¬ S i) (h2 : ¬ S wb) (h3 : ¬ S rb) (h4 : ¬ S vb) (h5 : ∀ i, i < w0.heap.size → ¬ S i) : RunSt w0 wb sb rs ws rb rc vb vc w' A M :=
 ⟨⟨h.own.store.kept k h1, h.own.kept.trans_new k (fun i hi e => absurd e (h5 i hi)), h.own.new⟩, h.eq, k.get h.box h2, h.wap.kept k, ownsRow.keptOf h.roots k (fun b hb e => h3 (by simp [Value.ownBlock] at hb; subst hb; exact e)), ownsRow.keptOf h.wants k (fun b hb e => h4 (by simp [Value.ownBlock] at hb; subst hb; exact e)), h.rap.kept k, h.vap.kept k, h.base⟩
theorem RunSt.rbase (h : RunSt w0 wb sb rs ws rb rc vb vc wr A M) : w0.heap.size ≤ rb ∧ w0.heap.size ≤ vb := ⟨(h.roots.lt rb rfl).1, (h.wants.lt vb rfl).1⟩
theorem RunSt.setRoot (h : RunSt w0 wb sb rs ws rb rc vb vc wr A M) {n : Nat} (hn : n < rs.length) (x : Int) : RunSt w0 wb sb (rs.set n x) ws rb rc vb vc (wr.setCell ⟨rb, n, none⟩ (.int .i64 x)) A M := by
 obtain ⟨n1, n2, n3⟩ := h.ne
 obtain ⟨b1, b2⟩ := h.rbase
 obtain ⟨cur, hc, hl, hw⟩ := row_setAt (zs := [.int .i64 x]) h.roots hn rfl
 have k := (Kept.refl (fun i => i = rb) wr).setCell (p := ⟨rb, n, none⟩) rfl (.int .i64 x)
 have hh := heap_setCell_same hc n (.int .i64 x)
 have hrow := hw (wr.setCell ⟨rb, n, none⟩ (.int .i64 x)) (by
  rw [hh, Nat.mul_one, List.setIfInBounds_toArray, List.set_eq_take_append_cons_drop, if_pos (by omega)]
  rfl)
 have e1 : (rs.map (Value.int .i64)).take (n * 1) ++ ([Value.int .i64 x] ++ (rs.map (Value.int .i64)).drop (n * 1 + 1)) = (rs.set n x).map (Value.int .i64) := by
  rw [Nat.mul_one, List.map_set, List.set_eq_take_append_cons_drop, if_pos (by rw [List.length_map]; exact hn)]
  rfl
 rw [e1] at hrow
 refine ⟨⟨h.own.store.kept k (fun i hi e => h.rap.off (e ▸ hi)), h.own.kept.trans_new k (fun i hi e => by omega), h.own.new⟩, h.eq, by rw [List.length_set]; exact k.get h.box (fun e => n1 e.symm), h.wap.kept k, by rw [List.length_set]; exact hrow, ownsRow.keptOf h.wants k (fun b hb e => n3 (by simp [Value.ownBlock] at hb; omega)), h.rap.kept k, h.vap.kept k, h.base⟩
theorem RunSt.setWant (h : RunSt w0 wb sb rs ws rb rc vb vc wr A M) (hB : ∀ f ∈ ws, Bytes f) {n : Nat} (hn : n < ws.length) {f : Int → List Nat} (hf : Bytes f) :
  ∃ cur : List Value, wr.heap[vb]? = some (.cells cur.toArray 37 (0, 0)) ∧ n * 1024 + 1024 ≤ cur.length ∧ RunSt w0 wb sb rs (ws.set n f) rb rc vb vc (wr.setRow vb (cur.take (n * 1024) ++ (imgCells f ++ cur.drop (n * 1024 + 1024))).toArray) A M := by
 obtain ⟨n1, n2, n3⟩ := h.ne
 obtain ⟨b1, b2⟩ := h.rbase
 obtain ⟨cur, hc, hl, hw⟩ := row_setAt (zs := imgCells f) h.wants hn (imgCells_len hf)
 refine ⟨cur, hc, hl, ?_⟩
 have k := Kept.setRow (S := fun i => i = vb) (Kept.refl _ wr) rfl (cur.take (n * 1024) ++ (imgCells f ++ cur.drop (n * 1024 + 1024))).toArray
 have hrow := hw _ (setRow_heap wr vb cur.toArray (cur.take (n * 1024) ++ (imgCells f ++ cur.drop (n * 1024 + 1024))).toArray _ _ hc)
 rw [flats_set (fun a ha => imgCells_len (hB a ha)) hn f] at hrow
 exact ⟨⟨h.own.store.kept k (fun i hi e => h.vap.off (e ▸ hi)), h.own.kept.trans_new k (fun i hi e => by omega), h.own.new⟩, h.eq, by rw [List.length_set]; exact k.get h.box (fun e => n2 e.symm), h.wap.kept k, ownsRow.keptOf h.roots k (fun b hb e => n3 (by simp [Value.ownBlock] at hb; omega)), by rw [List.length_set]; exact hrow, h.rap.kept k, h.vap.kept k, h.base⟩
end
end Go.Proofs.YtidlchciehdefaaGreat
