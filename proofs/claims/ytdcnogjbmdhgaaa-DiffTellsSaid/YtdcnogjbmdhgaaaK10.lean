/-
 The disk (package disk), as nodes have it: an empty one that was written to; nothing spoilt, nothing counted, nothing settled.
-/
import Derived.Test.YtdcnogjbmdhgaaaK02
import Derived.Test.YtdcnogjbmdhgaaaK09
import Derived.Deep.AppendLies
import Derived.Deep.RegionHeld3
import Derived.Carry
import Derived.WalkArith
import Derived.Maps.Own
set_option linter.unusedVariables false
set_option linter.unusedSimpArgs false
namespace Go.Proofs.Ytdcnogjbmdhgaaa
open Go.RowKit
set_option maxRecDepth 100000

def pageCells (p : Nat → Nat) : List Value := (List.range 256).map fun i => .int .u8 (p i)
theorem pageCells_len (p : Nat → Nat) : (pageCells p).length = 256 := by simp [pageCells]
theorem pageCells_one (p : Nat → Nat) : ∀ v ∈ pageCells p, v.oneCell' = true := by
 intro v hv
 simp only [pageCells, List.mem_map] at hv
 obtain ⟨i, _, rfl⟩ := hv
 rfl
def zeroPage : Nat → Nat := fun _ => 0
theorem zeroPage_cells : pageCells zeroPage = List.replicate 256 (.int .u8 0) := by kernel_rfl
theorem page_size : (Try.prog.info? 98).map (·.size) = some 256 := by kernel_rfl
theorem page_zero : (Try.prog.info? 98).map (·.zero) = some (some (.agg (pageCells zeroPage).toArray)) := by kernel_rfl
theorem write_info : (Try.prog.info? 125).map (fun i => (i.zero, i.size, i.bytes)) = some (some (.agg (.int .i64 0 :: pageCells zeroPage).toArray), 257, 264) := by kernel_rfl

theorem results_row_tmp {P : Program} {fn : Func} {p u : Tmp} {ty : TypeId} (h : fn.results = #[.cell p ty, .tmp u]) (tmps : Array Value) (w : World) (g : Nat) (t : TypeId) (cs : Array Value) (fr : Nat × Nat) (d : TypeDesc)
  (hp : tmps.getD p undef = .pointer (some ⟨g, 0, none⟩)) (hg : w.heap[g]? = some (.cells cs t fr))
  (hu : P.underlying ty = some d) (hd : (match d with | .struct _ | .array _ _ => true | _ => false) = true) (hi : (P.info? ty).map (·.size) = some cs.size) :
  (results fn tmps).run P w = .ok (.tuple #[.agg cs, tmps.getD u undef]) w := by
 have hp' : tmps[p]?.getD undef = .pointer (some ⟨g, 0, none⟩) := by simpa using hp
 simp [results, h, hp', asAddr, run_loadVar_row w g t ty cs fr d hg hu hd hi]

structure DM where
 b : Nat
 pv : Value
 n : Nat
 pend : List (Nat × (Nat → Nat))
 sv : Value
 gm : Nat
def DM.foot (d : DM) (k : Nat) : Prop := k = d.b ∨ d.pv.ownBlock = some k
def writeCells (x : Nat × (Nat → Nat)) : List Value := .int .i64 x.1 :: pageCells x.2
def pendCells (l : List (Nat × (Nat → Nat))) : List Value := l.flatMap writeCells
theorem pendCells_one (l : List (Nat × (Nat → Nat))) : ∀ v ∈ pendCells l, v.oneCell' = true := by
 intro v hv
 simp only [pendCells, List.mem_flatMap] at hv
 obtain ⟨x, _, hv⟩ := hv
 simp only [writeCells, List.mem_cons] at hv
 rcases hv with rfl | hv
 ·rfl
 ·exact pageCells_one _ v hv
def DM.read (d : DM) (i : Nat) : Nat → Nat := d.pend.foldl (fun out x => if x.1 = i then x.2 else out) zeroPage
def DM.put (d : DM) (i : Nat) (p : Nat → Nat) (pv : Value) : DM := { d with pend := d.pend ++ [(i, p)], pv := pv }
structure DiskAt (w : World) (d : DM) : Prop where
 le : d.n ≤ 244
 pend : w.ownsRow 0 125 257 d.pv d.pend.length (pendCells d.pend)
 few : d.pend.length ≤ 100000000
 head : w.heap[d.b]? = some (.cells #[d.sv, .map (some d.gm), d.pv, .int .i64 (-1), .bool false] 90 (0, 0))
 badm : w.heap[d.gm]? = some (.map #[] 0)
 badOff : ¬ d.foot d.gm
 stab : SliceAt w d.sv 256 d.n (List.replicate (d.n * 256) (.int .u8 0))
 stabOff : ∀ g, d.sv.ownBlock = some g → ¬ d.foot g ∧ g < w.heap.size
 apart : d.pv.ownBlock ≠ some d.b
theorem DiskAt.rest {w : World} {d : DM} (h : DiskAt w d) : ∃ sv gm, w.heap[d.b]? = some (.cells #[sv, .map (some gm), d.pv, .int .i64 (-1), .bool false] 90 (0, 0)) ∧ w.heap[gm]? = some (.map #[] 0) ∧ ¬ d.foot gm ∧
  SliceAt w sv 256 d.n (List.replicate (d.n * 256) (.int .u8 0)) ∧ ∀ g, sv.ownBlock = some g → ¬ d.foot g ∧ g < w.heap.size :=
 ⟨d.sv, d.gm, h.head, h.badm, h.badOff, h.stab, h.stabOff⟩
def DM.own (d : DM) (k : Nat) : Prop := d.foot k ∨ k = d.gm ∨ d.sv.ownBlock = some k
theorem DiskAt.lt {w : World} {d : DM} (h : DiskAt w d) (k : Nat) (hk : d.own k) : k < w.heap.size := by
 rcases hk with (rfl | hk) | rfl | hk
 ·exact lt_of_heap h.head
 ·exact (h.pend.lt k hk).2
 ·exact lt_of_heap h.badm
 ·exact (h.stabOff k hk).2
theorem DiskAt.kept {S : Nat → Prop} {w w' : World} {d : DM} (h : DiskAt w d) (k : Kept S w w') (hS : ∀ i, d.own i → ¬ S i) : DiskAt w' d :=
 ⟨h.le, ownsRow.keptOf h.pend k fun _ hb => hS _ (.inl (.inr hb)), h.few, k.get h.head (hS _ (.inl (.inl rfl))), k.get h.badm (hS _ (.inr (.inl rfl))), h.badOff,
  h.stab.kept k fun _ hg => hS _ (.inr (.inr hg)), fun g hg => ⟨(h.stabOff g hg).1, Nat.lt_of_lt_of_le (h.stabOff g hg).2 k.size⟩, h.apart⟩
theorem DiskAt.fresh {w w' : World} {d : DM} (h : DiskAt w d) (k : Kept (fun _ => False) w w') : DiskAt w' d := h.kept k fun _ _ => id

def DM.thereB (d : DM) (i : Int) : Bool := decide (0 ≤ i) && decide (i < d.n)
theorem diskThere {w : World} {d : DM} (h : DiskAt w d) (i : Int) :
  Calls Try.prog 60 #[.pointer (some ⟨d.b, 0, none⟩), .int .i64 i] w fun e w' => e = .returned (.bool (d.thereB i)) ∧ w = w' := by
 obtain ⟨sv, gm, h1, h2, h3, h4, h5⟩ := h.rest
 obtain ⟨hl, A, cap, rfl, ha, hb, hc⟩ := h4
 have c0 := cell_of_heap h1 0
 simp at c0
 clear h1 h2 h3 h5 hc hl h
 by_cases g0 : 0 ≤ i
 ·go_enter Try.func60, Try.ntmps60
  go_wp2_with fail
  go_ret
  exact ⟨by simp [DM.thereB, g0], rfl⟩
 ·go_enter Try.func60, Try.ntmps60
  go_wp2_with fail
  go_ret
  exact ⟨by simp [DM.thereB]; omega, rfl⟩
theorem diskAct {w : World} {d : DM} (h : DiskAt w d) :
  Calls Try.prog 61 #[.pointer (some ⟨d.b, 0, none⟩)] w fun e w' => e = .returned (.int .i64 0) ∧ w = w' := by
 obtain ⟨sv, gm, h1, h2, h3, h4, h5⟩ := h.rest
 have c3 := cell_of_heap h1 3
 have c4 := cell_of_heap h1 4
 simp at c3 c4
 clear h1 h2 h3 h4 h5 h
 go_enter Try.func61, Try.ntmps61
 go_wp2_with fail
 go_ret
 exact ⟨rfl, rfl⟩
theorem stable_range {w : World} {sv : Value} {n i : Nat} (h : SliceAt w sv 256 n (List.replicate (n * 256) (.int .u8 0))) (hi : i < n) :
  ∃ b off cap, sv = .slice (some ⟨b, off, none⟩) n cap ∧ b < w.heap.size ∧ ∀ j v, (pageCells zeroPage)[j]? = some v → w.cell? ⟨b, off + i * 256 + j, none⟩ = some v := by
 obtain ⟨hl, A, cap, rfl, ha, hb, hc⟩ := id h
 obtain ⟨b, off, rfl, hlt, hh⟩ := h.elem hi (by omega)
 refine ⟨b, off, cap, rfl, hlt, fun j v hv => ?_⟩
 rw [zeroPage_cells, List.getElem?_replicate] at hv
 split at hv
 ·refine hh j v ‹_› ?_
  have : i * 256 + j < n * 256 := by omega
  rw [List.getElem?_replicate, if_pos this]
  exact hv
 ·cases hv
theorem diskStable_ok {w : World} {d : DM} (h : DiskAt w d) (i : Nat) (hi : i < d.n) :
  Calls Try.prog 70 #[.pointer (some ⟨d.b, 0, none⟩), .int .i64 i] w fun e w' => e = .returned (.tuple #[.agg (pageCells zeroPage).toArray, .int .i64 0]) ∧ Kept (fun _ => False) w w' := by
 have k1 := (Kept.refl (fun _ => False) w).alloc (.cells (pageCells zeroPage).toArray 98)
 have h1 := h.fresh k1
 have ht := diskThere h1 i
 rw [show d.thereB i = true by simp [DM.thereB]; omega] at ht
 obtain ⟨sv, gm, e1, e2, e3, e4, e5⟩ := h1.rest
 obtain ⟨b, off, cap, rfl, hb, hr⟩ := stable_range e4 hi
 have c0 := cell_of_heap e1 0
 simp at c0
 clear e1 e2 e3 e4 e5 h1
 have ht' := h_ ht; clear ht
 have k1' := h_ k1; clear k1
 have hr' := h_ hr; clear hr
 clear h hb
 go_enter Try.func70, Try.ntmps70
 go_wp2_with (first | (refine wpList_alloc_as 98 rfl rfl (pageCells zeroPage).toArray page_zero ?_))
 refine ht'.out.mono ?_
 rintro e w' ⟨rfl, rfl⟩
 go_wp2_with (first | (refine wpList_load_agg 98 rfl rfl rfl _ Try.underlying98 rfl (pageCells zeroPage) (by rw [pageCells_len]; exact page_size) hr'.out ?_) | (refine wpList_store_whole 98 rfl rfl rfl (pageCells zeroPage) rfl (by rw [pageCells_len]; exact page_size) 98 (pageCells zeroPage).toArray (heap_alloc_new w _) (by simp) (pageCells_one _) ?_))
 refine bodyPost_ret (results_row_tmp rfl _ _ w.heap.size 98 (pageCells zeroPage).toArray (0, 0) _ rfl (setRow_heap _ _ _ _ 98 (0, 0) (heap_alloc_new w _)) Try.underlying98 rfl (by simp only [List.size_toArray]; rw [pageCells_len]; exact page_size)) rfl ?_
 exact ⟨rfl, k1'.out.setRowNew (Nat.le_refl _) _⟩

theorem run_lookup_none {w : World} {gm : Nat} (h : w.heap[gm]? = some (.map #[] 0)) (i : Int) (hw : (Lit.int .i64 i).wf = true) : (Instr.lookup 75 (.map (some gm)) (.int .i64 i) false).run Try.prog w = .ok (.int .i64 0) w := by
 have ho : w.ownsMap Try.prog 3 (plainElem (H := Unit) Try.prog 3) gm 0 (.map []) := ⟨#[], 0, h, ⟨by simp, MapKept.stamped_empty 0, by simp⟩, Nat.le_refl _, rfl⟩
 obtain ⟨c, hr, hc, _⟩ := ho.lookup_int (Maps.int_keyed Try.underlying3) Try.underlying75 Try.underlying3 (Try.zeroValue3 w) (key := .int .i64 i) (kl := .int .i64 i) (by simp [keyOf, mapKey, Try.underlying3, hw])
 rw [hr]
 simp [DataW.atKey] at hc
 rw [← hc]
theorem wf_page {i : Nat} (h : i < 1000) : (Lit.int .i64 (i : Int)).wf = true := WalkArith.wf_i64 ⟨by omega, by omega⟩

def readN (l : List (Nat × (Nat → Nat))) (i k : Nat) : Nat → Nat := (l.take k).foldl (fun out x => if x.1 = i then x.2 else out) zeroPage
theorem readN_succ (l : List (Nat × (Nat → Nat))) (i k : Nat) (x : Nat × (Nat → Nat)) (h : l[k]? = some x) : readN l i (k + 1) = if x.1 = i then x.2 else readN l i k := by
 simp [readN, List.take_add_one, h, List.foldl_append]
theorem readN_all (d : DM) (i : Nat) : readN d.pend i d.pend.length = d.read i := by simp [readN, DM.read]
theorem pend_get {l : List (Nat × (Nat → Nat))} {k : Nat} {x : Nat × (Nat → Nat)} (h : l[k]? = some x) {j : Nat} (hj : j < 257) : (pendCells l)[k * 257 + j]? = (writeCells x)[j]? := by
 induction l generalizing k with
 | nil => simp at h
 | cons y l ih =>
  have hl : (writeCells y).length = 257 := by simp [writeCells, pageCells_len]
  rw [show pendCells (y :: l) = writeCells y ++ pendCells l from by simp [pendCells]]
  cases k with
  | zero =>
   simp at h
   subst h
   rw [List.getElem?_append_left (by omega)]
   simp
  | succ k =>
   rw [List.getElem?_append_right (by rw [hl]; omega), hl, show (k + 1) * 257 + j - 257 = k * 257 + j by omega]
   exact ih (by simpa using h)

set_option maxHeartbeats 2000000 in
theorem diskRead_ok {w : World} {d : DM} (h : DiskAt w d) (i : Nat) (hi : i < d.n) :
  Calls Try.prog 51 #[.pointer (some ⟨d.b, 0, none⟩), .int .i64 i] w fun e w' => e = .returned (.tuple #[.agg (pageCells (d.read i)).toArray, .int .i64 0]) ∧ Kept (fun _ => False) w w' := by
 have hle := h.le
 have hfew := h.few
 have hall := readN_all d i
 have hall' := h_ hall; clear hall
 have h' := h_ h; clear h
 have hlk : ∀ wx gm, wx.heap[gm]? = some (.map #[] 0) → (Instr.lookup 75 (.map (some gm)) (.int .i64 i) false).run Try.prog wx = .ok (.int .i64 0) wx := fun wx gm hx => run_lookup_none hx i (wf_page (by omega))
 have hlk' := h_ hlk; clear hlk
 have k1 := (Kept.refl (fun _ => False) w).alloc (.cells (pageCells zeroPage).toArray 98)
 have hs := (diskStable_ok (h'.out.fresh k1) i hi)
 have hs' := h_ hs; clear hs
 have k1' := h_ k1; clear k1
 go_enter Try.func51, Try.ntmps51
 go_wp2_with (first | (refine wpList_alloc_as 98 rfl rfl (pageCells zeroPage).toArray page_zero ?_))
 refine hs'.out.mono ?_
 rintro e w2 ⟨rfl, k2⟩
 have k2' := h_ (k1'.out.trans k2)
 have hb1 := k2.get (heap_alloc_new w _) id
 have hw2 := k2.size
 simp at hw2
 clear k2
 have k3 := (k2'.out.alloc (.cells (pageCells zeroPage).toArray 98)).setRowNew (g := w2.heap.size) (by omega) (pageCells zeroPage).toArray
 have h3 := h'.out.fresh k3
 obtain ⟨sv, gm, e1, e2, e3, e4, e5⟩ := h3.rest
 have c1 := cell_of_heap e1 1
 have c2 := cell_of_heap e1 2
 simp only [List.getElem?_toArray] at c1 c2
 have hl := hlk'.out _ gm e2
 obtain ⟨hp1, hp2⟩ := h3.pend
 have hv : ∃ A cap, d.pv = .slice A d.pend.length cap := by
  rcases hp2 with ⟨h0, hn⟩ | ⟨g, cap, cur, hv, _⟩
  ·rw [hn]; exact ⟨none, 0, h0⟩
  ·exact ⟨_, cap, hv⟩
 obtain ⟨A, cap, hv⟩ := hv
 rw [hv] at c2
 have hv' := h_ hv
 clear e1 e2 e3 e4 e5 h3 hp1 hp2 hv
 have hb3 : ((w2.alloc (.cells (pageCells zeroPage).toArray 98)).setRow w2.heap.size (pageCells zeroPage).toArray).heap[w.heap.size]? = some (.cells (pageCells zeroPage).toArray 98) := (((Kept.refl (fun _ => False) w2).alloc _).setRowNew (Nat.le_refl _) _).get hb1 id
 have hb4 : ((w2.alloc (.cells (pageCells zeroPage).toArray 98)).setRow w2.heap.size (pageCells zeroPage).toArray).heap[w2.heap.size]? = some (.cells (pageCells zeroPage).toArray 98) := setRow_heap _ _ _ _ _ _ (heap_alloc_new _ _)
 have k3' := h_ k3; clear k3
 have hb3' := h_ hb3; clear hb3
 have hb4' := h_ hb4; clear hb4
 go_wp2_with (first | (refine wpList_alloc_as 98 rfl rfl (pageCells zeroPage).toArray page_zero ?_) | (refine wpList_store_whole 98 rfl rfl rfl (pageCells zeroPage) rfl (by rw [pageCells_len]; exact page_size) 98 (pageCells zeroPage).toArray (heap_alloc_new _ _) (by simp) (pageCells_one _) ?_))
 go_loopw [33] (fun x wr => ∃ k : Nat, k ≤ d.pend.length ∧ x = .int .i64 k ∧ Kept (fun _ => False) w wr ∧ wr.heap[w.heap.size]? = some (.cells (pageCells zeroPage).toArray 98) ∧ wr.heap[w2.heap.size]? = some (.cells (pageCells (readN d.pend i k)).toArray 98)) (fun x _ => d.pend.length - (intOf x).toNat)
 case atStart => exact ⟨0, Nat.zero_le _, rfl, k3'.out, hb3'.out, hb4'.out⟩
 case round =>
  obtain ⟨k, hk, rfl, hkk, hg1, hg2⟩ := hrel
  by_cases hlt : k < d.pend.length
  ·obtain ⟨x, hx⟩ : ∃ x, d.pend[k]? = some x := ⟨_, List.getElem?_eq_getElem hlt⟩
   have hN := readN_succ d.pend i k x hx
   have hel := (SliceAt.of_owns (h'.out.fresh hkk).pend)
   rw [hv'.out] at hel
   obtain ⟨b, off, rfl, hbl, hc⟩ := hel.elem hlt (by omega)
   have hc2 : ∀ j v, (writeCells x)[j]? = some v → wr.cell? ⟨b, off + k * 257 + j, none⟩ = some v := fun j v hj => by
    have hj2 : j < 257 := by
     have := (List.getElem?_eq_some_iff.1 hj).1
     simpa [writeCells, pageCells_len] using this
    exact hc j v hj2 ((pend_get hx hj2).trans hj)
   have hw4 := setRow_heap _ wr.heap.size (.int .i64 0 :: pageCells zeroPage).toArray (writeCells x).toArray 125 (0, 0) (heap_alloc_new wr (.cells (.int .i64 0 :: pageCells zeroPage).toArray 125))
   have hk4 := (hkk.alloc (.cells (.int .i64 0 :: pageCells zeroPage).toArray 125)).setRowNew (g := wr.heap.size) hkk.size (writeCells x).toArray
   have hkq := ((Kept.refl (fun _ => False) wr).alloc (.cells (.int .i64 0 :: pageCells zeroPage).toArray 125)).setRowNew (Nat.le_refl _) (writeCells x).toArray
   have hg1' := hkq.get hg1 id
   have hg2' := hkq.get hg2 id
   have c0 := cell_of_heap hw4 0
   simp only [writeCells, List.getElem?_toArray, List.getElem?_cons_zero] at c0
   have c0' : ((wr.alloc (.cells (.int .i64 0 :: pageCells zeroPage).toArray 125)).setRow wr.heap.size (writeCells x).toArray).cell? ⟨wr.heap.size, 0, none⟩ = some (.int .i64 x.1) := c0
   clear c0 hx hel hc hkq hg1 hg2
   have hw4' := h_ hw4; clear hw4
   have hk4' := h_ hk4; clear hk4
   have hc2' := h_ hc2; clear hc2
   have hN' := h_ hN; clear hN
   have hg1'' := h_ hg1'; clear hg1'
   have hg2'' := h_ hg2'; clear hg2'
   have hkk' := h_ hkk; clear hkk
   by_cases hxi : x.1 = i
   ·have hxi' : ((x.1 : Int) == (i : Int)) = true := by rw [hxi]; simp
    go_wp2_with (first | (refine wpList_load_agg 125 rfl rfl rfl _ Try.underlying125 rfl (writeCells x) (by kernel_rfl) hc2'.out ?_) | (refine wpList_alloc_as 125 rfl rfl (.int .i64 0 :: pageCells zeroPage).toArray (by kernel_rfl) ?_) | (refine wpList_store_whole 125 rfl rfl rfl (writeCells x) rfl (by kernel_rfl) 125 _ (heap_alloc_new _ _) (by simp [writeCells, pageCells_len]) (fun v hv => pendCells_one [x] v (by simpa [pendCells] using hv)) ?_) | (refine wpList_load_agg 98 rfl rfl rfl _ Try.underlying98 rfl (pageCells x.2) (by rw [pageCells_len]; exact page_size) (fun j v hv => by rw [cell_of_heap hw4'.out, Nat.add_comm]; simpa [writeCells] using hv) ?_) | (refine wpList_store_whole 98 rfl rfl rfl (pageCells x.2) rfl (by rw [pageCells_len]; exact page_size) 98 _ hg2''.out (by simp [pageCells_len]) (pageCells_one _) ?_))
    go_roundw
    case rel =>
     refine ⟨k + 1, by omega, by go_num, hk4'.out.setRowNew (by omega) _, ((Kept.refl (fun i => i = w2.heap.size) _).setRow rfl _).get hg1''.out (by omega), ?_⟩
     rw [hN'.out, if_pos hxi]
     exact setRow_heap _ _ _ _ _ _ hg2''.out
    case measure => simp [intOf]; omega
   ·have hxi' : ((x.1 : Int) == (i : Int)) = false := by simpa using fun e => hxi (by omega)
    go_wp2_with (first | (refine wpList_load_agg 125 rfl rfl rfl _ Try.underlying125 rfl (writeCells x) (by kernel_rfl) hc2'.out ?_) | (refine wpList_alloc_as 125 rfl rfl (.int .i64 0 :: pageCells zeroPage).toArray (by kernel_rfl) ?_) | (refine wpList_store_whole 125 rfl rfl rfl (writeCells x) rfl (by kernel_rfl) 125 _ (heap_alloc_new _ _) (by simp [writeCells, pageCells_len]) (fun v hv => pendCells_one [x] v (by simpa [pendCells] using hv)) ?_))
    go_roundw
    case rel =>
     refine ⟨k + 1, by omega, by go_num, hk4'.out, hg1''.out, ?_⟩
     rw [hN'.out, if_neg hxi]
     exact hg2''.out
    case measure => simp [intOf]; omega
  ·obtain rfl : k = d.pend.length := by omega
   rw [hall'.out] at hg2
   have hg1' := h_ hg1; clear hg1
   have hg2' := h_ hg2; clear hg2
   have hkk' := h_ hkk; clear hkk
   go_wp2_with (first | (refine wpList_load_agg 98 rfl rfl rfl _ Try.underlying98 rfl (pageCells (d.read i)) (by rw [pageCells_len]; exact page_size) (fun j v hv => by rw [cell_of_heap hg2'.out, Nat.zero_add]; simpa using hv) ?_) | (refine wpList_store_whole 98 rfl rfl rfl (pageCells (d.read i)) rfl (by rw [pageCells_len]; exact page_size) 98 _ hg1'.out (by simp [pageCells_len]) (pageCells_one _) ?_))
   refine bodyPost_ret (results_row_tmp rfl _ _ w.heap.size 98 (pageCells (d.read i)).toArray (0, 0) _ rfl (setRow_heap _ _ _ _ 98 (0, 0) hg1'.out) Try.underlying98 rfl (by simp only [List.size_toArray]; rw [pageCells_len]; exact page_size)) rfl ?_
   exact ⟨rfl, hkk'.out.setRowNew (Nat.le_refl _) _⟩
end Go.Proofs.Ytdcnogjbmdhgaaa
