/-
 Layer 17: the document's items on images (understudyref17.All, understudyref17.Apply).
-/
import Derived.Test.YtidlchciehdefaaGreatK28
import Derived.Test.YtidlchciehdefaaGreatK30
import Derived.Test.YtidlchciehdefaaGreatK35
import Derived.Test.YtidlchciehdefaaGreatK36
import Derived.Test.YtidlchciehdefaaGreatK37
set_option linter.unusedVariables false
set_option linter.unusedSimpArgs false
namespace Go.Proofs.YtidlchciehdefaaGreat
open Go.RowKit
set_option maxRecDepth 100000

theorem itemsW_bytes {f : Int → List Nat} (h : Bytes f) : ∀ l : List ItemM, (∀ x ∈ l, x.ok) → Bytes (itemsW l f)
 | [], _ => h
 | x :: l, hok => itemsW_bytes (h.upd x.key (hok x (List.mem_cons_self ..)).1 (hok x (List.mem_cons_self ..)).2) l (fun y hy => hok y (List.mem_cons_of_mem _ hy))
theorem itemsW_take (f : Int → List Nat) {l : List ItemM} {k : Nat} {x : ItemM} (h : l[k]? = some x) : itemsW (l.take (k + 1)) f = upd (itemsW (l.take k) f) x.key x.block := by
 obtain ⟨hk, rfl⟩ := List.getElem?_eq_some_iff.1 h
 unfold itemsW
 rw [List.take_add_one, List.getElem?_eq_getElem hk, List.foldl_append]
 rfl
set_option maxHeartbeats 4000000 in
theorem ref17All {w : World} {v : Value} {l : List ItemM} (hv : ItemsAt w v l) (hok : ∀ x ∈ l, x.ok) :
  Calls Tryz.prog 41 #[v] w fun e w' => e = .returned (.bool (l.all rightB)) ∧ Kept (fun _ => False) w w' := by
 obtain ⟨_, Av, cv, rfl, hv1, hv2, _⟩ := id hv
 unfold maxLen at hv2
 have hv' := h_ hv
 have hok' := h_ hok
 obtain ⟨Z, hZ⟩ : ∃ Z, itemCells .zero = Z := ⟨_, rfl⟩
 have hZz : Hid ((Tryz.prog.info? 61).map (·.zero) = some (some (.agg Z.toArray))) := h_ (by rw [← hZ]; exact item_zero)
 have hZl : Hid (Z.length = 18) := h_ (by rw [← hZ]; exact itemCells_len _)
 have hyes : Hid ((∀ (j : Nat) (y : ItemM), j < l.length → l[j]? = some y → rightB y = true) → l.all rightB = true) := h_ (fun h => by
  rw [List.all_eq_true]
  intro x hx
  obtain ⟨j, hj, rfl⟩ := List.getElem_of_mem hx
  exact h j _ hj (List.getElem?_eq_getElem hj))
 have hno : Hid (∀ (k : Nat) (x : ItemM), l[k]? = some x → rightB x = false → l.all rightB = false) := h_ (fun k x hx h => by
  rw [List.all_eq_false]
  exact ⟨x, List.mem_of_getElem? hx, by rw [h]; decide⟩)
 clear hv hok hZ
 go_enter Tryz.func41, Tryz.ntmps41
 go_wp2_with fail
 go_loopw [7] (fun i wr => ∃ k : Nat, k ≤ l.length ∧ i = .int .i64 k ∧ Hid ((∀ (j : Nat) (y : ItemM), j < k → l[j]? = some y → rightB y = true) ∧ Kept (fun _ => False) w wr)) (fun i _ => l.length - (intOf i).toNat)
 case atStart => exact ⟨0, Nat.zero_le _, rfl, h_ ⟨fun j _ hj => by omega, Kept.refl _ _⟩⟩
 case round =>
  obtain ⟨k, hk, rfl, hpre⟩ := hrel
  by_cases hlt : k < l.length
  ·obtain ⟨x, hx⟩ : ∃ x, l[k]? = some x := ⟨_, List.getElem?_eq_getElem hlt⟩
   obtain ⟨b, off, rfl, hb, hcb⟩ := ItemsAt.get hv'.out hx
   have hfx := fun w => ref17Right (hok'.out x (List.mem_of_getElem? hx)) w
   obtain ⟨I, hI⟩ : ∃ I, itemCells x = I := ⟨_, rfl⟩
   have hIl : Hid (I.length = 18) := h_ (by rw [← hI]; exact itemCells_len _)
   have hI1 : Hid (∀ v ∈ I, v.oneCell' = true) := h_ (by rw [← hI]; exact itemCells_one _)
   rw [hI] at hfx hcb
   have hcb' : Hid (∀ j v, I[j]? = some v → wr.cell? ⟨b, off + k * 18 + j, none⟩ = some v) := h_ (fun j v hj => hpre.out.2.cell (hcb j v hj) id)
   obtain ⟨z, hz⟩ : ∃ z, rightB x = z := ⟨_, rfl⟩
   rw [hz] at hfx
   have hfx' := h_ hfx
   have hz' := h_ hz
   have hx' := h_ hx
   have hki : (k : Int) < (l.length : Int) := by omega
   obtain ⟨xb, hxb⟩ : ∃ xb, wr.heap.size = xb := ⟨_, rfl⟩
   obtain ⟨w3, hw3⟩ : ∃ w3, (wr.alloc (.cells Z.toArray 61)).setRow xb I.toArray = w3 := ⟨_, rfl⟩
   have k3 : Kept (fun _ => False) wr w3 := by rw [← hw3]; exact ((Kept.refl _ _).alloc _).setRowNew (by omega) _
   have q3 : w3.heap[xb]? = some (.cells I.toArray 61 (0, 0)) := by rw [← hw3, ← hxb]; exact setRow_heap _ _ _ _ _ _ (heap_alloc_new _ _)
   have hl3 : Hid (∀ j v, I[j]? = some v → w3.cell? ⟨xb, 0 + j, none⟩ = some v) := h_ (fun j v hj => by rw [Nat.zero_add, cell_of_heap q3]; simpa using hj)
   have K3 := h_ (hpre.out.2.trans k3)
   have hw3' := h_ hw3
   have hxb' := h_ hxb
   clear hz hx hfx hcb hI hb hxb hw3 k3 q3
   cases z
   ·go_wp2_with (first | (refine wpList_load_agg 61 rfl rfl rfl _ Tryz.underlying61 rfl I (by rw [hIl.out]; exact item_size) hcb'.out ?_) | (refine wpList_load_agg 61 rfl rfl rfl _ Tryz.underlying61 rfl I (by rw [hIl.out]; exact item_size) hl3.out ?_) | (refine wpList_alloc_as 61 rfl rfl Z.toArray hZz.out ?_; rw [hxb'.out]) | (refine wpList_store_whole 61 rfl rfl rfl I rfl (by rw [hIl.out]; exact item_size) 61 Z.toArray (by rw [← hxb'.out]; exact heap_alloc_new _ _) (by simp [hZl.out, hIl.out]) hI1.out ?_; rw [hw3'.out]))
    refine (hfx'.out _).mono ?_
    rintro e w' ⟨rfl, hk'⟩
    have fin := h_ (K3.out.trans hk')
    clear hk'
    go_wp2_with fail
    go_ret
    exact ⟨by rw [hno.out k x hx'.out hz'.out]; rfl, fin.out⟩
   ·go_wp2_with (first | (refine wpList_load_agg 61 rfl rfl rfl _ Tryz.underlying61 rfl I (by rw [hIl.out]; exact item_size) hcb'.out ?_) | (refine wpList_load_agg 61 rfl rfl rfl _ Tryz.underlying61 rfl I (by rw [hIl.out]; exact item_size) hl3.out ?_) | (refine wpList_alloc_as 61 rfl rfl Z.toArray hZz.out ?_; rw [hxb'.out]) | (refine wpList_store_whole 61 rfl rfl rfl I rfl (by rw [hIl.out]; exact item_size) 61 Z.toArray (by rw [← hxb'.out]; exact heap_alloc_new _ _) (by simp [hZl.out, hIl.out]) hI1.out ?_; rw [hw3'.out]))
    refine (hfx'.out _).mono ?_
    rintro e w' ⟨rfl, hk'⟩
    have fin : Hid ((∀ (j : Nat) (y : ItemM), j < k + 1 → l[j]? = some y → rightB y = true) ∧ Kept (fun _ => False) w w') := h_ ⟨fun j y hj hy => by
     rcases Nat.lt_or_ge j k with h1 | h1
     ·exact hpre.out.1 j y h1 hy
     ·obtain rfl : j = k := by omega
      rw [hx'.out] at hy
      cases hy
      exact hz'.out, K3.out.trans hk'⟩
    clear hk'
    go_wp2_with fail
    go_roundw
    case rel => exact ⟨k + 1, by omega, by go_num, fin⟩
    case measure => simp [intOf]; omega
  ·obtain rfl : k = l.length := by omega
   have hki : ¬ ((l.length : Int) < (l.length : Int)) := by omega
   go_wp2_with fail
   go_ret
   exact ⟨by rw [hyes.out hpre.out.1]; rfl, hpre.out.2⟩
set_option maxHeartbeats 4000000 in
theorem ref17Apply {w : World} {f : Int → List Nat} (hB : Bytes f) {v : Value} {l : List ItemM} (hv : ItemsAt w v l) (hok : ∀ x ∈ l, rightB x = true ∧ x.ok) :
  Calls Tryz.prog 43 #[.agg (imgCells f).toArray, v] w fun e w' => e = .returned (.agg (imgCells (itemsW l f)).toArray) ∧ Kept (fun _ => False) w w' := by
 obtain ⟨_, Av, cv, rfl, hv1, hv2, _⟩ := id hv
 unfold maxLen at hv2
 obtain ⟨I, hI⟩ : ∃ I, imgCells f = I := ⟨_, rfl⟩
 obtain ⟨Z, hZ⟩ : ∃ Z, List.replicate 1024 (Value.int .u8 0) = Z := ⟨_, rfl⟩
 obtain ⟨Y, hY⟩ : ∃ Y, itemCells .zero = Y := ⟨_, rfl⟩
 have hYz : Hid ((Tryz.prog.info? 61).map (·.zero) = some (some (.agg Y.toArray))) := h_ (by rw [← hY]; exact item_zero)
 have hYl : Hid (Y.length = 18) := h_ (by rw [← hY]; exact itemCells_len _)
 have hZl : Hid (Z.length = 1024) := h_ (by rw [← hZ]; exact List.length_replicate)
 have hZz : Hid ((Tryz.prog.info? 37).map (·.zero) = some (some (.agg Z.toArray))) := h_ (by rw [← hZ]; exact img_zero)
 obtain ⟨mb, hmb⟩ : ∃ mb, w.heap.size = mb := ⟨_, rfl⟩
 obtain ⟨w1, hw1⟩ : ∃ w1, w.alloc (.cells I.toArray 37) = w1 := ⟨_, rfl⟩
 obtain ⟨rb, hrb⟩ : ∃ rb, w1.heap.size = rb := ⟨_, rfl⟩
 obtain ⟨w2, hw2⟩ : ∃ w2, w1.alloc (.cells Z.toArray 37) = w2 := ⟨_, rfl⟩
 have k1 : Kept (fun _ => False) w w1 := by rw [← hw1]; exact (Kept.refl _ _).alloc _
 have k2 : Kept (fun _ => False) w1 w2 := by rw [← hw2]; exact (Kept.refl _ _).alloc _
 have q1 : w1.heap[mb]? = some (.cells I.toArray 37 (0, 0)) := by rw [← hw1, ← hmb]; exact heap_alloc_new _ _
 have q2 : w2.heap[rb]? = some (.cells Z.toArray 37 (0, 0)) := by rw [← hw2, ← hrb]; exact heap_alloc_new _ _
 have S0 : Hid (ClSt w mb rb f w2) := h_ ⟨by rw [hI]; exact k2.get q1 id, by rw [hZ]; exact q2, k1.trans k2⟩
 have hlt : Hid (w.heap.size ≤ mb ∧ mb < rb ∧ rb < w2.heap.size) := h_ ⟨by omega, by have := lt_of_heap q1; omega, lt_of_heap q2⟩
 have hrs : Hid (∀ wr, ClSt w mb rb f wr → True) := h_ fun _ _ => trivial
 have hw1' := h_ hw1
 have hw2' := h_ hw2
 have hmb' := h_ hmb
 have hrb' := h_ hrb
 have hv' := h_ hv
 have hZ' := h_ hZ
 have hok' := h_ hok
 have hB' := h_ hB
 rw [hI]
 clear hw1 hw2 hmb hrb k1 k2 q1 q2 hv hI hZ hok hB hY hrs
 go_enter Tryz.func43, Tryz.ntmps43
 go_wp2_with (first | (refine wpList_box_named 37 rfl rfl _ rfl hw1'.out ?_; rw [hmb'.out]) | (refine wpList_alloc_as 37 rfl rfl Z.toArray hZz.out ?_; rw [hw2'.out, hrb'.out]))
 go_loopw [9] (fun i wr => ∃ (k : Nat), k ≤ l.length ∧ i = .int .i64 k ∧ Hid (ClSt w mb rb (itemsW (l.take k) f) wr)) (fun i _ => l.length - (intOf i).toNat)
 case atStart => exact ⟨0, Nat.zero_le _, rfl, S0⟩
 case round =>
  obtain ⟨k, hk, rfl, hI⟩ := hrel
  by_cases hlt2 : k < l.length
  ·obtain ⟨x, hx⟩ : ∃ x, l[k]? = some x := ⟨_, List.getElem?_eq_getElem hlt2⟩
   obtain ⟨b, off, rfl, hb, hcb⟩ := ItemsAt.get hv'.out hx
   obtain ⟨hxr, hxo⟩ := hok'.out x (List.mem_of_getElem? hx)
   obtain ⟨⟨hx0, hx1⟩, _⟩ := rightB_iff.1 hxr
   obtain ⟨n, hn⟩ := Int.eq_ofNat_of_zero_le hx0
   have hn64 : n < 64 := by omega
   have hki : (k : Int) < (l.length : Int) := by omega
   have hni : (n : Int) < 64 := by omega
   have hBk := itemsW_bytes hB'.out (l.take k) (fun y hy => (hok'.out y (List.mem_of_mem_take hy)).2)
   have hfin := itemsW_take f hx
   rw [hn] at hfin
   obtain ⟨g, hg⟩ : ∃ g, itemsW (l.take k) f = g := ⟨_, rfl⟩
   rw [hg] at hBk hfin
   have hS : Hid (ClSt w mb rb g wr) := h_ (by rw [← hg]; exact hI.out)
   obtain ⟨K, hK⟩ : ∃ K, itemCells x = K := ⟨_, rfl⟩
   have hKl : Hid (K.length = 18) := h_ (by rw [← hK]; exact itemCells_len _)
   have hK1 : Hid (∀ v ∈ K, v.oneCell' = true) := h_ (by rw [← hK]; exact itemCells_one _)
   obtain ⟨C, hC⟩ : ∃ C, blockCells x.block = C := ⟨_, rfl⟩
   have hCl : Hid (C.length = 16) := h_ (by rw [← hC]; exact blockCells_len _)
   have hC1 : Hid (∀ v ∈ C, v.oneCell' = true) := h_ (by rw [← hC]; exact blockCells_one _)
   obtain ⟨J, hJ⟩ : ∃ J, imgCells g = J := ⟨_, rfl⟩
   have hJl : Hid (J.length = 1024) := h_ (by rw [← hJ]; exact imgCells_len hBk)
   have hup : imgCells (upd g (n : Int) x.block) = J.take (n * 16) ++ (C ++ J.drop (n * 16 + 16)) := by
    rw [imgCells_upd hBk hn64 hxo.1, hJ, ← blockCells_eq _ hxo.1, hC, List.append_assoc]
   rw [hK] at hcb
   have hcb' : Hid (∀ j v, K[j]? = some v → wr.cell? ⟨b, off + k * 18 + j, none⟩ = some v) := h_ (fun j v hj => hS.out.kept.cell (hcb j v hj) id)
   obtain ⟨xb, hxb⟩ : ∃ xb, wr.heap.size = xb := ⟨_, rfl⟩
   obtain ⟨w3, hw3⟩ : ∃ w3, (wr.alloc (.cells Y.toArray 61)).setRow xb K.toArray = w3 := ⟨_, rfl⟩
   have k3 : Kept (fun _ => False) wr w3 := by rw [← hw3]; exact ((Kept.refl _ _).alloc _).setRowNew (by omega) _
   have q3 : w3.heap[xb]? = some (.cells K.toArray 61 (0, 0)) := by rw [← hw3, ← hxb]; exact setRow_heap _ _ _ _ _ _ (heap_alloc_new _ _)
   obtain ⟨i30, _, i32⟩ := item_box (x := x) (by rw [hK]; exact q3)
   rw [hn] at i30
   rw [hC] at i32
   have hlb := h_ i32
   have qJ : Hid (w3.heap[mb]? = some (.cells J.toArray 37 (0, 0))) := h_ (by rw [← hJ]; exact k3.get hS.out.box id)
   obtain ⟨w4, hw4⟩ : ∃ w4, w3.setRow mb (J.take (n * 16) ++ (C ++ J.drop (n * 16 + 16))).toArray = w4 := ⟨_, rfl⟩
   have k34 : Kept (fun j => j = mb) w3 w4 := by rw [← hw4]; exact Kept.setRow (S := fun j => j = mb) (Kept.refl _ _) rfl _
   have hord := hlt.out
   have S4 : Hid (ClSt w mb rb (itemsW (l.take (k + 1)) f) w4) := h_ ⟨by rw [hfin, hup, ← hw4]; exact setRow_heap _ _ _ _ _ _ qJ.out, k34.get (k3.get hS.out.res id) (by omega), (hS.out.kept.trans k3).trans_new k34 (fun i hi e => by omega)⟩
   have hw3' := h_ hw3
   have hw4' := h_ hw4
   have hxb' := h_ hxb
   clear hI hx hcb hb hBk hfin hg hJ hup hw3 hw4 k3 q3 k34 hS hord hx0 hx1 hn64 hxr hxo hK hC hxb i32 hn
   go_wp2_with (first | (refine wpList_load_agg 61 rfl rfl rfl _ Tryz.underlying61 rfl K (by rw [hKl.out]; exact item_size) hcb'.out ?_) | (refine wpList_store_agg 35 rfl rfl (g := mb) (off := n * 16) (by rfl) C rfl (by rw [hCl.out]; exact block_size) 37 J.toArray qJ.out (by simp [hJl.out, hCl.out]; omega) hC1.out ?_; rw [hCl.out]; simp only [List.append_assoc]; rw [hw4'.out]) | (refine wpList_alloc_as 61 rfl rfl Y.toArray hYz.out ?_; rw [hxb'.out]) | (refine wpList_store_whole 61 rfl rfl rfl K rfl (by rw [hKl.out]; exact item_size) 61 Y.toArray (by rw [← hxb'.out]; exact heap_alloc_new _ _) (by simp [hYl.out, hKl.out]) hK1.out ?_; rw [hw3'.out]) | (refine wpList_load_agg 35 rfl rfl rfl _ Tryz.underlying35 rfl C (by rw [hCl.out]; exact block_size) hlb.out ?_))
   go_roundw
   case rel => exact ⟨k + 1, by omega, by go_num, S4⟩
   case measure => simp [intOf]; omega
  ·have hkk : k = l.length := by omega
   subst hkk
   have hki : ¬ ((l.length : Int) < (l.length : Int)) := by omega
   have hS := hI.out
   rw [List.take_length] at hS
   have hBk := itemsW_bytes hB'.out l (fun y hy => (hok'.out y hy).2)
   obtain ⟨g, hg⟩ : ∃ g, itemsW l f = g := ⟨_, rfl⟩
   rw [hg] at hS hBk
   obtain ⟨J, hJ⟩ : ∃ J, imgCells g = J := ⟨_, rfl⟩
   have hJl : Hid (J.length = 1024) := h_ (by rw [← hJ]; exact imgCells_len hBk)
   have hgJ : Hid (imgCells (itemsW l f) = J) := h_ (by rw [hg, hJ])
   have hJ1 : Hid (∀ v ∈ J, v.oneCell' = true) := h_ (by rw [← hJ]; exact byteCells_one _)
   have hlm : Hid (∀ j v, J[j]? = some v → wr.cell? ⟨mb, 0 + j, none⟩ = some v) := h_ (fun j v hj => by rw [Nat.zero_add, cell_of_heap hS.box, hJ]; simpa using hj)
   have qZ : Hid (wr.heap[rb]? = some (.cells Z.toArray 37 (0, 0))) := h_ (by rw [← hZ'.out]; exact hS.res)
   have hk4 := h_ hS.kept
   clear hI hS hBk hg hJ
   go_wp2_with (first | (refine wpList_load_agg 37 rfl rfl rfl _ Tryz.underlying37 rfl J (by rw [hJl.out]; exact img_size) hlm.out ?_) | (refine wpList_store_whole 37 rfl rfl rfl J rfl (by rw [hJl.out]; exact img_size) 37 Z.toArray qZ.out (by simp [hZl.out, hJl.out]) hJ1.out ?_))
   refine bodyPost_ret (results_row1 rfl _ _ rb 37 J.toArray (0, 0) _ rfl (setRow_heap _ _ _ _ 37 (0, 0) qZ.out) Tryz.underlying37 rfl (by simp only [List.size_toArray]; rw [hJl.out]; exact img_size)) rfl ?_
   exact ⟨by rw [hgJ.out], hk4.out.setRowNew (by have := hlt.out; omega) _⟩

section
variable {n k : Nat} {M : SM} {is : List IM} {i : IM}
theorem DelP.copy (h : DelP n M is) (hn : n ≤ 240) (hi : is[k]? = some i) (h5 : is.length ≤ 5) :
  (if i.root = -1 then 0 else (M.hold i.root).2) = 0 ∧ DelP n (if i.root = -1 then M else (M.hold i.root).1) (is ++ [i]) ∧ (if i.root = -1 then M else (M.hold i.root).1).pool.size = M.pool.size := by
 have hr : i ∈ is := List.mem_of_getElem? hi
 have hI := h.imgs.img i hr
 have rest : ∀ M', Imgs 1 M' (is ++ [i]) → M'.log.length ≤ M.log.length → Gone M.pool.size [] M' → M'.pool.size = M.pool.size → DelP n M' (is ++ [i]) := fun M' hI' hl hg hs => by
  refine ⟨hI', fun j hj => ?_, fun j hj => ?_, fun j hj => ?_, by rw [List.length_append]; show is.length + 1 ≤ 6; omega, by have := h.log; omega, by rw [hs]; exact hg⟩
  ·rcases List.mem_append.1 hj with hj | hj
   ·exact h.bytes j hj
   ·rw [List.mem_singleton.1 hj]; exact h.bytes i hr
  ·rcases List.mem_append.1 hj with hj | hj
   ·exact h.nodup j hj
   ·rw [List.mem_singleton.1 hj]; exact h.nodup i hr
  ·rcases List.mem_append.1 hj with hj | hj
   ·exact h.puts j hj
   ·rw [List.mem_singleton.1 hj]; exact h.puts i hr
 by_cases e : i.root = -1
 ·rw [if_pos e, if_pos e]
  refine ⟨rfl, rest M ⟨?_, h.imgs.loose, fun j hj => ?_⟩ (Nat.le_refl _) h.gone rfl, rfl⟩
  ·refine exact_congr h.imgs.exact fun p _ => ?_
   unfold extL
   rw [List.map_append, List.count_append]
   have : List.count ((p : Nat) : Int) (List.map (·.root) [i]) = 0 := List.count_eq_zero.2 (fun hm => by
    simp only [List.map_cons, List.map_nil, List.mem_singleton] at hm
    omega)
   rw [this]
   rfl
  ·rcases List.mem_append.1 hj with hj | hj
   ·exact h.imgs.img j hj
   ·rw [List.mem_singleton.1 hj]; exact hI
 ·rw [if_neg e, if_neg e]
  rcases hI.tree.root with ⟨e', _⟩ | ⟨hh, t, _⟩
  ·exact absurd e' e
  ·have hheld := t.held
   obtain ⟨c, hc⟩ := Int.eq_ofNat_of_zero_le (heldB_int hheld).1
   have hlive : M.live c = true := by have := (heldB_int hheld).2; rw [hc, Int.toNat_natCast] at this; exact this
   obtain ⟨_, nn, _, _, hok, hnode, hN, _⟩ := tr_get t
   rw [hc, Int.toNat_natCast] at hnode
   have hkind : nn.kind ≠ 1 := by rcases hN with ⟨_, k2, _⟩ | ⟨_, k3, _⟩ <;> omega
   have hocc : ∀ j ∈ is, occ j.l c = 0 := fun j hj => by
    unfold occ
    rw [List.countP_eq_zero]
    intro y hy hye
    obtain ⟨d, hd, hd1, _⟩ := (h.imgs.img j hj).data y hy
    have : y.2 = (c : Int) := by simpa using hye
    rw [this, Int.toNat_natCast, hnode] at hd
    cases hd
    exact hkind hd1
   have hrefs := imgs_refs h.imgs (fun j hj => by have := h.puts j hj; omega) c
   have hsum : (is.map fun j => 5 + occ j.l c).sum ≤ 5 * is.length := by
    have key : ∀ js : List IM, (∀ j ∈ js, j ∈ is) → (js.map fun j => 5 + occ j.l c).sum ≤ 5 * js.length := by
     intro js
     induction js with
     | nil => intro _; exact Nat.le_refl _
     | cons j js ih =>
      intro hj
      have := ih (fun x hx => hj x (List.mem_cons_of_mem _ hx))
      rw [List.map_cons, List.sum_cons, hocc j (hj j (List.mem_cons_self ..)), List.length_cons]
      omega
    exact key is (fun j hj => hj)
   have hcnt := h.imgs.exact.cnt c (live_lt hlive)
   have hext : extL (is.map (·.root)) c ≤ is.length := by
    unfold extL
    have : List.count (c : Int) (is.map (·.root)) ≤ (is.map (·.root)).length := List.count_le_length
    rw [List.length_map] at this
    exact this
   obtain ⟨hhold, E', hlv⟩ := holdE_ok h.imgs.exact hlive (by omega)
   rw [hc, hhold]
   have g : Grown M ⟨M.pool.setCnt c (M.pool.cnt c + 1), M.log⟩ := ⟨rfl, fun q hq => by rw [hlv]; exact hq, fun q _ => rfl⟩
   have all : ∀ j, Img 1 M j → Img 1 ⟨M.pool.setCnt c (M.pool.cnt c + 1), M.log⟩ j := fun j hJ => ⟨hJ.tree.grown g, hJ.data, hJ.zero⟩
   have hgo : Gone M.pool.size [] ⟨M.pool.setCnt c (M.pool.cnt c + 1), M.log⟩ := by
    have := (gone_closed M.pool.size []).hold M i.root h.gone
    have e2 : (M.hold i.root).1 = ⟨M.pool.holdTo i.root, M.log⟩ := rfl
    rw [← e2, hc, hhold] at this
    exact this
   refine ⟨rfl, rest _ ⟨?_, fun q hq hq0 => ?_, fun j hj => ?_⟩ (Nat.le_refl _) hgo rfl, rfl⟩
   ·refine exact_congr E' fun p _ => ?_
    unfold incE extL
    rw [List.map_append, List.count_append]
    have : List.count ((p : Nat) : Int) (List.map (·.root) [i]) = if p = c then 1 else 0 := by
     simp only [List.map_cons, List.map_nil]
     rw [List.count_singleton, hc]
     by_cases hp : p = c
     ·subst hp; simp
     ·have : ((c : Int) == (p : Int)) = false := by rw [beq_eq_false_iff_ne]; omega
      rw [this, if_neg hp]
      rfl
    rw [this]
    by_cases hp : p = c
    ·simp [hp]
    ·simp [hp]
   ·rw [hlv] at hq
    have : M.pool.cnt q = 0 := by
     have h0 : (if q = c then M.pool.cnt c + 1 else M.pool.cnt q) = 0 := hq0
     split at h0
     ·omega
     ·exact h0
    exact h.imgs.loose q hq this
   ·rcases List.mem_append.1 hj with hj | hj
    ·exact all j (h.imgs.img j hj)
    ·rw [List.mem_singleton.1 hj]; exact all i hI
end
structure DlSt (w0 : World) (vb sb : Nat) (n : Nat) (is : List IM) (wr : World) (A : SA) (M : SM) : Prop where
 own : OwnStore w0 A M wr
 var : ImVar wr A vb sb
 del : DelP n M is
 size : M.pool.size = 240
section
variable {w0 wr w' : World} {vb sb n : Nat} {is is' : List IM} {A A' : SA} {M M' : SM}
theorem DlSt.fresh (h : DlSt w0 vb sb n is wr A M) (k : Kept (fun _ => False) wr w') : DlSt w0 vb sb n is w' A M := ⟨h.own.fresh k, h.var.fresh k, h.del, h.size⟩
theorem DlSt.to (h : DlSt w0 vb sb n is wr A M) {n' : Nat} (k : StoreTo A A' M' wr w') (d : DelP n' M' is') (hs : M'.pool.size = M.pool.size) : DlSt w0 vb sb n' is' w' A' M' := ⟨h.own.to k, h.var.to k, d, hs.trans h.size⟩
theorem DlSt.load (h : DlSt w0 vb sb n is wr A M) : ∀ j v, [Value.pointer (some ⟨sb, 0, none⟩)][j]? = some v → wr.cell? ⟨vb, 0 + j, none⟩ = some v := h.var.load
theorem DlSt.items (h : DlSt w0 vb sb n is wr A M) {v : Value} {l : List ItemM} (hv : ItemsAt w0 v l) : ItemsOff wr A v l := by
 refine ⟨SliceAt.fresh hv h.own.kept, fun hl b hb => ?_⟩
 obtain ⟨b', hb', hlt⟩ := SliceAt.block hv (by have := List.length_pos_iff.2 hl; omega)
 rw [hb] at hb'
 cases hb'
 exact ⟨Nat.lt_of_lt_of_le hlt h.own.kept.size, fun e => by have := h.own.new b (.inl e); omega⟩
theorem items_made {w w' : World} (h : StoreAt w A M) {v : Value} {m : Nat} {l : List ItemM} (hrow : w'.ownsRow w.heap.size 61 18 v m (l.flatMap itemCells)) (hm : m = l.length) : ItemsOff w' A v l := by
 subst hm
 exact ⟨SliceAt.of_owns hrow, fun _ b hb => ⟨(hrow.lt b hb).2, fun e => by have := h.lt (.inl e); have := (hrow.lt b hb).1; omega⟩⟩
end
theorem blocks_same {f g : Int → List Nat} (h : ∀ key, 0 ≤ key → key < 64 → f key = g key) : imgBytes f = imgBytes g := by
 unfold imgBytes blocksOf
 congr 1
 refine List.map_congr_left fun k hk => ?_
 have := List.mem_range.1 hk
 exact h k (by omega) (by omega)
theorem cells_same {f g : Int → List Nat} (h : ∀ key, 0 ≤ key → key < 64 → f key = g key) : imgCells f = imgCells g := by
 unfold imgCells
 rw [blocks_same h]

section
variable {w0 wr : World} {vb sb n : Nat} {is : List IM} {A : SA} {M : SM} {i j : IM}
theorem dl_apply (S : DlSt w0 vb sb n is wr A M) (hn : n ≤ 1000) (root : Int) {v : Value} {l : List ItemM} (hv : ItemsOff wr A v l) (hl : l.length ≤ 1000) (hok : ∀ x ∈ l, x.ok) {M' : SM} {next : Int} {er : Nat} (hE : M.deliver root l = (M', next, er)) :
  Calls Tryz.prog 29 #[.agg #[.pointer (some ⟨sb, 0, none⟩)], .int .i64 root, v] wr fun e w' => ∃ A', e = .returned (.tuple #[.int .i64 next, .int .i64 er]) ∧ StoreTo A A' M' wr w' := by
 have hlog := S.del.log
 have h := deltaApply S.own.store root hv hl hok (by omega)
 rw [hE, S.var.eq] at h
 exact h
theorem dl_items (S : DlSt w0 vb sb n is wr A M) (hn : n ≤ 240) (hi : i ∈ is) (hj : j ∈ is) :
  Calls Tryz.prog 46 #[.agg #[.pointer (some ⟨sb, 0, none⟩)], .int .i64 i.root, .int .i64 j.root] wr fun e w' => ∃ v, e = .returned (.tuple #[v, .int .i64 0]) ∧ ItemsOff w' A v (itemsOf j.w (changesL i.l j.l)) ∧ Kept (fun _ => False) wr w' := by
 have I := S.del.imgs.img i hi
 have J := S.del.imgs.img j hj
 have hP := S.del.puts i hi
 have hQ := S.del.puts j hj
 have hB := S.del.bytes j hj
 have h := deltaItems S.own.store (rootis_img I S.del.imgs.exact (by omega)) (rootis_img J S.del.imgs.exact (by omega)) hB (fun key k0 k1 => ⟨J.tree.find S.del.imgs.exact (by omega) key, img_pageOf J S.del.imgs.exact hB k0 k1⟩)
 rw [S.var.eq] at h
 refine h.mono fun e w' ⟨v, he, hrow, hk⟩ => ⟨v, he, items_made S.own.store hrow (itemsOf_len _ _).symm, hk⟩
theorem dl_copy (S : DlSt w0 vb sb n is wr A M) (hn : n ≤ 240) {k : Nat} (hi : is[k]? = some i) (h5 : is.length ≤ 5) :
  Calls Tryz.prog 27 #[.agg #[.pointer (some ⟨sb, 0, none⟩)], .int .i64 i.root] wr fun e w' => e = .returned (.tuple #[.int .i64 i.root, .int .i64 0]) ∧ ∃ M', DlSt w0 vb sb n (is ++ [i]) w' A M' ∧ StoreTo A A M' wr w' := by
 have h := imageCopy S.own.store i.root
 obtain ⟨c1, c2, c3⟩ := S.del.copy hn hi h5
 rw [S.var.eq, c1] at h
 have hr : (if i.root = -1 then i.root else if (M.hold i.root).2 = 0 then i.root else -1) = i.root := by
  by_cases e : i.root = -1
  ·rw [if_pos e]
  ·rw [if_neg e] at c1 ⊢
   rw [c1, if_pos rfl]
 rw [hr] at h
 exact h.mono fun e w' ⟨he, hT⟩ => ⟨he, _, S.to hT c2 c3, hT⟩
theorem dl_sum (S : DlSt w0 vb sb n is wr A M) (hn : n ≤ 240) (hi : i ∈ is) :
  Calls Tryz.prog 22 #[.agg #[.pointer (some ⟨sb, 0, none⟩)], .int .i64 i.root] wr fun e w' => e = .returned (.tuple #[.int .u32 (crcOf (imgBytes i.w)), .int .i64 0]) ∧ Kept (fun _ => False) wr w' := by
 have hP := S.del.puts i hi
 have h := imageSum S.own.store (S.del.imgs.img i hi) S.del.imgs.exact (by omega) (S.del.bytes i hi)
 rw [S.var.eq] at h
 exact h
theorem dl_all (S : DlSt w0 vb sb n is wr A M) (hn : n ≤ 240) (hi : i ∈ is) :
  Calls Tryz.prog 44 #[.agg #[.pointer (some ⟨sb, 0, none⟩)], .int .i64 i.root] wr fun e w' => ∃ gb, e = .returned (.tuple #[.slice (some ⟨gb, 0, none⟩) 64 64, .int .i64 0]) ∧ wr.heap.size ≤ gb ∧
   w'.heap[gb]? = some (.cells (imgCells i.w).toArray 35 (0, 0)) ∧ Kept (fun _ => False) wr w' := by
 have hP := S.del.puts i hi
 have h := imageAll S.own.store (S.del.imgs.img i hi) S.del.imgs.exact (by omega) (S.del.bytes i hi)
 rw [S.var.eq] at h
 exact h
theorem dl_live (S : DelP n M is) (hn : n ≤ 240) : ∃ G : List Nat, ∀ q, M.live q = true → q ∈ G := (S.pages hn).imp fun _ h => h.1
end
end Go.Proofs.YtidlchciehdefaaGreat
