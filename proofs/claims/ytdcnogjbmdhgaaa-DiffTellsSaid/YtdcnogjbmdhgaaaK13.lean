/-
 What pages of the pool hold (package leaf): a node as a page.
-/
import Derived.Test.YtdcnogjbmdhgaaaK12
import Derived.Laws.CopyOwn
set_option linter.unusedVariables false
set_option linter.unusedSimpArgs false
namespace Go.Proofs.Ytdcnogjbmdhgaaa
open Go.RowKit
set_option maxRecDepth 100000

theorem bytes_any {w : World} {n : NM} {sv : Value} (h : EntsAt w sv n.ents) (hok : n.ok) :
  Calls Try.prog 55 #[.agg (nodeCells n sv).toArray] w fun e w' => ∃ u, e = .returned u ∧ w'.ownsRow w.heap.size 5 1 u (bytesOf n).length (byteCells (bytesOf n)) ∧ Kept (fun _ => False) w w' := by
 by_cases hk : n.kind = 1
 ·exact bytes_data hk hok.2.1
 ·have h1 := hok.1
  unfold NM.rightB at h1
  rw [if_neg hk] at h1
  by_cases hk2 : n.kind = 2 ∨ n.kind = 3
  ·rw [if_pos hk2] at h1
   simp only [Bool.and_eq_true, risesB, decide_eq_true_eq] at h1
   exact bytes_ents h rfl hk2 h1.2.2 (fun x hx => hok.entry hx)
  ·rw [if_neg hk2] at h1; cases h1
theorem bytesOf_lt {n : NM} (hok : n.ok) : (∀ b ∈ bytesOf n, b < 256) ∧ (bytesOf n).length ≤ 17 := by
 unfold bytesOf
 by_cases hk : n.kind = 1
 ·rw [if_pos hk]
  refine ⟨fun b hb => ?_, by simp [hok.2.1]⟩
  simp only [List.mem_cons] at hb
  rcases hb with rfl | hb
  ·omega
  ·exact hok.2.2 b hb
 ·rw [if_neg hk]
  have h1 := hok.1
  unfold NM.rightB at h1
  rw [if_neg hk] at h1
  by_cases hk2 : n.kind = 2 ∨ n.kind = 3
  ·rw [if_pos hk2] at h1
   simp only [Bool.and_eq_true, risesB, decide_eq_true_eq] at h1
   have h6 := h1.2.2
   refine ⟨fun b hb => ?_, ?_⟩
   ·simp only [List.mem_cons, List.mem_flatMap] at hb
    rcases hb with rfl | rfl | ⟨x, hx, hb⟩
    ·omega
    ·omega
    ·have := hok.entry hx
     simp at hb
     omega
   ·have := entBytes_len n.ents
    unfold entBytes at this
    simp only [List.length_cons, this]
    omega
  ·rw [if_neg hk2] at h1; cases h1
theorem sealOf_lt {l : List Nat} (h : ∀ b ∈ l, b < 256) : (∀ b ∈ sealOf l, b < 256) ∧ (sealOf l).length = l.length + 4 := by
 obtain ⟨h1, h2⟩ := crcOf_in l
 refine ⟨fun b hb => ?_, by simp [sealOf, tailOf]⟩
 rcases List.mem_append.1 hb with hb | hb
 ·exact h b hb
 ·exact tailOf_lt _ h1 h2 b hb

def pageOf (n : NM) : Nat → Nat := fun i => (sealOf (bytesOf n)).getD i 0
theorem pageOf_cells {n : NM} (hok : n.ok) : splice (pageCells zeroPage) 0 (byteCells (sealOf (bytesOf n))) = pageCells (pageOf n) := by
 have h1 := (bytesOf_lt hok).2
 have h2 := (sealOf_lt (bytesOf_lt hok).1).2
 apply List.ext_getElem?
 intro i
 unfold splice
 rw [List.take_zero, List.nil_append, Nat.zero_add, byteCells_len]
 by_cases hi : i < (sealOf (bytesOf n)).length
 ·rw [List.getElem?_append_left (by rw [byteCells_len]; exact hi), byteCells_get _ _ hi]
  simp [pageCells, pageOf, show i < 256 by omega]
 ·rw [List.getElem?_append_right (by rw [byteCells_len]; omega), byteCells_len, List.getElem?_drop]
  have e : (sealOf (bytesOf n)).length + (i - (sealOf (bytesOf n)).length) = i := by omega
  rw [e]
  by_cases hi2 : i < 256
  ·simp [pageCells, zeroPage, pageOf, hi2, show (sealOf (bytesOf n))[i]? = none from List.getElem?_eq_none (by omega)]
  ·rw [List.getElem?_eq_none (by rw [pageCells_len]; omega), List.getElem?_eq_none (by rw [pageCells_len]; omega)]

theorem step_copy_row {ops : Array Oper} {o : Oper} {a : Act} {w : World} {K : Act → World → Prop} {Q : Exit → Act → World → Prop} {E : Prop} (hgd : o.guard = none) (d s : Operand)
  (ho : o.op = .call { callee := .builtin .copy, args := #[d, s], argTypes := #[119, 119] })
  {g off dLen dCap sg so sLen sCap : Nat} (hd : a.eval d = .slice (some ⟨g, off, none⟩) dLen dCap) (hs : a.eval s = .slice (some ⟨sg, so, none⟩) sLen sCap)
  {cur cs : List Value} {t : TypeId} (hg : w.heap[g]? = some (.cells cur.toArray t (0, 0))) (hn : cs.length = Nat.min sLen dLen)
  (hsrc : ∀ j v, cs[j]? = some v → w.cell? ⟨sg, so + j, none⟩ = some v) (hfit : off + cs.length ≤ cur.length) (h1 : ∀ v ∈ cs, v.oneCell' = true)
  (h : ∀ w', w'.heap[g]? = some (.cells (splice cur off cs).toArray t (0, 0)) → Kept (fun k => k = g) w w' → K (a.put o.dst (goInt cs.length)) w') :
  if Region.wanted o (yielded ops a.tmps) = true then Oper.wp Try.prog o a w K Q else E := by
 have hw : Region.wanted o (yielded ops a.tmps) = true := by simp [Region.wanted, hgd]
 rw [if_pos hw]
 have hrun := run_copy_row (P := Try.prog) w 119 119 o.type 5 g off dLen dCap ⟨sg, so, none⟩ sLen sCap cur.toArray t cs Try.underlying119 (by kernel_rfl) hg hn (fun j v hj => by rw [addr_add]; exact hsrc j v hj) (by simpa using hfit) h1
 unfold Oper.wp
 simp [execOp, ho, resolve, invoke, builtin, hd, hs, hrun, Result.andThen]
 exact h _ (by simpa [splice] using setRow_heap w g _ _ t _ hg) (Kept.setRow (S := fun k => k = g) (Kept.refl _ _) rfl _)
theorem NodeBox.kept {S : Nat → Prop} {w w' : World} {b : Nat} {n : NM} {sv : Value} (h : NodeBox w b n sv) (k : Kept S w w') (hs : ¬ S b) : NodeBox w' b n sv := ⟨k.get h.heap hs⟩
theorem NodeBox.range {w : World} {b : Nat} {n : NM} {sv : Value} (h : NodeBox w b n sv) : w.rangeAt b 0 (nodeCells n sv) := fun j v hj => h.all j v hj

theorem PartsAt.one {w : World} {base : Nat} {u : Value} {l : List Nat} (h : w.ownsRow base 5 1 u l.length (byteCells l)) (hlt : ∀ b ∈ l, b < 256) :
  PartsAt (w.alloc (.cells #[u] 119)) (.slice (some ⟨w.heap.size, 0, none⟩) 1 1) [l] [u] := by
 have hs := (SliceAt.of_owns h).fresh ((Kept.refl (fun _ => False) w).alloc (.cells #[u] 119))
 refine ⟨rfl, SliceAt.block_new (ys := [u]) (heap_alloc_new _ _) (by rfl) (by decide), fun i v l' hv hl => ?_⟩
 cases i with
 | zero => simp at hv hl; subst hv hl; exact ⟨hs, hlt⟩
 | succ i => simp at hv
theorem SliceAt.cell0 {w : World} {g n cap sz : Nat} {xs : List Value} (h : SliceAt w (.slice (some ⟨g, 0, none⟩) n cap) sz n xs) {j : Nat} {v : Value} (hj : xs[j]? = some v) : w.cell? ⟨g, 0 + j, none⟩ = some v := by
 obtain ⟨_, A, c, hv, _, _, hc⟩ := h
 cases hv
 obtain ⟨b, off, hA, hh⟩ := hc j v hj
 cases hA
 exact hh

set_option maxHeartbeats 2000000 in
theorem page_ok {w : World} {n : NM} {sv : Value} (h : EntsAt w sv n.ents) (hok : n.ok) :
  Calls Try.prog 35 #[.agg (nodeCells n sv).toArray] w fun e w' => e = .returned (.tuple #[.agg (pageCells (pageOf n)).toArray, .int .i64 0]) ∧ Kept (fun _ => False) w w' := by
 obtain ⟨A, cap, rfl, hc1, hc2⟩ := h.form
 unfold maxLen at hc2
 obtain ⟨cs, hcs⟩ : ∃ cs, nodeCells n (.slice A n.ents.length cap) = cs := ⟨_, rfl⟩
 obtain ⟨zs, hzs⟩ : ∃ zs, pageCells zeroPage = zs := ⟨_, rfl⟩
 obtain ⟨w1, hw1⟩ : ∃ w1, w.alloc (.cells cs.toArray 71) = w1 := ⟨_, rfl⟩
 obtain ⟨w2, hw2⟩ : ∃ w2, w1.alloc (.cells zs.toArray 98) = w2 := ⟨_, rfl⟩
 obtain ⟨w3, hw3⟩ : ∃ w3, w2.alloc (.cells zs.toArray 98) = w3 := ⟨_, rfl⟩
 have k1 : Kept (fun _ => False) w w1 := by rw [← hw1]; exact (Kept.refl _ _).alloc _
 have k2 : Kept (fun _ => False) w1 w2 := by rw [← hw2]; exact (Kept.refl _ _).alloc _
 have k3 : Kept (fun _ => False) w2 w3 := by rw [← hw3]; exact (Kept.refl _ _).alloc _
 have s1 : w1.heap.size = w.heap.size + 1 := by rw [← hw1]; simp
 have s2 : w2.heap.size = w.heap.size + 2 := by rw [← hw2]; simp [s1]
 have s3 : w3.heap.size = w.heap.size + 3 := by rw [← hw3]; simp [s2]
 have bx1 : NodeBox w1 w.heap.size n (.slice A n.ents.length cap) := ⟨by rw [hcs, ← hw1]; exact heap_alloc_new _ _⟩
 have bx3 := (bx1.kept k2 id).kept k3 id
 have p2 : w2.heap[w.heap.size + 1]? = some (.cells zs.toArray 98 (0, 0)) := by rw [← hw2, ← s1]; exact heap_alloc_new _ _
 have p2' := k3.get p2 id
 have p3 : w3.heap[w.heap.size + 2]? = some (.cells zs.toArray 98 (0, 0)) := by rw [← hw3, ← s2]; exact heap_alloc_new _ _
 have hLc : Hid (cs.length = 18) := h_ (by rw [← hcs]; exact nodeCells_len _ _)
 have hLz : Hid (zs.length = 256) := h_ (by rw [← hzs]; exact pageCells_len _)
 have hZ1 : Hid (∀ v ∈ zs, v.oneCell' = true) := h_ (by rw [← hzs]; exact pageCells_one _)
 have hZ : Hid ((Try.prog.info? 98).map (·.zero) = some (some (.agg zs.toArray))) := h_ (by rw [← hzs]; exact page_zero)
 have hall : Hid (∀ j v, cs[j]? = some v → w3.cell? ⟨w.heap.size, 0 + j, none⟩ = some v) := h_ (by rw [← hcs]; exact bx3.all)
 have hrange : Hid (∀ W, Kept (fun _ => False) w3 W → W.rangeAt w.heap.size 0 cs) := h_ (fun W k => by rw [← hcs]; exact (bx3.kept k id).range)
 have hR := right_any ((h.fresh (k1.trans k2)).fresh k3) hok.2.1
 rw [hok.1, hcs] at hR
 have hR' := h_ hR; clear hR
 have hB : Hid (∀ W, Kept (fun _ => False) w3 W → Calls Try.prog 55 #[.agg cs.toArray] W fun e w' => ∃ u, e = .returned u ∧ w'.ownsRow W.heap.size 5 1 u (bytesOf n).length (byteCells (bytesOf n)) ∧ Kept (fun _ => False) W w') :=
  h_ (fun W k => by rw [← hcs]; exact bytes_any (((h.fresh (k1.trans k2)).fresh k3).fresh k) hok)
 obtain ⟨hlt, hln⟩ := bytesOf_lt hok
 obtain ⟨_, hsl⟩ := sealOf_lt hlt
 have hbp : 0 < (bytesOf n).length := by unfold bytesOf; split <;> simp
 have hP : Hid (splice zs 0 (byteCells (sealOf (bytesOf n))) = pageCells (pageOf n)) := h_ (by rw [← hzs]; exact pageOf_cells hok)
 rw [hcs]
 have kall := h_ ((k1.trans k2).trans k3)
 have hw1' := h_ hw1
 have hw2' := h_ hw2
 have hw3' := h_ hw3
 have p2'' := h_ p2'
 have p3' := h_ p3
 have hlt' := h_ hlt
 have hsl' := h_ hsl
 have s1' := h_ s1
 have s2' := h_ s2
 have s3' := h_ s3
 have hfin := h_ (pageCells_len (pageOf n))
 have hone := h_ (pageCells_one (pageOf n))
 obtain ⟨bs, hbs⟩ : ∃ bs, bytesOf n = bs := ⟨_, rfl⟩
 rw [hbs] at hB hlt' hsl' hP hln hbp
 obtain ⟨pc, hpc⟩ : ∃ pc, pageCells (pageOf n) = pc := ⟨_, rfl⟩
 rw [hpc] at hP hfin hone ⊢
 clear hcs hzs hw1 hw2 hw3 k1 k2 k3 s1 s2 s3 bx1 bx3 p2 p2' p3 hlt hsl h hok hbs hpc
 go_enter Try.func35, Try.ntmps35
 go_wp2_with (first | (refine wpList_box_named 71 rfl rfl _ rfl hw1'.out ?_) | (refine wpList_alloc_as 98 rfl rfl zs.toArray hZ.out ?_; first | (rw [hw2'.out, s1'.out]) | (rw [hw3'.out, s2'.out])) | (refine wpList_load_agg 71 rfl rfl rfl _ Try.underlying71 rfl cs (by rw [hLc.out]; exact node_size) hall.out ?_))
 refine hR'.out.mono ?_
 rintro e w4 ⟨rfl, hk4⟩
 have hk4' := h_ hk4
 have hS4 := hrange.out _ hk4
 have hu : Try.prog.underlying 71 = some _ := Try.underlying71
 have hi18 : (Try.prog.info? 71).map (·.size) = some cs.length := by rw [hLc.out]; exact node_size
 clear hk4
 go_wp2_with fail
 refine wp_region_any (by kernel_rfl) ?_
 change wpAny _ _ _ _ _ _ _ (World.drew _)
 refine wpAny_take (i := 0) (v := .slice (some ⟨w.heap.size + 2, 0, none⟩) 256 256) rfl (by kernel_rfl) (by kernel_rfl) (by kernel_rfl) (fun _ _ _ h => h) (.inl ⟨by rfl, fun w => by go_simp⟩) ?_
 simp only [Act.put, q1_, q2_, q3_, List.setIfInBounds_toArray, q5_, q6_]
 refine wpAny_ready (rs := [1]) (by kernel_rfl) (by simp) ?_
 refine AllReady.cons rfl (fun K hK => ?_) ?_
 ·rw [if_pos (by rfl)]
  simp only [Go.wp_at_zero, Go.wp_at_succ]
  refine wp_load_mid 71 (.tmp 1) rfl w.heap.size 0 (by rfl) cs _ (hrange.out _ hk4'.out.drew) Try.underlying71 rfl (by rw [hLc.out]; exact node_size) ?_
  refine hK _ _ ?_
  clear hK K
  try simp only [Act.put, q1_, q2_, q3_, List.setIfInBounds_toArray, q5_, q6_]
  refine wpAny_ready (rs := [2]) (by kernel_rfl) (by simp) ?_
  refine AllReady.cons rfl (fun K hK => ?_) ?_
  ·rw [if_pos (by rfl)]
   simp only [Go.wp_at_zero, Go.wp_at_succ]
   go_simp
   refine (hB.out _ hk4'.out.drew).mono ?_
   rintro e w5 ⟨u, rfl, hown5, hk5⟩
   obtain ⟨g5, cp5, cur5, rfl, hg5, hh5, hc5, hm5, hz5, ht5⟩ := owns_some hown5 (by omega)
   have hP5 := h_ (PartsAt.one hown5 hlt'.out)
   have hk5' := h_ (hk4'.out.drew.trans hk5)
   clear hk5 hown5 hg5 hh5 hc5 hm5 hz5 ht5
   refine hK _ _ ?_
   clear hK K
   try simp only [Act.put, q1_, q2_, q3_, List.setIfInBounds_toArray, q5_, q6_]
   refine wpAny_ready (rs := [3]) (by kernel_rfl) (by simp) ?_
   refine AllReady.cons rfl (fun K hK => ?_) ?_
   ·rw [if_pos (by rfl)]
    simp only [Go.wp_at_zero, Go.wp_at_succ]
    go_simp
    refine hK _ _ ?_
    clear hK K
    try simp only [Act.put, q1_, q2_, q3_, List.setIfInBounds_toArray, q5_, q6_]
    refine wpAny_ready (rs := [4]) (by kernel_rfl) (by simp) ?_
    refine AllReady.cons rfl (fun K hK => ?_) ?_
    ·rw [if_pos (by rfl)]
     simp only [Go.wp_at_zero, Go.wp_at_succ]
     go_simp
     refine (seal_any hP5.out (by simp; omega)).mono ?_
     rintro e w6 ⟨u6, rfl, hown6, hk6⟩
     have hk6' := h_ ((hk5'.out.alloc _).trans hk6)
     obtain ⟨g6, cp6, cur6, rfl, hg6, hh6, hc6, hm6, hz6, ht6⟩ := owns_some hown6 (by simp)
     have hsrc6 := h_ (SliceAt.of_owns hown6)
     clear hk6 hown6 hh6 hm6 hz6 ht6 hg6 hc6
     refine hK _ _ ?_
     clear hK K
     try simp only [Act.put, q1_, q2_, q3_, List.setIfInBounds_toArray, q5_, q6_]
     refine wpAny_ready (rs := [5]) (by kernel_rfl) (by simp) ?_
     refine AllReady.cons rfl (fun K hK => ?_) ?_
     ·refine step_copy_row rfl (.tmp 9) (.tmp 13) rfl (by rfl) (by rfl) (cur := zs) (cs := byteCells (sealOf bs)) (hk6'.out.get p3'.out id) (by rw [byteCells_len, hsl'.out]; rw [show [bs].flatten.length = bs.length by simp]; exact (Nat.min_eq_left (show bs.length + 4 ≤ 256 by omega)).symm) (fun j v hj => hsrc6.out.cell0 (by simpa using hj)) (by rw [byteCells_len, hsl'.out, hLz.out]; omega) (byteCells_one _) ?_
      intro w7 hh7 hk7
      refine hK _ _ ?_
      clear hK K
      try simp only [Act.put, q1_, q2_, q3_, List.setIfInBounds_toArray, q5_, q6_]
      refine wpAny_done (by kernel_rfl) ?_ _
      rw [hP.out] at hh7
      have hh1 := hk7.get (hk6'.out.get p2''.out id) (by omega)
      have hh7' := h_ hh7
      have hh1' := h_ hh1
      have hk8 := h_ ((kall.out.trans hk6'.out).trans_new hk7 (fun i hi e => by omega))
      clear hh7 hh1 hk7
      go_wp2_with (first | (refine wpList_load_agg 98 rfl rfl rfl _ Try.underlying98 rfl pc (by rw [hfin.out]; exact page_size) (fun j v hv => by rw [cell_of_heap hh7'.out, Nat.zero_add]; simpa using hv) ?_) | (refine wpList_store_whole 98 rfl rfl rfl pc rfl (by rw [hfin.out]; exact page_size) 98 _ hh1'.out (by rw [hfin.out]; simp [hLz.out]) hone.out ?_))
      refine bodyPost_ret (results_row_tmp rfl _ _ (w.heap.size + 1) 98 pc.toArray (0, 0) _ rfl (setRow_heap _ _ _ _ 98 (0, 0) hh1'.out) Try.underlying98 rfl (by simp only [List.size_toArray]; rw [hfin.out]; exact page_size)) rfl ?_
      exact ⟨rfl, hk8.out.setRowNew (by omega) _⟩
     exact AllReady.nil
    exact AllReady.nil
   exact AllReady.nil
  exact AllReady.nil
 exact AllReady.nil
end Go.Proofs.Ytdcnogjbmdhgaaa
