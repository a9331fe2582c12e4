/-
 Two trees held against one another: a queue; a tree's nodes, round by round (plain).
-/
import Derived.Test.YtdcnogjbmdhgaaaK18
import Derived.ArgAppend
import Derived.Laws.IdiomCopy
import Derived.WalkArith
set_option linter.unusedVariables false
set_option linter.unusedSimpArgs false
namespace Go.Proofs.Ytdcnogjbmdhgaaa
open Go.RowKit
set_option maxRecDepth 100000

theorem Kept.setCells {S : Nat → Prop} {a : World} {g : Nat} (hp : S g) : ∀ (vs : List Value) (o : Nat) (b : World), Kept S a b → Kept S a (b.setCells g o vs)
 | [], _, _, h => h
 | v :: r, o, b, h => by
  rw [World.setCells]
  exact Kept.setCells hp r (o + 1) _ (h.setCell (p := ⟨g, o, none⟩) hp v)
structure QueueAt (w : World) (base g o cap : Nat) (xs : List Int) : Prop where
 ge : base ≤ g
 lt : g < w.heap.size
 le : xs.length ≤ cap
 max : cap ≤ maxLen
 cell : ∀ j x, xs[j]? = some x → w.cell? ⟨g, o + j, none⟩ = some (.int .i64 x)
 room : ∀ j, j < cap → (w.cell? ⟨g, o + j, none⟩).isSome = true ∧ w.frozen? ⟨g, o + j, none⟩ = false
theorem QueueAt.kept {S : Nat → Prop} {w w' : World} {base g o cap : Nat} {xs : List Int} (h : QueueAt w base g o cap xs) (k : Kept S w w') (hS : ¬ S g) : QueueAt w' base g o cap xs := by
 refine ⟨h.ge, Nat.lt_of_lt_of_le h.lt k.size, h.le, h.max, fun j x hj => k.cell (h.cell j x hj) hS, fun j hj => ?_⟩
 obtain ⟨h1, h2⟩ := h.room j hj
 obtain ⟨v, hv⟩ := Option.isSome_iff_exists.1 h1
 refine ⟨by rw [k.cell hv hS]; rfl, ?_⟩
 have e := k.block g h.lt hS
 unfold World.frozen? at h2 ⊢
 simpa only [e] using h2
theorem QueueAt.pop {w : World} {base g o cap : Nat} {x : Int} {rest : List Int} (h : QueueAt w base g o cap (x :: rest)) : QueueAt w base g (if cap = 1 then o else o + 1) (cap - 1) rest := by
 have hl := h.le
 rw [List.length_cons] at hl
 refine ⟨h.ge, h.lt, by omega, by have := h.max; omega, fun j y hj => ?_, fun j hj => ?_⟩
 ·have hj' := (List.getElem?_eq_some_iff.1 hj).1
  rw [if_neg (by omega), show o + 1 + j = o + (j + 1) by omega]
  exact h.cell (j + 1) y (by simpa using hj)
 ·rw [if_neg (by omega), show o + 1 + j = o + (j + 1) by omega]
  exact h.room (j + 1) (by omega)
theorem run_pop {g o n cap : Nat} (h : n + 1 ≤ cap) (w : World) : (Instr.sliceAt 32 (.slice (some ⟨g, o, none⟩) (n + 1) cap) (some (.int .i64 1)) none none).run Try.prog w = .ok (.slice (some ⟨g, if cap = 1 then o else o + 1, none⟩) n (cap - 1)) w := by
 have hz : (sizeOf 3).run Try.prog w = .ok 1 w := run_sizeOf (by kernel_rfl) w
 by_cases e : cap = 1
 ·subst e
  obtain rfl : n = 0 := by omega
  simp [Instr.sliceAt, Instr.slice, run_underlying Try.underlying32, Instr.sliceBounds, Instr.sliceBound, asIntOf, hz]
 ·simp [Instr.sliceAt, Instr.slice, run_underlying Try.underlying32, Instr.sliceBounds, Instr.sliceBound, asIntOf, hz, addr_add, e]
  intro hh; omega
section
variable {w : World} {ops : Array Oper} {rest : List Oper} {o : Oper} {a : Act} {Q : Exit → Act → World → Prop}
theorem wpList_pop (hgd : o.guard = none) (x : Operand) (ho : o.op = .slice 32 x (some (.const (.int .i64 1))) none none) {g off n cap : Nat} (hx : a.eval x = .slice (some ⟨g, off, none⟩) (n + 1) cap) (hn : n + 1 ≤ cap)
  (h : wpList Try.prog ops Q rest (a.put o.dst (.slice (some ⟨g, if cap = 1 then off else off + 1, none⟩) n (cap - 1))) w) : wpList Try.prog ops Q (o :: rest) a w := by
 refine wpList_plain hgd fun K hK => ?_
 have hr := run_pop (g := g) (o := off) hn w
 have he : (execOp a.eval o).run Try.prog w = .ok (.value (.slice (some ⟨g, if cap = 1 then off else off + 1, none⟩) n (cap - 1))) w := by
  unfold execOp
  simp only [ho, Option.map_some, Option.map_none, hx, show a.eval (.const (.int .i64 1)) = .int .i64 1 from rfl]
  simp [hr]
 exact wp_exec he (hK _ _ h)
theorem wpList_append_q (hgd : o.guard = none) (s x : Operand) (ho : o.op = .call { callee := .builtin .append, args := #[s, x], argTypes := #[32, 32] })
  {g off n cap m c base : Nat} {ad : Addr} {xs ys : List Int} (hs : a.eval s = .slice (some ⟨g, off, none⟩) n cap) (hx : a.eval x = .slice (some ad) m c) (hn : xs.length = n) (hm : ys.length = m) (q : QueueAt w base g off cap xs)
  (hu : ∀ j y, ys[j]? = some y → w.cell? (ad.add j) = some (.int .i64 y)) (hl : n + m ≤ 100000) (hbase : base ≤ w.heap.size)
  (h : ∀ g' off' cap' w', QueueAt w' base g' off' cap' (xs ++ ys) → Kept (fun k => k = g) w w' → wpList Try.prog ops Q rest (a.put o.dst (.slice (some ⟨g', off', none⟩) (n + m) cap')) w') : wpList Try.prog ops Q (o :: rest) a w := by
 obtain ⟨i, z, hi, hz, hsz, hb2, hzs⟩ := elemInt.info
 subst hn hm
 have hle := q.le
 have hmx := q.max
 refine wpList_append_arg (P := Try.prog) w hgd s x 32 ho 3 i z 1 8 elemInt.ht hi hz hsz hb2 hzs (by omega) g off xs.length cap (xs.map (Value.int .i64)) hs (by simp) (fun j u hj => ?_)
  ad ys.length c (ys.map (Value.int .i64)) hx (by simp) (fun j u hj => ?_) (fun u hu => ?_) (fun hr j hj => ?_) (by unfold maxLen; omega) (by omega) (fun hr => ?_) (fun hg v' w' hown hgr => ?_)
 ·rw [List.getElem?_map] at hj
  cases hx : xs[j]? with
  | none => rw [hx] at hj; cases hj
  | some y => rw [hx] at hj; cases hj; exact q.cell j y hx
 ·rw [List.getElem?_map] at hj
  cases hx : ys[j]? with
  | none => rw [hx] at hj; cases hj
  | some y => rw [hx] at hj; cases hj; exact hu j y hx
 ·obtain ⟨y, _, rfl⟩ := List.mem_map.1 hu; rfl
 ·rw [List.length_map] at hj
  rw [show off + xs.length * 1 + j = off + (xs.length + j) by omega]
  exact q.room _ (by omega)
 ·have hin := fun j (hj : j < (ys.map (Value.int .i64)).length) => World.cell?_setCells_in g (ys.map (Value.int .i64)) (off + xs.length * 1) w (fun j hj => by
   rw [List.length_map] at hj
   rw [show off + xs.length * 1 + j = off + (xs.length + j) by omega]
   exact (q.room _ (by omega)).1) j hj
  have kk : Kept (fun k => k = g) w (w.setCells g (off + xs.length * 1) (ys.map (Value.int .i64))) := Kept.setCells (S := fun k => k = g) rfl _ _ _ (Kept.refl _ _)
  refine h g off cap _ ⟨q.ge, Nat.lt_of_lt_of_le q.lt kk.size, by rw [List.length_append]; exact hr, hmx, fun j y hj => ?_, fun j hj => ?_⟩ kk
  ·by_cases hjx : j < xs.length
   ·rw [List.getElem?_append_left hjx] at hj
    rw [World.cell?_setCells_out g _ _ _ _ (fun _ _ => .inl (by simp; omega))]
    exact q.cell j y hj
   ·rw [List.getElem?_append_right (by omega)] at hj
    have hlt := (List.getElem?_eq_some_iff.1 hj).1
    have := hin (j - xs.length) (by rw [List.length_map]; exact hlt)
    rw [show off + xs.length * 1 + (j - xs.length) = off + j by omega] at this
    rw [this]
    have e := (List.getElem?_eq_some_iff.1 hj).2
    simp [e]
  ·refine ⟨?_, by rw [World.frozen?_setCells]; exact (q.room j hj).2⟩
   by_cases hjx : off + j < off + xs.length * 1 ∨ off + xs.length * 1 + (ys.map (Value.int .i64)).length ≤ off + j
   ·rw [World.cell?_setCells_out g _ _ _ _ (fun _ _ => by simpa using hjx)]
    exact (q.room j hj).1
   ·have hl' : (ys.map (Value.int .i64)).length = ys.length := List.length_map ..
    have := hin (j - xs.length) (by omega)
    rw [show off + xs.length * 1 + (j - xs.length) = off + j by omega] at this
    rw [this]; rfl
 ·obtain ⟨hl', hh⟩ := hown
  rcases hh with ⟨rfl, e⟩ | ⟨g', cap', cur, rfl, h2, h3, h4, h5, h6, h7⟩
  ·exfalso
   first | omega | (simp at e; obtain ⟨rfl, rfl⟩ := e; simp at hg)
  ·refine h g' 0 cap' w' ⟨by omega, (lt_of_heap h3), by rw [List.length_append]; exact h4, h5, fun j y hj => ?_, fun j hj => ?_⟩ (Kept.of_grown (hgr.but (some g)) |>.mono (fun k e => by simpa using e.symm))
   ·have hlt := (List.getElem?_eq_some_iff.1 hj).1
    rw [List.length_append] at hlt
    have e : (cur.toList.take ((xs.length + ys.length) * 1))[j]? = some (.int .i64 y) := by
     rw [h7, ← List.map_append, List.getElem?_map, hj]; rfl
    rw [List.getElem?_take_of_lt (by omega)] at e
    rw [Nat.zero_add, cell_of_heap h3]
    simpa using e
   ·rw [Nat.zero_add]
    refine ⟨?_, free_of_heap h3 j⟩
    rw [cell_of_heap h3, Array.getElem?_eq_getElem (by omega)]
    rfl
end

inductive Below (M : SM) (root : Int) : Int → Prop
 | here : Below M root root
 | kid {x : Int} {y : Int × Int} : Below M root x → (M.get x).1.kind = 3 → y ∈ (M.get x).1.ents → Below M root y.2
structure InnerInv (M : SM) (root : Int) (seen next : List Int) : Prop where
 nodup : seen.Nodup
 len : seen.length + unseen seen ≤ 240
 sub : ∀ x ∈ seen, Below M root x ∧ x ≠ -1
 nsub : ∀ x ∈ next, Below M root x
 closed : ∀ x ∈ seen, (M.get x).1.kind = 3 → ∀ y ∈ (M.get x).1.ents, y.2 ∈ seen ∨ y.2 ∈ next
 has : root = -1 ∨ root ∈ seen ∨ root ∈ next
theorem inner_start (M : SM) (root : Int) : InnerInv M root [] [root] :=
 ⟨List.nodup_nil, (by have := unseen_le []; simpa using this), (fun x hx => by cases hx), (fun x hx => by rw [List.mem_singleton.1 hx]; exact .here), (fun x hx => by cases hx), .inr (.inr (List.mem_singleton.2 rfl))⟩
theorem InnerInv.skip {M : SM} {root x : Int} {seen rest : List Int} (h : InnerInv M root seen (x :: rest)) (hx : x = -1 ∨ x ∈ seen) (hkid : ∀ z ∈ seen, ∀ y ∈ (M.get z).1.ents, y.2 ≠ -1) : InnerInv M root seen rest := by
 refine ⟨h.nodup, h.len, h.sub, fun y hy => h.nsub y (List.mem_cons_of_mem _ hy), fun z hz hk y hy => ?_, ?_⟩
 ·rcases h.closed z hz hk y hy with e | e
  ·exact .inl e
  ·rcases List.mem_cons.1 e with e | e
   ·rcases hx with hx | hx
    ·exact absurd (e.trans hx) (hkid z hz y hy)
    ·exact .inl (e ▸ hx)
   ·exact .inr e
 ·rcases h.has with e | e | e
  ·exact .inl e
  ·exact .inr (.inl e)
  ·rcases List.mem_cons.1 e with e | e
   ·rcases hx with hx | hx
    ·exact .inl (e.trans hx)
    ·exact .inr (.inl (e ▸ hx))
   ·exact .inr (.inr e)
theorem InnerInv.more {M : SM} {root x : Int} {seen rest cs : List Int} (h : InnerInv M root seen (x :: rest)) (hx : x ∉ seen) (h0 : 0 ≤ x) (h1 : x < 240) (hcs : (M.get x).1.kind = 3 → cs = (M.get x).1.ents.map (·.2)) (hcs' : (M.get x).1.kind ≠ 3 → cs = []) : InnerInv M root (seen ++ [x]) (rest ++ cs) := by
 have hb := h.nsub x (List.mem_cons_self ..)
 have hu := unseen_new h0 h1 hx
 have hl := h.len
 refine ⟨List.nodup_append.2 ⟨h.nodup, by simp, fun a ha b hb => by simp at hb; subst hb; exact fun e => hx (e ▸ ha)⟩, by rw [List.length_append, List.length_singleton]; omega, fun z hz => ?_, fun z hz => ?_, fun z hz hk y hy => ?_, ?_⟩
 ·rcases List.mem_append.1 hz with hz | hz
  ·exact h.sub z hz
  ·rw [List.mem_singleton.1 hz]; exact ⟨hb, by omega⟩
 ·rcases List.mem_append.1 hz with hz | hz
  ·exact h.nsub z (List.mem_cons_of_mem _ hz)
  ·by_cases hk : (M.get x).1.kind = 3
   ·rw [hcs hk] at hz
    obtain ⟨y, hy, rfl⟩ := List.mem_map.1 hz
    exact .kid hb hk hy
   ·rw [hcs' hk] at hz; cases hz
 ·rcases List.mem_append.1 hz with hz | hz
  ·rcases h.closed z hz hk y hy with e | e
   ·exact .inl (List.mem_append_left _ e)
   ·rcases List.mem_cons.1 e with e | e
    ·exact .inl (List.mem_append_right _ (List.mem_singleton.2 e))
    ·exact .inr (List.mem_append_left _ e)
  ·rw [List.mem_singleton.1 hz] at hk hy
   exact .inr (List.mem_append_right _ (by rw [hcs hk]; exact List.mem_map.2 ⟨y, hy, rfl⟩))
 ·rcases h.has with e | e | e
  ·exact .inl e
  ·exact .inr (.inl (List.mem_append_left _ e))
  ·rcases List.mem_cons.1 e with e | e
   ·exact .inr (.inl (List.mem_append_right _ (List.mem_singleton.2 e)))
   ·exact .inr (.inr (List.mem_append_left _ e))
theorem get_none (M : SM) : (M.get (-1)).1.kind ≠ 3 := by
 unfold SM.get
 rw [if_neg (by intro h; have := (heldB_pos h).1; omega)]
 decide
theorem InnerInv.done {M : SM} {root : Int} {seen : List Int} (h : InnerInv M root seen []) (x : Int) : x ∈ seen ↔ Below M root x ∧ x ≠ -1 := by
 refine ⟨h.sub x, fun ⟨hb, hx⟩ => ?_⟩
 induction hb with
 | here =>
  rcases h.has with e | e | e
  ·exact absurd e hx
  ·exact e
  ·cases e
 | @kid z y hb hk hy ih =>
  have hz : z ≠ -1 := fun e => get_none M (e ▸ hk)
  rcases h.closed z (ih ⟨hb, hz⟩ hz) hk y hy with e | e
  ·exact e
  ·cases e
theorem below_none {M : SM} {x : Int} (h : Below M (-1) x) : x = -1 := by
 induction h with
 | here => rfl
 | kid _ hk _ ih => rw [ih] at hk; exact absurd hk (get_none M)
end Go.Proofs.Ytdcnogjbmdhgaaa
/-
 Two trees held against one another: the nodes of a tree (diff's inner).
-/
namespace Go.Proofs.Ytdcnogjbmdhgaaa
open Go.RowKit Go.Maps Go.Sort
set_option maxRecDepth 100000

structure InnerAt (w : World) (M : SM) (root : Int) (mb base f : Nat) (seen next : List Int) (g o cap : Nat) (wr : World) : Prop where
 inv : InnerInv M root seen next
 fuel : 7 * unseen seen + next.length = f
 seen_ : wr.ownsMap Try.prog 3 (plainElem Try.prog 3) mb seen.length (seenD seen)
 next_ : QueueAt wr base g o cap next
 wf : ∀ x ∈ next, -9223372036854775808 ≤ x ∧ x ≤ 9223372036854775807
 kept : Kept (fun _ => False) w wr
def InnerRel (w : World) (M : SM) (root : Int) (mb base : Nat) (f : Nat) (v : Value) (wr : World) : Prop := f ≤ 1700 ∧ ∃ seen next g o cap, v = .slice (some ⟨g, o, none⟩) next.length cap ∧ InnerAt w M root mb base f seen next g o cap wr
set_option maxHeartbeats 8000000 in
theorem innerAny {w : World} {A : SA} {M : SM} (h : StoreAt w A M) {root : Int} (hrw : -9223372036854775808 ≤ root ∧ root ≤ 9223372036854775807) (hok : ∀ x, Below M root x → x = -1 ∨ (M.get x).2 = 0) (hne : ∀ x, Below M root x → (M.get x).1.kind = 3 → (M.get x).1.ents ≠ []) :
  Calls Try.prog 41 #[.agg #[.pointer (some ⟨A.sb, 0, none⟩)], .int .i64 root] w fun e w' => ∃ mb seen, e = .returned (.tuple #[.map (some mb), .int .i64 0]) ∧ w.heap.size ≤ mb ∧
   w'.ownsMap Try.prog 3 (plainElem Try.prog 3) mb seen.length (seenD seen) ∧ seen.Nodup ∧ seen.length ≤ 240 ∧ (∀ x, x ∈ seen ↔ Below M root x ∧ x ≠ -1) ∧ Kept (fun _ => False) w w' := by
 have K : Keyed Try.prog 3 := int_keyed Try.underlying3
 obtain ⟨Z, hZ⟩ : ∃ Z, nodeCells NM.zero (.slice none 0 0) = Z := ⟨_, rfl⟩
 have hZz : Hid ((Try.prog.info? 71).map (·.zero) = some (some (.agg Z.toArray))) := h_ (by rw [← hZ]; exact node_zero)
 have hZl : Hid (Z.length = 18) := h_ (by rw [← hZ]; exact nodeCells_len _ _)
 obtain ⟨db, hdb⟩ : ∃ db, w.heap.size = db := ⟨_, rfl⟩
 obtain ⟨w1, hw1⟩ : ∃ w1, w.alloc (.cells #[.pointer (some ⟨A.sb, 0, none⟩)] 31) = w1 := ⟨_, rfl⟩
 obtain ⟨mb, hmb⟩ : ∃ mb, w1.heap.size = mb := ⟨_, rfl⟩
 obtain ⟨w2, hw2⟩ : ∃ w2, w1.alloc (.map #[] 0) = w2 := ⟨_, rfl⟩
 have k1 : Kept (fun _ => False) w w1 := by rw [← hw1]; exact (Kept.refl _ _).alloc _
 have k12 : Kept (fun _ => False) w1 w2 := by rw [← hw2]; exact (Kept.refl _ _).alloc _
 have t1 : w1.heap[db]? = some (.cells #[.pointer (some ⟨A.sb, 0, none⟩)] 31 (0, 0)) := by rw [← hw1, ← hdb]; exact heap_alloc_new _ _
 have cd : w1.cell? ⟨db, 0, none⟩ = some (.pointer (some ⟨A.sb, 0, none⟩)) := by rw [cell_of_heap t1]; rfl
 have s2 : w2.heap.size = mb + 1 := by rw [← hw2, ← hmb]; simp
 have m2 : w2.ownsMap Try.prog 3 (plainElem Try.prog 3) mb 0 (seenD []) := by rw [← hw2, ← hmb]; exact World.ownsMap_made w1 Try.prog 3 _
 have k3 : Kept (fun _ => False) w2 (w2.alloc (.cells #[.int .i64 root] 3)) := (Kept.refl _ _).alloc _
 have q3 : (w2.alloc (.cells #[.int .i64 root] 3)).heap[w2.heap.size]? = some (.cells #[.int .i64 root] 3 (0, 0)) := heap_alloc_new _ _
 have r3 : Hid (InnerRel w1 M root mb (mb + 1) (7 * unseen [] + 1) (.slice (some ⟨w2.heap.size, 0, none⟩) 1 1) (w2.alloc (.cells #[.int .i64 root] 3))) := h_
  ⟨(by have := unseen_le []; omega), [], [root], w2.heap.size, 0, 1, rfl, inner_start M root, rfl, ownsMap_kept m2 k3 id, ⟨by omega, lt_of_heap q3, Nat.le_refl _, by decide, fun j x hj => (by
   have hj1 := (List.getElem?_eq_some_iff.1 hj).1
   obtain rfl : j = 0 := by simpa using hj1
   cases hj
   rw [cell_of_heap q3]; rfl), fun j hj => (by
   obtain rfl : j = 0 := by omega
   exact ⟨by rw [cell_of_heap q3]; rfl, free_of_heap q3 0⟩)⟩, fun x hx => (by rw [List.mem_singleton.1 hx]; exact hrw), k12.trans k3⟩
 have hw1' := h_ hw1
 have hw2' := h_ hw2
 have hdb' := h_ hdb
 have hmb' := h_ hmb
 have h1' := h_ (h.fresh k1)
 have k1' := h_ k1
 have s2' := h_ s2
 have hok' := h_ hok
 have hne' := h_ hne
 have K' := h_ K
 have cd' := h_ cd
 have hmw : Hid (w.heap.size ≤ mb) := h_ (by have := k1.size; omega)
 clear h hw1 hw2 hdb hmb k1 k12 t1 s2 m2 k3 q3 hok hne hZ K cd
 go_enter Try.func41, Try.ntmps41
 go_wp2_with (first | (refine wpList_box_named 31 rfl rfl _ rfl hw1'.out ?_; rw [hdb'.out]) | (simp only [run_makeMap, hw2'.out, hmb'.out]))
 go_loopw [7] (fun v wr => ∃ f, InnerRel w1 M root mb (mb + 1) f v wr) (fun v wr => leastF fun f => InnerRel w1 M root mb (mb + 1) f v wr)
 case atStart => exact ⟨_, r3.out⟩
 case round =>
  obtain ⟨f, hf, hf7, seen, next, g, o, cap, rfl, hat⟩ := least_split hrel
  cases next with
  | nil =>
   have hdone := h_ hat.inv.done
   have hat' := h_ hat
   have hsl : Hid (seen.length ≤ 240) := h_ (by have := hat.inv.len; omega)
   clear hat hrel hf
   simp only [List.length_nil]
   go_wp2_with fail
   go_ret2
   exact ⟨mb, seen, rfl, hmw.out, hat'.out.seen_, hat'.out.inv.nodup, hsl.out, hdone.out, k1'.out.trans hat'.out.kept⟩
  | cons x rest =>
   obtain ⟨m, hm⟩ : ∃ m, rest.length = m := ⟨_, rfl⟩
   have hlen : (x :: rest).length = m + 1 := by rw [List.length_cons, hm]
   have cx : wr.cell? ⟨g, o, none⟩ = some (.int .i64 x) := by
    have := hat.next_.cell 0 x rfl
    rwa [Nat.add_zero] at this
   have cdr := hat.kept.cell cd'.out id
   have hcap : m + 1 ≤ cap := by rw [← hlen]; exact hat.next_.le
   have hxw := hat.wf x (List.mem_cons_self ..)
   have hfu := hat.fuel
   have hun := unseen_le seen
   have hfm : m ≤ 10000 := by rw [hlen] at hfu; omega
   have hpop := hat.next_.pop
   have hkey : keyOf Try.prog 3 (.int .i64 x) = some (.int .i64 x) := keyOf_int_mk Try.underlying3 (WalkArith.wf_i64 hxw)
   obtain ⟨c, hlook, hcat, _⟩ := hat.seen_.lookup_int K'.out Try.underlying75 Try.underlying3 (Try.zeroValue3 wr) hkey
   rw [seenD_at] at hcat
   have hcx : c = if x ∈ seen then 1 else 0 := by injection hcat with h; injection h with _ h; exact h.symm
   have hkid : ∀ z ∈ seen, ∀ y ∈ (M.get z).1.ents, y.2 ≠ -1 := fun z hz y hy => by
    obtain ⟨hb, hz1⟩ := hat.inv.sub z hz
    rcases hok'.out z hb with e | e
    ·exact absurd e hz1
    ·have := (get_ok h1'.out e).2.2.2 y hy
     omega
   have hpos : (0 : Int) < (m : Int) + 1 := by omega
   have hpos1 : (0 : Int) ≤ (m : Int) := by omega
   obtain ⟨o', ho'⟩ : ∃ o', (if cap = 1 then o else o + 1) = o' := ⟨_, rfl⟩
   rw [ho'] at hpop
   have hat' := h_ hat
   rw [hlen] at hf
   have hf' := h_ hf
   have hpop' := h_ hpop
   have hkey' := h_ hkey
   have hm' := h_ hm
   have ho2 := h_ ho'
   have hfu' : Hid (7 * unseen seen + (m + 1) = f) := h_ (by rw [← hlen]; exact hfu)
   have hgg : Hid (mb + 1 ≤ g ∧ g < wr.heap.size) := h_ ⟨hat.next_.ge, hat.next_.lt⟩
   rw [hlen]
   clear hat hf hrel hpop hcat hlen hxw hkey hm ho' hfu hun
   by_cases hx1 : x = -1
   ·have hinv := hat'.out.inv.skip (.inl hx1) hkid
    subst hx1
    have hnew := h_ (show InnerRel w1 M root mb (mb + 1) (7 * unseen seen + m) (.slice (some ⟨g, o', none⟩) m (cap - 1)) wr from ⟨by have := hfu'.out; omega, seen, rest, g, o', cap - 1, by rw [hm'.out], hinv, by rw [hm'.out], hat'.out.seen_, hpop'.out, fun y hy => hat'.out.wf y (List.mem_cons_of_mem _ hy), hat'.out.kept⟩)
    have hless : Hid (7 * unseen seen + m < f) := h_ (by have := hfu'.out; omega)
    clear hcx hlook hkid hinv
    go_wp2_with (refine wpList_pop rfl (.tmp 20) rfl (g := g) (off := o) (n := m) (cap := cap) (by rfl) hcap ?_; rw [ho2.out])
    go_roundw
    case rel => exact ⟨_, hnew.out⟩
    case measure => exact Nat.lt_of_le_of_lt (leastF_le hnew.out) (by rw [hf'.out]; exact hless.out)
   ·have hx1b : (x == -1) = false := by simpa using hx1
    by_cases hxs : x ∈ seen
    ·rw [if_pos hxs] at hcx
     subst hcx
     have hinv := hat'.out.inv.skip (.inr hxs) hkid
     have hnew := h_ (show InnerRel w1 M root mb (mb + 1) (7 * unseen seen + m) (.slice (some ⟨g, o', none⟩) m (cap - 1)) wr from ⟨by have := hfu'.out; omega, seen, rest, g, o', cap - 1, by rw [hm'.out], hinv, by rw [hm'.out], hat'.out.seen_, hpop'.out, fun y hy => hat'.out.wf y (List.mem_cons_of_mem _ hy), hat'.out.kept⟩)
     have hless : Hid (7 * unseen seen + m < f) := h_ (by have := hfu'.out; omega)
     clear hxs hx1 hkid hinv
     go_wp2_with (refine wpList_pop rfl (.tmp 20) rfl (g := g) (off := o) (n := m) (cap := cap) (by rfl) hcap ?_; rw [ho2.out])
     go_roundw
     case rel => exact ⟨_, hnew.out⟩
     case measure => exact Nat.lt_of_le_of_lt (leastF_le hnew.out) (by rw [hf'.out]; exact hless.out)
    ·rw [if_neg hxs] at hcx
     subst hcx
     have hgt := get_any (h1'.out.fresh hat'.out.kept) x
     have h0 : (M.get x).2 = 0 := (hok'.out x (hat'.out.inv.nsub x (List.mem_cons_self ..))).resolve_left hx1
     obtain ⟨hx0, hx240, hn6, hpg⟩ := get_ok h1'.out h0
     obtain ⟨N, hN⟩ : ∃ N, M.get x = N := ⟨_, rfl⟩
     have hnx := hne'.out x (hat'.out.inv.nsub x (List.mem_cons_self ..))
     have hmore := fun cs => hat'.out.inv.more (cs := cs) hxs hx0 hx240
     simp only [hN] at hgt hn6 hpg h0 hmore hnx
     obtain ⟨n, er⟩ := N
     dsimp only at hgt hn6 hpg h0 hmore hnx
     subst h0
     have hgt' := h_ hgt
     have hmore' := h_ hmore
     have hnx' := h_ hnx
     have hpg' := h_ hpg
     have hun1 := h_ (unseen_new hx0 hx240 hxs)
     have hxs' := h_ hxs
     have hval : plainElem (H := Unit) Try.prog 3 (.int .i64 1) = some (.lit (.int .i64 1), []) := plainElem_int Try.underlying3 (WalkArith.wf_i64 (by omega))
     have hval' := h_ hval
     clear hgt hmore hnx hpg hN hxs hx1 hkid hval
     go_wp2_with (refine wpList_pop rfl (.tmp 20) rfl (g := g) (off := o) (n := m) (cap := cap) (by rfl) hcap ?_; rw [ho2.out])
     refine hgt'.out.mono ?_
     rintro e w3 ⟨v3, rfl, hown3, hk3⟩
     obtain ⟨A3, c3, rfl, _⟩ := EntsAt.form (show EntsAt w3 v3 n.ents from SliceAt.of_owns hown3)
     obtain ⟨F, hF⟩ : ∃ F, nodeCells n (.slice A3 n.ents.length c3) = F := ⟨_, rfl⟩
     have hFl : Hid (F.length = 18) := h_ (by rw [← hF]; exact nodeCells_len _ _)
     have hF1 : Hid (∀ v ∈ F, v.oneCell' = true) := h_ (by rw [← hF]; exact nodeCells_one _ _ _ _)
     obtain ⟨nb, hnb⟩ : ∃ nb, w3.heap.size = nb := ⟨_, rfl⟩
     obtain ⟨w4, hw4⟩ : ∃ w4, (w3.alloc (.cells Z.toArray 71)).setRow nb F.toArray = w4 := ⟨_, rfl⟩
     have k4 : Kept (fun _ => False) w3 w4 := by rw [← hw4]; exact ((Kept.refl _ _).alloc _).setRowNew (by omega) _
     have q4 := h_ (show w4.heap[nb]? = some (.cells F.toArray 71 (0, 0)) by rw [← hw4, ← hnb]; exact setRow_heap _ _ _ _ _ _ (heap_alloc_new _ _))
     have hE4 := h_ (SliceAt.fresh (SliceAt.of_owns hown3) k4 : EntsAt w4 (.slice A3 n.ents.length c3) n.ents)
     have hs3 := hk3.size
     have kr4 := h_ (hk3.trans k4)
     have hm4 := ownsMap_kept hat'.out.seen_ kr4.out id
     obtain ⟨c4, hlook4, hcat4, _⟩ := hm4.lookup_int K'.out Try.underlying75 Try.underlying3 (Try.zeroValue3 w4) hkey'.out
     rw [seenD_at, if_neg hxs'.out] at hcat4
     obtain rfl : c4 = 0 := by injection hcat4 with h; injection h with _ h; exact h.symm
     have hm4' := h_ hm4
     have hq4 := h_ (hpop'.out.kept kr4.out id)
     have hF' := h_ hF
     have hw4' := h_ hw4
     have hnb' := h_ hnb
     rw [hF]
     have hsl : seen.length ≤ 240 := by have := hat'.out.inv.len; omega
     have hnbg : mb + 1 ≤ nb := by have := hgg.out; omega
     have hgnb : g ≠ nb := by have := hgg.out; omega
     have hb3 := h_ (fun b (hb : (Value.slice A3 n.ents.length c3).ownBlock = some b) => (hown3.lt b hb).1)
     clear hown3 hk3 hF k4 hw4 hnb hm4 hcat4 hlook
     have hwk : Hid (Kept (fun _ => False) w1 w4) := h_ (hat'.out.kept.trans kr4.out)
     have hwf4 : Hid (∀ y ∈ rest, -9223372036854775808 ≤ y ∧ y ≤ 9223372036854775807) := h_ (fun y hy => hat'.out.wf y (List.mem_cons_of_mem _ hy))
     have hmb1 : Hid (w1.heap.size ≤ mb) := h_ (by rw [hmb'.out]; exact Nat.le_refl _)
     by_cases hk3 : n.kind = 3
     ·have hkb : ((n.kind : Int) == 3) = true := by simp [hk3]
      have hmr := h_ (hmore'.out (n.ents.map (·.2)) (fun _ => rfl) (fun e => absurd hk3 e))
      have hn1 : Hid (0 < n.ents.length) := h_ (List.length_pos_iff.2 (hnx'.out hk3))
      clear hk3
      go_wp2_with (first | (refine wpList_alloc_as 71 rfl rfl Z.toArray hZz.out ?_; rw [hnb'.out]) | (refine wpList_store_whole 71 rfl rfl rfl F rfl (by rw [hFl.out]; exact node_size) 71 _ (by rw [← hnb'.out]; exact heap_alloc_new _ _) (by simp [hFl.out, hZl.out]) hF1.out ?_; rw [hw4'.out]) | (refine wpList_mapUpdate_own w4 rfl (.tmp 42) (.tmp 43) (.tmp 45) 75 rfl 3 3 K'.out Try.underlying75 (plainElem Try.prog 3) mb seen.length (seenD seen) (by rfl) hm4'.out (by unfold maxLen; omega) (.int .i64 x) (.int .i64 1) (.int .i64 x) (by rfl) (by rfl) hkey'.out (.lit (.int .i64 1)) [] hval'.out ?_; intro w5 hm5 hg5; have q5 : w5.heap[nb]? = some (.cells F.toArray 71 (0, 0)) := (Kept.of_grown hg5).get q4.out (fun e => by injection e with e; omega); have c5 : w5.cell? ⟨nb, 0, none⟩ = some (.int .i64 n.kind) := by rw [cell_of_heap q5, ← hF'.out]; rfl) | (refine wpList_load_agg 71 rfl rfl rfl _ Try.underlying71 rfl F (by rw [hFl.out]; exact node_size) (fun j v hv => by rw [cell_of_heap q5, Nat.zero_add]; simpa using hv) ?_))
      have k45 := Kept.of_grown hg5
      have hE5 : EntsAt w5 (.slice A3 n.ents.length c3) n.ents := SliceAt.kept hE4.out k45 (fun b hb e => by injection e with e; have := hb3.out b hb; have := hgg.out; omega)
      have hC := children_any (n := n) hE5 (by omega)
      rw [hF'.out] at hC
      have hC' := h_ hC
      clear hC
      refine hC'.out.mono ?_
      rintro e w6 ⟨u6, rfl, hown6, hk6⟩
      obtain ⟨A6, c6, rfl, hA6, _⟩ := ownsRow.slice hown6
      obtain ⟨g6, rfl⟩ := hA6 hn1.out
      have hu6 : Hid (∀ j y, (n.ents.map (·.2))[j]? = some y → w6.cell? ((⟨g6, 0, none⟩ : Addr).add j) = some (.int .i64 y)) := h_ (fun j y hj => by
       refine hown6.cells (g := g6) rfl j (.int .i64 y) ?_
       unfold pageCellsOf
       rw [List.getElem?_map] at hj ⊢
       cases hz : n.ents[j]? with
       | none => rw [hz] at hj; cases hj
       | some z => rw [hz] at hj; cases hj; rfl)
      have hq6 := h_ ((hq4.out.kept k45 (fun e => by injection e with e; have := hgg.out; omega)).kept hk6 id)
      have hm6 := h_ (ownsMap_kept hm5 hk6 id)
      have hw6 := h_ ((hwk.out.trans_new k45 (fun i hi e => by injection e with e; have := hmb1.out; omega)).trans hk6)
      have hs6 : mb + 1 ≤ w6.heap.size := by have := hq6.out.ge; have := hq6.out.lt; omega
      clear hown6 hk6 hE5 k45 hm5 hg5 hA6
      go_wp2_with (at_builtin; refine wpList_append_q rfl (.tmp 49) (.tmp 51) rfl (g := g) (off := o') (n := m) (cap := cap - 1) (m := n.ents.length) (c := c6) (ad := ⟨g6, 0, none⟩) (ys := n.ents.map (·.2)) (by rfl) (by rfl) hm'.out (by simp) hq6.out hu6.out (by omega) hs6 ?_; intro g7 o7 cap7 w7 hq7 hk7)
      have hnew := h_ (show InnerRel w1 M root mb (mb + 1) (7 * unseen (seen ++ [x]) + (m + n.ents.length)) (.slice (some ⟨g7, o7, none⟩) (m + n.ents.length) cap7) w7 from ⟨by have := hfu'.out; have := hun1.out; omega, seen ++ [x], rest ++ n.ents.map (·.2), g7, o7, cap7, by rw [List.length_append, List.length_map, hm'.out], hmr.out, by rw [List.length_append, List.length_map, hm'.out], by rw [seenD_snoc, List.length_append]; exact ownsMap_kept hm6.out hk7 (fun e => by have := hgg.out; omega), hq7, fun y hy => (by
        rcases List.mem_append.1 hy with hy | hy
        ·exact hwf4.out y hy
        ·obtain ⟨z, hz, rfl⟩ := List.mem_map.1 hy
         have := hpg'.out z hz
         omega), hw6.out.trans_new hk7 (fun i hi e => by have := hmb1.out; have := hgg.out; omega)⟩)
      have hless : Hid (7 * unseen (seen ++ [x]) + (m + n.ents.length) < f) := h_ (by have := hfu'.out; have := hun1.out; omega)
      clear hq7 hk7
      go_roundw
      case rel => exact ⟨_, hnew.out⟩
      case measure => exact Nat.lt_of_le_of_lt (leastF_le hnew.out) (by rw [hf'.out]; exact hless.out)
     ·have hkb : ((n.kind : Int) == 3) = false := by simp; omega
      have hmr := h_ (hmore'.out [] (fun e => absurd e hk3) (fun _ => rfl))
      clear hk3
      go_wp2_with (first | (refine wpList_alloc_as 71 rfl rfl Z.toArray hZz.out ?_; rw [hnb'.out]) | (refine wpList_store_whole 71 rfl rfl rfl F rfl (by rw [hFl.out]; exact node_size) 71 _ (by rw [← hnb'.out]; exact heap_alloc_new _ _) (by simp [hFl.out, hZl.out]) hF1.out ?_; rw [hw4'.out]) | (refine wpList_mapUpdate_own w4 rfl (.tmp 42) (.tmp 43) (.tmp 45) 75 rfl 3 3 K'.out Try.underlying75 (plainElem Try.prog 3) mb seen.length (seenD seen) (by rfl) hm4'.out (by unfold maxLen; omega) (.int .i64 x) (.int .i64 1) (.int .i64 x) (by rfl) (by rfl) hkey'.out (.lit (.int .i64 1)) [] hval'.out ?_; intro w5 hm5 hg5; have q5 : w5.heap[nb]? = some (.cells F.toArray 71 (0, 0)) := (Kept.of_grown hg5).get q4.out (fun e => by injection e with e; omega); have c5 : w5.cell? ⟨nb, 0, none⟩ = some (.int .i64 n.kind) := by rw [cell_of_heap q5, ← hF'.out]; rfl) | (refine wpList_load_agg 71 rfl rfl rfl _ Try.underlying71 rfl F (by rw [hFl.out]; exact node_size) (fun j v hv => by rw [cell_of_heap q5, Nat.zero_add]; simpa using hv) ?_))
      have k45 := Kept.of_grown hg5
      have hnew := h_ (show InnerRel w1 M root mb (mb + 1) (7 * unseen (seen ++ [x]) + m) (.slice (some ⟨g, o', none⟩) m (cap - 1)) w5 from ⟨by have := hfu'.out; have := hun1.out; omega, seen ++ [x], rest ++ [], g, o', cap - 1, by rw [List.append_nil, hm'.out], hmr.out, by rw [List.append_nil, hm'.out], by rw [seenD_snoc, List.length_append]; exact hm5, by rw [List.append_nil]; exact hq4.out.kept k45 (fun e => by injection e with e; have := hgg.out; omega), by rw [List.append_nil]; exact hwf4.out, hwk.out.trans_new k45 (fun i hi e => by injection e with e; have := hmb1.out; omega)⟩)
      have hless : Hid (7 * unseen (seen ++ [x]) + m < f) := h_ (by have := hfu'.out; have := hun1.out; omega)
      clear hg5 hm5 k45
      go_roundw
      case rel => exact ⟨_, hnew.out⟩
      case measure => exact Nat.lt_of_le_of_lt (leastF_le hnew.out) (by rw [hf'.out]; exact hless.out)
end Go.Proofs.Ytdcnogjbmdhgaaa
