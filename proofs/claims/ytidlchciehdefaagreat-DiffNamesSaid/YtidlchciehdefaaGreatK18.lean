/-
  Trees (package tree): Build.
-/
import Derived.Test.YtidlchciehdefaaGreatK04
import Derived.Test.YtidlchciehdefaaGreatK12
import Derived.Test.YtidlchciehdefaaGreatK15
import Derived.Test.YtidlchciehdefaaGreatK17
set_option linter.unusedVariables false
set_option linter.unusedSimpArgs false
namespace Go.Proofs.YtidlchciehdefaaGreat
open Go.RowKit
set_option maxRecDepth 100000

theorem put_log (M : SM) (root key page : Int) : (M.put root key page).1.log.length ≤ M.log.length + 22 := by
  unfold SM.put
  dsimp only
  split
  · dsimp only; omega
  · split
    · have := top_bound M ⟨2, List.replicate 16 0, [(key, page)]⟩
      omega
    · have h1 := putF_log 9 M root (key, page)
      split
      · have := top_bound (SM.putF 9 M root (key, page)).1 (SM.putF 9 M root (key, page)).2.1
        omega
      · dsimp only; omega
theorem swap_log (M : SM) (a b : Int) : (M.swap a b).1.log = M.log := by
  unfold SM.swap
  dsimp only
  have h1 : (if b = -1 then (M, 0) else M.hold b).1.log = M.log := by split <;> rfl
  obtain ⟨R, hR⟩ : ∃ R, (if b = -1 then (M, 0) else M.hold b) = R := ⟨_, rfl⟩
  rw [hR] at h1 ⊢
  split
  · split
    · exact h1
    · unfold SM.drop
      rw [(dropF_live 241 R.1 a).2.1]; exact h1
  · exact h1
/-- Build from somewhere in the list on. -/
theorem build_cons (x : Int × Int) (l : List (Int × Int)) (M : SM) (root : Int) : SM.build (x :: l) M root =
    if (M.put root x.1 x.2).2.2 = 0 then (if ((M.put root x.1 x.2).1.swap root (M.put root x.1 x.2).2.1).2 = 0 then SM.build l ((M.put root x.1 x.2).1.swap root (M.put root x.1 x.2).2.1).1 (M.put root x.1 x.2).2.1 else (((M.put root x.1 x.2).1.swap root (M.put root x.1 x.2).2.1).1, -1, ((M.put root x.1 x.2).1.swap root (M.put root x.1 x.2).2.1).2)) else ((M.put root x.1 x.2).1, -1, (M.put root x.1 x.2).2.2) := rfl

set_option maxHeartbeats 4000000 in
theorem treeBuild {w : World} {A : SA} {M : SM} (h : StoreAt w A M) {v : Value} {l : List (Int × Int)} (hv : EntsOff w A v l) (hl : l.length ≤ 1000) (hfew : M.log.length + 100000 < 100000000) :
    Calls Tryz.prog 49 #[.agg #[.pointer (some ⟨A.sb, 0, none⟩)], v] w fun e w' => ∃ A', e = .returned (.tuple #[.int .i64 (SM.build l M (-1)).2.1, .int .i64 (SM.build l M (-1)).2.2]) ∧ StoreTo A A' (SM.build l M (-1)).1 w w' := by
  obtain ⟨Av, cap, rfl, hf1, hf2⟩ := hv.at_.form
  unfold maxLen at hf2
  obtain ⟨w1, hw1⟩ : ∃ w1, w.alloc (.cells #[.pointer (some ⟨A.sb, 0, none⟩)] 26) = w1 := ⟨_, rfl⟩
  have k1 : Kept (fun _ => False) w w1 := by rw [← hw1]; exact (Kept.refl _ _).alloc _
  have s1 : w1.heap.size = w.heap.size + 1 := by rw [← hw1]; simp
  have t1 : w1.heap[w.heap.size]? = some (.cells #[.pointer (some ⟨A.sb, 0, none⟩)] 26 (0, 0)) := by rw [← hw1]; exact heap_alloc_new _ _
  have hw1' := Lib.hid hw1
  have st1 : Safe w1 A w.heap.size := Safe.new h (Nat.le_refl _) (by omega)
  have I0 : Hid (StoreTo A A M w w1 ∧ w1.heap[w.heap.size]? = some (.cells #[.pointer (some ⟨A.sb, 0, none⟩)] 26 (0, 0)) ∧ Safe w1 A w.heap.size ∧ EntsOff w1 A (.slice Av l.length cap) l ∧ M.log.length ≤ M.log.length + 22 * 0) := Lib.hid ⟨(StoreTo.refl h).fresh k1, t1, st1, hv.fresh k1, Nat.le_refl _⟩
  have h' := Lib.hid h
  clear hw1 k1 s1 t1 st1 h hv
  go_enter Tryz.func49, Tryz.ntmps49
  go_wp2_with (first | (refine wpList_box_named 26 rfl rfl _ rfl hw1'.out ?_))
  go_loopw [6, 13] (fun r x wr => ∃ (k : Nat) (A' : SA) (M' : SM) (root : Int), k ≤ l.length ∧ x = .int .i64 k ∧ r = .int .i64 root ∧ Hid (SM.build (l.drop k) M' root = SM.build l M (-1)) ∧ Hid (StoreTo A A' M' w wr ∧ wr.heap[w.heap.size]? = some (.cells #[.pointer (some ⟨A.sb, 0, none⟩)] 26 (0, 0)) ∧ Safe wr A' w.heap.size ∧ EntsOff wr A' (.slice Av l.length cap) l ∧ M'.log.length ≤ M.log.length + 22 * k)) (fun _ x _ => l.length - (intOf x).toNat)
  case atStart => exact ⟨0, A, M, -1, Nat.zero_le _, rfl, rfl, Lib.hid rfl, I0⟩
  case round =>
    obtain ⟨k, A', M', root, hk, rfl, rfl, hq, hI⟩ := hrel
    by_cases hlt : k < l.length
    · obtain ⟨x, hx⟩ : ∃ x, l[k]? = some x := ⟨_, List.getElem?_eq_getElem hlt⟩
      have hd : Hid (l.drop k = x :: l.drop (k + 1)) := Lib.hid (by
        obtain ⟨hkl, hxe⟩ := List.getElem?_eq_some_iff.1 hx
        rw [List.drop_eq_getElem_cons hkl, hxe])
      have hstep := hq.out
      rw [hd.out, build_cons] at hstep
      obtain ⟨hT, htb, hsafe, hents, hlog⟩ := hI.out
      obtain ⟨b, off, hAv, hbl, hx1, hx2⟩ := EntsAt.get hents.at_ hx
      cases hAv
      obtain ⟨xb, hxb⟩ : ∃ xb, wr.heap.size = xb := ⟨_, rfl⟩
      obtain ⟨w2, hw2⟩ : ∃ w2, (wr.alloc (.cells #[.int .i64 0, .int .i64 0] 86)).setRow xb #[.int .i64 x.1, .int .i64 x.2] = w2 := ⟨_, rfl⟩
      have k2 : Kept (fun _ => False) wr w2 := by rw [← hw2]; exact ((Kept.refl _ _).alloc _).setRowNew (by omega) _
      have x2 : w2.heap[xb]? = some (.cells #[.int .i64 x.1, .int .i64 x.2] 86 (0, 0)) := by rw [← hw2, ← hxb]; exact setRow_heap _ _ _ _ _ _ (heap_alloc_new _ _)
      have t2 := k2.get htb id
      have c1 := cell_of_heap x2 0
      have c2 := cell_of_heap x2 1
      simp at c1 c2
      have hT2 := hT.fresh k2
      have hP := treePut hT2.store root x.1 x.2 (by omega)
      rw [hT.sb] at hP
      have hlogP := put_log M' root x.1 x.2
      obtain ⟨R, hR⟩ : ∃ R, M'.put root x.1 x.2 = R := ⟨_, rfl⟩
      rw [hR] at hP hstep hlogP
      obtain ⟨M2, next, er⟩ := R
      dsimp only at hP hstep hlogP
      have hloade : Hid (∀ j v, [Value.int .i64 x.1, .int .i64 x.2][j]? = some v → (wr.alloc (.cells #[.int .i64 0, .int .i64 0] 86)).cell? ⟨b, off + k * 2 + j, none⟩ = some v ∧ wr.cell? ⟨b, off + k * 2 + j, none⟩ = some v) := Lib.hid (fun j v hj => by
        have kA := (Kept.refl (fun _ => False) wr).alloc (.cells #[.int .i64 0, .int .i64 0] 86)
        match j, hj with
        | 0, hj => cases hj; exact ⟨kA.cell hx1 id, hx1⟩
        | 1, hj => cases hj; exact ⟨kA.cell hx2 id, hx2⟩)
      have hloadt : Hid (∀ j v, [Value.pointer (some ⟨A.sb, 0, none⟩)][j]? = some v → w2.cell? ⟨w.heap.size, 0 + j, none⟩ = some v) := Lib.hid (fun j v hj => by rw [Nat.zero_add, cell_of_heap t2]; simpa using hj)
      have hP' := Lib.hid hP
      have hstep' := Lib.hid hstep
      have hxb' := Lib.hid hxb
      have hw2' := Lib.hid hw2
      have hT2' := Lib.hid hT2
      have sf2 := Lib.hid (hsafe.fresh k2)
      have t2' := Lib.hid t2
      have he2 := Lib.hid (hents.fresh k2)
      have hki : (k : Int) < (l.length : Int) := by omega
      clear hx hR hP hstep hT htb hsafe hents hxb hw2 k2 x2 t2 hT2 hx1 hx2 hI hq
      go_wp2_with (first | (refine wpList_alloc_as 86 rfl rfl #[.int .i64 0, .int .i64 0] entry_zero ?_; rw [hxb'.out]) | (refine wpList_store_whole 86 rfl rfl rfl [.int .i64 x.1, .int .i64 x.2] rfl entry_size 86 #[.int .i64 0, .int .i64 0] (by rw [← hxb'.out]; exact heap_alloc_new _ _) rfl (by intro c hc; simp at hc; rcases hc with rfl | rfl <;> rfl) ?_; rw [hw2'.out]) | (refine wpList_load_agg 26 rfl rfl rfl _ Tryz.underlying26 rfl [.pointer (some ⟨A.sb, 0, none⟩)] (by kernel_rfl) hloadt.out ?_) | (refine wpList_load_agg 86 rfl rfl rfl _ Tryz.underlying86 rfl [.int .i64 x.1, .int .i64 x.2] (by kernel_rfl) (fun j v hj => (hloade.out j v hj).2) ?_))
      refine hP'.out.mono ?_
      rintro e w3 ⟨A3, rfl, hT3⟩
      have hT23 := hT2'.out.trans hT3
      have t3 := hT3.get t2'.out sf2.out
      have sf3 := Lib.hid (sf2.out.to hT3)
      have he3 := Lib.hid (he2.out.to hT3)
      have t3' := Lib.hid t3
      have hT23' := Lib.hid hT23
      have hsb3 := hT23.sb
      have hloadt3 : Hid (∀ j v, [Value.pointer (some ⟨A.sb, 0, none⟩)][j]? = some v → w3.cell? ⟨w.heap.size, 0 + j, none⟩ = some v) := Lib.hid (fun j v hj => by rw [Nat.zero_add, cell_of_heap t3]; simpa using hj)
      clear hT3 t3 hT23
      by_cases h0 : er = 0
      · subst h0
        rw [if_pos rfl] at hstep'
        have hS := treeSwap hT23'.out.store root next
        rw [hsb3] at hS
        have hlogS := swap_log M2 root next
        obtain ⟨R, hR⟩ : ∃ R, M2.swap root next = R := ⟨_, rfl⟩
        rw [hR] at hS hstep' hlogS
        obtain ⟨M3, es⟩ := R
        dsimp only at hS hstep' hlogS
        have hS' := Lib.hid hS
        have hlogS' := Lib.hid hlogS
        clear hR hS hsb3 hlogS
        go_wp2_with (first | (refine wpList_load_agg 26 rfl rfl rfl _ Tryz.underlying26 rfl [.pointer (some ⟨A.sb, 0, none⟩)] (by kernel_rfl) hloadt3.out ?_))
        refine hS'.out.mono ?_
        rintro e w4 ⟨rfl, hT4⟩
        have hT34 := Lib.hid (hT23'.out.trans hT4)
        have t4 := Lib.hid (hT4.get t3'.out sf3.out)
        have sf4 := Lib.hid (sf3.out.to hT4)
        have he4 := Lib.hid (he3.out.to hT4)
        clear hT4
        by_cases h1 : es = 0
        · subst h1
          rw [if_pos rfl] at hstep'
          go_wp2_with fail
          go_roundw
          case rel => exact ⟨k + 1, A3, M3, next, by omega, by go_num, rfl, hstep', Lib.hid ⟨hT34.out, t4.out, sf4.out, he4.out, by rw [hlogS'.out]; omega⟩⟩
          case measure => simp [intOf]; omega
        · rw [if_neg h1] at hstep'
          have h1' : ((es : Int) == 0) = false := by simp; omega
          clear h1
          go_wp2_with fail
          go_ret2
          exact ⟨A3, by rw [← hstep'.out]; rfl, by rw [← hstep'.out]; exact hT34.out⟩
      · rw [if_neg h0] at hstep'
        have h0' : ((er : Int) == 0) = false := by simp; omega
        clear h0 hsb3
        go_wp2_with fail
        go_ret2
        exact ⟨A3, by rw [← hstep'.out]; rfl, by rw [← hstep'.out]; exact hT23'.out⟩
    · obtain rfl : k = l.length := by omega
      have hend : Hid (SM.build l M (-1) = (M', root, 0)) := Lib.hid (by rw [← hq.out, List.drop_length]; rfl)
      have hT := Lib.hid hI.out.1
      clear hI hq
      go_wp2_with fail
      go_ret2
      exact ⟨A', by rw [hend.out]; rfl, by rw [hend.out]; exact hT.out⟩
end Go.Proofs.YtidlchciehdefaaGreat
/-
  Layer 10's laws: an empty store with a page of a block.
-/
namespace Go.Proofs.YtidlchciehdefaaGreat
open Go.RowKit
set_option maxRecDepth 100000

/-- A block's node. -/
def dataN (b : Nat) : NM := ⟨1, b :: List.replicate 15 0, []⟩
theorem dataN_ok (b : Nat) (hb : b < 256) : (dataN b).ok := by
  refine ⟨rfl, rfl, ?_⟩
  intro c hc
  simp only [dataN, List.mem_cons] at hc
  rcases hc with rfl | hc
  · exact hb
  · rw [List.eq_of_mem_replicate hc]; decide
end Go.Proofs.YtidlchciehdefaaGreat
/-
  Trees in a store, plain: the store that a law begins with; what is in a tree; how high one is.
-/
namespace Go.Proofs.YtidlchciehdefaaGreat
open Go.RowKit

/-- What is in a tree. -/
theorem list_ok {m : Nat} {M : SM} : ∀ (h d : Nat) (p : Int) (l : List (Int × Int)), h + d ≤ 8 → Tr m M h p l → SM.listF (9 - d) M p = (l, 0)
  | 0, _, _, _, _, t => t.elim
  | h + 1, d, p, l, hd, t => by
    obtain ⟨n, hn, hna, hok, k⟩ := tnode_tr t (d := d) (by omega)
    rw [show 9 - d = (8 - d) + 1 by omega, listF_succ, show 8 - (8 - d) = d by omega, hn]
    dsimp only
    rcases k with ⟨_, hk, hl⟩ | ⟨h0, hk, hK⟩
    · rw [if_neg (fun e => e.2 hk), hl]
    · rw [if_pos ⟨rfl, by omega⟩]
      have key : ∀ (es a acc : List (Int × Int)), Kids (Sub m M h) es a → (es.map (·.2)).foldl (listStep (8 - d) M) (acc, 0) = (acc ++ a, 0) := by
        intro es
        induction es with
        | nil => intro a acc hk; rw [show a = [] from hk, List.append_nil]; rfl
        | cons e es ih =>
          intro a acc hk
          obtain ⟨c, b, x, h1, h2, h3, h4, h5⟩ := hk
          have hc := list_ok h (d + 1) e.2 c (by omega) h2.1
          rw [show 9 - (d + 1) = 8 - d by omega] at hc
          rw [List.map_cons, List.foldl_cons, listStep, if_pos rfl, hc, if_pos rfl, ih _ _ h5, h1, List.append_assoc]
      rw [key _ _ _ hK, List.nil_append]
theorem listR_ok {m : Nat} {M : SM} {root : Int} {l : List (Int × Int)} {h : Nat} (t : Rooted m M root l h) (h8 : h ≤ 8) : M.list root = (l, 0) := by
  unfold SM.list
  rcases t with ⟨rfl, rfl, _⟩ | t
  · rw [if_pos rfl]
  · have hne : root ≠ -1 := fun e => by have := (heldB_int t.held).1; omega
    rw [if_neg hne]
    exact list_ok h 0 root l (by omega) t

theorem rises_len {l : List (Int × Int)} (hr : RisesK l) (hb : ∀ y ∈ l, 0 ≤ y.1 ∧ y.1 < 64) : l.length ≤ 64 := by
  have key : ∀ (l : List (Int × Int)) (c : Int), RisesK l → (∀ y ∈ l, c ≤ y.1 ∧ y.1 < 64) → 0 ≤ c → c ≤ 64 → (l.length : Int) ≤ 64 - c := by
    intro l
    induction l with
    | nil => intro c _ _ _ h; simpa using h
    | cons y l ih =>
      intro c hr hb h0 hc
      have hr' := List.pairwise_cons.1 hr
      have hy := hb y (List.mem_cons_self ..)
      have := ih (y.1 + 1) hr'.2 (fun z hz => ⟨by have := hr'.1 z hz; omega, (hb z (List.mem_cons_of_mem _ hz)).2⟩) (by omega) (by omega)
      rw [List.length_cons]
      omega
  have := key l 0 hr hb (by omega) (by omega)
  omega
end Go.Proofs.YtidlchciehdefaaGreat
/-
  Cutting, plain: neighbours that are dense; entries without a key.
-/
namespace Go.Proofs.YtidlchciehdefaaGreat
open Go.RowKit

theorem Kids.held {T : Int → List (Int × Int) → Prop} {P : Int → Prop} (hT : ∀ q a, T q a → P q) : ∀ {es l : List (Int × Int)}, Kids T es l → ∀ e ∈ es, P e.2
  | [], _, _, e, he => by cases he
  | _ :: _, _, ⟨_, _, _, _, h2, _, _, h5⟩, e, he => by
    rcases List.mem_cons.1 he with rfl | he
    · exact hT _ _ h2
    · exact Kids.held hT h5 e he
/-- Entries without a key. -/
def cutL (l : List (Int × Int)) (key : Int) : List (Int × Int) := l.filter fun y => decide (y.1 ≠ key)
theorem cutL_none {l : List (Int × Int)} {key : Int} (h : ∀ y ∈ l, y.1 ≠ key) : cutL l key = l := filter_all fun y hy => by simpa using h y hy
theorem cutL_rises {l : List (Int × Int)} (h : RisesK l) (key : Int) : RisesK (cutL l key) := List.Pairwise.filter _ h
theorem Good.cut {M : SM} {l : List (Int × Int)} (g : Good M l) (key : Int) : Good M (cutL l key) := ⟨cutL_rises g.1 key, fun y hy => g.2 y (List.mem_filter.1 hy).1⟩
end Go.Proofs.YtidlchciehdefaaGreat
/-
  Pruners (package prune): a node at a depth.
-/
namespace Go.Proofs.YtidlchciehdefaaGreat
open Go.RowKit
set_option maxRecDepth 100000

end Go.Proofs.YtidlchciehdefaaGreat
/-
  slices.Delete at entries: one of them.
-/
namespace Go.Proofs.YtidlchciehdefaaGreat
open Go.RowKit
set_option maxRecDepth 100000

end Go.Proofs.YtidlchciehdefaaGreat
/-
  Pruners: the model of what package prune computes; slices.Concat of two; fits.
-/
namespace Go.Proofs.YtidlchciehdefaaGreat
open Go.RowKit
set_option maxRecDepth 100000

/-- One neighbour, at q: is the child one with it? -/
def SM.joinStep (M : SM) (n c : NM) (i d : Nat) (q : Int) (next : NM × Nat × Nat × Nat) : NM × Nat × Nat × Nat :=
  if q < 0 ∨ (n.ents.length : Int) ≤ q then next
  else
    let o := M.tnode (n.ents.getD q.toNat (0, 0)).2 (d + 1)
    if o.2 = 0 then
      if c.ents.length + o.1.ents.length ≤ 6 then (⟨c.kind, List.replicate 16 0, if q < i then o.1.ents ++ c.ents else c.ents ++ o.1.ents⟩, min i q.toNat, max i q.toNat + 1, 0)
      else next
    else (c, i, i + 1, o.2)
/-- So many neighbours are left to try. -/
def SM.joinJ (M : SM) (n c : NM) (i d : Nat) : Nat → NM × Nat × Nat × Nat
  | 0 => (c, i, i + 1, 0)
  | 1 => M.joinStep n c i d ((i : Int) + 1) (c, i, i + 1, 0)
  | _ => M.joinStep n c i d ((i : Int) - 1) (M.joinStep n c i d ((i : Int) + 1) (c, i, i + 1, 0))
def SM.join (M : SM) (n c : NM) (i d : Nat) : NM × Nat × Nat × Nat :=
  if c.ents.length = 0 then (c, i, i + 1, 0) else M.joinJ n c i d 2
/-- The entries of a node without a key. -/
def SM.cutF : Nat → SM → Int → Int → SM × NM × Bool × Nat
  | 0, M, _, _ => (M, .zero, false, 81)
  | f + 1, M, root, key =>
    let n := M.tnode root (8 - f)
    let a := atI n.1.ents key
    if n.2 ≠ 0 ∨ a < 0 then (M, n.1, false, n.2)
    else if n.1.kind = 2 then
      if (n.1.ents.getD a.toNat (0, 0)).1 = key then (M, { n.1 with ents := n.1.ents.take a.toNat ++ n.1.ents.drop (a.toNat + 1) }, true, 0)
      else (M, n.1, false, 0)
    else
      let c := SM.cutF f M (n.1.ents.getD a.toNat (0, 0)).2 key
      if c.2.2.2 ≠ 0 ∨ c.2.2.1 = false then (c.1, n.1, false, c.2.2.2)
      else
        let j := c.1.join n.1 c.2.1 a.toNat (8 - f)
        if j.2.2.2 = 0 then
          let s := c.1.split j.1
          if s.2.2 = 0 then (s.1, { n.1 with ents := n.1.ents.take j.2.1 ++ s.2.1 ++ n.1.ents.drop j.2.2.1 }, true, 0)
          else (s.1, n.1, false, s.2.2)
        else (c.1, n.1, false, j.2.2.2)
/-- A tree without a key. -/
def SM.cut (M : SM) (root key : Int) : SM × Int × Bool × Nat :=
  if key < 0 ∨ 64 ≤ key then (M, -1, false, 101)
  else if root = -1 then (M, -1, false, 0)
  else
    let c := SM.cutF 9 M root key
    if c.2.2.2 ≠ 0 then (c.1, -1, false, c.2.2.2)
    else if c.2.2.1 = false then (c.1, root, false, 0)
    else if c.2.1.kind = 3 ∧ c.2.1.ents.length = 1 then (c.1, (c.2.1.ents.getD 0 (0, 0)).2, true, 0)
    else
      let s := c.1.split c.2.1
      if s.2.2 ≠ 0 ∨ s.2.1.length = 0 then (s.1, -1, s.2.2 == 0, s.2.2)
      else (s.1, (s.2.1.getD 0 (0, 0)).2, true, 0)
end Go.Proofs.YtidlchciehdefaaGreat
/-
  Pruners (package prune): a child, and the neighbour that it is one with.
-/
namespace Go.Proofs.YtidlchciehdefaaGreat
open Go.RowKit
set_option maxRecDepth 100000

/-- A result that a call has made by itself lies off the store. -/
theorem EntsOff.of_owns {w w' : World} {A : SA} {M : SM} (h : StoreAt w A M) {base : Nat} {v : Value} {l : List (Int × Int)} (ho : w'.ownsRow base 86 2 v l.length (entCells l)) (hb : w.heap.size ≤ base) : EntsOff w' A v l :=
  ⟨SliceAt.of_owns ho, fun _ b hb' => ⟨(ho.lt b hb').2, fun e => by have h1 := (ho.lt b hb').1; have h2 := h.lt (.inl e); omega⟩⟩

end Go.Proofs.YtidlchciehdefaaGreat
/-
  Pruners (package prune): cut: nothing to cut; a leaf.
-/
namespace Go.Proofs.YtidlchciehdefaaGreat
open Go.RowKit
set_option maxRecDepth 100000

theorem results_row_tmp2 {P : Program} {fn : Func} {p u u2 : Tmp} {ty : TypeId} (h : fn.results = #[.cell p ty, .tmp u, .tmp u2]) (tmps : Array Value) (w : World) (g : Nat) (t : TypeId) (cs : Array Value) (fr : Nat × Nat) (d : TypeDesc)
    (hp : tmps.getD p undef = .pointer (some ⟨g, 0, none⟩)) (hg : w.heap[g]? = some (.cells cs t fr))
    (hu : P.underlying ty = some d) (hd : (match d with | .struct _ | .array _ _ => true | _ => false) = true) (hi : (P.info? ty).map (·.size) = some cs.size) :
    (results fn tmps).run P w = .ok (.tuple #[.agg cs, tmps.getD u undef, tmps.getD u2 undef]) w := by
  have hp' : tmps[p]?.getD undef = .pointer (some ⟨g, 0, none⟩) := by simpa using hp
  simp [results, h, hp', asAddr, run_loadVar_row w g t ty cs fr d hg hu hd hi]
end Go.Proofs.YtidlchciehdefaaGreat
/-
  Pruners (package prune): cut: an inner node: what holds in the midst of it.
-/
namespace Go.Proofs.YtidlchciehdefaaGreat
open Go.RowKit
set_option maxRecDepth 100000

section
variable {w : World} {A : SA} {M : SM} {n : NM} {sv : Value} {nb : Nat} {Z : Array Value} {A' : SA} {M' : SM} {wr : World}
end
/-- A box that has been filled is filled anew. -/
theorem BoxAt.again {W : World} {A : SA} {cb : Nat} {n J : NM} {v u : Value} (hb : BoxAt W A cb n v) (hu : EntsOff W A u J.ents) (hne : u.ownBlock ≠ some cb) : BoxAt (W.setRow cb (nodeCells J u).toArray) A cb J u := by
  have k := (Kept.refl (fun i => i = cb) W).setRow rfl (nodeCells J u).toArray
  exact ⟨⟨setRow_heap _ _ _ _ _ _ hb.box.heap⟩, ⟨Nat.lt_of_lt_of_le hb.safe.lt k.size, hb.safe.off⟩, ⟨SliceAt.kept hu.at_ k (fun b hb' e => hne (by rw [hb', e])), fun hl b hb' => ⟨Nat.lt_of_lt_of_le (hu.off hl b hb').1 k.size, (hu.off hl b hb').2⟩⟩⟩
theorem BoxAt.fresh {W W' : World} {A : SA} {cb : Nat} {n : NM} {v : Value} (hb : BoxAt W A cb n v) (k : Kept (fun _ => False) W W') : BoxAt W' A cb n v :=
  ⟨hb.box.kept k id, hb.safe.fresh k, hb.ents.fresh k⟩
end Go.Proofs.YtidlchciehdefaaGreat
/-
  Pruners (package prune): cut: an inner node.
-/
namespace Go.Proofs.YtidlchciehdefaaGreat
open Go.RowKit
set_option maxRecDepth 100000

end Go.Proofs.YtidlchciehdefaaGreat
/-
  Pruners (package prune): cut, whole.
-/
namespace Go.Proofs.YtidlchciehdefaaGreat
open Go.RowKit
set_option maxRecDepth 100000

end Go.Proofs.YtidlchciehdefaaGreat
/-
  Cutting, plain: a child that was changed, and the neighbour that it is one with.
-/
namespace Go.Proofs.YtidlchciehdefaaGreat
open Go.RowKit

end Go.Proofs.YtidlchciehdefaaGreat
/-
  Cutting, plain: the joined child is made anew.
-/
namespace Go.Proofs.YtidlchciehdefaaGreat
open Go.RowKit

theorem Kids.ge {T : Int → List (Int × Int) → Prop} : ∀ {es l : List (Int × Int)}, Kids T es l → RisesK l → ∀ y ∈ l, ∃ e ∈ es, e.1 ≤ y.1
  | [], l, h, _, y, hy => by rw [show l = [] from h] at hy; cases hy
  | e :: es, _, ⟨a, b, x, h1, h2, h3, h4, h5⟩, hr, y, hy => by
    rw [h1] at hr hy
    have hr' := List.pairwise_append.1 hr
    rcases List.mem_append.1 hy with hy | hy
    · exact ⟨e, List.mem_cons_self .., by rw [← h4]; exact head_le hr'.1 h3 y hy⟩
    · obtain ⟨f, hf, hle⟩ := Kids.ge h5 hr'.2.1 y hy
      exact ⟨f, List.mem_cons_of_mem _ hf, hle⟩
theorem NTr.ge {T : Int → List (Int × Int) → Prop} {h : Nat} {n : NM} {l : List (Int × Int)} (k : NTr T h n l) (hr : RisesK l) : ∀ y ∈ l, ∃ e ∈ n.ents, e.1 ≤ y.1 := by
  rcases k with ⟨_, _, hl⟩ | ⟨_, _, hK⟩
  · intro y hy
    exact ⟨y, by rw [hl]; exact hy, Int.le_refl _⟩
  · exact hK.ge hr
end Go.Proofs.YtidlchciehdefaaGreat
/-
  Cutting, plain: a level up, behind the child's own cut.
-/
namespace Go.Proofs.YtidlchciehdefaaGreat
open Go.RowKit

theorem Loose.mono {M : SM} {E F : List (Int × Int)} (h : Loose M E) (hm : ∀ y ∈ E, y ∈ F) : Loose M F := fun q hq hc => by
  obtain ⟨y, hy, he⟩ := h q hq hc
  exact ⟨y, hm y hy, he⟩
theorem NTr.append {T : Int → List (Int × Int) → Prop} {h : Nat} {n m : NM} {a b : List (Int × Int)} (k : NTr T h n a) (j : NTr T h m b) (c : Int) (hc : c = n.kind) (u : List Nat) : NTr T h ⟨c, u, n.ents ++ m.ents⟩ (a ++ b) := by
  subst hc
  rcases k with ⟨h0, hk, hl⟩ | ⟨h0, hk, hl⟩
  · rcases j with ⟨_, hk', hl'⟩ | ⟨h1, _⟩
    · exact .inl ⟨h0, hk, by rw [← hl, ← hl']⟩
    · omega
  · rcases j with ⟨h1, _⟩ | ⟨_, hk', hl'⟩
    · omega
    · exact .inr ⟨h0, hk, Kids.append hl hl'⟩
theorem NTr.nil {T : Int → List (Int × Int) → Prop} {h : Nat} {n : NM} {l : List (Int × Int)} (k : NTr T h n l) (h0 : n.ents.length = 0) : l = [] := by
  have he : n.ents = [] := List.eq_nil_of_length_eq_zero h0
  rcases k with ⟨_, _, hl⟩ | ⟨_, _, hl⟩
  · rw [← hl, he]
  · rw [he] at hl; exact hl

end Go.Proofs.YtidlchciehdefaaGreat
/-
  Cutting, plain: the entries of a tree's uppermost node without a key.
-/
namespace Go.Proofs.YtidlchciehdefaaGreat
open Go.RowKit

end Go.Proofs.YtidlchciehdefaaGreat
/-
  Trees in a store, plain: a mark, and what is undone; a root that is held.
-/
namespace Go.Proofs.YtidlchciehdefaaGreat
open Go.RowKit

def markM (M : SM) : SM := { M with pool := M.pool.turned 1 2 }
/-- Pools that hold the same, and logs that say the same of what is there. -/
theorem exact_same {M N : SM} {ext : Nat → Nat} (h : Exact M ext) (hs : N.pool.size = M.pool.size) (hc : ∀ q, N.pool.cnt q = M.pool.cnt q) (hl : ∀ q, N.live q = M.live q) (hn : ∀ q, M.live q = true → N.nodeAt q = M.nodeAt q) : Exact N ext := by
  have he : ∀ q, M.live q = true → N.ents q = M.ents q := fun q hq => by unfold SM.ents; rw [hn q hq]
  refine ⟨by rw [hs]; exact h.size, fun p => by rw [hc]; exact h.cntLe p, fun p hp => ?_, fun q hq => ?_, fun q hq x hx => ?_, ?_⟩
  · rw [hc, h.cnt p (by rw [← hs]; exact hp)]
    unfold SM.refs
    rw [hs]
    have : sumN (fun q => if M.live q then occ (M.ents q) p else 0) M.pool.size = sumN (fun q => if N.live q then occ (N.ents q) p else 0) M.pool.size := sumN_congr fun q _ => by
      rw [hl]
      by_cases hq : M.live q = true
      · rw [if_pos hq, if_pos hq, he q hq]
      · rw [if_neg hq, if_neg hq]
    rw [this]
  · rw [hl] at hq
    rw [hn q hq]; exact h.node q hq
  · rw [hl] at hq ⊢
    rw [he q hq] at hx
    exact h.kids q hq x hx
  · obtain ⟨r, hr⟩ := h.rank
    exact ⟨r, fun q hq x hx => by rw [hl] at hq; rw [he q hq] at hx; exact hr q hq x hx⟩
theorem Kids.in {T : Int → List (Int × Int) → Prop} : ∀ {es l : List (Int × Int)}, Kids T es l → ∀ y ∈ l, ∃ e ∈ es, ∃ a, T e.2 a ∧ y ∈ a
  | [], l, h, y, hy => by rw [show l = [] from h] at hy; cases hy
  | e :: es, _, ⟨a, b, x, h1, h2, h3, h4, h5⟩, y, hy => by
    rw [h1] at hy
    rcases List.mem_append.1 hy with hy | hy
    · exact ⟨e, List.mem_cons_self .., a, h2, hy⟩
    · obtain ⟨f, hf, c, hc, hyc⟩ := Kids.in h5 y hy
      exact ⟨f, List.mem_cons_of_mem _ hf, c, hc, hyc⟩
theorem ext_held {M : SM} {ext : Nat → Nat} (E : Exact M ext) {p : Nat} (hp : p < M.pool.size) (he : 0 < ext p) : M.pool.heldB (p : Int) = true := by
  rw [heldB_nat]
  have := E.cnt p hp
  unfold PM.live
  simp only [hp, decide_true, Bool.true_and]
  rw [Bool.or_eq_true]
  left
  rw [decide_eq_true_eq]
  omega

end Go.Proofs.YtidlchciehdefaaGreat
/-
  Trees in a store, plain: which pages a tree has; two trees in a store without marks.
-/
namespace Go.Proofs.YtidlchciehdefaaGreat
open Go.RowKit

/-- All that is there was taken since the last commit, and what isn't there is free. -/
def Clean (M : SM) : Prop := ∀ q, (M.pool.st q = 0 ∨ M.pool.st q = 1) ∧ (0 < M.pool.cnt q → M.pool.st q = 1)
theorem clean_live {M : SM} (h : Clean M) {i : Int} (hi : M.pool.heldB i = true) : M.pool.st i.toNat = 1 := by
  have hl := (heldB_int hi).2
  have := h i.toNat
  simp only [PM.live, Bool.and_eq_true, Bool.or_eq_true, decide_eq_true_eq, beq_iff_eq] at hl
  rcases hl.2 with h1 | h1 | h1
  · exact this.2 h1
  · exact h1
  · omega
theorem clean_closed : Closed Clean := by
  refine ⟨fun M i n hi h q => ?_, fun M i h q => ?_, fun M i hi h q => ?_⟩
  · have := h q
    by_cases e : q = i
    · subst e; simp [PM.setSt]
    · simp only [PM.setSt, if_neg e]; exact this
  · have := h q
    show ((M.pool.holdTo i).st q = 0 ∨ (M.pool.holdTo i).st q = 1) ∧ (0 < (M.pool.holdTo i).cnt q → (M.pool.holdTo i).st q = 1)
    unfold PM.holdTo
    split
    · rename_i hc
      simp only [Bool.and_eq_true] at hc
      have hs := clean_live h hc.1
      simp only [PM.setCnt]
      refine ⟨this.1, fun hq => ?_⟩
      split at hq
      · rename_i e; rw [e]; exact hs
      · exact this.2 hq
    · exact this
  · have := h q
    have hs := clean_live h hi
    show ((M.pool.dropTo i.toNat).st q = 0 ∨ (M.pool.dropTo i.toNat).st q = 1) ∧ (0 < (M.pool.dropTo i.toNat).cnt q → (M.pool.dropTo i.toNat).st q = 1)
    unfold PM.dropTo
    split
    · simp only [PM.setCnt]
      refine ⟨this.1, fun hq => ?_⟩
      split at hq
      · rename_i e; rw [e]; exact hs
      · exact this.2 hq
    · simp only [PM.setCnt, PM.setSt]
      by_cases e : q = i.toNat
      · subst e
        simp only [if_true]
        rw [hs]
        exact ⟨.inl rfl, fun h => by omega⟩
      · simp only [if_neg e]
        exact this
theorem clean_free {M : SM} (h : Clean M) : M.pool.freeCount + M.liveN = M.pool.size := by
  unfold PM.freeCount SM.liveN
  rw [freeN_sum, ← sumN_add]
  have : ∀ n, n ≤ M.pool.size → sumN (fun i => (if M.pool.freeB i then 1 else 0) + if M.live i then 1 else 0) n = n := by
    intro n
    induction n with
    | zero => intro _; rfl
    | succ n ih =>
      intro hn
      unfold sumN
      rw [ih (by omega)]
      have hq := h n
      by_cases hl : M.live n = true
      · have hf : M.pool.freeB n = false := by
          simp only [SM.live, PM.live, Bool.and_eq_true, Bool.or_eq_true, decide_eq_true_eq, beq_iff_eq] at hl
          unfold PM.freeB
          rw [Bool.and_eq_false_iff]
          rcases hl.2 with h1 | h1 | h1
          · left; simp; omega
          · right; rw [h1]; rfl
          · right; rw [h1]; rfl
        rw [hf, hl]; simp
      · have hf : M.pool.freeB n = true := by
          simp only [SM.live, PM.live, Bool.and_eq_true, Bool.or_eq_true, decide_eq_true_eq, beq_iff_eq, not_and, not_or] at hl
          have := hl (by omega)
          unfold PM.freeB
          simp
          omega
        have hl' : M.live n = false := by simpa using hl
        rw [hf, hl']; simp
  exact this _ (Nat.le_refl _)

/-- A tree's pages. -/
def pagesF (M : SM) : Nat → Int → List Nat
  | 0, _ => []
  | h + 1, p => p.toNat :: (if h = 0 then [] else (M.ents p.toNat).flatMap fun e => pagesF M h e.2)
theorem pages_self {M : SM} {h : Nat} {p : Int} (h0 : 0 < h) : p.toNat ∈ pagesF M h p := by
  obtain ⟨k, rfl⟩ : ∃ k, h = k + 1 := ⟨h - 1, by omega⟩
  exact List.mem_cons_self ..
theorem tr_pos {m : Nat} {M : SM} {h : Nat} {p : Int} {l : List (Int × Int)} (t : Tr m M h p l) : 0 < h := by
  cases h with
  | zero => exact t.elim
  | succ h => omega
theorem ents_of {M : SM} {q : Nat} {n : NM} (h : M.nodeAt q = some n) : M.ents q = n.ents := by unfold SM.ents; rw [h]
theorem pages_closed {m : Nat} {M : SM} : ∀ {h : Nat} {p : Int} {l : List (Int × Int)}, Tr m M h p l → ∀ q ∈ pagesF M h p, ∀ x ∈ M.ents q, x.2.toNat ∈ pagesF M h p ∨ x ∈ l
  | 0, _, _, t, _, _, _, _ => t.elim
  | h + 1, p, l, ⟨hp, n, hn, hok, k⟩, q, hq, x, hx => by
    have he := ents_of hn
    unfold pagesF at hq ⊢
    rcases k with ⟨h0, _, hl⟩ | ⟨h0, _, hK⟩
    · rw [if_pos h0, List.mem_singleton] at hq
      subst hq
      rw [he, hl] at hx
      exact .inr hx
    · rw [if_neg (by omega)] at hq ⊢
      rcases List.mem_cons.1 hq with rfl | hq
      · rw [he] at hx
        left
        refine List.mem_cons_of_mem _ (List.mem_flatMap.2 ⟨x, by rw [he]; exact hx, pages_self h0⟩)
      · obtain ⟨e, hee, hqe⟩ := List.mem_flatMap.1 hq
        rw [he] at hee
        obtain ⟨a, ha, hal⟩ := hK.each e hee
        rcases pages_closed ha.1 q hqe x hx with h1 | h1
        · exact .inl (List.mem_cons_of_mem _ (List.mem_flatMap.2 ⟨e, by rw [he]; exact hee, h1⟩))
        · exact .inr (hal x h1)
def entSum (M : SM) (L : List Nat) : Nat := (L.map fun q => (M.ents q).length).sum
theorem entSum_append (M : SM) (a b : List Nat) : entSum M (a ++ b) = entSum M a + entSum M b := by unfold entSum; rw [List.map_append, List.sum_append]
/-- What is there can be reached. -/
theorem reach_all {M : SM} {ext : Nat → Nat} (E : Exact M ext) (hl : Loose M []) {L : List Nat} (h1 : ∀ q, q < M.pool.size → 0 < ext q → q ∈ L) (h2 : ∀ q ∈ L, ∀ x ∈ M.ents q, x.2.toNat ∈ L) : ∀ q, M.live q = true → q ∈ L := by
  obtain ⟨r, hr⟩ := E.rank
  have hb : ∀ q, M.live q = true → r q ≤ sumN r M.pool.size := fun q hq => sumN_get (live_lt hq)
  have key : ∀ d q, M.live q = true → sumN r M.pool.size - r q ≤ d → q ∈ L := by
    intro d
    induction d with
    | zero =>
      intro q hq hd
      refine Classical.byContradiction fun hn => ?_
      have hc : 0 < M.pool.cnt q := by
        rcases Nat.eq_zero_or_pos (M.pool.cnt q) with h0 | h0
        · obtain ⟨x, hx, _⟩ := hl q hq h0; cases hx
        · exact h0
      have he : ext q = 0 := by
        rcases Nat.eq_zero_or_pos (ext q) with h0 | h0
        · exact h0
        · exact absurd (h1 q (live_lt hq) h0) hn
      rw [E.cnt q (live_lt hq), he, Nat.add_zero] at hc
      obtain ⟨p, hp, x, hx, hxe⟩ := refs_pos hc
      have := hr p hp x hx
      rw [hxe] at this
      have := hb p hp
      have := hb q hq
      omega
    | succ d ih =>
      intro q hq hd
      refine Classical.byContradiction fun hn => ?_
      have hc : 0 < M.pool.cnt q := by
        rcases Nat.eq_zero_or_pos (M.pool.cnt q) with h0 | h0
        · obtain ⟨x, hx, _⟩ := hl q hq h0; cases hx
        · exact h0
      have he : ext q = 0 := by
        rcases Nat.eq_zero_or_pos (ext q) with h0 | h0
        · exact h0
        · exact absurd (h1 q (live_lt hq) h0) hn
      rw [E.cnt q (live_lt hq), he, Nat.add_zero] at hc
      obtain ⟨p, hp, x, hx, hxe⟩ := refs_pos hc
      have := hr p hp x hx
      rw [hxe] at this
      have hpL := ih p hp (by omega)
      have := h2 p hpL x hx
      rw [hxe] at this
      exact hn this
  exact fun q hq => key _ q hq (Nat.le_refl _)
where
  refs_pos {M : SM} {q : Nat} (h : 0 < M.refs q) : ∃ p, M.live p = true ∧ ∃ x ∈ M.ents p, x.2.toNat = q := by
    refine Classical.byContradiction fun hn => ?_
    have : M.refs q = 0 := sumN_zero fun p _ => by
      by_cases hp : M.live p = true
      · rw [if_pos hp]
        rcases Nat.eq_zero_or_pos (occ (M.ents p) q) with h0 | h0
        · exact h0
        · obtain ⟨x, hx, he⟩ := List.countP_pos_iff.1 h0
          exact absurd ⟨p, hp, x, hx, by rw [show x.2 = (q : Int) by simpa using he]; exact Int.toNat_natCast q⟩ hn
      · rw [if_neg hp]
    omega
/-- A sum over what is there is at most one over a list that has it all. -/
theorem sum_list {f : Nat → Nat} {b : Nat → Bool} : ∀ (L : List Nat) (n : Nat), (∀ q, q < n → b q = true → q ∈ L) → sumN (fun q => if b q then f q else 0) n ≤ (L.map f).sum
  | [], n, h => by
    rw [sumN_zero fun q hq => by
      by_cases hb : b q = true
      · exact absurd (h q hq hb) (by simp)
      · rw [if_neg hb]]
    exact Nat.zero_le _
  | a :: L, n, h => by
    have ih := sum_list (f := f) (b := fun q => b q && decide (q ≠ a)) L n (fun q hq hb => by
      simp only [Bool.and_eq_true, decide_eq_true_eq] at hb
      rcases List.mem_cons.1 (h q hq hb.1) with e | e
      · exact absurd e hb.2
      · exact e)
    rw [List.map_cons, List.sum_cons]
    by_cases ha : a < n
    · have := sumN_set (f := fun q => if b q then f q else 0) (g := fun q => if (b q && decide (q ≠ a)) then f q else 0) ha (fun j _ hj => by simp [hj])
      have e1 : (if (b a && decide (a ≠ a)) = true then f a else 0) = 0 := by simp
      rw [e1] at this
      have : (if b a = true then f a else 0) ≤ f a := by split <;> omega
      omega
    · have : sumN (fun q => if b q then f q else 0) n = sumN (fun q => if (b q && decide (q ≠ a)) then f q else 0) n := sumN_congr fun q hq => by
        have hqa : q ≠ a := by omega
        rw [decide_eq_true hqa, Bool.and_true]
      omega
theorem liveN_list {M : SM} {L : List Nat} (h : ∀ q, M.live q = true → q ∈ L) : M.liveN ≤ L.length := by
  have := sum_list (f := fun _ => 1) (b := M.live) L M.pool.size (fun q _ hq => h q hq)
  have e : ∀ L : List Nat, (L.map fun _ => 1).sum = L.length := fun L => by
    induction L with
    | nil => rfl
    | cons a L ih => rw [List.map_cons, List.sum_cons, ih, List.length_cons]; omega
  rw [e] at this
  exact this
theorem sumE_list {M : SM} {L : List Nat} (h : ∀ q, M.live q = true → q ∈ L) : M.sum ≤ entSum M L := sum_list L M.pool.size (fun q _ hq => h q hq)
end Go.Proofs.YtidlchciehdefaaGreat
/-
  What can be reached in a store that is exact, plain: all that is asked is there.
-/
namespace Go.Proofs.YtidlchciehdefaaGreat
open Go.RowKit

end Go.Proofs.YtidlchciehdefaaGreat
/-
  One tree in a store, plain: how many pages it has, by its ledger.
-/
namespace Go.Proofs.YtidlchciehdefaaGreat
open Go.RowKit

theorem tr_ents {m : Nat} {M : SM} {h : Nat} {p : Int} {l : List (Int × Int)} (t : Tr m M (h + 1) p l) : 1 ≤ (M.ents p.toNat).length ∧ (M.ents p.toNat).length ≤ 6 := by
  obtain ⟨_, n, hn, hok, k⟩ := t
  have := innerOk_of hok (by have := k.kind; omega)
  rw [ents_of hn]
  exact ⟨this.pos, this.le⟩
/-- A tree's ledger bounds its height. -/
theorem led_high {m : Nat} {M : SM} {h : Nat} {p : Int} {l : List (Int × Int)} {s : Nat} (t : Tr m M (h + 1) p l) (k : Led M (h + 1) p s) (h0 : 0 < h) : 3 ^ h ≤ s := by
  rcases k with ⟨hz, _⟩ | ⟨_, hK⟩
  · omega
  · have h1 := (tr_ents t).1
    cases he : M.ents p.toNat with
    | nil => rw [he] at h1; simp at h1
    | cons e es =>
      rw [he] at hK
      obtain ⟨t, u, h2, h3, _⟩ := hK
      have := h3.1
      omega
theorem pages_cnt {M : SM} : ∀ (h : Nat) (p : Int), (pagesF M h p).length = sumN (fun j => cntL M (j + 1) h p) h
  | 0, _ => rfl
  | h + 1, p => by
    unfold pagesF sumN
    have e1 : cntL M (h + 1) (h + 1) p = 1 := by
      unfold cntL
      rw [if_pos rfl]
      split
      · rfl
      · have : ∀ es : List (Int × Int), (es.map fun e => cntL M (h + 1) h e.2).sum = 0 := fun es => by
          induction es with
          | nil => rfl
          | cons e es ih => rw [List.map_cons, List.sum_cons, ih, cntL_low (by omega)]
        rw [this]
    rw [e1, List.length_cons]
    by_cases h0 : h = 0
    · subst h0; rfl
    · rw [if_neg h0]
      have e2 : sumN (fun j => cntL M (j + 1) (h + 1) p) h = sumN (fun j => ((M.ents p.toNat).map fun e => cntL M (j + 1) h e.2).sum) h := sumN_congr fun j hj => by
        conv => lhs; unfold cntL
        rw [if_neg (by omega), if_neg h0, Nat.zero_add]
      rw [e2]
      have e3 : ∀ es : List (Int × Int), (es.flatMap fun e => pagesF M h e.2).length = sumN (fun j => (es.map fun e => cntL M (j + 1) h e.2).sum) h := fun es => by
        induction es with
        | nil => exact (sumN_zero (fun _ _ => rfl)).symm
        | cons e es ih =>
          have e4 : sumN (fun j => ((e :: es).map fun e => cntL M (j + 1) h e.2).sum) h = sumN (fun j => cntL M (j + 1) h e.2) h + sumN (fun j => (es.map fun e => cntL M (j + 1) h e.2).sum) h := by
            rw [← sumN_add]
            exact sumN_congr fun j _ => by rw [List.map_cons, List.sum_cons]
          rw [e4, ← ih, ← pages_cnt h e.2, List.flatMap_cons, List.length_append]
      rw [e3]
/-- How many pages at most: of at most 240 puts. -/
theorem led_pages {m : Nat} {M : SM} {h : Nat} {p : Int} {l : List (Int × Int)} {s : Nat} (t : Tr m M h p l) (k : Led M h p s) (hs : s ≤ 240) : h ≤ 5 ∧ (s ≤ 150 → (pagesF M h p).length ≤ 73) ∧ 2 * (pagesF M h p).length ≤ s + 3 := by
  have h5 : h ≤ 5 := by
    cases h with
    | zero => exact Nat.zero_le _
    | succ h =>
      by_cases h0 : 0 < h
      · have := led_high t k h0
        refine Classical.byContradiction fun hn => ?_
        have h2 : 3 ^ 5 ≤ 3 ^ h := Nat.pow_le_pow_right (by decide) (by omega)
        have : (3 : Nat) ^ 5 = 243 := by decide
        omega
      · omega
  refine ⟨h5, ?_⟩
  rw [pages_cnt]
  have hc : ∀ j, j < h → 3 ^ j * cntL M j h p ≤ s := fun j hj => led_cnt k hj
  have ht : cntL M h h p ≤ 1 := by
    cases h with
    | zero => exact Nat.zero_le _
    | succ h =>
      unfold cntL
      rw [if_pos rfl]
      split
      · exact Nat.le_refl _
      · have : ∀ es : List (Int × Int), (es.map fun e => cntL M (h + 1) h e.2).sum = 0 := fun es => by
          induction es with
          | nil => rfl
          | cons e es ih => rw [List.map_cons, List.sum_cons, ih, cntL_low (by omega)]
        rw [this]
        exact Nat.le_refl _
  have d1 := hc 1
  have d2 := hc 2
  have d3 := hc 3
  have d4 := hc 4
  have e2 : (3 : Nat) ^ 2 = 9 := by decide
  have e3 : (3 : Nat) ^ 3 = 27 := by decide
  have e4 : (3 : Nat) ^ 4 = 81 := by decide
  rw [Nat.pow_one] at d1
  rw [e2] at d2
  rw [e3] at d3
  rw [e4] at d4
  have hcase : h = 0 ∨ h = 1 ∨ h = 2 ∨ h = 3 ∨ h = 4 ∨ h = 5 := by omega
  rcases hcase with rfl | rfl | rfl | rfl | rfl | rfl
  · simp [sumN]
  · simp only [sumN, Nat.zero_add, Nat.reduceAdd]; omega
  · have := d1 (by decide)
    simp only [sumN, Nat.zero_add, Nat.reduceAdd]; omega
  · have := d1 (by decide); have := d2 (by decide)
    simp only [sumN, Nat.zero_add, Nat.reduceAdd]; omega
  · have := d1 (by decide); have := d2 (by decide); have := d3 (by decide)
    simp only [sumN, Nat.zero_add, Nat.reduceAdd]; omega
  · have := d1 (by decide); have := d2 (by decide); have := d3 (by decide); have := d4 (by decide)
    simp only [sumN, Nat.zero_add, Nat.reduceAdd]; omega
/-- A tree's nodes have as many entries as there are keys and nodes below the root. -/
theorem pages_sum {m : Nat} {M : SM} : ∀ {h : Nat} {p : Int} {l : List (Int × Int)}, Tr m M h p l → entSum M (pagesF M h p) + 1 = l.length + (pagesF M h p).length
  | 0, _, _, t => t.elim
  | h + 1, p, l, ⟨hp, n, hn, hok, k⟩ => by
    have he := ents_of hn
    unfold pagesF
    rcases k with ⟨h0, _, hl⟩ | ⟨h0, _, hK⟩
    · rw [if_pos h0]
      unfold entSum
      simp only [List.map_cons, List.map_nil, List.sum_cons, List.sum_nil, List.length_cons, List.length_nil]
      rw [he, hl]
      omega
    · rw [if_neg (by omega), he]
      have key : ∀ (es l : List (Int × Int)), Kids (Sub m M h) es l → entSum M (es.flatMap fun e => pagesF M h e.2) + es.length = l.length + (es.flatMap fun e => pagesF M h e.2).length := by
        intro es
        induction es with
        | nil => intro l hl; rw [show l = [] from hl]; rfl
        | cons e es ih =>
          rintro l ⟨a, b, x, h1, h2, h3, h4, h5⟩
          have i1 := pages_sum h2.1
          have i2 := ih b h5
          rw [List.flatMap_cons, entSum_append, h1, List.length_append, List.length_append, List.length_cons]
          omega
      have i3 := key n.ents l hK
      have e1 : entSum M (p.toNat :: n.ents.flatMap fun e => pagesF M h e.2) = n.ents.length + entSum M (n.ents.flatMap fun e => pagesF M h e.2) := by
        unfold entSum
        rw [List.map_cons, List.sum_cons, he]
      rw [e1, List.length_cons]
      omega
end Go.Proofs.YtidlchciehdefaaGreat
/-
  Cutting, plain: a tree without a key.
-/
namespace Go.Proofs.YtidlchciehdefaaGreat
open Go.RowKit

end Go.Proofs.YtidlchciehdefaaGreat
/-
  Several trees in a store, plain: a change of one of them.
-/
namespace Go.Proofs.YtidlchciehdefaaGreat
open Go.RowKit

section
variable {m : Nat} {M M' : SM} {ext : Nat → Nat} {root : Int} {l : List (Int × Int)} {P : Nat}
end

/-- An entry stands in a leaf. -/
theorem tr_mem {m : Nat} {M : SM} : ∀ {h : Nat} {p : Int} {l : List (Int × Int)}, Tr m M h p l → ∀ y ∈ l, ∃ q, M.live q = true ∧ y ∈ M.ents q
  | 0, _, _, t, _, _ => t.elim
  | h + 1, p, l, ⟨hp, n, hn, _, k⟩, y, hy => by
    rcases k with ⟨_, _, hl⟩ | ⟨_, _, hK⟩
    · exact ⟨p.toNat, (heldB_int hp).2, by rw [ents_of hn, hl]; exact hy⟩
    · obtain ⟨e, _, a, ha, hya⟩ := hK.in y hy
      exact tr_mem ha.1 y hya
theorem ntr_mem {m : Nat} {M : SM} {h : Nat} {n : NM} {l : List (Int × Int)} (k : NTr (Sub m M h) h n l) : ∀ y ∈ l, y ∈ n.ents ∨ ∃ q, M.live q = true ∧ y ∈ M.ents q := fun y hy => by
  rcases k with ⟨_, _, hl⟩ | ⟨_, _, hK⟩
  · exact .inl (by rw [hl]; exact hy)
  · obtain ⟨e, _, a, ha, hya⟩ := hK.in y hy
    exact .inr (tr_mem ha.1 y hya)
theorem ref_pos {M : SM} {ext : Nat → Nat} (E : Exact M ext) {q : Nat} (hq : M.live q = true) {x : Int × Int} (hx : x ∈ M.ents q) : 0 < M.pool.cnt x.2.toNat := by
  have h1 := E.kids q hq x hx
  rw [E.cnt _ (live_lt h1)]
  unfold SM.refs
  have h2 := sumN_get (f := fun q => if M.live q then occ (M.ents q) x.2.toNat else 0) (live_lt hq)
  have h3 := occ_pos hx (E.pos hq hx)
  simp only [hq, if_true] at h2
  omega
theorem putL_has (l : List (Int × Int)) (x : Int × Int) : x ∈ putL l x := by
  unfold putL
  exact List.mem_append_left _ (List.mem_append_right _ (List.mem_singleton.2 rfl))
/-- A page that isn't held yet comes into a tree. -/
theorem put_new {m : Nat} (hm : m ≤ 3) {M : SM} {ext : Nat → Nat} (E : Exact M ext) {h : Nat} {root key page : Int} {l : List (Int × Int)} (t : Rooted m M root l h) (h8 : h ≤ 8) (g : Good M l) (hl : Loose M [(key, page)]) (hx : M.pool.heldB page = true) (k0 : 0 ≤ key) (k1 : key < 64) :
    ((M.put root key page).2.2 = 0 ∧ TopOk m M ext (h - 1) (putL l (key, page)) (2 * h + 3) (7 * h + 3) (M.put root key page).1 (M.put root key page).2.1 (fun s => ∃ r, s = r + 1 ∧ (root = -1 ∨ Led M h root r)) (fun _ => False)) ∨
      ((M.put root key page).2.1 = -1 ∧ (M.put root key page).2.2 = 71 ∧ M.pool.freeCount < 2 * h + 3) ∨ ((M.put root key page).2.1 = -1 ∧ (M.put root key page).2.2 = 72 ∧ ∃ c, 255 < M.refs c + 7 * h + 3 + ext c) := by
  unfold SM.put
  rw [if_neg (by omega)]
  rcases t with ⟨rfl, rfl, rfl⟩ | t
  · rw [if_pos rfl]
    have t0 : NTr (Sub m M 0) 0 ⟨2, List.replicate 16 0, [(key, page)]⟩ (putL [] (key, page)) := .inl ⟨rfl, rfl, rfl⟩
    rcases top_ok hm E t0 (g.put k0 k1 hx) (by show 1 ≤ 1; omega) (by show 1 ≤ 12; omega) hl with ⟨e, T⟩ | ⟨e1, e, hf⟩ | ⟨e1, e, c, hc⟩
    · have b1 := T.free
      have b2 := T.sum
      dsimp only [List.length_cons, List.length_nil] at b2
      exact .inl ⟨e, ⟨T.exact, T.grown, T.tr, by omega, by omega, T.zero, T.loose, fun s hs => T.led s (.inl ⟨rfl, by obtain ⟨r, hr, _⟩ := hs; show 1 ≤ s; omega⟩), fun sp hsp => hsp.elim⟩⟩
    · exact .inr (.inl ⟨e1, e, by omega⟩)
    · exact .inr (.inr ⟨e1, e, c, by dsimp only [List.length_cons, List.length_nil] at hc; omega⟩)
  · have hne : root ≠ -1 := fun e => by have := (heldB_int t.held).1; omega
    rw [if_neg hne]
    cases h with
    | zero => exact t.elim
    | succ h =>
      have hp := putF_ok hm (x := (key, page)) k0 k1 h 0 M l root (by omega) E t g hx
      rw [Nat.sub_zero] at hp
      obtain ⟨R, hR⟩ : ∃ R, SM.putF 9 M root (key, page) = R := ⟨_, rfl⟩
      rw [hR] at hp ⊢
      obtain ⟨M1, n1, er⟩ := R
      dsimp only at hp ⊢
      rcases hp with ⟨rfl, P⟩ | ⟨rfl, hf⟩ | ⟨rfl, hf⟩
      · rw [if_pos rfl]
        have a1 := P.free
        have a2 := P.sum
        have hen := P.entN
        have hlo := P.lo
        have hhi := P.hi
        have hL : Loose M1 n1.ents := fun q hq hc => by
          obtain ⟨y, hy, he⟩ := P.loose [(key, page)] hl q hq hc
          rcases List.mem_append.1 hy with hy | hy
          · exact ⟨y, hy, he⟩
          · rw [List.mem_singleton] at hy
            subst hy
            rcases ntr_mem P.tr (key, page) (putL_has _ _) with h1 | ⟨q', hq', h1⟩
            · exact ⟨_, h1, he⟩
            · have := ref_pos P.exact hq' h1
              rw [he, Int.toNat_natCast] at this
              omega
        rcases top_ok hm P.exact P.tr ((g.put k0 k1 hx).grown P.grown) (by omega) (by omega) hL with ⟨e, T⟩ | ⟨e1, e, hf⟩ | ⟨e1, e, c, hc⟩
        · have b1 := T.free
          have b2 := T.sum
          exact .inl ⟨e, ⟨T.exact, P.grown.trans T.grown, T.tr, by omega, by omega, T.zero, T.loose, fun s hs => by
            obtain ⟨r, rfl, hr⟩ := hs
            rcases hr with hr | hr
            · exact absurd hr hne
            · exact T.led _ (P.led r hr), fun sp hsp => hsp.elim⟩⟩
        · exact .inr (.inl ⟨e1, e, by omega⟩)
        · have hg := P.grown.refs c
          exact .inr (.inr ⟨e1, e, c, by omega⟩)
      · rw [if_neg (by decide)]
        exact .inr (.inl ⟨rfl, rfl, by omega⟩)
      · rw [if_neg (by decide)]
        obtain ⟨c, hc⟩ := hf
        exact .inr (.inr ⟨rfl, rfl, c, by omega⟩)

/-- A tree with a change, not held yet; the change of a tree, held in its place; changes. -/
def SM.one (M : SM) (root : Int) (c : Int × Int) : SM × Int × Nat := if c.2 = -1 then ((M.cut root c.1).1, (M.cut root c.1).2.1, (M.cut root c.1).2.2.2) else M.put root c.1 c.2
def SM.change (M : SM) (root : Int) (c : Int × Int) : SM × Int × Nat :=
  let o := M.one root c
  if o.2.2 = 0 then (if (o.1.swap root o.2.1).2 = 0 then ((o.1.swap root o.2.1).1, o.2.1, 0) else ((o.1.swap root o.2.1).1, -1, (o.1.swap root o.2.1).2)) else (o.1, -1, o.2.2)
def SM.changes : List (Int × Int) → SM → Int → SM × Int × Nat
  | [], M, root => (M, root, 0)
  | c :: cs, M, root => if (M.change root c).2.2 = 0 then SM.changes cs (M.change root c).1 (M.change root c).2.1 else M.change root c
section
variable {m : Nat} {M M1 : SM} {ext : Nat → Nat} {root next : Int} {l l' : List (Int × Int)} {P P' : Nat}
end
end Go.Proofs.YtidlchciehdefaaGreat
/-
  One tree in a store with some blocks, plain: put, cut, list.
-/
namespace Go.Proofs.YtidlchciehdefaaGreat
open Go.RowKit

/-- Who holds: the blocks, and the root. -/
def extB (bl : List Nat) (root : Int) : Nat → Nat := fun p => bl.count p + (if (p : Int) = root then 1 else 0)
/-- What is kept besides, and how much room it costs. -/
structure Besides (K : SM → Prop) (c : Nat) : Prop where
  closed : Closed K
  room : ∀ M, K M → M.pool.size ≤ M.pool.freeCount + M.liveN + c
structure OneTree (K : SM → Prop) (s : Nat) (bl : List Nat) (M : SM) (root : Int) (l : List (Int × Int)) (P : Nat) : Prop where
  exact : Exact M (extB bl root)
  size : M.pool.size = s
  kk : K M
  data : ∀ b ∈ bl, M.live b = true ∧ ∃ d, M.nodeAt b = some d ∧ d.kind = 1 ∧ d.ents = []
  keys : RisesK l ∧ ∀ y ∈ l, 0 ≤ y.1 ∧ y.1 < 64 ∧ ∃ b ∈ bl, y.2 = ((b : Nat) : Int)
  root : (root = -1 ∧ l = []) ∨ ∃ h, Tr 1 M h root l ∧ Led M h root P
  loose : Loose M []
theorem clean_besides : Besides Clean 0 := ⟨clean_closed, fun M h => by have := clean_free h; omega⟩
section
variable {K : SM → Prop} {s c : Nat} {bl : List Nat} {M : SM} {root : Int} {l : List (Int × Int)} {P : Nat}
theorem OneTree.good (h : OneTree K s bl M root l P) : Good M l := ⟨h.keys.1, fun y hy => by
  obtain ⟨a, b, d, hd, e⟩ := h.keys.2 y hy
  refine ⟨a, b, ?_⟩
  rw [e, heldB_nat]
  exact (h.data d hd).1⟩
theorem OneTree.len (h : OneTree K s bl M root l P) : l.length ≤ 64 := rises_len h.keys.1 fun y hy => ⟨(h.keys.2 y hy).1, (h.keys.2 y hy).2.1⟩
/-- The tree's pages, and the blocks: all that is there. -/
theorem OneTree.pages (h : OneTree K s bl M root l P) (hP : P ≤ 150) : ∃ L : List Nat, (root = -1 ∨ root.toNat ∈ L) ∧ (∀ q, M.live q = true → q ∈ bl ++ L) ∧ L.length ≤ 73 ∧ entSum M L ≤ 137 ∧ 2 * L.length ≤ P + 3 ∧ (root = -1 → L = []) := by
  have h64 := h.len
  have key : ∃ L : List Nat, (root = -1 ∨ root.toNat ∈ L) ∧ (∀ q ∈ L, ∀ x ∈ M.ents q, x.2.toNat ∈ L ∨ x ∈ l) ∧ L.length ≤ 73 ∧ entSum M L ≤ 137 ∧ 2 * L.length ≤ P + 3 ∧ (root = -1 → L = []) := by
    rcases h.root with ⟨e, _⟩ | ⟨hh, t, k⟩
    · exact ⟨[], .inl e, fun q hq => (by cases hq), Nat.zero_le _, Nat.zero_le _, by show 2 * 0 ≤ _; omega, fun _ => rfl⟩
    · obtain ⟨_, p1, p2⟩ := led_pages t k (by omega)
      have p1 := p1 hP
      have p3 := pages_sum t
      exact ⟨pagesF M hh root, .inr (pages_self (tr_pos t)), pages_closed t, p1, by omega, p2, fun e => by have := (heldB_int t.held).1; omega⟩
  obtain ⟨L, a1, a2, a3, a4, a5, a6⟩ := key
  refine ⟨L, a1, ?_, a3, a4, a5, a6⟩
  refine reach_all h.exact h.loose (fun q _ hq => ?_) (fun q hq x hx => ?_)
  · unfold extB at hq
    by_cases e : (q : Int) = root
    · rcases a1 with a1 | a1
      · omega
      · rw [← e, Int.toNat_natCast] at a1
        exact List.mem_append_right _ a1
    · rw [if_neg e, Nat.add_zero] at hq
      exact List.mem_append_left _ (List.count_pos_iff.1 hq)
  · rcases List.mem_append.1 hq with hq | hq
    · obtain ⟨_, d, hd, _, he⟩ := h.data q hq
      rw [ents_of hd, he] at hx
      cases hx
    · rcases a2 q hq x hx with e | e
      · exact List.mem_append_right _ e
      · obtain ⟨_, _, b, hb, hbe⟩ := h.keys.2 x e
        rw [hbe, Int.toNat_natCast]
        exact List.mem_append_left _ hb
theorem data_sum (h : ∀ b ∈ bl, ∃ d, M.nodeAt b = some d ∧ d.ents = []) : entSum M bl = 0 := by
  induction bl with
  | nil => rfl
  | cons b bl ih =>
    obtain ⟨d, hd, he⟩ := h b (List.mem_cons_self ..)
    have := ih (fun b hb => h b (List.mem_cons_of_mem _ hb))
    unfold entSum at this ⊢
    rw [List.map_cons, List.sum_cons, ents_of hd, he, this]
    rfl
theorem OneTree.room (h : OneTree K s bl M root l P) (hB : Besides K c) (hP : P ≤ 150) : s ≤ M.pool.freeCount + bl.length + 73 + c ∧ M.sum ≤ 137 := by
  obtain ⟨L, _, a2, a3, a4, _⟩ := h.pages hP
  have c1 := hB.room M h.kk
  have c2 := liveN_list a2
  have c3 := sumE_list a2
  rw [entSum_append, data_sum (fun b hb => by obtain ⟨_, d, hd, _, he⟩ := h.data b hb; exact ⟨d, hd, he⟩)] at c3
  rw [List.length_append] at c2
  rw [h.size] at c1
  omega
theorem OneTree.rooted (h : OneTree K s bl M root l P) (hP : P ≤ 150) : ∃ k, Rooted 1 M root l k ∧ k ≤ 5 ∧ (root = -1 ∨ Led M k root P) := by
  rcases h.root with ⟨e1, e2⟩ | ⟨k, t, j⟩
  · exact ⟨0, .inl ⟨e1, e2, rfl⟩, Nat.zero_le _, .inl e1⟩
  · exact ⟨k, .inr t, (led_pages t j (by omega)).1, .inr j⟩
theorem OneTree.list (h : OneTree K s bl M root l P) (hP : P ≤ 150) : M.list root = (l, 0) := by
  obtain ⟨k, hr, hk, _⟩ := h.rooted hP
  exact listR_ok hr (by omega)
/-- A store that has grown lists the same. -/
theorem OneTree.listG (h : OneTree K s bl M root l P) (hP : P ≤ 150) {M' : SM} (g : Grown M M') : M'.list root = (l, 0) := by
  obtain ⟨k, hr, hk, _⟩ := h.rooted hP
  exact listR_ok (hr.imp id fun t => Tr.grown g t) (by omega)
/-- One root held in the place of another. -/
theorem OneTree.swapped (h : OneTree K s bl M root l P) (hB : Besides K c) {M1 : SM} {next : Int} {l' : List (Int × Int)} {P' : Nat} (hk1 : K M1) (E1 : Exact M1 (extB bl root)) (g : Grown M M1)
    (hl1 : Loose M1 [((0 : Int), next)]) (hs : M1.sum ≤ 240) (hbl : bl.length ≤ 5) (hkeys : RisesK l' ∧ ∀ y ∈ l', 0 ≤ y.1 ∧ y.1 < 64 ∧ ∃ b ∈ bl, y.2 = ((b : Nat) : Int))
    (ht : (next = -1 ∧ l' = []) ∨ ∃ h', Tr 1 M1 h' next l' ∧ Led M1 h' next P') :
    (M1.swap root next).2 = 0 ∧ OneTree K s bl (M1.swap root next).1 next l' P' ∧ (M1.swap root next).1.log = M1.log := by
  have hextb : ∀ q, extB bl root q ≤ 6 := fun q => by
    unfold extB
    have : bl.count q ≤ bl.length := List.count_le_length
    split <;> omega
  have hn : next = -1 ∨ (M1.pool.heldB next = true ∧ M1.pool.cnt next.toNat < 255) := by
    rcases ht with ⟨e, _⟩ | ⟨h', t, _⟩
    · exact .inl e
    · have h1 := t.held
      have h2 := E1.cnt_le (heldB_int h1).2
      have h3 := hextb next.toNat
      exact .inr ⟨h1, by omega⟩
  have hold : root = -1 ∨ (M1.pool.heldB root = true ∧ 0 < extB bl root root.toNat) := by
    rcases h.root with ⟨hr, _⟩ | ⟨k, t, _⟩
    · exact .inl hr
    · have h0 := (heldB_int t.held).1
      exact .inr ⟨g.held t.held, by unfold extB; rw [if_pos (by omega)]; omega⟩
  obtain ⟨r1, E2, hlog, hsz, hlv, hlo⟩ := swap_ok E1 hn hold
  have hK2 : K (M1.swap root next).1 := hB.closed.swap _ _ hk1
  obtain ⟨M2, hM2⟩ : ∃ M2, (M1.swap root next).1 = M2 := ⟨_, rfl⟩
  rw [hM2] at E2 hlog hsz hlv hlo hK2 ⊢
  have hnode : ∀ q, M2.nodeAt q = M1.nodeAt q := fun q => by unfold SM.nodeAt; rw [hlog]
  have E2' : Exact M2 (extB bl next) := exact_congr E2 (fun p _ => by
    unfold swapE extB
    by_cases e1 : (p : Int) = root <;> by_cases e2 : (p : Int) = next <;> simp [e1, e2] <;> omega)
  refine ⟨r1, ⟨E2', by rw [hsz, g.size, h.size], hK2, fun b hb => ?_, hkeys, ?_, fun q hq hc => ?_⟩, hlog⟩
  · obtain ⟨hbl, d, hd, hk⟩ := h.data b hb
    refine ⟨?_, d, by rw [hnode, g.node b hbl]; exact hd, hk⟩
    have := ext_held E2' (p := b) (by rw [hsz, g.size]; exact live_lt hbl) (by unfold extB; have := List.count_pos_iff.2 hb; omega)
    rw [heldB_nat] at this
    exact this
  · rcases ht with ht | ⟨h', t, k⟩
    · exact .inl ht
    · right
      have hn := t.held
      have hn0 := (heldB_int hn).1
      have hnext2 : M2.pool.heldB next = true := by
        obtain ⟨c, hc⟩ := Int.eq_ofNat_of_zero_le hn0
        rw [hc]
        refine ext_held E2' ?_ (by unfold extB; rw [if_pos hc.symm]; omega)
        rw [hsz]
        have := live_lt (M := M1) (heldB_int hn).2
        rw [hc, Int.toNat_natCast] at this
        exact this
      exact ⟨h', Tr.stays E2' hlog t hnext2, Led.same (fun q _ => hnode q) t k⟩
  · obtain ⟨c1, c2⟩ := hlo q hq hc
    obtain ⟨x, hx, he⟩ := hl1 q (hlv q hq) c1
    rw [List.mem_singleton] at hx
    rw [hx] at he
    exact absurd he.symm c2
theorem one_put (h : OneTree K s bl M root l P) (hB : Besides K c) (hP : P + 1 ≤ 150) (hbl : bl.length ≤ 5) (hs : 5 + 73 + c + 20 ≤ s) {key page : Int} (k0 : 0 ≤ key) (k1 : key < 64) (hp : ∃ b ∈ bl, page = ((b : Nat) : Int)) :
    (M.put root key page).2.2 = 0 ∧ ((M.put root key page).1.swap root (M.put root key page).2.1).2 = 0 ∧ OneTree K s bl ((M.put root key page).1.swap root (M.put root key page).2.1).1 (M.put root key page).2.1 (putL l (key, page)) (P + 1) ∧
      (M.put root key page).1.list root = (l, 0) := by
  obtain ⟨k, hr, hk, hled⟩ := h.rooted (by omega)
  obtain ⟨r1, r2⟩ := h.room hB (by omega)
  have hx : M.pool.heldB page = true := by
    obtain ⟨b, hb, e⟩ := hp
    rw [e, heldB_nat]
    exact (h.data b hb).1
  have hextb : ∀ q, extB bl root q ≤ 6 := fun q => by
    unfold extB
    have : bl.count q ≤ bl.length := List.count_le_length
    split <;> omega
  rcases put_ok (m := 1) (by decide) h.exact hr (by omega) h.good h.loose hx k0 k1 with ⟨e, T⟩ | ⟨_, e, hf⟩ | ⟨_, e, c, hc⟩
  · have hk1 : K (M.put root key page).1 := hB.closed.put _ _ _ h.kk
    have ts := T.sum
    have g := h.good.put (x := (key, page)) k0 k1 hx
    obtain ⟨M1, hM1⟩ : ∃ M1, (M.put root key page).1 = M1 := ⟨_, rfl⟩
    obtain ⟨next, hnext⟩ : ∃ next, (M.put root key page).2.1 = next := ⟨_, rfl⟩
    rw [hM1, hnext] at T
    rw [hM1] at hk1 ts ⊢
    rw [hnext]
    obtain ⟨h', t, _, j⟩ := T.led (P + 1) ⟨P, rfl, hled⟩
    obtain ⟨s1, s2, _⟩ := h.swapped hB (l' := putL l (key, page)) (P' := P + 1) hk1 T.exact T.grown (T.loose [] rfl) (by omega) hbl ⟨g.1, fun y hy => by
      refine ⟨(g.2 y hy).1, (g.2 y hy).2.1, ?_⟩
      rcases putL_mem hy with rfl | hy
      · exact hp
      · exact (h.keys.2 y hy).2.2⟩ (.inr ⟨h', t, j⟩)
    exact ⟨e, s1, s2, h.listG (by omega) T.grown⟩
  · exfalso; omega
  · exfalso; have hrl := M.refs_le c; have := hextb c; omega
end
end Go.Proofs.YtidlchciehdefaaGreat
/-
  One tree in a store, plain: a tree that is built; how dense one is that was built in order, and cut.
-/
namespace Go.Proofs.YtidlchciehdefaaGreat
open Go.RowKit

section
variable {K : SM → Prop} {s c : Nat} {bl : List Nat} {M : SM} {root : Int} {l : List (Int × Int)} {P : Nat}
theorem build_one (hB : Besides K c) (hbl : bl.length ≤ 5) (hs : 5 + 73 + c + 20 ≤ s) : ∀ (ks : List (Int × Int)) {M : SM} {root : Int} {l : List (Int × Int)} {P : Nat}, OneTree K s bl M root l P → P + ks.length ≤ 150 →
    (∀ y ∈ ks, 0 ≤ y.1 ∧ y.1 < 64 ∧ ∃ b ∈ bl, y.2 = ((b : Nat) : Int)) →
    ∃ M' root', SM.build ks M root = (M', root', 0) ∧ OneTree K s bl M' root' (ks.foldl putL l) (P + ks.length) ∧ M'.log.length ≤ M.log.length + 22 * ks.length
  | [], M, root, _, _, h, _, _ => ⟨M, root, rfl, h, Nat.le_refl _⟩
  | x :: ks, M, root, l, P, h, hP, hks => by
    obtain ⟨hx0, hx1, hx2⟩ := hks x (List.mem_cons_self ..)
    obtain ⟨x1, x2⟩ := x
    dsimp only at hx0 hx1 hx2
    rw [List.length_cons] at hP
    obtain ⟨e1, e2, hI, _⟩ := one_put h hB (by omega) hbl hs hx0 hx1 hx2
    have hl1 := put_log M root x1 x2
    have hl2 := swap_log (M.put root x1 x2).1 root (M.put root x1 x2).2.1
    obtain ⟨M', root', e3, hI', hl⟩ := build_one hB hbl hs ks hI (by omega) (fun y hy => hks y (List.mem_cons_of_mem _ hy))
    refine ⟨M', root', ?_, by rw [List.length_cons, show P + (ks.length + 1) = P + 1 + ks.length by omega]; exact hI', by rw [hl2] at hl; rw [List.length_cons]; omega⟩
    rw [build_cons]
    dsimp only
    rw [if_pos e1, if_pos e2, e3]
end

theorem kids_len {T : Int → List (Int × Int) → Prop} {f : Int → Nat} (hT : ∀ q a, T q a → f q ≤ a.length) : ∀ {es l : List (Int × Int)}, Kids T es l → (es.map fun e => f e.2).sum ≤ l.length
  | [], _, _ => Nat.zero_le _
  | e :: es, _, ⟨a, b, x, h1, h2, _, _, h5⟩ => by
    have i1 := hT _ _ h2
    have i2 := kids_len hT h5
    rw [List.map_cons, List.sum_cons, h1, List.length_append]
    omega
theorem tr_ge {m : Nat} {M : SM} : ∀ {h : Nat} {p : Int} {l : List (Int × Int)}, Tr m M h p l → M.entN p ≤ l.length ∧ 1 ≤ M.entN p
  | 0, _, _, t => t.elim
  | h + 1, p, l, ⟨hp, n, hn, hok, k⟩ => by
    have hin := innerOk_of hok (by have := k.kind; omega)
    rw [entN_of hn]
    refine ⟨?_, hin.pos⟩
    rcases k with ⟨_, _, hl⟩ | ⟨_, _, hK⟩
    · rw [hl]; exact Nat.le_refl _
    · have := kids_len (f := fun _ => 1) (fun q a ha => Nat.le_trans (tr_ge ha.1).2 (tr_ge ha.1).1) hK
      have e : ∀ es : List (Int × Int), (es.map fun _ => 1).sum = es.length := fun es => by
        induction es with
        | nil => rfl
        | cons e es ih => rw [List.map_cons, List.sum_cons, ih, List.length_cons]; omega
      rw [e] at this
      exact this
end Go.Proofs.YtidlchciehdefaaGreat
/-
  Exactly what is needed is there, plain: behind Tidy, as many pages are taken as a tree's nodes are, and the blocks.
-/
namespace Go.Proofs.YtidlchciehdefaaGreat
open Go.RowKit

def SM.tidy (M : SM) : SM := ⟨M.pool.turned 3 0, M.log⟩
theorem tidy_live (M : SM) (q : Nat) : M.tidy.live q = M.live q := by
  unfold SM.tidy SM.live PM.live PM.turned
  dsimp only
  by_cases h : M.pool.st q = 3
  · simp [h]
  · simp [h]
theorem tidy_grown (M : SM) : Grown M M.tidy := ⟨rfl, fun q h => by rw [tidy_live]; exact h, fun _ _ => rfl⟩
theorem OneTree.tidy {K : SM → Prop} {s : Nat} {bl : List Nat} {M : SM} {root : Int} {l : List (Int × Int)} {P : Nat} (h : OneTree K s bl M root l P) : OneTree (fun _ => True) s bl M.tidy root l P := by
  refine ⟨exact_same h.exact rfl (fun _ => rfl) (tidy_live M) (fun _ _ => rfl), h.size, trivial, fun b hb => ?_, h.keys, ?_, fun q hq hc => h.loose q (by rw [← tidy_live]; exact hq) hc⟩
  · obtain ⟨a, d⟩ := h.data b hb
    exact ⟨by rw [tidy_live]; exact a, d⟩
  · rcases h.root with e | ⟨k, t, j⟩
    · exact .inl e
    · exact .inr ⟨k, Tr.grown (tidy_grown M) t, Led.grown (tidy_grown M) t j⟩
end Go.Proofs.YtidlchciehdefaaGreat
/-
  Images, plain: blocks in trees, several of them in a store; a block is written.
-/
namespace Go.Proofs.YtidlchciehdefaaGreat
open Go.RowKit

/-- An image: its root, its entries, how many puts it took at most, its blocks. -/
structure IM where
  root : Int
  l : List (Int × Int)
  P : Nat
  w : Int → List Nat
def IM.none : IM := ⟨-1, [], 0, fun _ => zeros16⟩
section
variable {m : Nat} {M N : SM} {is : List IM} {i : IM} {k : Nat}
/-- The pool is committed. -/
def SM.commit (M : SM) : SM := ⟨{ M.pool with st := fun _ => 0 }, M.log⟩
end
/-- A store tidied up, and marked. -/
def SM.marked (M : SM) : SM := markM M.tidy
def SM.safely (M : SM) (r : SM × Int × Nat) : SM × Int × Nat := if r.2.2 = 0 then r else (⟨M.marked.pool, r.1.log⟩, -1, r.2.2)
def SM.write1 (M : SM) (root key : Int) (b : List Nat) : SM × Int × Nat := let m := M.make ⟨1, b, []⟩; if m.2.2 = 0 then m.1.changes [(key, m.2.1)] root else (m.1, -1, m.2.2)
def SM.write (M : SM) (root key : Int) (b : List Nat) : SM × Int × Nat := if key < 0 ∨ 63 < key then (M, -1, 101) else M.safely (M.marked.write1 root key b)
section
variable {m : Nat} {M : SM} {is : List IM} {i : IM} {k : Nat}
end
end Go.Proofs.YtidlchciehdefaaGreat
/-
  What a tree finds, and its height, plain; the document's Put, Cut, Find and Trim, plain.
-/
namespace Go.Proofs.YtidlchciehdefaaGreat
open Go.RowKit

/-- The page of a key. -/
def findL : List (Int × Int) → Int → Int
  | [], _ => -1
  | y :: l, key => if y.1 = key then y.2 else findL l key
theorem findL_none : ∀ {l : List (Int × Int)} {key : Int}, (∀ y ∈ l, y.1 ≠ key) → findL l key = -1
  | [], _, _ => rfl
  | y :: l, key, h => by
    unfold findL
    rw [if_neg (h y (List.mem_cons_self ..)), findL_none fun z hz => h z (List.mem_cons_of_mem _ hz)]
theorem heightF_succ (f : Nat) (M : SM) (root : Int) : SM.heightF (f + 1) M root = if root = -1 then (8 - f, 0) else
      if (M.tnode root (8 - f)).2 = 0 then
        if (M.tnode root (8 - f)).1.kind = 2 then (8 - f + 1, 0) else SM.heightF f M ((M.tnode root (8 - f)).1.ents.getD 0 (0, 0)).2
      else (0, (M.tnode root (8 - f)).2) := rfl
theorem height_ok {m : Nat} {M : SM} : ∀ (h d : Nat) (p : Int) (l : List (Int × Int)), h + d ≤ 8 → Tr m M h p l → SM.heightF (9 - d) M p = (d + h, 0)
  | 0, _, _, _, _, t => t.elim
  | h + 1, d, p, l, hd, t => by
    obtain ⟨n, hn, hna, hok, k⟩ := tnode_tr t (d := d) (by omega)
    have hp0 := (heldB_int t.held).1
    rw [show 9 - d = (8 - d) + 1 by omega, heightF_succ, show 8 - (8 - d) = d by omega, hn]
    dsimp only
    rw [if_neg (by omega), if_pos rfl]
    rcases k with ⟨h0, hk, hl⟩ | ⟨h0, hk, hK⟩
    · rw [if_pos hk, h0]
    · rw [if_neg (by omega)]
      have hin := innerOk_of hok (by omega)
      have hpos := hin.pos
      cases hes : n.ents with
      | nil => rw [hes] at hpos; exact absurd hpos (by decide)
      | cons e es =>
        rw [hes] at hK
        obtain ⟨a, b, x, _, hT, _⟩ := hK
        have := height_ok h (d + 1) e.2 a (by omega) hT.1
        rw [show 9 - (d + 1) = 8 - d by omega] at this
        show SM.heightF (8 - d) M e.2 = _
        rw [this]
        congr 1
        omega
section
variable {K : SM → Prop} {s : Nat} {bl : List Nat} {M : SM} {root : Int} {l : List (Int × Int)} {P : Nat}
theorem OneTree.height (h : OneTree K s bl M root l P) (hP : P ≤ 150) : ∃ k, M.height root = (k, 0) ∧ k ≤ 5 ∧ (l ≠ [] → 1 ≤ k) := by
  rcases h.root with ⟨e, el⟩ | ⟨k, t, j⟩
  · subst e el
    exact ⟨0, rfl, by omega, fun e => absurd rfl e⟩
  · refine ⟨k, ?_, (led_pages t j (by omega)).1, fun _ => tr_pos t⟩
    have := height_ok k 0 root l (by have := (led_pages t j (by omega)).1; omega) t
    rw [Nat.zero_add] at this
    exact this
end
end Go.Proofs.YtidlchciehdefaaGreat
/-
  One tree in a store, plain: what the laws on chapter 11 ask.
-/
namespace Go.Proofs.YtidlchciehdefaaGreat
open Go.RowKit

section
variable {K : SM → Prop} {s c : Nat} {bl : List Nat} {M : SM} {root : Int} {l : List (Int × Int)} {P : Nat}
theorem OneTree.none (h : OneTree K s bl M root l P) : (root = -1 ↔ l = []) := by
  rcases h.root with ⟨e, el⟩ | ⟨k, t, _⟩
  · exact ⟨fun _ => el, fun _ => e⟩
  · have h0 := (heldB_int t.held).1
    have h1 := tr_ge t
    refine ⟨fun e => ?_, fun e => ?_⟩
    · omega
    · rw [e] at h1
      simp at h1
      omega
theorem OneTree.range (h : OneTree K s bl M root l P) : -1 ≤ root ∧ root < 240 := by
  rcases h.root with ⟨e, _⟩ | ⟨k, t, _⟩
  · omega
  · obtain ⟨h0, h1⟩ := heldB_int t.held
    have := live_lt (M := M) h1
    have := h.exact.size
    omega
theorem OneTree.out (h : OneTree K s bl M root l P) {key : Int} (hk : key < 0 ∨ 63 < key) : cutL l key = l := cutL_none fun y hy => by
  have := h.keys.2 y hy
  omega
end
end Go.Proofs.YtidlchciehdefaaGreat
/-
  Pruners (package prune): Cut.
-/
namespace Go.Proofs.YtidlchciehdefaaGreat
open Go.RowKit
set_option maxRecDepth 100000

end Go.Proofs.YtidlchciehdefaaGreat
/-
  Pruners (package prune): Trim.
-/
namespace Go.Proofs.YtidlchciehdefaaGreat
open Go.RowKit
set_option maxRecDepth 100000

end Go.Proofs.YtidlchciehdefaaGreat
/-
  Put and cut again, plain.
-/
namespace Go.Proofs.YtidlchciehdefaaGreat
open Go.RowKit

section
variable {K : SM → Prop} {s c : Nat} {bl : List Nat} {M : SM} {root : Int} {l : List (Int × Int)} {P : Nat}
end
end Go.Proofs.YtidlchciehdefaaGreat
/-
  Two trees held against one another, plain: what is in one, but for what is shared; where they differ.
-/
namespace Go.Proofs.YtidlchciehdefaaGreat
open Go.RowKit

theorem tr_get {m : Nat} {M : SM} {h : Nat} {p : Int} {l : List (Int × Int)} (t : Tr m M h p l) : ∃ k n, h = k + 1 ∧ M.get p = (n, 0) ∧ n.ok ∧ M.nodeAt p.toNat = some n ∧ NTr (fun q a => Tr m M k q a ∧ m ≤ M.entN q) k n l ∧ p ≠ -1 := by
  cases h with
  | zero => exact t.elim
  | succ k =>
    obtain ⟨hp, n, hn, hok, hk⟩ := t
    refine ⟨k, n, rfl, ?_, hok, hn, hk, by have := (heldB_int hp).1; omega⟩
    unfold SM.get
    rw [if_pos hp, hn]
theorem kids_unique {T U : Int → List (Int × Int) → Prop} : ∀ {es l l' : List (Int × Int)}, (∀ e ∈ es, ∀ a b, T e.2 a → U e.2 b → a = b) → Kids T es l → Kids U es l' → l = l'
  | [], _, _, _, h, k => by rw [show _ = [] from h, show _ = [] from k]
  | e :: es, _, _, hT, ⟨a, b, x, h1, h2, _, _, h5⟩, ⟨a', b', x', k1, k2, _, _, k5⟩ => by
    rw [h1, k1, hT e (List.mem_cons_self ..) a a' h2 k2, kids_unique (fun e he => hT e (List.mem_cons_of_mem _ he)) h5 k5]
theorem tr_unique {m : Nat} {M : SM} : ∀ {h h' : Nat} {p : Int} {l l' : List (Int × Int)}, Tr m M h p l → Tr m M h' p l' → l = l'
  | 0, _, _, _, _, t, _ => t.elim
  | _ + 1, 0, _, _, _, _, t => t.elim
  | h + 1, h' + 1, p, l, l', ⟨_, n, hn, _, k⟩, ⟨_, n', hn', _, k'⟩ => by
    rw [hn] at hn'
    cases hn'
    rcases k with ⟨_, k2, k3⟩ | ⟨_, k2, k3⟩
    · rcases k' with ⟨_, j2, j3⟩ | ⟨_, j2, j3⟩
      · rw [← k3, ← j3]
      · omega
    · rcases k' with ⟨_, j2, j3⟩ | ⟨_, j2, j3⟩
      · omega
      · exact kids_unique (fun e _ a b ha hb => tr_unique ha.1 hb.1) k3 j3
theorem tr_below {m : Nat} {M : SM} {h : Nat} {p : Int} {l : List (Int × Int)} (t : Tr m M h p l) {q : Int} (hb : Below M p q) : ∃ h' a, h' ≤ h ∧ Tr m M h' q a ∧ ∀ y ∈ a, y ∈ l := by
  induction hb with
  | here => exact ⟨h, l, Nat.le_refl _, t, fun y hy => hy⟩
  | @kid x y _ hk hy ih =>
    obtain ⟨h', a, hle, t', hs⟩ := ih
    obtain ⟨k, n, rfl, hg, hok, hn, hN, _⟩ := tr_get t'
    rw [hg] at hk hy
    rcases hN with ⟨_, k2, _⟩ | ⟨_, _, k3⟩
    · dsimp only at hk; omega
    · obtain ⟨c, hc, hcs⟩ := k3.each y hy
      exact ⟨k, c, by omega, hc.1, fun z hz => hs z (hcs z hz)⟩
theorem below_ok {m : Nat} {M : SM} {h : Nat} {p : Int} {l : List (Int × Int)} (t : Tr m M h p l) : (∀ x, Below M p x → x = -1 ∨ (M.get x).2 = 0) ∧ ∀ x, Below M p x → (M.get x).1.kind = 3 → (M.get x).1.ents ≠ [] := by
  refine ⟨fun x hx => ?_, fun x hx hk => ?_⟩
  · obtain ⟨h', a, _, t', _⟩ := tr_below t hx
    obtain ⟨k, n, _, hg, _⟩ := tr_get t'
    exact .inr (by rw [hg])
  · obtain ⟨h', a, _, t', _⟩ := tr_below t hx
    obtain ⟨k, n, _, hg, hok, _⟩ := tr_get t'
    rw [hg] at hk ⊢
    dsimp only at hk ⊢
    exact List.length_pos_iff.1 (innerOk_of hok (by omega)).pos
theorem below_cases {M : SM} {p q : Int} (h : Below M p q) : q = p ∨ ((M.get p).1.kind = 3 ∧ ∃ y ∈ (M.get p).1.ents, Below M y.2 q) := by
  induction h with
  | here => exact .inl rfl
  | @kid x y _ hk hy ih =>
    rcases ih with e | ⟨k, z, hz, hb⟩
    · subst e; exact .inr ⟨hk, y, hy, .here⟩
    · exact .inr ⟨k, z, hz, .kid hb hk hy⟩
theorem below_neg {M : SM} {p : Int} {m h : Nat} {l : List (Int × Int)} (t : Tr m M h p l) {q : Int} (hb : Below M p q) : q ≠ -1 := by
  obtain ⟨_, _, _, t', _⟩ := tr_below t hb
  obtain ⟨_, _, _, _, _, _, _, e⟩ := tr_get t'
  exact e
/-- What own puts down. -/
def ownF (M : SM) (S : Int → Bool) : Nat → Int → List (Int × Int)
  | 0, _ => []
  | h + 1, r => if r = -1 ∨ S r = true then [] else ((M.get r).1.ents.map (fun y => if (M.get r).1.kind = 2 then [y] else ownF M S h y.2)).flatten
theorem own_ok {m : Nat} {M : SM} {S : Int → Bool} : ∀ {h d : Nat} {p : Int} {l : List (Int × Int)}, Tr m M h p l → d + h ≤ 8 → (-9223372036854775808 ≤ p ∧ p ≤ 9223372036854775807) → (∀ x y, Below M p x → y ∈ (M.get x).1.ents → 0 ≤ y.2 ∧ y.2 < 240) → OwnC M S d p (ownF M S h p)
  | 0, _, _, _, t, _, _, _ => t.elim
  | h + 1, d, p, l, t, hd, hp, hb => by
    obtain ⟨k, n, e, hg, hok, hn, hN, hp1⟩ := tr_get t
    obtain rfl : h = k := by omega
    unfold ownF
    by_cases hS : p = -1 ∨ S p = true
    · rw [if_pos hS]; exact ownNone hp hS
    · rw [if_neg hS]
      have hSp : S p = false := by
        cases e : S p with
        | false => rfl
        | true => exact absurd (.inr e) hS
      rw [hg]
      dsimp only
      rcases hN with ⟨_, k2, k3⟩ | ⟨_, k2, k3⟩
      · exact ownNode hg hSp (.inl k2) (by omega) (fun _ y _ => by simp only [k2, if_true]) (fun e => by omega)
      · refine ownNode hg hSp (.inr k2) (by omega) (fun e => by omega) (fun _ y hy => ?_)
        simp only [k2, show ¬ ((3 : Nat) = 2) by decide, if_false]
        obtain ⟨c, hc, _⟩ := k3.each y hy
        have hyb := hb p y .here (by rw [hg]; exact hy)
        refine own_ok hc.1 (by omega) (by omega) (fun x z hx hz => hb x z ?_ hz)
        have hbelow : Below M p y.2 := .kid .here (by rw [hg]; exact k2) (by rw [hg]; exact hy)
        clear hz
        induction hx with
        | here => exact hbelow
        | kid _ h1 h2 ih => exact .kid ih h1 h2
theorem flat_sub {T : Int → List (Int × Int) → Prop} {f : Int × Int → List (Int × Int)} : ∀ {es l : List (Int × Int)}, Kids T es l → (∀ e ∈ es, ∀ a, T e.2 a → (f e).Sublist a) → ((es.map f).flatten).Sublist l
  | [], _, h, _ => by rw [show _ = [] from h]; exact List.Sublist.refl _
  | e :: es, _, ⟨a, b, x, h1, h2, _, _, h5⟩, hf => by
    rw [h1, List.map_cons, List.flatten_cons]
    exact List.Sublist.append (hf e (List.mem_cons_self ..) a h2) (flat_sub h5 (fun e he => hf e (List.mem_cons_of_mem _ he)))
theorem flat_one : ∀ (l : List (Int × Int)), (l.map fun y => [y]).flatten = l
  | [] => rfl
  | y :: l => by rw [List.map_cons, List.flatten_cons, flat_one l]; rfl
theorem own_sub {m : Nat} {M : SM} {S : Int → Bool} : ∀ {h : Nat} {p : Int} {l : List (Int × Int)}, Tr m M h p l → (ownF M S h p).Sublist l
  | 0, _, _, t => t.elim
  | h + 1, p, l, t => by
    obtain ⟨k, n, e, hg, hok, hn, hN, hp1⟩ := tr_get t
    obtain rfl : h = k := by omega
    unfold ownF
    by_cases hS : p = -1 ∨ S p = true
    · rw [if_pos hS]; exact List.nil_sublist _
    · rw [if_neg hS, hg]
      dsimp only
      rcases hN with ⟨_, k2, k3⟩ | ⟨_, k2, k3⟩
      · simp only [k2, if_true]
        rw [flat_one, k3]
        exact List.Sublist.refl _
      · simp only [k2, show ¬ ((3 : Nat) = 2) by decide, if_false]
        exact flat_sub k3 (fun e _ a ha => own_sub ha.1)
theorem own_or {m : Nat} {M : SM} {S : Int → Bool} : ∀ {h : Nat} {p : Int} {l : List (Int × Int)}, Tr m M h p l → ∀ y ∈ l, y ∈ ownF M S h p ∨ ∃ q, Below M p q ∧ S q = true ∧ ∃ h' a, Tr m M h' q a ∧ y ∈ a
  | 0, _, _, t, _, _ => t.elim
  | h + 1, p, l, t, y, hy => by
    obtain ⟨k, n, e, hg, hok, hn, hN, hp1⟩ := tr_get t
    obtain rfl : h = k := by omega
    unfold ownF
    by_cases hS : S p = true
    · exact .inr ⟨p, .here, hS, _, _, t, hy⟩
    · rw [if_neg (by simp [hp1, hS]), hg]
      dsimp only
      rcases hN with ⟨_, k2, k3⟩ | ⟨_, k2, k3⟩
      · simp only [k2, if_true]
        rw [flat_one, k3]
        exact .inl hy
      · simp only [k2, show ¬ ((3 : Nat) = 2) by decide, if_false]
        obtain ⟨e, he, a, ha, hya⟩ := k3.in y hy
        rcases own_or (S := S) ha.1 y hya with h1 | ⟨q, hq, hs, r⟩
        · exact .inl (List.mem_flatten.2 ⟨_, List.mem_map.2 ⟨e, he, rfl⟩, h1⟩)
        · refine .inr ⟨q, ?_, hs, r⟩
          have hbelow : Below M p e.2 := .kid .here (by rw [hg]; exact k2) (by rw [hg]; exact he)
          clear hs r
          induction hq with
          | here => exact hbelow
          | kid _ h1 h2 ih => exact .kid ih h1 h2
theorem kids_same {T : Int → List (Int × Int) → Prop} (hT : ∀ q a b, T q a → T q b → a = b) : ∀ {es l : List (Int × Int)}, Kids T es l → RisesK l → ∀ e ∈ es, ∀ e' ∈ es, ∀ a a', T e.2 a → T e'.2 a' → RisesK a ∧ ∀ y ∈ a, ∀ z ∈ a', z.1 = y.1 → e = e'
  | [], _, _, _, e, he, _, _, _, _, _, _ => by cases he
  | f :: es, l, ⟨a0, b0, x, h1, h2, h3, h4, h5⟩, hr, e, he, e', he', a, a', ha, ha' => by
    rw [h1] at hr
    have hr' := List.pairwise_append.1 hr
    have hb : ∀ g ∈ es, ∀ c, T g.2 c → ∀ z ∈ c, z ∈ b0 := fun g hg c hc z hz => by
      obtain ⟨c', hc', hs⟩ := h5.each g hg
      rw [hT _ _ _ hc hc'] at hz
      exact hs z hz
    rcases List.mem_cons.1 he with rfl | he2
    · rw [hT _ _ _ ha h2]
      refine ⟨hr'.1, fun y hy z hz hk => ?_⟩
      rcases List.mem_cons.1 he' with e2 | he2'
      · exact e2.symm
      · have := hr'.2.2 y hy z (hb e' he2' a' ha' z hz)
        omega
    · rcases List.mem_cons.1 he' with e2 | he2'
      · subst e2
        obtain ⟨c', hc', hs⟩ := h5.each e he2
        refine ⟨(kids_same hT h5 hr'.2.1 e he2 e he2 a a ha ha).1, fun y hy z hz hk => ?_⟩
        rw [hT _ _ _ ha' h2] at hz
        have := hr'.2.2 z hz y (hb e he2 a ha y hy)
        omega
      · exact kids_same hT h5 hr'.2.1 e he2 e' he2' a a' ha ha'
theorem own_not {m : Nat} {M : SM} {S : Int → Bool} : ∀ {h : Nat} {p : Int} {l : List (Int × Int)}, Tr m M h p l → RisesK l → ∀ y ∈ ownF M S h p, ∀ q, Below M p q → S q = true → ∀ h' a, Tr m M h' q a → ∀ z ∈ a, z.1 ≠ y.1
  | 0, _, _, t, _, _, _, _, _, _, _, _, _, _, _ => t.elim
  | h + 1, p, l, t, hr, y, hy, q, hq, hs, h', a, ta, z, hz => by
    obtain ⟨k, n, e, hg, hok, hn, hN, hp1⟩ := tr_get t
    obtain rfl : h = k := by omega
    unfold ownF at hy
    by_cases hS : p = -1 ∨ S p = true
    · rw [if_pos hS] at hy; cases hy
    · rw [if_neg hS, hg] at hy
      dsimp only at hy
      rcases below_cases hq with e | ⟨hk3, e', he', hb'⟩
      · exact absurd (.inr (e ▸ hs)) hS
      · rw [hg] at hk3 he'
        dsimp only at hk3 he'
        rcases hN with ⟨_, k2, k3⟩ | ⟨_, k2, k3⟩
        · omega
        · simp only [k2, show ¬ ((3 : Nat) = 2) by decide, if_false] at hy
          obtain ⟨o, ho, hyo⟩ := List.mem_flatten.1 hy
          obtain ⟨e, he, rfl⟩ := List.mem_map.1 ho
          obtain ⟨c, hc, _⟩ := k3.each e he
          obtain ⟨c', hc', _⟩ := k3.each e' he'
          obtain ⟨h2, a2, _, t2, hsub⟩ := tr_below hc'.1 hb'
          have hzc : z ∈ c' := hsub z (by rw [tr_unique t2 ta]; exact hz)
          have hyc : y ∈ c := (own_sub hc.1).subset hyo
          obtain ⟨hrc, hsame⟩ := kids_same (fun q a b ha hb => tr_unique ha.1 hb.1) k3 hr e he e' he' c c' hc hc'
          intro hk
          have := hsame y hyc z hzc hk
          subst this
          exact own_not hc.1 hrc y hyo q hb' hs h' a ta z hz hk
/-- One of two trees, with what own finds there. -/
structure Side (m : Nat) (M : SM) (S : Int → Bool) (r : Int) (l own : List (Int × Int)) : Prop where
  sub : own.Sublist l
  or_ : ∀ y ∈ l, y ∈ own ∨ ∃ q, Below M r q ∧ q ≠ -1 ∧ S q = true ∧ ∃ h' a, Tr m M h' q a ∧ y ∈ a
  not_ : ∀ y ∈ own, ∀ q, Below M r q → q ≠ -1 → S q = true → ∀ h' a, Tr m M h' q a → ∀ z ∈ a, z.1 ≠ y.1
  below : ∀ q, Below M r q → q ≠ -1 → ∃ h' a, Tr m M h' q a ∧ ∀ y ∈ a, y ∈ l
  rises : RisesK l
theorem side_of {m : Nat} {M : SM} {S : Int → Bool} {r : Int} {l : List (Int × Int)} {h : Nat} (t : Tr m M h r l) (hr : RisesK l) : Side m M S r l (ownF M S h r) :=
  ⟨own_sub t, fun y hy => (own_or t y hy).imp id fun ⟨q, h1, h2, h3⟩ => ⟨q, h1, below_neg t h1, h2, h3⟩, fun y hy q h1 _ h2 => own_not t hr y hy q h1 h2, fun q h1 _ => by obtain ⟨h', a, _, h3, h4⟩ := tr_below t h1; exact ⟨h', a, h3, h4⟩, hr⟩
theorem side_none (m : Nat) (M : SM) (S : Int → Bool) : Side m M S (-1) [] [] :=
  ⟨List.Sublist.refl _, (fun y hy => by cases hy), (fun y hy => by cases hy), fun q h1 h2 => absurd (below_none h1) h2, List.Pairwise.nil⟩
theorem findL_mem : ∀ {l : List (Int × Int)}, RisesK l → ∀ {y : Int × Int}, y ∈ l → findL l y.1 = y.2
  | [], _, _, h => by cases h
  | x :: l, hr, y, h => by
    have hr' := List.pairwise_cons.1 hr
    unfold findL
    rcases List.mem_cons.1 h with rfl | h
    · rw [if_pos rfl]
    · rw [if_neg (by have := hr'.1 y h; omega)]
      exact findL_mem hr'.2 h
section
variable {m : Nat} {M : SM} {S : Int → Bool} {ra rb : Int} {la lb oa ob : List (Int × Int)}
/-- Where neither has a key of its own, they agree. -/
theorem same_key (A : Side m M S ra la oa) (B : Side m M S rb lb ob) (hS : ∀ q, S q = true → (Below M ra q ∧ q ≠ -1) ∧ (Below M rb q ∧ q ≠ -1)) {k : Int} (ha : ∀ y ∈ oa, y.1 ≠ k) (hb : ∀ y ∈ ob, y.1 ≠ k) : findL la k = findL lb k := by
  by_cases h : ∃ y ∈ la, y.1 = k
  · obtain ⟨y, hy, rfl⟩ := h
    rcases A.or_ y hy with h | ⟨q, _, hq1, hs, h', a, t, hya⟩
    · exact absurd rfl (ha y h)
    · obtain ⟨h2, a2, t2, hsub⟩ := B.below q (hS q hs).2.1 hq1
      rw [tr_unique t t2] at hya
      rw [findL_mem A.rises hy, findL_mem B.rises (hsub y hya)]
  · rw [findL_none (fun y hy e => h ⟨y, hy, e⟩)]
    by_cases h2 : ∃ y ∈ lb, y.1 = k
    · obtain ⟨y, hy, rfl⟩ := h2
      rcases B.or_ y hy with h2 | ⟨q, _, hq1, hs, h', a, t, hya⟩
      · exact absurd rfl (hb y h2)
      · obtain ⟨h3, a3, t3, hsub⟩ := A.below q (hS q hs).1.1 hq1
        rw [tr_unique t t3] at hya
        exact absurd ⟨y, hsub y hya, rfl⟩ h
    · rw [findL_none (fun y hy e => h2 ⟨y, hy, e⟩)]
theorem own_find (A : Side m M S ra la oa) {y : Int × Int} (hy : y ∈ oa) : findL la y.1 = y.2 := findL_mem A.rises (A.sub.subset hy)
/-- Where the one has a key of its own and the other one hasn't, that has none. -/
theorem other_none (A : Side m M S ra la oa) (B : Side m M S rb lb ob) (hS : ∀ q, S q = true → (Below M ra q ∧ q ≠ -1) ∧ (Below M rb q ∧ q ≠ -1)) {y : Int × Int} (hy : y ∈ ob) (ha : ∀ x ∈ oa, x.1 ≠ y.1) : findL la y.1 = -1 := by
  refine findL_none fun x hx e => ?_
  rcases A.or_ x hx with h | ⟨q, _, hq1, hs, h', a, t, hxa⟩
  · exact ha x h e
  · exact B.not_ y hy q (hS q hs).2.1 hq1 hs h' a t x hxa e
end
/-- Where two lists differ. -/
def changesL (la lb : List (Int × Int)) : List (Int × Int) := (List.range 64).filterMap fun (k : Nat) => if findL la (k : Int) = findL lb (k : Int) then none else some ((k : Int), findL lb (k : Int))
end Go.Proofs.YtidlchciehdefaaGreat
/-
  Two trees held against one another: where they differ (diff's Changes), what they share (Shared).
-/
namespace Go.Proofs.YtidlchciehdefaaGreat
open Go.RowKit Go.Maps Go.Sort
set_option maxRecDepth 100000

theorem elemChange : Elem 87 92 2 16 := Elem.of (z := .agg #[.int .i64 0, .int .i64 0]) Tryz.underlying87 (by kernel_rfl) (by kernel_rfl) (by omega)
theorem out_skip : ∀ {es : List (Int × Int)} {k : Int} (D : DataW Unit), (∀ y ∈ es, y.1 ≠ k) → has (es.foldl (fun m e => m.put (.int .i64 e.1) (.lit (.int .i64 e.2))) D) (.int .i64 k) = has D (.int .i64 k) ∧ ∀ z, (es.foldl (fun m e => m.put (.int .i64 e.1) (.lit (.int .i64 e.2))) D).atKey (.int .i64 k) z = D.atKey (.int .i64 k) z
  | [], _, _, _ => ⟨rfl, fun _ => rfl⟩
  | y :: es, k, D, h => by
    have hne : (Lit.int .i64 k) ≠ .int .i64 y.1 := by intro e; injection e with _ e; exact h y (List.mem_cons_self ..) e.symm
    have ih := out_skip (D.put (.int .i64 y.1) (.lit (.int .i64 y.2))) (fun z hz => h z (List.mem_cons_of_mem _ hz))
    rw [List.foldl_cons]
    exact ⟨by rw [ih.1, has_put_other hne], fun z => by rw [ih.2, atKey_put_other hne]⟩
theorem out_hit : ∀ {es : List (Int × Int)} (D : DataW Unit), IsMap D → RisesK es → ∀ y ∈ es, has (es.foldl (fun m e => m.put (.int .i64 e.1) (.lit (.int .i64 e.2))) D) (.int .i64 y.1) = true ∧ ∀ z, (es.foldl (fun m e => m.put (.int .i64 e.1) (.lit (.int .i64 e.2))) D).atKey (.int .i64 y.1) z = .lit (.int .i64 y.2)
  | [], _, _, _, _, h => by cases h
  | x :: es, D, hD, hr, y, h => by
    have hr' := List.pairwise_cons.1 hr
    rw [List.foldl_cons]
    rcases List.mem_cons.1 h with rfl | h
    · have := out_skip (k := y.1) (D.put (.int .i64 y.1) (.lit (.int .i64 y.2))) (fun z hz => by have := hr'.1 z hz; omega)
      exact ⟨by rw [this.1, has_put_same hD (int_key _)], fun z => by rw [this.2, atKey_put_same hD (int_key _)]⟩
    · exact out_hit _ (hD.put _ _) hr'.2 y h
theorem outD_hit {es : List (Int × Int)} (hr : RisesK es) {y : Int × Int} (h : y ∈ es) : has (outD es) (.int .i64 y.1) = true ∧ ∀ z, (outD es).atKey (.int .i64 y.1) z = .lit (.int .i64 y.2) := out_hit _ isMap_empty hr y h
theorem outD_miss {es : List (Int × Int)} {k : Int} (h : ∀ y ∈ es, y.1 ≠ k) : has (outD es) (.int .i64 k) = false ∧ (outD es).atKey (.int .i64 k) (.lit (.int .i64 0)) = .lit (.int .i64 0) := by
  have := out_skip (seenD []) h
  refine ⟨this.1.trans ?_, (this.2 _).trans ?_⟩
  · rw [seenD_has]; rfl
  · rw [seenD_at]; rfl
section
variable {w : World} {mx n : Nat} {es : List (Int × Int)}
theorem look_hit (h : w.ownsMap Tryz.prog 3 (plainElem Tryz.prog 3) mx n (outD es)) (hr : RisesK es) {y : Int × Int} (hy : y ∈ es) (hb : -9223372036854775808 ≤ y.1 ∧ y.1 ≤ 9223372036854775807) :
    (Instr.lookup 145 (.map (some mx)) (.int .i64 y.1) true).run Tryz.prog w = .ok (.tuple #[.int .i64 y.2, .bool true]) w := by
  obtain ⟨v, ps, hrun, hv⟩ := h.look_ok (int_keyed Tryz.underlying3) Tryz.underlying145 (Tryz.zeroValue3 w) (plainElem_int (H := Unit) Tryz.underlying3 (by decide)) (keyOf_int_mk Tryz.underlying3 (WalkArith.wf_i64 hb))
  obtain ⟨h1, h2⟩ := outD_hit hr hy
  rw [h2] at hv
  obtain ⟨c, rfl, hc, _⟩ := plainElem_int_inv Tryz.underlying3 hv
  have hce : y.2 = c := by
    have := congrArg Prod.fst hc
    injection this with h; injection h
  rw [hrun, h1, ← hce]
theorem look_miss (h : w.ownsMap Tryz.prog 3 (plainElem Tryz.prog 3) mx n (outD es)) {k : Int} (hk : ∀ y ∈ es, y.1 ≠ k) (hb : -9223372036854775808 ≤ k ∧ k ≤ 9223372036854775807) :
    (Instr.lookup 145 (.map (some mx)) (.int .i64 k) true).run Tryz.prog w = .ok (.tuple #[.int .i64 0, .bool false]) w := by
  obtain ⟨v, ps, hrun, hv⟩ := h.look_ok (int_keyed Tryz.underlying3) Tryz.underlying145 (Tryz.zeroValue3 w) (plainElem_int (H := Unit) Tryz.underlying3 (by decide)) (keyOf_int_mk Tryz.underlying3 (WalkArith.wf_i64 hb))
  obtain ⟨h1, h2⟩ := outD_miss hk
  rw [h2] at hv
  obtain ⟨c, rfl, hc, _⟩ := plainElem_int_inv Tryz.underlying3 hv
  have hce : 0 = c := by
    have := congrArg Prod.fst hc
    injection this with h; injection h
  rw [hrun, h1, ← hce]
end
/-- A root and what its tree holds. -/
structure RootIs (m : Nat) (M : SM) (r : Int) (l : List (Int × Int)) : Prop where
  tree : (r = -1 ∧ l = []) ∨ ∃ h, h ≤ 8 ∧ Tr m M h r l
  rises : RisesK l
  keys : ∀ y ∈ l, 0 ≤ y.1 ∧ y.1 < 64
  pages : ∀ y ∈ l, 0 ≤ y.2 ∧ y.2 < 240
section
variable {w : World} {A : SA} {m : Nat} {M : SM} {r : Int} {l : List (Int × Int)}
theorem RootIs.wf (h : RootIs m M r l) (hA : StoreAt w A M) : -9223372036854775808 ≤ r ∧ r ≤ 9223372036854775807 := by
  rcases h.tree with ⟨e, _⟩ | ⟨k, _, t⟩
  · omega
  · have := heldB_pos t.held
    have hs := hA.pool.hsize
    omega
theorem RootIs.okay (h : RootIs m M r l) : (∀ x, Below M r x → x = -1 ∨ (M.get x).2 = 0) ∧ ∀ x, Below M r x → (M.get x).1.kind = 3 → (M.get x).1.ents ≠ [] := by
  rcases h.tree with ⟨e, _⟩ | ⟨k, _, t⟩
  · subst e
    exact ⟨fun x hx => .inl (below_none hx), fun x hx hk => by rw [below_none hx] at hk; exact absurd hk (get_none M)⟩
  · exact below_ok t
theorem RootIs.own (h : RootIs m M r l) (hA : StoreAt w A M) (S : Int → Bool) : ∃ o, OwnC M S 0 r o ∧ Side m M S r l o := by
  rcases h.tree with ⟨rfl, rfl⟩ | ⟨k, hk, t⟩
  · exact ⟨[], ownNone (by omega) (.inl rfl), side_none m M S⟩
  · refine ⟨_, own_ok t (by omega) (h.wf hA) (fun x y hx hy => ?_), side_of t h.rises⟩
    rcases (below_ok t).1 x hx with e | e
    · exact absurd e (below_neg t hx)
    · have := get_ents hA e y hy
      omega
end
def chP (la lb : List (Int × Int)) (n : Nat) : List (Int × Int) := (List.range n).filterMap fun (k : Nat) => if findL la (k : Int) = findL lb (k : Int) then none else some ((k : Int), findL lb (k : Int))
theorem chP_same {la lb : List (Int × Int)} {k : Nat} (h : findL la (k : Int) = findL lb (k : Int)) : chP la lb (k + 1) = chP la lb k := by
  unfold chP
  rw [List.range_succ, List.filterMap_append]
  simp [h]
theorem chP_more {la lb : List (Int × Int)} {k : Nat} {p : Int} (h : findL la (k : Int) ≠ findL lb (k : Int)) (hp : findL lb (k : Int) = p) : chP la lb (k + 1) = chP la lb k ++ [((k : Int), p)] := by
  unfold chP
  rw [List.range_succ, List.filterMap_append]
  subst hp
  simp [h]
theorem chP_len (la lb : List (Int × Int)) (k : Nat) : (chP la lb k).length ≤ k := by
  have := List.length_filterMap_le (fun (k : Nat) => if findL la (k : Int) = findL lb (k : Int) then none else some ((k : Int), findL lb (k : Int))) (List.range k)
  rw [List.length_range] at this
  exact this
theorem ownsRow.slice2 {w : World} {base e n sz : Nat} {v : Value} {xs : List Value} (h : w.ownsRow base e sz v n xs) : ∃ A cap, v = .slice A n cap ∧ n ≤ cap ∧ cap ≤ maxLen := by
  rcases h.2 with ⟨rfl, rfl⟩ | ⟨g, cap, cur, rfl, _, _, h3, h4, _⟩
  · exact ⟨none, 0, rfl, Nat.le_refl _, Nat.zero_le _⟩
  · exact ⟨_, cap, rfl, h3, h4⟩
/-- Where Changes' loop stands. -/
structure ChAt (w : World) (mx my base : Nat) (oa ob la lb : List (Int × Int)) (k : Nat) (v : Value) (wr : World) : Prop where
  kept : Kept (fun _ => False) w wr
  x : wr.ownsMap Tryz.prog 3 (plainElem Tryz.prog 3) mx oa.length (outD oa)
  y : wr.ownsMap Tryz.prog 3 (plainElem Tryz.prog 3) my ob.length (outD ob)
  row : wr.ownsRow base 92 2 v (chP la lb k).length (entCells (chP la lb k))
  size : base ≤ wr.heap.size
theorem ChAt.next {w wr : World} {mx my base : Nat} {oa ob la lb : List (Int × Int)} {k : Nat} {v : Value} (h : ChAt w mx my base oa ob la lb k v wr) (e : findL la (k : Int) = findL lb (k : Int)) : ChAt w mx my base oa ob la lb (k + 1) v wr :=
  ⟨h.kept, h.x, h.y, by rw [chP_same e]; exact h.row, h.size⟩
theorem ChAt.more {w wr w' : World} {mx my base : Nat} {oa ob la lb : List (Int × Int)} {k : Nat} {v v' : Value} {p : Int} {o : Obj} (h : ChAt w mx my base oa ob la lb k v wr) (hne : findL la (k : Int) ≠ findL lb (k : Int)) (hp : findL lb (k : Int) = p) (hb : mx < base ∧ my < base ∧ w.heap.size ≤ base)
    (hown : w'.ownsRow base 92 2 v' ((chP la lb k).length + 1) (entCells (chP la lb k) ++ [.int .i64 (k : Int), .int .i64 p])) (hg : (wr.alloc o).grownBy w' v.ownBlock) : ChAt w mx my base oa ob la lb (k + 1) v' w' := by
  have k1 : Kept (fun _ => False) wr (wr.alloc o) := (Kept.refl _ _).alloc _
  have hlt := fun b (hb : v.ownBlock = some b) => h.row.lt b hb
  have k2 := Kept.of_grown hg
  refine ⟨(h.kept.trans k1).grown hg (fun k e => .inr (by have := (hlt k e).1; omega)), ownsMap_kept (ownsMap_kept h.x k1 id) k2 (fun e => by have := (hlt _ e).1; omega), ownsMap_kept (ownsMap_kept h.y k1 id) k2 (fun e => by have := (hlt _ e).1; omega), ?_, by have := h.size; have := k1.size; have := k2.size; omega⟩
  rw [chP_more hne hp, List.length_append, entCells_append]
  exact hown
set_option maxHeartbeats 16000000 in
theorem diffChanges {w : World} {A : SA} {m : Nat} {M : SM} (h : StoreAt w A M) {ra rb : Int} {la lb : List (Int × Int)} (ha : RootIs m M ra la) (hb : RootIs m M rb lb) :
    Calls Tryz.prog 50 #[.agg #[.pointer (some ⟨A.sb, 0, none⟩)], .int .i64 ra, .int .i64 rb] w fun e w' => ∃ v, e = .returned (.tuple #[v, .int .i64 0]) ∧ w'.ownsRow w.heap.size 92 2 v (changesL la lb).length (entCells (changesL la lb)) ∧ Kept (fun _ => False) w w' := by
  obtain ⟨db, hdb⟩ : ∃ db, w.heap.size = db := ⟨_, rfl⟩
  obtain ⟨w1, hw1⟩ : ∃ w1, w.alloc (.cells #[.pointer (some ⟨A.sb, 0, none⟩)] 30) = w1 := ⟨_, rfl⟩
  have k1 : Kept (fun _ => False) w w1 := by rw [← hw1]; exact (Kept.refl _ _).alloc _
  have t1 : w1.heap[db]? = some (.cells #[.pointer (some ⟨A.sb, 0, none⟩)] 30 (0, 0)) := by rw [← hw1, ← hdb]; exact heap_alloc_new _ _
  have ld1 := Lib.hid (ptr_load' t1)
  have hSh := Lib.hid (sharedAny (h.fresh k1) (ha.wf h) ha.okay.1 ha.okay.2 (hb.wf h) hb.okay.1 hb.okay.2)
  have hw1' := Lib.hid hw1
  have hdb' := Lib.hid hdb
  have t1' := Lib.hid t1
  have k1' := Lib.hid k1
  have h' := Lib.hid h
  have ha' := Lib.hid ha
  have hb' := Lib.hid hb
  clear h hw1 hdb k1 t1 ha hb
  go_enter Tryz.func50, Tryz.ntmps50
  go_wp2_with (first | (refine wpList_box_named 30 rfl rfl _ rfl hw1'.out ?_; rw [hdb'.out]) | (refine wpList_load_agg 30 rfl rfl rfl _ Tryz.underlying30 rfl [.pointer (some ⟨A.sb, 0, none⟩)] (by kernel_rfl) ld1.out ?_))
  refine hSh.out.mono ?_
  rintro e w2 ⟨ms, n, D, Sa, Sb, rfl, hms, hn240, hown, hset, _, hSa, hSb, hk2⟩
  obtain ⟨oa, hOa, hSideA⟩ := ha'.out.own h'.out (fun x => decide (x ∈ Sa) && decide (x ∈ Sb))
  obtain ⟨ob, hOb, hSideB⟩ := hb'.out.own h'.out (fun x => decide (x ∈ Sa) && decide (x ∈ Sb))
  have hS : Hid (∀ q, (decide (q ∈ Sa) && decide (q ∈ Sb)) = true → (Below M ra q ∧ q ≠ -1) ∧ (Below M rb q ∧ q ≠ -1)) := Lib.hid (fun q hq => by
    rw [Bool.and_eq_true, decide_eq_true_eq, decide_eq_true_eq] at hq
    exact ⟨(hSa q).1 hq.1, (hSb q).1 hq.2⟩)
  have hla : Hid (oa.length ≤ 64) := Lib.hid (Nat.le_trans hSideA.sub.length_le (rises_len ha'.out.rises ha'.out.keys))
  have hlb : Hid (ob.length ≤ 64) := Lib.hid (Nat.le_trans hSideB.sub.length_le (rises_len hb'.out.rises hb'.out.keys))
  obtain ⟨mx, hmx⟩ : ∃ mx, w2.heap.size = mx := ⟨_, rfl⟩
  obtain ⟨w3, hw3⟩ : ∃ w3, w2.alloc (.map #[] 0) = w3 := ⟨_, rfl⟩
  obtain ⟨my, hmy⟩ : ∃ my, w3.heap.size = my := ⟨_, rfl⟩
  obtain ⟨w4, hw4⟩ : ∃ w4, w3.alloc (.map #[] 0) = w4 := ⟨_, rfl⟩
  have k3 : Kept (fun _ => False) w2 w3 := by rw [← hw3]; exact (Kept.refl _ _).alloc _
  have k4 : Kept (fun _ => False) w3 w4 := by rw [← hw4]; exact (Kept.refl _ _).alloc _
  have mx3 : w3.ownsMap Tryz.prog 3 (plainElem Tryz.prog 3) mx 0 (outD []) := by rw [← hw3, ← hmx]; exact World.ownsMap_made w2 Tryz.prog 3 _
  have my4 : w4.ownsMap Tryz.prog 3 (plainElem Tryz.prog 3) my 0 (outD []) := by rw [← hw4, ← hmy]; exact World.ownsMap_made w3 Tryz.prog 3 _
  have mx4 := Lib.hid (ownsMap_kept mx3 k4 id)
  have my4' := Lib.hid my4
  have ks4 := Lib.hid ((hk2.trans k3).trans k4)
  have hs4 := Lib.hid (ownsMap_kept (ownsMap_kept hown k3 id) k4 id)
  have sx : Hid (ms < mx ∧ mx < my ∧ my < w4.heap.size ∧ w1.heap.size ≤ mx) := Lib.hid ⟨by have := hown.lt; omega, by have := mx3.lt; omega, my4.lt, by have := hk2.size; omega⟩
  have ld4 := Lib.hid (ptr_load' (ks4.out.get t1'.out id))
  have hA4 := Lib.hid ((h'.out.fresh k1'.out).fresh ks4.out)
  have hset' := Lib.hid hset
  have hOb' := Lib.hid hOb
  have hCa := Lib.hid (hOa w4 A ms n D mx [] hA4.out hs4.out hset mx4.out (by have := sx.out; omega) (fun e => by have := (h'.out.fresh k1'.out).lt e; have := sx.out; omega) (by have := hla.out; simp; omega))
  have hA' := Lib.hid hSideA
  have hB' := Lib.hid hSideB
  have hw3' := Lib.hid hw3
  have hw4' := Lib.hid hw4
  have hmx' := Lib.hid hmx
  have hmy' := Lib.hid hmy
  clear hown hset hSa hSb hk2 hOa hOb hSideA hSideB hmx hw3 hmy hw4 k3 k4 mx3 my4
  go_wp2_with (first | (simp only [run_makeMap, hw3'.out, hmx'.out, hw4'.out, hmy'.out]) | (refine wpList_load_agg 30 rfl rfl rfl _ Tryz.underlying30 rfl [.pointer (some ⟨A.sb, 0, none⟩)] (by kernel_rfl) ld4.out ?_))
  refine hCa.out.mono ?_
  rintro e w5 ⟨rfl, hx5, hk5⟩
  have kw5 := Lib.hid (ks4.out.trans_new hk5 (fun i hi e => by have := sx.out; omega))
  have ld5 := Lib.hid (ptr_load' (kw5.out.get t1'.out id))
  have hA5 := Lib.hid ((h'.out.fresh k1'.out).fresh kw5.out)
  have hy5 := Lib.hid (ownsMap_kept my4'.out hk5 (by have := sx.out; omega))
  have hs5 := Lib.hid (ownsMap_kept hs4.out hk5 (by have := sx.out; omega))
  have hCb := Lib.hid (hOb'.out w5 A ms n D my [] hA5.out hs5.out hset'.out hy5.out (by have := sx.out; omega) (fun e => by have := (h'.out.fresh k1'.out).lt e; have := sx.out; omega) (by have := hlb.out; simp; omega))
  have hx5' := Lib.hid hx5
  clear hx5 hk5
  go_wp2_with (first | (refine wpList_load_agg 30 rfl rfl rfl _ Tryz.underlying30 rfl [.pointer (some ⟨A.sb, 0, none⟩)] (by kernel_rfl) ld5.out ?_))
  refine hCb.out.mono ?_
  rintro e w6 ⟨rfl, hy6, hk6⟩
  obtain ⟨base, hbase⟩ : ∃ base, w6.heap.size = base := ⟨_, rfl⟩
  have I6 := Lib.hid (show ChAt w mx my base oa ob la lb 0 (.slice none 0 0) w6 from ⟨k1'.out.trans (kw5.out.trans_new hk6 (fun i hi e => by have := sx.out; omega)), by simpa using ownsMap_kept hx5'.out hk6 (by have := sx.out; omega), by simpa using hy6, World.ownsRow_nil _ _ _ _, by omega⟩)
  have sb : Hid (mx < base ∧ my < base ∧ w.heap.size ≤ base) := Lib.hid ⟨by have := I6.out.x.lt; omega, by have := I6.out.y.lt; omega, by have := I6.out.kept.size; omega⟩
  clear hy6 hk6 hbase
  go_wp2_with fail
  go_loopw [14, 48] (fun v i wr => ∃ (k : Nat), k ≤ 64 ∧ i = .int .i64 k ∧ Hid (ChAt w mx my base oa ob la lb k v wr)) (fun _ i _ => 64 - (intOf i).toNat)
  case atStart => exact ⟨0, by decide, rfl, I6⟩
  case round =>
    obtain ⟨k, hk, rfl, hI⟩ := hrel
    obtain ⟨Av, cv, rfl, hcv, _⟩ := ownsRow.slice2 hI.out.row
    by_cases hlt : k < 64
    · have hki : (k : Int) < 64 := by omega
      have hra := hA'.out.rises.sublist hA'.out.sub
      have hrb := hB'.out.rises.sublist hB'.out.sub
      have hkb : -9223372036854775808 ≤ (k : Int) ∧ (k : Int) ≤ 9223372036854775807 := by omega
      have hcl := chP_len la lb k
      have hsz := hI.out.size
      have hrow := Lib.hid hI.out.row
      have hI' := Lib.hid hI.out
      by_cases ey : ∃ p, ((k : Int), p) ∈ ob
      · obtain ⟨py, hy⟩ := ey
        have ly := look_hit hI.out.y hrb hy hkb
        have fy : findL lb (k : Int) = py := own_find hB'.out hy
        have py0 := (hb'.out.pages _ (hB'.out.sub.subset hy)).1
        by_cases ex : ∃ p, ((k : Int), p) ∈ oa
        · obtain ⟨px, hx⟩ := ex
          have lx := look_hit hI.out.x hra hx hkb
          have fx : findL la (k : Int) = px := own_find hA'.out hx
          by_cases e : px = py
          · subst e
            have hee := Lib.hid (fx.trans fy.symm)
            clear hI hx hy hra hrb fx fy py0 hkb hlt
            have fin := Lib.hid (ChAt.next hI'.out hee.out)
            go_wp2_with fail
            go_roundw
            case rel => exact ⟨k + 1, by omega, by go_num, fin⟩
            case measure => simp [intOf]; omega
          · have hee : Hid (findL la (k : Int) ≠ findL lb (k : Int)) := Lib.hid (by rw [fx, fy]; exact e)
            have heb : (px == py) = false := by simpa using e
            have fy' := Lib.hid fy
            clear hI hx hy hra hrb fx fy py0 e hkb
            go_wp2_with (at_builtin; refine wpList_append_src rfl elemChange (.tmp 74) (.tmp 78) rfl (by rfl) (by rfl) (ownsRow.keptOf hrow.out ((Kept.refl _ _).alloc _) (fun _ _ => id)) (SliceAt.block_new (ys := [.int .i64 (k : Int), .int .i64 py]) (m := 1) (heap_alloc_new _ _) rfl (by decide)) (by intro c hc; simp at hc; rcases hc with rfl | rfl <;> rfl) (by omega) (by omega) (Nat.le_trans hsz ((Kept.refl (fun _ => False) _).alloc _).size) ?_; intro v7 w7 hown7 hg7 hat7)
            have fin := Lib.hid (ChAt.more hI'.out hee.out fy'.out sb.out hown7 hg7)
            clear hown7 hg7 hat7
            go_roundw
            case rel => exact ⟨k + 1, by omega, by go_num, fin⟩
            case measure => simp [intOf]; omega
        · have hmiss : ∀ y ∈ oa, y.1 ≠ (k : Int) := fun y hy e => ex ⟨y.2, by rw [← e]; exact hy⟩
          have lx := look_miss hI.out.x hmiss hkb
          have fx := other_none hA'.out hB'.out hS.out hy hmiss
          have hee : Hid (findL la (k : Int) ≠ findL lb (k : Int)) := Lib.hid (by rw [fx, fy]; dsimp only at py0; omega)
          have fy' := Lib.hid fy
          clear hI hy hra hrb fx fy py0 ex hmiss hkb
          go_wp2_with (at_builtin; refine wpList_append_src rfl elemChange (.tmp 74) (.tmp 78) rfl (by rfl) (by rfl) (ownsRow.keptOf hrow.out ((Kept.refl _ _).alloc _) (fun _ _ => id)) (SliceAt.block_new (ys := [.int .i64 (k : Int), .int .i64 py]) (m := 1) (heap_alloc_new _ _) rfl (by decide)) (by intro c hc; simp at hc; rcases hc with rfl | rfl <;> rfl) (by omega) (by omega) (Nat.le_trans hsz ((Kept.refl (fun _ => False) _).alloc _).size) ?_; intro v7 w7 hown7 hg7 hat7)
          have fin := Lib.hid (ChAt.more hI'.out hee.out fy'.out sb.out hown7 hg7)
          clear hown7 hg7 hat7
          go_roundw
          case rel => exact ⟨k + 1, by omega, by go_num, fin⟩
          case measure => simp [intOf]; omega
      · have hmy2 : ∀ y ∈ ob, y.1 ≠ (k : Int) := fun y hy e => ey ⟨y.2, by rw [← e]; exact hy⟩
        have ly := look_miss hI.out.y hmy2 hkb
        by_cases ex : ∃ p, ((k : Int), p) ∈ oa
        · obtain ⟨px, hx⟩ := ex
          have lx := look_hit hI.out.x hra hx hkb
          have fx : findL la (k : Int) = px := own_find hA'.out hx
          have px0 := (ha'.out.pages _ (hA'.out.sub.subset hx)).1
          have fy := other_none hB'.out hA'.out (fun q hq => (hS.out q hq).symm) hx hmy2
          have hee : Hid (findL la (k : Int) ≠ findL lb (k : Int)) := Lib.hid (by rw [fx, fy]; dsimp only at px0; omega)
          have fy' : Hid (findL lb (k : Int) = -1) := Lib.hid fy
          clear hI hx hra hrb fx fy px0 ey hmy2 hkb
          go_wp2_with (at_builtin; refine wpList_append_src rfl elemChange (.tmp 86) (.tmp 89) rfl (by rfl) (by rfl) (ownsRow.keptOf hrow.out ((Kept.refl _ _).alloc _) (fun _ _ => id)) (SliceAt.block_new (ys := [.int .i64 (k : Int), .int .i64 (-1)]) (m := 1) (heap_alloc_new _ _) rfl (by decide)) (by intro c hc; simp at hc; rcases hc with rfl | rfl <;> rfl) (by omega) (by omega) (Nat.le_trans hsz ((Kept.refl (fun _ => False) _).alloc _).size) ?_; intro v7 w7 hown7 hg7 hat7)
          have fin := Lib.hid (ChAt.more hI'.out hee.out fy'.out sb.out hown7 hg7)
          clear hown7 hg7 hat7
          go_roundw
          case rel => exact ⟨k + 1, by omega, by go_num, fin⟩
          case measure => simp [intOf]; omega
        · have hmx2 : ∀ y ∈ oa, y.1 ≠ (k : Int) := fun y hy e => ex ⟨y.2, by rw [← e]; exact hy⟩
          have lx := look_miss hI.out.x hmx2 hkb
          have hee := Lib.hid (same_key hA'.out hB'.out hS.out hmx2 hmy2)
          clear hI hra hrb ex ey hmx2 hmy2 hkb
          have fin := Lib.hid (ChAt.next hI'.out hee.out)
          go_wp2_with fail
          go_roundw
          case rel => exact ⟨k + 1, by omega, by go_num, fin⟩
          case measure => simp [intOf]; omega
    · obtain rfl : k = 64 := by omega
      have hI' := Lib.hid hI.out
      clear hI
      go_wp2_with fail
      go_ret2
      exact ⟨_, rfl, owns_weaken hI'.out.row sb.out.2.2, hI'.out.kept⟩
/-- The keys of a set, sorted. -/
theorem set_keys {w : World} {b n : Nat} {D : DataW Unit} {S : List Int} {R : Value → Option (DataW Unit × List MemPlace)} (hown : w.ownsMap Tryz.prog 3 R b n D) (hn : S.Nodup) (hh : ∀ x, has D (.int .i64 x) = decide (x ∈ S)) : S.Perm (intKeys D) := by
  have K : Keyed Tryz.prog 3 := int_keyed Tryz.underlying3
  obtain ⟨es, hD, hpw, _⟩ := hown.entries K
  obtain ⟨es', hD', hko⟩ := hown.keysOf
  obtain rfl : es = es' := by rw [hD] at hD'; simpa using hD'
  have hh' : ∀ x, x ∈ S ↔ has D (.int .i64 x) = true := fun x => by rw [hh x, decide_eq_true_eq]
  rw [hD] at hh' ⊢
  exact perm_intKeys hpw (fun p hp => by obtain ⟨v, hv⟩ := hko p hp; obtain ⟨x, _, hx, _⟩ := Maps.keyOf_i64 Tryz.underlying3 hv; exact ⟨x, hx⟩) hn hh'
set_option maxHeartbeats 8000000 in
theorem diffShared {w : World} {A : SA} {m : Nat} {M : SM} (h : StoreAt w A M) {ra rb : Int} {la lb : List (Int × Int)} (ha : RootIs m M ra la) (hb : RootIs m M rb lb) :
    Calls Tryz.prog 51 #[.agg #[.pointer (some ⟨A.sb, 0, none⟩)], .int .i64 ra, .int .i64 rb] w fun e w' => ∃ (v : Value) (S : List Int), e = .returned (.tuple #[v, .int .i64 0]) ∧ w'.ownsRow w.heap.size 3 1 v S.length (S.map (Value.int .i64)) ∧ S.Nodup ∧ (∀ x, x ∈ S ↔ (Below M ra x ∧ x ≠ -1) ∧ (Below M rb x ∧ x ≠ -1)) ∧ Kept (fun _ => False) w w' := by
  obtain ⟨db, hdb⟩ : ∃ db, w.heap.size = db := ⟨_, rfl⟩
  obtain ⟨w1, hw1⟩ : ∃ w1, w.alloc (.cells #[.pointer (some ⟨A.sb, 0, none⟩)] 30) = w1 := ⟨_, rfl⟩
  have k1 : Kept (fun _ => False) w w1 := by rw [← hw1]; exact (Kept.refl _ _).alloc _
  have t1 : w1.heap[db]? = some (.cells #[.pointer (some ⟨A.sb, 0, none⟩)] 30 (0, 0)) := by rw [← hw1, ← hdb]; exact heap_alloc_new _ _
  have ld1 := Lib.hid (ptr_load' t1)
  have hSh := Lib.hid (sharedAny (h.fresh k1) (ha.wf h) ha.okay.1 ha.okay.2 (hb.wf h) hb.okay.1 hb.okay.2)
  have hw1' := Lib.hid hw1
  have hdb' := Lib.hid hdb
  have k1' := Lib.hid k1
  clear h hw1 hdb k1 t1 ha hb
  go_enter Tryz.func51, Tryz.ntmps51
  go_wp2_with (first | (refine wpList_box_named 30 rfl rfl _ rfl hw1'.out ?_; rw [hdb'.out]) | (refine wpList_load_agg 30 rfl rfl rfl _ Tryz.underlying30 rfl [.pointer (some ⟨A.sb, 0, none⟩)] (by kernel_rfl) ld1.out ?_))
  refine hSh.out.mono ?_
  rintro e w2 ⟨ms, n, D, Sa, Sb, rfl, hms, hn240, hown, hset, hnd, hSa, hSb, hk2⟩
  have hperm := Lib.hid (set_keys (S := Sa.filter fun x => decide (x ∈ Sb)) hown (hnd.filter _) (fun x => by
    rw [(hset x).1]
    by_cases e1 : x ∈ Sa <;> by_cases e2 : x ∈ Sb <;> simp [e1, e2]))
  have hmem : Hid (∀ x, x ∈ Sa.filter (fun x => decide (x ∈ Sb)) ↔ (Below M ra x ∧ x ≠ -1) ∧ (Below M rb x ∧ x ≠ -1)) := Lib.hid (fun x => by rw [List.mem_filter, decide_eq_true_eq, hSa, hSb])
  have hsz := World.ownsMap.size_le hown
  have hsc := Lib.hid (sortedCall ms n D _ w2 hown (by unfold maxLen; omega) (by omega))
  have hkc := Lib.hid (keysCall (some ms) w2)
  have hnd' := Lib.hid (hnd.filter fun x => decide (x ∈ Sb))
  have hk := Lib.hid (k1'.out.trans hk2)
  clear hown hset hnd hSa hSb hk2 hms hsz
  go_wp2_with fail
  refine hkc.out.mono ?_
  rintro e w3 ⟨rfl, rfl⟩
  go_wp2_with fail
  refine hsc.out.mono ?_
  rintro e w4 ⟨v4, ss, rfl, hS, hrow, hk4⟩
  have hs4 := hk.out.size
  have hp := hS.trans hperm.out.symm
  have hk4' := Lib.hid hk4
  have hrow' := Lib.hid hrow
  have hp' := Lib.hid hp
  clear hk4 hrow hS hp
  go_wp2_with fail
  go_ret2
  have hpp : (ss.mergeSort fun x y => decide (x ≤ y)).Perm (Sa.filter fun x => decide (x ∈ Sb)) := (List.mergeSort_perm _ _).trans hp'.out
  refine ⟨v4, ss.mergeSort fun x y => decide (x ≤ y), rfl, ?_, hpp.nodup_iff.2 hnd'.out, fun x => by rw [hpp.mem_iff]; exact hmem.out x, hk.out.trans hk4'.out⟩
  rw [List.length_mergeSort]
  exact owns_weaken hrow'.out (by omega)
end Go.Proofs.YtidlchciehdefaaGreat
/-
  Two trees held against one another: the chapter's example, plain.
-/
namespace Go.Proofs.YtidlchciehdefaaGreat
open Go.RowKit

theorem rootis_one {K : SM → Prop} {s : Nat} {bl : List Nat} {M : SM} {root : Int} {l : List (Int × Int)} {P : Nat} (h : OneTree K s bl M root l P) (hP : P ≤ 150) (hs : s ≤ 240) : RootIs 1 M root l := by
  refine ⟨?_, h.keys.1, fun y hy => ⟨(h.keys.2 y hy).1, (h.keys.2 y hy).2.1⟩, fun y hy => ?_⟩
  · obtain ⟨k, hr, hk, _⟩ := h.rooted hP
    rcases hr with ⟨e1, e2, _⟩ | t
    · exact .inl ⟨e1, e2⟩
    · exact .inr ⟨k, by omega, t⟩
  · obtain ⟨_, _, b, hb, e⟩ := h.keys.2 y hy
    have := live_lt (h.data b hb).1
    have := h.size
    omega
def exA (p0 p1 : Nat) : List (Int × Int) := [(1, (p0 : Int)), (2, (p1 : Int))]
def exB (p0 p1 p2 : Nat) : List (Int × Int) := [(1, (p0 : Int)), (2, (p1 : Int)), (9, (p2 : Int))]
theorem exB_put (p0 p1 p2 : Nat) : putL (exA p0 p1) (9, (p2 : Int)) = exB p0 p1 p2 := by
  unfold putL exA exB
  simp
theorem exA_build (p0 p1 : Nat) : (exA p0 p1).foldl putL [] = exA p0 p1 := by
  unfold exA putL
  simp
theorem ch_self (l : List (Int × Int)) : changesL l l = [] := by
  unfold changesL
  rw [List.filterMap_eq_nil_iff]
  intro k _
  simp
theorem ch_ab (p0 p1 p2 : Nat) : changesL (exA p0 p1) (exB p0 p1 p2) = [(9, (p2 : Int))] := by
  have h : ((-1 : Int) = (p2 : Int)) = False := by simp
  unfold changesL exA exB
  simp [List.range, List.range.loop, findL, h]
theorem ch_ba (p0 p1 p2 : Nat) : changesL (exB p0 p1 p2) (exA p0 p1) = [(9, -1)] := by
  have h : ((p2 : Int) = (-1 : Int)) = False := by simp
  unfold changesL exA exB
  simp [List.range, List.range.loop, findL, h]
theorem ch_none (p0 p1 : Nat) : (changesL [] (exA p0 p1)).length = 2 := by
  have h : ((-1 : Int) = (p0 : Int)) = False := by simp
  have h' : ((-1 : Int) = (p1 : Int)) = False := by simp
  unfold changesL exA
  simp [List.range, List.range.loop, findL, h, h']
section
variable {M : SM} {ns : List Nat}
theorem alive12_build (h : OneTree Clean 240 ns M (-1) [] 0) (h4 : ns.length = 4) {p0 p1 : Nat} (i0 : p0 ∈ ns) (i1 : p1 ∈ ns) :
    ∃ M1 a, SM.build (exA p0 p1) M (-1) = (M1, a, 0) ∧ OneTree Clean 240 ns M1 a (exA p0 p1) 2 ∧ M1.log.length ≤ M.log.length + 44 := by
  obtain ⟨M1, a, e, h1, hl⟩ := build_one clean_besides (by omega) (by decide) (exA p0 p1) h (by show 0 + 2 ≤ 150; omega) (fun y hy => by
    unfold exA at hy
    simp only [List.mem_cons, List.not_mem_nil, or_false] at hy
    rcases hy with rfl | rfl
    · exact ⟨by simp, by simp, p0, i0, rfl⟩
    · exact ⟨by simp, by simp, p1, i1, rfl⟩)
  rw [exA_build] at h1
  exact ⟨M1, a, e, h1, hl⟩
theorem alive12_put {M1 : SM} {a : Int} {p0 p1 p2 : Nat} (h1 : OneTree Clean 240 ns M1 a (exA p0 p1) 2) (h4 : ns.length = 4) (i0 : p0 ∈ ns) (i1 : p1 ∈ ns) (i2 : p2 ∈ ns) :
    ∃ M2 b M3, M1.put a 9 (p2 : Int) = (M2, b, 0) ∧ M2.swap (-1) b = (M3, 0) ∧ RootIs 1 M3 a (exA p0 p1) ∧ RootIs 1 M3 b (exB p0 p1 p2) ∧ M3.log.length ≤ M1.log.length + 22 := by
  obtain ⟨k, hr, hk, hled⟩ := h1.rooted (by omega)
  obtain ⟨r1, r2⟩ := h1.room clean_besides (by omega)
  have hx : M1.pool.heldB (p2 : Int) = true := by rw [heldB_nat]; exact (h1.data p2 i2).1
  have hlg := put_log M1 a 9 (p2 : Int)
  have hext : ∀ c, extB ns a c ≤ 5 := fun c => by
    unfold extB
    have : ns.count c ≤ ns.length := List.count_le_length
    split <;> omega
  rcases put_new (by decide) h1.exact hr (by omega) h1.good (fun q hq hc => by obtain ⟨y, hy, _⟩ := h1.loose q hq hc; cases hy) hx (show (0 : Int) ≤ 9 by decide) (by decide) with ⟨e, T⟩ | ⟨_, _, hf⟩ | ⟨_, _, c, hc⟩
  · obtain ⟨R, hR⟩ : ∃ R, M1.put a 9 (p2 : Int) = R := ⟨_, rfl⟩
    rw [hR] at e T hlg
    obtain ⟨M2, b, er⟩ := R
    dsimp only at e T hlg
    subst e
    obtain ⟨h', tb, hh'⟩ := T.tr
    rw [exB_put] at tb
    have hb0 := heldB_int tb.held
    have hna : a ≠ -1 := fun e => by
      rcases hr with ⟨_, e2, _⟩ | t
      · exact absurd e2 (by unfold exA; simp)
      · have := (heldB_int t.held).1; omega
    have ta : Tr 1 M2 k a (exA p0 p1) := by
      rcases hr with ⟨e1, _⟩ | t
      · exact absurd e1 hna
      · exact t.grown T.grown
    obtain ⟨s0, E3, hlog, hsz, hlv, _⟩ := swap_ok T.exact (old := -1) (next := b) (.inr ⟨tb.held, by rw [T.zero]; decide⟩) (.inl rfl)
    obtain ⟨S, hS⟩ : ∃ S, M2.swap (-1) b = S := ⟨_, rfl⟩
    rw [hS] at s0 E3 hlog hsz hlv
    obtain ⟨M3, es⟩ := S
    dsimp only at s0 E3 hlog hsz hlv
    subst s0
    have hin : ∀ r : Int, M2.pool.heldB r = true → 0 < swapE (extB ns a) (-1) b r.toNat → M3.pool.heldB r = true := fun r hr hp => by
      obtain ⟨c, hc⟩ := Int.eq_ofNat_of_zero_le (heldB_int hr).1
      have hlt := live_lt (heldB_int hr).2
      rw [hc, Int.toNat_natCast] at hlt hp
      rw [hc]
      exact ext_held E3 (by rw [hsz]; exact hlt) hp
    have ha3 : M3.pool.heldB a = true := hin a ta.held (by
      have e1 : ((a.toNat : Nat) : Int) = a := Int.toNat_of_nonneg (heldB_int ta.held).1
      unfold swapE extB
      simp only [e1, if_true, if_neg hna]
      split <;> omega)
    have hb3 : M3.pool.heldB b = true := hin b tb.held (by
      have e1 : ((b.toNat : Nat) : Int) = b := Int.toNat_of_nonneg hb0.1
      have hnb : b ≠ -1 := by omega
      unfold swapE
      simp only [e1, if_true, if_neg hnb]
      omega)
    have hpg : ∀ y ∈ exB p0 p1 p2, 0 ≤ y.2 ∧ y.2 < 240 := fun y hy => by
      have hp : ∀ p ∈ ns, p < 240 := fun p hp => by have := live_lt (h1.data p hp).1; have := h1.size; omega
      unfold exB at hy
      simp only [List.mem_cons, List.not_mem_nil, or_false] at hy
      have a0 := hp p0 i0
      have a1 := hp p1 i1
      have a2 := hp p2 i2
      rcases hy with rfl | rfl | rfl <;> (dsimp only; omega)
    refine ⟨M2, b, M3, hR, hS, ⟨.inr ⟨k, by omega, Tr.stays E3 hlog ta ha3⟩, h1.keys.1, fun y hy => ⟨(h1.keys.2 y hy).1, (h1.keys.2 y hy).2.1⟩, fun y hy => hpg y (by unfold exA at hy; unfold exB; simp at hy ⊢; rcases hy with rfl | rfl <;> simp)⟩,
      ⟨.inr ⟨h', by omega, Tr.stays E3 hlog tb hb3⟩, by unfold exB RisesK; simp, fun y hy => by unfold exB at hy; simp at hy; rcases hy with rfl | rfl | rfl <;> simp, hpg⟩, by rw [hlog]; exact hlg⟩
  · omega
  · have := hext c
    have hrl := M1.refs_le c
    omega
/-- A tree of two entries is a leaf. -/
theorem one_leaf {M1 : SM} {a : Int} {p0 p1 : Nat} (h1 : OneTree Clean 240 ns M1 a (exA p0 p1) 2) (x : Int) : (Below M1 a x ∧ x ≠ -1) ↔ x = a := by
  rcases h1.root with ⟨_, e⟩ | ⟨h, t, L⟩
  · exact absurd e (by unfold exA; simp)
  · obtain ⟨k, n, rfl, hg, hok, hn, hN, hne⟩ := tr_get t
    have hk : n.kind ≠ 3 := fun h3 => by
      rcases L with ⟨e, _⟩ | ⟨hk0, hK⟩
      · subst e
        rcases hN with ⟨_, k2, _⟩ | ⟨k0, _, _⟩ <;> omega
      · have hpos := (innerOk_of hok (by omega)).pos
        rw [ents_of hn] at hK
        cases hes : n.ents with
        | nil => rw [hes] at hpos; simp at hpos
        | cons y ys =>
          rw [hes] at hK
          obtain ⟨u, v, huv, ⟨hu, _⟩, _⟩ := hK
          have : 3 ^ 1 ≤ 3 ^ k := Nat.pow_le_pow_right (by decide) hk0
          omega
    constructor
    · rintro ⟨hb, _⟩
      rcases below_cases hb with e | ⟨h3, _⟩
      · exact e
      · rw [hg] at h3; exact absurd h3 hk
    · rintro rfl
      exact ⟨.here, hne⟩
end
end Go.Proofs.YtidlchciehdefaaGreat
/-
  More blocks in a store without a tree, plain.
-/
namespace Go.Proofs.YtidlchciehdefaaGreat
open Go.RowKit

theorem page_more {s : Nat} {bl : List Nat} {M : SM} {P : Nat} (h : OneTree Clean s bl M (-1) [] P) (hs : bl.length < s) (hbn : bl.Nodup) (b : Nat) (hb : b < 256) (h5 : bl.length ≤ 200) :
    ∃ (M1 M2 : SM) (i : Nat), M.make (dataN b) = (M1, (i : Int), 0) ∧ M1.hold (i : Int) = (M2, 0) ∧ OneTree Clean s (bl ++ [i]) M2 (-1) [] P ∧ i ∉ bl ∧ M2.log.length ≤ M.log.length + 1 := by
  have hfree := clean_free h.kk
  have hlive : M.liveN ≤ bl.length := liveN_list (fun q hq => reach_all h.exact h.loose (L := bl) (fun q _ hq => by
    unfold extB at hq
    rw [if_neg (by omega), Nat.add_zero] at hq
    exact List.count_pos_iff.1 hq) (fun q hq x hx => by
    obtain ⟨_, d, hd, _, hde⟩ := h.data q hq
    rw [ents_of hd, hde] at hx
    cases hx) q hq)
  have hsz := h.size
  rcases make_ok h.exact (n := dataN b) (dataN_ok b hb) (fun x hx => by cases hx) with ⟨i, e, mk⟩ | ⟨_, e⟩ | ⟨_, c, e⟩
  · obtain ⟨M1, hM1⟩ : ∃ M1, (M.make (dataN b)).1 = M1 := ⟨_, rfl⟩
    have hmk : M.make (dataN b) = (M1, (i : Int), 0) := by rw [← hM1]; exact Prod.ext rfl e
    have hK1 : Clean M1 := by rw [← hM1]; exact clean_closed.make (dataN b) h.kk
    rw [hM1] at mk
    have hc0 : M.pool.cnt i = 0 := by
      have hn := mk.new
      have hlt : i < M.pool.size := by have := live_lt mk.live; rw [mk.grown.size] at this; exact this
      unfold SM.live PM.live at hn
      by_cases hz : 0 < M.pool.cnt i
      · simp [hlt, hz] at hn
      · omega
    have hc1 : M1.pool.cnt i = 0 := by rw [mk.cnt i, hc0]; rfl
    obtain ⟨h1, E2, hl2⟩ := holdE_ok mk.exact mk.live (by omega)
    have hnot : i ∉ bl := fun hi => by
      have := (h.data i hi).1
      rw [mk.new] at this
      cases this
    have hlog1 : M1.log.length ≤ M.log.length + 1 := by rw [← hM1]; exact make_log M _
    refine ⟨M1, _, i, hmk, h1, ⟨exact_congr E2 (fun p _ => ?_), ?_, ?_, fun q hq => ?_, ⟨h.keys.1, fun y hy => by cases hy⟩, .inl ⟨rfl, rfl⟩, fun q hq hc => ?_⟩, hnot, hlog1⟩
    · unfold incE extB
      have hz : (if ((p : Nat) : Int) = -1 then 1 else 0) = 0 := if_neg (by omega)
      rw [hz, Nat.add_zero, Nat.add_zero, List.count_append, List.count_singleton]
      by_cases e : p = i
      · subst e; simp
      · have e' : ¬ (i == p) = true := by simp; exact fun z => e z.symm
        rw [if_neg e, if_neg e']
    · show M1.pool.size = s
      rw [mk.grown.size, hsz]
    · have := clean_closed.hold M1 (i : Int) hK1
      have e : M1.hold (i : Int) = (⟨M1.pool.holdTo (i : Int), M1.log⟩, M1.pool.holdErr (i : Int)) := rfl
      rw [e] at h1
      have e2 := (Prod.mk.inj h1).1
      rw [← e2]
      exact this
    · rcases List.mem_append.1 hq with hq | hq
      · obtain ⟨a, d, hd, hk⟩ := h.data q hq
        exact ⟨by rw [hl2]; exact mk.grown.live q a, d, by show M1.nodeAt q = _; rw [mk.grown.node q a]; exact hd, hk⟩
      · rw [List.mem_singleton] at hq
        subst hq
        exact ⟨by rw [hl2]; exact mk.live, _, mk.node, rfl, rfl⟩
    · rw [hl2] at hq
      by_cases e : q = i
      · subst e
        simp [PM.setCnt] at hc
      · have hc' : M1.pool.cnt q = 0 := by simpa [PM.setCnt, e] using hc
        rw [mk.cnt q] at hc'
        exact h.loose q ((mk.only q hq).resolve_left e) (by omega)
  · omega
  · exfalso
    have hsum : M.sum = 0 := by
      have := sumE_list (M := M) (L := bl) (fun q hq => reach_all h.exact h.loose (L := bl) (fun q _ hq => by
        unfold extB at hq
        rw [if_neg (by omega), Nat.add_zero] at hq
        exact List.count_pos_iff.1 hq) (fun q hq x hx => by
        obtain ⟨_, d, hd, _, hde⟩ := h.data q hq
        rw [ents_of hd, hde] at hx
        cases hx) q hq)
      rw [data_sum (fun b hb => by obtain ⟨_, d, hd, _, he⟩ := h.data b hb; exact ⟨d, hd, he⟩)] at this
      omega
    have hext : extB bl (-1) c ≤ 200 := by
      unfold extB
      rw [if_neg (by omega)]
      have : bl.count c ≤ bl.length := List.count_le_length
      omega
    have hrl := M.refs_le c
    rw [hsum] at hrl
    have : (dataN b).ents.length = 0 := rfl
    omega
end Go.Proofs.YtidlchciehdefaaGreat
/-
  understudylaw12.made: a store with four blocks.
-/
namespace Go.Proofs.YtidlchciehdefaaGreat
open Go.RowKit
set_option maxRecDepth 100000

theorem own_to12 {A A' : SA} {M' : SM} {W w' : World} (k : StoreTo A A' M' W w') {j : Nat} (hj : A'.own j) : A.own j ∨ W.heap.size ≤ j := by
  rcases hj with hj | hj | hj
  · exact (k.foot j hj).imp .inl id
  · rw [k.fix.2] at hj; exact .inl (.inr (.inl hj))
  · rw [k.fix.1] at hj; exact .inl (.inr (.inr hj))
/-- A store with nothing in it. -/
def emptyM (s : Nat) : SM := ⟨PM.fresh0 s, []⟩
theorem empty_live (s q : Nat) : (emptyM s).live q = false := by
  unfold emptyM SM.live PM.live PM.fresh0
  simp
theorem one_empty {s : Nat} (h : s ≤ 240) : OneTree Clean s [] (emptyM s) (-1) [] 0 := by
  refine ⟨⟨h, fun p => Nat.zero_le _, fun p hp => ?_, fun q hq => ?_, fun q hq => ?_, fun _ => 0, fun q hq => ?_⟩, rfl, fun q => ?_, (fun b hb => by cases hb), ⟨List.Pairwise.nil, (fun y hy => by cases hy)⟩, .inl ⟨rfl, rfl⟩, fun q hq => ?_⟩
  · have hr : (emptyM s).refs p = 0 := sumN_zero fun q _ => by rw [empty_live]; rfl
    rw [hr]
    unfold extB
    rw [if_neg (by omega)]
    rfl
  · rw [empty_live] at hq; cases hq
  · rw [empty_live] at hq; cases hq
  · rw [empty_live] at hq; cases hq
  · unfold emptyM PM.fresh0
    simp
  · rw [empty_live] at hq; cases hq
theorem differ_zero : (Tryz.prog.info? 30).map (·.zero) = some (some (.agg #[.pointer none])) := by kernel_rfl
theorem differ_size : (Tryz.prog.info? 30).map (·.size) = some 1 := by kernel_rfl
/-- Where the loop stands. -/
structure MadeSt (w0 : World) (A0 A : SA) (M : SM) (bl ns : List Nat) (s n0 : Nat) (v : Value) (pb : Nat) (wr : World) : Prop where
  to : StoreTo A0 A M w0 wr
  one : OneTree Clean s (bl ++ ns) M (-1) [] 0
  nodup : (bl ++ ns).Nodup
  row : wr.ownsRow w0.heap.size 3 1 v ns.length (ns.map fun i => Value.int .i64 (i : Nat))
  off : ∀ b, v.ownBlock = some b → ¬ A.own b
  log : M.log.length ≤ n0 + ns.length
  box : wr.heap[pb]? = some (.cells #[.pointer none] 30 (0, 0))
  safe : Safe wr A pb
theorem MadeSt.fresh {w0 wr w' : World} {A0 A : SA} {M : SM} {bl ns : List Nat} {s n0 : Nat} {v : Value} {pb : Nat} (h : MadeSt w0 A0 A M bl ns s n0 v pb wr) (k : Kept (fun _ => False) wr w') : MadeSt w0 A0 A M bl ns s n0 v pb w' :=
  ⟨h.to.fresh k, h.one, h.nodup, ownsRow.keptOf h.row k (fun _ _ => id), h.off, h.log, k.get h.box id, h.safe.fresh k⟩
theorem page_builds12 : ∀ k : Nat, k < 4 → (∀ w, (Instr.build 35 #[(0, .int .u8 (k : Int))]).run Tryz.prog w = .ok (.agg (blockCells (dataN k).block).toArray) w) ∧
    (∀ w, (Instr.build 115 #[(0, .int .i64 1), (1, .agg (blockCells (dataN k).block).toArray)]).run Tryz.prog w = .ok (.agg (nodeCells (dataN k) (.slice none 0 0)).toArray) w)
  | 0, _ => ⟨fun w => run_build _ _ _ _ (by kernel_rfl), fun w => run_build _ _ _ _ (by kernel_rfl)⟩
  | 1, _ => ⟨fun w => run_build _ _ _ _ (by kernel_rfl), fun w => run_build _ _ _ _ (by kernel_rfl)⟩
  | 2, _ => ⟨fun w => run_build _ _ _ _ (by kernel_rfl), fun w => run_build _ _ _ _ (by kernel_rfl)⟩
  | 3, _ => ⟨fun w => run_build _ _ _ _ (by kernel_rfl), fun w => run_build _ _ _ _ (by kernel_rfl)⟩
  | _ + 4, h => by omega
set_option maxHeartbeats 8000000 in
theorem made12 (w : World) :
    Calls Tryz.prog 48 #[] w fun e w' => ∃ A M ns v, e = .returned (.tuple #[.agg #[.pointer (some ⟨A.sb, 0, none⟩)], v, .bool true]) ∧ StoreAt w' A M ∧ ns.length = 4 ∧ OneTree Clean 240 ns M (-1) [] 0 ∧ ns.Nodup ∧ w'.ownsRow w.heap.size 3 1 v 4 (ns.map fun i => Value.int .i64 (i : Nat)) ∧ (∀ b, v.ownBlock = some b → ¬ A.own b) ∧ M.log.length ≤ 4 ∧ Kept (fun _ => False) w w' ∧ ∀ k, A.own k → w.heap.size ≤ k := by
  obtain ⟨rb, hrb⟩ : ∃ rb, w.heap.size = rb := ⟨_, rfl⟩
  obtain ⟨w1, hw1⟩ : ∃ w1, w.alloc (.cells #[.pointer none] 30) = w1 := ⟨_, rfl⟩
  have k1 := Lib.hid (show Kept (fun _ => False) w w1 by rw [← hw1]; exact (Kept.refl _ _).alloc _)
  have q1 := Lib.hid (show w1.heap[rb]? = some (.cells #[.pointer none] 30 (0, 0)) by rw [← hw1, ← hrb]; exact heap_alloc_new _ _)
  have hrbw : Hid (w.heap.size = rb ∧ w1.heap.size = rb + 1) := Lib.hid ⟨hrb, by rw [← hw1, ← hrb]; simp⟩
  have hw1' := Lib.hid hw1
  have hrb' := Lib.hid hrb
  clear hw1 hrb
  go_enter Tryz.func48, Tryz.ntmps48
  go_wp2_with (first | (refine wpList_alloc_as 30 rfl rfl #[.pointer none] differ_zero ?_; rw [hw1'.out, hrb'.out]))
  refine (diskNew (240 + 4) (by omega) 244 (by decide) _).mono ?_
  rintro e w2 ⟨D, rfl, hD, hDn, hDp, hDo, hk2⟩
  have hD' := Lib.hid hD
  have hDn' := Lib.hid hDn
  have hDp' := Lib.hid hDp
  have hDo' := Lib.hid hDo
  have hk2' := Lib.hid hk2
  clear hD hDn hDp hDo hk2
  go_wp2_with fail
  refine (nodesSize 244 _ (by omega) (by omega)).mono ?_
  rintro e w3 ⟨rfl, rfl⟩
  go_wp2_with fail
  refine (new_any _ _).mono ?_
  rintro e w3 ⟨c, rfl, hnew⟩
  have hP := hnew.pool
  rw [show clampN (max 0 240) = 240 from by decide] at hP
  have hP' := Lib.hid hP
  have hck := hnew.new
  have hk3 := Lib.hid hnew.kept
  clear hnew hP
  go_wp2_with fail
  refine (nodesNew (hD'.out.fresh hk3.out) hP'.out hDp'.out (fun e => by have := hD'.out.lt _ e; omega) (.inr (by rw [hDn'.out]; exact Nat.le_refl _))).mono ?_
  rintro e w4 ⟨A, rfl, hA, hk4, hAo⟩
  have hA' := Lib.hid hA
  have hk14 := Lib.hid (((hk2'.out.trans hk3.out).trans hk4))
  have hAo' : Hid (∀ k, A.own k → w1.heap.size ≤ k) := Lib.hid (fun k hk => by
    rcases hAo k hk with rfl | h | h
    · have := hk2'.out.size; omega
    · exact hDo'.out _ h
    · have := hk2'.out.size; have := hk3.out.size; omega)
  have q4 := Lib.hid (hk14.out.get q1.out id)
  have hsafe : Hid (Safe w4 A rb) := Lib.hid ⟨lt_of_heap q4.out, fun e => by have := hAo'.out rb (.inl e); have := hrbw.out; omega⟩
  clear hA hk4 hAo
  go_wp2_with fail
  have kq : Kept (fun _ => False) w4 (w4.alloc (.cells #[] 3)) := (Kept.refl _ _).alloc _
  have I0 : Hid (∃ A1 M1 ns, ns.length = 0 ∧ MadeSt w4 A A1 M1 [] ns 240 0 (.slice (some ⟨w4.heap.size, 0, none⟩) 0 0) rb (w4.alloc (.cells #[] 3))) := Lib.hid ⟨A, emptyM 240, [], rfl, (StoreTo.refl hA'.out).fresh kq, one_empty (by decide), List.nodup_nil, ?row, ?off, Nat.le_refl _, kq.get q4.out id, hsafe.out.fresh kq⟩
  case row => exact owns_empty w4 w4.heap.size w4.heap.size 3 1 (Nat.le_refl _) rfl
  case off =>
    intro b hb
    simp [Value.ownBlock] at hb
    subst hb
    exact fun e => Nat.lt_irrefl _ (hA'.out.lt e)
  clear kq
  go_loopw [4, 5] (fun v i wr => ∃ (k : Nat), k ≤ 4 ∧ i = .int .i64 k ∧ Hid (∃ A1 M1 ns, ns.length = k ∧ MadeSt w4 A A1 M1 [] ns 240 0 v rb wr)) (fun _ i _ => 4 - (intOf i).toNat)
  case atStart => exact ⟨0, by omega, rfl, I0⟩
  case round =>
    obtain ⟨k, hk, rfl, hI⟩ := hrel
    obtain ⟨A1, M1, ns, hns, St⟩ := hI.out
    obtain ⟨_, Av, cv, rfl, hv1, hv2, _⟩ := SliceAt.of_owns St.row
    unfold maxLen at hv2
    by_cases hlt : k < 4
    · have hki : (k : Int) < 4 := by omega
      obtain ⟨M2, M3, i, e1, e2, one', hni, hlg⟩ := page_more St.one (by simp; omega) St.nodup k (by omega) (by simp; omega)
      have hmk := storeMake (n := dataN k) (sv := .slice none 0 0) St.to.store ⟨sliceNil (by decide), fun _ b hb => by simp [Value.ownBlock] at hb⟩ rfl (dataN_ok k (by omega)).2.2 (by have := St.log; omega)
      rw [e1, St.to.sb] at hmk
      dsimp only at hmk
      obtain ⟨hb1, hb2⟩ := page_builds12 k hlt
      obtain ⟨B, hB⟩ : ∃ B, blockCells (dataN k).block = B := ⟨_, rfl⟩
      obtain ⟨C, hC⟩ : ∃ C, nodeCells (dataN k) (.slice none 0 0) = C := ⟨_, rfl⟩
      rw [hB] at hb1 hb2
      rw [hC] at hb2 hmk
      have hmk' := Lib.hid hmk
      have hb1' := Lib.hid hb1
      have hb2' := Lib.hid hb2
      have hu8 : IntKind.u8.wrap (k : Int) = (k : Int) := by rw [IntKind.wrap_u8]; omega
      have St' := Lib.hid St
      have one2 := Lib.hid one'
      have hns' := Lib.hid hns
      have hlg' := Lib.hid hlg
      have hni' := Lib.hid hni
      have e2' := Lib.hid e2
      clear hmk hb1 hb2 hB hC St one' hns hlg hni e1 e2 hI
      go_wp2_with (first | (refine wpList_exec rfl (exec_build 35 #[(0, .tmp 23)] _ rfl (by simp [Act.eval, Act.put]) (hb1'.out _)) ?_) | (refine wpList_exec rfl (exec_build 115 #[(0, .const (.int .i64 1)), (1, .tmp 24)] _ rfl (by simp [Act.eval, Act.put]) (hb2'.out _)) ?_))
      refine hmk'.out.mono ?_
      rintro e w5 ⟨A5, rfl, hT5⟩
      have T5 := Lib.hid hT5
      have hh := storeHold hT5.store (i : Int)
      rw [e2'.out, hT5.sb, St'.out.to.sb] at hh
      dsimp only at hh
      have hh' := Lib.hid hh
      clear hT5 hh
      go_wp2_with fail
      refine hh'.out.mono ?_
      rintro e w6 ⟨rfl, hT6⟩
      have T56 := Lib.hid (T5.out.trans hT6)
      have row6 := Lib.hid (ownsRow.keptOf St'.out.row T56.out.kept (fun b hb e => St'.out.off b hb (.inl e)))
      have kA : Hid (Kept (fun _ => False) w6 (w6.alloc (.cells #[.int .i64 (i : Int)] 3))) := Lib.hid ((Kept.refl _ _).alloc _)
      have R5 := Lib.hid (ownsRow.keptOf row6.out kA.out (fun _ _ => id))
      have hsz5 : Hid (w4.heap.size ≤ (w6.alloc (.cells #[.int .i64 (i : Int)] 3)).heap.size) := Lib.hid (Nat.le_trans (Nat.le_trans St'.out.to.kept.size T56.out.kept.size) kA.out.size)
      have hnl : ns.length ≤ 4 := by have := hns'.out; omega
      clear hT6
      go_wp2_with (at_builtin; refine wpList_append_src rfl elemInt (.tmp 38) (.tmp 40) rfl (by rfl) (by rfl) R5.out (SliceAt.block_new (ys := [.int .i64 (i : Int)]) (m := 1) (heap_alloc_new _ _) (by rfl) (by decide)) (by intro c hc; simp at hc; subst hc; rfl) (by omega) (by omega) hsz5.out ?_; intro v2 w10 hown10 hg10 hat10)
      have fin : Hid (∃ A1 M1 ns, ns.length = k + 1 ∧ MadeSt w4 A A1 M1 [] ns 240 0 v2 rb w10) := Lib.hid (by
        have hoff5 : ∀ b, (Value.slice Av ns.length cv).ownBlock = some b → ¬ A5.own b := fun b hb e => (own_to12 T56.out e).elim (St'.out.off b hb) fun h1 => by
          have := (St'.out.row.lt b hb).2
          omega
        have kg := Kept.of_grown hg10
        have S10 : StoreAt w10 A5 M3 := (T56.out.store.fresh kA.out).kept kg (fun j hj e => hoff5 j e hj)
        have T := St'.out.to.trans T56.out
        have k610 := (kA.out.mono (S' := fun j => (Value.slice Av ns.length cv).ownBlock = some j) (fun _ => False.elim)).trans kg
        have hrb1 : rb < w4.heap.size := hsafe.out.lt
        refine ⟨A5, M3, ns ++ [i], by rw [List.length_append, hns'.out]; rfl, ⟨S10, T.kept.trans_new k610 (fun j hj e => absurd hj (Nat.not_lt.2 (St'.out.row.lt j e).1)), fun j hj => (T.foot j hj), T.sb, T.fix⟩, by rw [← List.append_assoc]; exact one2.out, ?_, ?_, fun b hb => ?_, ?_, ?_, ?_⟩
        · rw [← List.append_assoc, List.nodup_append]
          exact ⟨St'.out.nodup, (by simp), fun a ha b hb e => by rw [List.mem_singleton.1 hb] at e; exact hni'.out (e ▸ ha)⟩
        · rw [List.length_append, List.map_append]
          exact hown10
        · rcases hat10 with e | e
          · exact hoff5 b (e ▸ hb)
          · rw [hb] at e
            have e' := Option.some.inj e
            exact fun h1 => by have := (T56.out.store.fresh kA.out).lt h1; omega
        · have h1 := St'.out.log
          have h2 := hlg'.out
          rw [List.length_append, List.length_singleton]
          omega
        · exact k610.get (T56.out.get St'.out.box St'.out.safe) (fun e => absurd hrb1 (Nat.not_lt.2 (St'.out.row.lt rb e).1))
        · exact ⟨Nat.lt_of_lt_of_le (St'.out.safe.to T56.out).lt k610.size, (St'.out.safe.to T56.out).off⟩)
      clear hown10 hg10 hat10
      go_wp2_with fail
      go_roundw
      case rel => exact ⟨k + 1, by omega, by go_num, fin⟩
      case measure => simp [intOf]; omega
    · obtain rfl : k = 4 := by omega
      obtain ⟨v, hv⟩ : ∃ v, (Value.slice Av ns.length cv) = v := ⟨_, rfl⟩
      have hk4 := Lib.hid ((k1.out.trans hk14.out).trans_new St.to.kept (fun i hi e => by have h1 := hAo'.out i (.inl e); have := hrbw.out; omega))
      have hrbn : ¬ A1.own rb := fun e => (own_to12 St.to e).elim (fun e => by have := hAo'.out rb e; have := hrbw.out; omega) (fun e => by have := lt_of_heap q4.out; omega)
      have hgt : w1.heap.size ≤ w4.heap.size := hk14.out.size
      have fin : Hid (StoreAt wr A1 M1 ∧ ns.length = 4 ∧ OneTree Clean 240 ns M1 (-1) [] 0 ∧ ns.Nodup ∧ wr.ownsRow w.heap.size 3 1 v 4 (ns.map fun i => Value.int .i64 (i : Nat)) ∧ (∀ b, v.ownBlock = some b → ¬ A1.own b ∧ b ≠ rb) ∧ M1.log.length ≤ 4 ∧ ∀ k, A1.own k → w1.heap.size ≤ k) := Lib.hid ⟨St.to.store, hns, St.one, St.nodup, by
        have h1 := owns_weaken St.row (show w.heap.size ≤ w4.heap.size by have := hrbw.out; omega)
        rw [hns] at h1
        rw [← hv, hns]
        exact h1, fun b hb => ⟨by rw [← hv] at hb; exact St.off b hb, fun e => by rw [← hv] at hb; have := (St.row.lt b hb).1; have := lt_of_heap q4.out; omega⟩, by have := St.log; omega, fun k hk => (own_to12 St.to hk).elim (hAo'.out k) (fun e => by omega)⟩
      have hsb := St.to.sb
      have qr := Lib.hid St.box
      have hrbn' := Lib.hid hrbn
      rw [hv, ← hsb]
      clear St hI hrbn hsb hv
      go_wp2_with (first | (refine wpList_exec rfl (exec_build 26 #[(0, .tmp 42)] _ rfl (by simp [Act.eval, Act.put]) (run_build _ _ _ _ (by kernel_rfl))) ?_) | (refine wpList_exec rfl (exec_build 28 #[(0, .tmp 43)] _ rfl (by simp [Act.eval, Act.put]) (run_build _ _ _ _ (by kernel_rfl))) ?_) | (refine wpList_exec rfl (exec_build 30 #[(0, .tmp 44)] _ rfl (by simp [Act.eval, Act.put]) (run_build _ _ _ _ (by kernel_rfl))) ?_) | (refine wpList_store_whole 30 rfl rfl rfl [.pointer (some ⟨A1.sb, 0, none⟩)] rfl differ_size 30 #[.pointer none] qr.out rfl (by intro c hc; simp at hc; subst hc; rfl) ?_))
      refine bodyPost_ret (results_row_tmp2 rfl _ _ rb 30 #[.pointer (some ⟨A1.sb, 0, none⟩)] (0, 0) _ rfl (setRow_heap _ _ _ _ 30 (0, 0) qr.out) Tryz.underlying30 rfl differ_size) rfl ?_
      obtain ⟨f1, f2, f3, f4, f5, f6, f7, f8⟩ := fin.out
      have kS := Kept.setRow (S := fun i => i = rb) (Kept.refl _ wr) rfl #[.pointer (some ⟨A1.sb, 0, none⟩)]
      exact ⟨A1, M1, ns, v, rfl, f1.kept kS (fun i hi e => hrbn'.out (e ▸ hi)), f2, f3, f4, ownsRow.keptOf f5 kS (fun b hb e => (f6 b hb).2 e), fun b hb => (f6 b hb).1, f7, hk4.out.setRowNew (by have := hrbw.out; omega) _, fun k hk => by have h1 := f8 k hk; have := hrbw.out; omega⟩
end Go.Proofs.YtidlchciehdefaaGreat
/-
  Layer 10's laws: the chapter's example.
-/
namespace Go.Proofs.YtidlchciehdefaaGreat
open Go.RowKit
set_option maxRecDepth 100000

/-- A store that is a call's own. -/
structure OwnStore (w : World) (A : SA) (M : SM) (wr : World) : Prop where
  store : StoreAt wr A M
  kept : Kept (fun _ => False) w wr
  new : ∀ k, A.own k → w.heap.size ≤ k
theorem OwnStore.fresh {w wr w' : World} {A : SA} {M : SM} (h : OwnStore w A M wr) (k : Kept (fun _ => False) wr w') : OwnStore w A M w' := ⟨h.store.fresh k, h.kept.trans k, h.new⟩
theorem OwnStore.to {w wr w' : World} {A A' : SA} {M M' : SM} (h : OwnStore w A M wr) (k : StoreTo A A' M' wr w') : OwnStore w A' M' w' := by
  refine ⟨k.store, h.kept.trans_new k.kept (fun i hi e => by have := h.new _ (.inl e); omega), fun j hj => ?_⟩
  have hsz := h.kept.size
  rcases hj with hj | hj | hj
  · rcases k.foot j hj with e | e
    · exact h.new _ (.inl e)
    · omega
  · rw [k.fix.2] at hj; exact h.new _ (.inr (.inl hj))
  · rw [k.fix.1] at hj; exact h.new _ (.inr (.inr hj))
end Go.Proofs.YtidlchciehdefaaGreat
/-
  Entries that are written out.
-/
namespace Go.Proofs.YtidlchciehdefaaGreat
open Go.RowKit
set_option maxRecDepth 100000

/-- Entries that are written out. -/
theorem ents_new {w : World} {A : SA} {M : SM} (h : StoreAt w A M) (l : List (Int × Int)) (hl : l.length ≤ 1000) : StoreAt (w.alloc (.cells (entCells l).toArray 86)) A M ∧ EntsOff (w.alloc (.cells (entCells l).toArray 86)) A (.slice (some ⟨w.heap.size, 0, none⟩) l.length l.length) l := by
  refine ⟨h.fresh ((Kept.refl _ _).alloc _), SliceAt.block_new (heap_alloc_new _ _) (entCells_len _) (by unfold maxLen; omega), fun _ b hb => ?_⟩
  simp [Value.ownBlock] at hb
  subst hb
  exact ⟨by simp, fun e => Nat.lt_irrefl _ (h.lt (.inl e))⟩
end Go.Proofs.YtidlchciehdefaaGreat
/-
  The document's answer: are two lists of entries the same?
-/
namespace Go.Proofs.YtidlchciehdefaaGreat
open Go.RowKit
set_option maxRecDepth 100000

end Go.Proofs.YtidlchciehdefaaGreat
