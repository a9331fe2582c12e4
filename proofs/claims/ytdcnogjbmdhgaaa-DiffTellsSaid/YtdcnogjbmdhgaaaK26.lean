/-
 understudylaw12.made: a store with four blocks.
-/
import Derived.Test.YtdcnogjbmdhgaaaK16
import Derived.Test.YtdcnogjbmdhgaaaK22
import Derived.Test.YtdcnogjbmdhgaaaK23
import Derived.Test.YtdcnogjbmdhgaaaK25
set_option linter.unusedVariables false
set_option linter.unusedSimpArgs false
namespace Go.Proofs.Ytdcnogjbmdhgaaa
open Go.RowKit
set_option maxRecDepth 100000

theorem own_to12 {A A' : SA} {M' : SM} {W w' : World} (k : StoreTo A A' M' W w') {j : Nat} (hj : A'.own j) : A.own j ∨ W.heap.size ≤ j := by
 rcases hj with hj | hj | hj
 ·exact (k.foot j hj).imp .inl id
 ·rw [k.fix.2] at hj; exact .inl (.inr (.inl hj))
 ·rw [k.fix.1] at hj; exact .inl (.inr (.inr hj))
def emptyM (s : Nat) : SM := ⟨PM.fresh0 s, []⟩
theorem empty_live (s q : Nat) : (emptyM s).live q = false := by
 unfold emptyM SM.live PM.live PM.fresh0
 simp
theorem one_empty {s : Nat} (h : s ≤ 240) : OneTree Clean s [] (emptyM s) (-1) [] 0 := by
 refine ⟨⟨h, fun p => Nat.zero_le _, fun p hp => ?_, fun q hq => ?_, fun q hq => ?_, fun _ => 0, fun q hq => ?_⟩, rfl, fun q => ?_, (fun b hb => by cases hb), ⟨List.Pairwise.nil, (fun y hy => by cases hy)⟩, .inl ⟨rfl, rfl⟩, fun q hq => ?_⟩
 ·have hr : (emptyM s).refs p = 0 := sumN_zero fun q _ => by rw [empty_live]; rfl
  rw [hr]
  unfold extB
  rw [if_neg (by omega)]
  rfl
 ·rw [empty_live] at hq; cases hq
 ·rw [empty_live] at hq; cases hq
 ·rw [empty_live] at hq; cases hq
 ·unfold emptyM PM.fresh0
  simp
 ·rw [empty_live] at hq; cases hq
theorem differ_zero : (Try.prog.info? 31).map (·.zero) = some (some (.agg #[.pointer none])) := by kernel_rfl
theorem differ_size : (Try.prog.info? 31).map (·.size) = some 1 := by kernel_rfl
structure MadeSt (w0 : World) (A0 A : SA) (M : SM) (bl ns : List Nat) (s n0 : Nat) (v : Value) (pb : Nat) (wr : World) : Prop where
 to : StoreTo A0 A M w0 wr
 one : OneTree Clean s (bl ++ ns) M (-1) [] 0
 nodup : (bl ++ ns).Nodup
 row : wr.ownsRow w0.heap.size 3 1 v ns.length (ns.map fun i => Value.int .i64 (i : Nat))
 off : ∀ b, v.ownBlock = some b → ¬ A.own b
 log : M.log.length ≤ n0 + ns.length
 box : wr.heap[pb]? = some (.cells #[.pointer none] 31 (0, 0))
 safe : Safe wr A pb
theorem page_builds12 : ∀ k : Nat, k < 4 → (∀ w, (Instr.build 69 #[(0, .int .u8 (k : Int))]).run Try.prog w = .ok (.agg (blockCells (dataN k).block).toArray) w) ∧
  (∀ w, (Instr.build 71 #[(0, .int .i64 1), (1, .agg (blockCells (dataN k).block).toArray)]).run Try.prog w = .ok (.agg (nodeCells (dataN k) (.slice none 0 0)).toArray) w)
 | 0, _ => ⟨fun w => run_build _ _ _ _ (by kernel_rfl), fun w => run_build _ _ _ _ (by kernel_rfl)⟩
 | 1, _ => ⟨fun w => run_build _ _ _ _ (by kernel_rfl), fun w => run_build _ _ _ _ (by kernel_rfl)⟩
 | 2, _ => ⟨fun w => run_build _ _ _ _ (by kernel_rfl), fun w => run_build _ _ _ _ (by kernel_rfl)⟩
 | 3, _ => ⟨fun w => run_build _ _ _ _ (by kernel_rfl), fun w => run_build _ _ _ _ (by kernel_rfl)⟩
 | _ + 4, h => by omega
set_option maxHeartbeats 8000000 in
theorem made12 (w : World) :
  Calls Try.prog 6 #[] w fun e w' => ∃ A M ns v, e = .returned (.tuple #[.agg #[.pointer (some ⟨A.sb, 0, none⟩)], v, .bool true]) ∧ StoreAt w' A M ∧ ns.length = 4 ∧ OneTree Clean 240 ns M (-1) [] 0 ∧ ns.Nodup ∧ w'.ownsRow w.heap.size 3 1 v 4 (ns.map fun i => Value.int .i64 (i : Nat)) ∧ (∀ b, v.ownBlock = some b → ¬ A.own b) ∧ M.log.length ≤ 4 ∧ Kept (fun _ => False) w w' ∧ ∀ k, A.own k → w.heap.size ≤ k := by
 obtain ⟨rb, hrb⟩ : ∃ rb, w.heap.size = rb := ⟨_, rfl⟩
 obtain ⟨w1, hw1⟩ : ∃ w1, w.alloc (.cells #[.pointer none] 31) = w1 := ⟨_, rfl⟩
 have k1 := h_ (show Kept (fun _ => False) w w1 by rw [← hw1]; exact (Kept.refl _ _).alloc _)
 have q1 := h_ (show w1.heap[rb]? = some (.cells #[.pointer none] 31 (0, 0)) by rw [← hw1, ← hrb]; exact heap_alloc_new _ _)
 have hrbw : Hid (w.heap.size = rb ∧ w1.heap.size = rb + 1) := h_ ⟨hrb, by rw [← hw1, ← hrb]; simp⟩
 have hw1' := h_ hw1
 have hrb' := h_ hrb
 clear hw1 hrb
 go_enter Try.func6, Try.ntmps6
 go_wp2_with (first | (refine wpList_alloc_as 31 rfl rfl #[.pointer none] differ_zero ?_; rw [hw1'.out, hrb'.out]))
 refine (diskNew (240 + 4) (by omega) 244 (by decide) _).mono ?_
 rintro e w2 ⟨D, rfl, hD, hDn, hDp, hDo, hk2⟩
 have hD' := h_ hD
 have hDn' := h_ hDn
 have hDp' := h_ hDp
 have hDo' := h_ hDo
 have hk2' := h_ hk2
 clear hD hDn hDp hDo hk2
 go_wp2_with fail
 refine (nodesSize 244 _ (by omega) (by omega)).mono ?_
 rintro e w3 ⟨rfl, rfl⟩
 go_wp2_with fail
 refine (new_any _ _).mono ?_
 rintro e w3 ⟨c, rfl, hnew⟩
 have hP := hnew.pool
 rw [show clampN (max 0 240) = 240 from by decide] at hP
 have hP' := h_ hP
 have hck := hnew.new
 have hk3 := h_ hnew.kept
 clear hnew hP
 go_wp2_with fail
 refine (nodesNew (hD'.out.fresh hk3.out) hP'.out hDp'.out (fun e => by have := hD'.out.lt _ e; omega) (.inr (by rw [hDn'.out]; exact Nat.le_refl _))).mono ?_
 rintro e w4 ⟨A, rfl, hA, hk4, hAo⟩
 have hA' := h_ hA
 have hk14 := h_ (((hk2'.out.trans hk3.out).trans hk4))
 have hAo' : Hid (∀ k, A.own k → w1.heap.size ≤ k) := h_ (fun k hk => by
  rcases hAo k hk with rfl | h | h
  ·have := hk2'.out.size; omega
  ·exact hDo'.out _ h
  ·have := hk2'.out.size; have := hk3.out.size; omega)
 have q4 := h_ (hk14.out.get q1.out id)
 have hsafe : Hid (Safe w4 A rb) := h_ ⟨lt_of_heap q4.out, fun e => by have := hAo'.out rb (.inl e); have := hrbw.out; omega⟩
 clear hA hk4 hAo
 go_wp2_with fail
 have kq : Kept (fun _ => False) w4 (w4.alloc (.cells #[] 3)) := (Kept.refl _ _).alloc _
 have I0 : Hid (∃ A1 M1 ns, ns.length = 0 ∧ MadeSt w4 A A1 M1 [] ns 240 0 (.slice (some ⟨w4.heap.size, 0, none⟩) 0 0) rb (w4.alloc (.cells #[] 3))) := h_ ⟨A, emptyM 240, [], rfl, (StoreTo.refl hA'.out).fresh kq, one_empty (by decide), List.nodup_nil, ?row, ?off, Nat.le_refl _, kq.get q4.out id, hsafe.out.fresh kq⟩
 case row => exact owns_empty w4 w4.heap.size w4.heap.size 3 1 (Nat.le_refl _) rfl
 case off =>
  intro b hb
  simp [Value.ownBlock] at hb
  subst hb
  exact fun e => Nat.lt_irrefl _ (hA'.out.lt e)
 clear kq
 go_loopw [4, 5] (fun v i wr => ∃ (k : Nat), k ≤ 4 ∧ i = .int .i64 k ∧ Hid (∃ A1 M1 ns, ns.length = k ∧ MadeSt w4 A A1 M1 [] ns 240 0 v rb wr)) (fun _ i _ => 4 - (intOf i).toNat)
 case atStart => exact ⟨0, by omega, rfl, I0⟩
 case round =>
  obtain ⟨k, hk, rfl, hI⟩ := hrel
  obtain ⟨A1, M1, ns, hns, St⟩ := hI.out
  obtain ⟨_, Av, cv, rfl, hv1, hv2, _⟩ := SliceAt.of_owns St.row
  unfold maxLen at hv2
  by_cases hlt : k < 4
  ·have hki : (k : Int) < 4 := by omega
   obtain ⟨M2, M3, i, e1, e2, one', hni, hlg⟩ := page_more St.one (by simp; omega) St.nodup k (by omega) (by simp; omega)
   have hmk := storeMake (n := dataN k) (sv := .slice none 0 0) St.to.store ⟨sliceNil (by decide), fun _ b hb => by simp [Value.ownBlock] at hb⟩ rfl (dataN_ok k (by omega)).2.2 (by have := St.log; omega)
   rw [e1, St.to.sb] at hmk
   dsimp only at hmk
   obtain ⟨hb1, hb2⟩ := page_builds12 k hlt
   obtain ⟨B, hB⟩ : ∃ B, blockCells (dataN k).block = B := ⟨_, rfl⟩
   obtain ⟨C, hC⟩ : ∃ C, nodeCells (dataN k) (.slice none 0 0) = C := ⟨_, rfl⟩
   rw [hB] at hb1 hb2
   rw [hC] at hb2 hmk
   have hmk' := h_ hmk
   have hb1' := h_ hb1
   have hb2' := h_ hb2
   have hu8 : IntKind.u8.wrap (k : Int) = (k : Int) := by rw [IntKind.wrap_u8]; omega
   have St' := h_ St
   have one2 := h_ one'
   have hns' := h_ hns
   have hlg' := h_ hlg
   have hni' := h_ hni
   have e2' := h_ e2
   clear hmk hb1 hb2 hB hC St one' hns hlg hni e1 e2 hI
   go_wp2_with (first | (refine wpList_exec rfl (exec_build 69 #[(0, .tmp 23)] _ rfl (by simp [Act.eval, Act.put]) (hb1'.out _)) ?_) | (refine wpList_exec rfl (exec_build 71 #[(0, .const (.int .i64 1)), (1, .tmp 24)] _ rfl (by simp [Act.eval, Act.put]) (hb2'.out _)) ?_))
   refine hmk'.out.mono ?_
   rintro e w5 ⟨A5, rfl, hT5⟩
   have T5 := h_ hT5
   have hh := storeHold hT5.store (i : Int)
   rw [e2'.out, hT5.sb, St'.out.to.sb] at hh
   dsimp only at hh
   have hh' := h_ hh
   clear hT5 hh
   go_wp2_with fail
   refine hh'.out.mono ?_
   rintro e w6 ⟨rfl, hT6⟩
   have T56 := h_ (T5.out.trans hT6)
   have row6 := h_ (ownsRow.keptOf St'.out.row T56.out.kept (fun b hb e => St'.out.off b hb (.inl e)))
   have kA : Hid (Kept (fun _ => False) w6 (w6.alloc (.cells #[.int .i64 (i : Int)] 3))) := h_ ((Kept.refl _ _).alloc _)
   have R5 := h_ (ownsRow.keptOf row6.out kA.out (fun _ _ => id))
   have hsz5 : Hid (w4.heap.size ≤ (w6.alloc (.cells #[.int .i64 (i : Int)] 3)).heap.size) := h_ (Nat.le_trans (Nat.le_trans St'.out.to.kept.size T56.out.kept.size) kA.out.size)
   have hnl : ns.length ≤ 4 := by have := hns'.out; omega
   clear hT6
   go_wp2_with (at_builtin; refine wpList_append_src rfl elemInt (.tmp 38) (.tmp 40) rfl (by rfl) (by rfl) R5.out (SliceAt.block_new (ys := [.int .i64 (i : Int)]) (m := 1) (heap_alloc_new _ _) (by rfl) (by decide)) (by intro c hc; simp at hc; subst hc; rfl) (by omega) (by omega) hsz5.out ?_; intro v2 w10 hown10 hg10 hat10)
   have fin : Hid (∃ A1 M1 ns, ns.length = k + 1 ∧ MadeSt w4 A A1 M1 [] ns 240 0 v2 rb w10) := h_ (by
    have hoff5 : ∀ b, (Value.slice Av ns.length cv).ownBlock = some b → ¬ A5.own b := fun b hb e => (own_to12 T56.out e).elim (St'.out.off b hb) fun h1 => by
     have := (St'.out.row.lt b hb).2
     omega
    have kg := Kept.of_grown hg10
    have S10 : StoreAt w10 A5 M3 := (T56.out.store.fresh kA.out).kept kg (fun j hj e => hoff5 j e hj)
    have T := St'.out.to.trans T56.out
    have k610 := (kA.out.mono (S' := fun j => (Value.slice Av ns.length cv).ownBlock = some j) (fun _ => False.elim)).trans kg
    have hrb1 : rb < w4.heap.size := hsafe.out.lt
    refine ⟨A5, M3, ns ++ [i], by rw [List.length_append, hns'.out]; rfl, ⟨S10, T.kept.trans_new k610 (fun j hj e => absurd hj (Nat.not_lt.2 (St'.out.row.lt j e).1)), fun j hj => (T.foot j hj), T.sb, T.fix⟩, by rw [← List.append_assoc]; exact one2.out, ?_, ?_, fun b hb => ?_, ?_, ?_, ?_⟩
    ·rw [← List.append_assoc, List.nodup_append]
     exact ⟨St'.out.nodup, (by simp), fun a ha b hb e => by rw [List.mem_singleton.1 hb] at e; exact hni'.out (e ▸ ha)⟩
    ·rw [List.length_append, List.map_append]
     exact hown10
    ·rcases hat10 with e | e
     ·exact hoff5 b (e ▸ hb)
     ·rw [hb] at e
      have e' := Option.some.inj e
      exact fun h1 => by have := (T56.out.store.fresh kA.out).lt h1; omega
    ·have h1 := St'.out.log
     have h2 := hlg'.out
     rw [List.length_append, List.length_singleton]
     omega
    ·exact k610.get (T56.out.get St'.out.box St'.out.safe) (fun e => absurd hrb1 (Nat.not_lt.2 (St'.out.row.lt rb e).1))
    ·exact ⟨Nat.lt_of_lt_of_le (St'.out.safe.to T56.out).lt k610.size, (St'.out.safe.to T56.out).off⟩)
   clear hown10 hg10 hat10
   go_wp2_with fail
   go_roundw
   case rel => exact ⟨k + 1, by omega, by go_num, fin⟩
   case measure => simp [intOf]; omega
  ·obtain rfl : k = 4 := by omega
   obtain ⟨v, hv⟩ : ∃ v, (Value.slice Av ns.length cv) = v := ⟨_, rfl⟩
   have hk4 := h_ ((k1.out.trans hk14.out).trans_new St.to.kept (fun i hi e => by have h1 := hAo'.out i (.inl e); have := hrbw.out; omega))
   have hrbn : ¬ A1.own rb := fun e => (own_to12 St.to e).elim (fun e => by have := hAo'.out rb e; have := hrbw.out; omega) (fun e => by have := lt_of_heap q4.out; omega)
   have hgt : w1.heap.size ≤ w4.heap.size := hk14.out.size
   have fin : Hid (StoreAt wr A1 M1 ∧ ns.length = 4 ∧ OneTree Clean 240 ns M1 (-1) [] 0 ∧ ns.Nodup ∧ wr.ownsRow w.heap.size 3 1 v 4 (ns.map fun i => Value.int .i64 (i : Nat)) ∧ (∀ b, v.ownBlock = some b → ¬ A1.own b ∧ b ≠ rb) ∧ M1.log.length ≤ 4 ∧ ∀ k, A1.own k → w1.heap.size ≤ k) := h_ ⟨St.to.store, hns, St.one, St.nodup, by
    have h1 := owns_weaken St.row (show w.heap.size ≤ w4.heap.size by have := hrbw.out; omega)
    rw [hns] at h1
    rw [← hv, hns]
    exact h1, fun b hb => ⟨by rw [← hv] at hb; exact St.off b hb, fun e => by rw [← hv] at hb; have := (St.row.lt b hb).1; have := lt_of_heap q4.out; omega⟩, by have := St.log; omega, fun k hk => (own_to12 St.to hk).elim (hAo'.out k) (fun e => by omega)⟩
   have hsb := St.to.sb
   have qr := h_ St.box
   have hrbn' := h_ hrbn
   rw [hv, ← hsb]
   clear St hI hrbn hsb hv
   go_wp2_with (first | (refine wpList_exec rfl (exec_build 27 #[(0, .tmp 42)] _ rfl (by simp [Act.eval, Act.put]) (run_build _ _ _ _ (by kernel_rfl))) ?_) | (refine wpList_exec rfl (exec_build 29 #[(0, .tmp 43)] _ rfl (by simp [Act.eval, Act.put]) (run_build _ _ _ _ (by kernel_rfl))) ?_) | (refine wpList_exec rfl (exec_build 31 #[(0, .tmp 44)] _ rfl (by simp [Act.eval, Act.put]) (run_build _ _ _ _ (by kernel_rfl))) ?_) | (refine wpList_store_whole 31 rfl rfl rfl [.pointer (some ⟨A1.sb, 0, none⟩)] rfl differ_size 31 #[.pointer none] qr.out rfl (by intro c hc; simp at hc; subst hc; rfl) ?_))
   refine bodyPost_ret (results_row_tmp2 rfl _ _ rb 31 #[.pointer (some ⟨A1.sb, 0, none⟩)] (0, 0) _ rfl (setRow_heap _ _ _ _ 31 (0, 0) qr.out) Try.underlying31 rfl differ_size) rfl ?_
   obtain ⟨f1, f2, f3, f4, f5, f6, f7, f8⟩ := fin.out
   have kS := Kept.setRow (S := fun i => i = rb) (Kept.refl _ wr) rfl #[.pointer (some ⟨A1.sb, 0, none⟩)]
   exact ⟨A1, M1, ns, v, rfl, f1.kept kS (fun i hi e => hrbn'.out (e ▸ hi)), f2, f3, f4, ownsRow.keptOf f5 kS (fun b hb e => (f6 b hb).2 e), fun b hb => (f6 b hb).1, f7, hk4.out.setRowNew (by have := hrbw.out; omega) _, fun k hk => by have h1 := f8 k hk; have := hrbw.out; omega⟩

structure ApartS (wr : World) (A : SA) (b : Nat) : Prop where
 lt : b < wr.heap.size
 off : ¬ A.own b
theorem own_toS {A A' : SA} {M' : SM} {W w' : World} (k : StoreTo A A' M' W w') {j : Nat} (hj : A'.own j) : A.own j ∨ W.heap.size ≤ j := by
 rcases hj with hj | hj | hj
 ·exact (k.foot j hj).imp .inl id
 ·rw [k.fix.2] at hj; exact .inl (.inr (.inl hj))
 ·rw [k.fix.1] at hj; exact .inl (.inr (.inr hj))
theorem ApartS.fresh {wr w' : World} {A : SA} {b : Nat} (h : ApartS wr A b) (k : Kept (fun _ => False) wr w') : ApartS w' A b := ⟨Nat.lt_of_lt_of_le h.lt k.size, h.off⟩
theorem ApartS.to {wr w' : World} {A A' : SA} {M' : SM} {b : Nat} (h : ApartS wr A b) (k : StoreTo A A' M' wr w') : ApartS w' A' b := ⟨Nat.lt_of_lt_of_le h.lt k.kept.size, fun e => (own_toS k e).elim h.off (fun e => by have := h.lt; omega)⟩
theorem ApartS.safe {wr : World} {A : SA} {b : Nat} (h : ApartS wr A b) : Safe wr A b := ⟨h.lt, fun e => h.off (.inl e)⟩
theorem cutF_logZ (M : SM) (key : Int) : ∀ (f : Nat) (r : Int), (SM.cutF f M r key).1.log.length ≤ M.log.length + 2 * f
 | 0, _ => by simp [SM.cutF]
 | f + 1, r => by
  have ih := cutF_logZ M key f ((M.tnode r (8 - f)).1.ents.getD (atI (M.tnode r (8 - f)).1.ents key).toNat (0, 0)).2
  unfold SM.cutF
  dsimp only
  split
  ·dsimp only; omega
  ·split
   ·split <;> (dsimp only; omega)
   ·obtain ⟨C, hC⟩ : ∃ C, SM.cutF f M ((M.tnode r (8 - f)).1.ents.getD (atI (M.tnode r (8 - f)).1.ents key).toNat (0, 0)).2 key = C := ⟨_, rfl⟩
    rw [hC] at ih ⊢
    have h := (split_bound C.1 (C.1.join (M.tnode r (8 - f)).1 C.2.1 (atI (M.tnode r (8 - f)).1.ents key).toNat (8 - f)).1).1
    split
    ·dsimp only; omega
    ·split
     ·split <;> (dsimp only; omega)
     ·dsimp only; omega
theorem cut_logZ (M : SM) (root key : Int) : (M.cut root key).1.log.length ≤ M.log.length + 20 := by
 have h1 := cutF_logZ M key 9 root
 have h2 := (split_bound (SM.cutF 9 M root key).1 (SM.cutF 9 M root key).2.1).1
 unfold SM.cut
 split
 ·dsimp only; omega
 ·split
  ·dsimp only; omega
  ·dsimp only
   split
   ·dsimp only; omega
   ·split
    ·dsimp only; omega
    ·split
     ·dsimp only; omega
     ·split <;> (dsimp only; omega)

structure OwnStore (w : World) (A : SA) (M : SM) (wr : World) : Prop where
 store : StoreAt wr A M
 kept : Kept (fun _ => False) w wr
 new : ∀ k, A.own k → w.heap.size ≤ k
theorem OwnStore.fresh {w wr w' : World} {A : SA} {M : SM} (h : OwnStore w A M wr) (k : Kept (fun _ => False) wr w') : OwnStore w A M w' := ⟨h.store.fresh k, h.kept.trans k, h.new⟩
theorem OwnStore.to {w wr w' : World} {A A' : SA} {M M' : SM} (h : OwnStore w A M wr) (k : StoreTo A A' M' wr w') : OwnStore w A' M' w' := by
 refine ⟨k.store, h.kept.trans_new k.kept (fun i hi e => by have := h.new _ (.inl e); omega), fun j hj => ?_⟩
 have hsz := h.kept.size
 rcases hj with hj | hj | hj
 ·rcases k.foot j hj with e | e
  ·exact h.new _ (.inl e)
  ·omega
 ·rw [k.fix.2] at hj; exact h.new _ (.inr (.inl hj))
 ·rw [k.fix.1] at hj; exact h.new _ (.inr (.inr hj))

theorem ents_new {w : World} {A : SA} {M : SM} (h : StoreAt w A M) (l : List (Int × Int)) (hl : l.length ≤ 1000) : StoreAt (w.alloc (.cells (entCells l).toArray 58)) A M ∧ EntsOff (w.alloc (.cells (entCells l).toArray 58)) A (.slice (some ⟨w.heap.size, 0, none⟩) l.length l.length) l := by
 refine ⟨h.fresh ((Kept.refl _ _).alloc _), SliceAt.block_new (heap_alloc_new _ _) (entCells_len _) (by unfold maxLen; omega), fun _ b hb => ?_⟩
 simp [Value.ownBlock] at hb
 subst hb
 exact ⟨by simp, fun e => Nat.lt_irrefl _ (h.lt (.inl e))⟩

end Go.Proofs.Ytdcnogjbmdhgaaa
