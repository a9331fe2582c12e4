/-
 Layer 17, plain: which keys were seen.
-/
import Derived.Test.YtidlchciehdefaaGreatK37
import Derived.Test.YtidlchciehdefaaGreatK38
set_option linter.unusedVariables false
set_option linter.unusedSimpArgs false
namespace Go.Proofs.YtidlchciehdefaaGreat
open Go.RowKit
set_option maxRecDepth 100000

def AscK (T : List ItemM) : Prop := T.Pairwise fun x y => x.key < y.key
theorem lead_asc (wb : Int → List Nat) (la lb : List (Int × Int)) : AscK (itemsOf wb (changesL la lb)) := by
 unfold AscK itemsOf changesL
 refine List.Pairwise.map _ (fun a b (h : a.1 < b.1) => h) ?_
 refine List.Pairwise.filterMap _ (fun a a' h b hb b' hb' => ?_) List.pairwise_lt_range
 split at hb
 ·cases hb
 ·split at hb'
  ·cases hb'
  ·cases hb
   cases hb'
   dsimp only
   omega
def seenN (T : List ItemM) (k j : Nat) : Int := if (T.take k).any (fun x => x.key == (j : Int)) then 1 else 0
def seenC (T : List ItemM) (k : Nat) : List Value := (List.range 64).map fun j => Value.int .i64 (seenN T k j)
theorem seenC_len (T : List ItemM) (k : Nat) : (seenC T k).length = 64 := by unfold seenC; simp
theorem seenC_zero (T : List ItemM) : seenC T 0 = List.replicate 64 (Value.int .i64 0) := rfl
theorem seenC_get (T : List ItemM) (k : Nat) {j : Nat} (hj : j < 64) : (seenC T k)[j]? = some (.int .i64 (seenN T k j)) := by unfold seenC; simp [hj]
theorem seen_new {T : List ItemM} (h : AscK T) {k : Nat} {x : ItemM} (hx : T[k]? = some x) {n : Nat} (hn : x.key = n) : seenN T k n = 0 := by
 unfold seenN
 rw [if_neg]
 rw [List.any_eq_true]
 rintro ⟨y, hy, e⟩
 obtain ⟨j, hj, rfl⟩ := List.getElem_of_mem hy
 rw [List.length_take] at hj
 rw [List.getElem_take] at e
 obtain ⟨hk, rfl⟩ := List.getElem?_eq_some_iff.1 hx
 have := List.pairwise_iff_getElem.1 h j k (by omega) hk (by omega)
 have e' := beq_iff_eq.1 e
 omega
theorem seen_step {T : List ItemM} {k : Nat} {x : ItemM} (hx : T[k]? = some x) {n : Nat} (hn : x.key = n) (hn64 : n < 64) : (seenC T k).toArray.setIfInBounds n (.int .i64 1) = (seenC T (k + 1)).toArray := by
 apply Array.ext'
 rw [Array.toList_setIfInBounds]
 refine List.ext_getElem? fun j => ?_
 show ((seenC T k).set n (.int .i64 1))[j]? = (seenC T (k + 1))[j]?
 obtain ⟨hk, hxe⟩ := List.getElem?_eq_some_iff.1 hx
 have ht : T.take (k + 1) = T.take k ++ [x] := by rw [List.take_add_one, hx]; rfl
 by_cases hj : j < 64
 ·rw [List.getElem?_set, seenC_get T (k + 1) hj]
  by_cases e : n = j
  ·subst e
   rw [if_pos rfl, if_pos (by rw [seenC_len]; exact hj)]
   unfold seenN
   rw [ht, List.any_append, if_pos]
   simp [hn]
  ·rw [if_neg e, seenC_get T k hj]
   unfold seenN
   rw [ht, List.any_append]
   have : ([x].any fun y => y.key == (j : Int)) = false := by
    simp [hn]
    omega
   rw [this, Bool.or_false]
 ·rw [List.getElem?_eq_none (by rw [List.length_set, seenC_len]; omega), List.getElem?_eq_none (by rw [seenC_len]; omega)]
theorem seen_has {T : List ItemM} {x : ItemM} (hx : x ∈ T) {n : Nat} (hn : x.key = n) : seenN T T.length n = 1 := by
 unfold seenN
 rw [List.take_length, if_pos]
 rw [List.any_eq_true]
 exact ⟨x, hx, by rw [hn]; simp⟩
def lastK (T : List ItemM) (k : Nat) : Int := if k = 0 then -1 else (T.getD (k - 1) .zero).key
theorem last_lt {T : List ItemM} (h : AscK T) (h0 : ∀ x ∈ T, 0 ≤ x.key) {k : Nat} {x : ItemM} (hx : T[k]? = some x) : lastK T k < x.key := by
 obtain ⟨hk, rfl⟩ := List.getElem?_eq_some_iff.1 hx
 unfold lastK
 by_cases e : k = 0
 ·rw [if_pos e]
  have := h0 _ (List.getElem_mem hk)
  omega
 ·rw [if_neg e]
  have h1 : k - 1 < T.length := by omega
  rw [List.getD_eq_getElem?_getD, List.getElem?_eq_getElem h1]
  exact List.pairwise_iff_getElem.1 h (k - 1) k h1 hk (by omega)
theorem last_step {T : List ItemM} {k : Nat} {x : ItemM} (hx : T[k]? = some x) : lastK T (k + 1) = x.key := by
 unfold lastK
 rw [if_neg (by omega), Nat.add_sub_cancel, List.getD_eq_getElem?_getD, hx]
 rfl
theorem lead_key {n : Nat} {M : SM} {is : List IM} {i j : IM} (h : DelP n M is) (hi : i ∈ is) (hj : j ∈ is) {key : Int} (k0 : 0 ≤ key) (k1 : key < 64) (hne : i.w key ≠ j.w key) : ∃ x ∈ itemsOf j.w (changesL i.l j.l), x.key = key := by
 have hc : (key, findL j.l key) ∈ changesL i.l j.l := changesL_mem.2 ⟨k0, k1, fun e => hne (img_same (h.imgs.img i hi) (h.imgs.img j hj) h.imgs.exact k0 k1 e), rfl⟩
 exact ⟨_, List.mem_map.2 ⟨_, hc, rfl⟩, rfl⟩
theorem lead_block {wb : Int → List Nat} {L : List (Int × Int)} {x : ItemM} (hx : x ∈ itemsOf wb L) : x.block = wb x.key := by
 unfold itemsOf at hx
 obtain ⟨c, _, rfl⟩ := List.mem_map.1 hx
 rfl
theorem itemsW_append (a b : List ItemM) (f : Int → List Nat) : itemsW (a ++ b) f = itemsW b (itemsW a f) := by unfold itemsW; rw [List.foldl_append]
theorem chunkL_sub {l : List ItemM} {s : Nat} {k : Int} : ∀ x ∈ chunkL l s k, x ∈ l := fun x hx => by
 unfold chunkL at hx
 split at hx
 ·cases hx
 ·exact List.mem_of_mem_drop (List.mem_of_mem_take hx)
structure CaSt (w0 : World) (vb sb n : Nat) (is : List IM) (v : Value) (T : List ItemM) (xB yB : Nat) (X Y : List Value) (wr : World) (A : SA) (M : SM) : Prop where
 st : DlSt w0 vb sb n is wr A M
 items : ItemsOff wr A v T
 bx : wr.heap[xB]? = some (.cells X.toArray 37 (0, 0))
 sx : Safe wr A xB
 by_ : wr.heap[yB]? = some (.cells Y.toArray 37 (0, 0))
 sy : Safe wr A yB
section
variable {w0 wr w' : World} {vb sb n n' xB yB : Nat} {is is' : List IM} {v : Value} {T : List ItemM} {X Y : List Value} {A A' : SA} {M M' : SM}
theorem CaSt.fresh (h : CaSt w0 vb sb n is v T xB yB X Y wr A M) (k : Kept (fun _ => False) wr w') : CaSt w0 vb sb n is v T xB yB X Y w' A M :=
 ⟨h.st.fresh k, h.items.fresh k, k.get h.bx id, h.sx.fresh k, k.get h.by_ id, h.sy.fresh k⟩
theorem CaSt.to (h : CaSt w0 vb sb n is v T xB yB X Y wr A M) (k : StoreTo A A' M' wr w') (d : DelP n' M' is') (hs : M'.pool.size = M.pool.size) : CaSt w0 vb sb n' is' v T xB yB X Y w' A' M' :=
 ⟨h.st.to k d hs, h.items.to k, k.get h.bx h.sx, h.sx.to k, k.get h.by_ h.sy, h.sy.to k⟩
theorem CaSt.xload (h : CaSt w0 vb sb n is v T xB yB X Y wr A M) : ∀ j u, X[j]? = some u → wr.cell? ⟨xB, 0 + j, none⟩ = some u := fun j u hj => by rw [Nat.zero_add, cell_of_heap h.bx]; simpa using hj
theorem CaSt.yload (h : CaSt w0 vb sb n is v T xB yB X Y wr A M) : ∀ j u, Y[j]? = some u → wr.cell? ⟨yB, 0 + j, none⟩ = some u := fun j u hj => by rw [Nat.zero_add, cell_of_heap h.by_]; simpa using hj
end
theorem seen_zero : (Tryz.prog.info? 80).map (·.zero) = some (some (.agg (List.replicate 64 (Value.int .i64 0)).toArray)) := by kernel_rfl
theorem seen_size : (Tryz.prog.info? 80).map (·.size) = some 64 := by kernel_rfl
end Go.Proofs.YtidlchciehdefaaGreat
