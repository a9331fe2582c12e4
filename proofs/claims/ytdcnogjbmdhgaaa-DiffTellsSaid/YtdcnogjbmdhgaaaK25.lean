/-
 How often a block's page is counted, plain: a change of a tree names it seven times more at most.
-/
import Derived.Test.YtdcnogjbmdhgaaaK09
import Derived.Test.YtdcnogjbmdhgaaaK12
import Derived.Test.YtdcnogjbmdhgaaaK22
import Derived.Test.YtdcnogjbmdhgaaaK23
import Derived.Test.YtdcnogjbmdhgaaaK24
set_option linter.unusedVariables false
set_option linter.unusedSimpArgs false
namespace Go.Proofs.Ytdcnogjbmdhgaaa
open Go.RowKit

def Dat (M : SM) (q : Nat) : Prop := M.live q = true ∧ ∃ d, M.nodeAt q = some d ∧ d.kind = 1
theorem Dat.grown {M M' : SM} (g : Grown M M') {q : Nat} (h : Dat M q) : Dat M' q := by
 obtain ⟨h1, d, h2, h3⟩ := h
 exact ⟨g.live q h1, d, by rw [g.node q h1]; exact h2, h3⟩
theorem Dat.tr {m : Nat} {M : SM} {q h : Nat} {l : List (Int × Int)} (hq : Dat M q) (t : Tr m M h (q : Int) l) : False := by
 cases h with
 | zero => exact t
 | succ h =>
  obtain ⟨_, n, hn, _, k⟩ := t
  obtain ⟨_, d, hd, hk⟩ := hq
  rw [Int.toNat_natCast, hd] at hn
  cases hn
  have := k.kind
  omega
theorem Dat.kids {m : Nat} {M : SM} {q h : Nat} (hq : Dat M q) {es l : List (Int × Int)} (k : Kids (Sub m M h) es l) : occ es q = 0 := by
 rcases Nat.eq_zero_or_pos (occ es q) with h0 | h0
 ·exact h0
 ·obtain ⟨x, hx, he⟩ := List.countP_pos_iff.1 h0
  obtain ⟨a, ha, _⟩ := k.each x hx
  rw [show x.2 = (q : Int) by simpa using he] at ha
  exact (hq.tr ha.1).elim
theorem Dat.ntr {m : Nat} {M : SM} {q h : Nat} (hq : Dat M q) {n : NM} {l : List (Int × Int)} (k : NTr (Sub m M h) h n l) (h0 : 0 < h) : occ n.ents q = 0 := by
 rcases k with ⟨h1, _⟩ | ⟨_, _, k⟩
 ·omega
 ·exact hq.kids k

theorem holds_cnt : ∀ (cs : List Int) (p : PM), ((holds p cs).2 = 0 → ∀ j : Nat, (holds p cs).1.cnt j = p.cnt j + cs.countP fun c => c == (j : Int)) ∧
  ((holds p cs).2 = 72 → ∃ c : Nat, (c : Int) ∈ cs ∧ 255 < p.cnt c + cs.countP fun x => x == (c : Int))
 | [], p => ⟨fun _ j => by simp [holds], fun h => (by cases h)⟩
 | c :: cs, p => by
  unfold holds
  by_cases he : p.holdErr c = 0
  ·rw [if_pos he]
   obtain ⟨i1, i2⟩ := holds_cnt cs (p.holdTo c)
   have hh : p.heldB c = true ∧ p.cnt c.toNat < 255 := by
    unfold PM.holdErr at he
    by_cases h1 : p.heldB c = true
    ·rw [if_pos h1] at he
     by_cases h2 : p.cnt c.toNat < 255
     ·exact ⟨h1, h2⟩
     ·rw [if_neg h2] at he; cases he
    ·rw [if_neg h1] at he; cases he
   obtain ⟨k, rfl⟩ := Int.eq_ofNat_of_zero_le (heldB_int hh.1).1
   have ht : p.holdTo (k : Int) = p.setCnt k (p.cnt k + 1) := by
    unfold PM.holdTo
    rw [hh.1, Int.toNat_natCast] at *
    simp [hh.2]
   have hc : ∀ j : Nat, (p.holdTo (k : Int)).cnt j = p.cnt j + if (k : Int) == (j : Int) then 1 else 0 := fun j => by
    rw [ht]
    unfold PM.setCnt
    dsimp only
    by_cases hj : j = k
    ·subst hj; simp
    ·rw [if_neg hj, if_neg (by simp; omega)]; rfl
   refine ⟨fun h j => ?_, fun h => ?_⟩
   ·rw [i1 h j, hc, List.countP_cons]
    omega
   ·obtain ⟨d, hd, hs⟩ := i2 h
    refine ⟨d, List.mem_cons_of_mem _ hd, ?_⟩
    rw [hc] at hs
    rw [List.countP_cons]
    omega
  ·rw [if_neg he]
   refine ⟨fun h => absurd h he, fun h => ?_⟩
   have h : p.holdErr c = 72 := h
   unfold PM.holdErr at h
   by_cases h1 : p.heldB c = true
   ·rw [if_pos h1] at h
    by_cases h2 : p.cnt c.toNat < 255
    ·rw [if_pos h2] at h; cases h
    ·obtain ⟨k, rfl⟩ := Int.eq_ofNat_of_zero_le (heldB_int h1).1
     rw [Int.toNat_natCast] at h2
     refine ⟨k, List.mem_cons_self .., ?_⟩
     rw [List.countP_cons_of_pos (by simp)]
     omega
   ·rw [if_neg h1] at h; cases h
theorem make_cnt (M : SM) (n : NM) : ((M.make n).2.2 = 0 → ∀ q, (M.make n).1.pool.cnt q = M.pool.cnt q + occ n.ents q) ∧
  ((M.make n).2.2 = 72 → ∃ c, M.live c = true ∧ 255 < M.pool.cnt c + occ n.ents c) := by
 unfold SM.make
 split
 ·split
  ·exact ⟨fun h => (by cases h), fun h => (by cases h)⟩
  ·rename_i hany
   split
   ·exact ⟨fun h => (by cases h), fun h => (by cases h)⟩
   ·rename_i i hi
    dsimp only
    obtain ⟨h1, h2⟩ := holds_cnt (n.ents.map (·.2)) (M.pool.setSt i 1)
    have hc : ∀ q : Nat, (n.ents.map (·.2)).countP (fun c => c == (q : Int)) = occ n.ents q := fun q => by
     unfold occ
     rw [List.countP_map]
     rfl
    refine ⟨fun h q => ?_, fun h => ?_⟩
    ·rw [h1 h q, hc]; rfl
    ·obtain ⟨c, hm, hs⟩ := h2 h
     rw [hc] at hs
     refine ⟨c, ?_, hs⟩
     obtain ⟨x, hx, he⟩ := List.mem_map.1 hm
     have hb : M.pool.heldB x.2 = true := by
      cases hb : M.pool.heldB x.2 with
      | true => rfl
      | false => exact absurd (List.any_eq_true.2 ⟨x, hx, by rw [hb]; rfl⟩) hany
     have hb : M.pool.heldB ((c : Nat) : Int) = true := by
      have he : x.2 = ((c : Nat) : Int) := he
      rw [← he]; exact hb
     rw [heldB_nat] at hb
     exact hb
 ·exact ⟨fun h => (by cases h), fun h => (by cases h)⟩
theorem split_cnt {M : SM} {ext : Nat → Nat} (E : Exact M ext) {m h : Nat} {n : NM} {l : List (Int × Int)} (t : NTr (Sub m M h) h n l) (g : Good M l) (h12 : n.ents.length ≤ 12) : ((M.split n).2.2 = 0 → ∀ q, (M.split n).1.pool.cnt q = M.pool.cnt q + occ n.ents q) ∧
  ((M.split n).2.2 = 72 → ∃ c, M.live c = true ∧ 255 < M.pool.cnt c + occ n.ents c) := by
 unfold SM.split
 rw [if_neg (by omega)]
 by_cases h0 : n.ents.length = 0
 ·have hp : partsOf n.ents = [] := by unfold partsOf; rw [if_pos h0]
  rw [hp, makes_nil]
  have he : n.ents = [] := List.eq_nil_of_length_eq_zero h0
  rw [he]
  exact ⟨fun _ q => rfl, fun h => (by cases h)⟩
 ·by_cases h6 : n.ents.length ≤ 6
  ·have hp : partsOf n.ents = [n.ents] := by unfold partsOf; rw [if_neg h0, if_neg (by omega)]
   rw [hp, makes_cons]
   obtain ⟨a1, a2⟩ := make_cnt M ⟨n.kind, zeros16, n.ents⟩
   by_cases he : (M.make ⟨n.kind, zeros16, n.ents⟩).2.2 = 0
   ·rw [if_pos he, makes_nil]
    exact ⟨fun _ => a1 he, fun h => (by cases h)⟩
   ·rw [if_neg he]
    exact ⟨fun h => absurd h he, fun h => a2 h⟩
  ·have hp : partsOf n.ents = [n.ents.take (n.ents.length / 2), n.ents.drop (n.ents.length / 2)] := by unfold partsOf; rw [if_neg h0, if_pos (by omega)]
   rw [hp, makes_cons]
   obtain ⟨e1, he1⟩ : ∃ e1, n.ents.take (n.ents.length / 2) = e1 := ⟨_, rfl⟩
   obtain ⟨e2, he2⟩ : ∃ e2, n.ents.drop (n.ents.length / 2) = e2 := ⟨_, rfl⟩
   have hee : n.ents = e1 ++ e2 := by rw [← he1, ← he2, List.take_append_drop]
   have hl1 : e1.length = n.ents.length / 2 := by rw [← he1, List.length_take]; omega
   rw [he1, he2]
   obtain ⟨l1, l2, hll, t1, t2⟩ := t.parts hee
   have g1 : Good M l1 := Good.left (b := l2) (by rw [← hll]; exact g)
   have hocc : ∀ q, occ n.ents q = occ e1 q + occ e2 q := fun q => by rw [hee]; exact List.countP_append
   obtain ⟨a1, a2⟩ := make_cnt M ⟨n.kind, zeros16, e1⟩
   rcases make_tr E t1 g1 (by omega) (by omega) with ⟨i, e, H, _⟩ | ⟨e, _⟩ | ⟨e, _⟩
   ·have he0 : (M.make ⟨n.kind, zeros16, e1⟩).2.2 = 0 := by rw [e]
    have a1 := a1 he0
    rw [if_pos he0, makes_cons]
    obtain ⟨M', hM'⟩ : ∃ M', (M.make ⟨n.kind, zeros16, e1⟩).1 = M' := ⟨_, rfl⟩
    rw [hM'] at H a1 ⊢
    obtain ⟨b1, b2⟩ := make_cnt M' ⟨n.kind, zeros16, e2⟩
    by_cases he : (M'.make ⟨n.kind, zeros16, e2⟩).2.2 = 0
    ·rw [if_pos he, makes_nil]
     refine ⟨fun _ q => ?_, fun h => (by cases h)⟩
     rw [b1 he, a1, hocc]
     show M.pool.cnt q + occ e1 q + occ e2 q = _
     omega
    ·rw [if_neg he]
     refine ⟨fun h => absurd h he, fun h => ?_⟩
     obtain ⟨c, hc, hs⟩ := b2 h
     have hs : 255 < M'.pool.cnt c + occ e2 c := hs
     have hcl : M.live c = true := by
      rcases H.only c hc with rfl | hc'
      ·have hz := H.zero E (fun x hx => (t1.good g1).2 x hx |>.2.2)
       have hx : occ e2 c ≤ e2.length := occ_le _ _
       have hl2 : e2.length ≤ 12 := by rw [← he2, List.length_drop]; omega
       omega
      ·exact hc'
     refine ⟨c, hcl, ?_⟩
     have : M'.pool.cnt c = M.pool.cnt c + occ e1 c := a1 c
     rw [hocc]
     omega
   ·have he : (M.make ⟨n.kind, zeros16, e1⟩).2.2 = 71 := by rw [e]
    rw [if_neg (by rw [he]; decide)]
    exact ⟨fun h => (by rw [he] at h; cases h), fun h => (by rw [he] at h; cases h)⟩
   ·have he : (M.make ⟨n.kind, zeros16, e1⟩).2.2 = 72 := by rw [e]
    rw [if_neg (by rw [he]; decide)]
    refine ⟨fun h => (by rw [he] at h; cases h), fun _ => ?_⟩
    obtain ⟨c, hc, hs⟩ := a2 he
    refine ⟨c, hc, ?_⟩
    have hs : 255 < M.pool.cnt c + occ e1 c := hs
    rw [hocc]
    omega

theorem putF_thin {m : Nat} (hm : m ≤ 3) {ext : Nat → Nat} {x : Int × Int} (x0 : 0 ≤ x.1) (x1 : x.1 < 64) : ∀ (h d : Nat) (M : SM) (l : List (Int × Int)) (root : Int), h + 1 + d ≤ 8 → Exact M ext → Tr m M (h + 1) root l → Good M l → M.pool.heldB x.2 = true →
  ((SM.putF (9 - d) M root x).2.2 = 0 → ∀ q, Dat M q → (SM.putF (9 - d) M root x).1.pool.cnt q + occ (SM.putF (9 - d) M root x).2.1.ents q ≤ M.pool.cnt q + 7) ∧
  ((SM.putF (9 - d) M root x).2.2 = 72 → ∃ c, 255 < M.refs c + 7 * h + ext c ∧ (Dat M c → 255 < M.pool.cnt c + 7)) := by
 intro h
 induction h with
 | zero =>
  intro d M l root hd E t g hx
  have hr := putF_ok hm x0 x1 0 d M l root hd E t g hx
  obtain ⟨n, hn, hna, hok, k⟩ := tnode_tr t (d := d) (by omega)
  have hm' : (SM.putF (9 - d) M root x).1 = M := by
   rw [show 9 - d = (8 - d) + 1 by omega, putF_succ, show 8 - (8 - d) = d by omega, hn]
   dsimp only
   rw [if_pos rfl, if_neg (by have := k.kind; rcases k with ⟨_, hk, _⟩ | ⟨h0, _⟩; omega; omega)]
   split <;> rfl
  rcases hr with ⟨e, P⟩ | ⟨e, hf⟩ | ⟨e, hf⟩
  ·refine ⟨fun _ q _ => ?_, fun h => (by rw [e] at h; cases h)⟩
   have h1 := P.hi
   have h2 := P.entN
   have h3 := occ_le (SM.putF (9 - d) M root x).2.1.ents q
   rw [hm']
   omega
  ·exact ⟨fun h => (by rw [e] at h; cases h), fun h => (by rw [e] at h; cases h)⟩
  ·refine ⟨fun h => (by rw [e] at h; cases h), fun _ => ?_⟩
   obtain ⟨c, hc⟩ := hf
   have : (SM.putF (9 - d) M root x).2.2 = 0 := by
    rw [show 9 - d = (8 - d) + 1 by omega, putF_succ, show 8 - (8 - d) = d by omega, hn]
    dsimp only
    rw [if_pos rfl, if_neg (by have := k.kind; rcases k with ⟨_, hk, _⟩ | ⟨h0, _⟩; omega; omega)]
    split <;> rfl
   rw [this] at e; cases e
 | succ h ih =>
  intro d M l root hd E t g hx
  have hall := putF_ok hm x0 x1 (h + 1) d M l root hd E t g hx
  obtain ⟨n, hn, hna, hok, k⟩ := tnode_tr t (d := d) (by omega)
  have hin := innerOk_of hok (by have := k.kind; omega)
  have ge := k.good g
  rw [show 9 - d = (8 - d) + 1 by omega, putF_succ, show 8 - (8 - d) = d by omega, hn] at hall ⊢
  dsimp only at hall ⊢
  rcases k with ⟨h0, _⟩ | ⟨_, hk, hK⟩
  ·omega
  ·rw [if_pos rfl, if_pos hk] at hall ⊢
   have hb := atI_bound (l := n.ents) x.1
   obtain ⟨c, hc⟩ := Int.eq_ofNat_of_zero_le (show 0 ≤ atI n.ents x.1 + 1 by omega)
   obtain ⟨i, hi⟩ : ∃ i, (atI n.ents x.1).toNat = i := ⟨_, rfl⟩
   have hil : i < n.ents.length := by have := hin.pos; omega
   rw [hi] at hall ⊢
   have hg : n.ents.getD i (0, 0) = n.ents[i] := by simp [List.getD, List.getElem?_eq_getElem hil]
   have hes : n.ents = n.ents.take i ++ n.ents[i] :: n.ents.drop (i + 1) := by rw [← List.drop_eq_getElem_cons hil, List.take_append_drop]
   rw [hg] at hall ⊢
   obtain ⟨e, he⟩ : ∃ e, n.ents[i] = e := ⟨_, rfl⟩
   rw [he] at hes hall ⊢
   have hK' := hK
   rw [hes] at hK'
   obtain ⟨a, b, hab, hK1, s, tt, y, hst, hT, hy, hye, hK2⟩ := hK'.cut
   subst hab hst
   have gs : Good M s := g.right.left
   have hr := putF_ok hm x0 x1 h (d + 1) M s e.2 (by omega) E hT.1 gs hx
   have hq := ih (d + 1) M s e.2 (by omega) E hT.1 gs hx
   rw [show 9 - (d + 1) = 8 - d by omega] at hr hq
   obtain ⟨R, hR⟩ : ∃ R, SM.putF (8 - d) M e.2 x = R := ⟨_, rfl⟩
   rw [hR] at hr hq hall ⊢
   obtain ⟨M1, n1, er⟩ := R
   dsimp only at hr hq hall ⊢
   rcases hr with ⟨rfl, P⟩ | ⟨rfl, hf⟩ | ⟨rfl, hf⟩
   ·have q1 := hq.1 rfl
    rw [if_pos rfl] at hall ⊢
    have hen := P.entN
    have hlo := P.lo
    have hhi := P.hi
    have hsum := P.sum
    have gs' : Good M1 (putL s x) := (gs.put x0 x1 hx).grown P.grown
    obtain ⟨c1, c2⟩ := split_cnt P.exact P.tr gs' (by omega)
    obtain ⟨R, hR2⟩ : ∃ R, M1.split n1 = R := ⟨_, rfl⟩
    rw [hR2] at c1 c2 hall ⊢
    obtain ⟨M2, out, er⟩ := R
    dsimp only at c1 c2 hall ⊢
    by_cases h0 : er = 0
    ·subst h0
     rw [if_pos rfl] at hall ⊢
     refine ⟨fun _ q hq => ?_, fun h => (by cases h)⟩
     rcases hall with ⟨_, P2⟩ | ⟨e2, _⟩ | ⟨e2, _⟩
     ·have ho := (hq.grown P2.grown).ntr P2.tr (Nat.succ_pos h)
      have h1 := c1 rfl q
      have h2 := q1 q hq
      dsimp only at ho ⊢
      rw [ho, h1]
      omega
     ·cases e2
     ·cases e2
    ·rw [if_neg h0]
     refine ⟨fun h => absurd h h0, fun h => ?_⟩
     obtain ⟨c, hcl, hs⟩ := c2 h
     refine ⟨c, ?_, fun hd => ?_⟩
     ·have h1 := P.exact.cnt c (live_lt hcl)
      have h2 := P.grown.refs c
      have h3 := occ_le n1.ents c
      omega
     ·have := q1 c hd
      omega
   ·rw [if_neg (by decide)]
    exact ⟨fun h => (by cases h), fun h => (by cases h)⟩
   ·rw [if_neg (by decide)]
    refine ⟨fun h => (by cases h), fun _ => ?_⟩
    obtain ⟨c, h1, h2⟩ := hq.2 rfl
    exact ⟨c, by omega, h2⟩

theorem top_thin {m : Nat} (hm : m ≤ 3) {M : SM} {ext : Nat → Nat} (E : Exact M ext) {h : Nat} {n : NM} {l : List (Int × Int)} (t : NTr (Sub m M h) h n l) (g : Good M l) (h1 : 1 ≤ n.ents.length) (h12 : n.ents.length ≤ 12) :
  ((M.top n).2.2 = 0 → ∀ q, Dat M q → (M.top n).1.pool.cnt q = M.pool.cnt q + occ n.ents q) ∧
  ((M.top n).2.2 = 72 → ∃ c, 255 < M.refs c + n.ents.length + 2 + ext c ∧ (Dat M c → 255 < M.pool.cnt c + occ n.ents c)) := by
 unfold SM.top
 dsimp only
 have hsp := split_ok E t g h1 h12
 obtain ⟨c1, c2⟩ := split_cnt E t g h12
 obtain ⟨R, hR⟩ : ∃ R, M.split n = R := ⟨_, rfl⟩
 rw [hR] at hsp c1 c2 ⊢
 obtain ⟨M1, out, er⟩ := R
 dsimp only at hsp c1 c2 ⊢
 rcases hsp with ⟨rfl, S⟩ | ⟨rfl, hf⟩ | ⟨rfl, hf⟩
 ·rw [if_pos rfl]
  have c1 := c1 rfl
  have b2 := S.sum
  have b3 := S.len
  by_cases h6 : n.ents.length ≤ 6
  ·rw [if_neg (by omega)] at b3
   rw [if_neg (by omega)]
   exact ⟨fun _ q _ => c1 q, fun h => (by cases h)⟩
  ·rw [if_pos (by omega)] at b3
   rw [if_pos (by omega)]
   have hK := S.kids hm (by omega)
   have g1 := g.grown S.grown
   have t2 : NTr (Sub m M1 (h + 1)) (h + 1) ⟨3, List.replicate 16 0, out⟩ l := .inr ⟨by omega, rfl, hK⟩
   obtain ⟨d1, d2⟩ := split_cnt S.exact t2 g1 (by show out.length ≤ 12; omega)
   obtain ⟨R, hR⟩ : ∃ R, M1.split ⟨3, List.replicate 16 0, out⟩ = R := ⟨_, rfl⟩
   rw [hR] at d1 d2 ⊢
   obtain ⟨M2, out2, er⟩ := R
   dsimp only at d1 d2 ⊢
   by_cases h0 : er = 0
   ·subst h0
    rw [if_pos rfl]
    refine ⟨fun _ q hq => ?_, fun h => (by cases h)⟩
    have := (hq.grown S.grown).kids hK
    have h2 := d1 rfl q
    have h3 := c1 q
    show M2.pool.cnt q = _
    omega
   ·rw [if_neg h0]
    refine ⟨fun h => absurd h h0, fun h => ?_⟩
    obtain ⟨c, hc, hs⟩ := d2 h
    have hs : 255 < M1.pool.cnt c + occ out c := hs
    refine ⟨c, ?_, fun hd => ?_⟩
    ·have e1 := S.exact.cnt c (live_lt hc)
     have e2 := S.grown.refs c
     have e3 := occ_le out c
     omega
    ·have := (hd.grown S.grown).kids hK
     have h3 := c1 c
     omega
 ·rw [if_neg (by decide)]
  exact ⟨fun h => (by cases h), fun h => (by cases h)⟩
 ·rw [if_neg (by decide)]
  refine ⟨fun h => (by cases h), fun h => ?_⟩
  obtain ⟨c, hc, hs⟩ := c2 rfl
  refine ⟨c, ?_, fun _ => hs⟩
  have e1 := E.cnt c (live_lt hc)
  have e3 := occ_le n.ents c
  omega
theorem put_thin {m : Nat} (hm : m ≤ 3) {M : SM} {ext : Nat → Nat} (E : Exact M ext) {h : Nat} {root key page : Int} {l : List (Int × Int)} (t : Rooted m M root l h) (h8 : h ≤ 8) (g : Good M l) (hx : M.pool.heldB page = true) (k0 : 0 ≤ key) (k1 : key < 64) :
  ((M.put root key page).2.2 = 0 → ∀ q, Dat M q → (M.put root key page).1.pool.cnt q ≤ M.pool.cnt q + 7) ∧
  ((M.put root key page).2.2 = 72 → ∃ c, 255 < M.refs c + 7 * h + 3 + ext c ∧ (Dat M c → 255 < M.pool.cnt c + 7)) := by
 unfold SM.put
 rw [if_neg (by omega)]
 rcases t with ⟨rfl, rfl, rfl⟩ | t
 ·rw [if_pos rfl]
  have t0 : NTr (Sub m M 0) 0 ⟨2, List.replicate 16 0, [(key, page)]⟩ (putL [] (key, page)) := .inl ⟨rfl, rfl, rfl⟩
  obtain ⟨a1, a2⟩ := top_thin hm E t0 (g.put k0 k1 hx) (by show 1 ≤ 1; omega) (by show 1 ≤ 12; omega)
  refine ⟨fun h q hq => ?_, fun h => ?_⟩
  ·have h1 := a1 h q hq
   have h2 := occ_le [(key, page)] q
   simp only [List.length_singleton] at h2
   dsimp only at h1
   omega
  ·obtain ⟨c, h1, h2⟩ := a2 h
   refine ⟨c, ?_, fun hd => ?_⟩
   ·dsimp only [List.length_cons, List.length_nil] at h1; omega
   ·have h3 := occ_le [(key, page)] c
    simp only [List.length_singleton] at h3
    have := h2 hd
    dsimp only at this
    omega
 ·have hne : root ≠ -1 := fun e => by have := (heldB_int t.held).1; omega
  rw [if_neg hne]
  cases h with
  | zero => exact t.elim
  | succ h =>
   have hp := putF_ok hm (x := (key, page)) k0 k1 h 0 M l root (by omega) E t g hx
   have hq := putF_thin hm (x := (key, page)) k0 k1 h 0 M l root (by omega) E t g hx
   rw [Nat.sub_zero] at hp hq
   obtain ⟨R, hR⟩ : ∃ R, SM.putF 9 M root (key, page) = R := ⟨_, rfl⟩
   rw [hR] at hp hq ⊢
   obtain ⟨M1, n1, er⟩ := R
   dsimp only at hp hq ⊢
   rcases hp with ⟨rfl, P⟩ | ⟨rfl, hf⟩ | ⟨rfl, hf⟩
   ·rw [if_pos rfl]
    have a2 := P.sum
    have hen := P.entN
    have hlo := P.lo
    have hhi := P.hi
    have q1 := hq.1 rfl
    obtain ⟨b1, b2⟩ := top_thin hm P.exact P.tr ((g.put k0 k1 hx).grown P.grown) (by omega) (by omega)
    refine ⟨fun h q hd => ?_, fun h => ?_⟩
    ·rw [b1 h q (hd.grown P.grown)]
     exact q1 q hd
    ·obtain ⟨c, h1, h2⟩ := b2 h
     refine ⟨c, ?_, fun hd => ?_⟩
     ·have hg := P.grown.refs c
      omega
     ·have := h2 (hd.grown P.grown)
      have := q1 c hd
      omega
   ·rw [if_neg (by decide)]
    exact ⟨fun h => (by cases h), fun h => (by cases h)⟩
   ·rw [if_neg (by decide)]
    refine ⟨fun h => (by cases h), fun _ => ?_⟩
    obtain ⟨c, h1, h2⟩ := hq.2 rfl
    exact ⟨c, by omega, h2⟩
theorem join_some {M : SM} {n c : NM} {i d : Nat} : (M.join n c i d).1 = c ∨ ((M.join n c i d).1.ents.length ≤ 6 ∧ ∃ e ∈ n.ents, ∀ q, occ (M.join n c i d).1.ents q = occ c.ents q + occ (M.tnode e.2 (d + 1)).1.ents q) := by
 have step : ∀ (p : Int) (nx : NM × Nat × Nat × Nat), (nx.1 = c ∨ (nx.1.ents.length ≤ 6 ∧ ∃ e ∈ n.ents, ∀ q, occ nx.1.ents q = occ c.ents q + occ (M.tnode e.2 (d + 1)).1.ents q)) →
   ((M.joinStep n c i d p nx).1 = c ∨ ((M.joinStep n c i d p nx).1.ents.length ≤ 6 ∧ ∃ e ∈ n.ents, ∀ q, occ (M.joinStep n c i d p nx).1.ents q = occ c.ents q + occ (M.tnode e.2 (d + 1)).1.ents q)) := by
  intro p nx hnx
  unfold SM.joinStep
  split
  ·exact hnx
  ·rename_i hp
   dsimp only
   split
   ·split
    ·rename_i hf
     right
     have hpl : p.toNat < n.ents.length := by omega
     have hg : n.ents.getD p.toNat (0, 0) = n.ents[p.toNat] := by simp [List.getD, List.getElem?_eq_getElem hpl]
     refine ⟨?_, n.ents[p.toNat], List.getElem_mem hpl, fun q => ?_⟩
     ·split <;> rw [List.length_append] <;> omega
     ·rw [hg]
      split
      ·rw [show occ ((M.tnode n.ents[p.toNat].2 (d + 1)).1.ents ++ c.ents) q = _ from List.countP_append]
       exact Nat.add_comm _ _
      ·exact List.countP_append
    ·exact hnx
   ·exact .inl rfl
 unfold SM.join
 split
 ·exact .inl rfl
 ·unfold SM.joinJ
  exact step _ _ (step _ _ (.inl rfl))

theorem cutF_same0 {M : SM} {root key : Int} {d : Nat} {l : List (Int × Int)} (hd : d < 8) (t : Tr 1 M (0 + 1) root l) : (SM.cutF (9 - d) M root key).1 = M ∧ (SM.cutF (9 - d) M root key).2.2.2 = 0 := by
 obtain ⟨n, hn, hna, hok, k⟩ := tnode_tr t (d := d) hd
 have hin := innerOk_of hok (by have := k.kind; omega)
 rw [show 9 - d = (8 - d) + 1 by omega]
 have hn' : M.tnode root (8 - (8 - d)) = (n, 0) := by rw [show 8 - (8 - d) = d by omega]; exact hn
 rcases k with ⟨_, hk, hl⟩ | ⟨h0, _⟩
 ·have hb := atI_bound (l := n.ents) key
  by_cases ha : atI n.ents key < 0
  ·rw [cutF_stop hn' (.inr ha)]; exact ⟨rfl, rfl⟩
  ·obtain ⟨i, hi⟩ := Int.eq_ofNat_of_zero_le (show 0 ≤ atI n.ents key by omega)
   rw [cutF_leaf hn' hk hi]
   split <;> exact ⟨rfl, rfl⟩
 ·exact absurd h0 (Nat.lt_irrefl 0)

theorem cutF_thin {ext : Nat → Nat} {key : Int} : ∀ (h d : Nat) (M : SM) (l : List (Int × Int)) (root : Int), h + 1 + d ≤ 8 → Exact M ext → Tr 1 M (h + 1) root l → Good M l →
  ((SM.cutF (9 - d) M root key).2.2.2 = 0 → (SM.cutF (9 - d) M root key).2.2.1 = true → ∀ q, Dat M q → (SM.cutF (9 - d) M root key).1.pool.cnt q + occ (SM.cutF (9 - d) M root key).2.1.ents q ≤ M.pool.cnt q + 6) ∧
  ((SM.cutF (9 - d) M root key).2.2.2 = 72 → ∃ c, 255 < M.refs c + 6 * h + ext c ∧ (Dat M c → 255 < M.pool.cnt c + 6)) := by
 intro h
 induction h with
 | zero =>
  intro d M l root hd E t g
  obtain ⟨e1, e2⟩ := cutF_same0 (key := key) (d := d) (by omega) t
  refine ⟨fun _ hw q _ => ?_, fun h => (by rw [e2] at h; cases h)⟩
  rcases cutF_ok (key := key) 0 d M l root hd E t g with ⟨e, _⟩ | ⟨_, _, P⟩ | ⟨e, _⟩ | ⟨e, _⟩
  ·rw [e] at hw; cases hw
  ·have h1 := P.hi
   have h2 := P.entN
   have h3 := occ_le (SM.cutF (9 - d) M root key).2.1.ents q
   rw [e1]
   omega
  ·rw [e2] at e; cases e
  ·rw [e2] at e; cases e
 | succ h ih =>
  intro d M l root hd E t g
  have hall := cutF_ok (key := key) (h + 1) d M l root hd E t g
  obtain ⟨n, hn, hna, hok, k⟩ := tnode_tr t (d := d) (by omega)
  have hin := innerOk_of hok (by have := k.kind; omega)
  have hn' : M.tnode root (8 - (8 - d)) = (n, 0) := by rw [show 8 - (8 - d) = d by omega]; exact hn
  have hb := atI_bound (l := n.ents) key
  by_cases ha : atI n.ents key < 0
  ·rw [show 9 - d = (8 - d) + 1 by omega, cutF_stop hn' (.inr ha)]
   exact ⟨fun _ h => (by cases h), fun h => (by cases h)⟩
  ·rcases k with ⟨h0, _⟩ | ⟨_, hk, hK⟩
   ·omega
   ·obtain ⟨i, hi⟩ := Int.eq_ofNat_of_zero_le (show 0 ≤ atI n.ents key by omega)
    have hil : i < n.ents.length := by omega
    rw [show 9 - d = (8 - d) + 1 by omega, cutF_inner hn' hk hi, show 8 - (8 - d) = d by omega] at hall ⊢
    have hg : n.ents.getD i (0, 0) = n.ents[i] := by simp [List.getD, List.getElem?_eq_getElem hil]
    have hes : n.ents = n.ents.take i ++ n.ents[i] :: n.ents.drop (i + 1) := by rw [← List.drop_eq_getElem_cons hil, List.take_append_drop]
    rw [hg] at hall ⊢
    obtain ⟨e, he⟩ : ∃ e, n.ents[i] = e := ⟨_, rfl⟩
    rw [he] at hes hall ⊢
    have hK' := hK
    rw [hes] at hK'
    obtain ⟨a, b, hab, hK1, s, tt, y, hst, hT, hy, hye, hK2⟩ := hK'.cut
    subst hab hst
    have gs : Good M s := g.right.left
    have hr := cutF_ok (key := key) h (d + 1) M s e.2 (by omega) E hT.1 gs
    have hq := ih (d + 1) M s e.2 (by omega) E hT.1 gs
    have hsame : h = 0 → (SM.cutF (9 - (d + 1)) M e.2 key).1 = M := fun h0 => by
     subst h0
     exact (cutF_same0 (d := d + 1) (by omega) hT.1).1
    rw [show 9 - (d + 1) = 8 - d by omega] at hr hq hsame
    obtain ⟨R, hR⟩ : ∃ R, SM.cutF (8 - d) M e.2 key = R := ⟨_, rfl⟩
    rw [hR] at hr hq hall hsame ⊢
    obtain ⟨M1, n1, was, er⟩ := R
    dsimp only at hr hq hall hsame ⊢
    unfold cutRes at hall ⊢
    by_cases hst : er ≠ 0 ∨ was = false
    ·rw [if_pos hst]
     refine ⟨fun h0 hw => (by cases hw), fun h72 => ?_⟩
     obtain ⟨c, h1, h2⟩ := hq.2 h72
     exact ⟨c, by omega, h2⟩
    ·rw [if_neg hst] at hall ⊢
     have her : er = 0 := Classical.byContradiction fun h => hst (.inl h)
     have hwas : was = true := by cases was with
      | true => rfl
      | false => exact absurd (.inr rfl) hst
     subst her hwas
     rcases hr with ⟨hr, _⟩ | ⟨_, _, P⟩ | ⟨hr, _⟩ | ⟨hr, _⟩
     ·cases hr
     ·have q1 := hq.1 rfl rfl
      have G1 := P.grown
      have psum := P.sum
      have phi := P.hi
      have pen := P.entN
      by_cases hj : (M1.join n n1 i d).2.2.2 = 0
      ·rw [if_pos hj] at hall ⊢
       have js := join_some (M := M1) (n := n) (c := n1) (i := i) (d := d)
       have hlenJ : (M1.join n n1 i d).1.ents.length ≤ 6 := by
        rcases js with e1 | ⟨e1, _⟩
        ·rw [e1]; omega
        ·exact e1
       have hocc : ∀ q, Dat M q → M1.pool.cnt q + occ (M1.join n n1 i d).1.ents q ≤ M.pool.cnt q + 6 := fun q hd => by
        rcases js with e1 | ⟨e1, f, hf, e2⟩
        ·rw [e1]; exact q1 q hd
        ·by_cases h0 : h = 0
         ·have := occ_le (M1.join n n1 i d).1.ents q
          rw [hsame h0]
          rw [hsame h0] at this hlenJ
          omega
         ·have d1 := hd.grown G1
          have o1 := d1.ntr P.tr (by omega)
          obtain ⟨b, hb, _⟩ := hK.each f hf
          have hb1 := Sub.grown G1 hb
          obtain ⟨m, hm, _, _, km⟩ := tnode_tr hb1.1 (d := d + 1) (by omega)
          have o2 := d1.ntr km (by omega)
          have e3 := e2 q
          rw [hm] at e3
          dsimp only at e3
          have := q1 q hd
          omega
       have hcnt : ((M1.split (M1.join n n1 i d).1).2.2 = 0 → ∀ q, (M1.split (M1.join n n1 i d).1).1.pool.cnt q = M1.pool.cnt q + occ (M1.join n n1 i d).1.ents q) ∧ ((M1.split (M1.join n n1 i d).1).2.2 = 72 → ∃ c, M1.live c = true ∧ 255 < M1.pool.cnt c + occ (M1.join n n1 i d).1.ents c) := by
        obtain ⟨J, hJ⟩ : ∃ J, (M1.join n n1 i d).1 = J := ⟨_, rfl⟩
        rw [hJ] at hlenJ ⊢
        unfold SM.split
        rw [if_neg (by omega)]
        by_cases h0 : J.ents.length = 0
        ·have hp : partsOf J.ents = [] := by unfold partsOf; rw [if_pos h0]
         rw [hp, makes_nil]
         have he : J.ents = [] := List.eq_nil_of_length_eq_zero h0
         rw [he]
         exact ⟨fun _ q => rfl, fun h => (by cases h)⟩
        ·have hp : partsOf J.ents = [J.ents] := by unfold partsOf; rw [if_neg h0, if_neg (by omega)]
         rw [hp, makes_cons]
         obtain ⟨a1, a2⟩ := make_cnt M1 ⟨J.kind, zeros16, J.ents⟩
         by_cases he : (M1.make ⟨J.kind, zeros16, J.ents⟩).2.2 = 0
         ·rw [if_pos he, makes_nil]
          exact ⟨fun _ => a1 he, fun h => (by cases h)⟩
         ·rw [if_neg he]
          exact ⟨fun h => absurd h he, fun h => a2 h⟩
       obtain ⟨c1, c2⟩ := hcnt
       by_cases hs0 : (M1.split (M1.join n n1 i d).1).2.2 = 0
       ·rw [if_pos hs0] at hall ⊢
        refine ⟨fun _ _ q hd => ?_, fun h => (by cases h)⟩
        rcases hall with ⟨e1, _⟩ | ⟨_, _, P2⟩ | ⟨e1, _⟩ | ⟨e1, _⟩
        ·cases e1
        ·have o := (hd.grown P2.grown).ntr P2.tr (Nat.succ_pos h)
         have := hocc q hd
         have := c1 hs0 q
         dsimp only at o ⊢
         omega
        ·cases e1
        ·cases e1
       ·rw [if_neg hs0]
        refine ⟨fun h => absurd h hs0, fun h => ?_⟩
        obtain ⟨c, hc, hs⟩ := c2 h
        refine ⟨c, ?_, fun hd => ?_⟩
        ·have e1 := P.exact.cnt c (live_lt hc)
         have e2 := G1.refs c
         have e3 := occ_le (M1.join n n1 i d).1.ents c
         omega
        ·have := hocc c hd
         omega
      ·rw [if_neg hj] at hall ⊢
       refine ⟨fun h => absurd h hj, fun h => ?_⟩
       rcases hall with ⟨e1, _⟩ | ⟨e1, _⟩ | ⟨e1, _⟩ | ⟨e1, c, hc⟩
       ·injection e1 with _ e1
        injection e1 with _ e1
        injection e1 with _ e1
        exact absurd e1 hj
       ·exact absurd e1 hj
       ·rw [h] at e1; cases e1
       ·exfalso
        have hk2 : ∀ (p : Int) (nx : NM × Nat × Nat × Nat), nx.2.2.2 ≠ 72 → (M1.joinStep n n1 i d p nx).2.2.2 ≠ 72 := by
         intro p nx hnx
         unfold SM.joinStep
         split
         ·exact hnx
         ·dsimp only
          split
          ·split
           ·show (0 : Nat) ≠ 72; decide
           ·exact hnx
          ·rename_i hp ht
           have hpl : p.toNat < n.ents.length := by omega
           have hg : n.ents.getD p.toNat (0, 0) = n.ents[p.toNat] := by simp [List.getD, List.getElem?_eq_getElem hpl]
           obtain ⟨b, hb, _⟩ := hK.each _ (List.getElem_mem hpl)
           obtain ⟨m, hm, _⟩ := tnode_tr (Sub.grown G1 hb).1 (d := d + 1) (by omega)
           rw [hg, hm] at ht
           exact absurd rfl ht
        have : (M1.join n n1 i d).2.2.2 ≠ 72 := by
         unfold SM.join
         split
         ·show (0 : Nat) ≠ 72; decide
         ·unfold SM.joinJ
          exact hk2 _ _ (hk2 _ _ (show (0 : Nat) ≠ 72 by decide))
        exact this h
     ·cases hr
     ·cases hr

theorem cut_thin {M : SM} {ext : Nat → Nat} (E : Exact M ext) {h : Nat} {root key : Int} {l : List (Int × Int)} (t : Tr 1 M (h + 1) root l) (h8 : h + 1 ≤ 8) (g : Good M l) (k0 : 0 ≤ key) (k1 : key < 64) :
  ((M.cut root key).2.2.2 = 0 → ∀ q, Dat M q → (M.cut root key).1.pool.cnt q ≤ M.pool.cnt q + 6) ∧
  ((M.cut root key).2.2.2 = 72 → ∃ c, 255 < M.refs c + 6 * h + 6 + ext c ∧ (Dat M c → 255 < M.pool.cnt c + 6)) := by
 have hne : root ≠ -1 := fun e => by have := (heldB_int t.held).1; omega
 have hc := cutF_ok (key := key) h 0 M l root (by omega) E t g
 have hq := cutF_thin (key := key) h 0 M l root (by omega) E t g
 rw [Nat.sub_zero] at hc hq
 unfold SM.cut
 rw [if_neg (by omega), if_neg hne]
 dsimp only
 obtain ⟨R, hR⟩ : ∃ R, SM.cutF 9 M root key = R := ⟨_, rfl⟩
 rw [hR] at hc hq ⊢
 obtain ⟨M1, n1, was, er⟩ := R
 dsimp only at hc hq ⊢
 by_cases her : er = 0
 ·subst her
  rw [if_neg (by decide)]
  cases was with
  | false =>
   rw [if_pos rfl]
   refine ⟨fun _ q _ => ?_, fun h => (by cases h)⟩
   rcases hc with ⟨e, _⟩ | ⟨_, e, _⟩ | ⟨e, _⟩ | ⟨e, _⟩
   ·injection e with e1 _
    show M1.pool.cnt q ≤ _
    rw [e1]; omega
   ·cases e
   ·cases e
   ·cases e
  | true =>
   rw [if_neg (by decide)]
   rcases hc with ⟨e, _⟩ | ⟨_, _, P⟩ | ⟨e, _⟩ | ⟨e, _⟩
   ·injection e with _ e
    injection e with _ e
    injection e with e _
    cases e
   ·have q1 := hq.1 rfl rfl
    have psum := P.sum
    have phi := P.hi
    have pen := P.entN
    have g1 : Good M1 (cutL l key) := (g.cut key).grown P.grown
    split
    ·exact ⟨fun _ q hd => by have := q1 q hd; show M1.pool.cnt q ≤ _; omega, fun h => (by cases h)⟩
    ·obtain ⟨c1, c2⟩ := split_cnt P.exact P.tr g1 (by omega)
     split
     ·rename_i hs
      refine ⟨fun h q hd => ?_, fun h => ?_⟩
      ·have := c1 h q
       have := q1 q hd
       show (M1.split n1).1.pool.cnt q ≤ _
       omega
      ·obtain ⟨c, hcl, hs2⟩ := c2 h
       refine ⟨c, ?_, fun hd => by have := q1 c hd; omega⟩
       have e1 := P.exact.cnt c (live_lt hcl)
       have e2 := P.grown.refs c
       have e3 := occ_le n1.ents c
       omega
     ·rename_i hs
      refine ⟨fun _ q hd => ?_, fun h => (by cases h)⟩
      have hs0 : (M1.split n1).2.2 = 0 := Classical.byContradiction fun h => hs (.inl h)
      have := c1 hs0 q
      have := q1 q hd
      show (M1.split n1).1.pool.cnt q ≤ _
      omega
   ·cases e
   ·cases e
 ·rw [if_pos her]
  refine ⟨fun h => absurd h her, fun h => ?_⟩
  have h : er = 72 := h
  obtain ⟨c, h1, h2⟩ := hq.2 h
  exact ⟨c, by omega, h2⟩

theorem dropF_cnt (q : Nat) : ∀ (f : Nat) (M : SM) (i : Int), (SM.dropF f M i).1.pool.cnt q ≤ M.pool.cnt q
 | 0, M, _ => Nat.le_refl _
 | f + 1, M, i => by
  have hdrop : (M.pool.dropTo i.toNat).cnt q ≤ M.pool.cnt q := by
   unfold PM.dropTo
   split
   ·unfold PM.setCnt
    dsimp only
    split
    ·rename_i e; rw [e]; omega
    ·omega
   ·unfold PM.setCnt PM.setSt
    dsimp only
    split
    ·omega
    ·omega
  rw [dropF_succ]
  split
  ·split
   ·split
    ·exact hdrop
    ·have key : ∀ (l : List Int) (s : SM × Nat), (dropAllF f s l).1.pool.cnt q ≤ s.1.pool.cnt q := by
      intro l
      induction l with
      | nil => intro s; exact Nat.le_refl _
      | cons c l ih =>
       intro s
       unfold dropAllF
       rw [List.foldl_cons]
       split
       ·exact Nat.le_trans (ih _) (dropF_cnt q f _ _)
       ·exact ih _
     exact Nat.le_trans (key _ _) hdrop
   ·exact hdrop
  ·exact Nat.le_refl _
theorem swap_cnt (M : SM) {old next : Int} {q : Nat} (hq : next ≠ (q : Int)) : (M.swap old next).1.pool.cnt q ≤ M.pool.cnt q := by
 unfold SM.swap
 dsimp only
 have h1 : (if next = -1 then (M, 0) else M.hold next).1.pool.cnt q ≤ M.pool.cnt q := by
  split
  ·exact Nat.le_refl _
  ·unfold SM.hold PM.holdTo
   dsimp only
   split
   ·rename_i hn hh
    simp only [Bool.and_eq_true] at hh
    have h0 := (heldB_int hh.1).1
    unfold PM.setCnt
    dsimp only
    split
    ·omega
    ·omega
   ·exact Nat.le_refl _
 obtain ⟨R, hR⟩ : ∃ R, (if next = -1 then (M, 0) else M.hold next) = R := ⟨_, rfl⟩
 rw [hR] at h1 ⊢
 split
 ·split
  ·exact h1
  ·exact Nat.le_trans (dropF_cnt q _ _ _) h1
 ·exact h1

theorem change_thin {M : SM} {ext : Nat → Nat} {root : Int} {l : List (Int × Int)} {P : Nat} (E : Exact M ext) (hL : Loose M []) (t : TreeIn 1 M root l P) (hP : P + 1 ≤ 240) (hr : root = -1 ∨ 0 < ext root.toNat) {c : Int × Int} (k0 : 0 ≤ c.1) (k1 : c.1 < 64) (hx : c.2 = -1 ∨ M.pool.heldB c.2 = true) :
  ((M.change root c).2.2 = 0 → ∀ q, Dat M q → (M.change root c).1.pool.cnt q ≤ M.pool.cnt q + 7) ∧
  ((M.change root c).2.2 = 72 → ∃ q, 255 ≤ M.refs q + 38 + ext q ∧ (Dat M q → 255 < M.pool.cnt q + 7)) := by
 obtain ⟨k, hro, hk, hled⟩ := t.rooted (by omega)
 have hl : Loose M (if c.2 = -1 then [] else [c]) := hL.mono fun y hy => (by cases hy)
 have hok := change_ok (m := 1) (by decide) E t hP hr k0 k1 hx hl (fun _ => rfl)
 have one : ((M.one root c).2.2 = 0 → ∀ q, Dat M q → (M.one root c).1.pool.cnt q ≤ M.pool.cnt q + 7) ∧ ((M.one root c).2.2 = 72 → ∃ q, 255 ≤ M.refs q + 38 + ext q ∧ (Dat M q → 255 < M.pool.cnt q + 7)) := by
  unfold SM.one
  by_cases hc : c.2 = -1
  ·rw [if_pos hc]
   rcases t.root with ⟨e, el⟩ | ⟨h, tt, j⟩
   ·have hcut : M.cut root c.1 = (M, -1, false, 0) := by
     unfold SM.cut
     rw [if_neg (by omega), if_pos e]
    rw [hcut]
    exact ⟨fun _ q _ => Nat.le_add_right _ _, fun h => (by cases h)⟩
   ·obtain ⟨h, rfl⟩ : ∃ i, h = i + 1 := ⟨h - 1, by have := tr_pos tt; omega⟩
    have h5 := (led_pages tt j (by omega)).1
    obtain ⟨a1, a2⟩ := cut_thin (key := c.1) E tt (by omega) (t.good E) k0 k1
    refine ⟨fun h q hd => by have := a1 h q hd; dsimp only; omega, fun h => ?_⟩
    obtain ⟨q, h1, h2⟩ := a2 h
    exact ⟨q, by omega, fun hd => by have := h2 hd; omega⟩
  ·rw [if_neg hc]
   obtain ⟨a1, a2⟩ := put_thin (m := 1) (by decide) E hro (by omega) (t.good E) (key := c.1) (page := c.2) (hx.resolve_left hc) k0 k1
   refine ⟨a1, fun h => ?_⟩
   obtain ⟨q, h1, h2⟩ := a2 h
   exact ⟨q, by omega, h2⟩
 have hne : ∀ q, Dat M q → (M.one root c).2.2 = 0 → (M.one root c).2.1 ≠ (q : Int) := fun q hd h0 he => by
  by_cases hc : c.2 = -1
  ·rcases t.root with ⟨e, el⟩ | ⟨h, tt, j⟩
   ·have hcut : M.one root c = (M, -1, 0) := by
     unfold SM.one SM.cut
     rw [if_pos hc, if_neg (by omega), if_pos e]
    rw [hcut] at he
    have he : (-1 : Int) = q := he
    omega
   ·obtain ⟨h, rfl⟩ : ∃ i, h = i + 1 := ⟨h - 1, by have := tr_pos tt; omega⟩
    have hone : M.one root c = ((M.cut root c.1).1, (M.cut root c.1).2.1, (M.cut root c.1).2.2.2) := by unfold SM.one; rw [if_pos hc]
    rw [hone] at he h0
    have h5 := (led_pages tt j (by omega)).1
    have he : (M.cut root c.1).2.1 = (q : Int) := he
    rcases cut_ok (key := c.1) E tt (by omega) (t.good E) hL k0 k1 with ⟨e, hno⟩ | ⟨e, ew, T⟩ | ⟨e, hf⟩ | ⟨e, _⟩
    ·rw [e] at he
     have he : root = (q : Int) := he
     rw [he] at tt
     exact hd.tr tt
    ·rcases T.tr with ⟨e1, _⟩ | ⟨h', _, t', _⟩
     ·omega
     ·rw [he] at t'
      exact (hd.grown T.grown).tr t'
    ·have h0 : (M.cut root c.1).2.2.2 = 0 := h0
     rw [h0] at e; cases e
    ·have h0 : (M.cut root c.1).2.2.2 = 0 := h0
     rw [h0] at e; cases e
  ·have hone : M.one root c = M.put root c.1 c.2 := by unfold SM.one; rw [if_neg hc]
   rw [if_neg hc] at hl
   rw [hone] at he h0
   rcases put_new (m := 1) (by decide) E hro (by omega) (t.good E) (key := c.1) (page := c.2) hl (hx.resolve_left hc) k0 k1 with ⟨e, T⟩ | ⟨e1, e, hf⟩ | ⟨e1, e, _⟩
   ·obtain ⟨h', t', _⟩ := T.tr
    rw [he] at t'
    exact (hd.grown T.grown).tr t'
   ·rw [h0] at e; cases e
   ·rw [h0] at e; cases e
 unfold SM.change at hok ⊢
 dsimp only at hok ⊢
 by_cases h0 : (M.one root c).2.2 = 0
 ·rw [if_pos h0] at hok ⊢
  by_cases hs : ((M.one root c).1.swap root (M.one root c).2.1).2 = 0
  ·rw [if_pos hs]
   refine ⟨fun _ q hd => ?_, fun h => (by cases h)⟩
   exact Nat.le_trans (swap_cnt _ (hne q hd h0)) (one.1 h0 q hd)
  ·rw [if_neg hs] at hok ⊢
   refine ⟨fun h => absurd h hs, fun h => ?_⟩
   have h72 : ((M.one root c).1.swap root (M.one root c).2.1).2 = 72 := h
   have hroot : ∃ q : Nat, (M.one root c).2.1 = (q : Int) ∧ 255 ≤ M.refs q + 38 + ext q := by
    have fin : ∀ {M1 : SM} {next : Int} {l' : List (Int × Int)}, M.one root c = (M1, next, 0) → Exact M1 ext → Grown M M1 → Loose M1 [((0 : Int), next)] → M1.sum ≤ M.sum + 38 → TreeIn 1 M1 next l' (P + 1) → ∃ q : Nat, (M.one root c).2.1 = (q : Int) ∧ 255 ≤ M.refs q + 38 + ext q := by
     intro M1 next l' ho E1 g hl1 hsm t1
     have hr' : root = -1 ∨ (M.pool.heldB root = true ∧ 0 < ext root.toNat) := by
      rcases t.root with ⟨e, _⟩ | ⟨h, t, _⟩
      ·exact .inl e
      ·have hh := t.held
       have h0 := (heldB_int hh).1
       refine .inr ⟨hh, ?_⟩
       rcases hr with e | e
       ·omega
       ·exact e
     rw [ho] at h72
     rcases changed_of E1 g hl1 hr' t1 with ⟨e, _⟩ | ⟨_, h⟩
     ·rw [e] at h72; cases h72
     ·have hg := g.refs next.toNat
      have hn0 : 0 ≤ next := by
       rcases t1.root with ⟨e, _⟩ | ⟨_, t2, _⟩
       ·subst e
        exfalso
        have : (M1.swap root (-1)).2 ≠ 72 := by
         rcases changed_of E1 g hl1 hr' t1 with ⟨e, _⟩ | ⟨h5, h6⟩
         ·rw [e]; decide
         ·intro _
          unfold SM.swap at h72
          dsimp only at h72
          rw [if_pos rfl, if_pos rfl] at h72
          split at h72
          ·cases h72
          ·rename_i hne
           have hsw := swap_ok E1 (old := root) (next := -1) (.inl rfl) (hr'.imp id fun ⟨a, b⟩ => ⟨g.held a, b⟩)
           have h7 := hsw.1
           rw [h5] at h7
           cases h7
        exact this h72
       ·exact (heldB_int t2.held).1
      refine ⟨next.toNat, ?_, by omega⟩
      rw [ho]
      show next = _
      omega
    by_cases hc : c.2 = -1
    ·have hone : M.one root c = ((M.cut root c.1).1, (M.cut root c.1).2.1, (M.cut root c.1).2.2.2) := by unfold SM.one; rw [if_pos hc]
     rcases t.root with ⟨e, el⟩ | ⟨h, tt, j⟩
     ·have hcut : M.cut root c.1 = (M, -1, false, 0) := by
       unfold SM.cut
       rw [if_neg (by omega), if_pos e]
      rw [hcut] at hone
      exact fin hone E (Grown.refl M) (hL.mono fun y hy => (by cases hy)) (show M.sum ≤ M.sum + 38 by omega) (l' := []) (TreeIn.none _ M _)
     ·obtain ⟨h, rfl⟩ : ∃ i, h = i + 1 := ⟨h - 1, by have := tr_pos tt; omega⟩
      have h5 := (led_pages tt j (by omega)).1
      have h0' : (M.cut root c.1).2.2.2 = 0 := by rw [hone] at h0; exact h0
      rcases cut_ok (key := c.1) E tt (by omega) (t.good E) hL k0 k1 with ⟨e, hno⟩ | ⟨e, ew, T⟩ | ⟨e, hf⟩ | ⟨e, _⟩
      ·rw [e] at hone
       exact fin hone E (Grown.refl M) (hL.mono fun y hy => (by cases hy)) (show M.sum ≤ M.sum + 38 by omega) (t.weak (Nat.le_succ P))
      ·have ts := T.sum
       rw [h0'] at hone
       exact fin hone T.exact T.grown T.loose (by omega) (l' := cutL l c.1) ⟨T.tr.imp id fun ⟨h', _, t', k', _⟩ => ⟨h', t', (k' P j).weak (Nat.le_succ P)⟩, cutL_rises t.keys.1 _, fun y hy => t.keys.2 y (List.mem_filter.1 hy).1⟩
      ·rw [h0'] at e; cases e
      ·rw [h0'] at e; cases e
    ·have hone : M.one root c = M.put root c.1 c.2 := by unfold SM.one; rw [if_neg hc]
     rw [if_neg hc] at hl
     have h0' : (M.put root c.1 c.2).2.2 = 0 := by rw [hone] at h0; exact h0
     have hx' := hx.resolve_left hc
     rcases put_new (m := 1) (by decide) E hro (by omega) (t.good E) (key := c.1) (page := c.2) hl hx' k0 k1 with ⟨e, T⟩ | ⟨e1, e, hf⟩ | ⟨e1, e, _⟩
     ·have ts := T.sum
      obtain ⟨h', tt, _, j⟩ := T.led (P + 1) ⟨P, rfl, hled⟩
      have hone' : M.one root c = ((M.put root c.1 c.2).1, (M.put root c.1 c.2).2.1, 0) := by rw [hone, ← e]
      have g := (t.good E).put (x := c) k0 k1 hx'
      exact fin hone' T.exact T.grown (T.loose [] rfl) (by omega) (l' := putL l c) ⟨.inr ⟨h', tt, j⟩, g.1, fun y hy => ⟨(g.2 y hy).1, (g.2 y hy).2.1⟩⟩
     ·rw [h0'] at e; cases e
     ·rw [h0'] at e; cases e
   obtain ⟨q, hq1, hq2⟩ := hroot
   exact ⟨q, hq2, fun hd => absurd hq1 (hne q hd h0)⟩
 ·rw [if_neg h0]
  refine ⟨fun h => absurd h h0, fun h => ?_⟩
  exact one.2 h
def extB (bl : List Nat) (root : Int) : Nat → Nat := fun p => bl.count p + (if (p : Int) = root then 1 else 0)
structure Besides (K : SM → Prop) (c : Nat) : Prop where
 closed : Closed K
 room : ∀ M, K M → M.pool.size ≤ M.pool.freeCount + M.liveN + c
structure OneTree (K : SM → Prop) (s : Nat) (bl : List Nat) (M : SM) (root : Int) (l : List (Int × Int)) (P : Nat) : Prop where
 exact : Exact M (extB bl root)
 size : M.pool.size = s
 kk : K M
 data : ∀ b ∈ bl, M.live b = true ∧ ∃ d, M.nodeAt b = some d ∧ d.kind = 1 ∧ d.ents = []
 keys : RisesK l ∧ ∀ y ∈ l, 0 ≤ y.1 ∧ y.1 < 64 ∧ ∃ b ∈ bl, y.2 = ((b : Nat) : Int)
 root : (root = -1 ∧ l = []) ∨ ∃ h, Tr 1 M h root l ∧ Led M h root P
 loose : Loose M []
theorem clean_besides : Besides Clean 0 := ⟨clean_closed, fun M h => by have := clean_free h; omega⟩
section
variable {K : SM → Prop} {s c : Nat} {bl : List Nat} {M : SM} {root : Int} {l : List (Int × Int)} {P : Nat}
theorem OneTree.good (h : OneTree K s bl M root l P) : Good M l := ⟨h.keys.1, fun y hy => by
 obtain ⟨a, b, d, hd, e⟩ := h.keys.2 y hy
 refine ⟨a, b, ?_⟩
 rw [e, heldB_nat]
 exact (h.data d hd).1⟩
theorem OneTree.len (h : OneTree K s bl M root l P) : l.length ≤ 64 := rises_len h.keys.1 fun y hy => ⟨(h.keys.2 y hy).1, (h.keys.2 y hy).2.1⟩
theorem OneTree.pages (h : OneTree K s bl M root l P) (hP : P ≤ 150) : ∃ L : List Nat, (root = -1 ∨ root.toNat ∈ L) ∧ (∀ q, M.live q = true → q ∈ bl ++ L) ∧ L.length ≤ 73 ∧ entSum M L ≤ 137 ∧ 2 * L.length ≤ P + 3 ∧ (root = -1 → L = []) := by
 have h64 := h.len
 have key : ∃ L : List Nat, (root = -1 ∨ root.toNat ∈ L) ∧ (∀ q ∈ L, ∀ x ∈ M.ents q, x.2.toNat ∈ L ∨ x ∈ l) ∧ L.length ≤ 73 ∧ entSum M L ≤ 137 ∧ 2 * L.length ≤ P + 3 ∧ (root = -1 → L = []) := by
  rcases h.root with ⟨e, _⟩ | ⟨hh, t, k⟩
  ·exact ⟨[], .inl e, fun q hq => (by cases hq), Nat.zero_le _, Nat.zero_le _, by show 2 * 0 ≤ _; omega, fun _ => rfl⟩
  ·obtain ⟨_, p1, p2⟩ := led_pages t k (by omega)
   have p1 := p1 hP
   have p3 := pages_sum t
   exact ⟨pagesF M hh root, .inr (pages_self (tr_pos t)), pages_closed t, p1, by omega, p2, fun e => by have := (heldB_int t.held).1; omega⟩
 obtain ⟨L, a1, a2, a3, a4, a5, a6⟩ := key
 refine ⟨L, a1, ?_, a3, a4, a5, a6⟩
 refine reach_all h.exact h.loose (fun q _ hq => ?_) (fun q hq x hx => ?_)
 ·unfold extB at hq
  by_cases e : (q : Int) = root
  ·rcases a1 with a1 | a1
   ·omega
   ·rw [← e, Int.toNat_natCast] at a1
    exact List.mem_append_right _ a1
  ·rw [if_neg e, Nat.add_zero] at hq
   exact List.mem_append_left _ (List.count_pos_iff.1 hq)
 ·rcases List.mem_append.1 hq with hq | hq
  ·obtain ⟨_, d, hd, _, he⟩ := h.data q hq
   rw [ents_of hd, he] at hx
   cases hx
  ·rcases a2 q hq x hx with e | e
   ·exact List.mem_append_right _ e
   ·obtain ⟨_, _, b, hb, hbe⟩ := h.keys.2 x e
    rw [hbe, Int.toNat_natCast]
    exact List.mem_append_left _ hb
theorem data_sum (h : ∀ b ∈ bl, ∃ d, M.nodeAt b = some d ∧ d.ents = []) : entSum M bl = 0 := by
 induction bl with
 | nil => rfl
 | cons b bl ih =>
  obtain ⟨d, hd, he⟩ := h b (List.mem_cons_self ..)
  have := ih (fun b hb => h b (List.mem_cons_of_mem _ hb))
  unfold entSum at this ⊢
  rw [List.map_cons, List.sum_cons, ents_of hd, he, this]
  rfl
theorem OneTree.room (h : OneTree K s bl M root l P) (hB : Besides K c) (hP : P ≤ 150) : s ≤ M.pool.freeCount + bl.length + 73 + c ∧ M.sum ≤ 137 := by
 obtain ⟨L, _, a2, a3, a4, _⟩ := h.pages hP
 have c1 := hB.room M h.kk
 have c2 := liveN_list a2
 have c3 := sumE_list a2
 rw [entSum_append, data_sum (fun b hb => by obtain ⟨_, d, hd, _, he⟩ := h.data b hb; exact ⟨d, hd, he⟩)] at c3
 rw [List.length_append] at c2
 rw [h.size] at c1
 omega
theorem OneTree.rooted (h : OneTree K s bl M root l P) (hP : P ≤ 150) : ∃ k, Rooted 1 M root l k ∧ k ≤ 5 ∧ (root = -1 ∨ Led M k root P) := by
 rcases h.root with ⟨e1, e2⟩ | ⟨k, t, j⟩
 ·exact ⟨0, .inl ⟨e1, e2, rfl⟩, Nat.zero_le _, .inl e1⟩
 ·exact ⟨k, .inr t, (led_pages t j (by omega)).1, .inr j⟩
theorem OneTree.list (h : OneTree K s bl M root l P) (hP : P ≤ 150) : M.list root = (l, 0) := by
 obtain ⟨k, hr, hk, _⟩ := h.rooted hP
 exact listR_ok hr (by omega)
theorem OneTree.listG (h : OneTree K s bl M root l P) (hP : P ≤ 150) {M' : SM} (g : Grown M M') : M'.list root = (l, 0) := by
 obtain ⟨k, hr, hk, _⟩ := h.rooted hP
 exact listR_ok (hr.imp id fun t => Tr.grown g t) (by omega)
theorem OneTree.swapped (h : OneTree K s bl M root l P) (hB : Besides K c) {M1 : SM} {next : Int} {l' : List (Int × Int)} {P' : Nat} (hk1 : K M1) (E1 : Exact M1 (extB bl root)) (g : Grown M M1)
  (hl1 : Loose M1 [((0 : Int), next)]) (hs : M1.sum ≤ 240) (hbl : bl.length ≤ 5) (hkeys : RisesK l' ∧ ∀ y ∈ l', 0 ≤ y.1 ∧ y.1 < 64 ∧ ∃ b ∈ bl, y.2 = ((b : Nat) : Int))
  (ht : (next = -1 ∧ l' = []) ∨ ∃ h', Tr 1 M1 h' next l' ∧ Led M1 h' next P') :
  (M1.swap root next).2 = 0 ∧ OneTree K s bl (M1.swap root next).1 next l' P' ∧ (M1.swap root next).1.log = M1.log := by
 have hextb : ∀ q, extB bl root q ≤ 6 := fun q => by
  unfold extB
  have : bl.count q ≤ bl.length := List.count_le_length
  split <;> omega
 have hn : next = -1 ∨ (M1.pool.heldB next = true ∧ M1.pool.cnt next.toNat < 255) := by
  rcases ht with ⟨e, _⟩ | ⟨h', t, _⟩
  ·exact .inl e
  ·have h1 := t.held
   have h2 := E1.cnt_le (heldB_int h1).2
   have h3 := hextb next.toNat
   exact .inr ⟨h1, by omega⟩
 have hold : root = -1 ∨ (M1.pool.heldB root = true ∧ 0 < extB bl root root.toNat) := by
  rcases h.root with ⟨hr, _⟩ | ⟨k, t, _⟩
  ·exact .inl hr
  ·have h0 := (heldB_int t.held).1
   exact .inr ⟨g.held t.held, by unfold extB; rw [if_pos (by omega)]; omega⟩
 obtain ⟨r1, E2, hlog, hsz, hlv, hlo⟩ := swap_ok E1 hn hold
 have hK2 : K (M1.swap root next).1 := hB.closed.swap _ _ hk1
 obtain ⟨M2, hM2⟩ : ∃ M2, (M1.swap root next).1 = M2 := ⟨_, rfl⟩
 rw [hM2] at E2 hlog hsz hlv hlo hK2 ⊢
 have hnode : ∀ q, M2.nodeAt q = M1.nodeAt q := fun q => by unfold SM.nodeAt; rw [hlog]
 have E2' : Exact M2 (extB bl next) := exact_congr E2 (fun p _ => by
  unfold swapE extB
  by_cases e1 : (p : Int) = root <;> by_cases e2 : (p : Int) = next <;> simp [e1, e2] <;> omega)
 refine ⟨r1, ⟨E2', by rw [hsz, g.size, h.size], hK2, fun b hb => ?_, hkeys, ?_, fun q hq hc => ?_⟩, hlog⟩
 ·obtain ⟨hbl, d, hd, hk⟩ := h.data b hb
  refine ⟨?_, d, by rw [hnode, g.node b hbl]; exact hd, hk⟩
  have := ext_held E2' (p := b) (by rw [hsz, g.size]; exact live_lt hbl) (by unfold extB; have := List.count_pos_iff.2 hb; omega)
  rw [heldB_nat] at this
  exact this
 ·rcases ht with ht | ⟨h', t, k⟩
  ·exact .inl ht
  ·right
   have hn := t.held
   have hn0 := (heldB_int hn).1
   have hnext2 : M2.pool.heldB next = true := by
    obtain ⟨c, hc⟩ := Int.eq_ofNat_of_zero_le hn0
    rw [hc]
    refine ext_held E2' ?_ (by unfold extB; rw [if_pos hc.symm]; omega)
    rw [hsz]
    have := live_lt (M := M1) (heldB_int hn).2
    rw [hc, Int.toNat_natCast] at this
    exact this
   exact ⟨h', Tr.stays E2' hlog t hnext2, Led.same (fun q _ => hnode q) t k⟩
 ·obtain ⟨c1, c2⟩ := hlo q hq hc
  obtain ⟨x, hx, he⟩ := hl1 q (hlv q hq) c1
  rw [List.mem_singleton] at hx
  rw [hx] at he
  exact absurd he.symm c2
theorem one_put (h : OneTree K s bl M root l P) (hB : Besides K c) (hP : P + 1 ≤ 150) (hbl : bl.length ≤ 5) (hs : 5 + 73 + c + 20 ≤ s) {key page : Int} (k0 : 0 ≤ key) (k1 : key < 64) (hp : ∃ b ∈ bl, page = ((b : Nat) : Int)) :
  (M.put root key page).2.2 = 0 ∧ ((M.put root key page).1.swap root (M.put root key page).2.1).2 = 0 ∧ OneTree K s bl ((M.put root key page).1.swap root (M.put root key page).2.1).1 (M.put root key page).2.1 (putL l (key, page)) (P + 1) ∧
   (M.put root key page).1.list root = (l, 0) := by
 obtain ⟨k, hr, hk, hled⟩ := h.rooted (by omega)
 obtain ⟨r1, r2⟩ := h.room hB (by omega)
 have hx : M.pool.heldB page = true := by
  obtain ⟨b, hb, e⟩ := hp
  rw [e, heldB_nat]
  exact (h.data b hb).1
 have hextb : ∀ q, extB bl root q ≤ 6 := fun q => by
  unfold extB
  have : bl.count q ≤ bl.length := List.count_le_length
  split <;> omega
 rcases put_ok (m := 1) (by decide) h.exact hr (by omega) h.good h.loose hx k0 k1 with ⟨e, T⟩ | ⟨_, e, hf⟩ | ⟨_, e, c, hc⟩
 ·have hk1 : K (M.put root key page).1 := hB.closed.put _ _ _ h.kk
  have ts := T.sum
  have g := h.good.put (x := (key, page)) k0 k1 hx
  obtain ⟨M1, hM1⟩ : ∃ M1, (M.put root key page).1 = M1 := ⟨_, rfl⟩
  obtain ⟨next, hnext⟩ : ∃ next, (M.put root key page).2.1 = next := ⟨_, rfl⟩
  rw [hM1, hnext] at T
  rw [hM1] at hk1 ts ⊢
  rw [hnext]
  obtain ⟨h', t, _, j⟩ := T.led (P + 1) ⟨P, rfl, hled⟩
  obtain ⟨s1, s2, _⟩ := h.swapped hB (l' := putL l (key, page)) (P' := P + 1) hk1 T.exact T.grown (T.loose [] rfl) (by omega) hbl ⟨g.1, fun y hy => by
   refine ⟨(g.2 y hy).1, (g.2 y hy).2.1, ?_⟩
   rcases putL_mem hy with rfl | hy
   ·exact hp
   ·exact (h.keys.2 y hy).2.2⟩ (.inr ⟨h', t, j⟩)
  exact ⟨e, s1, s2, h.listG (by omega) T.grown⟩
 ·exfalso; omega
 ·exfalso; have hrl := M.refs_le c; have := hextb c; omega
end
section
variable {K : SM → Prop} {s c : Nat} {bl : List Nat} {M : SM} {root : Int} {l : List (Int × Int)} {P : Nat}
theorem build_one (hB : Besides K c) (hbl : bl.length ≤ 5) (hs : 5 + 73 + c + 20 ≤ s) : ∀ (ks : List (Int × Int)) {M : SM} {root : Int} {l : List (Int × Int)} {P : Nat}, OneTree K s bl M root l P → P + ks.length ≤ 150 →
  (∀ y ∈ ks, 0 ≤ y.1 ∧ y.1 < 64 ∧ ∃ b ∈ bl, y.2 = ((b : Nat) : Int)) →
  ∃ M' root', SM.build ks M root = (M', root', 0) ∧ OneTree K s bl M' root' (ks.foldl putL l) (P + ks.length) ∧ M'.log.length ≤ M.log.length + 22 * ks.length
 | [], M, root, _, _, h, _, _ => ⟨M, root, rfl, h, Nat.le_refl _⟩
 | x :: ks, M, root, l, P, h, hP, hks => by
  obtain ⟨hx0, hx1, hx2⟩ := hks x (List.mem_cons_self ..)
  obtain ⟨x1, x2⟩ := x
  dsimp only at hx0 hx1 hx2
  rw [List.length_cons] at hP
  obtain ⟨e1, e2, hI, _⟩ := one_put h hB (by omega) hbl hs hx0 hx1 hx2
  have hl1 := put_log M root x1 x2
  have hl2 := swap_log (M.put root x1 x2).1 root (M.put root x1 x2).2.1
  obtain ⟨M', root', e3, hI', hl⟩ := build_one hB hbl hs ks hI (by omega) (fun y hy => hks y (List.mem_cons_of_mem _ hy))
  refine ⟨M', root', ?_, by rw [List.length_cons, show P + (ks.length + 1) = P + 1 + ks.length by omega]; exact hI', by rw [hl2] at hl; rw [List.length_cons]; omega⟩
  rw [build_cons]
  dsimp only
  rw [if_pos e1, if_pos e2, e3]
end

theorem kids_len {T : Int → List (Int × Int) → Prop} {f : Int → Nat} (hT : ∀ q a, T q a → f q ≤ a.length) : ∀ {es l : List (Int × Int)}, Kids T es l → (es.map fun e => f e.2).sum ≤ l.length
 | [], _, _ => Nat.zero_le _
 | e :: es, _, ⟨a, b, x, h1, h2, _, _, h5⟩ => by
  have i1 := hT _ _ h2
  have i2 := kids_len hT h5
  rw [List.map_cons, List.sum_cons, h1, List.length_append]
  omega
theorem tr_ge {m : Nat} {M : SM} : ∀ {h : Nat} {p : Int} {l : List (Int × Int)}, Tr m M h p l → M.entN p ≤ l.length ∧ 1 ≤ M.entN p
 | 0, _, _, t => t.elim
 | h + 1, p, l, ⟨hp, n, hn, hok, k⟩ => by
  have hin := innerOk_of hok (by have := k.kind; omega)
  rw [entN_of hn]
  refine ⟨?_, hin.pos⟩
  rcases k with ⟨_, _, hl⟩ | ⟨_, _, hK⟩
  ·rw [hl]; exact Nat.le_refl _
  ·have := kids_len (f := fun _ => 1) (fun q a ha => Nat.le_trans (tr_ge ha.1).2 (tr_ge ha.1).1) hK
   have e : ∀ es : List (Int × Int), (es.map fun _ => 1).sum = es.length := fun es => by
    induction es with
    | nil => rfl
    | cons e es ih => rw [List.map_cons, List.sum_cons, ih, List.length_cons]; omega
   rw [e] at this
   exact this
structure IM where
 root : Int
 l : List (Int × Int)
 P : Nat
 w : Int → List Nat
def IM.none : IM := ⟨-1, [], 0, fun _ => zeros16⟩
def extL (rs : List Int) : Nat → Nat := fun p => rs.count (p : Int)
section
variable {m : Nat} {M N : SM} {is : List IM} {i : IM} {k : Nat}
theorem extL_pos {rs : List Int} {r : Int} (h : r ∈ rs) (h0 : 0 ≤ r) : 0 < extL rs r.toNat := by
 unfold extL
 rw [Int.toNat_of_nonneg h0]
 exact List.count_pos_iff.2 h
theorem extL_root {rs : List Int} {r : Int} (h : r ∈ rs) (h0 : -1 ≤ r) : r = -1 ∨ 0 < extL rs r.toNat := by
 by_cases e : r = -1
 ·exact .inl e
 ·exact .inr (extL_pos h (by omega))
theorem extL_set {rs : List Int} {r next : Int} {k : Nat} (h : rs[k]? = some r) (p : Nat) : swapE (extL rs) r next p = extL (rs.set k next) p := by
 have hk : k < rs.length := (List.getElem?_eq_some_iff.1 h).1
 have hr := (List.getElem?_eq_some_iff.1 h).2
 unfold swapE extL
 rw [List.count_set hk, hr]
 by_cases e1 : (p : Int) = r <;> by_cases e2 : (p : Int) = next
 ·rw [if_pos e1, if_pos e2]
  have a1 : (r == (p : Int)) = true := by simp [e1]
  have a2 : (next == (p : Int)) = true := by simp [e2]
  simp only [a1, a2, if_true]
  have : 0 < List.count (p : Int) rs := List.count_pos_iff.2 (by rw [e1, ← hr]; exact List.getElem_mem hk)
  omega
 ·rw [if_pos e1, if_neg e2]
  have a1 : (r == (p : Int)) = true := by simp [e1]
  have a2 : (next == (p : Int)) = false := by simp; omega
  simp only [a1, a2, if_true]
  simp
 ·rw [if_neg e1, if_pos e2]
  have a1 : (r == (p : Int)) = false := by simp; omega
  have a2 : (next == (p : Int)) = true := by simp [e2]
  simp only [a1, a2, if_true]
  simp
 ·rw [if_neg e1, if_neg e2]
  have a1 : (r == (p : Int)) = false := by simp; omega
  have a2 : (next == (p : Int)) = false := by simp; omega
  simp only [a1, a2]
  simp
theorem TreeIn.low {m : Nat} {M : SM} {root : Int} {l : List (Int × Int)} {P : Nat} (t : TreeIn m M root l P) : -1 ≤ root := by
 rcases t.root with ⟨e, _⟩ | ⟨_, t, _⟩
 ·omega
 ·have := (heldB_int t.held).1; omega
end
section
variable {m : Nat} {M : SM} {is : List IM} {i : IM} {k : Nat}
end
def findL : List (Int × Int) → Int → Int
 | [], _ => -1
 | y :: l, key => if y.1 = key then y.2 else findL l key
theorem findL_none : ∀ {l : List (Int × Int)} {key : Int}, (∀ y ∈ l, y.1 ≠ key) → findL l key = -1
 | [], _, _ => rfl
 | y :: l, key, h => by
  unfold findL
  rw [if_neg (h y (List.mem_cons_self ..)), findL_none fun z hz => h z (List.mem_cons_of_mem _ hz)]
section
variable {K : SM → Prop} {s : Nat} {bl : List Nat} {M : SM} {root : Int} {l : List (Int × Int)} {P : Nat}
end
def putStep (x : Int × Int) (s : List (Int × Int) × Bool) (y : Int × Int) : List (Int × Int) × Bool :=
 let s1 := if s.2 = false ∧ x.1 ≤ y.1 then (s.1 ++ [x], true) else s
 (if y.1 ≠ x.1 then s1.1 ++ [y] else s1.1, s1.2)
def refPut (l : List (Int × Int)) (x : Int × Int) : List (Int × Int) :=
 let s := l.foldl (putStep x) ([], false)
 if s.2 then s.1 else s.1 ++ [x]
theorem put_true (x : Int × Int) : ∀ (l a : List (Int × Int)), l.foldl (putStep x) (a, true) = (a ++ l.filter fun y => decide (y.1 ≠ x.1), true)
 | [], a => by simp
 | y :: l, a => by
  rw [List.foldl_cons]
  have : putStep x (a, true) y = (a ++ [y].filter (fun y => decide (y.1 ≠ x.1)), true) := by
   unfold putStep
   by_cases e : y.1 = x.1 <;> simp [e]
  rw [this, put_true x l, List.append_assoc, ← List.filter_append, List.singleton_append]
theorem refPut_eq {l : List (Int × Int)} (hr : RisesK l) (x : Int × Int) : refPut l x = putL l x := by
 have key : ∀ (l a : List (Int × Int)), RisesK l → (let s := l.foldl (putStep x) (a, false); if s.2 then s.1 else s.1 ++ [x]) = a ++ putL l x := by
  intro l
  induction l with
  | nil => intro a _; rfl
  | cons y l ih =>
   intro a hr
   have hr' := List.pairwise_cons.1 hr
   rw [List.foldl_cons]
   by_cases hy : x.1 ≤ y.1
   ·have hst : putStep x (a, false) y = (a ++ [x] ++ [y].filter (fun y => decide (y.1 ≠ x.1)), true) := by
     unfold putStep
     by_cases e : y.1 = x.1
     ·have : x.1 ≤ x.1 := Int.le_refl _
      simp [e]
     ·simp [e, hy]
    have hall : l.filter (fun y => decide (y.1 ≠ x.1)) = l := filter_all fun z hz => by have := hr'.1 z hz; simp; omega
    have h1 : (y :: l).filter (fun z => decide (z.1 < x.1)) = [] := filter_none fun z hz => by
     rcases List.mem_cons.1 hz with rfl | hz
     ·simp; omega
     ·have := hr'.1 z hz; simp; omega
    have h2 : l.filter (fun z => decide (x.1 < z.1)) = l := filter_all fun z hz => by have := hr'.1 z hz; simp; omega
    rw [hst, put_true]
    dsimp only
    rw [if_pos rfl, hall]
    unfold putL
    rw [h1, List.nil_append, List.append_assoc, List.append_assoc]
    congr 2
    by_cases e : y.1 = x.1
    ·have h3 : (y :: l).filter (fun z => decide (x.1 < z.1)) = l := by rw [List.filter_cons_of_neg (by simp; omega), h2]
     rw [h3]
     simp [e]
    ·have h3 : (y :: l).filter (fun z => decide (x.1 < z.1)) = y :: l := by rw [List.filter_cons_of_pos (by simp; omega), h2]
     rw [h3]
     simp [e]
   ·have hst : putStep x (a, false) y = (a ++ [y], false) := by
     unfold putStep
     have : y.1 ≠ x.1 := by omega
     simp [hy, this]
    rw [hst, ih _ hr'.2]
    unfold putL
    rw [List.filter_cons_of_pos (by simp; omega), List.filter_cons_of_neg (by simp; omega)]
    simp
 have := key l [] hr
 rw [List.nil_append] at this
 exact this
section
variable {K : SM → Prop} {s c : Nat} {bl : List Nat} {M : SM} {root : Int} {l : List (Int × Int)} {P : Nat}
end
set_option maxRecDepth 100000

theorem cut_log {w : World} {A : SA} {M : SM} (h : StoreAt w A M) (root key : Int) : (M.cut root key).1.log.length ≤ M.log.length + 20 := by
 have h1 := (cutF_log h 9 root key).1
 have h2 := (split_bound (SM.cutF 9 M root key).1 (SM.cutF 9 M root key).2.1).1
 unfold SM.cut
 split
 ·dsimp only; omega
 ·split
  ·dsimp only; omega
  ·dsimp only
   split
   ·dsimp only; omega
   ·split
    ·dsimp only; omega
    ·split
     ·dsimp only; omega
     ·split <;> (dsimp only; omega)
set_option maxHeartbeats 8000000 in
theorem pruneCut {w : World} {A : SA} {M : SM} (h : StoreAt w A M) (root key : Int) (hfew : M.log.length + 30 < 100000000) :
  Calls Try.prog 44 #[.agg #[.pointer (some ⟨A.sb, 0, none⟩)], .int .i64 root, .int .i64 key] w fun e w' => ∃ A', e = .returned (.tuple #[.int .i64 (M.cut root key).2.1, .bool (M.cut root key).2.2.1, .int .i64 (M.cut root key).2.2.2]) ∧ StoreTo A A' (M.cut root key).1 w w' := by
 obtain ⟨w1, hw1⟩ : ∃ w1, w.alloc (.cells #[.pointer (some ⟨A.sb, 0, none⟩)] 29) = w1 := ⟨_, rfl⟩
 have k1 : Kept (fun _ => False) w w1 := by rw [← hw1]; exact (Kept.refl _ _).alloc _
 have s1 : w1.heap.size = w.heap.size + 1 := by rw [← hw1]; simp
 have t1 : w1.heap[w.heap.size]? = some (.cells #[.pointer (some ⟨A.sb, 0, none⟩)] 29 (0, 0)) := by rw [← hw1]; exact heap_alloc_new _ _
 have k1' := h_ k1
 have hw1' := h_ hw1
 have h' := h_ h
 by_cases hk0 : key < 0
 ·have e : Hid (M.cut root key = (M, -1, false, 101)) := h_ (by unfold SM.cut; rw [if_pos (.inl hk0)])
  clear hw1 k1 s1 t1 h
  go_enter Try.func44, Try.ntmps44
  go_wp2_with (first | (refine wpList_box_named 29 rfl rfl _ rfl hw1'.out ?_))
  go_ret3
  first | exact ⟨A, by rw [e.out]; rfl, by rw [e.out]; exact (StoreTo.refl h'.out).fresh k1'.out⟩ | exact ⟨by rw [e.out]; rfl, A, by rw [e.out]; exact (StoreTo.refl h'.out).fresh k1'.out⟩
 by_cases hk1 : 64 ≤ key
 ·have e : Hid (M.cut root key = (M, -1, false, 101)) := h_ (by unfold SM.cut; rw [if_pos (.inr hk1)])
  clear hw1 k1 s1 t1 h
  go_enter Try.func44, Try.ntmps44
  go_wp2_with (first | (refine wpList_box_named 29 rfl rfl _ rfl hw1'.out ?_))
  go_ret3
  first | exact ⟨A, by rw [e.out]; rfl, by rw [e.out]; exact (StoreTo.refl h'.out).fresh k1'.out⟩ | exact ⟨by rw [e.out]; rfl, A, by rw [e.out]; exact (StoreTo.refl h'.out).fresh k1'.out⟩
 by_cases hr : root = -1
 ·subst hr
  have e : Hid (M.cut (-1) key = (M, -1, false, 0)) := h_ (by unfold SM.cut; rw [if_neg (by omega), if_pos rfl])
  clear hw1 k1 s1 t1 h
  go_enter Try.func44, Try.ntmps44
  go_wp2_with (first | (refine wpList_box_named 29 rfl rfl _ rfl hw1'.out ?_))
  go_ret3
  first | exact ⟨A, by rw [e.out]; rfl, by rw [e.out]; exact (StoreTo.refl h'.out).fresh k1'.out⟩ | exact ⟨by rw [e.out]; rfl, A, by rw [e.out]; exact (StoreTo.refl h'.out).fresh k1'.out⟩
 have hrb : (root == -1) = false := by simpa using hr
 have hP := pruneCutF 9 (by omega) (Nat.le_refl _) root key (h.fresh k1) (by omega)
 have hlog := (cutF_log h 9 root key).1
 have hcut : Hid (M.cut root key = if (SM.cutF 9 M root key).2.2.2 ≠ 0 then ((SM.cutF 9 M root key).1, -1, false, (SM.cutF 9 M root key).2.2.2)
   else if (SM.cutF 9 M root key).2.2.1 = false then ((SM.cutF 9 M root key).1, root, false, 0)
   else if (SM.cutF 9 M root key).2.1.kind = 3 ∧ (SM.cutF 9 M root key).2.1.ents.length = 1 then ((SM.cutF 9 M root key).1, ((SM.cutF 9 M root key).2.1.ents.getD 0 (0, 0)).2, true, 0)
   else if ((SM.cutF 9 M root key).1.split (SM.cutF 9 M root key).2.1).2.2 ≠ 0 ∨ ((SM.cutF 9 M root key).1.split (SM.cutF 9 M root key).2.1).2.1.length = 0 then (((SM.cutF 9 M root key).1.split (SM.cutF 9 M root key).2.1).1, -1, ((SM.cutF 9 M root key).1.split (SM.cutF 9 M root key).2.1).2.2 == 0, ((SM.cutF 9 M root key).1.split (SM.cutF 9 M root key).2.1).2.2)
   else (((SM.cutF 9 M root key).1.split (SM.cutF 9 M root key).2.1).1, (((SM.cutF 9 M root key).1.split (SM.cutF 9 M root key).2.1).2.1.getD 0 (0, 0)).2, true, 0)) := h_ (by unfold SM.cut; rw [if_neg (by omega), if_neg hr])
 obtain ⟨R, hR⟩ : ∃ R, SM.cutF 9 M root key = R := ⟨_, rfl⟩
 rw [hR] at hP hlog
 simp only [hR] at hcut
 obtain ⟨M1, n1, was, er⟩ := R
 dsimp only at hP hlog hcut
 have hP' := h_ hP
 obtain ⟨Z, hZ⟩ : ∃ Z, nodeCells NM.zero (.slice none 0 0) = Z := ⟨_, rfl⟩
 have hZz : Hid ((Try.prog.info? 71).map (·.zero) = some (some (.agg Z.toArray))) := h_ (by rw [← hZ]; exact node_zero)
 have hZl : Hid (Z.length = 18) := h_ (by rw [← hZ]; exact nodeCells_len _ _)
 have t1' := h_ t1
 have sf1 : Hid (Safe w1 A w.heap.size) := h_ (Safe.new h (Nat.le_refl _) (by omega))
 have hload1 : Hid (∀ j v, [Value.pointer (some ⟨A.sb, 0, none⟩)][j]? = some v → w1.cell? ⟨w.heap.size, 0 + j, none⟩ = some v) := h_ (fun j v hj => by rw [Nat.zero_add, cell_of_heap t1]; simpa using hj)
 have st1 := h_ ((StoreTo.refl h).fresh k1)
 have hsz1 := s1
 clear hw1 k1 s1 t1 h hP hR hr hZ
 go_enter Try.func44, Try.ntmps44
 go_wp2_with (first | (refine wpList_box_named 29 rfl rfl _ rfl hw1'.out ?_) | (refine wpList_load_agg 29 rfl rfl rfl _ Try.underlying29 rfl [.pointer (some ⟨A.sb, 0, none⟩)] (by kernel_rfl) hload1.out ?_))
 refine hP'.out.mono ?_
 rintro e' w3 ⟨A3, v, rfl, hT3, hO3⟩
 obtain ⟨Av, cap, rfl, hf1, hf2⟩ := EntsAt.form hO3.ents.at_
 unfold maxLen at hf2
 obtain ⟨F, hF⟩ : ∃ F, nodeCells n1 (.slice Av n1.ents.length cap) = F := ⟨_, rfl⟩
 have hFl : Hid (F.length = 18) := h_ (by rw [← hF]; exact nodeCells_len _ _)
 have hF1 : Hid (∀ v ∈ F, v.oneCell' = true) := h_ (by rw [← hF]; exact nodeCells_one _ _ _ _)
 obtain ⟨nb, hnb⟩ : ∃ nb, w3.heap.size = nb := ⟨_, rfl⟩
 obtain ⟨w5, hw5⟩ : ∃ w5, (w3.alloc (.cells Z.toArray 71)).setRow nb F.toArray = w5 := ⟨_, rfl⟩
 have k5 : Kept (fun _ => False) w3 w5 := by rw [← hw5]; exact ((Kept.refl _ _).alloc _).setRowNew (by omega) _
 have q5 := h_ (show w5.heap[nb]? = some (.cells F.toArray 71 (0, 0)) by rw [← hw5, ← hnb]; exact setRow_heap _ _ _ _ _ _ (heap_alloc_new _ _))
 have bx5 : NodeBox w5 nb n1 (.slice Av n1.ents.length cap) := ⟨by rw [hF]; exact q5.out⟩
 have c0 := bx5.c0
 have c17 := bx5.c17
 have t5 := h_ (k5.get (hT3.get t1'.out sf1.out) id)
 have ct5 := cell_of_heap t5.out 0
 simp at ct5
 have hT5 := h_ ((st1.out.trans hT3).fresh k5)
 have hsb := hT3.sb
 have hO5 := h_ (hO3.ents.fresh k5)
 have hSp := treeSplit hT5.out.store hO5.out (by omega)
 rw [hF, hsb] at hSp
 have hSp' := h_ hSp
 have hnb' := h_ hnb
 have hw5' := h_ hw5
 rw [hF]
 clear hT3 hO3 hF hnb hw5 k5 hSp hsb bx5
 by_cases h0 : er = 0
 ·subst h0
  rw [if_neg (by simp)] at hcut
  cases was with
  | false =>
   rw [if_pos rfl] at hcut
   go_wp2_with (first | (refine wpList_alloc_as 71 rfl rfl Z.toArray hZz.out ?_; rw [hnb'.out]) | (refine wpList_store_whole 71 rfl rfl rfl F rfl (by rw [hFl.out]; exact node_size) 71 _ (by rw [← hnb'.out]; exact heap_alloc_new _ _) (by simp [hFl.out, hZl.out]) hF1.out ?_; rw [hw5'.out]))
   go_ret3
   first | exact ⟨A3, by rw [hcut.out]; rfl, by rw [hcut.out]; exact hT5.out⟩ | exact ⟨by rw [hcut.out]; rfl, A3, by rw [hcut.out]; exact hT5.out⟩
  | true =>
   rw [if_neg (by simp)] at hcut
   by_cases hone : n1.kind = 3 ∧ n1.ents.length = 1
   ·obtain ⟨hk3, hl1⟩ := hone
    rw [if_pos ⟨hk3, hl1⟩] at hcut
    obtain ⟨x, hx⟩ : ∃ x, n1.ents[0]? = some x := ⟨_, List.getElem?_eq_getElem (by omega)⟩
    obtain ⟨b, off, rfl, _, hx1, hx2⟩ := EntsAt.get hO5.out.at_ hx
    have hxd : n1.ents.getD 0 (0, 0) = x := by simp [hx]
    rw [hxd] at hcut
    rw [Nat.zero_mul, Nat.add_zero] at hx1 hx2
    rw [hk3] at c0
    rw [hl1] at c17
    clear hx hxd hk3 hl1 hf1
    go_wp2_with (first | (refine wpList_alloc_as 71 rfl rfl Z.toArray hZz.out ?_; rw [hnb'.out]) | (refine wpList_store_whole 71 rfl rfl rfl F rfl (by rw [hFl.out]; exact node_size) 71 _ (by rw [← hnb'.out]; exact heap_alloc_new _ _) (by simp [hFl.out, hZl.out]) hF1.out ?_; rw [hw5'.out]))
    go_ret3
    first | exact ⟨A3, by rw [hcut.out]; rfl, by rw [hcut.out]; exact hT5.out⟩ | exact ⟨by rw [hcut.out]; rfl, A3, by rw [hcut.out]; exact hT5.out⟩
   ·rw [if_neg hone] at hcut
    obtain ⟨R, hR⟩ : ∃ R, M1.split n1 = R := ⟨_, rfl⟩
    rw [hR] at hSp'
    simp only [hR] at hcut
    obtain ⟨M2, out, er2⟩ := R
    dsimp only at hSp' hcut
    clear hR
    have fin : Hid (∀ w6 A6, StoreTo A3 A6 M2 w5 w6 → StoreTo A A6 M2 w w6) := h_ (fun w6 A6 k => hT5.out.trans k)
    by_cases hk3 : n1.kind = 3
    ·have hl1 : ((n1.ents.length : Int) == 1) = false := by rw [beq_eq_false_iff_ne]; intro e; exact hone ⟨hk3, by omega⟩
     rw [hk3] at c0
     clear hk3 hone
     go_wp2_with (first | (refine wpList_alloc_as 71 rfl rfl Z.toArray hZz.out ?_; rw [hnb'.out]) | (refine wpList_store_whole 71 rfl rfl rfl F rfl (by rw [hFl.out]; exact node_size) 71 _ (by rw [← hnb'.out]; exact heap_alloc_new _ _) (by simp [hFl.out, hZl.out]) hF1.out ?_; rw [hw5'.out]) | (refine wpList_load_agg 27 rfl rfl rfl _ Try.underlying27 rfl [.pointer (some ⟨A.sb, 0, none⟩)] (by kernel_rfl) (fun j v hj => by rw [Nat.zero_add, cell_of_heap t5.out]; simpa using hj) ?_) | (refine wpList_load_agg 71 rfl rfl rfl _ Try.underlying71 rfl F (by rw [hFl.out]; exact node_size) (fun j v hv => by rw [cell_of_heap q5.out, Nat.zero_add]; simpa using hv) ?_))
     refine hSp'.out.mono ?_
     rintro e w6 ⟨A6, v6, rfl, hT6, hO6⟩
     obtain ⟨Av6, cap6, rfl, hg1, hg2⟩ := hO6.ents.at_.form
     unfold maxLen at hg2
     have hTT := h_ (fin.out _ _ hT6)
     have hO6' := h_ hO6
     clear hT6 hO6
     by_cases h2 : er2 = 0
     ·subst h2
      by_cases hl2 : out.length = 0
      ·rw [if_pos (Or.inr hl2)] at hcut
       have hlb2 : ((out.length : Int) == 0) = true := by simp [hl2]
       clear hl2
       go_wp2_with fail
       go_ret3
       first | exact ⟨A6, by rw [hcut.out]; rfl, by rw [hcut.out]; exact hTT.out⟩ | exact ⟨by rw [hcut.out]; rfl, A6, by rw [hcut.out]; exact hTT.out⟩
      ·rw [if_neg (by simp only [ne_eq, not_true_eq_false, false_or]; exact hl2)] at hcut
       obtain ⟨x, hx⟩ : ∃ x, out[0]? = some x := ⟨_, List.getElem?_eq_getElem (by omega)⟩
       obtain ⟨b, off, rfl, _, hx1, hx2⟩ := EntsAt.get hO6'.out.ents.at_ hx
       have hxd : out.getD 0 (0, 0) = x := by simp [hx]
       rw [hxd] at hcut
       rw [Nat.zero_mul, Nat.add_zero] at hx1 hx2
       have hlb2 : ((out.length : Int) == 0) = false := by rw [beq_eq_false_iff_ne]; omega
       have hpos : 0 < out.length := by omega
       clear hx hxd hl2
       go_wp2_with fail
       go_ret3
       first | exact ⟨A6, by rw [hcut.out]; rfl, by rw [hcut.out]; exact hTT.out⟩ | exact ⟨by rw [hcut.out]; rfl, A6, by rw [hcut.out]; exact hTT.out⟩
     ·rw [if_pos (Or.inl h2)] at hcut
      have h2' : ((er2 : Int) == 0) = false := by rw [beq_eq_false_iff_ne]; omega
      have h2b : ((er2 : Int) != 0) = true := by rw [bne, h2']; rfl
      have h2c : (er2 == 0) = false := by rw [beq_eq_false_iff_ne]; exact h2
      rw [h2c] at hcut
      clear h2
      go_wp2_with fail
      go_ret3
      first | exact ⟨A6, by rw [hcut.out]; rfl, by rw [hcut.out]; exact hTT.out⟩ | exact ⟨by rw [hcut.out]; rfl, A6, by rw [hcut.out]; exact hTT.out⟩
    ·have hkb : (n1.kind == 3) = false := by simpa using hk3
     clear hk3 hone
     go_wp2_with (first | (refine wpList_alloc_as 71 rfl rfl Z.toArray hZz.out ?_; rw [hnb'.out]) | (refine wpList_store_whole 71 rfl rfl rfl F rfl (by rw [hFl.out]; exact node_size) 71 _ (by rw [← hnb'.out]; exact heap_alloc_new _ _) (by simp [hFl.out, hZl.out]) hF1.out ?_; rw [hw5'.out]) | (refine wpList_load_agg 27 rfl rfl rfl _ Try.underlying27 rfl [.pointer (some ⟨A.sb, 0, none⟩)] (by kernel_rfl) (fun j v hj => by rw [Nat.zero_add, cell_of_heap t5.out]; simpa using hj) ?_) | (refine wpList_load_agg 71 rfl rfl rfl _ Try.underlying71 rfl F (by rw [hFl.out]; exact node_size) (fun j v hv => by rw [cell_of_heap q5.out, Nat.zero_add]; simpa using hv) ?_))
     refine hSp'.out.mono ?_
     rintro e w6 ⟨A6, v6, rfl, hT6, hO6⟩
     obtain ⟨Av6, cap6, rfl, hg1, hg2⟩ := hO6.ents.at_.form
     unfold maxLen at hg2
     have hTT := h_ (fin.out _ _ hT6)
     have hO6' := h_ hO6
     clear hT6 hO6
     by_cases h2 : er2 = 0
     ·subst h2
      by_cases hl2 : out.length = 0
      ·rw [if_pos (Or.inr hl2)] at hcut
       have hlb2 : ((out.length : Int) == 0) = true := by simp [hl2]
       clear hl2
       go_wp2_with fail
       go_ret3
       first | exact ⟨A6, by rw [hcut.out]; rfl, by rw [hcut.out]; exact hTT.out⟩ | exact ⟨by rw [hcut.out]; rfl, A6, by rw [hcut.out]; exact hTT.out⟩
      ·rw [if_neg (by simp only [ne_eq, not_true_eq_false, false_or]; exact hl2)] at hcut
       obtain ⟨x, hx⟩ : ∃ x, out[0]? = some x := ⟨_, List.getElem?_eq_getElem (by omega)⟩
       obtain ⟨b, off, rfl, _, hx1, hx2⟩ := EntsAt.get hO6'.out.ents.at_ hx
       have hxd : out.getD 0 (0, 0) = x := by simp [hx]
       rw [hxd] at hcut
       rw [Nat.zero_mul, Nat.add_zero] at hx1 hx2
       have hlb2 : ((out.length : Int) == 0) = false := by rw [beq_eq_false_iff_ne]; omega
       have hpos : 0 < out.length := by omega
       clear hx hxd hl2
       go_wp2_with fail
       go_ret3
       first | exact ⟨A6, by rw [hcut.out]; rfl, by rw [hcut.out]; exact hTT.out⟩ | exact ⟨by rw [hcut.out]; rfl, A6, by rw [hcut.out]; exact hTT.out⟩
     ·rw [if_pos (Or.inl h2)] at hcut
      have h2' : ((er2 : Int) == 0) = false := by rw [beq_eq_false_iff_ne]; omega
      have h2b : ((er2 : Int) != 0) = true := by rw [bne, h2']; rfl
      have h2c : (er2 == 0) = false := by rw [beq_eq_false_iff_ne]; exact h2
      rw [h2c] at hcut
      clear h2
      go_wp2_with fail
      go_ret3
      first | exact ⟨A6, by rw [hcut.out]; rfl, by rw [hcut.out]; exact hTT.out⟩ | exact ⟨by rw [hcut.out]; rfl, A6, by rw [hcut.out]; exact hTT.out⟩
 ·rw [if_pos h0] at hcut
  have h0' : ((er : Int) == 0) = false := by rw [beq_eq_false_iff_ne]; omega
  clear h0
  go_wp2_with (first | (refine wpList_alloc_as 71 rfl rfl Z.toArray hZz.out ?_; rw [hnb'.out]) | (refine wpList_store_whole 71 rfl rfl rfl F rfl (by rw [hFl.out]; exact node_size) 71 _ (by rw [← hnb'.out]; exact heap_alloc_new _ _) (by simp [hFl.out, hZl.out]) hF1.out ?_; rw [hw5'.out]))
  go_ret3
  first | exact ⟨A3, by rw [hcut.out]; rfl, by rw [hcut.out]; exact hT5.out⟩ | exact ⟨by rw [hcut.out]; rfl, A3, by rw [hcut.out]; exact hT5.out⟩

theorem findL_neg : ∀ {l : List (Int × Int)} {k : Int}, (∀ y ∈ l, 0 ≤ y.2) → findL l k = -1 → ∀ y ∈ l, y.1 ≠ k
 | [], _, _, _, y, hy => by cases hy
 | z :: l, k, h0, hf, y, hy => by
  unfold findL at hf
  have hz := h0 z (List.mem_cons_self ..)
  by_cases e : z.1 = k
  ·rw [if_pos e] at hf
   omega
  ·rw [if_neg e] at hf
   rcases List.mem_cons.1 hy with rfl | hy
   ·exact e
   ·exact findL_neg (fun y hy => h0 y (List.mem_cons_of_mem _ hy)) hf y hy
theorem findL_pos : ∀ {l : List (Int × Int)} {k : Int}, findL l k ≠ -1 → (k, findL l k) ∈ l
 | [], _, h => absurd rfl h
 | z :: l, k, h => by
  unfold findL at h ⊢
  by_cases e : z.1 = k
  ·rw [if_pos e]
   rw [← e]
   exact List.mem_cons_self ..
  ·rw [if_neg e] at h ⊢
   exact List.mem_cons_of_mem _ (findL_pos h)
section
variable {K : SM → Prop} {s c : Nat} {bl : List Nat} {M : SM} {root : Int} {l : List (Int × Int)} {P : Nat}
end
section
variable {s : Nat} {bl : List Nat} {M : SM} {root : Int} {l : List (Int × Int)} {P : Nat}
end
section
variable {m : Nat} {M : SM} {is : List IM} {i : IM} {k : Nat}
end
section
variable {M : SM} {is : List IM} {i : IM} {k : Nat}
end
theorem led5 {m : Nat} {M : SM} {root : Int} {l : List (Int × Int)} {P hh : Nat} (hP : P ≤ 240) (hr : Rooted m M root l hh) (hl : root = -1 ∨ Led M hh root P) : hh ≤ 5 := by
 rcases hr with ⟨_, _, e⟩ | t
 ·omega
 ·rcases hl with e | j
  ·have := (heldB_int t.held).1; omega
  ·exact (led_pages t j hP).1

theorem cutL_take {l : List (Int × Int)} {k : Nat} {y : Int × Int} (h : l[k]? = some y) (key : Int) : cutL (l.take (k + 1)) key = cutL (l.take k) key ++ (if y.1 = key then [] else [y]) := by
 rw [List.take_add_one, h]
 unfold cutL
 rw [List.filter_append]
 congr 1
 by_cases e : y.1 = key <;> simp [e]
theorem owns_le' {w : World} {base base' : Nat} {e : TypeId} {sz : Nat} {v : Value} {n : Nat} {xs : List Value} (h : w.ownsRow base e sz v n xs) (hb : base' ≤ base) : w.ownsRow base' e sz v n xs :=
 ⟨h.1, h.2.imp id fun ⟨g, cap, cur, h1, h2, h3⟩ => ⟨g, cap, cur, h1, Nat.le_trans hb h2, h3⟩⟩
structure RfSt (w0 : World) (u : Value) (out : List (Int × Int)) (wr : World) : Prop where
 kept : Kept (fun _ => False) w0 wr
 row : wr.ownsRow w0.heap.size 58 2 u out.length (entCells out)
theorem RfSt.fresh {w0 wr w' : World} {u : Value} {out : List (Int × Int)} (h : RfSt w0 u out wr) (k : Kept (fun _ => False) wr w') : RfSt w0 u out w' := ⟨h.kept.trans k, ownsRow.keptOf h.row k (fun _ _ => id)⟩

set_option maxHeartbeats 4000000 in
theorem refFind10 {w : World} {va : Value} {l : List (Int × Int)} (hv : EntsAt w va l) (hl : l.length ≤ 1000) (key : Int) :
  Calls Try.prog 28 #[va, .int .i64 key] w fun e w' => e = .returned (.int .i64 (findL l key)) ∧ Kept (fun _ => False) w w' := by
 obtain ⟨Av, cap, rfl, hf1, hf2⟩ := hv.form
 unfold maxLen at hf2
 have hv' := h_ hv
 have hdone : Hid (findL (l.drop l.length) key = -1) := h_ (by rw [List.drop_eq_nil_of_le (Nat.le_refl _)]; rfl)
 clear hv
 go_enter Try.func28, Try.ntmps28
 go_wp2_with fail
 go_loopw [9] (fun i wr => ∃ (k : Nat), k ≤ l.length ∧ i = .int .i64 k ∧ findL l key = findL (l.drop k) key ∧ Hid (RfSt w (.slice none 0 0) [] wr)) (fun i _ => l.length - (intOf i).toNat)
 case atStart => exact ⟨0, Nat.zero_le _, rfl, rfl, h_ ⟨Kept.refl _ _, World.ownsRow_nil _ _ _ _⟩⟩
 case round =>
  obtain ⟨k, hk, rfl, hfk, hI⟩ := hrel
  by_cases hlt : k < l.length
  ·obtain ⟨y, hy⟩ : ∃ y, l[k]? = some y := ⟨_, List.getElem?_eq_getElem hlt⟩
   obtain ⟨eb, eo, rfl, heb, hy1c, hy2c⟩ := EntsAt.get (SliceAt.fresh hv'.out (hI.out.kept)) hy
   have hki : (k : Int) < (l.length : Int) := by omega
   have hlo : Hid (∀ i v, [Value.int .i64 y.1, .int .i64 y.2][i]? = some v → wr.cell? ⟨eb, eo + k * 2 + i, none⟩ = some v) := h_ (fun i v hi => by
    match i, hi with
    | 0, hi => cases hi; exact hy1c
    | 1, hi => cases hi; exact hy2c)
   obtain ⟨xb, hxb⟩ : ∃ xb, wr.heap.size = xb := ⟨_, rfl⟩
   obtain ⟨wx, hwx⟩ : ∃ wx, (wr.alloc (.cells #[.int .i64 0, .int .i64 0] 58)).setRow xb #[.int .i64 y.1, .int .i64 y.2] = wx := ⟨_, rfl⟩
   have kx : Kept (fun _ => False) wr wx := by rw [← hwx]; exact ((Kept.refl _ _).alloc _).setRowNew (by omega) _
   have qx : wx.heap[xb]? = some (.cells #[.int .i64 y.1, .int .i64 y.2] 58 (0, 0)) := by rw [← hwx, ← hxb]; exact setRow_heap _ _ _ _ _ _ (heap_alloc_new _ _)
   have cx0 : wx.cell? ⟨xb, 0, none⟩ = some (.int .i64 y.1) := by rw [cell_of_heap qx]; rfl
   have cx1 : wx.cell? ⟨xb, 1, none⟩ = some (.int .i64 y.2) := by rw [cell_of_heap qx]; rfl
   have hlx : Hid (∀ i v, [Value.int .i64 y.1, .int .i64 y.2][i]? = some v → wx.cell? ⟨xb, 0 + i, none⟩ = some v) := h_ (fun i v hi => by rw [cell_of_heap qx, Nat.zero_add]; simpa using hi)
   have Ix := h_ (hI.out.fresh kx)
   have hxb' := h_ hxb
   have hwx' := h_ hwx
   have hy' := h_ hy
   clear hy hy1c hy2c kx qx hxb hwx hI
   have hstep : Hid (findL (l.drop k) key = if y.1 = key then y.2 else findL (l.drop (k + 1)) key) := h_ (by rw [List.drop_eq_getElem_cons hlt]; have e := (List.getElem?_eq_some_iff.1 hy'.out).2; rw [e]; rfl)
   by_cases he : y.1 = key
   ·have hbe : (y.1 == key) = true := by simp [he]
    have fin : Hid (findL l key = y.2) := h_ (by rw [hfk, hstep.out, if_pos he])
    clear he hfk
    go_wp2_with (first | (refine wpList_load_agg 58 rfl rfl rfl _ Try.underlying58 rfl [.int .i64 y.1, .int .i64 y.2] (by kernel_rfl) hlo.out ?_) | (refine wpList_load_agg 58 rfl rfl rfl _ Try.underlying58 rfl [.int .i64 y.1, .int .i64 y.2] (by kernel_rfl) hlx.out ?_) | (refine wpList_alloc_as 58 rfl rfl #[.int .i64 0, .int .i64 0] (by kernel_rfl) ?_; rw [hxb'.out]) | (refine wpList_store_whole 58 rfl rfl rfl [.int .i64 y.1, .int .i64 y.2] rfl (by kernel_rfl) 58 #[.int .i64 0, .int .i64 0] (by rw [← hxb'.out]; exact heap_alloc_new _ _) rfl (by intro c hc; simp at hc; rcases hc with rfl | rfl <;> rfl) ?_; rw [hwx'.out]))
    go_ret
    exact ⟨by rw [fin.out]; rfl, Ix.out.kept⟩
   ·have hbe : (y.1 == key) = false := by simp [he]
    have fin : Hid (findL l key = findL (l.drop (k + 1)) key) := h_ (by rw [hfk, hstep.out, if_neg he])
    clear he hfk
    go_wp2_with (first | (refine wpList_load_agg 58 rfl rfl rfl _ Try.underlying58 rfl [.int .i64 y.1, .int .i64 y.2] (by kernel_rfl) hlo.out ?_) | (refine wpList_load_agg 58 rfl rfl rfl _ Try.underlying58 rfl [.int .i64 y.1, .int .i64 y.2] (by kernel_rfl) hlx.out ?_) | (refine wpList_alloc_as 58 rfl rfl #[.int .i64 0, .int .i64 0] (by kernel_rfl) ?_; rw [hxb'.out]) | (refine wpList_store_whole 58 rfl rfl rfl [.int .i64 y.1, .int .i64 y.2] rfl (by kernel_rfl) 58 #[.int .i64 0, .int .i64 0] (by rw [← hxb'.out]; exact heap_alloc_new _ _) rfl (by intro c hc; simp at hc; rcases hc with rfl | rfl <;> rfl) ?_; rw [hwx'.out]))
    go_roundw
    case rel => exact ⟨k + 1, by omega, by go_num, fin.out, Ix⟩
    case measure => simp [intOf]; omega
  ·obtain rfl : k = l.length := by omega
   rw [hdone.out] at hfk
   have fin := h_ hfk
   have kk := h_ hI.out.kept
   go_wp2_with fail
   go_ret
   exact ⟨by rw [fin.out]; rfl, kk.out⟩
set_option maxHeartbeats 4000000 in
theorem refCut10 {w : World} {va : Value} {l : List (Int × Int)} (hv : EntsAt w va l) (hl : l.length ≤ 1000) (key : Int) :
  Calls Try.prog 24 #[va, .int .i64 key] w fun e w' => ∃ u, e = .returned (.tuple #[u, .bool (decide ((cutL l key).length < l.length))]) ∧
   w'.ownsRow w.heap.size 58 2 u (cutL l key).length (entCells (cutL l key)) ∧ Kept (fun _ => False) w w' := by
 obtain ⟨Av, cap, rfl, hf1, hf2⟩ := hv.form
 unfold maxLen at hf2
 have hv' := h_ hv
 clear hv
 go_enter Try.func24, Try.ntmps24
 go_wp2_with fail
 have I0 : Hid (RfSt w (.slice (some ⟨w.heap.size, 0, none⟩) 0 0) (cutL (l.take 0) key) (w.alloc (.cells #[] 58))) := h_ ⟨(Kept.refl _ _).alloc _, owns_empty w w.heap.size w.heap.size 58 2 (Nat.le_refl _) rfl⟩
 go_loopw [6, 12] (fun u i wr => ∃ (k : Nat), k ≤ l.length ∧ i = .int .i64 k ∧ Hid (RfSt w u (cutL (l.take k) key) wr)) (fun _ i _ => l.length - (intOf i).toNat)
 case atStart => exact ⟨0, Nat.zero_le _, rfl, I0⟩
 case round =>
  obtain ⟨k, hk, rfl, hI⟩ := hrel
  obtain ⟨Au, cu, rfl, hu1, hu2⟩ := EntsAt.form (show EntsAt wr _ (cutL (l.take k) key) from SliceAt.of_owns hI.out.row)
  unfold maxLen at hu2
  by_cases hlt : k < l.length
  ·obtain ⟨y, hy⟩ : ∃ y, l[k]? = some y := ⟨_, List.getElem?_eq_getElem hlt⟩
   obtain ⟨eb, eo, rfl, heb, hy1c, hy2c⟩ := EntsAt.get (SliceAt.fresh hv'.out (hI.out.kept)) hy
   have hki : (k : Int) < (l.length : Int) := by omega
   have hlo : Hid (∀ i v, [Value.int .i64 y.1, .int .i64 y.2][i]? = some v → wr.cell? ⟨eb, eo + k * 2 + i, none⟩ = some v) := h_ (fun i v hi => by
    match i, hi with
    | 0, hi => cases hi; exact hy1c
    | 1, hi => cases hi; exact hy2c)
   obtain ⟨xb, hxb⟩ : ∃ xb, wr.heap.size = xb := ⟨_, rfl⟩
   obtain ⟨wx, hwx⟩ : ∃ wx, (wr.alloc (.cells #[.int .i64 0, .int .i64 0] 58)).setRow xb #[.int .i64 y.1, .int .i64 y.2] = wx := ⟨_, rfl⟩
   have kx : Kept (fun _ => False) wr wx := by rw [← hwx]; exact ((Kept.refl _ _).alloc _).setRowNew (by omega) _
   have qx : wx.heap[xb]? = some (.cells #[.int .i64 y.1, .int .i64 y.2] 58 (0, 0)) := by rw [← hwx, ← hxb]; exact setRow_heap _ _ _ _ _ _ (heap_alloc_new _ _)
   have cx0 : wx.cell? ⟨xb, 0, none⟩ = some (.int .i64 y.1) := by rw [cell_of_heap qx]; rfl
   have cx1 : wx.cell? ⟨xb, 1, none⟩ = some (.int .i64 y.2) := by rw [cell_of_heap qx]; rfl
   have hlx : Hid (∀ i v, [Value.int .i64 y.1, .int .i64 y.2][i]? = some v → wx.cell? ⟨xb, 0 + i, none⟩ = some v) := h_ (fun i v hi => by rw [cell_of_heap qx, Nat.zero_add]; simpa using hi)
   have Ix := h_ (hI.out.fresh kx)
   have hxb' := h_ hxb
   have hwx' := h_ hwx
   have hy' := h_ hy
   clear hy hy1c hy2c kx qx hxb hwx hI
   have hnext := cutL_take hy'.out key
   by_cases he : y.1 = key
   ·have hbe : (y.1 == key) = true := by simp [he]
    rw [if_pos he, List.append_nil] at hnext
    have fin : Hid (RfSt w (.slice Au (cutL (l.take k) key).length cu) (cutL (l.take (k + 1)) key) wx) := h_ (by rw [hnext]; exact Ix.out)
    clear he hnext
    go_wp2_with (first | (refine wpList_load_agg 58 rfl rfl rfl _ Try.underlying58 rfl [.int .i64 y.1, .int .i64 y.2] (by kernel_rfl) hlo.out ?_) | (refine wpList_load_agg 58 rfl rfl rfl _ Try.underlying58 rfl [.int .i64 y.1, .int .i64 y.2] (by kernel_rfl) hlx.out ?_) | (refine wpList_alloc_as 58 rfl rfl #[.int .i64 0, .int .i64 0] (by kernel_rfl) ?_; rw [hxb'.out]) | (refine wpList_store_whole 58 rfl rfl rfl [.int .i64 y.1, .int .i64 y.2] rfl (by kernel_rfl) 58 #[.int .i64 0, .int .i64 0] (by rw [← hxb'.out]; exact heap_alloc_new _ _) rfl (by intro c hc; simp at hc; rcases hc with rfl | rfl <;> rfl) ?_; rw [hwx'.out]))
    go_roundw
    case rel => exact ⟨k + 1, by omega, by go_num, fin⟩
    case measure => simp [intOf]; omega
   ·have hbe : (y.1 == key) = false := by simp [he]
    rw [if_neg he] at hnext
    have hnext' := h_ hnext
    have hcl : (cutL (l.take k) key).length ≤ 1000 := by have h1 : (cutL (l.take k) key).length ≤ (l.take k).length := List.length_filter_le _ _; rw [List.length_take] at h1; omega
    have R5 := h_ (ownsRow.keptOf Ix.out.row ((Kept.refl (fun _ => False) wx).alloc (.cells #[.int .i64 y.1, .int .i64 y.2] 58)) (fun _ _ => id))
    have K5 := h_ (Ix.out.kept.trans ((Kept.refl (fun _ => False) wx).alloc (.cells #[.int .i64 y.1, .int .i64 y.2] 58)))
    clear he hnext
    go_wp2_with (first | (refine wpList_load_agg 58 rfl rfl rfl _ Try.underlying58 rfl [.int .i64 y.1, .int .i64 y.2] (by kernel_rfl) hlo.out ?_) | (refine wpList_load_agg 58 rfl rfl rfl _ Try.underlying58 rfl [.int .i64 y.1, .int .i64 y.2] (by kernel_rfl) hlx.out ?_) | (refine wpList_alloc_as 58 rfl rfl #[.int .i64 0, .int .i64 0] (by kernel_rfl) ?_; rw [hxb'.out]) | (refine wpList_store_whole 58 rfl rfl rfl [.int .i64 y.1, .int .i64 y.2] rfl (by kernel_rfl) 58 #[.int .i64 0, .int .i64 0] (by rw [← hxb'.out]; exact heap_alloc_new _ _) rfl (by intro c hc; simp at hc; rcases hc with rfl | rfl <;> rfl) ?_; rw [hwx'.out]) | (at_builtin; refine wpList_append_src rfl elemEntry (.tmp 20) (.tmp 22) rfl (by rfl) (by rfl) R5.out (SliceAt.block_new (ys := [.int .i64 y.1, .int .i64 y.2]) (m := 1) (heap_alloc_new _ _) (by rfl) (by decide)) (by intro c hc; simp at hc; rcases hc with rfl | rfl <;> rfl) (by omega) (by omega) K5.out.size ?_; intro v2 w10 hown10 hg10 hat10))
    have fin : Hid (RfSt w v2 (cutL (l.take (k + 1)) key) w10) := h_ (by rw [hnext'.out]; exact ⟨K5.out.trans_new (Kept.of_grown hg10) (fun i hi e => absurd hi (Nat.not_lt.2 (R5.out.lt i e).1)), by rw [entCells_append, List.length_append]; exact hown10⟩)
    clear hown10 hg10 hat10
    go_wp2_with fail
    go_roundw
    case rel => exact ⟨k + 1, by omega, by go_num, fin⟩
    case measure => simp [intOf]; omega
  ·obtain rfl : k = l.length := by omega
   rw [List.take_length] at hI
   rw [List.take_length] at hu1
   go_wp2_with fail
   go_ret2
   exact ⟨.slice Au (cutL l key).length cu, by simp, hI.out.row, hI.out.kept⟩
theorem RfSt.app {w1 wx w10 : World} {u v2 : Value} {o : List (Int × Int)} {x : Int × Int} (I : RfSt w1 u o wx)
  (R : (wx.alloc (.cells #[.int .i64 x.1, .int .i64 x.2] 58)).ownsRow w1.heap.size 58 2 u o.length (entCells o))
  (hown : w10.ownsRow w1.heap.size 58 2 v2 (o.length + 1) (entCells o ++ [.int .i64 x.1, .int .i64 x.2]))
  (hg : (wx.alloc (.cells #[.int .i64 x.1, .int .i64 x.2] 58)).grownBy w10 u.ownBlock) :
  RfSt w1 v2 (o ++ [x]) w10 ∧ ∀ c v, wx.cell? c = some v → u.ownBlock ≠ some c.block → w10.cell? c = some v :=
 ⟨⟨(I.kept.trans ((Kept.refl (fun _ => False) wx).alloc _)).trans_new (Kept.of_grown hg) (fun i hi e => absurd hi (Nat.not_lt.2 (R.lt i e).1)), by rw [entCells_append, List.length_append]; exact hown⟩,
  fun _ _ hc hne => (Kept.of_grown hg).cell (((Kept.refl (fun _ => False) wx).alloc _).cell hc id) hne⟩
theorem pair_load {w : World} {b : Nat} {y : Int × Int} (h0 : w.cell? ⟨b, 0, none⟩ = some (.int .i64 y.1)) (h1 : w.cell? ⟨b, 1, none⟩ = some (.int .i64 y.2)) : ∀ i v, [Value.int .i64 y.1, .int .i64 y.2][i]? = some v → w.cell? ⟨b, 0 + i, none⟩ = some v := fun i v hi => by
 match i, hi with
 | 0, hi => cases hi; exact h0
 | 1, hi => cases hi; exact h1
theorem putStep_fst (x y : Int × Int) (s : List (Int × Int) × Bool) : (putStep x s y).1.length ≤ s.1.length + 2 := by
 unfold putStep
 dsimp only
 split <;> split <;> simp
theorem putTake_len (x : Int × Int) (l : List (Int × Int)) : (l.foldl (putStep x) ([], false)).1.length ≤ 2 * l.length := by
 have key : ∀ (l : List (Int × Int)) (s : List (Int × Int) × Bool), (l.foldl (putStep x) s).1.length ≤ s.1.length + 2 * l.length := by
  intro l
  induction l with
  | nil => intro s; simp
  | cons y l ih =>
   intro s
   rw [List.foldl_cons, List.length_cons]
   have h1 := ih (putStep x s y)
   have h2 := putStep_fst x y s
   omega
 simpa using key l ([], false)
theorem putTake_succ {l : List (Int × Int)} {k : Nat} {y : Int × Int} (h : l[k]? = some y) (x : Int × Int) : (l.take (k + 1)).foldl (putStep x) ([], false) = putStep x ((l.take k).foldl (putStep x) ([], false)) y := by
 rw [List.take_add_one, h, List.foldl_append]
 rfl
set_option maxHeartbeats 8000000 in
theorem refPut10 {w : World} {va : Value} {l : List (Int × Int)} (hv : EntsAt w va l) (hl : l.length ≤ 1000) (x : Int × Int) (hx : 0 ≤ x.1 ∧ x.1 ≤ 63) :
  Calls Try.prog 25 #[va, .agg #[.int .i64 x.1, .int .i64 x.2]] w fun e w' => ∃ u, e = .returned (.tuple #[u, .int .i64 0]) ∧
   w'.ownsRow w.heap.size 58 2 u (refPut l x).length (entCells (refPut l x)) ∧ Kept (fun _ => False) w w' := by
 obtain ⟨Av, cap, rfl, hf1, hf2⟩ := hv.form
 unfold maxLen at hf2
 obtain ⟨cb, hcb⟩ : ∃ cb, w.heap.size = cb := ⟨_, rfl⟩
 obtain ⟨w1, hw1⟩ : ∃ w1, w.alloc (.cells #[.int .i64 x.1, .int .i64 x.2] 58) = w1 := ⟨_, rfl⟩
 have k1 := h_ (show Kept (fun _ => False) w w1 by rw [← hw1]; exact (Kept.refl _ _).alloc _)
 have t1 := h_ (show w1.heap[cb]? = some (.cells #[.int .i64 x.1, .int .i64 x.2] 58 (0, 0)) by rw [← hw1, ← hcb]; exact heap_alloc_new _ _)
 have hw1' := h_ hw1
 have hcb' := h_ hcb
 have hv' := h_ hv
 have c10 := cell_of_heap t1.out 0
 have c11 := cell_of_heap t1.out 1
 simp at c10 c11
 have hb0 : decide (x.1 < 0) = false := by rw [decide_eq_false_iff_not]; omega
 have hb1 : decide (63 < x.1) = false := by rw [decide_eq_false_iff_not]; omega
 have hX : Hid (∀ W, Kept (fun _ => False) w1 W → ∀ i v, [Value.int .i64 x.1, .int .i64 x.2][i]? = some v → W.cell? ⟨cb, 0 + i, none⟩ = some v) := h_ (fun W hW i v hi => by rw [cell_of_heap (hW.get t1.out id), Nat.zero_add]; simpa using hi)
 clear hv hw1 hx hcb
 go_enter Try.func25, Try.ntmps25
 go_wp2_with (first | (refine wpList_box_named 58 rfl rfl _ rfl hw1'.out ?_; rw [hcb'.out]))
 have I0 : Hid (RfSt w1 (.slice (some ⟨w1.heap.size, 0, none⟩) 0 0) ((l.take 0).foldl (putStep x) ([], false)).1 (w1.alloc (.cells #[] 58))) := h_ ⟨(Kept.refl _ _).alloc _, owns_empty w1 w1.heap.size w1.heap.size 58 2 (Nat.le_refl _) rfl⟩
 go_loopw [6, 7, 22] (fun u b i wr => ∃ (k : Nat), k ≤ l.length ∧ i = .int .i64 k ∧ b = .bool ((l.take k).foldl (putStep x) ([], false)).2 ∧ Hid (RfSt w1 u ((l.take k).foldl (putStep x) ([], false)).1 wr)) (fun _ _ i _ => l.length - (intOf i).toNat)
 case atStart => exact ⟨0, Nat.zero_le _, rfl, rfl, I0⟩
 case round =>
  obtain ⟨k, hk, rfl, rfl, hI⟩ := hrel
  by_cases hlt : k < l.length
  ·obtain ⟨y, hy⟩ : ∃ y, l[k]? = some y := ⟨_, List.getElem?_eq_getElem hlt⟩
   obtain ⟨eb, eo, rfl, heb, hy1c, hy2c⟩ := EntsAt.get (SliceAt.fresh hv'.out (k1.out.trans hI.out.kept)) hy
   have hki : (k : Int) < (l.length : Int) := by omega
   have hlo : Hid (∀ i v, [Value.int .i64 y.1, .int .i64 y.2][i]? = some v → wr.cell? ⟨eb, eo + k * 2 + i, none⟩ = some v) := h_ (fun i v hi => by
    match i, hi with
    | 0, hi => cases hi; exact hy1c
    | 1, hi => cases hi; exact hy2c)
   obtain ⟨xb, hxb⟩ : ∃ xb, wr.heap.size = xb := ⟨_, rfl⟩
   obtain ⟨wx, hwx⟩ : ∃ wx, (wr.alloc (.cells #[.int .i64 0, .int .i64 0] 58)).setRow xb #[.int .i64 y.1, .int .i64 y.2] = wx := ⟨_, rfl⟩
   have kx : Kept (fun _ => False) wr wx := by rw [← hwx]; exact ((Kept.refl _ _).alloc _).setRowNew (by omega) _
   have qx : wx.heap[xb]? = some (.cells #[.int .i64 y.1, .int .i64 y.2] 58 (0, 0)) := by rw [← hwx, ← hxb]; exact setRow_heap _ _ _ _ _ _ (heap_alloc_new _ _)
   have cx0 : wx.cell? ⟨xb, 0, none⟩ = some (.int .i64 y.1) := by rw [cell_of_heap qx]; rfl
   have cx1 : wx.cell? ⟨xb, 1, none⟩ = some (.int .i64 y.2) := by rw [cell_of_heap qx]; rfl
   have hlx : Hid (∀ i v, [Value.int .i64 y.1, .int .i64 y.2][i]? = some v → wx.cell? ⟨xb, 0 + i, none⟩ = some v) := h_ (fun i v hi => by rw [cell_of_heap qx, Nat.zero_add]; simpa using hi)
   have Ix := h_ (hI.out.fresh kx)
   have hxb' := h_ hxb
   have hwx' := h_ hwx
   have hy' := h_ hy
   have hstep := putTake_succ hy x
   have hlen := putTake_len x (l.take k)
   rw [List.length_take] at hlen
   obtain ⟨S, hS⟩ : ∃ S, (l.take k).foldl (putStep x) ([], false) = S := ⟨_, rfl⟩
   rw [hS] at hstep Ix hlen hI
   simp only [hS]
   obtain ⟨o, d⟩ := S
   dsimp only at Ix hlen hI ⊢
   obtain ⟨Au, cu, rfl, hu1, hu2⟩ := EntsAt.form (show EntsAt wr _ o from SliceAt.of_owns hI.out.row)
   unfold maxLen at hu2
   have hrl : Hid (∀ b, (Value.slice Au o.length cu).ownBlock = some b → b < xb) := h_ (fun b hb => by rw [← hxb]; exact (hI.out.row.lt b hb).2)
   have ho : o.length ≤ 2000 := by omega
   have hxl := h_ (hX.out wx Ix.out.kept)
   have cX0 := hxl.out 0 _ rfl
   simp at cX0
   have hstep' := h_ hstep
   clear hy hy1c hy2c kx qx hxb hwx hI hS hstep hlen
   have RX := h_ (ownsRow.keptOf Ix.out.row ((Kept.refl (fun _ => False) wx).alloc (.cells #[.int .i64 x.1, .int .i64 x.2] 58)) (fun _ _ => id))
   have KX := h_ (Ix.out.kept.trans ((Kept.refl (fun _ => False) wx).alloc (.cells #[.int .i64 x.1, .int .i64 x.2] 58)))
   have R5 := h_ (ownsRow.keptOf Ix.out.row ((Kept.refl (fun _ => False) wx).alloc (.cells #[.int .i64 y.1, .int .i64 y.2] 58)) (fun _ _ => id))
   have K5 := h_ (Ix.out.kept.trans ((Kept.refl (fun _ => False) wx).alloc (.cells #[.int .i64 y.1, .int .i64 y.2] 58)))
   by_cases he : y.1 = x.1
   ·have hbe : (y.1 == x.1) = true := by simp [he]
    cases d with
    | false =>
     have hge : decide (x.1 ≤ y.1) = true := by rw [decide_eq_true_eq]; omega
     have hn : Hid (putStep x (o, false) y = (o ++ [x], true)) := h_ (by unfold putStep; have : x.1 ≤ x.1 := Int.le_refl _; simp [he])
     clear he
     go_wp2_with (first | (refine wpList_load_agg 58 rfl rfl rfl _ Try.underlying58 rfl [.int .i64 y.1, .int .i64 y.2] (by kernel_rfl) hlo.out ?_) | (refine wpList_load_agg 58 rfl rfl rfl _ Try.underlying58 rfl [.int .i64 y.1, .int .i64 y.2] (by kernel_rfl) hlx.out ?_) | (refine wpList_alloc_as 58 rfl rfl #[.int .i64 0, .int .i64 0] (by kernel_rfl) ?_; rw [hxb'.out]) | (refine wpList_store_whole 58 rfl rfl rfl [.int .i64 y.1, .int .i64 y.2] rfl (by kernel_rfl) 58 #[.int .i64 0, .int .i64 0] (by rw [← hxb'.out]; exact heap_alloc_new _ _) rfl (by intro c hc; simp at hc; rcases hc with rfl | rfl <;> rfl) ?_; rw [hwx'.out]) | (refine wpList_load_agg 58 rfl rfl rfl _ Try.underlying58 rfl [.int .i64 x.1, .int .i64 x.2] (by kernel_rfl) hxl.out ?_) | (at_builtin; refine wpList_append_src rfl elemEntry (.tmp 35) (.tmp 37) rfl (by rfl) (by rfl) RX.out (SliceAt.block_new (ys := [.int .i64 x.1, .int .i64 x.2]) (m := 1) (heap_alloc_new _ _) (by rfl) (by decide)) (by intro c hc; simp at hc; rcases hc with rfl | rfl <;> rfl) (by omega) (by omega) KX.out.size ?_; intro v2 w10 hown10 hg10 hat10; have hap := RfSt.app Ix.out RX.out hown10 hg10; obtain ⟨IA0, hcl⟩ := hap; have IA := h_ IA0; clear IA0; have ca0 := hcl _ _ cx0 (fun e => Nat.lt_irrefl _ (hrl.out _ e)); have ca1 := hcl _ _ cx1 (fun e => Nat.lt_irrefl _ (hrl.out _ e)); have hla := h_ (pair_load ca0 ca1); have cXa := hX.out w10 IA.out.kept 0 _ rfl; simp at cXa; have hoa : (o ++ [x]).length ≤ 2001 := (by rw [List.length_append]; simp; omega); obtain ⟨o2, ho2⟩ : ∃ o2, o ++ [x] = o2 := ⟨_, rfl⟩; rw [ho2] at IA hoa; have RZ := h_ (ownsRow.keptOf IA.out.row ((Kept.refl (fun _ => False) w10).alloc (.cells #[.int .i64 y.1, .int .i64 y.2] 58)) (fun _ _ => id)); have KZ := h_ (IA.out.kept.trans ((Kept.refl (fun _ => False) w10).alloc (.cells #[.int .i64 y.1, .int .i64 y.2] 58))); clear hown10 hg10 hat10 hcl))
     have fin : Hid (RfSt w1 v2 (o ++ [x]) w10) := h_ (by rw [ho2]; exact IA.out)
     go_wp2_with fail
     go_roundw
     case rel => exact ⟨k + 1, by omega, by go_num, by rw [hstep'.out, hn.out], by rw [hstep'.out, hn.out]; exact fin⟩
     case measure => simp [intOf]; omega
    | true =>
     have hn : Hid (putStep x (o, true) y = (o, true)) := h_ (by unfold putStep; simp [he])
     clear he
     go_wp2_with (first | (refine wpList_load_agg 58 rfl rfl rfl _ Try.underlying58 rfl [.int .i64 y.1, .int .i64 y.2] (by kernel_rfl) hlo.out ?_) | (refine wpList_load_agg 58 rfl rfl rfl _ Try.underlying58 rfl [.int .i64 y.1, .int .i64 y.2] (by kernel_rfl) hlx.out ?_) | (refine wpList_alloc_as 58 rfl rfl #[.int .i64 0, .int .i64 0] (by kernel_rfl) ?_; rw [hxb'.out]) | (refine wpList_store_whole 58 rfl rfl rfl [.int .i64 y.1, .int .i64 y.2] rfl (by kernel_rfl) 58 #[.int .i64 0, .int .i64 0] (by rw [← hxb'.out]; exact heap_alloc_new _ _) rfl (by intro c hc; simp at hc; rcases hc with rfl | rfl <;> rfl) ?_; rw [hwx'.out]) | (refine wpList_load_agg 58 rfl rfl rfl _ Try.underlying58 rfl [.int .i64 x.1, .int .i64 x.2] (by kernel_rfl) hxl.out ?_))
     have fin := Ix
     go_roundw
     case rel => exact ⟨k + 1, by omega, by go_num, by rw [hstep'.out, hn.out], by rw [hstep'.out, hn.out]; exact fin⟩
     case measure => simp [intOf]; omega
   ·have hbe : (y.1 == x.1) = false := by simp [he]
    cases d with
    | false =>
     by_cases hge0 : x.1 ≤ y.1
     ·have hge : decide (x.1 ≤ y.1) = true := by rw [decide_eq_true_eq]; exact hge0
      have hn : Hid (putStep x (o, false) y = (o ++ [x] ++ [y], true)) := h_ (by unfold putStep; simp [he, hge0])
      clear he hge0
      go_wp2_with (first | (refine wpList_load_agg 58 rfl rfl rfl _ Try.underlying58 rfl [.int .i64 y.1, .int .i64 y.2] (by kernel_rfl) hlo.out ?_) | (refine wpList_load_agg 58 rfl rfl rfl _ Try.underlying58 rfl [.int .i64 y.1, .int .i64 y.2] (by kernel_rfl) hlx.out ?_) | (refine wpList_alloc_as 58 rfl rfl #[.int .i64 0, .int .i64 0] (by kernel_rfl) ?_; rw [hxb'.out]) | (refine wpList_store_whole 58 rfl rfl rfl [.int .i64 y.1, .int .i64 y.2] rfl (by kernel_rfl) 58 #[.int .i64 0, .int .i64 0] (by rw [← hxb'.out]; exact heap_alloc_new _ _) rfl (by intro c hc; simp at hc; rcases hc with rfl | rfl <;> rfl) ?_; rw [hwx'.out]) | (refine wpList_load_agg 58 rfl rfl rfl _ Try.underlying58 rfl [.int .i64 x.1, .int .i64 x.2] (by kernel_rfl) hxl.out ?_) | (at_builtin; refine wpList_append_src rfl elemEntry (.tmp 35) (.tmp 37) rfl (by rfl) (by rfl) RX.out (SliceAt.block_new (ys := [.int .i64 x.1, .int .i64 x.2]) (m := 1) (heap_alloc_new _ _) (by rfl) (by decide)) (by intro c hc; simp at hc; rcases hc with rfl | rfl <;> rfl) (by omega) (by omega) KX.out.size ?_; intro v2 w10 hown10 hg10 hat10; have hap := RfSt.app Ix.out RX.out hown10 hg10; obtain ⟨IA0, hcl⟩ := hap; have IA := h_ IA0; clear IA0; have ca0 := hcl _ _ cx0 (fun e => Nat.lt_irrefl _ (hrl.out _ e)); have ca1 := hcl _ _ cx1 (fun e => Nat.lt_irrefl _ (hrl.out _ e)); have hla := h_ (pair_load ca0 ca1); have cXa := hX.out w10 IA.out.kept 0 _ rfl; simp at cXa; have hoa : (o ++ [x]).length ≤ 2001 := (by rw [List.length_append]; simp; omega); obtain ⟨o2, ho2⟩ : ∃ o2, o ++ [x] = o2 := ⟨_, rfl⟩; rw [ho2] at IA hoa; have RZ := h_ (ownsRow.keptOf IA.out.row ((Kept.refl (fun _ => False) w10).alloc (.cells #[.int .i64 y.1, .int .i64 y.2] 58)) (fun _ _ => id)); have KZ := h_ (IA.out.kept.trans ((Kept.refl (fun _ => False) w10).alloc (.cells #[.int .i64 y.1, .int .i64 y.2] 58))); clear hown10 hg10 hat10 hcl) | (at_builtin; refine wpList_append_src rfl elemEntry (.tmp 44) (.tmp 46) rfl (by rfl) (by rfl) RZ.out (SliceAt.block_new (ys := [.int .i64 y.1, .int .i64 y.2]) (m := 1) (heap_alloc_new _ _) (by rfl) (by decide)) (by intro c hc; simp at hc; rcases hc with rfl | rfl <;> rfl) (by omega) (by omega) KZ.out.size ?_; intro v3 w11 hown11 hg11 hat11) | (refine wpList_load_agg 58 rfl rfl rfl _ Try.underlying58 rfl [.int .i64 y.1, .int .i64 y.2] (by kernel_rfl) hla.out ?_))
      have fin : Hid (RfSt w1 v3 (o ++ [x] ++ [y]) w11) := h_ (by rw [ho2]; exact ⟨KZ.out.trans_new (Kept.of_grown hg11) (fun i hi e => absurd hi (Nat.not_lt.2 (RZ.out.lt i e).1)), by rw [entCells_append, List.length_append]; exact hown11⟩)
      clear hown11 hg11 hat11
      go_wp2_with fail
      go_roundw
      case rel => exact ⟨k + 1, by omega, by go_num, by rw [hstep'.out, hn.out], by rw [hstep'.out, hn.out]; exact fin⟩
      case measure => simp [intOf]; omega
     ·have hge : decide (x.1 ≤ y.1) = false := by rw [decide_eq_false_iff_not]; exact hge0
      have hn : Hid (putStep x (o, false) y = (o ++ [y], false)) := h_ (by unfold putStep; simp [he, hge0])
      clear he hge0
      go_wp2_with (first | (refine wpList_load_agg 58 rfl rfl rfl _ Try.underlying58 rfl [.int .i64 y.1, .int .i64 y.2] (by kernel_rfl) hlo.out ?_) | (refine wpList_load_agg 58 rfl rfl rfl _ Try.underlying58 rfl [.int .i64 y.1, .int .i64 y.2] (by kernel_rfl) hlx.out ?_) | (refine wpList_alloc_as 58 rfl rfl #[.int .i64 0, .int .i64 0] (by kernel_rfl) ?_; rw [hxb'.out]) | (refine wpList_store_whole 58 rfl rfl rfl [.int .i64 y.1, .int .i64 y.2] rfl (by kernel_rfl) 58 #[.int .i64 0, .int .i64 0] (by rw [← hxb'.out]; exact heap_alloc_new _ _) rfl (by intro c hc; simp at hc; rcases hc with rfl | rfl <;> rfl) ?_; rw [hwx'.out]) | (refine wpList_load_agg 58 rfl rfl rfl _ Try.underlying58 rfl [.int .i64 x.1, .int .i64 x.2] (by kernel_rfl) hxl.out ?_) | (at_builtin; refine wpList_append_src rfl elemEntry (.tmp 44) (.tmp 46) rfl (by rfl) (by rfl) R5.out (SliceAt.block_new (ys := [.int .i64 y.1, .int .i64 y.2]) (m := 1) (heap_alloc_new _ _) (by rfl) (by decide)) (by intro c hc; simp at hc; rcases hc with rfl | rfl <;> rfl) (by omega) (by omega) K5.out.size ?_; intro v2 w10 hown10 hg10 hat10))
      have fin : Hid (RfSt w1 v2 (o ++ [y]) w10) := h_ ⟨K5.out.trans_new (Kept.of_grown hg10) (fun i hi e => absurd hi (Nat.not_lt.2 (R5.out.lt i e).1)), by rw [entCells_append, List.length_append]; exact hown10⟩
      clear hown10 hg10 hat10
      go_wp2_with fail
      go_roundw
      case rel => exact ⟨k + 1, by omega, by go_num, by rw [hstep'.out, hn.out], by rw [hstep'.out, hn.out]; exact fin⟩
      case measure => simp [intOf]; omega
    | true =>
     have hn : Hid (putStep x (o, true) y = (o ++ [y], true)) := h_ (by unfold putStep; simp [he])
     clear he
     go_wp2_with (first | (refine wpList_load_agg 58 rfl rfl rfl _ Try.underlying58 rfl [.int .i64 y.1, .int .i64 y.2] (by kernel_rfl) hlo.out ?_) | (refine wpList_load_agg 58 rfl rfl rfl _ Try.underlying58 rfl [.int .i64 y.1, .int .i64 y.2] (by kernel_rfl) hlx.out ?_) | (refine wpList_alloc_as 58 rfl rfl #[.int .i64 0, .int .i64 0] (by kernel_rfl) ?_; rw [hxb'.out]) | (refine wpList_store_whole 58 rfl rfl rfl [.int .i64 y.1, .int .i64 y.2] rfl (by kernel_rfl) 58 #[.int .i64 0, .int .i64 0] (by rw [← hxb'.out]; exact heap_alloc_new _ _) rfl (by intro c hc; simp at hc; rcases hc with rfl | rfl <;> rfl) ?_; rw [hwx'.out]) | (refine wpList_load_agg 58 rfl rfl rfl _ Try.underlying58 rfl [.int .i64 x.1, .int .i64 x.2] (by kernel_rfl) hxl.out ?_) | (at_builtin; refine wpList_append_src rfl elemEntry (.tmp 44) (.tmp 46) rfl (by rfl) (by rfl) R5.out (SliceAt.block_new (ys := [.int .i64 y.1, .int .i64 y.2]) (m := 1) (heap_alloc_new _ _) (by rfl) (by decide)) (by intro c hc; simp at hc; rcases hc with rfl | rfl <;> rfl) (by omega) (by omega) K5.out.size ?_; intro v2 w10 hown10 hg10 hat10))
     have fin : Hid (RfSt w1 v2 (o ++ [y]) w10) := h_ ⟨K5.out.trans_new (Kept.of_grown hg10) (fun i hi e => absurd hi (Nat.not_lt.2 (R5.out.lt i e).1)), by rw [entCells_append, List.length_append]; exact hown10⟩
     clear hown10 hg10 hat10
     go_wp2_with fail
     go_roundw
     case rel => exact ⟨k + 1, by omega, by go_num, by rw [hstep'.out, hn.out], by rw [hstep'.out, hn.out]; exact fin⟩
     case measure => simp [intOf]; omega
  ·obtain rfl : k = l.length := by omega
   rw [List.take_length] at hI ⊢
   have hlen := putTake_len x l
   have href : Hid (refPut l x = if (l.foldl (putStep x) ([], false)).2 then (l.foldl (putStep x) ([], false)).1 else (l.foldl (putStep x) ([], false)).1 ++ [x]) := h_ rfl
   obtain ⟨S, hS⟩ : ∃ S, l.foldl (putStep x) ([], false) = S := ⟨_, rfl⟩
   rw [hS] at hI hlen href ⊢
   obtain ⟨o, d⟩ := S
   dsimp only at hI hlen href ⊢
   obtain ⟨Au, cu, rfl, hu1, hu2⟩ := EntsAt.form (show EntsAt wr _ o from SliceAt.of_owns hI.out.row)
   unfold maxLen at hu2
   have hsz1 := h_ k1.out.size
   clear hS
   cases d with
   | true =>
    have hn : Hid (refPut l x = o) := h_ (by rw [href.out]; rfl)
    go_wp2_with fail
    go_ret2
    rw [hn.out]
    exact ⟨.slice Au o.length cu, by rfl, owns_le' hI.out.row hsz1.out, k1.out.trans hI.out.kept⟩
   | false =>
    have hn : Hid (refPut l x = o ++ [x]) := h_ (by rw [href.out]; rfl)
    have hxl := h_ (hX.out wr hI.out.kept)
    have RX := h_ (ownsRow.keptOf hI.out.row ((Kept.refl (fun _ => False) wr).alloc (.cells #[.int .i64 x.1, .int .i64 x.2] 58)) (fun _ _ => id))
    have KX := h_ (hI.out.kept.trans ((Kept.refl (fun _ => False) wr).alloc (.cells #[.int .i64 x.1, .int .i64 x.2] 58)))
    go_wp2_with (first | (refine wpList_load_agg 58 rfl rfl rfl _ Try.underlying58 rfl [.int .i64 x.1, .int .i64 x.2] (by kernel_rfl) hxl.out ?_) | (at_builtin; refine wpList_append_src rfl elemEntry (.tmp 51) (.tmp 53) rfl (by rfl) (by rfl) RX.out (SliceAt.block_new (ys := [.int .i64 x.1, .int .i64 x.2]) (m := 1) (heap_alloc_new _ _) (by rfl) (by decide)) (by intro c hc; simp at hc; rcases hc with rfl | rfl <;> rfl) (by omega) (by omega) KX.out.size ?_; intro v2 w10 hown10 hg10 hat10))
    go_ret2
    rw [hn.out, entCells_append, List.length_append]
    exact ⟨v2, by rfl, owns_le' hown10 hsz1.out, k1.out.trans (KX.out.trans_new (Kept.of_grown hg10) (fun i hi e => absurd hi (Nat.not_lt.2 (RX.out.lt i e).1)))⟩


set_option maxHeartbeats 4000000 in
theorem diffOne {w : World} {A : SA} {M : SM} (h : StoreAt w A M) (root : Int) (c : Int × Int) (hfew : M.log.length + 30 < 100000000) :
  Calls Try.prog 30 #[.agg #[.pointer (some ⟨A.sb, 0, none⟩)], .int .i64 root, .agg #[.int .i64 c.1, .int .i64 c.2]] w fun e w' => ∃ A', e = .returned (.tuple #[.int .i64 (M.one root c).2.1, .int .i64 (M.one root c).2.2]) ∧ StoreTo A A' (M.one root c).1 w w' := by
 obtain ⟨db, hdb⟩ : ∃ db, w.heap.size = db := ⟨_, rfl⟩
 obtain ⟨w1, hw1⟩ : ∃ w1, w.alloc (.cells #[.pointer (some ⟨A.sb, 0, none⟩)] 31) = w1 := ⟨_, rfl⟩
 obtain ⟨cb, hcb⟩ : ∃ cb, w1.heap.size = cb := ⟨_, rfl⟩
 obtain ⟨w2, hw2⟩ : ∃ w2, w1.alloc (.cells #[.int .i64 c.1, .int .i64 c.2] 41) = w2 := ⟨_, rfl⟩
 have k1 : Kept (fun _ => False) w w1 := by rw [← hw1]; exact (Kept.refl _ _).alloc _
 have k12 : Kept (fun _ => False) w1 w2 := by rw [← hw2]; exact (Kept.refl _ _).alloc _
 have t1 : w1.heap[db]? = some (.cells #[.pointer (some ⟨A.sb, 0, none⟩)] 31 (0, 0)) := by rw [← hw1, ← hdb]; exact heap_alloc_new _ _
 have t2 := k12.get t1 id
 have tc : w2.heap[cb]? = some (.cells #[.int .i64 c.1, .int .i64 c.2] 41 (0, 0)) := by rw [← hw2, ← hcb]; exact heap_alloc_new _ _
 have c0 := cell_of_heap tc 0
 have c1 := cell_of_heap tc 1
 simp at c0 c1
 have hload : Hid (∀ j v, [Value.pointer (some ⟨A.sb, 0, none⟩)][j]? = some v → w2.cell? ⟨db, 0 + j, none⟩ = some v) := h_ (fun j v hj => by rw [Nat.zero_add, cell_of_heap t2]; simpa using hj)
 have k2 := h_ (k1.trans k12)
 have h2 := h_ (h.fresh (k1.trans k12))
 have hw1' := h_ hw1
 have hw2' := h_ hw2
 have hdb' := h_ hdb
 have hcb' := h_ hcb
 clear hw1 hw2 hdb hcb k1 k12 t1 t2 tc h
 by_cases hc : c.2 = -1
 ·have hb : (c.2 == -1) = true := by simp [hc]
  have hone : Hid (M.one root c = ((M.cut root c.1).1, (M.cut root c.1).2.1, (M.cut root c.1).2.2.2)) := h_ (by unfold SM.one; rw [if_pos hc])
  have hP := pruneCut h2.out root c.1 (by omega)
  obtain ⟨R, hR⟩ : ∃ R, M.cut root c.1 = R := ⟨_, rfl⟩
  rw [hR] at hP hone
  obtain ⟨M1, next, was, er⟩ := R
  dsimp only at hP hone
  rw [hone.out]
  dsimp only
  have hP' := h_ hP
  clear hP hR hc hone
  go_enter Try.func30, Try.ntmps30
  go_wp2_with (first | (refine wpList_box_named 31 rfl rfl _ rfl hw1'.out ?_; rw [hdb'.out]) | (refine wpList_box_named 41 rfl rfl _ rfl hw2'.out ?_; rw [hcb'.out]) | (refine wpList_load_agg 29 rfl rfl rfl _ Try.underlying29 rfl [.pointer (some ⟨A.sb, 0, none⟩)] (by kernel_rfl) hload.out ?_))
  refine hP'.out.mono ?_
  rintro e w3 ⟨A3, rfl, hT⟩
  have T := h_ (StoreTo.before k2.out hT)
  clear hT
  go_wp2_with fail
  go_ret2
  exact ⟨A3, rfl, T.out⟩
 ·have hb : (c.2 == -1) = false := by simp [hc]
  have hone : Hid (M.one root c = M.put root c.1 c.2) := h_ (by unfold SM.one; rw [if_neg hc])
  have hP := treePut h2.out root c.1 c.2 (by omega)
  rw [hone.out]
  obtain ⟨R, hR⟩ : ∃ R, M.put root c.1 c.2 = R := ⟨_, rfl⟩
  rw [hR] at hP ⊢
  obtain ⟨M1, next, er⟩ := R
  dsimp only at hP ⊢
  have hP' := h_ hP
  clear hP hR hc hone
  go_enter Try.func30, Try.ntmps30
  go_wp2_with (first | (refine wpList_box_named 31 rfl rfl _ rfl hw1'.out ?_; rw [hdb'.out]) | (refine wpList_box_named 41 rfl rfl _ rfl hw2'.out ?_; rw [hcb'.out]) | (refine wpList_load_agg 27 rfl rfl rfl _ Try.underlying27 rfl [.pointer (some ⟨A.sb, 0, none⟩)] (by kernel_rfl) hload.out ?_))
  refine hP'.out.mono ?_
  rintro e w3 ⟨A3, rfl, hT⟩
  have T := h_ (StoreTo.before k2.out hT)
  clear hT
  go_wp2_with fail
  go_ret2
  exact ⟨A3, rfl, T.out⟩
theorem one_log {w : World} {A : SA} {M : SM} (h : StoreAt w A M) (root : Int) (c : Int × Int) : (M.one root c).1.log.length ≤ M.log.length + 22 := by
 unfold SM.one
 split
 ·have := cut_log h root c.1; dsimp only; omega
 ·exact put_log M root c.1 c.2
theorem changes_cons (c : Int × Int) (cs : List (Int × Int)) (M : SM) (root : Int) : SM.changes (c :: cs) M root = if (M.change root c).2.2 = 0 then SM.changes cs (M.change root c).1 (M.change root c).2.1 else M.change root c := rfl
structure ApSt (w : World) (A : SA) (M : SM) (cs : List (Int × Int)) (root : Int) (v : Value) (k : Nat) (root' : Int) (A' : SA) (M' : SM) (wr : World) : Prop where
 to_ : StoreTo A A' M' w wr
 db : wr.heap[w.heap.size]? = some (.cells #[.pointer (some ⟨A.sb, 0, none⟩)] 31 (0, 0))
 sp : Safe wr A' w.heap.size
 ents : EntsOff wr A' v cs
 rest : SM.changes (cs.drop k) M' root' = SM.changes cs M root
 log : M'.log.length ≤ M.log.length + 22 * k
theorem ApSt.load {w wr : World} {A A' : SA} {M M' : SM} {cs : List (Int × Int)} {root root' : Int} {v : Value} {k : Nat} (h : ApSt w A M cs root v k root' A' M' wr) : ∀ j u, [Value.pointer (some ⟨A.sb, 0, none⟩)][j]? = some u → wr.cell? ⟨w.heap.size, 0 + j, none⟩ = some u := fun j u hj => by rw [Nat.zero_add, cell_of_heap h.db]; simpa using hj
theorem ApSt.fresh {w wr w' : World} {A A' : SA} {M M' : SM} {cs : List (Int × Int)} {root root' : Int} {v : Value} {k : Nat} (h : ApSt w A M cs root v k root' A' M' wr) (q : Kept (fun _ => False) wr w') : ApSt w A M cs root v k root' A' M' w' :=
 ⟨h.to_.fresh q, q.get h.db id, h.sp.fresh q, h.ents.fresh q, h.rest, h.log⟩
set_option maxHeartbeats 8000000 in
theorem diffApply {w : World} {A : SA} {M : SM} (h : StoreAt w A M) (root : Int) {v : Value} {cs : List (Int × Int)} (hv : EntsOff w A v cs) (hcs : cs.length ≤ 1000) (hfew : M.log.length + 100000 < 100000000) :
  Calls Try.prog 15 #[.agg #[.pointer (some ⟨A.sb, 0, none⟩)], .int .i64 root, v] w fun e w' => ∃ A', e = .returned (.tuple #[.int .i64 (SM.changes cs M root).2.1, .int .i64 (SM.changes cs M root).2.2]) ∧ StoreTo A A' (SM.changes cs M root).1 w w' := by
 obtain ⟨Av, cap, rfl, hc1, hc2⟩ := hv.at_.form
 unfold maxLen at hc2
 obtain ⟨w1, hw1⟩ : ∃ w1, w.alloc (.cells #[.pointer (some ⟨A.sb, 0, none⟩)] 31) = w1 := ⟨_, rfl⟩
 have k1 : Kept (fun _ => False) w w1 := by rw [← hw1]; exact (Kept.refl _ _).alloc _
 have I1 : Hid (∃ A' M', ApSt w A M cs root (.slice Av cs.length cap) 0 root A' M' w1) := h_ ⟨A, M, (StoreTo.refl h).fresh k1, by rw [← hw1]; exact heap_alloc_new _ _, Safe.new h (Nat.le_refl _) (by rw [← hw1]; simp), hv.fresh k1, rfl, Nat.le_refl _⟩
 have hw1' := h_ hw1
 clear hw1 k1 h hv
 go_enter Try.func15, Try.ntmps15
 go_wp2_with (first | (refine wpList_box_named 31 rfl rfl _ rfl hw1'.out ?_))
 go_loopw [1, 14] (fun r i wr => ∃ (k : Nat) (root' : Int), k ≤ cs.length ∧ i = .int .i64 k ∧ r = .int .i64 root' ∧ Hid (∃ A' M', ApSt w A M cs root (.slice Av cs.length cap) k root' A' M' wr)) (fun _ i _ => cs.length - (intOf i).toNat)
 case atStart => exact ⟨0, root, Nat.zero_le _, rfl, rfl, I1⟩
 case round =>
  obtain ⟨k, root', hk, rfl, rfl, hI⟩ := hrel
  obtain ⟨A', M', St⟩ := hI.out
  by_cases hlt : k < cs.length
  ·obtain ⟨x, hx⟩ : ∃ x, cs[k]? = some x := ⟨_, List.getElem?_eq_getElem hlt⟩
   obtain ⟨eb, eo, rfl, heb, hx0, hx1⟩ := St.ents.at_.get hx
   have hd : cs.drop k = x :: cs.drop (k + 1) := by rw [List.drop_eq_getElem_cons hlt, (List.getElem?_eq_some_iff.1 hx).2]
   have hrest := St.rest
   rw [hd] at hrest
   have hki : (k : Int) < (cs.length : Int) := by omega
   have hlo : Hid (∀ i v, [Value.int .i64 x.1, .int .i64 x.2][i]? = some v → wr.cell? ⟨eb, eo + k * 2 + i, none⟩ = some v) := h_ (fun i v hi => by
    match i, hi with
    | 0, hi => cases hi; exact hx0
    | 1, hi => cases hi; exact hx1)
   obtain ⟨xb, hxb⟩ : ∃ xb, wr.heap.size = xb := ⟨_, rfl⟩
   obtain ⟨wx, hwx⟩ : ∃ wx, (wr.alloc (.cells #[.int .i64 0, .int .i64 0] 41)).setRow xb #[.int .i64 x.1, .int .i64 x.2] = wx := ⟨_, rfl⟩
   have kx : Kept (fun _ => False) wr wx := by rw [← hwx]; exact ((Kept.refl _ _).alloc _).setRowNew (by omega) _
   have qx : wx.heap[xb]? = some (.cells #[.int .i64 x.1, .int .i64 x.2] 41 (0, 0)) := by rw [← hwx, ← hxb]; exact setRow_heap _ _ _ _ _ _ (heap_alloc_new _ _)
   have hlx : Hid (∀ i v, [Value.int .i64 x.1, .int .i64 x.2][i]? = some v → wx.cell? ⟨xb, 0 + i, none⟩ = some v) := h_ (fun i v hi => by rw [cell_of_heap qx, Nat.zero_add]; simpa using hi)
   have Sx := h_ (St.fresh kx)
   have hld := h_ Sx.out.load
   have hone := diffOne Sx.out.to_.store root' x (by have := St.log; omega)
   rw [St.to_.sb] at hone
   have hlog := one_log Sx.out.to_.store root' x
   rw [changes_cons] at hrest
   unfold SM.change at hrest
   obtain ⟨R, hR⟩ : ∃ R, M'.one root' x = R := ⟨_, rfl⟩
   simp only [hR] at hrest hone hlog
   obtain ⟨M1, next, er⟩ := R
   dsimp only at hrest hone hlog
   have hone' := h_ hone
   have hrest' := h_ hrest
   have hlog' := h_ hlog
   have hxb' := h_ hxb
   have hwx' := h_ hwx
   clear hone hR hx hx0 hx1 hd hI St hrest hlog kx qx hxb hwx I1
   go_wp2_with (first | (refine wpList_load_agg 41 rfl rfl rfl _ Try.underlying41 rfl [.int .i64 x.1, .int .i64 x.2] (by kernel_rfl) hlo.out ?_) | (refine wpList_load_agg 41 rfl rfl rfl _ Try.underlying41 rfl [.int .i64 x.1, .int .i64 x.2] (by kernel_rfl) hlx.out ?_) | (refine wpList_alloc_as 41 rfl rfl #[.int .i64 0, .int .i64 0] (by kernel_rfl) ?_; rw [hxb'.out]) | (refine wpList_store_whole 41 rfl rfl rfl [.int .i64 x.1, .int .i64 x.2] rfl (by kernel_rfl) 41 #[.int .i64 0, .int .i64 0] (by rw [← hxb'.out]; exact heap_alloc_new _ _) rfl (by intro c hc; simp at hc; rcases hc with rfl | rfl <;> rfl) ?_; rw [hwx'.out]) | (refine wpList_load_agg 31 rfl rfl rfl _ Try.underlying31 rfl [.pointer (some ⟨A.sb, 0, none⟩)] (by kernel_rfl) hld.out ?_))
   refine hone'.out.mono ?_
   rintro e w3 ⟨A3, rfl, hT3⟩
   have T3 := h_ (Sx.out.to_.trans hT3)
   have p3 := h_ (hT3.get Sx.out.db Sx.out.sp)
   have s3 := h_ (Sx.out.sp.to hT3)
   have K3 := h_ (Sx.out.ents.to hT3)
   clear hT3
   by_cases h0 : er = 0
   ·subst h0
    have hr2 := hrest'.out
    rw [if_pos rfl] at hr2
    have hS := treeSwap T3.out.store root' next
    rw [T3.out.sb] at hS
    have hlogS := swap_log M1 root' next
    obtain ⟨R, hRe⟩ : ∃ R, M1.swap root' next = R := ⟨_, rfl⟩
    rw [hRe] at hS hlogS
    simp only [hRe] at hr2
    obtain ⟨M2, es⟩ := R
    dsimp only at hS hr2 hlogS
    have hS' := h_ hS
    have hr2' := h_ hr2
    have hload3 : Hid (∀ j u, [Value.pointer (some ⟨A.sb, 0, none⟩)][j]? = some u → w3.cell? ⟨w.heap.size, 0 + j, none⟩ = some u) := h_ (fun j u hj => by rw [Nat.zero_add, cell_of_heap p3.out]; simpa using hj)
    have hlogS' := h_ hlogS
    clear hS hRe hr2 hlogS
    go_wp2_with (first | (refine wpList_load_agg 27 rfl rfl rfl _ Try.underlying27 rfl [.pointer (some ⟨A.sb, 0, none⟩)] (by kernel_rfl) hload3.out ?_))
    refine hS'.out.mono ?_
    rintro e w4 ⟨rfl, hT4⟩
    have T4 := h_ (T3.out.trans hT4)
    have p4 := h_ (hT4.get p3.out s3.out)
    have s4 := h_ (s3.out.to hT4)
    have K4 := h_ (K3.out.to hT4)
    clear hT4
    by_cases h1 : es = 0
    ·subst h1
     have hr3 := hr2'.out
     rw [if_pos rfl] at hr3
     dsimp only at hr3
     rw [if_pos rfl] at hr3
     have fin : Hid (∃ A' M', ApSt w A M cs root (.slice (some ⟨eb, eo, none⟩) cs.length cap) (k + 1) next A' M' w4) := h_ ⟨_, M2, T4.out, p4.out, s4.out, K4.out, hr3, by have := hlog'.out; have := Sx.out.log; have := hlogS'.out; rw [this]; omega⟩
     clear hr3
     go_wp2_with fail
     go_roundw
     case rel => exact ⟨k + 1, next, by omega, by go_num, rfl, fin⟩
     case measure => simp [intOf]; omega
    ·have h1' : ((es : Int) == 0) = false := by simp; omega
     have hr3 := hr2'.out
     rw [if_neg h1] at hr3
     dsimp only at hr3
     rw [if_neg h1] at hr3
     have hr3' := h_ hr3
     clear hr3 h1
     go_wp2_with fail
     go_ret2
     exact ⟨_, by rw [← hr3'.out]; rfl, by rw [← hr3'.out]; exact T4.out⟩
   ·have h0' : ((er : Int) == 0) = false := by simp; omega
    have hr2 := hrest'.out
    rw [if_neg h0] at hr2
    dsimp only at hr2
    rw [if_neg h0] at hr2
    have hr2' := h_ hr2
    clear hr2 h0
    go_wp2_with fail
    go_ret2
    exact ⟨_, by rw [← hr2'.out]; rfl, by rw [← hr2'.out]; exact T3.out⟩
  ·obtain rfl : k = cs.length := by omega
   have hr := St.rest
   rw [List.drop_length] at hr
   have hr' : Hid ((M', root', 0) = SM.changes cs M root) := h_ hr
   have St' := h_ St
   clear hI St hr
   go_wp2_with fail
   go_ret2
   exact ⟨A', by rw [← hr'.out]; rfl, by rw [← hr'.out]; exact St'.out.to_⟩

theorem chgL_good {l : List (Int × Int)} (h : RisesK l ∧ ∀ y ∈ l, 0 ≤ y.1 ∧ y.1 < 64) {x : Int × Int} (k0 : 0 ≤ x.1) (k1 : x.1 < 64) : RisesK (chgL l x) ∧ ∀ y ∈ chgL l x, 0 ≤ y.1 ∧ y.1 < 64 := by
 unfold chgL
 split
 ·exact ⟨cutL_rises h.1 _, fun y hy => h.2 y (List.mem_filter.1 hy).1⟩
 ·refine ⟨putL_rises h.1 _, fun y hy => ?_⟩
  rcases putL_mem hy with rfl | hy
  ·exact ⟨k0, k1⟩
  ·exact h.2 y hy
theorem chgs_good : ∀ (cs : List (Int × Int)) {l : List (Int × Int)}, (RisesK l ∧ ∀ y ∈ l, 0 ≤ y.1 ∧ y.1 < 64) → (∀ x ∈ cs, 0 ≤ x.1 ∧ x.1 < 64) → RisesK (cs.foldl chgL l) ∧ ∀ y ∈ cs.foldl chgL l, 0 ≤ y.1 ∧ y.1 < 64
 | [], _, h, _ => h
 | x :: cs, _, h, hx => chgs_good cs (chgL_good h (hx x (List.mem_cons_self ..)).1 (hx x (List.mem_cons_self ..)).2) (fun y hy => hx y (List.mem_cons_of_mem _ hy))
structure RaSt (w : World) (va : Value) (l cs : List (Int × Int)) (k : Nat) (v : Value) (wr : World) : Prop where
 kept : Kept (fun _ => False) w wr
 ents : EntsAt wr v ((cs.take k).foldl chgL l)
 own : v = va ∨ ∀ b, v.ownBlock = some b → w.heap.size ≤ b
theorem fold_take {l cs : List (Int × Int)} {k : Nat} {x : Int × Int} (h : cs[k]? = some x) : (cs.take (k + 1)).foldl chgL l = chgL ((cs.take k).foldl chgL l) x := by
 obtain ⟨hk, rfl⟩ := List.getElem?_eq_some_iff.1 h
 rw [List.take_add_one, List.getElem?_eq_getElem hk, List.foldl_append]
 rfl
set_option maxHeartbeats 4000000 in
theorem ref12Apply {w : World} {va vc : Value} {l cs : List (Int × Int)} (hv : EntsAt w va l) (hc : EntsAt w vc cs) (hl : RisesK l ∧ ∀ y ∈ l, 0 ≤ y.1 ∧ y.1 < 64) (hcs : cs.length ≤ 1000) (hok : ∀ x ∈ cs, 0 ≤ x.1 ∧ x.1 < 64) :
  Calls Try.prog 8 #[va, vc] w fun e w' => ∃ u, e = .returned (.tuple #[u, .int .i64 0]) ∧ RaSt w va l cs cs.length u w' := by
 obtain ⟨Ac, cc, rfl, hc1, hc2⟩ := hc.form
 unfold maxLen at hc2
 have I0 : Hid (RaSt w va l cs 0 va w) := h_ ⟨Kept.refl _ _, hv, .inl rfl⟩
 have hc' := h_ hc
 have hl' := h_ hl
 have hok' := h_ hok
 obtain ⟨Aa, ca, rfl, ha1, ha2⟩ := hv.form
 clear hv hc hl hok
 go_enter Try.func8, Try.ntmps8
 go_wp2_with fail
 go_loopw [0, 10] (fun v i wr => ∃ (k : Nat), k ≤ cs.length ∧ i = .int .i64 k ∧ Hid (RaSt w (.slice Aa l.length ca) l cs k v wr)) (fun _ i _ => cs.length - (intOf i).toNat)
 case atStart => exact ⟨0, Nat.zero_le _, rfl, I0⟩
 case round =>
  obtain ⟨k, hk, rfl, hI⟩ := hrel
  obtain ⟨Av, cap, rfl, hv1, hv2⟩ := hI.out.ents.form
  unfold maxLen at hv2
  by_cases hlt : k < cs.length
  ·obtain ⟨x, hx⟩ : ∃ x, cs[k]? = some x := ⟨_, List.getElem?_eq_getElem hlt⟩
   obtain ⟨eb, eo, rfl, heb, hx0, hx1⟩ := (show EntsAt wr _ cs from SliceAt.fresh hc'.out hI.out.kept).get hx
   obtain ⟨k0, k1⟩ := hok'.out x (List.mem_of_getElem? hx)
   have hgood := chgs_good (cs.take k) hl'.out (fun y hy => hok'.out y (List.mem_of_mem_take hy))
   have hfin := fold_take (l := l) hx
   obtain ⟨L, hL⟩ : ∃ L, (cs.take k).foldl chgL l = L := ⟨_, rfl⟩
   have hE := hI.out.ents
   rw [hL] at hgood hfin hE hv1 ⊢
   have h64 := rises_len hgood.1 hgood.2
   have hki : (k : Int) < (cs.length : Int) := by omega
   have d0 : decide (x.1 < 0) = false := decide_eq_false (by omega)
   have d1 : decide ((63 : Int) < x.1) = false := decide_eq_false (by omega)
   have hlo : Hid (∀ i v, [Value.int .i64 x.1, .int .i64 x.2][i]? = some v → wr.cell? ⟨eb, eo + k * 2 + i, none⟩ = some v) := h_ (fun i v hi => by
    match i, hi with
    | 0, hi => cases hi; exact hx0
    | 1, hi => cases hi; exact hx1)
   obtain ⟨xb, hxb⟩ : ∃ xb, wr.heap.size = xb := ⟨_, rfl⟩
   obtain ⟨wx, hwx⟩ : ∃ wx, (wr.alloc (.cells #[.int .i64 0, .int .i64 0] 41)).setRow xb #[.int .i64 x.1, .int .i64 x.2] = wx := ⟨_, rfl⟩
   have kx : Kept (fun _ => False) wr wx := by rw [← hwx]; exact ((Kept.refl _ _).alloc _).setRowNew (by omega) _
   have qx : wx.heap[xb]? = some (.cells #[.int .i64 x.1, .int .i64 x.2] 41 (0, 0)) := by rw [← hwx, ← hxb]; exact setRow_heap _ _ _ _ _ _ (heap_alloc_new _ _)
   have cx0 := cell_of_heap qx 0
   have cx1 := cell_of_heap qx 1
   simp at cx0 cx1
   have Kx := h_ (hI.out.kept.trans kx)
   have Ex := h_ (show EntsAt wx _ L from SliceAt.fresh hE kx)
   have hxb' := h_ hxb
   have hwx' := h_ hwx
   have hfin' := h_ hfin
   have hgood' := h_ hgood
   by_cases hm : x.2 = -1
   ·have hb : (x.2 == -1) = true := by simp [hm]
    have hch : Hid (chgL L x = cutL L x.1) := h_ (by unfold chgL; rw [if_pos hm])
    have hC := h_ (refCut10 Ex.out (by omega) x.1)
    clear hx hx0 hx1 hI hL hE kx qx hxb hwx hfin hgood heb k0 k1 hm
    go_wp2_with (first | (refine wpList_load_agg 41 rfl rfl rfl _ Try.underlying41 rfl [.int .i64 x.1, .int .i64 x.2] (by kernel_rfl) hlo.out ?_) | (refine wpList_alloc_as 41 rfl rfl #[.int .i64 0, .int .i64 0] (by kernel_rfl) ?_; rw [hxb'.out]) | (refine wpList_store_whole 41 rfl rfl rfl [.int .i64 x.1, .int .i64 x.2] rfl (by kernel_rfl) 41 #[.int .i64 0, .int .i64 0] (by rw [← hxb'.out]; exact heap_alloc_new _ _) rfl (by intro c hc; simp at hc; rcases hc with rfl | rfl <;> rfl) ?_; rw [hwx'.out]))
    refine hC.out.mono ?_
    rintro e w3 ⟨u, rfl, hu, ku⟩
    have fin : Hid (RaSt w (.slice Aa l.length ca) l cs (k + 1) u w3) := h_ ⟨Kx.out.trans ku, by rw [hfin'.out, hch.out]; exact SliceAt.of_owns hu, .inr fun b hb => by have := (hu.lt b hb).1; have := Kx.out.size; omega⟩
    obtain ⟨_, Au, cu, rfl, _⟩ := SliceAt.of_owns hu
    clear hu ku
    go_wp2_with fail
    go_roundw
    case rel => exact ⟨k + 1, by omega, by go_num, fin⟩
    case measure => simp [intOf]; omega
   ·have hb : (x.2 == -1) = false := by simp [hm]
    have hch : Hid (chgL L x = refPut L x) := h_ (by unfold chgL; rw [if_neg hm, refPut_eq hgood.1])
    have hC := h_ (refPut10 Ex.out (by omega) x ⟨k0, by omega⟩)
    clear hx hx0 hx1 hI hL hE kx qx hxb hwx hfin hgood heb k0 k1 hm
    go_wp2_with (first | (refine wpList_load_agg 41 rfl rfl rfl _ Try.underlying41 rfl [.int .i64 x.1, .int .i64 x.2] (by kernel_rfl) hlo.out ?_) | (refine wpList_alloc_as 41 rfl rfl #[.int .i64 0, .int .i64 0] (by kernel_rfl) ?_; rw [hxb'.out]) | (refine wpList_store_whole 41 rfl rfl rfl [.int .i64 x.1, .int .i64 x.2] rfl (by kernel_rfl) 41 #[.int .i64 0, .int .i64 0] (by rw [← hxb'.out]; exact heap_alloc_new _ _) rfl (by intro c hc; simp at hc; rcases hc with rfl | rfl <;> rfl) ?_; rw [hwx'.out]))
    refine hC.out.mono ?_
    rintro e w3 ⟨u, rfl, hu, ku⟩
    have fin : Hid (RaSt w (.slice Aa l.length ca) l cs (k + 1) u w3) := h_ ⟨Kx.out.trans ku, by rw [hfin'.out, hch.out]; exact SliceAt.of_owns hu, .inr fun b hb => by have := (hu.lt b hb).1; have := Kx.out.size; omega⟩
    obtain ⟨_, Au, cu, rfl, _⟩ := SliceAt.of_owns hu
    clear hu ku
    go_wp2_with fail
    go_roundw
    case rel => exact ⟨k + 1, by omega, by go_num, fin⟩
    case measure => simp [intOf]; omega
  ·obtain rfl : k = cs.length := by omega
   have hki : ¬ ((cs.length : Int) < (cs.length : Int)) := by omega
   have hI2 := hI.out
   rw [List.take_length] at hI2
   have hI3 := h_ hI2
   clear hI hI2
   go_wp2_with fail
   go_ret2
   exact ⟨_, rfl, hI3.out⟩
theorem page_more {s : Nat} {bl : List Nat} {M : SM} {P : Nat} (h : OneTree Clean s bl M (-1) [] P) (hs : bl.length < s) (hbn : bl.Nodup) (b : Nat) (hb : b < 256) (h5 : bl.length ≤ 200) :
  ∃ (M1 M2 : SM) (i : Nat), M.make (dataN b) = (M1, (i : Int), 0) ∧ M1.hold (i : Int) = (M2, 0) ∧ OneTree Clean s (bl ++ [i]) M2 (-1) [] P ∧ i ∉ bl ∧ M2.log.length ≤ M.log.length + 1 := by
 have hfree := clean_free h.kk
 have hlive : M.liveN ≤ bl.length := liveN_list (fun q hq => reach_all h.exact h.loose (L := bl) (fun q _ hq => by
  unfold extB at hq
  rw [if_neg (by omega), Nat.add_zero] at hq
  exact List.count_pos_iff.1 hq) (fun q hq x hx => by
  obtain ⟨_, d, hd, _, hde⟩ := h.data q hq
  rw [ents_of hd, hde] at hx
  cases hx) q hq)
 have hsz := h.size
 rcases make_ok h.exact (n := dataN b) (dataN_ok b hb) (fun x hx => by cases hx) with ⟨i, e, mk⟩ | ⟨_, e⟩ | ⟨_, c, e⟩
 ·obtain ⟨M1, hM1⟩ : ∃ M1, (M.make (dataN b)).1 = M1 := ⟨_, rfl⟩
  have hmk : M.make (dataN b) = (M1, (i : Int), 0) := by rw [← hM1]; exact Prod.ext rfl e
  have hK1 : Clean M1 := by rw [← hM1]; exact clean_closed.make (dataN b) h.kk
  rw [hM1] at mk
  have hc0 : M.pool.cnt i = 0 := by
   have hn := mk.new
   have hlt : i < M.pool.size := by have := live_lt mk.live; rw [mk.grown.size] at this; exact this
   unfold SM.live PM.live at hn
   by_cases hz : 0 < M.pool.cnt i
   ·simp [hlt, hz] at hn
   ·omega
  have hc1 : M1.pool.cnt i = 0 := by rw [mk.cnt i, hc0]; rfl
  obtain ⟨h1, E2, hl2⟩ := holdE_ok mk.exact mk.live (by omega)
  have hnot : i ∉ bl := fun hi => by
   have := (h.data i hi).1
   rw [mk.new] at this
   cases this
  have hlog1 : M1.log.length ≤ M.log.length + 1 := by rw [← hM1]; exact make_log M _
  refine ⟨M1, _, i, hmk, h1, ⟨exact_congr E2 (fun p _ => ?_), ?_, ?_, fun q hq => ?_, ⟨h.keys.1, fun y hy => by cases hy⟩, .inl ⟨rfl, rfl⟩, fun q hq hc => ?_⟩, hnot, hlog1⟩
  ·unfold incE extB
   have hz : (if ((p : Nat) : Int) = -1 then 1 else 0) = 0 := if_neg (by omega)
   rw [hz, Nat.add_zero, Nat.add_zero, List.count_append, List.count_singleton]
   by_cases e : p = i
   ·subst e; simp
   ·have e' : ¬ (i == p) = true := by simp; exact fun z => e z.symm
    rw [if_neg e, if_neg e']
  ·show M1.pool.size = s
   rw [mk.grown.size, hsz]
  ·have := clean_closed.hold M1 (i : Int) hK1
   have e : M1.hold (i : Int) = (⟨M1.pool.holdTo (i : Int), M1.log⟩, M1.pool.holdErr (i : Int)) := rfl
   rw [e] at h1
   have e2 := (Prod.mk.inj h1).1
   rw [← e2]
   exact this
  ·rcases List.mem_append.1 hq with hq | hq
   ·obtain ⟨a, d, hd, hk⟩ := h.data q hq
    exact ⟨by rw [hl2]; exact mk.grown.live q a, d, by show M1.nodeAt q = _; rw [mk.grown.node q a]; exact hd, hk⟩
   ·rw [List.mem_singleton] at hq
    subst hq
    exact ⟨by rw [hl2]; exact mk.live, _, mk.node, rfl, rfl⟩
  ·rw [hl2] at hq
   by_cases e : q = i
   ·subst e
    simp [PM.setCnt] at hc
   ·have hc' : M1.pool.cnt q = 0 := by simpa [PM.setCnt, e] using hc
    rw [mk.cnt q] at hc'
    exact h.loose q ((mk.only q hq).resolve_left e) (by omega)
 ·omega
 ·exfalso
  have hsum : M.sum = 0 := by
   have := sumE_list (M := M) (L := bl) (fun q hq => reach_all h.exact h.loose (L := bl) (fun q _ hq => by
    unfold extB at hq
    rw [if_neg (by omega), Nat.add_zero] at hq
    exact List.count_pos_iff.1 hq) (fun q hq x hx => by
    obtain ⟨_, d, hd, _, hde⟩ := h.data q hq
    rw [ents_of hd, hde] at hx
    cases hx) q hq)
   rw [data_sum (fun b hb => by obtain ⟨_, d, hd, _, he⟩ := h.data b hb; exact ⟨d, hd, he⟩)] at this
   omega
  have hext : extB bl (-1) c ≤ 200 := by
   unfold extB
   rw [if_neg (by omega)]
   have : bl.count c ≤ bl.length := List.count_le_length
   omega
  have hrl := M.refs_le c
  rw [hsum] at hrl
  have : (dataN b).ents.length = 0 := rfl
  omega
end Go.Proofs.Ytdcnogjbmdhgaaa
