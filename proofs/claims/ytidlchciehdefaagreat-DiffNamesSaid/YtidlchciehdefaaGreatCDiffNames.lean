/-
  DiffNames: nothing differs from itself, and all from nothing. No conditions.
-/
import Derived.Test.YtidlchciehdefaaGreatK19
import Derived.Test.YtidlchciehdefaaGreatK21
set_option linter.unusedVariables false
set_option linter.unusedSimpArgs false
namespace Go.Proofs.YtidlchciehdefaaGreat.diffNames
open Go.ChangeShapes Go.WideShapes Go.ChangeAt Go.RowKit
set_option maxRecDepth 100000

theorem rootis_none (M : SM) : RootIs 1 M (-1) [] := ⟨.inl ⟨rfl, rfl⟩, List.Pairwise.nil, (fun y hy => by cases hy), (fun y hy => by cases hy)⟩
theorem ch_none0 : changesL [] [] = [] := ch_self []
theorem list_one {S : List Int} {a : Int} (hn : S.Nodup) (h : ∀ x, x ∈ S ↔ x = a) : S = [a] := by
  cases S with
  | nil => exact absurd ((h a).2 rfl) (by simp)
  | cons x S =>
    have hx := (h x).1 (List.mem_cons_self ..)
    subst hx
    cases S with
    | nil => rfl
    | cons y S =>
      have hy := (h y).1 (List.mem_cons_of_mem _ (List.mem_cons_self ..))
      subst hy
      simp at hn
set_option maxHeartbeats 16000000 in
theorem walk (w0 : World) : Calls Tryz.prog 13 #[] w0 fun e w' => e = .returned (.bool true) ∧ Kept (fun _ => False) w0 w' := by
  have hm := fun w => made12 w
  have hm' := Lib.hid hm
  clear hm
  go_enter Tryz.func13, Tryz.ntmps13
  go_wp2_with fail
  refine (diffAlive _).mono ?_
  rintro e w ⟨rfl, kw⟩
  have kw' := Lib.hid kw
  clear kw
  go_wp2_with fail
  refine (hm'.out _).mono ?_
  rintro e w2 ⟨A, M, ns, v, rfl, hA, h4, hone, hnd, hrow, hoff, hlg, hk, hnew⟩
  rcases hrow.2 with ⟨_, h0⟩ | ⟨g, cp, cur, rfl, hb, hg, hn, hm2, hs, ht⟩
  · exact absurd h0 (by decide)
  obtain ⟨p0, p1, p2, p3, rfl⟩ : ∃ p0 p1 p2 p3, ns = [p0, p1, p2, p3] := by
    match ns, h4 with
    | [a, b, c, d], _ => exact ⟨a, b, c, d, rfl⟩
  have hsl := SliceAt.of_owns hrow
  have e0 := hsl.cell0 (j := 0) (v := .int .i64 p0) rfl
  have e1 := hsl.cell0 (j := 1) (v := .int .i64 p1) rfl
  have e2 := hsl.cell0 (j := 2) (v := .int .i64 p2) rfl
  have hgl := (hrow.lt g rfl).2
  obtain ⟨_, _, _, e4, hcp1, hcp2, _⟩ := hsl
  cases e4
  unfold maxLen at hcp2
  obtain ⟨M1, a, hbd, h1, hlg1⟩ := alive12_build hone h4 (p0 := p0) (p1 := p1) (by simp) (by simp)
  obtain ⟨db, hdb⟩ : ∃ db, w2.heap.size = db := ⟨_, rfl⟩
  obtain ⟨w3, hw3⟩ : ∃ w3, (w2.alloc (.cells #[.pointer none] 30)).setRow db #[.pointer (some ⟨A.sb, 0, none⟩)] = w3 := ⟨_, rfl⟩
  have k3 : Kept (fun _ => False) w2 w3 := by rw [← hw3]; exact ((Kept.refl _ _).alloc _).setRowNew (by omega) _
  have q3 : w3.heap[db]? = some (.cells #[.pointer (some ⟨A.sb, 0, none⟩)] 30 (0, 0)) := by rw [← hw3, ← hdb]; exact setRow_heap _ _ _ _ _ _ (heap_alloc_new _ _)
  have S3 : DifSt w db A.sb g p0 p1 p2 w3 A M := ⟨⟨hA.fresh k3, hk.trans k3, hnew⟩, q3, Safe.new hA (by omega) (lt_of_heap q3), rfl, k3.cell e0 id, k3.cell e1 id, k3.cell e2 id, ⟨Nat.lt_of_lt_of_le hgl k3.size, fun e => hoff g rfl (.inl e)⟩⟩
  obtain ⟨sb, hsb⟩ : ∃ sb, A.sb = sb := ⟨_, rfl⟩
  rw [hsb] at hw3 S3 ⊢
  have S3 := Lib.hid S3
  have hw3' := Lib.hid hw3
  have hdb' := Lib.hid hdb
  have hone' := Lib.hid hone
  have h1' := Lib.hid h1
  have hbd' := Lib.hid hbd
  clear hA hone hnd hrow hoff hk hnew hb hg hn hs ht e0 e1 e2 hgl hdb hw3 k3 q3 hbd h1 hm2
  go_wp2_with (first | (refine wpList_alloc_as 30 rfl rfl #[.pointer none] differ_zero ?_; rw [hdb'.out]) | (refine wpList_store_whole 30 rfl rfl rfl [.pointer (some ⟨sb, 0, none⟩)] rfl (by kernel_rfl) 30 #[.pointer none] (by rw [← hdb'.out]; exact heap_alloc_new _ _) rfl (by intro c hc; simp at hc; subst hc; rfl) ?_; rw [hw3'.out]))
  refine wp_region_held_drew (S := fun W => W.heap[db]? = some (.cells #[.pointer (some ⟨sb, 0, none⟩)] 30 (0, 0)) ∧ W.cell? ⟨g, 0, none⟩ = some (.int .i64 p0) ∧ W.cell? ⟨g, 0 + 1, none⟩ = some (.int .i64 p1) ∧ W.cell? ⟨g, 0 + 2, none⟩ = some (.int .i64 p2)) (by kernel_rfl) ⟨S3.out.box, S3.out.c0, S3.out.c1, S3.out.c2⟩ (fun hS => ?_)
  refine wpAnyH_take (i := 0) (v := .pointer (some ⟨db, 0, none⟩)) rfl (by kernel_rfl) (by kernel_rfl) (by kernel_rfl) (fun _ _ _ h => h) (Or.inl ⟨by rfl, fun W hW => by go_simp⟩) (by assumption) ?_
  simp only [Act.put, List.getElem_toArray, List.getElem_cons_zero, List.getElem_cons_succ, List.setIfInBounds_toArray, List.set_cons_zero, List.set_cons_succ]
  refine wpAnyH_take (i := 1) (v := .pointer (some ⟨db, 0, none⟩)) rfl (by kernel_rfl) (by kernel_rfl) (by kernel_rfl) (fun _ _ _ h => h) (Or.inl ⟨by rfl, fun W hW => by go_simp⟩) (by assumption) ?_
  simp only [Act.put, List.getElem_toArray, List.getElem_cons_zero, List.getElem_cons_succ, List.setIfInBounds_toArray, List.set_cons_zero, List.set_cons_succ]
  refine wpAnyH_take (i := 2) (v := .agg #[.pointer (some ⟨sb, 0, none⟩)]) rfl (by kernel_rfl) (by kernel_rfl) (by kernel_rfl) (fun _ _ _ h => h) (Or.inl ⟨by rfl, fun W hW => exec_load_agg rfl (by rfl) [.pointer (some ⟨sb, 0, none⟩)] Tryz.underlying26 rfl (by kernel_rfl) (fun j v hj => by rw [cell_of_heap hW.1, Nat.zero_add]; simpa using hj)⟩) (by assumption) ?_
  simp only [Act.put, List.getElem_toArray, List.getElem_cons_zero, List.getElem_cons_succ, List.setIfInBounds_toArray, List.set_cons_zero, List.set_cons_succ]
  refine wpAnyH_take (i := 3) (v := .slice (some ⟨g, 0, none⟩) 4 cp) rfl (by kernel_rfl) (by kernel_rfl) (by kernel_rfl) (fun _ _ _ h => h) (Or.inl ⟨by rfl, fun W hW => by go_simp⟩) (by assumption) ?_
  simp only [Act.put, List.getElem_toArray, List.getElem_cons_zero, List.getElem_cons_succ, List.setIfInBounds_toArray, List.set_cons_zero, List.set_cons_succ]
  refine wpAnyH_take (i := 4) (v := .pointer (some ⟨g, 0, none⟩)) rfl (by kernel_rfl) (by kernel_rfl) (by kernel_rfl) (fun _ _ _ h => h) (Or.inl ⟨by rfl, fun W hW => by go_simp⟩) (by assumption) ?_
  simp only [Act.put, List.getElem_toArray, List.getElem_cons_zero, List.getElem_cons_succ, List.setIfInBounds_toArray, List.set_cons_zero, List.set_cons_succ]
  refine wpAnyH_take (i := 5) (v := .int .i64 p0) rfl (by kernel_rfl) (by kernel_rfl) (by kernel_rfl) (fun _ _ _ h => h) (Or.inl ⟨by rfl, fun W hW => by have hc := hW.2.1; clear hW; go_simp⟩) (by assumption) ?_
  simp only [Act.put, List.getElem_toArray, List.getElem_cons_zero, List.getElem_cons_succ, List.setIfInBounds_toArray, List.set_cons_zero, List.set_cons_succ]
  refine wpAnyH_take (i := 6) (v := .agg #[.int .i64 1, .int .i64 p0]) rfl (by kernel_rfl) (by kernel_rfl) (by kernel_rfl) (fun _ _ _ h => h) (Or.inl ⟨by rfl, fun W hW => by go_simp⟩) (by assumption) ?_
  simp only [Act.put, List.getElem_toArray, List.getElem_cons_zero, List.getElem_cons_succ, List.setIfInBounds_toArray, List.set_cons_zero, List.set_cons_succ]
  refine wpAnyH_take (i := 7) (v := .slice (some ⟨g, 0, none⟩) 4 cp) rfl (by kernel_rfl) (by kernel_rfl) (by kernel_rfl) (fun _ _ _ h => h) (Or.inl ⟨by rfl, fun W hW => by go_simp⟩) (by assumption) ?_
  simp only [Act.put, List.getElem_toArray, List.getElem_cons_zero, List.getElem_cons_succ, List.setIfInBounds_toArray, List.set_cons_zero, List.set_cons_succ]
  refine wpAnyH_take (i := 8) (v := .pointer (some ⟨g, 0 + 1, none⟩)) rfl (by kernel_rfl) (by kernel_rfl) (by kernel_rfl) (fun _ _ _ h => h) (Or.inl ⟨by rfl, fun W hW => by go_simp⟩) (by assumption) ?_
  simp only [Act.put, List.getElem_toArray, List.getElem_cons_zero, List.getElem_cons_succ, List.setIfInBounds_toArray, List.set_cons_zero, List.set_cons_succ]
  refine wpAnyH_take (i := 9) (v := .int .i64 p1) rfl (by kernel_rfl) (by kernel_rfl) (by kernel_rfl) (fun _ _ _ h => h) (Or.inl ⟨by rfl, fun W hW => by have hc := hW.2.2.1; clear hW; go_simp⟩) (by assumption) ?_
  simp only [Act.put, List.getElem_toArray, List.getElem_cons_zero, List.getElem_cons_succ, List.setIfInBounds_toArray, List.set_cons_zero, List.set_cons_succ]
  refine wpAnyH_take (i := 10) (v := .agg #[.int .i64 2, .int .i64 p1]) rfl (by kernel_rfl) (by kernel_rfl) (by kernel_rfl) (fun _ _ _ h => h) (Or.inl ⟨by rfl, fun W hW => by go_simp⟩) (by assumption) ?_
  simp only [Act.put, List.getElem_toArray, List.getElem_cons_zero, List.getElem_cons_succ, List.setIfInBounds_toArray, List.set_cons_zero, List.set_cons_succ]
  refine wpAnyH_ready (rs := [11]) (by kernel_rfl) (by simp) ?_
  refine AllReadyH.cons rfl (fun K hK => ?_) ?_
  · rw [if_pos (by rfl)]
    simp only [Go.wp_at_zero, Go.wp_at_succ]
    go_simp
    have k4 : Kept (fun _ => False) w3 (w3.drew.alloc (.cells #[.int .i64 1, .int .i64 p0, .int .i64 2, .int .i64 p1] 86)) := (Kept.refl _ _).drew.alloc _
    have S4 := S3.out.fresh k4
    refine hK.out _ _ ⟨S4.box, S4.c0, S4.c1, S4.c2⟩ (fun hS4 => ?_)
    clear hK K
    try simp only [Act.put, List.getElem_toArray, List.getElem_cons_zero, List.getElem_cons_succ, List.setIfInBounds_toArray, List.set_cons_zero, List.set_cons_succ]
    obtain ⟨hS4', hE4⟩ := ents_new (S3.out.fresh ((Kept.refl (fun _ => False) w3).drew)).own.store (exA p0 p1) (by show 2 ≤ 1000; omega)
    have hB := treeBuild hS4' hE4 (by show 2 ≤ 1000; omega) (by omega)
    rw [hbd'.out, S3.out.eq] at hB
    dsimp only at hB
    have hB' := Lib.hid hB
    have S4 := Lib.hid S4
    clear hS4' hE4 hB k4
    refine wpAnyH_ready (rs := [12]) (by kernel_rfl) (by simp) ?_
    refine AllReadyH.cons rfl (fun K hK => ?_) ?_
    · rw [if_pos (by rfl)]
      simp only [Go.wp_at_zero, Go.wp_at_succ]
      go_simp
      refine hB'.out.mono ?_
      rintro e w5 ⟨A5, rfl, hT5⟩
      have S5 := S4.out.to hT5
      refine hK.out _ _ ⟨S5.box, S5.c0, S5.c1, S5.c2⟩ (fun hS5 => ?_)
      clear hK K
      try simp only [Act.put, List.getElem_toArray, List.getElem_cons_zero, List.getElem_cons_succ, List.setIfInBounds_toArray, List.set_cons_zero, List.set_cons_succ]
      have S5 := Lib.hid S5
      refine wpAnyH_take (i := 13) (v := .tuple #[.int .i64 a, .int .i64 0]) rfl (by kernel_rfl) (by kernel_rfl) (by kernel_rfl) (fun _ _ _ h => h) (Or.inl ⟨by rfl, fun W hW => by go_simp⟩) (by assumption) ?_
      simp only [Act.put, List.getElem_toArray, List.getElem_cons_zero, List.getElem_cons_succ, List.setIfInBounds_toArray, List.set_cons_zero, List.set_cons_succ]
      refine wpAnyH_take (i := 14) (v := .int .i64 a) rfl (by kernel_rfl) (by kernel_rfl) (by kernel_rfl) (fun _ _ _ h => h) (Or.inl ⟨by rfl, fun W hW => by go_simp⟩) (by assumption) ?_
      simp only [Act.put, List.getElem_toArray, List.getElem_cons_zero, List.getElem_cons_succ, List.setIfInBounds_toArray, List.set_cons_zero, List.set_cons_succ]
      refine wpAnyH_take (i := 15) (v := .int .i64 0) rfl (by kernel_rfl) (by kernel_rfl) (by kernel_rfl) (fun _ _ _ h => h) (Or.inl ⟨by rfl, fun W hW => by go_simp⟩) (by assumption) ?_
      simp only [Act.put, List.getElem_toArray, List.getElem_cons_zero, List.getElem_cons_succ, List.setIfInBounds_toArray, List.set_cons_zero, List.set_cons_succ]
      refine wpAnyH_take (i := 16) (v := .int .i64 a) rfl (by kernel_rfl) (by kernel_rfl) (by kernel_rfl) (fun _ _ _ h => h) (Or.inl ⟨by rfl, fun W hW => by go_simp⟩) (by assumption) ?_
      simp only [Act.put, List.getElem_toArray, List.getElem_cons_zero, List.getElem_cons_succ, List.setIfInBounds_toArray, List.set_cons_zero, List.set_cons_succ]
      refine wpAnyH_take (i := 17) (v := .int .i64 0) rfl (by kernel_rfl) (by kernel_rfl) (by kernel_rfl) (fun _ _ _ h => h) (Or.inl ⟨by rfl, fun W hW => by go_simp⟩) (by assumption) ?_
      simp only [Act.put, List.getElem_toArray, List.getElem_cons_zero, List.getElem_cons_succ, List.setIfInBounds_toArray, List.set_cons_zero, List.set_cons_succ]
      refine wpAnyH_done (by kernel_rfl) ?_ _
      clear hS hS4 hS5 hT5 hB'
      have hra := rootis_one h1'.out (by decide) (by decide)
      have hra' := Lib.hid hra
      have hrn := Lib.hid (rootis_none M1)
      clear hra
      have hC := diffChanges S5.out.own.store hra'.out hra'.out
      rw [S5.out.eq] at hC
      rw [ch_self] at hC
      have hC' := Lib.hid hC
      clear hC
      go_wp2_with (first | (refine wpList_load_agg 30 rfl rfl rfl _ Tryz.underlying30 rfl [.pointer (some ⟨sb, 0, none⟩)] (by kernel_rfl) S5.out.load ?_))
      refine hC'.out.mono ?_
      rintro e w8 ⟨v8, rfl, hown8, kc8⟩
      have S8 := Lib.hid (S5.out.fresh kc8)
      have hE8 : EntsAt w8 v8 [] := SliceAt.of_owns hown8
      obtain ⟨Av8, cap8, rfl, _⟩ := EntsAt.form hE8
      simp only [List.length_nil]
      clear hown8 hE8 kc8 hC'
      have hC := diffChanges S8.out.own.store hrn.out hra'.out
      rw [S8.out.eq] at hC
      have hC' := Lib.hid hC
      clear hC
      go_wp2_with (first | (refine wpList_load_agg 30 rfl rfl rfl _ Tryz.underlying30 rfl [.pointer (some ⟨sb, 0, none⟩)] (by kernel_rfl) S8.out.load ?_))
      refine hC'.out.mono ?_
      rintro e w9 ⟨v9, rfl, hown9, kc9⟩
      have S9 := Lib.hid (S8.out.fresh kc9)
      have hl9 := ch_none p0 p1
      obtain ⟨C9, hC9⟩ : ∃ C9, changesL [] (exA p0 p1) = C9 := ⟨_, rfl⟩
      rw [hC9] at hown9 hl9
      have hE9 : EntsAt w9 v9 C9 := SliceAt.of_owns hown9
      obtain ⟨Av9, cap9, rfl, _⟩ := EntsAt.form hE9
      rw [hl9]
      clear hown9 hE9 kc9 hC' hC9 hl9
      have hC := diffShared S9.out.own.store hra'.out hra'.out
      rw [S9.out.eq] at hC
      have hC' := Lib.hid hC
      clear hC
      go_wp2_with (first | (refine wpList_load_agg 30 rfl rfl rfl _ Tryz.underlying30 rfl [.pointer (some ⟨sb, 0, none⟩)] (by kernel_rfl) S9.out.load ?_))
      refine hC'.out.mono ?_
      rintro e w10 ⟨v10, L10, rfl, hown10, hnd, hin, kc10⟩
      have S10 := Lib.hid (S9.out.fresh kc10)
      have hL : L10 = [a] := list_one hnd (fun x => (hin x).trans ((and_self_iff).trans (one_leaf h1'.out x)))
      subst hL
      have hsl := SliceAt.of_owns hown10
      obtain ⟨_, Av10, cap10, rfl, hq1, hq2, _⟩ := id hsl
      obtain ⟨b10, off10, rfl, _, c10⟩ := ints_at hsl (i := 0) (x := a) rfl
      rw [Nat.add_zero] at c10
      have c10' := Lib.hid c10
      unfold maxLen at hq2
      simp only [List.length_cons, List.length_nil, Nat.zero_add] at hq1 ⊢
      clear hown10 hsl hnd hin kc10 c10 hC'
      have hC := diffChanges S10.out.own.store hrn.out hrn.out
      rw [S10.out.eq] at hC
      rw [ch_none0] at hC
      have hC' := Lib.hid hC
      clear hC
      go_wp2_with (first | (refine wpList_load_agg 30 rfl rfl rfl _ Tryz.underlying30 rfl [.pointer (some ⟨sb, 0, none⟩)] (by kernel_rfl) S10.out.load ?_))
      refine hC'.out.mono ?_
      rintro e w11 ⟨v11, rfl, hown11, kc11⟩
      have S11 := Lib.hid (S10.out.fresh kc11)
      have c11 := kc11.cell c10'.out id
      have hE11 : EntsAt w11 v11 [] := SliceAt.of_owns hown11
      obtain ⟨Av11, cap11, rfl, _⟩ := EntsAt.form hE11
      simp only [List.length_nil]
      clear hown11 hE11 kc11 hC'
      clear c10'
      go_wp2_with fail
      go_ret
      exact ⟨rfl, kw'.out.trans S11.out.own.kept⟩
    exact AllReadyH.nil
  exact AllReadyH.nil
set_option maxRecDepth 100000 in
theorem lifted (os : Os) (started : os.Started) (H : Type) (enc : TypeId × Value → H) :
    ReturnsInHanded {} Tryz.checked os 13 .any (Rows.diffNamesSpec.pre6 enc Tryz.prog Tryz.f13 Rows.diffNamesRow.domain false) (Rows.diffNamesSpec.post enc Tryz.prog Tryz.f13 false true false false) := by
  refine law_lift os started 13 Tryz.f13 Tryz.func13 (by kernel_rfl) Rows.diffNamesSpec rfl ?_ rfl (by kernel_rfl)
    (ChangeSpec.witness6 (enc := enc) (C := Tryz.checked) false ⟨#[], #[], []⟩ 8 (by kernel_rfl) (by kernel_rfl) (by kernel_rfl) (by kernel_rfl)) ?_
  · intro ds hds
    rw [Tryz.params13] at hds
    match ds, hds with
    | [], _ => rfl
  · intro W base args ds p hval hA
    rw [Tryz.params13] at hA hval
    obtain ⟨hargs, rfl, rfl⟩ := trodAll_nil hA
    obtain rfl : args = #[] := by cases args; simp_all
    exact (walk  W).mono fun e W' ⟨he, hk⟩ => ⟨he, hk.below (Nat.le_refl _) (fun _ _ h => h)⟩

theorem over : Rows.diffNamesRow.holds Tryz.pinned (OpenSpec.ofChange Rows.diffNamesSpec) :=
  OpenClaim.holds_of_wide 13 Tryz.f13 rfl rfl rfl rfl rfl rfl rfl ⟨rfl, rfl, rfl, rfl, rfl⟩ rfl rfl rfl rfl rfl (by kernel_rfl) Tryz.func13 (joined_of _ _ _ _ rfl rfl rfl (by kernel_rfl))
    (of_decide_eq_true (by kernel_rfl)) (by unfold Func.isWrapper; rw [if_neg (by decide +kernel)]; exact ⟨rfl, rfl⟩)
    (fun os started H enc _ => lifted os started H enc)

theorem proved : Rows.DiffNamesSaid := over
#print axioms proved
end Go.Proofs.YtidlchciehdefaaGreat.diffNames
