/- Walks: the document's Net: right, Len. -/
import Derived.Test.YtppohfgaegahoaaLae
namespace Go.Proofs.Ytppohfgaegahoaa
open Go.Tw Go.RowKit
attribute [local irreducible] Step WL W WQ Does

theorem it3_one (p : Lk × Msg) : ∀ c ∈ (Value.agg (it3 p).toArray).cells.toList, c.oneCell' = true := by
  intro c hc
  simp [it3, Value.cells] at hc
  rcases hc with rfl | rfl | rfl <;> rfl

/-- towline towlineref04.right -/
theorem right_ok (l : Lk) (w : World) : Does Try.prog 53 #[ekL l] w (fun v w' => v = .bool (fitsL l) ∧ Up w w') := by
  refine fn_of_W (rs := [2]) (N := 28) Try.func53 rfl rfl rfl (by simp) ?_
  intro ρ0 hρ0
  have r0 : ev ρ0 (.tmp 0) = ekL l := hρ0 0
  clear hρ0
  have hu := Up.refl w
  refine W.seqR ?_
  refine WL.cons rfl (st_box r0 ?_)
  intro b1 w1 m1; have B1 := m1.blk
  replace hu := hu.trans m1.up
  refine WL.cons rfl (st_assign uc ?_)
  refine WL.nil ?_
  refine W.gen ?_; intro ρ1 hρ
  have q1 := (hρ 1).trans (un us)
  clear hρ r0
  have r1 := q1; clear q1
  refine W.seqR ?_
  refine WL.cons rfl (st_fieldAddr (f := 0) (k := 0) r1 Try.underlying29 rfl rfl Try.sizeOf3 ?_)
  refine WL.cons rfl (st_load1 Try.isAgg3 us (B1.cell rfl) ?_)
  refine WL.cons rfl (st_geq us uc ?_)
  refine WL.cons rfl (st_move us ?_)
  apply WL.seg0 3 (t := 6) (x := 9) (want := true) us rfl
  · intro hg6
    refine WL.guardY rfl (us.trans (by rw [hg6])) rfl (st_fieldAddr (f := 0) (k := 0) (un (un (un (un r1)))) Try.underlying29 rfl rfl Try.sizeOf3 ?_)
    refine WL.guardY rfl ((un us).trans (by rw [hg6])) rfl (st_load1 Try.isAgg3 us (B1.cell rfl) ?_)
    refine WL.guardY rfl ((un (un us)).trans (by rw [hg6])) rfl (st_lss us uc ?_)
    exact WL.nil ⟨(ag (ag (ag ag0))), us, rfl⟩
  intro ρ2 hag hx6
  have q1 := (hag 1 rfl).trans (un (un (un (un r1)))); have q6 := (hag 6 rfl).trans us
  clear hag r1
  have r1 := q1; clear q1; have r6 := q6; clear q6
  refine WL.cons rfl (st_and r6 hx6 uc ?_)
  refine WL.cons rfl (st_move us ?_)
  apply WL.seg0 3 (t := 11) (x := 14) (want := true) us rfl
  · intro hg11
    refine WL.guardY rfl (us.trans (by rw [hg11])) rfl (st_fieldAddr (f := 1) (k := 0) (un (un r1)) Try.underlying29 rfl rfl Try.sizeOf3 ?_)
    refine WL.guardY rfl ((un us).trans (by rw [hg11])) rfl (st_load1 Try.isAgg3 us (B1.cell rfl) ?_)
    refine WL.guardY rfl ((un (un us)).trans (by rw [hg11])) rfl (st_geq us uc ?_)
    exact WL.nil ⟨(ag (ag (ag ag0))), us, rfl⟩
  intro ρ3 hag hx11
  have q1 := (hag 1 rfl).trans (un (un r1)); have q11 := (hag 11 rfl).trans us
  clear hag r1 r6
  have r1 := q1; clear q1; have r11 := q11; clear q11
  refine WL.cons rfl (st_and r11 hx11 uc ?_)
  refine WL.cons rfl (st_move us ?_)
  apply WL.seg0 3 (t := 16) (x := 19) (want := true) us rfl
  · intro hg16
    refine WL.guardY rfl (us.trans (by rw [hg16])) rfl (st_fieldAddr (f := 1) (k := 0) (un (un r1)) Try.underlying29 rfl rfl Try.sizeOf3 ?_)
    refine WL.guardY rfl ((un us).trans (by rw [hg16])) rfl (st_load1 Try.isAgg3 us (B1.cell rfl) ?_)
    refine WL.guardY rfl ((un (un us)).trans (by rw [hg16])) rfl (st_lss us uc ?_)
    exact WL.nil ⟨(ag (ag (ag ag0))), us, rfl⟩
  intro ρ4 hag hx16
  have q1 := (hag 1 rfl).trans (un (un r1)); have q16 := (hag 16 rfl).trans us
  clear hag r1 r11
  have r1 := q1; clear q1; have r16 := q16; clear q16
  refine WL.cons rfl (st_and r16 hx16 uc ?_)
  refine WL.cons rfl (st_move us ?_)
  apply WL.seg0 5 (t := 21) (x := 26) (want := true) us rfl
  · intro hg21
    refine WL.guardY rfl (us.trans (by rw [hg21])) rfl (st_fieldAddr (f := 0) (k := 0) (un (un r1)) Try.underlying29 rfl rfl Try.sizeOf3 ?_)
    refine WL.guardY rfl ((un us).trans (by rw [hg21])) rfl (st_load1 Try.isAgg3 us (B1.cell rfl) ?_)
    refine WL.guardY rfl ((un (un us)).trans (by rw [hg21])) rfl (st_fieldAddr (f := 1) (k := 0) (un (un (un (un r1)))) Try.underlying29 rfl rfl Try.sizeOf3 ?_)
    refine WL.guardY rfl ((un (un (un us))).trans (by rw [hg21])) rfl (st_load1 Try.isAgg3 us (B1.cell rfl) ?_)
    refine WL.guardY rfl ((un (un (un (un us)))).trans (by rw [hg21])) rfl (st_neq (un (un us)) us ?_)
    exact WL.nil ⟨(ag (ag (ag (ag (ag ag0))))), us, rfl⟩
  intro ρ5 hag hx21
  have q21 := (hag 21 rfl).trans us
  clear hag r1 r16
  have r21 := q21; clear q21
  refine WL.cons rfl (st_and r21 hx21 uc ?_)
  refine WL.cons rfl (st_assign us ?_)
  refine WL.nil ?_
  refine W.gen ?_; intro ρ6 hρ
  have q2 := (hρ 2).trans us
  clear hρ r21
  have r2 := q2; clear q2
  refine W.ret ?_
  refine fin1 r2 ?_
  exact ⟨rfl, hu⟩

/-- (*towline towlineref04.Net).Len -/
theorem rlen_ok {Sx : Nat → Prop} {x : RefS} {bx : Nat} (w : World) (h : RefR Sx w bx x) (hm : x.items.length ≤ 1000000) (l : Lk) : Does Try.prog 21 #[.pointer (some ⟨bx, 0, none⟩), ekL l] w (fun v w' => v = .int .i64 ((qOf x.items l).length : Nat) ∧ Up w w') := by
  refine fn_of_W (rs := [4]) (N := 25) Try.func21 rfl rfl rfl (by simp) ?_
  intro ρ0 hρ0
  have r0 : ev ρ0 (.tmp 0) = .pointer (some ⟨bx, 0, none⟩) := hρ0 0
  have r1 : ev ρ0 (.tmp 1) = ekL l := hρ0 1
  clear hρ0
  have hu := Up.refl w
  refine W.seqR ?_
  refine WL.cons rfl (st_box r1 ?_)
  intro b3 w1 m3; have B3 := m3.blk
  replace h := h.up m3.up
  replace hu := hu.trans m3.up
  refine WL.cons rfl (st_assign uc ?_)
  refine WL.nil ?_
  refine W.gen ?_; intro ρ1 hρ
  have q0 := (hρ 0).trans (un (un r0)); have q3 := (hρ 3).trans (un us)
  clear hρ r0 r1
  have r0 := q0; clear q0; have r3 := q3; clear q3
  refine W.seqR ?_
  refine WL.cons rfl (st_assign uc ?_)
  refine WL.nil ?_
  refine W.gen ?_; intro ρ2 hρ
  have q0 := (hρ 0).trans (un r0); have q3 := (hρ 3).trans (un r3); have q5 := (hρ 5).trans us
  clear hρ r0 r3
  have r0 := q0; clear q0; have r3 := q3; clear q3; have r5 := q5; clear q5
  refine W.seq ?_
  obtain ⟨vi, hbx, hsl, hroom⟩ := h.blk
  obtain ⟨io, ic, hvi, _, _⟩ := id hsl; subst hvi
  refine W.seqR ?_
  refine WL.cons rfl (st_move r0 ?_)
  refine WL.cons rfl (st_nilCheck us ?_)
  refine WL.cons rfl (st_fieldAddr (f := 0) (k := 0) us Try.underlying51 rfl rfl Try.sizeOf48 ?_)
  refine WL.cons rfl (st_load1 Try.isAgg48 us (hbx.cell rfl) ?_)
  refine WL.cons rfl (st_lenS us Try.underlying48 ?_)
  refine WL.cons rfl (st_move uc ?_)
  refine WL.nil ?_
  refine W.gen ?_; intro ρ3 hρ
  have q3 := (hρ 3).trans (un (un (un (un (un (un r3)))))); have q5 := (hρ 5).trans (un (un (un (un (un (un r5)))))); have q11 := (hρ 11).trans (un (un us)); have q12 := (hρ 12).trans (un us)
  have q13 := (hρ 13).trans us
  clear hρ r0 r3 r5
  have r3 := q3; clear q3; have r5 := q5; clear q5; have r11 := q11; clear q11; have r12 := q12; clear q12; have r13 := q13; clear q13
  refine W.block ?_
  refine W.loop (fun nn ρ' w' => ∃ i : Nat, ev ρ' (.tmp 5) = .int .i64 ((qOf (x.items.take i) l).length : Nat) ∧ ev ρ' (.tmp 13) = .int .i64 (i : Int) ∧ ev ρ' (.tmp 3) = ev ρ3 (.tmp 3) ∧ ev ρ' (.tmp 11) = ev ρ3 (.tmp 11) ∧ ev ρ' (.tmp 12) = ev ρ3 (.tmp 12) ∧ i + nn = x.items.length ∧ Up w w' ∧ SlV Sx w' (.slice io x.items.length ic) x.items.length 3 (itC x.items) ∧ Blk w' b3 (.cells (ekL l).cells 29)) (x.items.length) ?_ ?_
  · exact ⟨0, (by first | exact r5 | (refine r5.trans ?_; congr 1; omega) | (refine r5.trans ?_; simp)), (by first | exact r13 | (refine r13.trans ?_; congr 1; omega) | (refine r13.trans ?_; simp)), rfl, rfl, rfl, by omega, hu, hsl, B3⟩
  intro nn ρ4 w2 ⟨i, q5, q13, q3, q11, q12, hi, hu, hsl, B3⟩
  have s3 := q3; replace q3 := q3.trans r3
  have s11 := q11; replace q11 := q11.trans r11
  have s12 := q12; replace q12 := q12.trans r12
  clear r11 r12 r13 r3 r5
  have r5 := q5; clear q5; have r13 := q13; clear q13; have r3 := q3; clear q3; have r11 := q11; clear q11; have r12 := q12; clear q12
  have x0_3 := s3.symm.trans r3; clear s3
  have x0_11 := s11.symm.trans r11; clear s11
  have x0_12 := s12.symm.trans r12; clear s12
  refine W.seqR ?_
  refine WL.cons rfl (st_lss r13 r12 ?_)
  refine WL.nil ?_
  refine W.gen ?_; intro ρ5 hρ
  have q3 := (hρ 3).trans (un r3); have q5 := (hρ 5).trans (un r5); have q11 := (hρ 11).trans (un r11); have q12 := (hρ 12).trans (un r12)
  have q13 := (hρ 13).trans (un r13); have q14 := (hρ 14).trans us
  clear hρ r11 r12 r13 r3 r5
  have r3 := q3; clear q3; have r5 := q5; clear q5; have r11 := q11; clear q11; have r12 := q12; clear q12; have r13 := q13; clear q13; have r14 := q14; clear q14
  refine W.seq ?_
  refine W.cond r14 (fun hc3 => ?_) (fun hc3 => ?_)
  · skip
    try simp only [tests] at hc3
    obtain ⟨io2, ic2, hei, _, hci⟩ := id hsl; cases hei
    obtain ⟨bb, off, rfl, _, hcc⟩ := hci (by omega)
    have hlt : i < x.items.length := by omega
    obtain ⟨p, hp⟩ : ∃ p, x.items[i]? = some p := ⟨_, List.getElem?_eq_getElem hlt⟩
    have hat := itC_at hcc hp
    have hst : (qOf (x.items.take (i + 1)) l).length = (qOf (x.items.take i) l).length + if p.1 = l then 1 else 0 := by
      have e : x.items.take (i + 1) = x.items.take i ++ [p] := by rw [List.take_succ_eq_append_getElem hlt]; congr 2; exact (List.getElem?_eq_some_iff.1 hp).2
      rw [e, qOf_append, List.length_append, qOf_cons, qOf_nil]; split <;> simp
    have hle : (qOf (x.items.take i) l).length ≤ x.items.length := by unfold qOf; rw [List.length_map]; exact Nat.le_trans (List.length_filter_le _ _) (by rw [List.length_take]; omega)
    refine W.skip ?_
    refine W.seq ?_
    refine W.block ?_
    refine W.seqR ?_
    refine WL.cons rfl (st_indexAddrS r11 r13 Try.underlying48 Try.sizeOf86 (by omega) (by omega) ?_)
    refine WL.cons rfl (st_loadK Try.isAgg86 Try.sizeOf86 us (hat) rfl ?_)
    refine WL.allocStore (v := .agg (it3 p).toArray) rfl (fun _ => un us) Try.zeroValue86 Try.sizeOf86 rfl (by first | rfl | kernel_rfl) (by first | exact it3_one _ | simp [Value.cells, Value.oneCell']) ?_
    intro b7 w3 m7; have B7 := m7.blk
    have n3_7 : b3 ≠ b7 := by have := B3.lt; have := m7.at_; omega
    replace B3 := B3.up m7.up
    replace hsl := hsl.up m7.up
    replace hu := hu.trans m7.up
    refine WL.nil ?_
    refine W.gen ?_; intro ρ6 hρ
    have q3 := (hρ 3).trans (un0 (un (un (un r3)))); have q5 := (hρ 5).trans (un0 (un (un (un r5)))); have q7 := (hρ 7).trans (un0 us); have q11 := (hρ 11).trans (un0 (un (un (un r11))))
    have q12 := (hρ 12).trans (un0 (un (un (un r12)))); have q13 := (hρ 13).trans (un0 (un (un (un r13))))
    clear hρ r11 r12 r13 r14 r3 r5
    have r3 := q3; clear q3; have r5 := q5; clear q5; have r7 := q7; clear q7; have r11 := q11; clear q11; have r12 := q12; clear q12; have r13 := q13; clear q13
    refine W.seqR ?_
    refine WL.cons rfl (st_fieldAddr (f := 0) (k := 1) r7 Try.underlying86 rfl rfl Try.sizeOf29 ?_)
    refine WL.cons rfl (st_loadK Try.isAgg29 Try.sizeOf29 us (cells2 (B7.cell rfl) (B7.cell rfl)) rfl ?_)
    refine WL.cons rfl (st_loadK Try.isAgg29 Try.sizeOf29 (un (un r3)) (cells2 (B3.cell rfl) (B3.cell rfl)) rfl ?_)
    refine WL.cons rfl (st_bin (w' := w3) (r := .bool (decide (p.1 = l))) (un us) us (run_eqGuard_agg _ _ _ _ _ _ _ (by kernel_rfl)) (by have := eq_link p.1 l w3; unfold Op.equal Op.maxDepth at this; rw [run_eql_struct]; show ((Op.equalIn 10000 29 (ekL p.1) (ekL l)).run _ _).andThen _ = _; rw [this]; rfl) ?_)
    refine WL.nil ?_
    refine W.gen ?_; intro ρ7 hρ
    have q3 := (hρ 3).trans (un (un (un (un r3)))); have q5 := (hρ 5).trans (un (un (un (un r5)))); have q11 := (hρ 11).trans (un (un (un (un r11)))); have q12 := (hρ 12).trans (un (un (un (un r12))))
    have q13 := (hρ 13).trans (un (un (un (un r13)))); have q20 := (hρ 20).trans us
    clear hρ r11 r12 r13 r3 r5 r7
    have r3 := q3; clear q3; have r5 := q5; clear q5; have r11 := q11; clear q11; have r12 := q12; clear q12; have r13 := q13; clear q13; have r20 := q20; clear q20
    refine W.cond r20 (fun hc5 => ?_) (fun hc5 => ?_)
    · skip
      try simp only [tests] at hc5
      rw [if_pos hc5] at hst
      refine W.endR ?_
      refine WL.cons rfl (st_move r5 ?_)
      refine WL.cons rfl (st_add us uc (wr64 (by omega)) ?_)
      refine WL.cons rfl (st_assign us ?_)
      refine WL.nil ?_
      refine W.endR ?_
      refine WL.cons rfl (st_add (un (un (un r13))) uc (wr64 (by omega)) ?_)
      refine WL.cons rfl (st_move us ?_)
      refine WL.nil ?_
      exact ⟨nn - 1, (by omega), i + 1, (by first | exact (un (un us)) | (refine (un (un us)).trans ?_; congr 1; omega) | (refine (un (un us)).trans ?_; simp)), (by first | exact us | (refine us.trans ?_; congr 1; omega) | (refine us.trans ?_; simp)), ((un (un (un (un (un r3))))).trans x0_3.symm), ((un (un (un (un (un r11))))).trans x0_11.symm), ((un (un (un (un (un r12))))).trans x0_12.symm), by omega, hu, hsl, B3⟩
    · skip
      try simp only [tests] at hc5
      rw [if_neg hc5] at hst
      refine W.skip ?_
      refine W.endR ?_
      refine WL.cons rfl (st_add r13 uc (wr64 (by omega)) ?_)
      refine WL.cons rfl (st_move us ?_)
      refine WL.nil ?_
      exact ⟨nn - 1, (by omega), i + 1, (by first | exact (un (un r5)) | (refine (un (un r5)).trans ?_; congr 1; omega) | (refine (un (un r5)).trans ?_; simp)), (by first | exact us | (refine us.trans ?_; congr 1; omega) | (refine us.trans ?_; simp)), ((un (un r3)).trans x0_3.symm), ((un (un r11)).trans x0_11.symm), ((un (un r12)).trans x0_12.symm), by omega, hu, hsl, B3⟩
  · skip
    try simp only [tests] at hc3
    refine W.exit ?_
    refine exitHere ?_
    refine W.seqR ?_
    refine WL.cons rfl (st_move r5 ?_)
    refine WL.cons rfl (st_assign us ?_)
    refine WL.nil ?_
    refine W.gen ?_; intro ρ8 hρ
    have q4 := (hρ 4).trans us
    clear hρ r11 r12 r13 r14 r3 r5
    have r4 := q4; clear q4
    refine W.ret ?_
    refine fin1 r4 ?_
    have he : i = x.items.length := by omega
    rw [he, List.take_length]; exact ⟨rfl, hu⟩

end Go.Proofs.Ytppohfgaegahoaa
