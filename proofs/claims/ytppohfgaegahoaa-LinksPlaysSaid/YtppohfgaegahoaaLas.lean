/- Walks: slices.Equal of links; the document's calls. -/
import Derived.Test.YtppohfgaegahoaaLar
import Derived.Test.YtppohfgaegahoaaLaq
import Derived.Test.YtppohfgaegahoaaLj
namespace Go.Proofs.Ytppohfgaegahoaa
open Go.Tw Go.RowKit
attribute [local irreducible] Step WL W WQ Does

theorem lkC_cell {w : World} {b off i : Nat} {ks : List Lk} {l : Lk} (h : Cells w b off (lkC ks)) (hi : ks[i]? = some l) : Cells w b (off + i * 2) (lk2 l) := by
  intro c v hv
  obtain ⟨hlt, he⟩ := List.getElem?_eq_some_iff.1 hi
  have hc : c < 2 := by have := (List.getElem?_eq_some_iff.1 hv).1; simpa [lk2] using this
  have := h (i * 2 + c) v (by rw [lkC_get ks i c hlt hc, he]; exact hv)
  rwa [← Nat.add_assoc] at this

/-- slices.Equal   towline api.Link,towline api.Link  -/
theorem leq_ok {S1 S2 : Nat → Prop} {v1 v2 : Value} (xs ys : List Lk) (w : World) (h1 : SlV S1 w v1 xs.length 2 (lkC xs)) (h2 : SlV S2 w v2 ys.length 2 (lkC ys)) (hn : xs.length ≤ 1000000000) : Does Try.prog 23 #[v1, v2] w (fun v w' => v = .bool (decide (xs = ys)) ∧ Up w w') := by
  obtain ⟨o1, c1, hv1, _, _⟩ := id h1
  obtain ⟨o2, c2, hv2, _, _⟩ := id h2
  refine fn_of_W (rs := [4]) (N := 26) Try.func23 rfl rfl rfl (by simp) ?_
  intro ρ0 hρ0
  have r0 : ev ρ0 (.tmp 0) = v1 := hρ0 0
  have r1 : ev ρ0 (.tmp 1) = v2 := hρ0 1
  clear hρ0
  have hu := Up.refl w
  subst hv1; subst hv2
  refine W.seqR ?_
  refine WL.cons rfl (st_assign uc ?_)
  refine WL.nil ?_
  refine W.gen ?_; intro ρ1 hρ
  have q0 := (hρ 0).trans (un r0); have q1 := (hρ 1).trans (un r1)
  clear hρ r0 r1
  have r0 := q0; clear q0; have r1 := q1; clear q1
  refine W.seq ?_
  refine W.seqR ?_
  refine WL.cons rfl (st_move r0 ?_)
  refine WL.cons rfl (st_lenS us Try.underlying43 ?_)
  refine WL.cons rfl (st_move (un (un r1)) ?_)
  refine WL.cons rfl (st_lenS us Try.underlying43 ?_)
  refine WL.cons rfl (st_neq (un (un us)) us ?_)
  refine WL.nil ?_
  refine W.gen ?_; intro ρ2 hρ
  have q0 := (hρ 0).trans (un (un (un (un (un r0))))); have q1 := (hρ 1).trans (un (un (un (un (un r1))))); have q10 := (hρ 10).trans us
  clear hρ r0 r1
  have r0 := q0; clear q0; have r1 := q1; clear q1; have r10 := q10; clear q10
  refine W.cond r10 (fun hc1 => ?_) (fun hc1 => ?_)
  · skip
    try simp only [tests] at hc1
    have hne : ¬ xs = ys := by intro e; rw [e] at hc1; exact absurd rfl hc1
    refine W.seqR ?_
    refine WL.cons rfl (st_assign uc ?_)
    refine WL.nil ?_
    refine W.gen ?_; intro ρ3 hρ
    have q4 := (hρ 4).trans us
    clear hρ r0 r1 r10
    have r4 := q4; clear q4
    refine W.ret ?_
    refine fin1 r4 ?_
    rw [decide_eq_false hne]; exact ⟨rfl, hu⟩
  · skip
    try simp only [tests] at hc1
    have hle : xs.length = ys.length := by omega
    refine W.skip ?_
    refine W.seq ?_
    refine W.seqR ?_
    refine WL.cons rfl (st_move r0 ?_)
    refine WL.cons rfl (st_lenS us Try.underlying43 ?_)
    refine WL.cons rfl (st_move uc ?_)
    refine WL.nil ?_
    refine W.gen ?_; intro ρ4 hρ
    have q0 := (hρ 0).trans (un (un (un r0))); have q1 := (hρ 1).trans (un (un (un r1))); have q12 := (hρ 12).trans (un us); have q13 := (hρ 13).trans us
    clear hρ r0 r1 r10
    have r0 := q0; clear q0; have r1 := q1; clear q1; have r12 := q12; clear q12; have r13 := q13; clear q13
    refine W.block ?_
    refine W.loop (fun nn ρ' w' => ∃ i : Nat, ev ρ' (.tmp 13) = .int .i64 (i : Int) ∧ ev ρ' (.tmp 0) = ev ρ4 (.tmp 0) ∧ ev ρ' (.tmp 1) = ev ρ4 (.tmp 1) ∧ ev ρ' (.tmp 12) = ev ρ4 (.tmp 12) ∧ i + nn = xs.length ∧ xs.take i = ys.take i ∧ Up w w') (xs.length) ?_ ?_
    · exact ⟨0, (by first | exact r13 | (refine r13.trans ?_; congr 1; omega) | (refine r13.trans ?_; simp)), rfl, rfl, rfl, by omega, rfl, hu⟩
    intro nn ρ5 w1 ⟨i, q13, q0, q1, q12, hi, ht, hu⟩
    have s0 := q0; replace q0 := q0.trans r0
    have s1 := q1; replace q1 := q1.trans r1
    have s12 := q12; replace q12 := q12.trans r12
    clear r0 r1 r12 r13
    have r13 := q13; clear q13; have r0 := q0; clear q0; have r1 := q1; clear q1; have r12 := q12; clear q12
    have x0_0 := s0.symm.trans r0; clear s0
    have x0_1 := s1.symm.trans r1; clear s1
    have x0_12 := s12.symm.trans r12; clear s12
    refine W.seqR ?_
    refine WL.cons rfl (st_lss r13 r12 ?_)
    refine WL.nil ?_
    refine W.gen ?_; intro ρ6 hρ
    have q0 := (hρ 0).trans (un r0); have q1 := (hρ 1).trans (un r1); have q12 := (hρ 12).trans (un r12); have q13 := (hρ 13).trans (un r13)
    have q14 := (hρ 14).trans us
    clear hρ r0 r1 r12 r13
    have r0 := q0; clear q0; have r1 := q1; clear q1; have r12 := q12; clear q12; have r13 := q13; clear q13; have r14 := q14; clear q14
    refine W.seq ?_
    refine W.cond r14 (fun hc4 => ?_) (fun hc4 => ?_)
    · skip
      try simp only [tests] at hc4
      have l1 : i < xs.length := by omega
      have l2 : i < ys.length := by omega
      obtain ⟨p, hp⟩ : ∃ p, xs[i]? = some p := ⟨_, List.getElem?_eq_getElem l1⟩
      obtain ⟨q, hq0⟩ : ∃ q, ys[i]? = some q := ⟨_, List.getElem?_eq_getElem l2⟩
      obtain ⟨_, _, e1, _, k1⟩ := id (h1.up hu); cases e1
      obtain ⟨b1, f1, rfl, _, g1⟩ := k1 (by omega)
      obtain ⟨_, _, e2, _, k2⟩ := id (h2.up hu); cases e2
      obtain ⟨b2, f2, rfl, _, g2⟩ := k2 (by omega)
      have a1 := lkC_cell g1 hp
      have a2 := lkC_cell g2 hq0
      refine W.skip ?_
      refine W.seq ?_
      refine W.block ?_
      refine W.seqR ?_
      refine WL.cons rfl (st_move r13 ?_)
      refine WL.cons rfl (st_assign us ?_)
      refine WL.nil ?_
      refine W.gen ?_; intro ρ7 hρ
      have q0 := (hρ 0).trans (un (un r0)); have q1 := (hρ 1).trans (un (un r1)); have q5 := (hρ 5).trans us; have q12 := (hρ 12).trans (un (un r12))
      have q13 := (hρ 13).trans (un (un r13))
      clear hρ r0 r1 r12 r13 r14
      have r0 := q0; clear q0; have r1 := q1; clear q1; have r5 := q5; clear q5; have r12 := q12; clear q12; have r13 := q13; clear q13
      refine W.quietR mixed 9 (by kernel_rfl) ?_
      refine WQ.cons (fun w' hq => st_move r0 ⟨rfl, Up.refl _⟩) ?_
      refine WQ.cons (fun w' hq => st_move (un r5) ⟨rfl, Up.refl _⟩) ?_
      refine WQ.cons (fun w' hq => st_indexAddrS (un us) us Try.underlying43 Try.sizeOf29 (by omega) (by omega) ⟨rfl, Up.refl _⟩) ?_
      refine WQ.cons (fun w' hq => st_loadK Try.isAgg29 Try.sizeOf29 us (a1.up hq) rfl ⟨rfl, Up.refl _⟩) ?_
      refine WQ.cons (fun w' hq => st_move (un (un (un (un r1)))) ⟨rfl, Up.refl _⟩) ?_
      refine WQ.cons (fun w' hq => st_move (un (un (un (un (un r5))))) ⟨rfl, Up.refl _⟩) ?_
      refine WQ.cons (fun w' hq => st_indexAddrS (un us) us Try.underlying43 Try.sizeOf29 (by omega) (by omega) ⟨rfl, Up.refl _⟩) ?_
      refine WQ.cons (fun w' hq => st_loadK Try.isAgg29 Try.sizeOf29 us (a2.up hq) rfl ⟨rfl, Up.refl _⟩) ?_
      refine WQ.cons (fun w' hq => st_bin (w' := w') (r := .bool (!decide (p = q))) (un (un (un (un us)))) us (run_eqGuard_agg _ _ _ _ _ _ _ (by kernel_rfl)) (by have := eq_link p q w'; unfold Op.equal Op.maxDepth at this; rw [run_neq_struct]; show ((Op.equalIn 10000 29 (ekL p) (ekL q)).run _ _).andThen _ = _; rw [this]; rfl) ⟨rfl, Up.refl _⟩) ?_
      refine WQ.nil ?_
      intro w2 hq6
      replace hu := hu.trans hq6
      refine WL.nil ?_
      refine W.gen ?_; intro ρ8 hρ
      have q0 := (hρ 0).trans (un (un (un (un (un (un (un (un (un r0))))))))); have q1 := (hρ 1).trans (un (un (un (un (un (un (un (un (un r1))))))))); have q12 := (hρ 12).trans (un (un (un (un (un (un (un (un (un r12))))))))); have q13 := (hρ 13).trans (un (un (un (un (un (un (un (un (un r13)))))))))
      have q24 := (hρ 24).trans us
      clear hρ r0 r1 r12 r13 r5
      have r0 := q0; clear q0; have r1 := q1; clear q1; have r12 := q12; clear q12; have r13 := q13; clear q13; have r24 := q24; clear q24
      refine W.cond r24 (fun hc6 => ?_) (fun hc6 => ?_)
      · skip
        try simp only [tests] at hc6
        have hne : ¬ xs = ys := by intro e; rw [e] at hp; rw [hp] at hq0; exact hc6 (Option.some.inj hq0)
        refine W.seqR ?_
        refine WL.cons rfl (st_assign uc ?_)
        refine WL.nil ?_
        refine W.gen ?_; intro ρ9 hρ
        have q4 := (hρ 4).trans us
        clear hρ r0 r1 r12 r13 r24
        have r4 := q4; clear q4
        refine W.ret ?_
        refine fin1 r4 ?_
        rw [decide_eq_false hne]; exact ⟨rfl, hu⟩
      · skip
        try simp only [tests] at hc6
        replace hc6 : p = q := by simpa using hc6
        have hnx : xs.take (i + 1) = ys.take (i + 1) := by rw [List.take_succ_eq_append_getElem l1, List.take_succ_eq_append_getElem l2, ht, (List.getElem?_eq_some_iff.1 hp).2, (List.getElem?_eq_some_iff.1 hq0).2, hc6]
        refine W.skip ?_
        refine W.endR ?_
        refine WL.cons rfl (st_add r13 uc (wr64 (by omega)) ?_)
        refine WL.cons rfl (st_move us ?_)
        refine WL.nil ?_
        exact ⟨nn - 1, (by omega), i + 1, (by first | exact us | (refine us.trans ?_; congr 1; omega) | (refine us.trans ?_; simp)), ((un (un r0)).trans x0_0.symm), ((un (un r1)).trans x0_1.symm), ((un (un r12)).trans x0_12.symm), by omega, hnx, hu⟩
    · skip
      try simp only [tests] at hc4
      refine W.exit ?_
      refine exitHere ?_
      refine W.seqR ?_
      refine WL.cons rfl (st_assign uc ?_)
      refine WL.nil ?_
      refine W.gen ?_; intro ρ10 hρ
      have q4 := (hρ 4).trans us
      clear hρ r0 r1 r12 r13 r14
      have r4 := q4; clear q4
      refine W.ret ?_
      refine fin1 r4 ?_
      have he : xs = ys := by
        have e1 : i = xs.length := by omega
        have e2 : i = ys.length := by omega
        have := ht; rw [List.take_of_length_le (by omega), List.take_of_length_le (by omega)] at this; exact this
      rw [decide_eq_true he]; exact ⟨rfl, hu⟩

/-- towline towlinelaw04.also -/
theorem also_ok {Sx : Nat → Prop} {x : RefS} {bx : Nat} (w : World) (h : RefR Sx w bx x) (hm : x.items.length ≤ 1000000) (hfit : ∀ p ∈ x.items, fitsL p.1 = true) (k : DoS) (hs : SideOk k) {Sb : Nat → Prop} {vb : Value} (hb : RB Sb w vb k.b) : Does Try.prog 19 #[.pointer (some ⟨bx, 0, none⟩), .agg (doCells k vb).toArray] w (fun v w' => v = tkV (x.also k).2.1 (x.also k).2.2 ∧ RefTo Sx w w' bx (x.also k).1) := by
  refine fn_of_W (rs := [4, 5, 6]) (N := 60) Try.func19 rfl rfl rfl (by simp) ?_
  intro ρ0 hρ0
  have r0 : ev ρ0 (.tmp 0) = .pointer (some ⟨bx, 0, none⟩) := hρ0 0
  have r1 : ev ρ0 (.tmp 1) = .agg (doCells k vb).toArray := hρ0 1
  clear hρ0
  have hu := Up.refl w
  refine W.seqR ?_
  refine WL.cons rfl (st_box r1 ?_)
  intro b3 w1 m3; have B3 := m3.blk
  replace h := h.up m3.up
  replace hb := hb.up m3.up
  replace hu := hu.trans m3.up
  refine WL.cons rfl (st_assign uc ?_)
  refine WL.cons rfl (st_assign uc ?_)
  refine WL.cons rfl (st_assign uc ?_)
  refine WL.nil ?_
  refine W.gen ?_; intro ρ1 hρ
  have q0 := (hρ 0).trans (un (un (un (un r0)))); have q3 := (hρ 3).trans (un (un (un us)))
  clear hρ r0 r1
  have r0 := q0; clear q0; have r3 := q3; clear q3
  refine W.seq ?_
  refine W.seqR ?_
  refine WL.cons rfl (st_fieldAddr (f := 0) (k := 0) r3 Try.underlying33 rfl rfl Try.sizeOf3 ?_)
  refine WL.cons rfl (st_load1 Try.isAgg3 us (B3.cell rfl) ?_)
  refine WL.cons rfl (st_conv us Try.underlying3 Try.underlying37 rfl ?_)
  refine WL.cons rfl (st_rem us uc (by omega) rfl ?_)
  refine WL.cons rfl (st_conv us Try.underlying37 Try.underlying3 (show _ = opN k.op from rfl) ?_)
  refine WL.nil ?_
  refine W.gen ?_; intro ρ2 hρ
  have q0 := (hρ 0).trans (un (un (un (un (un r0))))); have q3 := (hρ 3).trans (un (un (un (un (un r3))))); have q11 := (hρ 11).trans us
  clear hρ r0 r3
  have r0 := q0; clear q0; have r3 := q3; clear q3; have r11 := q11; clear q11
  refine W.block ?_
  refine W.seq ?_
  refine W.seqR ?_
  refine WL.cons rfl (st_eql r11 uc ?_)
  refine WL.cons rfl (st_assign us ?_)
  refine WL.nil ?_
  refine W.gen ?_; intro ρ3 hρ
  have q0 := (hρ 0).trans (un (un r0)); have q3 := (hρ 3).trans (un (un r3)); have q11 := (hρ 11).trans (un (un r11)); have q12 := (hρ 12).trans us
  clear hρ r0 r11 r3
  have r0 := q0; clear q0; have r3 := q3; clear q3; have r11 := q11; clear q11; have r12 := q12; clear q12
  refine W.meet (fun ρ' w' => ev ρ' (.tmp 12) = .bool (decide (opN k.op = 3) || decide (opN k.op = 4)) ∧ ev ρ' (.tmp 0) = ev ρ3 (.tmp 0) ∧ ev ρ' (.tmp 3) = ev ρ3 (.tmp 3) ∧ ev ρ' (.tmp 11) = ev ρ3 (.tmp 11) ∧ w' = w1) ?_ ?_
  · skip
    have r0_ := r0
    have r3_ := r3
    have r11_ := r11
    refine W.cond r12 (fun hc2 => ?_) (fun hc2 => ?_)
    · skip
      try simp only [tests] at hc2
      refine W.skip ?_
      exact ⟨(by first | exact r12 | (refine (r12).trans ?_; simp_all)), (r0.trans r0_.symm), (r3.trans r3_.symm), (r11.trans r11_.symm), rfl⟩
    · skip
      try simp only [tests] at hc2
      refine W.endR ?_
      refine WL.cons rfl (st_eql r11 uc ?_)
      refine WL.cons rfl (st_assign us ?_)
      refine WL.nil ?_
      exact ⟨(by first | exact us | (refine (us).trans ?_; simp_all)), ((un (un r0)).trans r0_.symm), ((un (un r3)).trans r3_.symm), ((un (un r11)).trans r11_.symm), rfl⟩
  intro ρ4 w2 ⟨q12, q0, q3, q11, hw⟩
  replace q0 := q0.trans r0
  replace q3 := q3.trans r3
  replace q11 := q11.trans r11
  clear r0 r11 r12 r3
  have r12 := q12; clear q12; have r0 := q0; clear q0; have r3 := q3; clear q3; have r11 := q11; clear q11
  subst hw
  refine W.cond r12 (fun hc3 => ?_) (fun hc3 => ?_)
  · skip
    try simp only [tests] at hc3
    have ho : opN k.op = 3 ∨ opN k.op = 4 := by simpa using hc3
    refine W.seqR ?_
    refine WL.cons rfl (st_move r0 ?_)
    refine WL.cons rfl (st_fieldAddr (f := 2) (k := 1) (un r3) Try.underlying33 rfl rfl Try.sizeOf29 ?_)
    refine WL.cons rfl (st_loadK Try.isAgg29 Try.sizeOf29 us (cells2 (B3.cell rfl) (B3.cell rfl)) rfl ?_)
    refine WL.cons rfl (st_fieldAddr (f := 1) (k := 0) (un (un (un r3))) Try.underlying33 rfl rfl Try.sizeOf3 ?_)
    refine WL.cons rfl (st_load1 Try.isAgg3 us (B3.cell rfl) ?_)
    refine WL.cons rfl (st_call3 ent39 (un (un (un (un us)))) (un (un us)) us (((rtake_ok _ h hm hfit k.l k.i)).mono ?_))
    intro vt w3 ⟨hvt, ht⟩; subst hvt; replace ht := RefTo.ahead hu ht
    refine WL.cons rfl (st_extract us rfl ?_)
    refine WL.cons rfl (st_extract (un us) rfl ?_)
    refine WL.cons rfl (st_extract (un (un us)) rfl ?_)
    refine WL.cons rfl (st_assign (un (un us)) ?_)
    refine WL.cons rfl (st_assign (un (un us)) ?_)
    refine WL.cons rfl (st_assign (un (un us)) ?_)
    refine WL.nil ?_
    refine W.gen ?_; intro ρ5 hρ
    have q4 := (hρ 4).trans (un (un us)); have q5 := (hρ 5).trans (un us); have q6 := (hρ 6).trans us
    clear hρ r0 r11 r12 r3
    have r4 := q4; clear q4; have r5 := q5; clear q5; have r6 := q6; clear q6
    refine W.ret ?_
    refine fin3 r4 r5 r6 ?_
    have hd : x.also k = x.take k.l k.i := by unfold RefS.also; rw [if_pos ho]
    rw [hd]; exact ⟨rfl, ht⟩
  · skip
    try simp only [tests] at hc3
    have ho : ¬ (opN k.op = 3 ∨ opN k.op = 4) := by simpa using hc3
    refine W.seqR ?_
    refine WL.cons rfl (st_eql r11 uc ?_)
    refine WL.cons rfl (st_assign us ?_)
    refine WL.nil ?_
    refine W.gen ?_; intro ρ6 hρ
    have q0 := (hρ 0).trans (un (un r0)); have q3 := (hρ 3).trans (un (un r3)); have q11 := (hρ 11).trans (un (un r11)); have q24 := (hρ 24).trans us
    clear hρ r0 r11 r12 r3
    have r0 := q0; clear q0; have r3 := q3; clear q3; have r11 := q11; clear q11; have r24 := q24; clear q24
    refine W.cond r24 (fun hc5 => ?_) (fun hc5 => ?_)
    · skip
      try simp only [tests] at hc5
      refine W.seqR ?_
      refine WL.cons rfl (st_move r0 ?_)
      refine WL.cons rfl (st_fieldAddr (f := 2) (k := 1) (un r3) Try.underlying33 rfl rfl Try.sizeOf29 ?_)
      refine WL.cons rfl (st_loadK Try.isAgg29 Try.sizeOf29 us (cells2 (B3.cell rfl) (B3.cell rfl)) rfl ?_)
      refine WL.cons rfl (st_fieldAddr (f := 1) (k := 0) (un (un (un r3))) Try.underlying33 rfl rfl Try.sizeOf3 ?_)
      refine WL.cons rfl (st_load1 Try.isAgg3 us (B3.cell rfl) ?_)
      refine WL.cons rfl (st_call3 ent40 (un (un (un (un us)))) (un (un us)) us (((rlose_ok _ h hm k.l k.i)).mono ?_))
      intro vt w4 ⟨hvt, ht⟩; subst hvt; replace ht := RefTo.ahead hu ht
      refine WL.cons rfl (st_assign uc ?_)
      refine WL.cons rfl (st_assign uc ?_)
      refine WL.cons rfl (st_assign (un (un us)) ?_)
      refine WL.nil ?_
      refine W.gen ?_; intro ρ7 hρ
      have q4 := (hρ 4).trans (un (un us)); have q5 := (hρ 5).trans (un us); have q6 := (hρ 6).trans us
      clear hρ r0 r11 r24 r3
      have r4 := q4; clear q4; have r5 := q5; clear q5; have r6 := q6; clear q6
      refine W.ret ?_
      refine fin3 r4 r5 r6 ?_
      have hd : x.also k = ((x.lose k.l k.i).1, none, (x.lose k.l k.i).2) := by unfold RefS.also; rw [if_neg ho, if_pos hc5]
      rw [hd]; exact ⟨rfl, ht⟩
    · skip
      try simp only [tests] at hc5
      refine W.seqR ?_
      refine WL.cons rfl (st_eql r11 uc ?_)
      refine WL.cons rfl (st_assign us ?_)
      refine WL.nil ?_
      refine W.gen ?_; intro ρ8 hρ
      have q0 := (hρ 0).trans (un (un r0)); have q3 := (hρ 3).trans (un (un r3)); have q11 := (hρ 11).trans (un (un r11)); have q32 := (hρ 32).trans us
      clear hρ r0 r11 r24 r3
      have r0 := q0; clear q0; have r3 := q3; clear q3; have r11 := q11; clear q11; have r32 := q32; clear q32
      refine W.cond r32 (fun hc7 => ?_) (fun hc7 => ?_)
      · skip
        try simp only [tests] at hc7
        refine W.seqR ?_
        refine WL.cons rfl (st_move r0 ?_)
        refine WL.cons rfl (st_fieldAddr (f := 2) (k := 1) (un r3) Try.underlying33 rfl rfl Try.sizeOf29 ?_)
        refine WL.cons rfl (st_loadK Try.isAgg29 Try.sizeOf29 us (cells2 (B3.cell rfl) (B3.cell rfl)) rfl ?_)
        refine WL.cons rfl (st_fieldAddr (f := 1) (k := 0) (un (un (un r3))) Try.underlying33 rfl rfl Try.sizeOf3 ?_)
        refine WL.cons rfl (st_load1 Try.isAgg3 us (B3.cell rfl) ?_)
        refine WL.cons rfl (st_call3 ent41 (un (un (un (un us)))) (un (un us)) us (((rdouble_ok _ h hm k.l k.i)).mono ?_))
        intro vt w5 ⟨hvt, ht⟩; subst hvt; replace ht := RefTo.ahead hu ht
        refine WL.cons rfl (st_assign uc ?_)
        refine WL.cons rfl (st_assign uc ?_)
        refine WL.cons rfl (st_assign (un (un us)) ?_)
        refine WL.nil ?_
        refine W.gen ?_; intro ρ9 hρ
        have q4 := (hρ 4).trans (un (un us)); have q5 := (hρ 5).trans (un us); have q6 := (hρ 6).trans us
        clear hρ r0 r11 r3 r32
        have r4 := q4; clear q4; have r5 := q5; clear q5; have r6 := q6; clear q6
        refine W.ret ?_
        refine fin3 r4 r5 r6 ?_
        have hd : x.also k = ((x.double k.l k.i).1, none, (x.double k.l k.i).2) := by unfold RefS.also; rw [if_neg ho, if_neg hc5, if_pos hc7]
        rw [hd]; exact ⟨rfl, ht⟩
      · skip
        try simp only [tests] at hc7
        refine W.seqR ?_
        refine WL.cons rfl (st_eql r11 uc ?_)
        refine WL.cons rfl (st_assign us ?_)
        refine WL.nil ?_
        refine W.gen ?_; intro ρ10 hρ
        have q0 := (hρ 0).trans (un (un r0)); have q3 := (hρ 3).trans (un (un r3)); have q11 := (hρ 11).trans (un (un r11)); have q40 := (hρ 40).trans us
        clear hρ r0 r11 r3 r32
        have r0 := q0; clear q0; have r3 := q3; clear q3; have r11 := q11; clear q11; have r40 := q40; clear q40
        refine W.cond r40 (fun hc9 => ?_) (fun hc9 => ?_)
        · skip
          try simp only [tests] at hc9
          refine W.seqR ?_
          refine WL.cons rfl (st_move r0 ?_)
          refine WL.cons rfl (st_fieldAddr (f := 4) (k := 0) (un r3) Try.underlying33 rfl rfl Try.sizeOf31 ?_)
          refine WL.cons rfl (st_load1 Try.isAgg31 us (B3.cell rfl) ?_)
          refine WL.cons rfl (st_call1 ent42 us (((from_ok hs.1 hs.2 _)).mono ?_))
          intro vf w6 ⟨hvf, uf⟩; subst hvf
          replace h := h.up uf
          replace hb := hb.up uf
          replace B3 := B3.up uf
          replace hu := hu.trans uf
          refine WL.cons rfl (st_nilCheck (un (un (un us))) ?_)
          refine WL.cons rfl (st_fieldAddr (f := 1) (k := 63) us Try.underlying51 rfl rfl Try.sizeOf49 ?_)
          obtain ⟨vi, hbk, hsl, hroom⟩ := h.blk
          refine WL.cons rfl (st_store us (un (un us)) (cs := (refC vi { x with side := hasB k.side }).toArray) Try.sizeOf49 (by simp [Value.cells]) hbk (by simp [refC]) (by intro c hc; simp [Value.cells] at hc; obtain ⟨n, _, rfl⟩ := hc; rfl) (by simp [refC, Value.cells]) ?_)
          intro w7 hb2 hf2 _
          have ht : RefTo Sx w w7 bx { x with side := hasB k.side } := .same ⟨⟨_, hb2, hsl.frm hf2 (fun b hb e => h.ne (by rw [← (show b = bx from e)]; exact hb)), hroom⟩, h.ne, fun b hb => Nat.lt_of_lt_of_le (h.old b hb) hf2.size⟩ (hu.frm.trans hf2)
          refine WL.nil ?_
          refine W.gen ?_; intro ρ11 hρ
          clear hρ r0 r11 r3 r40
          refine W.seqR ?_
          refine WL.cons rfl (st_assign uc ?_)
          refine WL.cons rfl (st_assign uc ?_)
          refine WL.cons rfl (st_assign uc ?_)
          refine WL.nil ?_
          refine W.gen ?_; intro ρ12 hρ
          have q4 := (hρ 4).trans (un (un us)); have q5 := (hρ 5).trans (un us); have q6 := (hρ 6).trans us
          clear hρ
          have r4 := q4; clear q4; have r5 := q5; clear q5; have r6 := q6; clear q6
          refine W.ret ?_
          refine fin3 r4 r5 r6 ?_
          have hd : x.also k = ({ x with side := hasB k.side }, none, 0) := by unfold RefS.also; rw [if_neg ho, if_neg hc5, if_neg hc7, if_pos hc9]
          rw [hd]; exact ⟨rfl, ht⟩
        · skip
          try simp only [tests] at hc9
          refine W.seqR ?_
          refine WL.cons rfl (st_eql r11 uc ?_)
          refine WL.cons rfl (st_assign us ?_)
          refine WL.nil ?_
          refine W.gen ?_; intro ρ13 hρ
          have q0 := (hρ 0).trans (un (un r0)); have q3 := (hρ 3).trans (un (un r3)); have q48 := (hρ 48).trans us
          clear hρ r0 r11 r3 r40
          have r0 := q0; clear q0; have r3 := q3; clear q3; have r48 := q48; clear q48
          refine W.cond r48 (fun hc12 => ?_) (fun hc12 => ?_)
          · skip
            try simp only [tests] at hc12
            refine W.seqR ?_
            refine WL.cons rfl (st_move r0 ?_)
            refine WL.cons rfl (st_fieldAddr (f := 1) (k := 0) (un r3) Try.underlying33 rfl rfl Try.sizeOf3 ?_)
            refine WL.cons rfl (st_load1 Try.isAgg3 us (B3.cell rfl) ?_)
            refine WL.cons rfl (st_call2 ent43 (un (un us)) us (((rforget_ok _ h hm k.i)).mono ?_))
            intro vt w8 ⟨hvt, ht⟩; subst hvt; replace ht := RefTo.ahead hu ht
            refine WL.nil ?_
            refine W.gen ?_; intro ρ14 hρ
            clear hρ r0 r3 r48
            refine W.seqR ?_
            refine WL.cons rfl (st_assign uc ?_)
            refine WL.cons rfl (st_assign uc ?_)
            refine WL.cons rfl (st_assign uc ?_)
            refine WL.nil ?_
            refine W.gen ?_; intro ρ15 hρ
            have q4 := (hρ 4).trans (un (un us)); have q5 := (hρ 5).trans (un us); have q6 := (hρ 6).trans us
            clear hρ
            have r4 := q4; clear q4; have r5 := q5; clear q5; have r6 := q6; clear q6
            refine W.ret ?_
            refine fin3 r4 r5 r6 ?_
            have hd : x.also k = (x.forget k.i, none, 0) := by unfold RefS.also; rw [if_neg ho, if_neg hc5, if_neg hc7, if_neg hc9, if_pos hc12]
            rw [hd]; exact ⟨rfl, ht⟩
          · skip
            try simp only [tests] at hc12
            refine W.skip ?_
            refine W.seqR ?_
            refine WL.cons rfl (st_move r0 ?_)
            refine WL.cons rfl (st_fieldAddr (f := 2) (k := 1) (un r3) Try.underlying33 rfl rfl Try.sizeOf29 ?_)
            refine WL.cons rfl (st_loadK Try.isAgg29 Try.sizeOf29 us (cells2 (B3.cell rfl) (B3.cell rfl)) rfl ?_)
            refine WL.cons rfl (st_fieldAddr (f := 3) (k := 0) (un (un (un r3))) Try.underlying33 rfl rfl Try.sizeOf30 ?_)
            refine WL.cons rfl (st_load1 Try.isAgg30 us (B3.cell rfl) ?_)
            refine WL.cons rfl (st_call3 ent44 (un (un (un (un us)))) (un (un us)) us (((rsend_ok _ h hm k.l hb)).mono ?_))
            intro vt w9 ⟨hvt, ht⟩; subst hvt; replace ht := RefTo.ahead hu ht
            refine WL.cons rfl (st_assign uc ?_)
            refine WL.cons rfl (st_assign uc ?_)
            refine WL.cons rfl (st_assign (un (un us)) ?_)
            refine WL.nil ?_
            refine W.gen ?_; intro ρ16 hρ
            have q4 := (hρ 4).trans (un (un us)); have q5 := (hρ 5).trans (un us); have q6 := (hρ 6).trans us
            clear hρ r0 r3 r48
            have r4 := q4; clear q4; have r5 := q5; clear q5; have r6 := q6; clear q6
            refine W.ret ?_
            refine fin3 r4 r5 r6 ?_
            have hd : x.also k = ((x.send k.l k.b).1, none, (x.send k.l k.b).2) := by unfold RefS.also; rw [if_neg ho, if_neg hc5, if_neg hc7, if_neg hc9, if_neg hc12]
            rw [hd]; exact ⟨rfl, ht⟩

end Go.Proofs.Ytppohfgaegahoaa
