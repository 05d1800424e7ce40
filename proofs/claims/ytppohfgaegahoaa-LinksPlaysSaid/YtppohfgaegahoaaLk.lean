/- Walks: whether calls are few, and sets of places. -/
import Derived.Test.YtppohfgaegahoaaLj
namespace Go.Proofs.Ytppohfgaegahoaa
open Go.Tw Go.RowKit
attribute [local irreducible] Step WL W WQ Does

/-- (towline mask.Set).With -/
theorem with_ok (m n : Int) (w : World) : Does Try.prog 50 #[.int .u64 m, .int .i64 n] w (fun v w' => v = .int .u64 (withB m n) ∧ Up w w') := by
  refine fn_of_W (rs := [4]) (N := 13) Try.func50 rfl rfl rfl (by simp) ?_
  intro ρ0 hρ0
  have r0 : ev ρ0 (.tmp 0) = .int .u64 m := hρ0 0
  have r1 : ev ρ0 (.tmp 1) = .int .i64 n := hρ0 1
  clear hρ0
  have hu := Up.refl w
  refine W.seqR ?_
  refine WL.cons rfl (st_assign uc ?_)
  refine WL.nil ?_
  refine W.gen ?_; intro ρ1 hρ
  have q0 := (hρ 0).trans (un r0); have q1 := (hρ 1).trans (un r1)
  clear hρ r0 r1
  have r0 := q0; clear q0; have r1 := q1; clear q1
  refine W.seq ?_
  refine W.seqR ?_
  refine WL.cons rfl (st_move r1 ?_)
  refine WL.cons rfl (st_call1 ent55 us (((in_ok n _)).mono ?_))
  intro vi w1 ⟨hvi, ui⟩; subst hvi
  replace hu := hu.trans ui
  refine WL.cons rfl (st_not us ?_)
  refine WL.nil ?_
  refine W.gen ?_; intro ρ2 hρ
  have q0 := (hρ 0).trans (un (un (un r0))); have q1 := (hρ 1).trans (un (un (un r1))); have q7 := (hρ 7).trans us
  clear hρ r0 r1
  have r0 := q0; clear q0; have r1 := q1; clear q1; have r7 := q7; clear q7
  refine W.cond r7 (fun hc1 => ?_) (fun hc1 => ?_)
  · skip
    try simp only [tests] at hc1
    refine W.seqR ?_
    refine WL.cons rfl (st_move r0 ?_)
    refine WL.cons rfl (st_assign us ?_)
    refine WL.nil ?_
    refine W.gen ?_; intro ρ3 hρ
    have q4 := (hρ 4).trans us
    clear hρ r0 r1 r7
    have r4 := q4; clear q4
    refine W.ret ?_
    refine fin1 r4 ?_
    unfold withB; rw [if_pos (by simpa using hc1)]; exact ⟨rfl, hu⟩
  · skip
    try simp only [tests] at hc1
    have hin : 0 ≤ n ∧ n < 64 := by simpa using hc1
    refine W.skip ?_
    refine W.seqR ?_
    refine WL.cons rfl (st_move r0 ?_)
    refine WL.cons rfl (st_move (un r1) ?_)
    refine WL.cons rfl (st_shl uc us (by omega) rfl ?_)
    refine WL.cons rfl (st_bor (un (un us)) us rfl ?_)
    refine WL.cons rfl (st_assign us ?_)
    refine WL.nil ?_
    refine W.gen ?_; intro ρ4 hρ
    have q4 := (hρ 4).trans us
    clear hρ r0 r1 r7
    have r4 := q4; clear q4
    refine W.ret ?_
    refine fin1 r4 ?_
    unfold withB; rw [if_neg (by simpa using hc1)]; exact ⟨rfl, hu⟩

/-- towline mask.Of -/
theorem of_ok {S : Nat → Prop} {v : Value} (ns : List Int) (w : World) (hv : SlV S w v ns.length 1 (ns.map (Value.int .i64))) (hn : ns.length ≤ 1000000000) : Does Try.prog 31 #[v] w (fun v' w' => v' = .int .u64 (ns.foldl withB 0) ∧ Up w w') := by
  obtain ⟨o, cap, hv0, _, _⟩ := id hv
  refine fn_of_W (rs := [2]) (N := 17) Try.func31 rfl rfl rfl (by simp) ?_
  intro ρ0 hρ0
  have r0 : ev ρ0 (.tmp 0) = v := hρ0 0
  clear hρ0
  have hu := Up.refl w
  subst hv0
  refine W.seqR ?_
  refine WL.cons rfl (st_assign uc ?_)
  refine WL.nil ?_
  refine W.gen ?_; intro ρ1 hρ
  have q0 := (hρ 0).trans (un r0)
  clear hρ r0
  have r0 := q0; clear q0
  refine W.seqR ?_
  refine WL.cons rfl (st_assign uc ?_)
  refine WL.nil ?_
  refine W.gen ?_; intro ρ2 hρ
  have q0 := (hρ 0).trans (un r0); have q3 := (hρ 3).trans us
  clear hρ r0
  have r0 := q0; clear q0; have r3 := q3; clear q3
  refine W.seq ?_
  refine W.seqR ?_
  refine WL.cons rfl (st_move r0 ?_)
  refine WL.cons rfl (st_lenS us Try.underlying92 ?_)
  refine WL.cons rfl (st_move uc ?_)
  refine WL.nil ?_
  refine W.gen ?_; intro ρ3 hρ
  have q3 := (hρ 3).trans (un (un (un r3))); have q6 := (hρ 6).trans (un (un us)); have q7 := (hρ 7).trans (un us); have q8 := (hρ 8).trans us
  clear hρ r0 r3
  have r3 := q3; clear q3; have r6 := q6; clear q6; have r7 := q7; clear q7; have r8 := q8; clear q8
  refine W.block ?_
  refine W.loop (fun nn ρ' w' => ∃ i : Nat, ev ρ' (.tmp 3) = .int .u64 ((ns.take i).foldl withB 0) ∧ ev ρ' (.tmp 8) = .int .i64 (i : Int) ∧ ev ρ' (.tmp 6) = ev ρ3 (.tmp 6) ∧ ev ρ' (.tmp 7) = ev ρ3 (.tmp 7) ∧ i + nn = ns.length ∧ SlV S w' (.slice o ns.length cap) ns.length 1 (ns.map (Value.int .i64)) ∧ Up w w') (ns.length) ?_ ?_
  · exact ⟨0, (by first | exact r3 | (refine r3.trans ?_; congr 1; omega) | (refine r3.trans ?_; simp)), (by first | exact r8 | (refine r8.trans ?_; congr 1; omega) | (refine r8.trans ?_; simp)), rfl, rfl, by omega, hv, hu⟩
  intro nn ρ4 w1 ⟨i, q3, q8, q6, q7, hi, hv, hu⟩
  have s6 := q6; replace q6 := q6.trans r6
  have s7 := q7; replace q7 := q7.trans r7
  clear r3 r6 r7 r8
  have r3 := q3; clear q3; have r8 := q8; clear q8; have r6 := q6; clear q6; have r7 := q7; clear q7
  obtain ⟨o2, cap2, he, _, hc⟩ := id hv; cases he
  have x0_6 := s6.symm.trans r6; clear s6
  have x0_7 := s7.symm.trans r7; clear s7
  refine W.seqR ?_
  refine WL.cons rfl (st_lss r8 r7 ?_)
  refine WL.nil ?_
  refine W.gen ?_; intro ρ5 hρ
  have q3 := (hρ 3).trans (un r3); have q6 := (hρ 6).trans (un r6); have q7 := (hρ 7).trans (un r7); have q8 := (hρ 8).trans (un r8)
  have q9 := (hρ 9).trans us
  clear hρ r3 r6 r7 r8
  have r3 := q3; clear q3; have r6 := q6; clear q6; have r7 := q7; clear q7; have r8 := q8; clear q8; have r9 := q9; clear q9
  refine W.seq ?_
  refine W.cond r9 (fun hc3 => ?_) (fun hc3 => ?_)
  · skip
    try simp only [tests] at hc3
    obtain ⟨b, off, rfl, _, hcs⟩ := hc (by omega)
    have hlt : i < ns.length := by omega
    have hx := hcs i (.int .i64 ns[i]) (by simp [hlt])
    refine W.skip ?_
    refine W.seq ?_
    refine W.block ?_
    refine W.seqR ?_
    refine WL.cons rfl (st_indexAddrS r6 r8 Try.underlying92 Try.sizeOf3 (by omega) (by omega) ?_)
    refine WL.cons rfl (st_load1 Try.isAgg3 us (by rw [Nat.mul_one]; exact hx) ?_)
    refine WL.cons rfl (st_assign us ?_)
    refine WL.nil ?_
    refine W.gen ?_; intro ρ6 hρ
    have q3 := (hρ 3).trans (un (un (un r3))); have q5 := (hρ 5).trans us; have q6 := (hρ 6).trans (un (un (un r6))); have q7 := (hρ 7).trans (un (un (un r7)))
    have q8 := (hρ 8).trans (un (un (un r8)))
    clear hρ r3 r6 r7 r8 r9
    have r3 := q3; clear q3; have r5 := q5; clear q5; have r6 := q6; clear q6; have r7 := q7; clear q7; have r8 := q8; clear q8
    refine W.endR ?_
    refine WL.cons rfl (st_move r3 ?_)
    refine WL.cons rfl (st_move (un r5) ?_)
    refine WL.cons rfl (st_call2 ent50 (un us) us (((with_ok _ _ _)).mono ?_))
    intro vw w2 ⟨hvw, uw⟩; subst hvw
    have hst : withB ((ns.take i).foldl withB 0) ns[i] = (ns.take (i + 1)).foldl withB 0 := by rw [List.take_succ_eq_append_getElem hlt, List.foldl_append]; rfl
    rw [hst]
    replace hv := hv.up uw
    replace hu := hu.trans uw
    refine WL.cons rfl (st_assign us ?_)
    refine WL.nil ?_
    refine W.endR ?_
    refine WL.cons rfl (st_add (un (un (un (un r8)))) uc (wr64 (by omega)) ?_)
    refine WL.cons rfl (st_move us ?_)
    refine WL.nil ?_
    exact ⟨nn - 1, (by omega), i + 1, (by first | exact (un (un us)) | (refine (un (un us)).trans ?_; congr 1; omega) | (refine (un (un us)).trans ?_; simp)), (by first | exact us | (refine us.trans ?_; congr 1; omega) | (refine us.trans ?_; simp)), ((un (un (un (un (un (un r6)))))).trans x0_6.symm), ((un (un (un (un (un (un r7)))))).trans x0_7.symm), by omega, hv, hu⟩
  · skip
    try simp only [tests] at hc3
    refine W.exit ?_
    refine exitHere ?_
    refine W.seqR ?_
    refine WL.cons rfl (st_move r3 ?_)
    refine WL.cons rfl (st_assign us ?_)
    refine WL.nil ?_
    refine W.gen ?_; intro ρ7 hρ
    have q2 := (hρ 2).trans us
    clear hρ r3 r6 r7 r8 r9
    have r2 := q2; clear q2
    refine W.ret ?_
    refine fin1 r2 ?_
    have he : i = ns.length := by omega
    rw [he, List.take_length]; exact ⟨rfl, hu⟩

/-- towline towlinelaw04.short -/
theorem short_ok {S : Nat → Prop} {v : Value} (ls : List (List DoS)) (w : World) (hv : RL S w v ls) (hn : ls.length ≤ 1000000000) (hm : ∀ l ∈ ls, l.length ≤ 9223372036854775807) : Does Try.prog 10 #[v] w (fun v' w' => ∃ t, v' = .bool t ∧ Up w w') := by
  obtain ⟨o, cap, hv0⟩ := hv.shape
  refine fn_of_W (rs := [2]) (N := 46) Try.func10 rfl rfl rfl (by simp) ?_
  intro ρ0 hρ0
  have r0 : ev ρ0 (.tmp 0) = v := hρ0 0
  clear hρ0
  have hu := Up.refl w
  subst hv0
  refine W.seqR ?_
  refine WL.cons rfl (st_assign uc ?_)
  refine WL.nil ?_
  refine W.gen ?_; intro ρ1 hρ
  have q0 := (hρ 0).trans (un r0)
  clear hρ r0
  have r0 := q0; clear q0
  refine W.seqR ?_
  refine WL.cons rfl (st_assign uc ?_)
  refine WL.cons rfl (st_assign uc ?_)
  refine WL.nil ?_
  refine W.gen ?_; intro ρ2 hρ
  have q0 := (hρ 0).trans (un (un r0)); have q3 := (hρ 3).trans (un us); have q4 := (hρ 4).trans us
  clear hρ r0
  have r0 := q0; clear q0; have r3 := q3; clear q3; have r4 := q4; clear q4
  refine W.seq ?_
  refine W.seqR ?_
  refine WL.cons rfl (st_move r0 ?_)
  refine WL.cons rfl (st_lenS us Try.underlying70 ?_)
  refine WL.cons rfl (st_move uc ?_)
  refine WL.nil ?_
  refine W.gen ?_; intro ρ3 hρ
  have q3 := (hρ 3).trans (un (un (un r3))); have q4 := (hρ 4).trans (un (un (un r4))); have q8 := (hρ 8).trans (un (un us)); have q9 := (hρ 9).trans (un us)
  have q10 := (hρ 10).trans us
  clear hρ r0 r3 r4
  have r3 := q3; clear q3; have r4 := q4; clear q4; have r8 := q8; clear q8; have r9 := q9; clear q9; have r10 := q10; clear q10
  refine W.block ?_
  refine W.loop (fun nn ρ' w' => ∃ (i : Nat) (n a : Int), ev ρ' (.tmp 3) = .int .i64 n ∧ ev ρ' (.tmp 4) = .int .i64 a ∧ ev ρ' (.tmp 10) = .int .i64 (i : Int) ∧ ev ρ' (.tmp 8) = ev ρ3 (.tmp 8) ∧ ev ρ' (.tmp 9) = ev ρ3 (.tmp 9) ∧ i + nn = ls.length ∧ (0 ≤ n ∧ n ≤ 40000 ∧ 0 ≤ a ∧ a ≤ 200) ∧ w' = w) (ls.length) ?_ ?_
  · exact ⟨0, 0, 0, (by first | exact r3 | (refine r3.trans ?_; congr 1; omega) | (refine r3.trans ?_; simp)), (by first | exact r4 | (refine r4.trans ?_; congr 1; omega) | (refine r4.trans ?_; simp)), (by first | exact r10 | (refine r10.trans ?_; congr 1; omega) | (refine r10.trans ?_; simp)), rfl, rfl, by omega, by omega, rfl⟩
  intro nn ρ4 w1 ⟨i, n, a, q3, q4, q10, q8, q9, hi, hna, hw⟩
  have s8 := q8; replace q8 := q8.trans r8
  have s9 := q9; replace q9 := q9.trans r9
  clear r10 r3 r4 r8 r9
  have r3 := q3; clear q3; have r4 := q4; clear q4; have r10 := q10; clear q10; have r8 := q8; clear q8; have r9 := q9; clear q9
  replace hw := hw.symm; subst hw
  have x0_8 := s8.symm.trans r8; clear s8
  have x0_9 := s9.symm.trans r9; clear s9
  refine W.seqR ?_
  refine WL.cons rfl (st_lss r10 r9 ?_)
  refine WL.nil ?_
  refine W.gen ?_; intro ρ5 hρ
  have q3 := (hρ 3).trans (un r3); have q4 := (hρ 4).trans (un r4); have q8 := (hρ 8).trans (un r8); have q9 := (hρ 9).trans (un r9)
  have q10 := (hρ 10).trans (un r10); have q11 := (hρ 11).trans us
  clear hρ r10 r3 r4 r8 r9
  have r3 := q3; clear q3; have r4 := q4; clear q4; have r8 := q8; clear q8; have r9 := q9; clear q9; have r10 := q10; clear q10; have r11 := q11; clear q11
  refine W.seq ?_
  refine W.cond r11 (fun hc3 => ?_) (fun hc3 => ?_)
  · skip
    try simp only [tests] at hc3
    obtain ⟨m1, rfl⟩ : ∃ m1, nn = m1 + 1 := ⟨nn - 1, by omega⟩
    obtain ⟨lb, loff, x, l, rfl, hl, hcx, hrx⟩ := hv.at (i := i) (by omega)
    obtain ⟨o2, cap2, rfl⟩ := hrx.shape
    have hml := hm l (List.mem_of_getElem? hl)
    refine W.skip ?_
    refine W.seq ?_
    refine W.block ?_
    refine W.seqR ?_
    refine WL.cons rfl (st_indexAddrS r8 r10 Try.underlying70 Try.sizeOf22 (by omega) (by omega) ?_)
    refine WL.cons rfl (st_load1 Try.isAgg22 us (hcx) ?_)
    refine WL.cons rfl (st_assign us ?_)
    refine WL.nil ?_
    refine W.gen ?_; intro ρ6 hρ
    have q3 := (hρ 3).trans (un (un (un r3))); have q4 := (hρ 4).trans (un (un (un r4))); have q6 := (hρ 6).trans us; have q8 := (hρ 8).trans (un (un (un r8)))
    have q9 := (hρ 9).trans (un (un (un r9))); have q10 := (hρ 10).trans (un (un (un r10)))
    clear hρ r10 r11 r3 r4 r8 r9
    have r3 := q3; clear q3; have r4 := q4; clear q4; have r6 := q6; clear q6; have r8 := q8; clear q8; have r9 := q9; clear q9; have r10 := q10; clear q10
    refine W.seqR ?_
    refine WL.cons rfl (st_assign uc ?_)
    refine WL.nil ?_
    refine W.gen ?_; intro ρ7 hρ
    have q3 := (hρ 3).trans (un r3); have q4 := (hρ 4).trans (un r4); have q6 := (hρ 6).trans (un r6); have q7 := (hρ 7).trans us
    have q8 := (hρ 8).trans (un r8); have q9 := (hρ 9).trans (un r9); have q10 := (hρ 10).trans (un r10)
    clear hρ r10 r3 r4 r6 r8 r9
    have r3 := q3; clear q3; have r4 := q4; clear q4; have r6 := q6; clear q6; have r7 := q7; clear q7; have r8 := q8; clear q8; have r9 := q9; clear q9; have r10 := q10; clear q10
    refine W.block ?_
    refine W.loop (fun nn ρ' w' => ∃ (j : Nat) (n a : Int), ev ρ' (.tmp 3) = .int .i64 n ∧ ev ρ' (.tmp 4) = .int .i64 a ∧ ev ρ' (.tmp 7) = .int .i64 (j : Int) ∧ ev ρ' (.tmp 6) = ev ρ7 (.tmp 6) ∧ ev ρ' (.tmp 8) = ev ρ7 (.tmp 8) ∧ ev ρ' (.tmp 9) = ev ρ7 (.tmp 9) ∧ ev ρ' (.tmp 10) = ev ρ7 (.tmp 10) ∧ j + nn = l.length ∧ (0 ≤ n ∧ n ≤ 40000 ∧ 0 ≤ a ∧ a ≤ 200) ∧ w' = w) (l.length) ?_ ?_
    · exact ⟨0, n, a, (by first | exact r3 | (refine r3.trans ?_; congr 1; omega) | (refine r3.trans ?_; simp)), (by first | exact r4 | (refine r4.trans ?_; congr 1; omega) | (refine r4.trans ?_; simp)), (by first | exact r7 | (refine r7.trans ?_; congr 1; omega) | (refine r7.trans ?_; simp)), rfl, rfl, rfl, rfl, by omega, hna, rfl⟩
    intro nn ρ8 w2 ⟨j, n, a, q3, q4, q7, q6, q8, q9, q10, hj, hna, hw⟩
    have s6 := q6; replace q6 := q6.trans r6
    have s8 := q8; replace q8 := q8.trans r8
    have s9 := q9; replace q9 := q9.trans r9
    have s10 := q10; replace q10 := q10.trans r10
    clear r10 r3 r4 r6 r7 r8 r9
    have r3 := q3; clear q3; have r4 := q4; clear q4; have r7 := q7; clear q7; have r6 := q6; clear q6; have r8 := q8; clear q8; have r9 := q9; clear q9; have r10 := q10; clear q10
    replace hw := hw.symm; subst hw
    have x2_6 := s6.symm.trans r6; clear s6
    have x2_8 := s8.symm.trans r8; clear s8
    have x2_9 := s9.symm.trans r9; clear s9
    have x2_10 := s10.symm.trans r10; clear s10
    refine W.seq ?_
    refine W.seqR ?_
    refine WL.cons rfl (st_move r7 ?_)
    refine WL.cons rfl (st_move (un r6) ?_)
    refine WL.cons rfl (st_lenS us Try.underlying22 ?_)
    refine WL.cons rfl (st_lss (un (un us)) us ?_)
    refine WL.cons rfl (st_move us ?_)
    apply WL.seg0 2 (t := 18) (x := 20) (want := true) us rfl
    · intro hg18
      refine WL.guardY rfl (us.trans (by rw [hg18])) rfl (st_move (un (un (un (un (un r4))))) ?_)
      refine WL.guardY rfl ((un us).trans (by rw [hg18])) rfl (st_leq us uc ?_)
      exact WL.nil ⟨(ag (ag ag0)), us, rfl⟩
    intro ρ9 hag hx18
    have q3 := (hag 3 rfl).trans (un (un (un (un (un r3))))); have q4 := (hag 4 rfl).trans (un (un (un (un (un r4))))); have q6 := (hag 6 rfl).trans (un (un (un (un (un r6))))); have q7 := (hag 7 rfl).trans (un (un (un (un (un r7)))))
    have q8 := (hag 8 rfl).trans (un (un (un (un (un r8))))); have q9 := (hag 9 rfl).trans (un (un (un (un (un r9))))); have q10 := (hag 10 rfl).trans (un (un (un (un (un r10))))); have q18 := (hag 18 rfl).trans us
    clear hag r10 r3 r4 r6 r7 r8 r9
    have r3 := q3; clear q3; have r4 := q4; clear q4; have r6 := q6; clear q6; have r7 := q7; clear q7; have r8 := q8; clear q8; have r9 := q9; clear q9; have r10 := q10; clear q10; have r18 := q18; clear q18
    refine WL.cons rfl (st_and r18 hx18 uc ?_)
    refine WL.cons rfl (st_move us ?_)
    apply WL.seg0 2 (t := 22) (x := 24) (want := true) us rfl
    · intro hg22
      refine WL.guardY rfl (us.trans (by rw [hg22])) rfl (st_move (un (un r3)) ?_)
      refine WL.guardY rfl ((un us).trans (by rw [hg22])) rfl (st_leq us uc ?_)
      exact WL.nil ⟨(ag (ag ag0)), us, rfl⟩
    intro ρ10 hag hx22
    have q3 := (hag 3 rfl).trans (un (un r3)); have q4 := (hag 4 rfl).trans (un (un r4)); have q6 := (hag 6 rfl).trans (un (un r6)); have q7 := (hag 7 rfl).trans (un (un r7))
    have q8 := (hag 8 rfl).trans (un (un r8)); have q9 := (hag 9 rfl).trans (un (un r9)); have q10 := (hag 10 rfl).trans (un (un r10)); have q22 := (hag 22 rfl).trans us
    clear hag r10 r18 r3 r4 r6 r7 r8 r9
    have r3 := q3; clear q3; have r4 := q4; clear q4; have r6 := q6; clear q6; have r7 := q7; clear q7; have r8 := q8; clear q8; have r9 := q9; clear q9; have r10 := q10; clear q10; have r22 := q22; clear q22
    refine WL.cons rfl (st_and r22 hx22 uc ?_)
    refine WL.nil ?_
    refine W.gen ?_; intro ρ11 hρ
    have q3 := (hρ 3).trans (un r3); have q4 := (hρ 4).trans (un r4); have q6 := (hρ 6).trans (un r6); have q7 := (hρ 7).trans (un r7)
    have q8 := (hρ 8).trans (un r8); have q9 := (hρ 9).trans (un r9); have q10 := (hρ 10).trans (un r10); have q25 := (hρ 25).trans us
    clear hρ r10 r22 r3 r4 r6 r7 r8 r9
    have r3 := q3; clear q3; have r4 := q4; clear q4; have r6 := q6; clear q6; have r7 := q7; clear q7; have r8 := q8; clear q8; have r9 := q9; clear q9; have r10 := q10; clear q10; have r25 := q25; clear q25
    refine W.cond r25 (fun hc6 => ?_) (fun hc6 => ?_)
    · skip
      try simp only [tests] at hc6
      obtain ⟨⟨hjl, ha⟩, hn⟩ : ((j : Int) < l.length ∧ a ≤ 150) ∧ n ≤ 16384 := by simpa using hc6
      obtain ⟨kb, koff, k, vb, rfl, hk, hcs, hrb⟩ := hrx.at (j := j) (by omega)
      obtain ⟨o3, cap3, rfl, _, _⟩ := id hrb
      refine W.skip ?_
      refine W.seq ?_
      refine W.block ?_
      refine W.seqR ?_
      refine WL.cons rfl (st_move r4 ?_)
      refine WL.cons rfl (st_add us uc (wr64 (by omega)) ?_)
      refine WL.cons rfl (st_assign us ?_)
      refine WL.nil ?_
      refine W.gen ?_; intro ρ12 hρ
      have q3 := (hρ 3).trans (un (un (un r3))); have q4 := (hρ 4).trans us; have q6 := (hρ 6).trans (un (un (un r6))); have q7 := (hρ 7).trans (un (un (un r7)))
      have q8 := (hρ 8).trans (un (un (un r8))); have q9 := (hρ 9).trans (un (un (un r9))); have q10 := (hρ 10).trans (un (un (un r10)))
      clear hρ r10 r25 r3 r4 r6 r7 r8 r9
      have r3 := q3; clear q3; have r4 := q4; clear q4; have r6 := q6; clear q6; have r7 := q7; clear q7; have r8 := q8; clear q8; have r9 := q9; clear q9; have r10 := q10; clear q10
      refine W.endR ?_
      refine WL.cons rfl (st_move r3 ?_)
      refine WL.cons rfl (st_move (un r6) ?_)
      refine WL.cons rfl (st_move (un (un r7)) ?_)
      refine WL.cons rfl (st_indexAddrS (un us) us Try.underlying22 Try.sizeOf33 (by omega) (by omega) ?_)
      refine WL.cons rfl (st_fieldAddr (f := 3) (k := 0) us Try.underlying33 rfl rfl Try.sizeOf30 ?_)
      refine WL.cons rfl (st_load1 Try.isAgg30 us (hcs 4 _ rfl) ?_)
      refine WL.cons rfl (st_lenS us Try.underlying30 ?_)
      refine WL.cons rfl (st_min us uc ?_)
      refine WL.cons rfl (st_add (un (un (un (un (un (un (un us))))))) us (wr64 (by omega)) ?_)
      refine WL.cons rfl (st_assign us ?_)
      refine WL.nil ?_
      refine W.endR ?_
      refine WL.cons rfl (st_move (un (un (un (un (un (un (un (un (un (un r7)))))))))) ?_)
      refine WL.cons rfl (st_add us uc (wr64 (by omega)) ?_)
      refine WL.cons rfl (st_assign us ?_)
      refine WL.nil ?_
      exact ⟨nn - 1, (by omega), j + 1, n + min (k.b.length : Int) 16385, a + 1, (by first | exact (un (un (un us))) | (refine (un (un (un us))).trans ?_; congr 1; omega) | (refine (un (un (un us))).trans ?_; simp)), (by first | exact (un (un (un (un (un (un (un (un (un (un (un (un (un r4))))))))))))) | (refine (un (un (un (un (un (un (un (un (un (un (un (un (un r4))))))))))))).trans ?_; congr 1; omega) | (refine (un (un (un (un (un (un (un (un (un (un (un (un (un r4))))))))))))).trans ?_; simp)), (by first | exact us | (refine us.trans ?_; congr 1; omega) | (refine us.trans ?_; simp)), ((un (un (un (un (un (un (un (un (un (un (un (un (un r6))))))))))))).trans x2_6.symm), ((un (un (un (un (un (un (un (un (un (un (un (un (un r8))))))))))))).trans x2_8.symm), ((un (un (un (un (un (un (un (un (un (un (un (un (un r9))))))))))))).trans x2_9.symm), ((un (un (un (un (un (un (un (un (un (un (un (un (un r10))))))))))))).trans x2_10.symm), by omega, by omega, rfl⟩
    · skip
      try simp only [tests] at hc6
      refine W.exit ?_
      refine exitHere ?_
      refine W.endR ?_
      refine WL.cons rfl (st_add r10 uc (wr64 (by omega)) ?_)
      refine WL.cons rfl (st_move us ?_)
      refine WL.nil ?_
      exact ⟨m1, (by omega), i + 1, n, a, (by first | exact (un (un r3)) | (refine (un (un r3)).trans ?_; congr 1; omega) | (refine (un (un r3)).trans ?_; simp)), (by first | exact (un (un r4)) | (refine (un (un r4)).trans ?_; congr 1; omega) | (refine (un (un r4)).trans ?_; simp)), (by first | exact us | (refine us.trans ?_; congr 1; omega) | (refine us.trans ?_; simp)), ((un (un r8)).trans x0_8.symm), ((un (un r9)).trans x0_9.symm), by omega, hna, rfl⟩
  · skip
    try simp only [tests] at hc3
    refine W.exit ?_
    refine exitHere ?_
    refine W.seqR ?_
    refine WL.cons rfl (st_move r4 ?_)
    refine WL.cons rfl (st_leq us uc ?_)
    refine WL.cons rfl (st_move us ?_)
    apply WL.seg0 2 (t := 42) (x := 44) (want := true) us rfl
    · intro hg42
      refine WL.guardY rfl (us.trans (by rw [hg42])) rfl (st_move (un (un (un r3))) ?_)
      refine WL.guardY rfl ((un us).trans (by rw [hg42])) rfl (st_leq us uc ?_)
      exact WL.nil ⟨(ag (ag ag0)), us, rfl⟩
    intro ρ13 hag hx42
    have q42 := (hag 42 rfl).trans us
    clear hag r10 r11 r3 r4 r8 r9
    have r42 := q42; clear q42
    refine WL.cons rfl (st_and r42 hx42 uc ?_)
    refine WL.cons rfl (st_assign us ?_)
    refine WL.nil ?_
    refine W.gen ?_; intro ρ14 hρ
    have q2 := (hρ 2).trans us
    clear hρ r42
    have r2 := q2; clear q2
    refine W.ret ?_
    refine fin1 r2 ?_
    exact ⟨_, rfl, Up.refl _⟩

end Go.Proofs.Ytppohfgaegahoaa
