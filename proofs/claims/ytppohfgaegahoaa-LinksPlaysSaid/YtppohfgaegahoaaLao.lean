/- Walk: the document's Net: Busy. -/
import Derived.Test.YtppohfgaegahoaaLan
namespace Go.Proofs.Ytppohfgaegahoaa
open Go.Tw Go.RowKit
attribute [local irreducible] Step WL W WQ Does

def lkN (n : Nat) : Lk := (((n / 32 : Nat) : Int), ((n % 32 : Nat) : Int))
theorem lkN_at {i j : Nat} (hj : j < 32) : lkN (32 * i + j) = ((i : Int), (j : Int)) := by
  unfold lkN
  rw [show (32 * i + j) / 32 = i by omega, show (32 * i + j) % 32 = j by omega]
def busyN (x : RefS) (n : Nat) : List Lk := ((List.range n).map lkN).filter fun l => decide (0 < (qOf x.items l).length)
theorem busyN_step {x : RefS} {n : Nat} {l : Lk} (h : lkN n = l) : busyN x (n + 1) = busyN x n ++ if 0 < (qOf x.items l).length then [l] else [] := by
  subst h
  unfold busyN
  rw [List.range_succ, List.map_append, List.filter_append, List.map_cons, List.map_nil, List.filter_cons, List.filter_nil]
  by_cases e : 0 < (qOf x.items (lkN n)).length <;> simp [e]
theorem busyN_le (x : RefS) (n : Nat) : (busyN x n).length ≤ n := by
  unfold busyN
  exact Nat.le_trans (List.length_filter_le _ _) (by simp)
def LoopU (w w' : World) (ks : List Lk) (v : Value) : Prop := Up w w' ∧ Own w.heap.size w' 29 2 v ks.length (lkC ks)

/-- (*towline towlineref04.Net).Busy -/
theorem rbusy_ok {Sx : Nat → Prop} {x : RefS} {bx : Nat} (w : World) (h : RefR Sx w bx x) (hm : x.items.length ≤ 1000000) : Does Try.prog 24 #[.pointer (some ⟨bx, 0, none⟩)] w (fun v w' => SlV AnyB w' v (busyN x 1024).length 2 (lkC (busyN x 1024)) ∧ Up w w') := by
  refine fn_of_W (rs := [2]) (N := 27) Try.func24 rfl rfl rfl (by simp) ?_
  intro ρ0 hρ0
  have r0 : ev ρ0 (.tmp 0) = .pointer (some ⟨bx, 0, none⟩) := hρ0 0
  clear hρ0
  have hu := Up.refl w
  refine W.seqR ?_
  refine WL.cons rfl (st_assign uc ?_)
  refine WL.nil ?_
  refine W.gen ?_; intro ρ1 hρ
  have q0 := (hρ 0).trans (un r0)
  clear hρ r0
  have r0 := q0; clear q0
  refine W.seqR ?_
  refine WL.cons rfl (st_assign uc ?_)
  refine WL.nil ?_
  refine W.gen ?_; intro ρ2 hρ
  have q0 := (hρ 0).trans (un r0); have q3 := (hρ 3).trans us
  clear hρ r0
  have r0 := q0; clear q0; have r3 := q3; clear q3
  refine W.seq ?_
  refine W.seqR ?_
  refine WL.cons rfl (st_move uc ?_)
  refine WL.nil ?_
  refine W.gen ?_; intro ρ3 hρ
  have q0 := (hρ 0).trans (un r0); have q3 := (hρ 3).trans (un r3); have q6 := (hρ 6).trans us
  clear hρ r0 r3
  have r0 := q0; clear q0; have r3 := q3; clear q3; have r6 := q6; clear q6
  refine W.block ?_
  refine W.loop (fun nn ρ' w' => ∃ (i : Nat) (vo : Value), ev ρ' (.tmp 3) = vo ∧ ev ρ' (.tmp 6) = .int .i64 (i : Int) ∧ ev ρ' (.tmp 0) = ev ρ3 (.tmp 0) ∧ i + nn = 32 ∧ LoopU w w' (busyN x (32 * i)) vo) (32) ?_ ?_
  · exact ⟨0, .slice none 0 0, (by first | exact r3 | (refine r3.trans ?_; congr 1; omega) | (refine r3.trans ?_; simp)), (by first | exact r6 | (refine r6.trans ?_; congr 1; omega) | (refine r6.trans ?_; simp)), rfl, by omega, ⟨hu, by simp [busyN, lkC], .inl ⟨rfl, by simp [busyN]⟩⟩⟩
  intro nn ρ4 w1 ⟨i, vo, q3, q6, q0, hi, hL⟩
  have s0 := q0; replace q0 := q0.trans r0
  clear r0 r3 r6
  have r3 := q3; clear q3; have r6 := q6; clear q6; have r0 := q0; clear q0
  clear hu; obtain ⟨hu, hown⟩ := hL
  have x0_0 := s0.symm.trans r0; clear s0
  refine W.seqR ?_
  refine WL.cons rfl (st_lss r6 uc ?_)
  refine WL.nil ?_
  refine W.gen ?_; intro ρ5 hρ
  have q0 := (hρ 0).trans (un r0); have q3 := (hρ 3).trans (un r3); have q6 := (hρ 6).trans (un r6); have q7 := (hρ 7).trans us
  clear hρ r0 r3 r6
  have r0 := q0; clear q0; have r3 := q3; clear q3; have r6 := q6; clear q6; have r7 := q7; clear q7
  refine W.seq ?_
  refine W.cond r7 (fun hc3 => ?_) (fun hc3 => ?_)
  · skip
    try simp only [tests] at hc3
    obtain ⟨m1, rfl⟩ : ∃ m1, nn = m1 + 1 := ⟨nn - 1, by omega⟩
    refine W.skip ?_
    refine W.seq ?_
    refine W.block ?_
    refine W.seqR ?_
    refine WL.cons rfl (st_move r6 ?_)
    refine WL.cons rfl (st_assign us ?_)
    refine WL.nil ?_
    refine W.gen ?_; intro ρ6 hρ
    have q0 := (hρ 0).trans (un (un r0)); have q3 := (hρ 3).trans (un (un r3)); have q4 := (hρ 4).trans us; have q6 := (hρ 6).trans (un (un r6))
    clear hρ r0 r3 r6 r7
    have r0 := q0; clear q0; have r3 := q3; clear q3; have r4 := q4; clear q4; have r6 := q6; clear q6
    refine W.seqR ?_
    refine WL.cons rfl (st_move uc ?_)
    refine WL.nil ?_
    refine W.gen ?_; intro ρ7 hρ
    have q0 := (hρ 0).trans (un r0); have q3 := (hρ 3).trans (un r3); have q4 := (hρ 4).trans (un r4); have q6 := (hρ 6).trans (un r6)
    have q9 := (hρ 9).trans us
    clear hρ r0 r3 r4 r6
    have r0 := q0; clear q0; have r3 := q3; clear q3; have r4 := q4; clear q4; have r6 := q6; clear q6; have r9 := q9; clear q9
    refine W.block ?_
    refine W.loop (fun nn ρ' w' => ∃ (j : Nat) (vp : Value), ev ρ' (.tmp 3) = vp ∧ ev ρ' (.tmp 9) = .int .i64 (j : Int) ∧ ev ρ' (.tmp 0) = ev ρ7 (.tmp 0) ∧ ev ρ' (.tmp 4) = ev ρ7 (.tmp 4) ∧ ev ρ' (.tmp 6) = ev ρ7 (.tmp 6) ∧ j + nn = 32 ∧ LoopU w w' (busyN x (32 * i + j)) vp) (32) ?_ ?_
    · exact ⟨0, vo, (by first | exact r3 | (refine r3.trans ?_; congr 1; omega) | (refine r3.trans ?_; simp)), (by first | exact r9 | (refine r9.trans ?_; congr 1; omega) | (refine r9.trans ?_; simp)), rfl, rfl, rfl, by omega, ⟨hu, hown⟩⟩
    intro nn ρ8 w2 ⟨j, vp, q3, q9, q0, q4, q6, hj, hL⟩
    have s0 := q0; replace q0 := q0.trans r0
    have s4 := q4; replace q4 := q4.trans r4
    have s6 := q6; replace q6 := q6.trans r6
    clear r0 r3 r4 r6 r9
    have r3 := q3; clear q3; have r9 := q9; clear q9; have r0 := q0; clear q0; have r4 := q4; clear q4; have r6 := q6; clear q6
    clear hu hown; obtain ⟨hu, hown⟩ := hL
    have x2_0 := s0.symm.trans r0; clear s0
    have x2_4 := s4.symm.trans r4; clear s4
    have x2_6 := s6.symm.trans r6; clear s6
    refine W.seqR ?_
    refine WL.cons rfl (st_lss r9 uc ?_)
    refine WL.nil ?_
    refine W.gen ?_; intro ρ9 hρ
    have q0 := (hρ 0).trans (un r0); have q3 := (hρ 3).trans (un r3); have q4 := (hρ 4).trans (un r4); have q6 := (hρ 6).trans (un r6)
    have q9 := (hρ 9).trans (un r9); have q10 := (hρ 10).trans us
    clear hρ r0 r3 r4 r6 r9
    have r0 := q0; clear q0; have r3 := q3; clear q3; have r4 := q4; clear q4; have r6 := q6; clear q6; have r9 := q9; clear q9; have r10 := q10; clear q10
    refine W.seq ?_
    refine W.cond r10 (fun hc6 => ?_) (fun hc6 => ?_)
    · skip
      try simp only [tests] at hc6
      have hjl : j < 32 := by omega
      have hst := busyN_step (x := x) (lkN_at (i := i) hjl)
      have hle := busyN_le x (32 * i + j)
      refine W.skip ?_
      refine W.seq ?_
      refine W.block ?_
      refine W.seqR ?_
      refine WL.cons rfl (st_move r9 ?_)
      refine WL.cons rfl (st_assign us ?_)
      refine WL.nil ?_
      refine W.gen ?_; intro ρ10 hρ
      have q0 := (hρ 0).trans (un (un r0)); have q3 := (hρ 3).trans (un (un r3)); have q4 := (hρ 4).trans (un (un r4)); have q5 := (hρ 5).trans us
      have q6 := (hρ 6).trans (un (un r6)); have q9 := (hρ 9).trans (un (un r9))
      clear hρ r0 r10 r3 r4 r6 r9
      have r0 := q0; clear q0; have r3 := q3; clear q3; have r4 := q4; clear q4; have r5 := q5; clear q5; have r6 := q6; clear q6; have r9 := q9; clear q9
      refine W.seqR ?_
      refine WL.cons rfl (st_move r0 ?_)
      refine WL.cons rfl (st_move (un r4) ?_)
      refine WL.cons rfl (st_move (un (un r5)) ?_)
      refine WL.cons rfl (st_buildP2 (v := ekL ((i : Int), (j : Int))) (un us) us (fun w => by kernel_rfl) ?_)
      refine WL.cons rfl (st_call2 ent21 (un (un (un us))) us (((rlen_ok _ (h.up hu) hm ((i : Int), (j : Int)))).mono ?_))
      intro vl w3 ⟨hvl, ul⟩; subst hvl; replace hown := hown.up ul
      replace hu := hu.trans ul
      refine WL.cons rfl (st_gtr us uc ?_)
      refine WL.nil ?_
      refine W.gen ?_; intro ρ11 hρ
      have q0 := (hρ 0).trans (un (un (un (un (un (un r0)))))); have q3 := (hρ 3).trans (un (un (un (un (un (un r3)))))); have q4 := (hρ 4).trans (un (un (un (un (un (un r4)))))); have q5 := (hρ 5).trans (un (un (un (un (un (un r5))))))
      have q6 := (hρ 6).trans (un (un (un (un (un (un r6)))))); have q9 := (hρ 9).trans (un (un (un (un (un (un r9)))))); have q17 := (hρ 17).trans us
      clear hρ r0 r3 r4 r5 r6 r9
      have r0 := q0; clear q0; have r3 := q3; clear q3; have r4 := q4; clear q4; have r5 := q5; clear q5; have r6 := q6; clear q6; have r9 := q9; clear q9; have r17 := q17; clear q17
      refine W.cond r17 (fun hc8 => ?_) (fun hc8 => ?_)
      · skip
        try simp only [tests] at hc8
        rw [if_pos (by omega)] at hst
        refine W.endR ?_
        refine WL.cons rfl (st_move r3 ?_)
        refine WL.cons rfl (st_move (un r4) ?_)
        refine WL.cons rfl (st_move (un (un r5)) ?_)
        refine WL.cons rfl (st_buildP2 (v := ekL ((i : Int), (j : Int))) (un us) us (fun w => by kernel_rfl) ?_)
        refine WL.cons rfl (st_bs1 (v := ekL ((i : Int), (j : Int))) us (build_link ((i : Int), (j : Int))) ?_)
        intro b22 w4 m22; replace hown := hown.up m22.up; replace hu := hu.trans m22.up; have hnews : SlV AnyB w4 (.slice (some ⟨b22, 0, none⟩) 1 1) 1 2 (lk2 ((i : Int), (j : Int))) := made_sl m22 rfl trivial
        refine WL.cons rfl (st_append (un (un (un (un us)))) us Try.underlying43 info29 rfl (by omega) hown hnews (by intro c hc; simp [lk2] at hc; rcases hc with rfl | rfl <;> rfl) (by omega) (by omega) hu.size ?_)
        intro v23 w5 hov hfr _ _
        replace hu := (Frm.trans' (X := NoB) hu.frm hfr fun i hi e => absurd (hown.block i e).1 (by omega)).up
        have hny : LoopU w w5 (busyN x (32 * i + (j + 1))) v23 := ⟨hu, by rw [← Nat.add_assoc, hst, lkC_snoc, List.length_append]; exact hov⟩
        refine WL.cons rfl (st_assign us ?_)
        refine WL.nil ?_
        refine W.endR ?_
        refine WL.cons rfl (st_add (un (un (un (un (un (un (un r9))))))) uc (wr64 (by omega)) ?_)
        refine WL.cons rfl (st_move us ?_)
        refine WL.nil ?_
        exact ⟨nn - 1, (by omega), j + 1, _, (by first | exact (un (un us)) | (refine (un (un us)).trans ?_; congr 1; omega) | (refine (un (un us)).trans ?_; simp)), (by first | exact us | (refine us.trans ?_; congr 1; omega) | (refine us.trans ?_; simp)), ((un (un (un (un (un (un (un (un (un r0))))))))).trans x2_0.symm), ((un (un (un (un (un (un (un (un (un r4))))))))).trans x2_4.symm), ((un (un (un (un (un (un (un (un (un r6))))))))).trans x2_6.symm), by omega, hny⟩
      · skip
        try simp only [tests] at hc8
        rw [if_neg (by omega), List.append_nil] at hst
        have hny : LoopU w _ (busyN x (32 * i + (j + 1))) _ := ⟨hu, by rw [← Nat.add_assoc, hst]; exact hown⟩
        refine W.skip ?_
        refine W.endR ?_
        refine WL.cons rfl (st_add r9 uc (wr64 (by omega)) ?_)
        refine WL.cons rfl (st_move us ?_)
        refine WL.nil ?_
        exact ⟨nn - 1, (by omega), j + 1, _, (by first | exact (un (un r3)) | (refine (un (un r3)).trans ?_; congr 1; omega) | (refine (un (un r3)).trans ?_; simp)), (by first | exact us | (refine us.trans ?_; congr 1; omega) | (refine us.trans ?_; simp)), ((un (un r0)).trans x2_0.symm), ((un (un r4)).trans x2_4.symm), ((un (un r6)).trans x2_6.symm), by omega, hny⟩
    · skip
      try simp only [tests] at hc6
      have hnx : LoopU w _ (busyN x (32 * (i + 1))) _ := ⟨hu, by rw [show 32 * (i + 1) = 32 * i + j by omega]; exact hown⟩
      refine W.exit ?_
      refine exitHere ?_
      refine W.endR ?_
      refine WL.cons rfl (st_add r6 uc (wr64 (by omega)) ?_)
      refine WL.cons rfl (st_move us ?_)
      refine WL.nil ?_
      exact ⟨m1, (by omega), i + 1, _, (by first | exact (un (un r3)) | (refine (un (un r3)).trans ?_; congr 1; omega) | (refine (un (un r3)).trans ?_; simp)), (by first | exact us | (refine us.trans ?_; congr 1; omega) | (refine us.trans ?_; simp)), ((un (un r0)).trans x0_0.symm), by omega, hnx⟩
  · skip
    try simp only [tests] at hc3
    have hk := hown.sl
    rw [show 32 * i = 1024 by omega] at hk
    refine W.exit ?_
    refine exitHere ?_
    refine W.seqR ?_
    refine WL.cons rfl (st_move r3 ?_)
    refine WL.cons rfl (st_assign us ?_)
    refine WL.nil ?_
    refine W.gen ?_; intro ρ12 hρ
    have q2 := (hρ 2).trans us
    clear hρ r0 r3 r6 r7
    have r2 := q2; clear q2
    refine W.ret ?_
    refine fin1 r2 ?_
    exact ⟨hk.mono (fun _ _ _ => trivial) (by omega), hu⟩

end Go.Proofs.Ytppohfgaegahoaa
