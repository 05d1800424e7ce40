/- Walk: Forget. -/
import Derived.Test.YtppohfgaegahoaaLh
namespace Go.Proofs.Ytppohfgaegahoaa
open Go.Tw Go.RowKit
attribute [local irreducible] Step WL W WQ Does

/-- (*towline links.Net).Forget -/
theorem forget_ok {S : Nat → Prop} {s : NetS} {bn bm : Nat} (w : World) (h : NetR S w bn bm s) (p : Int) : Does Try.prog 34 #[.pointer (some ⟨bn, 0, none⟩), .int .i64 p] w (fun v w' => v = .int .i64 0 ∧ NetTo S w w' bn bm (s.forget p)) := by
  have h0 := h
  refine fn_of_W (rs := [4]) (N := 32) Try.func34 rfl rfl rfl (by simp) ?_
  intro ρ0 hρ0
  have r0 : ev ρ0 (.tmp 0) = .pointer (some ⟨bn, 0, none⟩) := hρ0 0
  have r1 : ev ρ0 (.tmp 1) = .int .i64 p := hρ0 1
  clear hρ0
  have hu := Up.refl w
  refine W.seqR ?_
  refine WL.cons rfl (st_assign uc ?_)
  refine WL.nil ?_
  refine W.gen ?_; intro ρ1 hρ
  have q0 := (hρ 0).trans (un r0); have q1 := (hρ 1).trans (un r1)
  clear hρ r0 r1
  have r0 := q0; clear q0; have r1 := q1; clear q1
  refine W.seq ?_
  refine W.seqR ?_
  refine WL.cons rfl (st_move r0 ?_)
  refine WL.cons rfl (st_call1 ent36 us (((dead_ok _ h)).mono ?_))
  intro vd w1 ⟨hvd, ud⟩; subst hvd
  replace h := h.up ud
  replace hu := hu.trans ud
  refine WL.nil ?_
  refine W.gen ?_; intro ρ2 hρ
  have q0 := (hρ 0).trans (un (un r0)); have q1 := (hρ 1).trans (un (un r1)); have q7 := (hρ 7).trans us
  clear hρ r0 r1
  have r0 := q0; clear q0; have r1 := q1; clear q1; have r7 := q7; clear q7
  refine W.condF r7 (rfl) ?_
  refine W.skip ?_
  refine W.seq ?_
  refine W.seqR ?_
  refine WL.cons rfl (st_move r0 ?_)
  refine WL.cons rfl (st_nilCheck us ?_)
  refine WL.cons rfl (st_fieldAddr (f := 0) (k := 0) us Try.underlying64 rfl rfl Try.sizeOf61 ?_)
  refine WL.cons rfl (st_load1 Try.isAgg61 us (h.blk.cell rfl) ?_)
  refine WL.cons rfl (st_range (ek := ekL) us Try.underlying61 (h0.map.up hu (R' := RQ S w) fun _ _ h => h) ?_)
  intro r w2 hra hru hrs hri; have hrw : w.heap.size ≤ r := by (have := hu.size; omega)
  replace hu := hu.trans hru
  refine WL.nil ?_
  refine W.gen ?_; intro ρ3 hρ
  have q0 := (hρ 0).trans (un (un (un (un (un r0))))); have q1 := (hρ 1).trans (un (un (un (un (un r1))))); have q12 := (hρ 12).trans us
  clear hρ r0 r1 r7
  have r0 := q0; clear q0; have r1 := q1; clear q1; have r12 := q12; clear q12
  refine W.block ?_
  refine W.loop (fun nn ρ' w' => ev ρ' (.tmp 0) = ev ρ3 (.tmp 0) ∧ ev ρ' (.tmp 1) = ev ρ3 (.tmp 1) ∧ ev ρ' (.tmp 12) = ev ρ3 (.tmp 12) ∧ LoopF S w w' r bm s p nn) ((akeys s.of).length) ?_ ?_
  · exact ⟨rfl, rfl, rfl, ⟨_, rfl, h0.map.nodup, hu.frm, by rw [fg_all]; exact hri⟩⟩
  intro nn ρ4 w3 ⟨q0, q1, q12, hL⟩
  have s0 := q0; replace q0 := q0.trans r0
  have s1 := q1; replace q1 := q1.trans r1
  have s12 := q12; replace q12 := q12.trans r12
  clear r0 r1 r12
  have r0 := q0; clear q0; have r1 := q1; clear q1; have r12 := q12; clear q12
  clear hu h; obtain ⟨rem, hnn, hnd, hfr, hit⟩ := hL
  have hu := Up.refl w3
  have x0_0 := s0.symm.trans r0; clear s0
  have x0_1 := s1.symm.trans r1; clear s1
  have x0_12 := s12.symm.trans r12; clear s12
  refine W.seqR ?_
  refine WL.cons rfl (st_nextU (ek := ekL) r12 hit ekL_inj ?_)
  intro vs t4 w4 hv0 hf4 hno hyes; replace hfr := hfr.trans' hf4 fun i hi hir => by omega
  clear hu; have hu := Up.refl w4
  refine WL.cons rfl (st_extract us hv0 ?_)
  refine WL.nil ?_
  refine W.gen ?_; intro ρ5 hρ
  have q0 := (hρ 0).trans (un (un r0)); have q1 := (hρ 1).trans (un (un r1)); have q12 := (hρ 12).trans (un (un r12)); have q14 := (hρ 14).trans us
  clear hρ r0 r1 r12
  have r0 := q0; clear q0; have r1 := q1; clear q1; have r12 := q12; clear q12; have r14 := q14; clear q14
  refine W.seq ?_
  refine W.cond r14 (fun hc4 => ?_) (fun hc4 => ?_)
  · skip
    try simp only [tests] at hc4
    obtain ⟨a, u, _, rem1, rem2, _, hrem, hau, _, hia⟩ := hyes hc4
    subst hrem
    have hlt : (rem1 ++ rem2).length < nn := by rw [hnn]; simp
    have hnd2 : (rem1 ++ rem2).Nodup := (nodup_mid hnd).2
    refine W.skip ?_
    refine W.block ?_
    refine W.seqR ?_
    refine WL.cons rfl (st_entry r12 hia fun v5 _ => ?_)
    refine WL.cons rfl (st_extract us rfl ?_)
    refine WL.allocStore (v := ekL a) rfl (fun _ => un us) Try.zeroValue29 Try.sizeOf29 rfl (by first | rfl | kernel_rfl) (by first | exact ekL_one _ | simp [Value.cells, Value.oneCell']) ?_
    intro b5 w5 m5; have B5 := m5.blk
    replace hu := hu.trans m5.up
    replace hia := hia.up m5.up fun _ _ h => h
    refine WL.nil ?_
    refine W.gen ?_; intro ρ6 hρ
    have q0 := (hρ 0).trans (un0 (un (un (un r0)))); have q1 := (hρ 1).trans (un0 (un (un (un r1)))); have q5 := (hρ 5).trans (un0 us); have q12 := (hρ 12).trans (un0 (un (un (un r12))))
    clear hρ r0 r1 r12 r14
    have r0 := q0; clear q0; have r1 := q1; clear q1; have r5 := q5; clear q5; have r12 := q12; clear q12
    refine W.seqR ?_
    refine WL.cons rfl (st_fieldAddr (f := 0) (k := 0) r5 Try.underlying29 rfl rfl Try.sizeOf3 ?_)
    refine WL.cons rfl (st_load1 Try.isAgg3 us (B5.cell rfl) ?_)
    refine WL.cons rfl (st_move (un (un r1)) ?_)
    refine WL.cons rfl (st_eql (un us) us ?_)
    refine WL.cons rfl (st_move us ?_)
    apply WL.seg0 4 (t := 21) (x := 25) (want := false) us rfl
    · intro hg21
      refine WL.guardY rfl (us.trans (by rw [hg21])) rfl (st_fieldAddr (f := 1) (k := 0) (un (un (un (un (un r5))))) Try.underlying29 rfl rfl Try.sizeOf3 ?_)
      refine WL.guardY rfl ((un us).trans (by rw [hg21])) rfl (st_load1 Try.isAgg3 us (B5.cell rfl) ?_)
      refine WL.guardY rfl ((un (un us)).trans (by rw [hg21])) rfl (st_move (un (un (un (un (un (un (un r1))))))) ?_)
      refine WL.guardY rfl ((un (un (un us))).trans (by rw [hg21])) rfl (st_eql (un us) us ?_)
      exact WL.nil ⟨(ag (ag (ag (ag ag0)))), us, rfl⟩
    intro ρ7 hag hx21
    have q0 := (hag 0 rfl).trans (un (un (un (un (un r0))))); have q1 := (hag 1 rfl).trans (un (un (un (un (un r1))))); have q5 := (hag 5 rfl).trans (un (un (un (un (un r5))))); have q12 := (hag 12 rfl).trans (un (un (un (un (un r12)))))
    have q21 := (hag 21 rfl).trans us
    clear hag r0 r1 r12 r5
    have r0 := q0; clear q0; have r1 := q1; clear q1; have r5 := q5; clear q5; have r12 := q12; clear q12; have r21 := q21; clear q21
    refine WL.cons rfl (st_or r21 hx21 uc ?_)
    refine WL.nil ?_
    refine W.gen ?_; intro ρ8 hρ
    have q0 := (hρ 0).trans (un r0); have q1 := (hρ 1).trans (un r1); have q5 := (hρ 5).trans (un r5); have q12 := (hρ 12).trans (un r12)
    have q26 := (hρ 26).trans us
    clear hρ r0 r1 r12 r21 r5
    have r0 := q0; clear q0; have r1 := q1; clear q1; have r5 := q5; clear q5; have r12 := q12; clear q12; have r26 := q26; clear q26
    refine W.cond r26 (fun hc6 => ?_) (fun hc6 => ?_)
    · skip
      try simp only [tests] at hc6
      have hh : hitsL p a = true := by simpa [hitsL] using hc6
      have hbk := h0.blk.frm (hfr.trans hu.frm) h0.ne
      refine W.quiet mixed 5 (by kernel_rfl) ?_
      refine WQ.cons (fun w' hq => st_move r0 ⟨rfl, Up.refl _⟩) ?_
      refine WQ.cons (fun w' hq => st_nilCheck us ⟨rfl, Up.refl _⟩) ?_
      refine WQ.cons (fun w' hq => st_fieldAddr (f := 0) (k := 0) us Try.underlying64 rfl rfl Try.sizeOf61 ⟨rfl, Up.refl _⟩) ?_
      refine WQ.cons (fun w' hq => st_load1 Try.isAgg61 us ((hbk.up hq).cell rfl) ⟨rfl, Up.refl _⟩) ?_
      refine WQ.cons (fun w' hq => st_loadK Try.isAgg29 Try.sizeOf29 (un (un (un (un r5)))) (cells2 ((B5.up hq).cell rfl) ((B5.up hq).cell rfl)) rfl ⟨rfl, Up.refl _⟩) ?_
      refine WQ.nil ?_
      intro w6 hq7
      replace B5 := B5.up hq7
      replace hu := hu.trans hq7
      replace hia := hia.up hq7 fun _ _ h => h
      refine WL.cons rfl (st_deleteAt (ek := ekL) (a := a) (un us) us keyL Try.underlying61 hia ?_)
      intro w7 hit3 hf7 _
      have hnx : LoopF S w _ r bm s p (rem1 ++ rem2).length := ⟨_, rfl, hnd2, (hfr.trans hu.frm).trans hf7, by rw [← fg_del h0.map.nodup hnd hh]; exact hit3⟩
      refine WL.nil ?_
      exact ⟨(rem1 ++ rem2).length, (by omega), ((un0 (un (un (un (un (un r0)))))).trans x0_0.symm), ((un0 (un (un (un (un (un r1)))))).trans x0_1.symm), ((un0 (un (un (un (un (un r12)))))).trans x0_12.symm), hnx⟩
    · skip
      try simp only [tests] at hc6
      have hh : hitsL p a = false := by simpa [hitsL] using hc6
      have hnx : LoopF S w _ r bm s p (rem1 ++ rem2).length := ⟨_, rfl, hnd2, hfr.trans hu.frm, by rw [← fg_keep hh]; exact hia.iter⟩
      refine W.skip ?_
      exact ⟨(rem1 ++ rem2).length, (by omega), (r0.trans x0_0.symm), (r1.trans x0_1.symm), (r12.trans x0_12.symm), hnx⟩
  · skip
    try simp only [tests] at hc4
    obtain ⟨hr0, hit2⟩ := hno hc4
    subst hr0
    refine W.exit ?_
    refine exitHere ?_
    refine W.seqR ?_
    refine WL.cons rfl (st_assign uc ?_)
    refine WL.nil ?_
    refine W.gen ?_; intro ρ9 hρ
    have q4 := (hρ 4).trans us
    clear hρ r0 r1 r12 r14
    have r4 := q4; clear q4
    refine W.ret ?_
    refine fin1 r4 ?_
    have ht := h0.put hit2.mapR hfr; rw [fg_none] at ht; exact ⟨rfl, NetTo.up ⟨hfr.mono fun _ _ h => .inr h, S, ht, fun _ h => .inl h⟩ hu⟩

end Go.Proofs.Ytppohfgaegahoaa
