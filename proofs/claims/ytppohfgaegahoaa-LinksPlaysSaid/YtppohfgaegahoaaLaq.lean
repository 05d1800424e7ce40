/- Walk: a word as sixty-four answers. -/
import Derived.Test.YtppohfgaegahoaaLap
namespace Go.Proofs.Ytppohfgaegahoaa
open Go.Tw Go.RowKit
attribute [local irreducible] Step WL W WQ Does

/-- towline towlineref02.From -/
theorem from_ok {u : Int} (h0 : 0 ≤ u) (h1 : u ≤ 18446744073709551615) (w : World) : Does Try.prog 42 #[.int .u64 u] w (fun v w' => v = .agg ((List.range 64).map fun (n : Nat) => Value.bool (hasB u n)).toArray ∧ Up w w') := by
  refine fn_of_WC (t := 2) (T := 82) (N := 17) Try.func42 rfl rfl rfl (by simp) ?_
  intro ρ0 hρ0
  have r0 : ev ρ0 (.tmp 0) = .int .u64 u := hρ0 0
  clear hρ0
  have hu := Up.refl w
  refine W.seqR ?_
  refine WL.cons rfl (st_alloc Try.zeroValue82 ?_)
  intro b2 w1 m2; have B2 := m2.blk
  replace hu := hu.trans m2.up
  refine WL.nil ?_
  refine W.gen ?_; intro ρ1 hρ
  have q0 := (hρ 0).trans (un r0); have q2 := (hρ 2).trans us
  clear hρ r0
  have r0 := q0; clear q0; have r2 := q2; clear q2
  refine W.seqR ?_
  refine WL.cons rfl (st_alloc Try.zeroValue82 ?_)
  intro b3 w2 m3; have B3 := m3.blk
  have n2_3 : b2 ≠ b3 := by have := B2.lt; have := m3.at_; omega
  replace B2 := B2.up m3.up
  replace hu := hu.trans m3.up
  replace B3 : Blk w2 b3 (.cells (fromC u 0).toArray 82) := by rw [← from_zero u]; exact B3
  have hsz2 := m2.at_; have hsz3 := m3.at_
  rw [← dv_0 u] at r0
  refine WL.nil ?_
  refine W.gen ?_; intro ρ2 hρ
  have q0 := (hρ 0).trans (un r0); have q2 := (hρ 2).trans (un r2); have q3 := (hρ 3).trans us
  clear hρ r0 r2
  have r0 := q0; clear q0; have r2 := q2; clear q2; have r3 := q3; clear q3
  refine W.seq ?_
  refine W.seqR ?_
  refine WL.cons rfl (st_move uc ?_)
  refine WL.nil ?_
  refine W.gen ?_; intro ρ3 hρ
  have q0 := (hρ 0).trans (un r0); have q2 := (hρ 2).trans (un r2); have q3 := (hρ 3).trans (un r3); have q5 := (hρ 5).trans us
  clear hρ r0 r2 r3
  have r0 := q0; clear q0; have r2 := q2; clear q2; have r3 := q3; clear q3; have r5 := q5; clear q5
  refine W.block ?_
  refine W.loop (fun nn ρ' w' => ∃ j : Nat, ev ρ' (.tmp 0) = .int .u64 (dv u j) ∧ ev ρ' (.tmp 5) = .int .i64 (j : Int) ∧ ev ρ' (.tmp 2) = ev ρ3 (.tmp 2) ∧ ev ρ' (.tmp 3) = ev ρ3 (.tmp 3) ∧ j + nn = 64 ∧ Up w w' ∧ (∃ cs : Array Value, cs.size = 64 ∧ Blk w' b2 (.cells cs 82)) ∧ Blk w' b3 (.cells (fromC u j).toArray 82)) (64) ?_ ?_
  · exact ⟨0, (by first | exact r0 | (refine r0.trans ?_; congr 1; omega) | (refine r0.trans ?_; simp)), (by first | exact r5 | (refine r5.trans ?_; congr 1; omega) | (refine r5.trans ?_; simp)), rfl, rfl, by omega, hu, ⟨_, rfl, B2⟩, B3⟩
  intro nn ρ4 w3 ⟨j, q0, q5, q2, q3, hj, hu, B2e, B3⟩
  have s2 := q2; replace q2 := q2.trans r2
  have s3 := q3; replace q3 := q3.trans r3
  clear r0 r2 r3 r5
  have r0 := q0; clear q0; have r5 := q5; clear q5; have r2 := q2; clear q2; have r3 := q3; clear q3
  have hsw := hu.size
  clear B2; obtain ⟨cs2, hcs2, B2⟩ := B2e
  have x0_2 := s2.symm.trans r2; clear s2
  have x0_3 := s3.symm.trans r3; clear s3
  refine W.seqR ?_
  refine WL.cons rfl (st_lss r5 uc ?_)
  refine WL.nil ?_
  refine W.gen ?_; intro ρ5 hρ
  have q0 := (hρ 0).trans (un r0); have q2 := (hρ 2).trans (un r2); have q3 := (hρ 3).trans (un r3); have q5 := (hρ 5).trans (un r5)
  have q6 := (hρ 6).trans us
  clear hρ r0 r2 r3 r5
  have r0 := q0; clear q0; have r2 := q2; clear q2; have r3 := q3; clear q3; have r5 := q5; clear q5; have r6 := q6; clear q6
  refine W.seq ?_
  refine W.cond r6 (fun hc3 => ?_) (fun hc3 => ?_)
  · skip
    try simp only [tests] at hc3
    have hjl : j < 64 := by omega
    refine W.skip ?_
    refine W.seq ?_
    refine W.block ?_
    refine W.seqR ?_
    refine WL.cons rfl (st_move r5 ?_)
    refine WL.cons rfl (st_assign us ?_)
    refine WL.nil ?_
    refine W.gen ?_; intro ρ6 hρ
    have q0 := (hρ 0).trans (un (un r0)); have q2 := (hρ 2).trans (un (un r2)); have q3 := (hρ 3).trans (un (un r3)); have q4 := (hρ 4).trans us
    have q5 := (hρ 5).trans (un (un r5))
    clear hρ r0 r2 r3 r5 r6
    have r0 := q0; clear q0; have r2 := q2; clear q2; have r3 := q3; clear q3; have r4 := q4; clear q4; have r5 := q5; clear q5
    refine W.seqR ?_
    refine WL.cons rfl (st_move r4 ?_)
    refine WL.cons rfl (st_move (un r0) ?_)
    refine WL.cons rfl (st_rem us uc (by omega) (dv_rem h0 j) ?_)
    refine WL.cons rfl (st_eql us uc ?_)
    refine WL.cons rfl (st_indexAddrA (un (un (un (un r3)))) (un (un (un us))) Try.underlying82 Try.sizeOf4 (by omega) (by omega) ?_)
    refine WL.cons rfl (st_store1 us (un us) Try.sizeOf4 B3 (by rw [fromC_len]; show 0 + j * 1 < 64; omega) rfl rfl ?_)
    intro w4 hb3 hf3 _
    rw [show 0 + ((j : Int)).toNat * 1 = j by omega, ← hasB_dv h0 h1 hjl, fromC_set u hjl] at hb3
    replace B3 := hb3; replace B2 := B2.frm hf3 (fun e => n2_3 e); replace hu := Up.local hu hf3 (by have := m2.up.size; omega)
    refine WL.nil ?_
    refine W.gen ?_; intro ρ7 hρ
    have q0 := (hρ 0).trans (un0 (un (un (un (un (un r0)))))); have q2 := (hρ 2).trans (un0 (un (un (un (un (un r2)))))); have q3 := (hρ 3).trans (un0 (un (un (un (un (un r3)))))); have q5 := (hρ 5).trans (un0 (un (un (un (un (un r5))))))
    clear hρ r0 r2 r3 r4 r5
    have r0 := q0; clear q0; have r2 := q2; clear q2; have r3 := q3; clear q3; have r5 := q5; clear q5
    refine W.endR ?_
    refine WL.cons rfl (st_move r0 ?_)
    refine WL.cons rfl (st_quo us uc (by omega) (dv_quo h0 h1 j) ?_)
    refine WL.cons rfl (st_assign us ?_)
    refine WL.nil ?_
    refine W.endR ?_
    refine WL.cons rfl (st_add (un (un (un r5))) uc (wr64 (by omega)) ?_)
    refine WL.cons rfl (st_move us ?_)
    refine WL.nil ?_
    exact ⟨nn - 1, (by omega), j + 1, (by first | exact (un (un us)) | (refine (un (un us)).trans ?_; congr 1; omega) | (refine (un (un us)).trans ?_; simp)), (by first | exact us | (refine us.trans ?_; congr 1; omega) | (refine us.trans ?_; simp)), ((un (un (un (un (un r2))))).trans x0_2.symm), ((un (un (un (un (un r3))))).trans x0_3.symm), by omega, hu, ⟨_, hcs2, B2⟩, B3⟩
  · skip
    try simp only [tests] at hc3
    have he : j = 64 := by omega
    subst he
    rw [fromC_all] at B3
    refine W.exit ?_
    refine exitHere ?_
    refine W.seqR ?_
    refine WL.cons rfl (st_loadK Try.isAgg82 Try.sizeOf82 r3 (B3.row) rfl ?_)
    refine WL.cons rfl (st_storeAll (un r2) us Try.sizeOf82 B2 (by simp) hcs2 (by intro c hc; obtain ⟨n, _, rfl⟩ := List.mem_map.1 hc; rfl) ?_)
    intro w5 hb2 hf2 _
    replace B2 := hb2; replace hu := Up.local hu hf2 (by omega)
    refine WL.nil ?_
    refine W.gen ?_; intro ρ8 hρ
    have q2 := (hρ 2).trans (un0 (un r2))
    clear hρ r0 r2 r3 r5 r6
    have r2 := q2; clear q2
    refine W.ret ?_
    refine finCK r2 Try.isAgg82 Try.sizeOf82 (by first | rfl | simp) (B2.row) ?_
    exact ⟨rfl, hu⟩

end Go.Proofs.Ytppohfgaegahoaa
