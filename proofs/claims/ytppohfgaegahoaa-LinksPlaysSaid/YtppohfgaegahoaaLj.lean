/- Walk: a call, whichever it is. -/
import Derived.Test.YtppohfgaegahoaaLi
namespace Go.Proofs.Ytppohfgaegahoaa
open Go.Tw Go.RowKit
attribute [local irreducible] Step WL W WQ Does

/-- towline towlinelaw04.does -/
theorem does_ok {S : Nat → Prop} {s : NetS} {bn bm : Nat} (w : World) (h : NetR S w bn bm s) (hk : s.Ok) (k : DoS) {Sb : Nat → Prop} {vb : Value} (hb : RB Sb w vb k.b) : Does Try.prog 13 #[.pointer (some ⟨bn, 0, none⟩), .agg (doCells k vb).toArray] w (fun v w' => ∃ u, v = .tuple #[u, .bool (s.does k).2.1.isSome, .int .i64 (s.does k).2.2] ∧ NetToX S w w' bn bm (s.does k).1 u ((s.does k).2.1.getD [])) := by
  refine fn_of_W (rs := [4, 5, 6]) (N := 58) Try.func13 rfl rfl rfl (by simp) ?_
  intro ρ0 hρ0
  have r0 : ev ρ0 (.tmp 0) = .pointer (some ⟨bn, 0, none⟩) := hρ0 0
  have r1 : ev ρ0 (.tmp 1) = .agg (doCells k vb).toArray := hρ0 1
  clear hρ0
  have hu := Up.refl w
  refine W.seqR ?_
  refine WL.cons rfl (st_box r1 ?_)
  intro b3 w1 m3; have B3 := m3.blk
  replace h := h.up m3.up
  replace hb := hb.up m3.up
  replace hu := hu.trans m3.up
  refine WL.cons rfl (st_assign uc ?_)
  refine WL.cons rfl (st_assign uc ?_)
  refine WL.cons rfl (st_assign uc ?_)
  refine WL.nil ?_
  refine W.gen ?_; intro ρ1 hρ
  have q0 := (hρ 0).trans (un (un (un (un r0)))); have q3 := (hρ 3).trans (un (un (un us)))
  clear hρ r0 r1
  have r0 := q0; clear q0; have r3 := q3; clear q3
  refine W.seq ?_
  refine W.seqR ?_
  refine WL.cons rfl (st_fieldAddr (f := 0) (k := 0) r3 Try.underlying33 rfl rfl Try.sizeOf3 ?_)
  refine WL.cons rfl (st_load1 Try.isAgg3 us (B3.cell rfl) ?_)
  refine WL.cons rfl (st_conv us Try.underlying3 Try.underlying37 rfl ?_)
  refine WL.cons rfl (st_rem us uc (by omega) rfl ?_)
  refine WL.cons rfl (st_conv us Try.underlying37 Try.underlying3 (show _ = opN k.op from rfl) ?_)
  refine WL.nil ?_
  refine W.gen ?_; intro ρ2 hρ
  have q0 := (hρ 0).trans (un (un (un (un (un r0))))); have q3 := (hρ 3).trans (un (un (un (un (un r3))))); have q11 := (hρ 11).trans us
  clear hρ r0 r3
  have r0 := q0; clear q0; have r3 := q3; clear q3; have r11 := q11; clear q11
  refine W.block ?_
  refine W.seq ?_
  refine W.seqR ?_
  refine WL.cons rfl (st_eql r11 uc ?_)
  refine WL.cons rfl (st_assign us ?_)
  refine WL.nil ?_
  refine W.gen ?_; intro ρ3 hρ
  have q0 := (hρ 0).trans (un (un r0)); have q3 := (hρ 3).trans (un (un r3)); have q11 := (hρ 11).trans (un (un r11)); have q12 := (hρ 12).trans us
  clear hρ r0 r11 r3
  have r0 := q0; clear q0; have r3 := q3; clear q3; have r11 := q11; clear q11; have r12 := q12; clear q12
  refine W.meet (fun ρ' w' => ev ρ' (.tmp 12) = .bool (decide (opN k.op = 3) || decide (opN k.op = 4)) ∧ ev ρ' (.tmp 0) = ev ρ3 (.tmp 0) ∧ ev ρ' (.tmp 3) = ev ρ3 (.tmp 3) ∧ ev ρ' (.tmp 11) = ev ρ3 (.tmp 11) ∧ w' = w1) ?_ ?_
  · skip
    have r0_ := r0
    have r3_ := r3
    have r11_ := r11
    refine W.cond r12 (fun hc2 => ?_) (fun hc2 => ?_)
    · skip
      try simp only [tests] at hc2
      refine W.skip ?_
      exact ⟨(by first | exact r12 | (refine (r12).trans ?_; simp_all)), (r0.trans r0_.symm), (r3.trans r3_.symm), (r11.trans r11_.symm), rfl⟩
    · skip
      try simp only [tests] at hc2
      refine W.endR ?_
      refine WL.cons rfl (st_eql r11 uc ?_)
      refine WL.cons rfl (st_assign us ?_)
      refine WL.nil ?_
      exact ⟨(by first | exact us | (refine (us).trans ?_; simp_all)), ((un (un r0)).trans r0_.symm), ((un (un r3)).trans r3_.symm), ((un (un r11)).trans r11_.symm), rfl⟩
  intro ρ4 w2 ⟨q12, q0, q3, q11, hw⟩
  replace q0 := q0.trans r0
  replace q3 := q3.trans r3
  replace q11 := q11.trans r11
  clear r0 r11 r12 r3
  have r12 := q12; clear q12; have r0 := q0; clear q0; have r3 := q3; clear q3; have r11 := q11; clear q11
  subst hw
  refine W.cond r12 (fun hc3 => ?_) (fun hc3 => ?_)
  · skip
    try simp only [tests] at hc3
    have ho : opN k.op = 3 ∨ opN k.op = 4 := by simpa using hc3
    refine W.seqR ?_
    refine WL.cons rfl (st_move r0 ?_)
    refine WL.cons rfl (st_fieldAddr (f := 2) (k := 1) (un r3) Try.underlying33 rfl rfl Try.sizeOf29 ?_)
    refine WL.cons rfl (st_loadK Try.isAgg29 Try.sizeOf29 us (cells2 (B3.cell rfl) (B3.cell rfl)) rfl ?_)
    refine WL.cons rfl (st_fieldAddr (f := 1) (k := 0) (un (un (un r3))) Try.underlying33 rfl rfl Try.sizeOf3 ?_)
    refine WL.cons rfl (st_load1 Try.isAgg3 us (B3.cell rfl) ?_)
    refine WL.cons rfl (st_call3 ent29 (un (un (un (un us)))) (un (un us)) us (((take_ok _ h hk k.l k.i)).mono ?_))
    intro vt w3 ⟨u, hvt, ht⟩; subst hvt; replace ht := NetToX.ahead hu ht
    refine WL.cons rfl (st_extract us rfl ?_)
    refine WL.cons rfl (st_extract (un us) rfl ?_)
    refine WL.cons rfl (st_extract (un (un us)) rfl ?_)
    refine WL.cons rfl (st_assign (un (un us)) ?_)
    refine WL.cons rfl (st_assign (un (un us)) ?_)
    refine WL.cons rfl (st_assign (un (un us)) ?_)
    refine WL.nil ?_
    refine W.gen ?_; intro ρ5 hρ
    have q4 := (hρ 4).trans (un (un us)); have q5 := (hρ 5).trans (un us); have q6 := (hρ 6).trans us
    clear hρ r0 r11 r12 r3
    have r4 := q4; clear q4; have r5 := q5; clear q5; have r6 := q6; clear q6
    refine W.ret ?_
    refine fin3 r4 r5 r6 ?_
    have hd : s.does k = s.take k.l k.i := by unfold NetS.does; rw [if_pos ho]
    rw [hd]; exact ⟨_, rfl, ht⟩
  · skip
    try simp only [tests] at hc3
    have ho : ¬ (opN k.op = 3 ∨ opN k.op = 4) := by simpa using hc3
    refine W.seqR ?_
    refine WL.cons rfl (st_eql r11 uc ?_)
    refine WL.cons rfl (st_assign us ?_)
    refine WL.nil ?_
    refine W.gen ?_; intro ρ6 hρ
    have q0 := (hρ 0).trans (un (un r0)); have q3 := (hρ 3).trans (un (un r3)); have q11 := (hρ 11).trans (un (un r11)); have q24 := (hρ 24).trans us
    clear hρ r0 r11 r12 r3
    have r0 := q0; clear q0; have r3 := q3; clear q3; have r11 := q11; clear q11; have r24 := q24; clear q24
    refine W.cond r24 (fun hc5 => ?_) (fun hc5 => ?_)
    · skip
      try simp only [tests] at hc5
      refine W.seqR ?_
      refine WL.cons rfl (st_move r0 ?_)
      refine WL.cons rfl (st_fieldAddr (f := 2) (k := 1) (un r3) Try.underlying33 rfl rfl Try.sizeOf29 ?_)
      refine WL.cons rfl (st_loadK Try.isAgg29 Try.sizeOf29 us (cells2 (B3.cell rfl) (B3.cell rfl)) rfl ?_)
      refine WL.cons rfl (st_fieldAddr (f := 1) (k := 0) (un (un (un r3))) Try.underlying33 rfl rfl Try.sizeOf3 ?_)
      refine WL.cons rfl (st_load1 Try.isAgg3 us (B3.cell rfl) ?_)
      refine WL.cons rfl (st_call3 ent32 (un (un (un (un us)))) (un (un us)) us (((lose_ok _ h hk k.l k.i)).mono ?_))
      intro vt w4 ⟨hvt, ht⟩; subst hvt; replace ht := NetTo.ahead hu ht
      refine WL.cons rfl (st_assign uc ?_)
      refine WL.cons rfl (st_assign uc ?_)
      refine WL.cons rfl (st_assign (un (un us)) ?_)
      refine WL.nil ?_
      refine W.gen ?_; intro ρ7 hρ
      have q4 := (hρ 4).trans (un (un us)); have q5 := (hρ 5).trans (un us); have q6 := (hρ 6).trans us
      clear hρ r0 r11 r24 r3
      have r4 := q4; clear q4; have r5 := q5; clear q5; have r6 := q6; clear q6
      refine W.ret ?_
      refine fin3 r4 r5 r6 ?_
      have hd : s.does k = ((s.lose k.l k.i).1, none, (s.lose k.l k.i).2) := by unfold NetS.does; rw [if_neg ho, if_pos hc5]
      rw [hd]; exact ⟨_, rfl, ht.noRow⟩
    · skip
      try simp only [tests] at hc5
      refine W.seqR ?_
      refine WL.cons rfl (st_eql r11 uc ?_)
      refine WL.cons rfl (st_assign us ?_)
      refine WL.nil ?_
      refine W.gen ?_; intro ρ8 hρ
      have q0 := (hρ 0).trans (un (un r0)); have q3 := (hρ 3).trans (un (un r3)); have q11 := (hρ 11).trans (un (un r11)); have q32 := (hρ 32).trans us
      clear hρ r0 r11 r24 r3
      have r0 := q0; clear q0; have r3 := q3; clear q3; have r11 := q11; clear q11; have r32 := q32; clear q32
      refine W.cond r32 (fun hc7 => ?_) (fun hc7 => ?_)
      · skip
        try simp only [tests] at hc7
        refine W.seqR ?_
        refine WL.cons rfl (st_move r0 ?_)
        refine WL.cons rfl (st_fieldAddr (f := 2) (k := 1) (un r3) Try.underlying33 rfl rfl Try.sizeOf29 ?_)
        refine WL.cons rfl (st_loadK Try.isAgg29 Try.sizeOf29 us (cells2 (B3.cell rfl) (B3.cell rfl)) rfl ?_)
        refine WL.cons rfl (st_fieldAddr (f := 1) (k := 0) (un (un (un r3))) Try.underlying33 rfl rfl Try.sizeOf3 ?_)
        refine WL.cons rfl (st_load1 Try.isAgg3 us (B3.cell rfl) ?_)
        refine WL.cons rfl (st_call3 ent33 (un (un (un (un us)))) (un (un us)) us (((double_ok _ h hk k.l k.i)).mono ?_))
        intro vt w5 ⟨hvt, ht⟩; subst hvt; replace ht := NetTo.ahead hu ht
        refine WL.cons rfl (st_assign uc ?_)
        refine WL.cons rfl (st_assign uc ?_)
        refine WL.cons rfl (st_assign (un (un us)) ?_)
        refine WL.nil ?_
        refine W.gen ?_; intro ρ9 hρ
        have q4 := (hρ 4).trans (un (un us)); have q5 := (hρ 5).trans (un us); have q6 := (hρ 6).trans us
        clear hρ r0 r11 r3 r32
        have r4 := q4; clear q4; have r5 := q5; clear q5; have r6 := q6; clear q6
        refine W.ret ?_
        refine fin3 r4 r5 r6 ?_
        have hd : s.does k = ((s.double k.l k.i).1, none, (s.double k.l k.i).2) := by unfold NetS.does; rw [if_neg ho, if_neg hc5, if_pos hc7]
        rw [hd]; exact ⟨_, rfl, ht.noRow⟩
      · skip
        try simp only [tests] at hc7
        refine W.seqR ?_
        refine WL.cons rfl (st_eql r11 uc ?_)
        refine WL.cons rfl (st_assign us ?_)
        refine WL.nil ?_
        refine W.gen ?_; intro ρ10 hρ
        have q0 := (hρ 0).trans (un (un r0)); have q3 := (hρ 3).trans (un (un r3)); have q11 := (hρ 11).trans (un (un r11)); have q40 := (hρ 40).trans us
        clear hρ r0 r11 r3 r32
        have r0 := q0; clear q0; have r3 := q3; clear q3; have r11 := q11; clear q11; have r40 := q40; clear q40
        refine W.cond r40 (fun hc9 => ?_) (fun hc9 => ?_)
        · skip
          try simp only [tests] at hc9
          refine W.seqR ?_
          refine WL.cons rfl (st_move r0 ?_)
          refine WL.cons rfl (st_fieldAddr (f := 4) (k := 0) (un r3) Try.underlying33 rfl rfl Try.sizeOf31 ?_)
          refine WL.cons rfl (st_load1 Try.isAgg31 us (B3.cell rfl) ?_)
          refine WL.cons rfl (st_call2 ent30 (un (un us)) us (((wall_ok _ h k.side)).mono ?_))
          intro vt w6 ⟨hvt, ht⟩; subst hvt; replace ht := NetTo.ahead hu ht
          refine WL.cons rfl (st_assign uc ?_)
          refine WL.cons rfl (st_assign uc ?_)
          refine WL.cons rfl (st_assign (un (un us)) ?_)
          refine WL.nil ?_
          refine W.gen ?_; intro ρ11 hρ
          have q4 := (hρ 4).trans (un (un us)); have q5 := (hρ 5).trans (un us); have q6 := (hρ 6).trans us
          clear hρ r0 r11 r3 r40
          have r4 := q4; clear q4; have r5 := q5; clear q5; have r6 := q6; clear q6
          refine W.ret ?_
          refine fin3 r4 r5 r6 ?_
          have hd : s.does k = ({ s with side := k.side }, none, 0) := by unfold NetS.does; rw [if_neg ho, if_neg hc5, if_neg hc7, if_pos hc9]
          rw [hd]; exact ⟨_, rfl, ht.noRow⟩
        · skip
          try simp only [tests] at hc9
          refine W.seqR ?_
          refine WL.cons rfl (st_eql r11 uc ?_)
          refine WL.cons rfl (st_assign us ?_)
          refine WL.nil ?_
          refine W.gen ?_; intro ρ12 hρ
          have q0 := (hρ 0).trans (un (un r0)); have q3 := (hρ 3).trans (un (un r3)); have q46 := (hρ 46).trans us
          clear hρ r0 r11 r3 r40
          have r0 := q0; clear q0; have r3 := q3; clear q3; have r46 := q46; clear q46
          refine W.cond r46 (fun hc11 => ?_) (fun hc11 => ?_)
          · skip
            try simp only [tests] at hc11
            refine W.seqR ?_
            refine WL.cons rfl (st_move r0 ?_)
            refine WL.cons rfl (st_fieldAddr (f := 1) (k := 0) (un r3) Try.underlying33 rfl rfl Try.sizeOf3 ?_)
            refine WL.cons rfl (st_load1 Try.isAgg3 us (B3.cell rfl) ?_)
            refine WL.cons rfl (st_call2 ent34 (un (un us)) us (((forget_ok _ h k.i)).mono ?_))
            intro vt w7 ⟨hvt, ht⟩; subst hvt; replace ht := NetTo.ahead hu ht
            refine WL.cons rfl (st_assign uc ?_)
            refine WL.cons rfl (st_assign uc ?_)
            refine WL.cons rfl (st_assign (un (un us)) ?_)
            refine WL.nil ?_
            refine W.gen ?_; intro ρ13 hρ
            have q4 := (hρ 4).trans (un (un us)); have q5 := (hρ 5).trans (un us); have q6 := (hρ 6).trans us
            clear hρ r0 r3 r46
            have r4 := q4; clear q4; have r5 := q5; clear q5; have r6 := q6; clear q6
            refine W.ret ?_
            refine fin3 r4 r5 r6 ?_
            have hd : s.does k = (s.forget k.i, none, 0) := by unfold NetS.does; rw [if_neg ho, if_neg hc5, if_neg hc7, if_neg hc9, if_pos hc11]
            rw [hd]; exact ⟨_, rfl, ht.noRow⟩
          · skip
            try simp only [tests] at hc11
            refine W.skip ?_
            refine W.seqR ?_
            refine WL.cons rfl (st_move r0 ?_)
            refine WL.cons rfl (st_fieldAddr (f := 2) (k := 1) (un r3) Try.underlying33 rfl rfl Try.sizeOf29 ?_)
            refine WL.cons rfl (st_loadK Try.isAgg29 Try.sizeOf29 us (cells2 (B3.cell rfl) (B3.cell rfl)) rfl ?_)
            refine WL.cons rfl (st_fieldAddr (f := 3) (k := 0) (un (un (un r3))) Try.underlying33 rfl rfl Try.sizeOf30 ?_)
            refine WL.cons rfl (st_load1 Try.isAgg30 us (B3.cell rfl) ?_)
            refine WL.cons rfl (st_call3 ent28 (un (un (un (un us)))) (un (un us)) us (((send_ok _ h hk k.l hb)).mono ?_))
            intro vt w8 ⟨hvt, ht⟩; subst hvt; replace ht := NetTo.ahead hu ht
            refine WL.cons rfl (st_assign uc ?_)
            refine WL.cons rfl (st_assign uc ?_)
            refine WL.cons rfl (st_assign (un (un us)) ?_)
            refine WL.nil ?_
            refine W.gen ?_; intro ρ14 hρ
            have q4 := (hρ 4).trans (un (un us)); have q5 := (hρ 5).trans (un us); have q6 := (hρ 6).trans us
            clear hρ r0 r3 r46
            have r4 := q4; clear q4; have r5 := q5; clear q5; have r6 := q6; clear q6
            refine W.ret ?_
            refine fin3 r4 r5 r6 ?_
            have hd : s.does k = ((s.send k.l k.b).1, none, (s.send k.l k.b).2) := by unfold NetS.does; rw [if_neg ho, if_neg hc5, if_neg hc7, if_neg hc9, if_neg hc11]
            rw [hd]; exact ⟨_, rfl, ht.noRow⟩

end Go.Proofs.Ytppohfgaegahoaa
