/- Walk: LinksOnce. -/
import Derived.Test.YtppohfgaegahoaaLq
import Derived.Test.YtppohfgaegahoaaLr
import Derived.Test.YtppohfgaegahoaaLo
namespace Go.Proofs.Ytppohfgaegahoaa
open Go.Tw Go.RowKit
attribute [local irreducible] Step WL W WQ Does

theorem info22 : EInfo Try.prog 22 (.slice none 0 0) 1 24 := by unfold EInfo; kernel_rfl
theorem RDos.mono0 {S : Nat → Prop} {w : World} {v : Value} {ks : List DoS} (h : RDos S w v ks) : RDos AnyB w v ks := by
  obtain ⟨vbs, h1, h2⟩ := h
  exact ⟨vbs, h1.mono (fun _ _ _ => trivial) (by omega), All2.imp h2 fun _ _ _ _ h => h.mono fun _ _ _ => trivial⟩
theorem RDos.inside {S : Nat → Prop} {w : World} {v : Value} {ks : List DoS} (h : RDos S w v ks) : RDos (fun b => b < w.heap.size) w v ks := by
  obtain ⟨vbs, h1, h2⟩ := h
  exact ⟨vbs, h1.mono (fun _ h _ => h) (by omega), All2.imp h2 fun _ _ _ _ h => h.mono fun _ h _ => h⟩

/-- towline towlinelaw04.LinksOnce -/
theorem once_walk {v : Value} (l : List DoS) (w : World) (hv : RDos (fun b => b < w.heap.size) w v l) (hn : l.length ≤ 9223372036854775807) : Does Try.prog 3 #[v] w (fun v' w' => v' = .bool true ∧ Up w w') := by
  obtain ⟨o, cap, hv0⟩ := hv.shape
  refine fn_of_W (rs := [2]) (N := 102) Try.func3 rfl rfl rfl (by simp) ?_
  intro ρ0 hρ0
  have r0 : ev ρ0 (.tmp 0) = v := hρ0 0
  clear hρ0
  have hu := Up.refl w
  subst hv0
  refine W.seqR ?_
  refine WL.cons rfl (st_assign uc ?_)
  refine WL.nil ?_
  refine W.gen ?_; intro ρ1 hρ
  have q0 := (hρ 0).trans (un r0)
  clear hρ r0
  have r0 := q0; clear q0
  refine W.seq ?_
  refine W.seqR ?_
  refine WL.cons rfl (st_move r0 ?_)
  refine WL.cons rfl (st_build1 us Try.underlying70 info22 rfl rfl ?_)
  intro b1 w1 m1; have hrl : RL AnyB w1 _ [l] := ⟨_, made_sl (cells := [_]) m1 rfl trivial, ((hv.mono0).up m1.up), trivial⟩; replace hu := hu.trans m1.up; clear m1
  refine WL.cons rfl (st_call1 ent10 us (((short_ok [l] _ hrl (by simp) (by simpa using hn))).mono ?_))
  intro vs w2 ⟨t, hvs, us1⟩; subst hvs; replace hu := hu.trans us1; clear hrl us1
  refine WL.cons rfl (st_not us ?_)
  refine WL.nil ?_
  refine W.gen ?_; intro ρ2 hρ
  have q0 := (hρ 0).trans (un (un (un (un r0)))); have q17 := (hρ 17).trans us
  clear hρ r0
  have r0 := q0; clear q0; have r17 := q17; clear q17
  refine W.cond r17 (fun hc1 => ?_) (fun hc1 => ?_)
  · skip
    try simp only [tests] at hc1
    refine W.seqR ?_
    refine WL.cons rfl (st_call0 ent11  (((awake_ok _)).mono ?_))
    intro va w3 ⟨hva, ua⟩; subst hva; replace hu := hu.trans ua
    refine WL.cons rfl (st_assign us ?_)
    refine WL.nil ?_
    refine W.gen ?_; intro ρ3 hρ
    have q2 := (hρ 2).trans us
    clear hρ r0 r17
    have r2 := q2; clear q2
    refine W.ret ?_
    refine fin1 r2 ?_
    exact ⟨rfl, hu⟩
  · skip
    try simp only [tests] at hc1
    refine W.skip ?_
    refine W.seqR ?_
    refine WL.cons rfl (st_call0 ent12  (((new_ok _)).mono ?_))
    intro vn w4 ⟨bn, bm, hvn, hbn, hbm, uN, h⟩; subst hvn; have hsN := hu.size; replace hu := hu.trans uN; have hnl := h.blk.lt; have hml := h.map.lt; replace hbn : w.heap.size ≤ bn := by omega
    replace hbm : w.heap.size ≤ bm := by omega
    refine WL.cons rfl (st_assign us ?_)
    refine WL.nil ?_
    refine W.gen ?_; intro ρ4 hρ
    have q0 := (hρ 0).trans (un (un r0)); have q3 := (hρ 3).trans us
    clear hρ r0 r17
    have r0 := q0; clear q0; have r3 := q3; clear q3
    refine W.seqR ?_
    refine WL.cons rfl (st_makeMap ?_)
    intro bc w5 mc; have hcc := mc.blk; have hca := mc.at_; replace h := h.up mc.up; have hsC := hu.size; replace hu := hu.trans mc.up; have hbc : w.heap.size ≤ bc := by omega
    refine WL.cons rfl (st_assign us ?_)
    
    refine WL.nil ?_
    refine W.gen ?_; intro ρ5 hρ
    have q0 := (hρ 0).trans (un (un r0)); have q3 := (hρ 3).trans (un (un r3)); have q4 := (hρ 4).trans us
    clear hρ r0 r3
    have r0 := q0; clear q0; have r3 := q3; clear q3; have r4 := q4; clear q4
    refine W.seq ?_
    have hnc : bn ≠ bc := by omega
    have hmc : bm ≠ bc := by omega
    refine W.seqR ?_
    refine WL.cons rfl (st_move r0 ?_)
    refine WL.cons rfl (st_lenS us Try.underlying22 ?_)
    refine WL.cons rfl (st_move uc ?_)
    refine WL.nil ?_
    refine W.gen ?_; intro ρ6 hρ
    have q3 := (hρ 3).trans (un (un (un r3))); have q4 := (hρ 4).trans (un (un (un r4))); have q21 := (hρ 21).trans (un (un us)); have q22 := (hρ 22).trans (un us)
    have q23 := (hρ 23).trans us
    clear hρ r0 r3 r4
    have r3 := q3; clear q3; have r4 := q4; clear q4; have r21 := q21; clear q21; have r22 := q22; clear q22; have r23 := q23; clear q23
    refine W.block ?_
    refine W.loop (fun nn ρ' w' => ∃ i : Nat, ev ρ' (.tmp 23) = .int .i64 (i : Int) ∧ ev ρ' (.tmp 3) = ev ρ6 (.tmp 3) ∧ ev ρ' (.tmp 4) = ev ρ6 (.tmp 4) ∧ ev ρ' (.tmp 21) = ev ρ6 (.tmp 21) ∧ ev ρ' (.tmp 22) = ev ρ6 (.tmp 22) ∧ i + nn = l.length ∧ LoopO w bn bm bc i w') (l.length) ?_ ?_
    · exact ⟨0, (by first | exact r23 | (refine r23.trans ?_; congr 1; omega) | (refine r23.trans ?_; simp)), rfl, rfl, rfl, rfl, by omega, ⟨hu, _, _, _, h, netOk_new, MapR.made hcc, fun e => e, Inv.new⟩⟩
    intro nn ρ7 w6 ⟨i, q23, q3, q4, q21, q22, hi, hL⟩
    have s3 := q3; replace q3 := q3.trans r3
    have s4 := q4; replace q4 := q4.trans r4
    have s21 := q21; replace q21 := q21.trans r21
    have s22 := q22; replace q22 := q22.trans r22
    clear r21 r22 r23 r3 r4
    have r23 := q23; clear q23; have r3 := q3; clear q3; have r4 := q4; clear q4; have r21 := q21; clear q21; have r22 := q22; clear q22
    obtain ⟨hu, Sx, s, c, h, hk, hc, hSc, hI⟩ := hL
    have x0_3 := s3.symm.trans r3; clear s3
    have x0_4 := s4.symm.trans r4; clear s4
    have x0_21 := s21.symm.trans r21; clear s21
    have x0_22 := s22.symm.trans r22; clear s22
    refine W.seqR ?_
    refine WL.cons rfl (st_lss r23 r22 ?_)
    refine WL.nil ?_
    refine W.gen ?_; intro ρ8 hρ
    have q3 := (hρ 3).trans (un r3); have q4 := (hρ 4).trans (un r4); have q21 := (hρ 21).trans (un r21); have q22 := (hρ 22).trans (un r22)
    have q23 := (hρ 23).trans (un r23); have q24 := (hρ 24).trans us
    clear hρ r21 r22 r23 r3 r4
    have r3 := q3; clear q3; have r4 := q4; clear q4; have r21 := q21; clear q21; have r22 := q22; clear q22; have r23 := q23; clear q23; have r24 := q24; clear q24
    refine W.seq ?_
    refine W.cond r24 (fun hc6 => ?_) (fun hc6 => ?_)
    · skip
      try simp only [tests] at hc6
      obtain ⟨kb, koff, k, vb, rfl, hkk, hcs, hvb⟩ := (hv.up hu).at (j := i) (by omega)
      have hbl := h.blk.lt; have hmll := h.map.lt; have hcl := hc.lt
      refine W.skip ?_
      refine W.seq ?_
      refine W.block ?_
      refine W.seqR ?_
      refine WL.cons rfl (st_indexAddrS r21 r23 Try.underlying22 Try.sizeOf33 (by omega) (by omega) ?_)
      refine WL.cons rfl (st_loadK Try.isAgg33 Try.sizeOf33 us (hcs) rfl ?_)
      refine WL.allocStore (v := .agg (doCells k vb).toArray) rfl (fun _ => un us) Try.zeroValue33 Try.sizeOf33 rfl (by first | rfl | kernel_rfl) (by first | exact ekL_one _ | exact do_one hvb _ | exact ekS_one _ | simp [Value.cells, Value.oneCell']) ?_
      intro b6 w7 m6; have B6 := m6.blk
      replace h := h.up m6.up
      replace hc := hc.up m6.up
      replace hu := hu.trans m6.up
      replace hvb := hvb.up m6.up; have a6 := m6.at_; clear m6
      refine WL.nil ?_
      refine W.gen ?_; intro ρ9 hρ
      have q3 := (hρ 3).trans (un0 (un (un (un r3)))); have q4 := (hρ 4).trans (un0 (un (un (un r4)))); have q6 := (hρ 6).trans (un0 us); have q21 := (hρ 21).trans (un0 (un (un (un r21))))
      have q22 := (hρ 22).trans (un0 (un (un (un r22)))); have q23 := (hρ 23).trans (un0 (un (un (un r23))))
      clear hρ r21 r22 r23 r24 r3 r4
      have r3 := q3; clear q3; have r4 := q4; clear q4; have r6 := q6; clear q6; have r21 := q21; clear q21; have r22 := q22; clear q22; have r23 := q23; clear q23
      refine W.seqR ?_
      refine WL.cons rfl (st_move r3 ?_)
      refine WL.cons rfl (st_loadK Try.isAgg33 Try.sizeOf33 (un r6) (B6.row) rfl ?_)
      refine WL.cons rfl (st_call2 ent13 (un us) us (((does_ok _ h hk k hvb)).mono ?_))
      intro vd w8 ⟨u, hvd, htx⟩; subst hvd
      obtain ⟨hfr, S2, h2, hS2, hru⟩ := htx
      have hsz2 := hc.lt
      replace hu := (Frm.trans' (X := NoB) hu.frm hfr fun i hi he => by rcases he with e | e <;> omega).up
      replace B6 := B6.frm hfr (fun e => by rcases e with e | e <;> omega)
      replace hvb := hvb.frm hfr (fun b hb he => by have hb : b < w.heap.size := hb; rcases he with e | e <;> omega)
      replace hc := hc.frm hfr (fun e => by rcases e with e | e <;> omega)
      have hSc2 : ¬ S2 bc := fun hs => by rcases hS2 bc hs with h | h; exact hSc h; omega
      clear h hfr; have h := h2; clear h2; have hk2 := hk.does k
      refine WL.cons rfl (st_move us ?_)
      refine WL.cons rfl (st_extract us rfl ?_)
      refine WL.cons rfl (st_extract (un us) rfl ?_)
      refine WL.cons rfl (st_extract (un (un us)) rfl ?_)
      refine WL.cons rfl (st_assign (un (un us)) ?_)
      refine WL.cons rfl (st_assign (un (un us)) ?_)
      refine WL.cons rfl (st_assign (un (un us)) ?_)
      refine WL.nil ?_
      refine W.gen ?_; intro ρ10 hρ
      have q3 := (hρ 3).trans (un (un (un (un (un (un (un (un (un (un r3)))))))))); have q4 := (hρ 4).trans (un (un (un (un (un (un (un (un (un (un r4)))))))))); have q6 := (hρ 6).trans (un (un (un (un (un (un (un (un (un (un r6)))))))))); have q7 := (hρ 7).trans (un (un us))
      have q8 := (hρ 8).trans (un us); have q9 := (hρ 9).trans us; have q21 := (hρ 21).trans (un (un (un (un (un (un (un (un (un (un r21)))))))))); have q22 := (hρ 22).trans (un (un (un (un (un (un (un (un (un (un r22))))))))))
      have q23 := (hρ 23).trans (un (un (un (un (un (un (un (un (un (un r23))))))))))
      clear hρ r21 r22 r23 r3 r4 r6
      have r3 := q3; clear q3; have r4 := q4; clear q4; have r6 := q6; clear q6; have r7 := q7; clear q7; have r8 := q8; clear q8; have r9 := q9; clear q9; have r21 := q21; clear q21; have r22 := q22; clear q22; have r23 := q23; clear q23
      refine W.seqR ?_
      refine WL.cons rfl (st_fieldAddr (f := 0) (k := 0) r6 Try.underlying33 rfl rfl Try.sizeOf3 ?_)
      refine WL.cons rfl (st_load1 Try.isAgg3 us (B6.cell rfl) ?_)
      refine WL.cons rfl (st_conv us Try.underlying3 Try.underlying37 rfl ?_)
      refine WL.cons rfl (st_rem us uc (by omega) rfl ?_)
      refine WL.cons rfl (st_conv us Try.underlying37 Try.underlying3 (show _ = opN k.op from rfl) ?_)
      refine WL.cons rfl (st_assign us ?_)
      refine WL.nil ?_
      refine W.gen ?_; intro ρ11 hρ
      have q3 := (hρ 3).trans (un (un (un (un (un (un r3)))))); have q4 := (hρ 4).trans (un (un (un (un (un (un r4)))))); have q6 := (hρ 6).trans (un (un (un (un (un (un r6)))))); have q7 := (hρ 7).trans (un (un (un (un (un (un r7))))))
      have q8 := (hρ 8).trans (un (un (un (un (un (un r8)))))); have q9 := (hρ 9).trans (un (un (un (un (un (un r9)))))); have q10 := (hρ 10).trans us; have q21 := (hρ 21).trans (un (un (un (un (un (un r21))))))
      have q22 := (hρ 22).trans (un (un (un (un (un (un r22)))))); have q23 := (hρ 23).trans (un (un (un (un (un (un r23))))))
      clear hρ r21 r22 r23 r3 r4 r6 r7 r8 r9
      have r3 := q3; clear q3; have r4 := q4; clear q4; have r6 := q6; clear q6; have r7 := q7; clear q7; have r8 := q8; clear q8; have r9 := q9; clear q9; have r10 := q10; clear q10; have r21 := q21; clear q21; have r22 := q22; clear q22; have r23 := q23; clear q23
      refine W.block ?_
      refine W.seqR ?_
      refine WL.cons rfl (st_move r10 ?_)
      refine WL.cons rfl (st_lss us uc ?_)
      refine WL.cons rfl (st_move us ?_)
      apply WL.seg0 2 (t := 42) (x := 44) (want := true) us rfl
      · intro hg42
        refine WL.guardY rfl (us.trans (by rw [hg42])) rfl (st_move (un (un (un r9))) ?_)
        refine WL.guardY rfl ((un us).trans (by rw [hg42])) rfl (st_eql us uc ?_)
        exact WL.nil ⟨(ag (ag ag0)), us, rfl⟩
      intro ρ12 hag hx42
      have q3 := (hag 3 rfl).trans (un (un (un r3))); have q4 := (hag 4 rfl).trans (un (un (un r4))); have q6 := (hag 6 rfl).trans (un (un (un r6))); have q7 := (hag 7 rfl).trans (un (un (un r7)))
      have q8 := (hag 8 rfl).trans (un (un (un r8))); have q9 := (hag 9 rfl).trans (un (un (un r9))); have q10 := (hag 10 rfl).trans (un (un (un r10))); have q21 := (hag 21 rfl).trans (un (un (un r21)))
      have q22 := (hag 22 rfl).trans (un (un (un r22))); have q23 := (hag 23 rfl).trans (un (un (un r23))); have q42 := (hag 42 rfl).trans us
      clear hag r10 r21 r22 r23 r3 r4 r6 r7 r8 r9
      have r3 := q3; clear q3; have r4 := q4; clear q4; have r6 := q6; clear q6; have r7 := q7; clear q7; have r8 := q8; clear q8; have r9 := q9; clear q9; have r10 := q10; clear q10; have r21 := q21; clear q21; have r22 := q22; clear q22; have r23 := q23; clear q23; have r42 := q42; clear q42
      refine WL.cons rfl (st_and r42 hx42 uc ?_)
      refine WL.cons rfl (st_assign us ?_)
      refine WL.nil ?_
      refine W.gen ?_; intro ρ13 hρ
      have q3 := (hρ 3).trans (un (un r3)); have q4 := (hρ 4).trans (un (un r4)); have q6 := (hρ 6).trans (un (un r6)); have q7 := (hρ 7).trans (un (un r7))
      have q8 := (hρ 8).trans (un (un r8)); have q9 := (hρ 9).trans (un (un r9)); have q10 := (hρ 10).trans (un (un r10)); have q21 := (hρ 21).trans (un (un r21))
      have q22 := (hρ 22).trans (un (un r22)); have q23 := (hρ 23).trans (un (un r23)); have q39 := (hρ 39).trans us
      clear hρ r10 r21 r22 r23 r3 r4 r42 r6 r7 r8 r9
      have r3 := q3; clear q3; have r4 := q4; clear q4; have r6 := q6; clear q6; have r7 := q7; clear q7; have r8 := q8; clear q8; have r9 := q9; clear q9; have r10 := q10; clear q10; have r21 := q21; clear q21; have r22 := q22; clear q22; have r23 := q23; clear q23; have r39 := q39; clear q39
      refine W.cond r39 (fun hc10 => ?_) (fun hc10 => ?_)
      · skip
        try simp only [tests] at hc10
        have ho : opN k.op < 3 ∧ (s.does k).2.2 = 0 := by simpa using hc10
        have hI2 := inv_send hI ho.1 ho.2
        have hhalf : Half ekS bc c (k.l, k.b) w8 := .inl hc
        have hp := hI.pos (k.l, k.b)
        have nb6 : ¬ b6 = bc := by omega
        refine W.drawR (T := HalfT ekS bc c (k.l, k.b)) turns_half mixed 11 [fun v _ => v = .map (some bc), fun v _ => v = .pointer (some ⟨b6, 2, none⟩), fun v _ => v = ekL k.l, fun v _ => v = .pointer (some ⟨b6, 4, none⟩), fun v _ => v = vb, fun v _ => v = .string ⟨k.b.toArray⟩, fun v _ => v = ekS (k.l, k.b), fun v _ => v = .int .i64 (cg c (k.l, k.b)), fun v _ => v = .int .i64 (cg c (k.l, k.b) + 1), fun v w' => ∃ u e, v = .tuple #[u, .int .i64 e] ∧ EntAt w' bc ekS RI (aset c (k.l, k.b) (cg c (k.l, k.b))) (k.l, k.b) e, fun v w' => ∃ e, v = .int .i64 e ∧ EntAt w' bc ekS RI (aset c (k.l, k.b) (cg c (k.l, k.b))) (k.l, k.b) e] (by kernel_rfl) rfl ?_ ?_ ?_
        · simp only [List.forall_mem_cons]
          refine ⟨fun _ _ _ _ h _ => h, fun _ _ _ _ h _ => h, fun _ _ _ _ h _ => h, fun _ _ _ _ h _ => h, fun _ _ _ _ h _ => h, fun _ _ _ _ h _ => h, fun _ _ _ _ h _ => h, fun _ _ _ _ h _ => h, fun _ _ _ _ h _ => h, ?_, ?_, by simp⟩
          · intro v wa wb _ hf ht; obtain ⟨u, e, h1, h2⟩ := hf; exact ⟨u, e, h1, ht.2.2 e h2⟩
          · intro v wa wb _ hf ht; obtain ⟨e, h1, h2⟩ := hf; exact ⟨e, h1, ht.2.2 e h2⟩
        · intro ii o ho ρ' w' hq hout hF
          match ii, ho, hF with
          | 0, ho, hF =>
            obtain rfl := Option.some.inj ho
            change Step _ _ ρ' w' _
            have s4 := (show ev ρ' (.tmp 4) = _ from hout 4 (by decide)).trans r4
            exact st_move s4 ⟨rfl, turns_half.refl _⟩
          | 1, ho, hF =>
            obtain rfl := Option.some.inj ho
            change Step _ _ ρ' w' _
            have s6 := (show ev ρ' (.tmp 6) = _ from hout 6 (by decide)).trans r6
            exact st_fieldAddr (f := 2) (k := 1) s6 Try.underlying33 rfl rfl Try.sizeOf29 ⟨rfl, turns_half.refl _⟩
          | 2, ho, hF =>
            obtain rfl := Option.some.inj ho
            change Step _ _ ρ' w' _
            have s47 : ev ρ' (.tmp 47) = .pointer (some ⟨b6, 2, none⟩) := hF 1 _ rfl (by kernel_rfl)
            exact st_loadK Try.isAgg29 Try.sizeOf29 s47 (cells2 ((B6.frm hq.1 nb6).cell rfl) ((B6.frm hq.1 nb6).cell rfl)) rfl ⟨rfl, turns_half.refl _⟩
          | 3, ho, hF =>
            obtain rfl := Option.some.inj ho
            change Step _ _ ρ' w' _
            have s6 := (show ev ρ' (.tmp 6) = _ from hout 6 (by decide)).trans r6
            exact st_fieldAddr (f := 3) (k := 0) s6 Try.underlying33 rfl rfl Try.sizeOf30 ⟨rfl, turns_half.refl _⟩
          | 4, ho, hF =>
            obtain rfl := Option.some.inj ho
            change Step _ _ ρ' w' _
            have s49 : ev ρ' (.tmp 49) = .pointer (some ⟨b6, 4, none⟩) := hF 3 _ rfl (by kernel_rfl)
            exact st_load1 Try.isAgg30 s49 ((B6.frm hq.1 nb6).cell rfl) ⟨rfl, turns_half.refl _⟩
          | 5, ho, hF =>
            obtain rfl := Option.some.inj ho
            change Step _ _ ρ' w' _
            have s50 : ev ρ' (.tmp 50) = vb := hF 4 _ rfl (by kernel_rfl)
            exact st_string s50 (hvb.frm hq.1 fun b hb e => by have e : b = bc := e; have hb : b < w.heap.size := hb; omega) Try.underlying30 Try.underlying5 Try.underlying9 ⟨rfl, turns_half.refl _⟩
          | 6, ho, hF =>
            obtain rfl := Option.some.inj ho
            change Step _ _ ρ' w' _
            have s48 : ev ρ' (.tmp 48) = ekL k.l := hF 2 _ rfl (by kernel_rfl)
            have s51 : ev ρ' (.tmp 51) = .string ⟨k.b.toArray⟩ := hF 5 _ rfl (by kernel_rfl)
            exact st_buildP2 (v := .agg #[.int .i64 k.l.1, .int .i64 k.l.2, .string ⟨k.b.toArray⟩]) s48 s51 (fun w => by kernel_rfl) ⟨rfl, turns_half.refl _⟩
          | 7, ho, hF =>
            obtain rfl := Option.some.inj ho
            change Step _ _ ρ' w' _
            have s46 : ev ρ' (.tmp 46) = .map (some bc) := hF 0 _ rfl (by kernel_rfl)
            have s52 : ev ρ' (.tmp 52) = ekS (k.l, k.b) := hF 6 _ rfl (by kernel_rfl)
            exact st_lookHalf s46 s52 keyS Try.underlying27 Try.zeroValue3 (hq.2.1 hhalf) ⟨rfl, turns_half.refl _⟩
          | 8, ho, hF =>
            obtain rfl := Option.some.inj ho
            change Step _ _ ρ' w' _
            have s53 : ev ρ' (.tmp 53) = .int .i64 (cg c (k.l, k.b)) := hF 7 _ rfl (by kernel_rfl)
            exact st_add s53 uc (wr64 (by omega)) ⟨rfl, turns_half.refl _⟩
          | 9, ho, hF =>
            obtain rfl := Option.some.inj ho
            change Step _ _ ρ' w' _
            have s46 : ev ρ' (.tmp 46) = .map (some bc) := hF 0 _ rfl (by kernel_rfl)
            have s52 : ev ρ' (.tmp 52) = ekS (k.l, k.b) := hF 6 _ rfl (by kernel_rfl)
            exact st_entryHalf s46 s52 keyS Try.underlying27 Try.zeroValue3 (hq.2.1 hhalf) fun u e w2 he ht => ⟨⟨u, e, rfl, he⟩, ht⟩
          | 10, ho, hF =>
            obtain rfl := Option.some.inj ho
            change Step _ _ ρ' w' _
            have f9 := hF 9 _ rfl (by kernel_rfl)
            have s55 : ev ρ' (.tmp 55) = ρ' 55 := rfl
            obtain ⟨u, e, hv, he⟩ := f9
            exact st_extract (show ev ρ' (.tmp 55) = _ from hv) rfl ⟨⟨e, rfl, he⟩, turns_half.refl _⟩
          | q + 11, ho, _ => have h1 := (List.getElem?_eq_some_iff.1 ho).1; have h2 := Nat.lt_of_lt_of_le h1 (List.length_take_le _ _); omega
        intro ρ14 w9 hq11 hout hF
        have q3 := (show ev ρ14 (.tmp 3) = _ from hout 3 (by decide)).trans r3
        have q4 := (show ev ρ14 (.tmp 4) = _ from hout 4 (by decide)).trans r4
        have q21 := (show ev ρ14 (.tmp 21) = _ from hout 21 (by decide)).trans r21
        have q22 := (show ev ρ14 (.tmp 22) = _ from hout 22 (by decide)).trans r22
        have q23 := (show ev ρ14 (.tmp 23) = _ from hout 23 (by decide)).trans r23
        have q46 : ev ρ14 (.tmp 46) = .map (some bc) := hF 0 _ rfl
        have q54 : ev ρ14 (.tmp 54) = .int .i64 (cg c (k.l, k.b) + 1) := hF 8 _ rfl
        have f10 := hF 10 _ rfl
        have q56 : ev ρ14 (.tmp 56) = ρ14 56 := rfl
        clear hout hF r10 r21 r22 r23 r3 r39 r4 r6 r7 r8 r9
        have r3 := q3; clear q3
        have r4 := q4; clear q4
        have r21 := q21; clear q21
        have r22 := q22; clear q22
        have r23 := q23; clear q23
        have r46 := q46; clear q46
        have r54 := q54; clear q54
        have r56 := q56; clear q56
        obtain ⟨e11, he11, hEnt⟩ := f10; have r56 := (show ev _ (.tmp 56) = .int .i64 e11 from he11)
        have hqX := hq11; clear hq11
        refine WL.cons rfl (st_entryStore (ek := ekS) (a := (k.l, k.b)) (u := cg c (k.l, k.b) + 1) r46 r56 r54 keyS hEnt rfl ?_)
        intro w10 hmp hfe _ _
        rw [aset_aset] at hmp
        have hfc := hqX.1.trans hfe; clear hqX hfe hEnt
        replace h := h.frm hfc (fun e => by have e : bn = bc := e; omega) (fun e => by have e : bm = bc := e; omega) (fun b hb e => by have e : b = bc := e; rw [e] at hb; exact hSc2 hb)
        replace hu := (Frm.trans' (X := NoB) hu.frm hfc fun i hi he => by have he : i = bc := he; omega).up
        replace B6 := B6.frm hfc nb6
        refine WL.nil ?_
        have hnx : LoopO w bn bm bc (i + 1) w10 := ⟨hu, _, _, _, h, hk2, hmp, hSc2, hI2⟩
        refine W.endR ?_
        refine WL.cons rfl (st_add (un0 r23) uc (wr64 (by omega)) ?_)
        refine WL.cons rfl (st_move us ?_)
        refine WL.nil ?_
        exact ⟨nn - 1, (by omega), i + 1, (by first | exact us | (refine us.trans ?_; congr 1; omega) | (refine us.trans ?_; simp)), ((un (un (un0 r3))).trans x0_3.symm), ((un (un (un0 r4))).trans x0_4.symm), ((un (un (un0 r21))).trans x0_21.symm), ((un (un (un0 r22))).trans x0_22.symm), by omega, hnx⟩
      · skip
        try simp only [tests] at hc10
        have hn1 : ¬ (opN k.op < 3 ∧ (s.does k).2.2 = 0) := by simpa using hc10
        refine W.seqR ?_
        refine WL.cons rfl (st_move r10 ?_)
        refine WL.cons rfl (st_eql us uc ?_)
        refine WL.cons rfl (st_move us ?_)
        apply WL.seg0 2 (t := 60) (x := 62) (want := true) us rfl
        · intro hg60
          refine WL.guardY rfl (us.trans (by rw [hg60])) rfl (st_move (un (un (un r9))) ?_)
          refine WL.guardY rfl ((un us).trans (by rw [hg60])) rfl (st_eql us uc ?_)
          exact WL.nil ⟨(ag (ag ag0)), us, rfl⟩
        intro ρ15 hag hx60
        have q3 := (hag 3 rfl).trans (un (un (un r3))); have q4 := (hag 4 rfl).trans (un (un (un r4))); have q6 := (hag 6 rfl).trans (un (un (un r6))); have q7 := (hag 7 rfl).trans (un (un (un r7)))
        have q8 := (hag 8 rfl).trans (un (un (un r8))); have q21 := (hag 21 rfl).trans (un (un (un r21))); have q22 := (hag 22 rfl).trans (un (un (un r22))); have q23 := (hag 23 rfl).trans (un (un (un r23)))
        have q60 := (hag 60 rfl).trans us
        clear hag r10 r21 r22 r23 r3 r39 r4 r6 r7 r8 r9
        have r3 := q3; clear q3; have r4 := q4; clear q4; have r6 := q6; clear q6; have r7 := q7; clear q7; have r8 := q8; clear q8; have r21 := q21; clear q21; have r22 := q22; clear q22; have r23 := q23; clear q23; have r60 := q60; clear q60
        refine WL.cons rfl (st_and r60 hx60 uc ?_)
        refine WL.cons rfl (st_assign us ?_)
        refine WL.nil ?_
        refine W.gen ?_; intro ρ16 hρ
        have q3 := (hρ 3).trans (un (un r3)); have q4 := (hρ 4).trans (un (un r4)); have q6 := (hρ 6).trans (un (un r6)); have q7 := (hρ 7).trans (un (un r7))
        have q8 := (hρ 8).trans (un (un r8)); have q21 := (hρ 21).trans (un (un r21)); have q22 := (hρ 22).trans (un (un r22)); have q23 := (hρ 23).trans (un (un r23))
        have q57 := (hρ 57).trans us
        clear hρ r21 r22 r23 r3 r4 r6 r60 r7 r8
        have r3 := q3; clear q3; have r4 := q4; clear q4; have r6 := q6; clear q6; have r7 := q7; clear q7; have r8 := q8; clear q8; have r21 := q21; clear q21; have r22 := q22; clear q22; have r23 := q23; clear q23; have r57 := q57; clear q57
        refine W.cond r57 (fun hc12 => ?_) (fun hc12 => ?_)
        · skip
          try simp only [tests] at hc12
          have ho2 : opN k.op = 6 ∧ (s.does k).2.2 = 0 := by simpa using hc12
          obtain ⟨hab, hI2⟩ := inv_double hI ho2.1 ho2.2
          refine W.seqR ?_
          refine WL.cons rfl (st_move r3 ?_)
          refine WL.cons rfl (st_fieldAddr (f := 2) (k := 1) (un r6) Try.underlying33 rfl rfl Try.sizeOf29 ?_)
          refine WL.cons rfl (st_loadK Try.isAgg29 Try.sizeOf29 us (cells2 (B6.cell rfl) (B6.cell rfl)) rfl ?_)
          refine WL.cons rfl (st_fieldAddr (f := 1) (k := 0) (un (un (un r6))) Try.underlying33 rfl rfl Try.sizeOf3 ?_)
          refine WL.cons rfl (st_load1 Try.isAgg3 us (B6.cell rfl) ?_)
          refine WL.cons rfl (st_call3 ent14 (un (un (un (un us)))) (un (un us)) us (((peek_ok _ h hk2 k.l k.i)).mono ?_))
          intro vp w11 ⟨x, hvp, uP, hrx⟩; rw [if_pos hab] at hvp hrx; subst hvp; have hszc := hc.lt; replace hvb := hvb.up uP
          replace h := h.up uP
          replace hc := hc.up uP
          replace B6 := B6.up uP
          replace hu := hu.trans uP
          refine WL.cons rfl (st_move us ?_)
          refine WL.cons rfl (st_extract us rfl ?_)
          refine WL.cons rfl (st_extract (un us) rfl ?_)
          refine WL.cons rfl (st_assign (un us) ?_)
          refine WL.cons rfl (st_assign (un us) ?_)
          refine WL.nil ?_
          refine W.gen ?_; intro ρ17 hρ
          have q3 := (hρ 3).trans (un (un (un (un (un (un (un (un (un (un (un r3))))))))))); have q4 := (hρ 4).trans (un (un (un (un (un (un (un (un (un (un (un r4))))))))))); have q6 := (hρ 6).trans (un (un (un (un (un (un (un (un (un (un (un r6))))))))))); have q11 := (hρ 11).trans (un us)
          have q21 := (hρ 21).trans (un (un (un (un (un (un (un (un (un (un (un r21))))))))))); have q22 := (hρ 22).trans (un (un (un (un (un (un (un (un (un (un (un r22))))))))))); have q23 := (hρ 23).trans (un (un (un (un (un (un (un (un (un (un (un r23)))))))))))
          clear hρ r21 r22 r23 r3 r4 r57 r6 r7 r8
          have r3 := q3; clear q3; have r4 := q4; clear q4; have r6 := q6; clear q6; have r11 := q11; clear q11; have r21 := q21; clear q21; have r22 := q22; clear q22; have r23 := q23; clear q23
          have hhalf : Half ekS bc c (k.l, ((s.does k).1.q k.l).getD k.i.toNat []) w11 := .inl hc
          have hp := hI.pos (k.l, ((s.does k).1.q k.l).getD k.i.toNat [])
          have nb6 : ¬ b6 = bc := by omega
          refine W.drawR (T := HalfT ekS bc c (k.l, ((s.does k).1.q k.l).getD k.i.toNat [])) turns_half mixed 10 [fun v _ => v = .map (some bc), fun v _ => v = .pointer (some ⟨b6, 2, none⟩), fun v _ => v = ekL k.l, fun v _ => v = x, fun v _ => v = .string ⟨(((s.does k).1.q k.l).getD k.i.toNat []).toArray⟩, fun v _ => v = ekS (k.l, ((s.does k).1.q k.l).getD k.i.toNat []), fun v _ => v = .int .i64 (cg c (k.l, ((s.does k).1.q k.l).getD k.i.toNat [])), fun v _ => v = .int .i64 (cg c (k.l, ((s.does k).1.q k.l).getD k.i.toNat []) + 1), fun v w' => ∃ u e, v = .tuple #[u, .int .i64 e] ∧ EntAt w' bc ekS RI (aset c (k.l, ((s.does k).1.q k.l).getD k.i.toNat []) (cg c (k.l, ((s.does k).1.q k.l).getD k.i.toNat []))) (k.l, ((s.does k).1.q k.l).getD k.i.toNat []) e, fun v w' => ∃ e, v = .int .i64 e ∧ EntAt w' bc ekS RI (aset c (k.l, ((s.does k).1.q k.l).getD k.i.toNat []) (cg c (k.l, ((s.does k).1.q k.l).getD k.i.toNat []))) (k.l, ((s.does k).1.q k.l).getD k.i.toNat []) e] (by kernel_rfl) rfl ?_ ?_ ?_
          · simp only [List.forall_mem_cons]
            refine ⟨fun _ _ _ _ h _ => h, fun _ _ _ _ h _ => h, fun _ _ _ _ h _ => h, fun _ _ _ _ h _ => h, fun _ _ _ _ h _ => h, fun _ _ _ _ h _ => h, fun _ _ _ _ h _ => h, fun _ _ _ _ h _ => h, ?_, ?_, by simp⟩
            · intro v wa wb _ hf ht; obtain ⟨u, e, h1, h2⟩ := hf; exact ⟨u, e, h1, ht.2.2 e h2⟩
            · intro v wa wb _ hf ht; obtain ⟨e, h1, h2⟩ := hf; exact ⟨e, h1, ht.2.2 e h2⟩
          · intro ii o ho ρ' w' hq hout hF
            match ii, ho, hF with
            | 0, ho, hF =>
              obtain rfl := Option.some.inj ho
              change Step _ _ ρ' w' _
              have s4 := (show ev ρ' (.tmp 4) = _ from hout 4 (by decide)).trans r4
              exact st_move s4 ⟨rfl, turns_half.refl _⟩
            | 1, ho, hF =>
              obtain rfl := Option.some.inj ho
              change Step _ _ ρ' w' _
              have s6 := (show ev ρ' (.tmp 6) = _ from hout 6 (by decide)).trans r6
              exact st_fieldAddr (f := 2) (k := 1) s6 Try.underlying33 rfl rfl Try.sizeOf29 ⟨rfl, turns_half.refl _⟩
            | 2, ho, hF =>
              obtain rfl := Option.some.inj ho
              change Step _ _ ρ' w' _
              have s74 : ev ρ' (.tmp 74) = .pointer (some ⟨b6, 2, none⟩) := hF 1 _ rfl (by kernel_rfl)
              exact st_loadK Try.isAgg29 Try.sizeOf29 s74 (cells2 ((B6.frm hq.1 nb6).cell rfl) ((B6.frm hq.1 nb6).cell rfl)) rfl ⟨rfl, turns_half.refl _⟩
            | 3, ho, hF =>
              obtain rfl := Option.some.inj ho
              change Step _ _ ρ' w' _
              have s11 := (show ev ρ' (.tmp 11) = _ from hout 11 (by decide)).trans r11
              exact st_move s11 ⟨rfl, turns_half.refl _⟩
            | 4, ho, hF =>
              obtain rfl := Option.some.inj ho
              change Step _ _ ρ' w' _
              have s76 : ev ρ' (.tmp 76) = x := hF 3 _ rfl (by kernel_rfl)
              exact st_string s76 (hrx.frm hq.1 fun b hb e => by have e : b = bc := e; omega) Try.underlying30 Try.underlying5 Try.underlying9 ⟨rfl, turns_half.refl _⟩
            | 5, ho, hF =>
              obtain rfl := Option.some.inj ho
              change Step _ _ ρ' w' _
              have s75 : ev ρ' (.tmp 75) = ekL k.l := hF 2 _ rfl (by kernel_rfl)
              have s77 : ev ρ' (.tmp 77) = .string ⟨(((s.does k).1.q k.l).getD k.i.toNat []).toArray⟩ := hF 4 _ rfl (by kernel_rfl)
              exact st_buildP2 (v := .agg #[.int .i64 k.l.1, .int .i64 k.l.2, .string ⟨(((s.does k).1.q k.l).getD k.i.toNat []).toArray⟩]) s75 s77 (fun w => by kernel_rfl) ⟨rfl, turns_half.refl _⟩
            | 6, ho, hF =>
              obtain rfl := Option.some.inj ho
              change Step _ _ ρ' w' _
              have s73 : ev ρ' (.tmp 73) = .map (some bc) := hF 0 _ rfl (by kernel_rfl)
              have s78 : ev ρ' (.tmp 78) = ekS (k.l, ((s.does k).1.q k.l).getD k.i.toNat []) := hF 5 _ rfl (by kernel_rfl)
              exact st_lookHalf s73 s78 keyS Try.underlying27 Try.zeroValue3 (hq.2.1 hhalf) ⟨rfl, turns_half.refl _⟩
            | 7, ho, hF =>
              obtain rfl := Option.some.inj ho
              change Step _ _ ρ' w' _
              have s79 : ev ρ' (.tmp 79) = .int .i64 (cg c (k.l, ((s.does k).1.q k.l).getD k.i.toNat [])) := hF 6 _ rfl (by kernel_rfl)
              exact st_add s79 uc (wr64 (by omega)) ⟨rfl, turns_half.refl _⟩
            | 8, ho, hF =>
              obtain rfl := Option.some.inj ho
              change Step _ _ ρ' w' _
              have s73 : ev ρ' (.tmp 73) = .map (some bc) := hF 0 _ rfl (by kernel_rfl)
              have s78 : ev ρ' (.tmp 78) = ekS (k.l, ((s.does k).1.q k.l).getD k.i.toNat []) := hF 5 _ rfl (by kernel_rfl)
              exact st_entryHalf s73 s78 keyS Try.underlying27 Try.zeroValue3 (hq.2.1 hhalf) fun u e w2 he ht => ⟨⟨u, e, rfl, he⟩, ht⟩
            | 9, ho, hF =>
              obtain rfl := Option.some.inj ho
              change Step _ _ ρ' w' _
              have f8 := hF 8 _ rfl (by kernel_rfl)
              have s81 : ev ρ' (.tmp 81) = ρ' 81 := rfl
              obtain ⟨u, e, hv, he⟩ := f8
              exact st_extract (show ev ρ' (.tmp 81) = _ from hv) rfl ⟨⟨e, rfl, he⟩, turns_half.refl _⟩
            | q + 10, ho, _ => have h1 := (List.getElem?_eq_some_iff.1 ho).1; have h2 := Nat.lt_of_lt_of_le h1 (List.length_take_le _ _); omega
          intro ρ18 w12 hq14 hout hF
          have q3 := (show ev ρ18 (.tmp 3) = _ from hout 3 (by decide)).trans r3
          have q4 := (show ev ρ18 (.tmp 4) = _ from hout 4 (by decide)).trans r4
          have q21 := (show ev ρ18 (.tmp 21) = _ from hout 21 (by decide)).trans r21
          have q22 := (show ev ρ18 (.tmp 22) = _ from hout 22 (by decide)).trans r22
          have q23 := (show ev ρ18 (.tmp 23) = _ from hout 23 (by decide)).trans r23
          have q73 : ev ρ18 (.tmp 73) = .map (some bc) := hF 0 _ rfl
          have q80 : ev ρ18 (.tmp 80) = .int .i64 (cg c (k.l, ((s.does k).1.q k.l).getD k.i.toNat []) + 1) := hF 7 _ rfl
          have f9 := hF 9 _ rfl
          have q82 : ev ρ18 (.tmp 82) = ρ18 82 := rfl
          clear hout hF r11 r21 r22 r23 r3 r4 r6
          have r3 := q3; clear q3
          have r4 := q4; clear q4
          have r21 := q21; clear q21
          have r22 := q22; clear q22
          have r23 := q23; clear q23
          have r73 := q73; clear q73
          have r80 := q80; clear q80
          have r82 := q82; clear q82
          obtain ⟨e14, he14, hEnt⟩ := f9; have r82 := (show ev _ (.tmp 82) = .int .i64 e14 from he14)
          have hqX := hq14; clear hq14
          refine WL.cons rfl (st_entryStore (ek := ekS) (a := (k.l, ((s.does k).1.q k.l).getD k.i.toNat [])) (u := cg c (k.l, ((s.does k).1.q k.l).getD k.i.toNat []) + 1) r73 r82 r80 keyS hEnt rfl ?_)
          intro w13 hmp hfe _ _
          rw [aset_aset] at hmp
          have hfc := hqX.1.trans hfe; clear hqX hfe hEnt
          replace h := h.frm hfc (fun e => by have e : bn = bc := e; omega) (fun e => by have e : bm = bc := e; omega) (fun b hb e => by have e : b = bc := e; rw [e] at hb; exact hSc2 hb)
          replace hu := (Frm.trans' (X := NoB) hu.frm hfc fun i hi he => by have he : i = bc := he; omega).up
          replace B6 := B6.frm hfc nb6
          refine WL.nil ?_
          have hnx : LoopO w bn bm bc (i + 1) w13 := ⟨hu, _, _, _, h, hk2, hmp, hSc2, hI2⟩
          refine W.endR ?_
          refine WL.cons rfl (st_add (un0 r23) uc (wr64 (by omega)) ?_)
          refine WL.cons rfl (st_move us ?_)
          refine WL.nil ?_
          exact ⟨nn - 1, (by omega), i + 1, (by first | exact us | (refine us.trans ?_; congr 1; omega) | (refine us.trans ?_; simp)), ((un (un (un0 r3))).trans x0_3.symm), ((un (un (un0 r4))).trans x0_4.symm), ((un (un (un0 r21))).trans x0_21.symm), ((un (un (un0 r22))).trans x0_22.symm), by omega, hnx⟩
        · skip
          try simp only [tests] at hc12
          have hn2 : ¬ (opN k.op = 6 ∧ (s.does k).2.2 = 0) := by simpa using hc12
          refine W.seqR ?_
          refine WL.cons rfl (st_move r8 ?_)
          refine WL.cons rfl (st_assign us ?_)
          refine WL.nil ?_
          refine W.gen ?_; intro ρ19 hρ
          have q3 := (hρ 3).trans (un (un r3)); have q4 := (hρ 4).trans (un (un r4)); have q6 := (hρ 6).trans (un (un r6)); have q7 := (hρ 7).trans (un (un r7))
          have q21 := (hρ 21).trans (un (un r21)); have q22 := (hρ 22).trans (un (un r22)); have q23 := (hρ 23).trans (un (un r23)); have q83 := (hρ 83).trans us
          clear hρ r21 r22 r23 r3 r4 r57 r6 r7 r8
          have r3 := q3; clear q3; have r4 := q4; clear q4; have r6 := q6; clear q6; have r7 := q7; clear q7; have r21 := q21; clear q21; have r22 := q22; clear q22; have r23 := q23; clear q23; have r83 := q83; clear q83
          refine W.cond r83 (fun hc15 => ?_) (fun hc15 => ?_)
          · skip
            try simp only [tests] at hc15
            obtain ⟨m, hm⟩ := Option.isSome_iff_exists.1 hc15
            rw [hm] at hru
            obtain ⟨hI2, hnn0⟩ := inv_take hk hI hm
            refine W.seqR ?_
            refine WL.cons rfl (st_fieldAddr (f := 2) (k := 1) r6 Try.underlying33 rfl rfl Try.sizeOf29 ?_)
            refine WL.cons rfl (st_loadK Try.isAgg29 Try.sizeOf29 us (cells2 (B6.cell rfl) (B6.cell rfl)) rfl ?_)
            refine WL.cons rfl (st_move (un (un r7)) ?_)
            refine WL.cons rfl (st_string us hru Try.underlying30 Try.underlying5 Try.underlying9 ?_)
            have hsz13 := hc.lt
            refine WL.cons rfl (st_buildP2 (v := .agg #[.int .i64 k.l.1, .int .i64 k.l.2, .string ⟨m.toArray⟩]) (un (un us)) us (fun w => by kernel_rfl) ?_)
            refine WL.allocStore (v := ekS (k.l, m)) rfl (fun _ => un us) Try.zeroValue39 Try.sizeOf39 rfl (by first | rfl | kernel_rfl) (by first | exact ekL_one _ | exact do_one hvb _ | exact ekS_one _ | simp [Value.cells, Value.oneCell']) ?_
            intro b13 w14 m13; have B13 := m13.blk
            have n6_13 : b6 ≠ b13 := by have := B6.lt; have := m13.at_; omega
            replace h := h.up m13.up
            replace hc := hc.up m13.up
            replace B6 := B6.up m13.up
            replace hu := hu.trans m13.up
            
            refine WL.nil ?_
            refine W.gen ?_; intro ρ20 hρ
            have q3 := (hρ 3).trans (un0 (un (un (un (un (un (un r3))))))); have q4 := (hρ 4).trans (un0 (un (un (un (un (un (un r4))))))); have q13 := (hρ 13).trans (un0 us); have q21 := (hρ 21).trans (un0 (un (un (un (un (un (un r21)))))))
            have q22 := (hρ 22).trans (un0 (un (un (un (un (un (un r22))))))); have q23 := (hρ 23).trans (un0 (un (un (un (un (un (un r23)))))))
            clear hρ r21 r22 r23 r3 r4 r6 r7 r83
            have r3 := q3; clear q3; have r4 := q4; clear q4; have r13 := q13; clear q13; have r21 := q21; clear q21; have r22 := q22; clear q22; have r23 := q23; clear q23
            have hhalf : Half ekS bc c (k.l, m) w14 := .inl hc
            have hp := hI.pos (k.l, m)
            have nb6 : ¬ b6 = bc := by omega
            have nb13 : ¬ b13 = bc := by have := m13.at_; have := hc.lt; have := hsz13; omega
            refine W.seq (W.drawR (T := HalfT ekS bc c (k.l, m)) turns_half mixed 6 [fun v _ => v = .map (some bc), fun v _ => v = ekS (k.l, m), fun v _ => v = .int .i64 (cg c (k.l, m)), fun v _ => v = .int .i64 (cg c (k.l, m) - 1), fun v w' => ∃ u e, v = .tuple #[u, .int .i64 e] ∧ EntAt w' bc ekS RI (aset c (k.l, m) (cg c (k.l, m))) (k.l, m) e, fun v w' => ∃ e, v = .int .i64 e ∧ EntAt w' bc ekS RI (aset c (k.l, m) (cg c (k.l, m))) (k.l, m) e] (by kernel_rfl) rfl ?_ ?_ ?_)
            · simp only [List.forall_mem_cons]
              refine ⟨fun _ _ _ _ h _ => h, fun _ _ _ _ h _ => h, fun _ _ _ _ h _ => h, fun _ _ _ _ h _ => h, ?_, ?_, by simp⟩
              · intro v wa wb _ hf ht; obtain ⟨u, e, h1, h2⟩ := hf; exact ⟨u, e, h1, ht.2.2 e h2⟩
              · intro v wa wb _ hf ht; obtain ⟨e, h1, h2⟩ := hf; exact ⟨e, h1, ht.2.2 e h2⟩
            · intro ii o ho ρ' w' hq hout hF
              match ii, ho, hF with
              | 0, ho, hF =>
                obtain rfl := Option.some.inj ho
                change Step _ _ ρ' w' _
                have s4 := (show ev ρ' (.tmp 4) = _ from hout 4 (by decide)).trans r4
                exact st_move s4 ⟨rfl, turns_half.refl _⟩
              | 1, ho, hF =>
                obtain rfl := Option.some.inj ho
                change Step _ _ ρ' w' _
                have s13 := (show ev ρ' (.tmp 13) = _ from hout 13 (by decide)).trans r13
                exact st_loadK Try.isAgg39 Try.sizeOf39 s13 ((B13.frm hq.1 nb13).row) rfl ⟨rfl, turns_half.refl _⟩
              | 2, ho, hF =>
                obtain rfl := Option.some.inj ho
                change Step _ _ ρ' w' _
                have s90 : ev ρ' (.tmp 90) = .map (some bc) := hF 0 _ rfl (by kernel_rfl)
                have s91 : ev ρ' (.tmp 91) = ekS (k.l, m) := hF 1 _ rfl (by kernel_rfl)
                exact st_lookHalf s90 s91 keyS Try.underlying27 Try.zeroValue3 (hq.2.1 hhalf) ⟨rfl, turns_half.refl _⟩
              | 3, ho, hF =>
                obtain rfl := Option.some.inj ho
                change Step _ _ ρ' w' _
                have s92 : ev ρ' (.tmp 92) = .int .i64 (cg c (k.l, m)) := hF 2 _ rfl (by kernel_rfl)
                exact st_sub s92 uc (wr64 (by omega)) ⟨rfl, turns_half.refl _⟩
              | 4, ho, hF =>
                obtain rfl := Option.some.inj ho
                change Step _ _ ρ' w' _
                have s90 : ev ρ' (.tmp 90) = .map (some bc) := hF 0 _ rfl (by kernel_rfl)
                have s91 : ev ρ' (.tmp 91) = ekS (k.l, m) := hF 1 _ rfl (by kernel_rfl)
                exact st_entryHalf s90 s91 keyS Try.underlying27 Try.zeroValue3 (hq.2.1 hhalf) fun u e w2 he ht => ⟨⟨u, e, rfl, he⟩, ht⟩
              | 5, ho, hF =>
                obtain rfl := Option.some.inj ho
                change Step _ _ ρ' w' _
                have f4 := hF 4 _ rfl (by kernel_rfl)
                have s94 : ev ρ' (.tmp 94) = ρ' 94 := rfl
                obtain ⟨u, e, hv, he⟩ := f4
                exact st_extract (show ev ρ' (.tmp 94) = _ from hv) rfl ⟨⟨e, rfl, he⟩, turns_half.refl _⟩
              | q + 6, ho, _ => have h1 := (List.getElem?_eq_some_iff.1 ho).1; have h2 := Nat.lt_of_lt_of_le h1 (List.length_take_le _ _); omega
            intro ρ21 w15 hq17 hout hF
            have q3 := (show ev ρ21 (.tmp 3) = _ from hout 3 (by decide)).trans r3
            have q4 := (show ev ρ21 (.tmp 4) = _ from hout 4 (by decide)).trans r4
            have q13 := (show ev ρ21 (.tmp 13) = _ from hout 13 (by decide)).trans r13
            have q21 := (show ev ρ21 (.tmp 21) = _ from hout 21 (by decide)).trans r21
            have q22 := (show ev ρ21 (.tmp 22) = _ from hout 22 (by decide)).trans r22
            have q23 := (show ev ρ21 (.tmp 23) = _ from hout 23 (by decide)).trans r23
            have q90 : ev ρ21 (.tmp 90) = .map (some bc) := hF 0 _ rfl
            have q93 : ev ρ21 (.tmp 93) = .int .i64 (cg c (k.l, m) - 1) := hF 3 _ rfl
            have f5 := hF 5 _ rfl
            have q95 : ev ρ21 (.tmp 95) = ρ21 95 := rfl
            clear hout hF r13 r21 r22 r23 r3 r4
            have r3 := q3; clear q3
            have r4 := q4; clear q4
            have r13 := q13; clear q13
            have r21 := q21; clear q21
            have r22 := q22; clear q22
            have r23 := q23; clear q23
            have r90 := q90; clear q90
            have r93 := q93; clear q93
            have r95 := q95; clear q95
            obtain ⟨e17, he17, hEnt⟩ := f5; have r95 := (show ev _ (.tmp 95) = .int .i64 e17 from he17)
            have hqX := hq17; clear hq17
            refine WL.cons rfl (st_entryStore (ek := ekS) (a := (k.l, m)) (u := cg c (k.l, m) - 1) r90 r95 r93 keyS hEnt rfl ?_)
            intro w16 hmp hfe _ _
            rw [aset_aset] at hmp
            have hfc := hqX.1.trans hfe; clear hqX hfe hEnt
            replace h := h.frm hfc (fun e => by have e : bn = bc := e; omega) (fun e => by have e : bm = bc := e; omega) (fun b hb e => by have e : b = bc := e; rw [e] at hb; exact hSc2 hb)
            replace hu := (Frm.trans' (X := NoB) hu.frm hfc fun i hi he => by have he : i = bc := he; omega).up
            replace B6 := B6.frm hfc nb6; replace B13 := B13.frm hfc nb13
            refine WL.nil ?_
            refine W.gen ?_; intro ρ22 hρ
            have q3 := (hρ 3).trans (un0 r3); have q4 := (hρ 4).trans (un0 r4); have q13 := (hρ 13).trans (un0 r13); have q21 := (hρ 21).trans (un0 r21)
            have q22 := (hρ 22).trans (un0 r22); have q23 := (hρ 23).trans (un0 r23)
            clear hρ r13 r21 r22 r23 r3 r4 r90 r93 r95
            have r3 := q3; clear q3; have r4 := q4; clear q4; have r13 := q13; clear q13; have r21 := q21; clear q21; have r22 := q22; clear q22; have r23 := q23; clear q23
            refine W.seqR ?_
            refine WL.cons rfl (st_move r4 ?_)
            refine WL.cons rfl (st_loadK Try.isAgg39 Try.sizeOf39 (un r13) (B13.row) rfl ?_)
            refine WL.cons rfl (st_lookHalf (ek := ekS) (a := (k.l, m)) (un us) us keyS Try.underlying27 Try.zeroValue3 (.inl hmp) ?_)
            refine WL.cons rfl (st_lss us uc ?_)
            refine WL.nil ?_
            refine W.gen ?_; intro ρ23 hρ
            have q3 := (hρ 3).trans (un (un (un (un r3)))); have q4 := (hρ 4).trans (un (un (un (un r4)))); have q21 := (hρ 21).trans (un (un (un (un r21)))); have q22 := (hρ 22).trans (un (un (un (un r22))))
            have q23 := (hρ 23).trans (un (un (un (un r23)))); have q99 := (hρ 99).trans us
            clear hρ r13 r21 r22 r23 r3 r4
            have r3 := q3; clear q3; have r4 := q4; clear q4; have r21 := q21; clear q21; have r22 := q22; clear q22; have r23 := q23; clear q23; have r99 := q99; clear q99
            have hnx : LoopO w bn bm bc (i + 1) w16 := ⟨hu, _, _, _, h, hk2, hmp, hSc2, hI2⟩
            refine W.condF r99 (by rw [cg_aset, if_pos rfl]; exact decide_eq_false (by omega)) ?_
            refine W.skip ?_
            refine W.endR ?_
            refine WL.cons rfl (st_add r23 uc (wr64 (by omega)) ?_)
            refine WL.cons rfl (st_move us ?_)
            refine WL.nil ?_
            exact ⟨nn - 1, (by omega), i + 1, (by first | exact us | (refine us.trans ?_; congr 1; omega) | (refine us.trans ?_; simp)), ((un (un r3)).trans x0_3.symm), ((un (un r4)).trans x0_4.symm), ((un (un r21)).trans x0_21.symm), ((un (un r22)).trans x0_22.symm), by omega, hnx⟩
          · skip
            try simp only [tests] at hc15
            have hnx : LoopO w bn bm bc (i + 1) w8 := ⟨hu, _, _, _, h, hk2, hc, hSc2, inv_other hk hI hn1 hn2⟩
            refine W.skip ?_
            refine W.endR ?_
            refine WL.cons rfl (st_add r23 uc (wr64 (by omega)) ?_)
            refine WL.cons rfl (st_move us ?_)
            refine WL.nil ?_
            exact ⟨nn - 1, (by omega), i + 1, (by first | exact us | (refine us.trans ?_; congr 1; omega) | (refine us.trans ?_; simp)), ((un (un r3)).trans x0_3.symm), ((un (un r4)).trans x0_4.symm), ((un (un r21)).trans x0_21.symm), ((un (un r22)).trans x0_22.symm), by omega, hnx⟩
    · skip
      try simp only [tests] at hc6
      refine W.exit ?_
      refine exitHere ?_
      refine W.seqR ?_
      refine WL.cons rfl (st_call0 ent11  (((awake_ok _)).mono ?_))
      intro va w17 ⟨hva, ua⟩; subst hva; replace hu := hu.trans ua
      refine WL.cons rfl (st_assign us ?_)
      refine WL.nil ?_
      refine W.gen ?_; intro ρ24 hρ
      have q2 := (hρ 2).trans us
      clear hρ r21 r22 r23 r24 r3 r4
      have r2 := q2; clear q2
      refine W.ret ?_
      refine fin1 r2 ?_
      exact ⟨rfl, hu⟩

end Go.Proofs.Ytppohfgaegahoaa
