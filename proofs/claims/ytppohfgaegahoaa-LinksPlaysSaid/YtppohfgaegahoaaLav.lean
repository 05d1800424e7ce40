/- Walk: LinksRefused. -/
import Derived.Test.YtppohfgaegahoaaLau
import Derived.Test.YtppohfgaegahoaaLab
namespace Go.Proofs.Ytppohfgaegahoaa
open Go.Tw Go.RowKit
attribute [local irreducible] Step WL W WQ Does

theorem new_pair {w : World} {bn bm bx : Nat} (h : NetR (fun _ => False) w bn bm ⟨[], 0, 0⟩) (hb : Blk w bx (.cells (Value.agg (refC (.slice none 0 0) ⟨[], fun _ => false, 0⟩).toArray).cells 51)) (h1 : bn ≠ bx) (h2 : bm ≠ bx) : Pair (fun _ => False) (fun _ => False) w bn bm bx ⟨[], 0, 0⟩ ⟨[], fun _ => false, 0⟩ :=
  ⟨h, netOk_new, ⟨⟨_, hb, ⟨none, 0, rfl, rfl, fun h => absurd h (Nat.lt_irrefl 0)⟩, fun o n c e => by cases e; exact Nat.le_refl _⟩, fun h => h, fun _ h => h.elim⟩, same_new, fun h => h, fun h => h, fun h => h, h1, h2⟩

/-- towline towlinelaw04.LinksRefused -/
theorem refused_walk {v vk : Value} (l : List DoS) (k : DoS) (w : World) (hv : RDos (fun b => b < w.heap.size) w v l) (hvk : RB (fun b => b < w.heap.size) w vk k.b) (hn : l.length ≤ 9223372036854775807) (hsl : ∀ d ∈ l, SideOk d) : Does Try.prog 7 #[v, .agg (doCells k vk).toArray] w (fun v' w' => v' = .bool true ∧ Up w w') := by
  obtain ⟨o, cap, hv0⟩ := hv.shape
  refine fn_of_W (rs := [4]) (N := 70) Try.func7 rfl rfl rfl (by simp) ?_
  intro ρ0 hρ0
  have r0 : ev ρ0 (.tmp 0) = v := hρ0 0
  have r1 : ev ρ0 (.tmp 1) = .agg (doCells k vk).toArray := hρ0 1
  clear hρ0
  have hu := Up.refl w
  subst hv0
  refine W.seqR ?_
  refine WL.cons rfl (st_box r1 ?_)
  intro b3 w1 m3; have B3 := m3.blk
  replace hvk := hvk.up m3.up
  replace hu := hu.trans m3.up
  refine WL.cons rfl (st_assign uc ?_)
  refine WL.nil ?_
  refine W.gen ?_; intro ρ1 hρ
  have q0 := (hρ 0).trans (un (un r0)); have q3 := (hρ 3).trans (un us)
  clear hρ r0 r1
  have r0 := q0; clear q0; have r3 := q3; clear q3
  refine W.seq ?_
  refine W.seqR ?_
  refine WL.cons rfl (st_move r0 ?_)
  refine WL.cons rfl (st_loadK Try.isAgg33 Try.sizeOf33 (un r3) (B3.row) rfl ?_)
  refine WL.cons rfl (st_bs1 us (build_do k vk) ?_)
  intro b15 w2 m15; replace hvk := hvk.up m15.up; replace B3 := B3.up m15.up; replace hu := hu.trans m15.up
  have hrd : RDos AnyB w2 (.slice (some ⟨b15, 0, none⟩) 1 1) [k] := ⟨[vk], made_sl (cells := flat [k] [vk]) (by simpa [flat] using m15) (by simp [flat, doCells]) trivial, RB.mono hvk fun _ _ _ => trivial, trivial⟩
  have hrl1 : RDos AnyB w2 (.slice o l.length cap) l := (hv.mono0).up hu
  refine WL.cons rfl (st_bs2 (un (un us)) us (build_pair _ _ rfl rfl) ?_)
  intro b16 w3 m16; have hrl : RL AnyB w3 _ [l, [k]] := ⟨_, made_sl (cells := [_, _]) m16 rfl trivial, hrl1.up m16.up, hrd.up m16.up, trivial⟩; replace hvk := hvk.up m16.up; replace B3 := B3.up m16.up; replace hu := hu.trans m16.up; clear m16
  refine WL.cons rfl (st_call1 ent10 us (((short_ok [l, [k]] _ hrl (by simp) (by simpa using hn))).mono ?_))
  intro vs w4 ⟨t, hvs, us1⟩; subst hvs; replace hvk := hvk.up us1; replace B3 := B3.up us1; replace hu := hu.trans us1; clear hrl us1 hrd m15 hrl1
  refine WL.cons rfl (st_not us ?_)
  refine WL.nil ?_
  refine W.gen ?_; intro ρ2 hρ
  have q0 := (hρ 0).trans (un (un (un (un (un (un r0)))))); have q3 := (hρ 3).trans (un (un (un (un (un (un r3)))))); have q18 := (hρ 18).trans us
  clear hρ r0 r3
  have r0 := q0; clear q0; have r3 := q3; clear q3; have r18 := q18; clear q18
  refine W.cond r18 (fun hc1 => ?_) (fun hc1 => ?_)
  · skip
    try simp only [tests] at hc1
    refine W.seqR ?_
    refine WL.cons rfl (st_call0 ent11  (((awake_ok _)).mono ?_))
    intro va w5 ⟨hva, ua⟩; subst hva; replace hu := hu.trans ua
    refine WL.cons rfl (st_assign us ?_)
    refine WL.nil ?_
    refine W.gen ?_; intro ρ3 hρ
    have q4 := (hρ 4).trans us
    clear hρ r0 r18 r3
    have r4 := q4; clear q4
    refine W.ret ?_
    refine fin1 r4 ?_
    exact ⟨rfl, hu⟩
  · skip
    try simp only [tests] at hc1
    refine W.skip ?_
    refine W.seqR ?_
    refine WL.cons rfl (st_call0 ent12  (((new_ok _)).mono ?_))
    intro vn w6 ⟨bn, bm, hvn, hbn, hbm, uN, h⟩; subst hvn; have hsN := hu.size; have hB3n := B3.lt; replace B3 := B3.up uN; replace hvk := hvk.up uN; replace hu := hu.trans uN; have h3n : b3 < bn := by omega
    have h3m : b3 < bm := by omega
    replace hbn : w.heap.size ≤ bn := by omega
    replace hbm : w.heap.size ≤ bm := by omega
    refine WL.cons rfl (st_buildP0 (v := .agg (refC (.slice none 0 0) ⟨[], fun _ => false, 0⟩).toArray) (fun w => by kernel_rfl) ?_)
    have hbl := h.blk.lt; have hml := h.map.lt
    refine WL.cons rfl (st_box us ?_)
    intro b22 w7 m22; have B22 := m22.blk
    have n3_22 : b3 ≠ b22 := by have := B3.lt; have := m22.at_; omega
    replace hvk := hvk.up m22.up
    replace B3 := B3.up m22.up
    replace h := h.up m22.up
    replace hu := hu.trans m22.up
    refine WL.cons rfl (st_assign (un (un us)) ?_)
    refine WL.cons rfl (st_assign (un us) ?_)
    refine WL.nil ?_
    refine W.gen ?_; intro ρ4 hρ
    have q0 := (hρ 0).trans (un (un (un (un (un r0))))); have q3 := (hρ 3).trans (un (un (un (un (un r3))))); have q5 := (hρ 5).trans (un us); have q6 := (hρ 6).trans us
    clear hρ r0 r18 r3
    have r0 := q0; clear q0; have r3 := q3; clear q3; have r5 := q5; clear q5; have r6 := q6; clear q6
    have hbx := m22.at_
    have h3x : b3 < b22 := by omega
    have hp := new_pair h B22 (by omega) (by omega)
    replace hbx : w.heap.size ≤ b22 := by omega
    clear h hbl hml B22 m22
    refine W.seq ?_
    refine W.seqR ?_
    refine WL.cons rfl (st_move r0 ?_)
    refine WL.cons rfl (st_lenS us Try.underlying22 ?_)
    refine WL.cons rfl (st_move uc ?_)
    refine WL.nil ?_
    refine W.gen ?_; intro ρ5 hρ
    have q3 := (hρ 3).trans (un (un (un r3))); have q5 := (hρ 5).trans (un (un (un r5))); have q6 := (hρ 6).trans (un (un (un r6))); have q23 := (hρ 23).trans (un (un us))
    have q24 := (hρ 24).trans (un us); have q25 := (hρ 25).trans us
    clear hρ r0 r3 r5 r6
    have r3 := q3; clear q3; have r5 := q5; clear q5; have r6 := q6; clear q6; have r23 := q23; clear q23; have r24 := q24; clear q24; have r25 := q25; clear q25
    refine W.block ?_
    refine W.loop (fun nn ρ' w' => ∃ i : Nat, ev ρ' (.tmp 25) = .int .i64 (i : Int) ∧ ev ρ' (.tmp 3) = ev ρ5 (.tmp 3) ∧ ev ρ' (.tmp 5) = ev ρ5 (.tmp 5) ∧ ev ρ' (.tmp 6) = ev ρ5 (.tmp 6) ∧ ev ρ' (.tmp 23) = ev ρ5 (.tmp 23) ∧ ev ρ' (.tmp 24) = ev ρ5 (.tmp 24) ∧ i + nn = l.length ∧ LoopQ w bn bm b22 w' ∧ Blk w' b3 (.cells (Value.agg (doCells k vk).toArray).cells 33) ∧ RB (fun b => b < w.heap.size) w' vk k.b) (l.length) ?_ ?_
    · exact ⟨0, (by first | exact r25 | (refine r25.trans ?_; congr 1; omega) | (refine r25.trans ?_; simp)), rfl, rfl, rfl, rfl, rfl, by omega, ⟨hu, _, _, _, _, hp⟩, B3, hvk⟩
    intro nn ρ6 w8 ⟨i, q25, q3, q5, q6, q23, q24, hi, hL, B3, hvk⟩
    have s3 := q3; replace q3 := q3.trans r3
    have s5 := q5; replace q5 := q5.trans r5
    have s6 := q6; replace q6 := q6.trans r6
    have s23 := q23; replace q23 := q23.trans r23
    have s24 := q24; replace q24 := q24.trans r24
    clear r23 r24 r25 r3 r5 r6
    have r25 := q25; clear q25; have r3 := q3; clear q3; have r5 := q5; clear q5; have r6 := q6; clear q6; have r23 := q23; clear q23; have r24 := q24; clear q24
    clear hp; clear hu; obtain ⟨hu, Sa, Sx, s, x, hp⟩ := hL
    have hk := hp.ok
    have x0_3 := s3.symm.trans r3; clear s3
    have x0_5 := s5.symm.trans r5; clear s5
    have x0_6 := s6.symm.trans r6; clear s6
    have x0_23 := s23.symm.trans r23; clear s23
    have x0_24 := s24.symm.trans r24; clear s24
    refine W.seqR ?_
    refine WL.cons rfl (st_lss r25 r24 ?_)
    refine WL.nil ?_
    refine W.gen ?_; intro ρ7 hρ
    have q3 := (hρ 3).trans (un r3); have q5 := (hρ 5).trans (un r5); have q6 := (hρ 6).trans (un r6); have q23 := (hρ 23).trans (un r23)
    have q24 := (hρ 24).trans (un r24); have q25 := (hρ 25).trans (un r25); have q26 := (hρ 26).trans us
    clear hρ r23 r24 r25 r3 r5 r6
    have r3 := q3; clear q3; have r5 := q5; clear q5; have r6 := q6; clear q6; have r23 := q23; clear q23; have r24 := q24; clear q24; have r25 := q25; clear q25; have r26 := q26; clear q26
    refine W.seq ?_
    refine W.cond r26 (fun hc5 => ?_) (fun hc5 => ?_)
    · skip
      try simp only [tests] at hc5
      obtain ⟨kb, koff, d, vb, rfl, hkk, hcs, hvb⟩ := (hv.up hu).at (j := i) (by omega)
      have hbl := hp.net.blk.lt; have hml := hp.net.map.lt; have hxl := hp.ref.lt
      have hso := hsl d (List.mem_of_getElem? hkk)
      refine W.skip ?_
      refine W.seq ?_
      refine W.block ?_
      refine W.seqR ?_
      refine WL.cons rfl (st_indexAddrS r23 r25 Try.underlying22 Try.sizeOf33 (by omega) (by omega) ?_)
      refine WL.cons rfl (st_loadK Try.isAgg33 Try.sizeOf33 us (hcs) rfl ?_)
      refine WL.allocStore (v := .agg (doCells d vb).toArray) rfl (fun _ => un us) Try.zeroValue33 Try.sizeOf33 rfl (by first | rfl | kernel_rfl) (by first | exact ekL_one _ | exact do_one hvb _ | exact do_one hvk _ | exact it3_one _ | simp [Value.cells, Value.oneCell']) ?_
      intro b8 w9 m8; have B8 := m8.blk
      have n3_8 : b3 ≠ b8 := by have := B3.lt; have := m8.at_; omega
      replace hvk := hvk.up m8.up
      replace B3 := B3.up m8.up
      replace hp := hp.up m8.up
      replace hu := hu.trans m8.up
      replace hvb := hvb.up m8.up; have ha8 := m8.at_; clear m8
      refine WL.nil ?_
      refine W.gen ?_; intro ρ8 hρ
      have q3 := (hρ 3).trans (un0 (un (un (un r3)))); have q5 := (hρ 5).trans (un0 (un (un (un r5)))); have q6 := (hρ 6).trans (un0 (un (un (un r6)))); have q8 := (hρ 8).trans (un0 us)
      have q23 := (hρ 23).trans (un0 (un (un (un r23)))); have q24 := (hρ 24).trans (un0 (un (un (un r24)))); have q25 := (hρ 25).trans (un0 (un (un (un r25))))
      clear hρ r23 r24 r25 r26 r3 r5 r6
      have r3 := q3; clear q3; have r5 := q5; clear q5; have r6 := q6; clear q6; have r8 := q8; clear q8; have r23 := q23; clear q23; have r24 := q24; clear q24; have r25 := q25; clear q25
      refine W.seqR ?_
      refine WL.cons rfl (st_move r5 ?_)
      refine WL.cons rfl (st_loadK Try.isAgg33 Try.sizeOf33 (un r8) (B8.row) rfl ?_)
      refine WL.cons rfl (st_call2 ent13 (un us) us (((does_ok _ hp.net hk d hvb)).mono ?_))
      intro vd w10 ⟨u, hvd, htx⟩; subst hvd
      obtain ⟨S2, hm⟩ := hp.mid htx
      have hk2 := hk.does d
      have hfr := hm.frm
      replace hu := (Frm.trans' (X := NoB) hu.frm hfr fun i hi he => by rcases he with e | e <;> omega).up
      replace B3 := B3.frm hfr (fun e => by rcases e with e | e <;> omega)
      replace B8 := B8.frm hfr (fun e => by rcases e with e | e <;> omega)
      replace hvk := hvk.frm hfr (fun b hb e => by have hb : b < w.heap.size := hb; rcases e with e | e <;> omega)
      replace hvb := hvb.frm hfr (fun b hb e => by have hb : b < w.heap.size := hb; rcases e with e | e <;> omega)
      refine WL.nil ?_
      refine W.gen ?_; intro ρ9 hρ
      have q3 := (hρ 3).trans (un (un (un r3))); have q5 := (hρ 5).trans (un (un (un r5))); have q6 := (hρ 6).trans (un (un (un r6))); have q8 := (hρ 8).trans (un (un (un r8)))
      have q23 := (hρ 23).trans (un (un (un r23))); have q24 := (hρ 24).trans (un (un (un r24))); have q25 := (hρ 25).trans (un (un (un r25)))
      clear hρ r23 r24 r25 r3 r5 r6 r8
      have r3 := q3; clear q3; have r5 := q5; clear q5; have r6 := q6; clear q6; have r8 := q8; clear q8; have r23 := q23; clear q23; have r24 := q24; clear q24; have r25 := q25; clear q25
      refine W.endR ?_
      refine WL.cons rfl (st_move r6 ?_)
      refine WL.cons rfl (st_loadK Try.isAgg33 Try.sizeOf33 (un r8) (B8.row) rfl ?_)
      refine WL.cons rfl (st_call2 ent19 (un us) us (((also_ok _ hm.ref hp.few hp.fits d hso hvb)).mono ?_))
      intro va w11 ⟨hva, hra⟩; subst hva
      obtain ⟨hsa, hsm⟩ := same_also hk hp.same d
      obtain ⟨hf2, Sx2, hp2, _⟩ := hm.pair hp hk2 hra hsm
      replace hu := (Frm.trans' (X := NoB) hu.frm hf2 fun i hi he => by have e : i = b22 := he; omega).up
      replace B3 := B3.frm hf2 (fun e => by have e : b3 = b22 := e; omega)
      replace hvk := hvk.frm hf2 (fun b hb e => by have hb : b < w.heap.size := hb; have e : b = b22 := e; omega)
      clear hp hm; have hp := hp2; clear hp2 hfr B8 hvb
      refine WL.nil ?_
      refine W.endR ?_
      refine WL.cons rfl (st_add (un (un (un r25))) uc (wr64 (by omega)) ?_)
      refine WL.cons rfl (st_move us ?_)
      refine WL.nil ?_
      exact ⟨nn - 1, (by omega), i + 1, (by first | exact us | (refine us.trans ?_; congr 1; omega) | (refine us.trans ?_; simp)), ((un (un (un (un (un r3))))).trans x0_3.symm), ((un (un (un (un (un r5))))).trans x0_5.symm), ((un (un (un (un (un r6))))).trans x0_6.symm), ((un (un (un (un (un r23))))).trans x0_23.symm), ((un (un (un (un (un r24))))).trans x0_24.symm), by omega, ⟨hu, _, _, _, _, hp⟩, B3, hvk⟩
    · skip
      try simp only [tests] at hc5
      refine W.exit ?_
      refine exitHere ?_
      refine W.seqR ?_
      refine WL.cons rfl (st_move r5 ?_)
      refine WL.cons rfl (st_call1 ent20 us (((lost_ok _ hp.net)).mono ?_))
      intro vl w12 ⟨hvl, ul⟩; subst hvl; replace hvk := hvk.up ul; replace B3 := B3.up ul; replace hp := hp.up ul; replace hu := hu.trans ul
      refine WL.cons rfl (st_assign us ?_)
      refine WL.nil ?_
      refine W.gen ?_; intro ρ10 hρ
      have q3 := (hρ 3).trans (un (un (un r3))); have q5 := (hρ 5).trans (un (un (un r5))); have q6 := (hρ 6).trans (un (un (un r6))); have q9 := (hρ 9).trans us
      clear hρ r23 r24 r25 r26 r3 r5 r6
      have r3 := q3; clear q3; have r5 := q5; clear q5; have r6 := q6; clear q6; have r9 := q9; clear q9
      have hbl := hp.net.blk.lt; have hml := hp.net.map.lt; have hxl := hp.ref.lt
      refine W.seqR ?_
      refine WL.cons rfl (st_move r5 ?_)
      refine WL.cons rfl (st_loadK Try.isAgg33 Try.sizeOf33 (un r3) (B3.row) rfl ?_)
      refine WL.cons rfl (st_call2 ent13 (un us) us (((does_ok _ hp.net hk k hvk)).mono ?_))
      intro vd w13 ⟨u, hvd, htx⟩; subst hvd
      obtain ⟨S2, hm⟩ := hp.mid htx
      have hk2 := hk.does k
      have hfr := hm.frm
      replace hu := (Frm.trans' (X := NoB) hu.frm hfr fun i hi he => by rcases he with e | e <;> omega).up
      replace B3 := B3.frm hfr (fun e => by rcases e with e | e <;> omega)
      clear hvk
      refine WL.cons rfl (st_move us ?_)
      refine WL.cons rfl (st_extract us rfl ?_)
      refine WL.cons rfl (st_extract (un us) rfl ?_)
      refine WL.cons rfl (st_extract (un (un us)) rfl ?_)
      refine WL.cons rfl (st_assign (un (un us)) ?_)
      refine WL.cons rfl (st_assign (un (un us)) ?_)
      refine WL.cons rfl (st_assign (un (un us)) ?_)
      refine WL.nil ?_
      refine W.gen ?_; intro ρ11 hρ
      have q3 := (hρ 3).trans (un (un (un (un (un (un (un (un (un (un r3)))))))))); have q5 := (hρ 5).trans (un (un (un (un (un (un (un (un (un (un r5)))))))))); have q6 := (hρ 6).trans (un (un (un (un (un (un (un (un (un (un r6)))))))))); have q9 := (hρ 9).trans (un (un (un (un (un (un (un (un (un (un r9))))))))))
      have q12 := (hρ 12).trans us
      clear hρ r3 r5 r6 r9
      have r3 := q3; clear q3; have r5 := q5; clear q5; have r6 := q6; clear q6; have r9 := q9; clear q9; have r12 := q12; clear q12
      refine W.seq ?_
      refine W.seqR ?_
      refine WL.cons rfl (st_move r12 ?_)
      refine WL.cons rfl (st_eql us uc ?_)
      refine WL.nil ?_
      refine W.gen ?_; intro ρ12 hρ
      have q3 := (hρ 3).trans (un (un r3)); have q5 := (hρ 5).trans (un (un r5)); have q6 := (hρ 6).trans (un (un r6)); have q9 := (hρ 9).trans (un (un r9))
      have q12 := (hρ 12).trans (un (un r12)); have q46 := (hρ 46).trans us
      clear hρ r12 r3 r5 r6 r9
      have r3 := q3; clear q3; have r5 := q5; clear q5; have r6 := q6; clear q6; have r9 := q9; clear q9; have r12 := q12; clear q12; have r46 := q46; clear q46
      refine W.cond r46 (fun hc12 => ?_) (fun hc12 => ?_)
      · skip
        try simp only [tests] at hc12
        refine W.seqR ?_
        refine WL.cons rfl (st_call0 ent11  (((awake_ok _)).mono ?_))
        intro va w14 ⟨hva, ua⟩; subst hva; replace hu := hu.trans ua
        refine WL.cons rfl (st_assign us ?_)
        refine WL.nil ?_
        refine W.gen ?_; intro ρ13 hρ
        have q4 := (hρ 4).trans us
        clear hρ r12 r3 r46 r5 r6 r9
        have r4 := q4; clear q4
        refine W.ret ?_
        refine fin1 r4 ?_
        exact ⟨rfl, hu⟩
      · skip
        try simp only [tests] at hc12
        obtain ⟨hsm, _⟩ := does_refused hp.same hc12
        refine W.skip ?_
        refine W.seq ?_
        refine W.seqR ?_
        refine WL.cons rfl (st_move r12 ?_)
        refine WL.cons rfl (st_eql us uc ?_)
        refine WL.cons rfl (st_move us ?_)
        apply WL.seg0 6 (t := 50) (x := 56) (want := true) us rfl
        · intro hg50
          refine WL.guardY rfl (us.trans (by rw [hg50])) rfl (st_fieldAddr (f := 0) (k := 0) (un (un (un r3))) Try.underlying33 rfl rfl Try.sizeOf3 ?_)
          refine WL.guardY rfl ((un us).trans (by rw [hg50])) rfl (st_load1 Try.isAgg3 us (B3.cell rfl) ?_)
          refine WL.guardY rfl ((un (un us)).trans (by rw [hg50])) rfl (st_conv us Try.underlying3 Try.underlying37 rfl ?_)
          refine WL.guardY rfl ((un (un (un us))).trans (by rw [hg50])) rfl (st_rem us uc (by omega) rfl ?_)
          refine WL.guardY rfl ((un (un (un (un us)))).trans (by rw [hg50])) rfl (st_conv us Try.underlying37 Try.underlying3 (show _ = opN k.op from rfl) ?_)
          refine WL.guardY rfl ((un (un (un (un (un us))))).trans (by rw [hg50])) rfl (st_lss us uc ?_)
          exact WL.nil ⟨(ag (ag (ag (ag (ag (ag ag0)))))), us, rfl⟩
        intro ρ14 hag hx50
        have q5 := (hag 5 rfl).trans (un (un (un r5))); have q6 := (hag 6 rfl).trans (un (un (un r6))); have q9 := (hag 9 rfl).trans (un (un (un r9))); have q50 := (hag 50 rfl).trans us
        clear hag r12 r3 r46 r5 r6 r9
        have r5 := q5; clear q5; have r6 := q6; clear q6; have r9 := q9; clear q9; have r50 := q50; clear q50
        refine WL.cons rfl (st_and r50 hx50 uc ?_)
        refine WL.nil ?_
        refine W.gen ?_; intro ρ15 hρ
        have q5 := (hρ 5).trans (un r5); have q6 := (hρ 6).trans (un r6); have q9 := (hρ 9).trans (un r9); have q57 := (hρ 57).trans us
        clear hρ r5 r50 r6 r9
        have r5 := q5; clear q5; have r6 := q6; clear q6; have r9 := q9; clear q9; have r57 := q57; clear q57
        refine W.cond r57 (fun hc14 => ?_) (fun hc14 => ?_)
        · skip
          try simp only [tests] at hc14
          have ho : (s.does k).2.2 = 7 ∧ opN k.op < 3 := by simpa using hc14
          rw [if_pos ho] at hsm
          refine W.endR ?_
          refine WL.cons rfl (st_move r9 ?_)
          refine WL.cons rfl (st_add us uc rfl ?_)
          refine WL.cons rfl (st_assign us ?_)
          refine WL.nil ?_
          obtain ⟨vi, hbk, hslx, hroom⟩ := hm.ref.blk
          refine W.seqR ?_
          refine WL.cons rfl (st_move (un (un (un r6))) ?_)
          refine WL.cons rfl (st_move (un us) ?_)
          refine WL.cons rfl (st_nilCheck (un us) ?_)
          refine WL.cons rfl (st_fieldAddr (f := 2) (k := 0) us Try.underlying51 rfl rfl Try.sizeOf3 ?_)
          refine WL.cons rfl (st_store1 us (un (un us)) Try.sizeOf3 hbk (by simp [refC]) rfl rfl ?_)
          intro w15 hb2 hf2 _
          replace hb2 := blk_setLost rfl hb2
          obtain ⟨hfz, Sz, hpz, _⟩ := hm.pair hp hk2 (.same ⟨⟨vi, hb2, hslx.frm hf2 fun b hb e => hm.ref.ne (by rw [← (show b = b22 from e)]; exact hb), hroom⟩, hm.ref.ne, fun b hb => Nat.lt_of_lt_of_le (hm.ref.old b hb) hf2.size⟩ hf2) hsm
          replace hu := (Frm.trans' (X := NoB) hu.frm hf2 fun i hi he => by have e : i = b22 := he; omega).up
          refine WL.nil ?_
          refine W.gen ?_; intro ρ16 hρ
          have q5 := (hρ 5).trans (un0 (un (un (un (un (un (un (un r5)))))))); have q6 := (hρ 6).trans (un0 (un (un (un (un (un (un (un r6))))))))
          clear hρ r5 r57 r6 r9
          have r5 := q5; clear q5; have r6 := q6; clear q6
          refine W.seqR ?_
          refine WL.cons rfl (st_move r5 ?_)
          refine WL.cons rfl (st_move (un r6) ?_)
          refine WL.cons rfl (st_call2 ent25 (un us) us (((same_ok _ hpz.net hk2 hpz.ref hsm)).mono ?_))
          intro vs w16 ⟨hvs, uS⟩; subst hvs
          replace hu := hu.trans uS
          refine WL.cons rfl (st_move us ?_)
          apply WL.seg 1 (t := 67) (x := 68) (want := true) us rfl
          · intro hg67
            have hu0 := hu; have hu_ := Up.refl w16
            refine WL.guardY rfl (us.trans (by rw [hg67])) rfl (st_call0 ent11  (((awake_ok _)).mono ?_))
            intro va w17 ⟨hva, ua⟩; subst hva
            replace hu_ := hu_.trans ua
            exact WL.nil ⟨(ag ag0), us, hu_⟩
          intro ρ17 w18 hup67 hag hx67
          replace hu := hu.trans hup67
          have q67 := (hag 67 rfl).trans us
          clear hag r5 r6
          have r67 := q67; clear q67
          refine WL.cons rfl (st_and r67 hx67 uc ?_)
          refine WL.cons rfl (st_assign us ?_)
          refine WL.nil ?_
          refine W.gen ?_; intro ρ18 hρ
          have q4 := (hρ 4).trans us
          clear hρ r67
          have r4 := q4; clear q4
          refine W.ret ?_
          refine fin1 r4 ?_
          exact ⟨rfl, hu⟩
        · skip
          try simp only [tests] at hc14
          have ho : ¬ ((s.does k).2.2 = 7 ∧ opN k.op < 3) := by simpa using hc14
          rw [if_neg ho] at hsm
          refine W.skip ?_
          obtain ⟨vi, hbk, hslx, hroom⟩ := hm.ref.blk
          refine W.seqR ?_
          refine WL.cons rfl (st_move r6 ?_)
          refine WL.cons rfl (st_move (un r9) ?_)
          refine WL.cons rfl (st_nilCheck (un us) ?_)
          refine WL.cons rfl (st_fieldAddr (f := 2) (k := 0) us Try.underlying51 rfl rfl Try.sizeOf3 ?_)
          refine WL.cons rfl (st_store1 us (un (un us)) Try.sizeOf3 hbk (by simp [refC]) rfl rfl ?_)
          intro w19 hb2 hf2 _
          replace hb2 := blk_setLost rfl hb2
          obtain ⟨hfz, Sz, hpz, _⟩ := hm.pair hp hk2 (.same ⟨⟨vi, hb2, hslx.frm hf2 fun b hb e => hm.ref.ne (by rw [← (show b = b22 from e)]; exact hb), hroom⟩, hm.ref.ne, fun b hb => Nat.lt_of_lt_of_le (hm.ref.old b hb) hf2.size⟩ hf2) hsm
          replace hu := (Frm.trans' (X := NoB) hu.frm hf2 fun i hi he => by have e : i = b22 := he; omega).up
          refine WL.nil ?_
          refine W.gen ?_; intro ρ19 hρ
          have q5 := (hρ 5).trans (un0 (un (un (un (un r5))))); have q6 := (hρ 6).trans (un0 (un (un (un (un r6)))))
          clear hρ r5 r57 r6 r9
          have r5 := q5; clear q5; have r6 := q6; clear q6
          refine W.seqR ?_
          refine WL.cons rfl (st_move r5 ?_)
          refine WL.cons rfl (st_move (un r6) ?_)
          refine WL.cons rfl (st_call2 ent25 (un us) us (((same_ok _ hpz.net hk2 hpz.ref hsm)).mono ?_))
          intro vs w20 ⟨hvs, uS⟩; subst hvs
          replace hu := hu.trans uS
          refine WL.cons rfl (st_move us ?_)
          apply WL.seg 1 (t := 67) (x := 68) (want := true) us rfl
          · intro hg67
            have hu0 := hu; have hu_ := Up.refl w20
            refine WL.guardY rfl (us.trans (by rw [hg67])) rfl (st_call0 ent11  (((awake_ok _)).mono ?_))
            intro va w21 ⟨hva, ua⟩; subst hva
            replace hu_ := hu_.trans ua
            exact WL.nil ⟨(ag ag0), us, hu_⟩
          intro ρ20 w22 hup67 hag hx67
          replace hu := hu.trans hup67
          have q67 := (hag 67 rfl).trans us
          clear hag r5 r6
          have r67 := q67; clear q67
          refine WL.cons rfl (st_and r67 hx67 uc ?_)
          refine WL.cons rfl (st_assign us ?_)
          refine WL.nil ?_
          refine W.gen ?_; intro ρ21 hρ
          have q4 := (hρ 4).trans us
          clear hρ r67
          have r4 := q4; clear q4
          refine W.ret ?_
          refine fin1 r4 ?_
          exact ⟨rfl, hu⟩

end Go.Proofs.Ytppohfgaegahoaa
