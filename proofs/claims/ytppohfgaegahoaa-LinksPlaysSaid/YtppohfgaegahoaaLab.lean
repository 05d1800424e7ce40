/- Walk: LinksApart. -/
import Derived.Test.YtppohfgaegahoaaLaa
import Derived.Test.YtppohfgaegahoaaLy
namespace Go.Proofs.Ytppohfgaegahoaa
open Go.Tw Go.RowKit Go.Sort Go.Shelf
attribute [local irreducible] Step WL W WQ Does

theorem build_pair (v u : Value) (hv : v.oneCell' = true) (hu : u.oneCell' = true) (w : World) : (Instr.buildSlice 70 2 #[(0, v), (1, u)]).run Try.prog w = .ok (.slice (some ⟨w.heap.size, 0, none⟩) 2 2) (w.alloc (.cells #[v, u] 22)) := by
  have h1 : v.cells = #[v] := by cases v <;> first | rfl | cases hv
  have h2 : u.cells = #[u] := by cases u <;> first | rfl | cases hu
  refine run_buildN Try.underlying70 info22 (by decide) (by decide) ?_ w
  have hr : (Array.range (2 * 1)).map ((Value.slice none 0 0).cells[· % (Value.slice none 0 0).cells.size]!) = #[.slice none 0 0, .slice none 0 0] := by
    refine Array.ext (by simp) fun i h1 h2 => ?_
    have : i = 0 ∨ i = 1 := by simp at h2; omega
    rcases this with rfl | rfl <;> simp [Value.cells]
  rw [hr]
  simp [Instr.fill, h1, h2]

theorem RDos.one {S : Nat → Prop} {w : World} {v : Value} {ks : List DoS} (h : RDos S w v ks) : v.oneCell' = true := by
  obtain ⟨o, cap, rfl⟩ := h.shape; rfl

/-- what is done to a link changes no other one -/
theorem does_apart {s : NetS} (hk : s.Ok) {k : DoS} (ho : opN k.op ≤ 6) {l : Lk} (hl : l ≠ k.l) : (s.does k).1.q l = s.q l := by
  have hb := opN_bounds k.op
  have hne : ¬ k.l = l := fun e => hl e.symm
  have hcut : ∀ i, (s.cut k.l i).q l = s.q l := fun i => by rw [q_cut hk, if_neg hne]
  have hset : ∀ q, ({ s with of := aset s.of k.l q } : NetS).q l = s.q l := fun q => by rw [q_aset, if_neg hne]
  unfold NetS.does
  split
  · unfold NetS.take; split
    · rfl
    · exact hcut _
  · split
    · unfold NetS.lose; split
      · rfl
      · exact hcut _
    · split
      · unfold NetS.double; split
        · rfl
        · split
          · rfl
          · exact hset _
      · rw [if_neg (by omega), if_neg (by omega)]
        unfold NetS.send
        split
        · rfl
        · split
          · rfl
          · split
            · rfl
            · exact hset _

/-- towline towlinelaw04.LinksApart -/
theorem apart_walk {v vk : Value} (l : List DoS) (k : DoS) (w : World) (hv : RDos (fun b => b < w.heap.size) w v l) (hvk : RB (fun b => b < w.heap.size) w vk k.b) (hn : l.length ≤ 9223372036854775807) : Does Try.prog 5 #[v, .agg (doCells k vk).toArray] w (fun v' w' => v' = .bool true ∧ Up w w') := by
  obtain ⟨o, cap, hv0⟩ := hv.shape
  refine fn_of_W (rs := [4]) (N := 94) Try.func5 rfl rfl rfl (by simp) ?_
  intro ρ0 hρ0
  have r0 : ev ρ0 (.tmp 0) = v := hρ0 0
  have r1 : ev ρ0 (.tmp 1) = .agg (doCells k vk).toArray := hρ0 1
  clear hρ0
  have hu := Up.refl w
  subst hv0
  refine W.seqR ?_
  refine WL.cons rfl (st_box r1 ?_)
  intro b3 w1 m3; have B3 := m3.blk
  replace hvk := hvk.up m3.up
  replace hu := hu.trans m3.up
  refine WL.cons rfl (st_assign uc ?_)
  refine WL.nil ?_
  refine W.gen ?_; intro ρ1 hρ
  have q0 := (hρ 0).trans (un (un r0)); have q3 := (hρ 3).trans (un us)
  clear hρ r0 r1
  have r0 := q0; clear q0; have r3 := q3; clear q3
  refine W.seq ?_
  refine W.seqR ?_
  refine WL.cons rfl (st_move r0 ?_)
  refine WL.cons rfl (st_loadK Try.isAgg33 Try.sizeOf33 (un r3) (B3.row) rfl ?_)
  refine WL.cons rfl (st_bs1 us (build_do k vk) ?_)
  intro b19 w2 m19; replace hvk := hvk.up m19.up; replace B3 := B3.up m19.up; replace hu := hu.trans m19.up
  have hrd : RDos AnyB w2 (.slice (some ⟨b19, 0, none⟩) 1 1) [k] := ⟨[vk], made_sl (cells := flat [k] [vk]) (by simpa [flat] using m19) (by simp [flat, doCells]) trivial, RB.mono hvk fun _ _ _ => trivial, trivial⟩
  have hrl1 : RDos AnyB w2 (.slice o l.length cap) l := (hv.mono0).up hu
  refine WL.cons rfl (st_bs2 (un (un us)) us (build_pair _ _ rfl rfl) ?_)
  intro b20 w3 m20; have hrl : RL AnyB w3 _ [l, [k]] := ⟨_, made_sl (cells := [_, _]) m20 rfl trivial, hrl1.up m20.up, hrd.up m20.up, trivial⟩; replace hvk := hvk.up m20.up; replace B3 := B3.up m20.up; replace hu := hu.trans m20.up; clear m20
  refine WL.cons rfl (st_call1 ent10 us (((short_ok [l, [k]] _ hrl (by simp) (by simpa using hn))).mono ?_))
  intro vs w4 ⟨t, hvs, us1⟩; subst hvs; replace hvk := hvk.up us1; replace B3 := B3.up us1; replace hu := hu.trans us1; clear hrl us1 hrd m19 hrl1
  refine WL.cons rfl (st_not us ?_)
  refine WL.nil ?_
  refine W.gen ?_; intro ρ2 hρ
  have q0 := (hρ 0).trans (un (un (un (un (un (un r0)))))); have q3 := (hρ 3).trans (un (un (un (un (un (un r3)))))); have q22 := (hρ 22).trans us
  clear hρ r0 r3
  have r0 := q0; clear q0; have r3 := q3; clear q3; have r22 := q22; clear q22
  refine W.cond r22 (fun hc1 => ?_) (fun hc1 => ?_)
  · skip
    try simp only [tests] at hc1
    refine W.seqR ?_
    refine WL.cons rfl (st_call0 ent11  (((awake_ok _)).mono ?_))
    intro va w5 ⟨hva, ua⟩; subst hva; replace hu := hu.trans ua
    refine WL.cons rfl (st_assign us ?_)
    refine WL.nil ?_
    refine W.gen ?_; intro ρ3 hρ
    have q4 := (hρ 4).trans us
    clear hρ r0 r22 r3
    have r4 := q4; clear q4
    refine W.ret ?_
    refine fin1 r4 ?_
    exact ⟨rfl, hu⟩
  · skip
    try simp only [tests] at hc1
    refine W.skip ?_
    refine W.seqR ?_
    refine WL.cons rfl (st_call0 ent12  (((new_ok _)).mono ?_))
    intro vn w6 ⟨bn, bm, hvn, hbn, hbm, uN, h⟩; subst hvn; have hsN := hu.size; have hB3n := B3.lt; replace B3 := B3.up uN; replace hvk := hvk.up uN; replace hu := hu.trans uN; have h3n : b3 < bn := by omega
    have h3m : b3 < bm := by omega
    replace hbn : w.heap.size ≤ bn := by omega
    replace hbm : w.heap.size ≤ bm := by omega
    refine WL.cons rfl (st_assign us ?_)
    refine WL.nil ?_
    refine W.gen ?_; intro ρ4 hρ
    have q0 := (hρ 0).trans (un (un r0)); have q3 := (hρ 3).trans (un (un r3)); have q5 := (hρ 5).trans us
    clear hρ r0 r22 r3
    have r0 := q0; clear q0; have r3 := q3; clear q3; have r5 := q5; clear q5
    refine W.seq ?_
    refine W.seqR ?_
    refine WL.cons rfl (st_move r0 ?_)
    refine WL.cons rfl (st_lenS us Try.underlying22 ?_)
    refine WL.cons rfl (st_move uc ?_)
    refine WL.nil ?_
    refine W.gen ?_; intro ρ5 hρ
    have q3 := (hρ 3).trans (un (un (un r3))); have q5 := (hρ 5).trans (un (un (un r5))); have q25 := (hρ 25).trans (un (un us)); have q26 := (hρ 26).trans (un us)
    have q27 := (hρ 27).trans us
    clear hρ r0 r3 r5
    have r3 := q3; clear q3; have r5 := q5; clear q5; have r25 := q25; clear q25; have r26 := q26; clear q26; have r27 := q27; clear q27
    refine W.block ?_
    refine W.loop (fun nn ρ' w' => ∃ i : Nat, ev ρ' (.tmp 27) = .int .i64 (i : Int) ∧ ev ρ' (.tmp 3) = ev ρ5 (.tmp 3) ∧ ev ρ' (.tmp 5) = ev ρ5 (.tmp 5) ∧ ev ρ' (.tmp 25) = ev ρ5 (.tmp 25) ∧ ev ρ' (.tmp 26) = ev ρ5 (.tmp 26) ∧ i + nn = l.length ∧ LoopR w bn bm w' ∧ Blk w' b3 (.cells (Value.agg (doCells k vk).toArray).cells 33) ∧ RB (fun b => b < w.heap.size) w' vk k.b) (l.length) ?_ ?_
    · exact ⟨0, (by first | exact r27 | (refine r27.trans ?_; congr 1; omega) | (refine r27.trans ?_; simp)), rfl, rfl, rfl, rfl, by omega, ⟨hu, _, _, h, netOk_new⟩, B3, hvk⟩
    intro nn ρ6 w7 ⟨i, q27, q3, q5, q25, q26, hi, hL, B3, hvk⟩
    have s3 := q3; replace q3 := q3.trans r3
    have s5 := q5; replace q5 := q5.trans r5
    have s25 := q25; replace q25 := q25.trans r25
    have s26 := q26; replace q26 := q26.trans r26
    clear r25 r26 r27 r3 r5
    have r27 := q27; clear q27; have r3 := q3; clear q3; have r5 := q5; clear q5; have r25 := q25; clear q25; have r26 := q26; clear q26
    obtain ⟨hu, Sx, s, h, hk⟩ := hL
    have x0_3 := s3.symm.trans r3; clear s3
    have x0_5 := s5.symm.trans r5; clear s5
    have x0_25 := s25.symm.trans r25; clear s25
    have x0_26 := s26.symm.trans r26; clear s26
    refine W.seqR ?_
    refine WL.cons rfl (st_lss r27 r26 ?_)
    refine WL.nil ?_
    refine W.gen ?_; intro ρ7 hρ
    have q3 := (hρ 3).trans (un r3); have q5 := (hρ 5).trans (un r5); have q25 := (hρ 25).trans (un r25); have q26 := (hρ 26).trans (un r26)
    have q27 := (hρ 27).trans (un r27); have q28 := (hρ 28).trans us
    clear hρ r25 r26 r27 r3 r5
    have r3 := q3; clear q3; have r5 := q5; clear q5; have r25 := q25; clear q25; have r26 := q26; clear q26; have r27 := q27; clear q27; have r28 := q28; clear q28
    refine W.seq ?_
    refine W.cond r28 (fun hc5 => ?_) (fun hc5 => ?_)
    · skip
      try simp only [tests] at hc5
      obtain ⟨kb, koff, d, vb, rfl, hkk, hcs, hvb⟩ := (hv.up hu).at (j := i) (by omega)
      refine W.skip ?_
      refine W.seq ?_
      refine W.block ?_
      refine W.seqR ?_
      refine WL.cons rfl (st_indexAddrS r25 r27 Try.underlying22 Try.sizeOf33 (by omega) (by omega) ?_)
      refine WL.cons rfl (st_loadK Try.isAgg33 Try.sizeOf33 us (hcs) rfl ?_)
      refine WL.allocStore (v := .agg (doCells d vb).toArray) rfl (fun _ => un us) Try.zeroValue33 Try.sizeOf33 rfl (by first | rfl | kernel_rfl) (by first | exact ekL_one _ | exact do_one hvb _ | exact do_one hvk _ | simp [Value.cells, Value.oneCell']) ?_
      intro b7 w8 m7; have B7 := m7.blk
      have n3_7 : b3 ≠ b7 := by have := B3.lt; have := m7.at_; omega
      replace hvk := hvk.up m7.up
      replace B3 := B3.up m7.up
      replace h := h.up m7.up
      replace hu := hu.trans m7.up
      replace hvb := hvb.up m7.up; clear m7
      refine WL.nil ?_
      refine W.gen ?_; intro ρ8 hρ
      have q3 := (hρ 3).trans (un0 (un (un (un r3)))); have q5 := (hρ 5).trans (un0 (un (un (un r5)))); have q7 := (hρ 7).trans (un0 us); have q25 := (hρ 25).trans (un0 (un (un (un r25))))
      have q26 := (hρ 26).trans (un0 (un (un (un r26)))); have q27 := (hρ 27).trans (un0 (un (un (un r27))))
      clear hρ r25 r26 r27 r28 r3 r5
      have r3 := q3; clear q3; have r5 := q5; clear q5; have r7 := q7; clear q7; have r25 := q25; clear q25; have r26 := q26; clear q26; have r27 := q27; clear q27
      refine W.endR ?_
      refine WL.cons rfl (st_move r5 ?_)
      refine WL.cons rfl (st_loadK Try.isAgg33 Try.sizeOf33 (un r7) (B7.row) rfl ?_)
      refine WL.cons rfl (st_call2 ent13 (un us) us (((does_ok _ h hk d hvb)).mono ?_))
      intro vd w9 ⟨u, hvd, htx⟩; subst hvd
      obtain ⟨hfr, S2, h2, hS2, _⟩ := htx
      replace hu := (Frm.trans' (X := NoB) hu.frm hfr fun i hi he => by rcases he with e | e <;> omega).up
      replace B3 := B3.frm hfr (fun e => by rcases e with e | e <;> omega); replace hvk := hvk.frm hfr (fun b hb e => by have hb : b < w.heap.size := hb; rcases e with e | e <;> omega)
      clear h hfr; have h := h2; clear h2; have hk2 := hk.does d
      refine WL.nil ?_
      clear B7 hvb
      refine W.endR ?_
      refine WL.cons rfl (st_add (un (un (un r27))) uc (wr64 (by omega)) ?_)
      refine WL.cons rfl (st_move us ?_)
      refine WL.nil ?_
      exact ⟨nn - 1, (by omega), i + 1, (by first | exact us | (refine us.trans ?_; congr 1; omega) | (refine us.trans ?_; simp)), ((un (un (un (un (un r3))))).trans x0_3.symm), ((un (un (un (un (un r5))))).trans x0_5.symm), ((un (un (un (un (un r25))))).trans x0_25.symm), ((un (un (un (un (un r26))))).trans x0_26.symm), by omega, ⟨hu, _, _, h, hk2⟩, B3, hvk⟩
    · skip
      try simp only [tests] at hc5
      refine W.exit ?_
      refine exitHere ?_
      refine W.seqR ?_
      refine WL.cons rfl (st_move r5 ?_)
      refine WL.cons rfl (st_call1 ent17 us (((clone_net_ok _ h)).mono ?_))
      intro vc w10 ⟨cn, cm, sc, hvc, hcn, hcm, uC, hcl, _, _, hsame⟩; subst hvc; have hsC := hu.size; have hnl := h.blk.lt; have hml := h.map.lt; replace h := h.up uC; replace B3 := B3.up uC; replace hvk := hvk.up uC; replace hu := hu.trans uC
      refine WL.cons rfl (st_assign us ?_)
      refine WL.nil ?_
      refine W.gen ?_; intro ρ9 hρ
      have q3 := (hρ 3).trans (un (un (un r3))); have q5 := (hρ 5).trans (un (un (un r5))); have q8 := (hρ 8).trans us
      clear hρ r25 r26 r27 r28 r3 r5
      have r3 := q3; clear q3; have r5 := q5; clear q5; have r8 := q8; clear q8
      refine W.seqR ?_
      refine WL.cons rfl (st_move r5 ?_)
      refine WL.cons rfl (st_loadK Try.isAgg33 Try.sizeOf33 (un r3) (B3.row) rfl ?_)
      refine WL.cons rfl (st_call2 ent13 (un us) us (((does_ok _ h hk k hvk)).mono ?_))
      intro vd w11 ⟨u, hvd, htx⟩; subst hvd
      obtain ⟨hfr, S2, h2, hS2, _⟩ := htx
      have hold := h.old; replace hcl := hcl.frm hfr (fun e => by rcases e with e | e <;> omega) (fun e => by rcases e with e | e <;> omega) (fun b hb e => by have := (hold b hb).2; rcases e with e | e <;> omega)
      replace hu := (Frm.trans' (X := NoB) hu.frm hfr fun i hi he => by rcases he with e | e <;> omega).up
      replace B3 := B3.frm hfr (fun e => by rcases e with e | e <;> omega); replace hvk := hvk.frm hfr (fun b hb e => by have hb : b < w.heap.size := hb; rcases e with e | e <;> omega)
      clear h hfr; have h := h2; clear h2; have hk2 := hk.does k
      refine WL.nil ?_
      refine W.gen ?_; intro ρ10 hρ
      have q3 := (hρ 3).trans (un (un (un r3))); have q5 := (hρ 5).trans (un (un (un r5))); have q8 := (hρ 8).trans (un (un (un r8)))
      clear hρ r3 r5 r8
      have r3 := q3; clear q3; have r5 := q5; clear q5; have r8 := q8; clear q8
      refine W.seq ?_
      refine W.seqR ?_
      refine WL.cons rfl (st_fieldAddr (f := 0) (k := 0) r3 Try.underlying33 rfl rfl Try.sizeOf3 ?_)
      refine WL.cons rfl (st_load1 Try.isAgg3 us (B3.cell rfl) ?_)
      refine WL.cons rfl (st_conv us Try.underlying3 Try.underlying37 rfl ?_)
      refine WL.cons rfl (st_rem us uc (by omega) rfl ?_)
      refine WL.cons rfl (st_conv us Try.underlying37 Try.underlying3 (show _ = opN k.op from rfl) ?_)
      refine WL.cons rfl (st_assign us ?_)
      refine WL.nil ?_
      refine W.gen ?_; intro ρ11 hρ
      have q3 := (hρ 3).trans (un (un (un (un (un (un r3)))))); have q5 := (hρ 5).trans (un (un (un (un (un (un r5)))))); have q8 := (hρ 8).trans (un (un (un (un (un (un r8)))))); have q9 := (hρ 9).trans us
      clear hρ r3 r5 r8
      have r3 := q3; clear q3; have r5 := q5; clear q5; have r8 := q8; clear q8; have r9 := q9; clear q9
      refine W.seqR ?_
      refine WL.cons rfl (st_move r9 ?_)
      refine WL.cons rfl (st_gtr us uc ?_)
      refine WL.nil ?_
      refine W.gen ?_; intro ρ12 hρ
      have q3 := (hρ 3).trans (un (un r3)); have q5 := (hρ 5).trans (un (un r5)); have q8 := (hρ 8).trans (un (un r8)); have q46 := (hρ 46).trans us
      clear hρ r3 r5 r8 r9
      have r3 := q3; clear q3; have r5 := q5; clear q5; have r8 := q8; clear q8; have r46 := q46; clear q46
      refine W.cond r46 (fun hc12 => ?_) (fun hc12 => ?_)
      · skip
        try simp only [tests] at hc12
        refine W.seqR ?_
        refine WL.cons rfl (st_call0 ent11  (((awake_ok _)).mono ?_))
        intro va w12 ⟨hva, ua⟩; subst hva; replace hu := hu.trans ua
        refine WL.cons rfl (st_assign us ?_)
        refine WL.nil ?_
        refine W.gen ?_; intro ρ13 hρ
        have q4 := (hρ 4).trans us
        clear hρ r3 r46 r5 r8
        have r4 := q4; clear q4
        refine W.ret ?_
        refine fin1 r4 ?_
        exact ⟨rfl, hu⟩
      · skip
        try simp only [tests] at hc12
        have ho : opN k.op ≤ 6 := by omega
        have hq : ∀ lk, sc.q lk = s.q lk := fun lk => by unfold NetS.q; rw [hsame]
        have hck : sc.Ok := ⟨hcl.map.nodup, fun x hx => hk.fits x (by rw [← hsame]; exact hx), fun x q hx => hk.ne x q (by rw [← hsame]; exact hx), fun x => by rw [hq]; exact hk.max x, fun x m hm => hk.short x m (by rw [← hq]; exact hm)⟩
        refine W.skip ?_
        refine W.seq ?_
        refine W.seqR ?_
        refine WL.cons rfl (st_move r8 ?_)
        refine WL.cons rfl (st_call1 ent15 us (((busy_ok _ hcl hck)).mono ?_))
        intro vB w13 ⟨d, _, hsl, hprm, ub⟩
        obtain ⟨oB, cB, hvB, _, _⟩ := id hsl; subst hvB; replace h := h.up ub; replace hcl := hcl.up ub; replace B3 := B3.up ub; replace hu := hu.trans ub
        have hd1024 : d.size ≤ 1024 := by
          have h1 := hprm.length_eq
          have h2 := fits_few hck.nodup fun l hl => key_fits hck hl
          rw [List.length_map, Array.length_toList] at h1
          omega
        refine WL.cons rfl (st_lenS us Try.underlying43 ?_)
        refine WL.cons rfl (st_move uc ?_)
        refine WL.nil ?_
        refine W.gen ?_; intro ρ14 hρ
        have q3 := (hρ 3).trans (un (un (un (un r3)))); have q5 := (hρ 5).trans (un (un (un (un r5)))); have q8 := (hρ 8).trans (un (un (un (un r8)))); have q49 := (hρ 49).trans (un (un us))
        have q50 := (hρ 50).trans (un us); have q51 := (hρ 51).trans us
        clear hρ r3 r46 r5 r8
        have r3 := q3; clear q3; have r5 := q5; clear q5; have r8 := q8; clear q8; have r49 := q49; clear q49; have r50 := q50; clear q50; have r51 := q51; clear q51
        refine W.block ?_
        refine W.loop (fun nn ρ' w' => ∃ i : Nat, ev ρ' (.tmp 51) = .int .i64 (i : Int) ∧ ev ρ' (.tmp 3) = ev ρ14 (.tmp 3) ∧ ev ρ' (.tmp 5) = ev ρ14 (.tmp 5) ∧ ev ρ' (.tmp 8) = ev ρ14 (.tmp 8) ∧ ev ρ' (.tmp 49) = ev ρ14 (.tmp 49) ∧ ev ρ' (.tmp 50) = ev ρ14 (.tmp 50) ∧ i + nn = d.size ∧ Up w w' ∧ NetR S2 w' bn bm (s.does k).1 ∧ NetR Sx w' cn cm sc ∧ SlV AnyB w' (.slice oB d.size cB) d.size 2 (lkC (d.toList.map toL)) ∧ Blk w' b3 (.cells (Value.agg (doCells k vk).toArray).cells 33)) (d.size) ?_ ?_
        · exact ⟨0, (by first | exact r51 | (refine r51.trans ?_; congr 1; omega) | (refine r51.trans ?_; simp)), rfl, rfl, rfl, rfl, rfl, by omega, hu, h, hcl, hsl, B3⟩
        intro nn ρ15 w14 ⟨i, q51, q3, q5, q8, q49, q50, hj, hu, h, hcl, hsl, B3⟩
        have s3 := q3; replace q3 := q3.trans r3
        have s5 := q5; replace q5 := q5.trans r5
        have s8 := q8; replace q8 := q8.trans r8
        have s49 := q49; replace q49 := q49.trans r49
        have s50 := q50; replace q50 := q50.trans r50
        clear r3 r49 r5 r50 r51 r8
        have r51 := q51; clear q51; have r3 := q3; clear q3; have r5 := q5; clear q5; have r8 := q8; clear q8; have r49 := q49; clear q49; have r50 := q50; clear q50
        have x2_3 := s3.symm.trans r3; clear s3
        have x2_5 := s5.symm.trans r5; clear s5
        have x2_8 := s8.symm.trans r8; clear s8
        have x2_49 := s49.symm.trans r49; clear s49
        have x2_50 := s50.symm.trans r50; clear s50
        refine W.seqR ?_
        refine WL.cons rfl (st_lss r51 r50 ?_)
        refine WL.nil ?_
        refine W.gen ?_; intro ρ16 hρ
        have q3 := (hρ 3).trans (un r3); have q5 := (hρ 5).trans (un r5); have q8 := (hρ 8).trans (un r8); have q49 := (hρ 49).trans (un r49)
        have q50 := (hρ 50).trans (un r50); have q51 := (hρ 51).trans (un r51); have q52 := (hρ 52).trans us
        clear hρ r3 r49 r5 r50 r51 r8
        have r3 := q3; clear q3; have r5 := q5; clear q5; have r8 := q8; clear q8; have r49 := q49; clear q49; have r50 := q50; clear q50; have r51 := q51; clear q51; have r52 := q52; clear q52
        refine W.seq ?_
        refine W.cond r52 (fun hc15 => ?_) (fun hc15 => ?_)
        · skip
          try simp only [tests] at hc15
          obtain ⟨m1, rfl⟩ : ∃ m1, nn = m1 + 1 := ⟨nn - 1, by omega⟩
          obtain ⟨oB2, cB2, heB, _, hcB⟩ := id hsl; cases heB
          obtain ⟨bb, off, rfl, _, hcc⟩ := hcB (by omega)
          have hlt : i < (d.toList.map toL).length := by simp; omega
          obtain ⟨lk, hlk⟩ : ∃ lk, (d.toList.map toL)[i]? = some lk := ⟨_, List.getElem?_eq_getElem hlt⟩
          have hat := lkC_at hcc hlk
          refine W.skip ?_
          refine W.seq ?_
          refine W.block ?_
          refine W.seqR ?_
          refine WL.cons rfl (st_indexAddrS r49 r51 Try.underlying43 Try.sizeOf29 (by omega) (by omega) ?_)
          refine WL.cons rfl (st_loadK Try.isAgg29 Try.sizeOf29 us (hat) rfl ?_)
          refine WL.allocStore (v := ekL lk) rfl (fun _ => un us) Try.zeroValue29 Try.sizeOf29 rfl (by first | rfl | kernel_rfl) (by first | exact ekL_one _ | exact do_one hvb _ | exact do_one hvk _ | simp [Value.cells, Value.oneCell']) ?_
          intro b11 w15 m11; have B11 := m11.blk
          have n3_11 : b3 ≠ b11 := by have := B3.lt; have := m11.at_; omega
          replace B3 := B3.up m11.up
          replace h := h.up m11.up
          replace hcl := hcl.up m11.up
          replace hsl := hsl.up m11.up
          replace hu := hu.trans m11.up
          refine WL.nil ?_
          refine W.gen ?_; intro ρ17 hρ
          have q3 := (hρ 3).trans (un0 (un (un (un r3)))); have q5 := (hρ 5).trans (un0 (un (un (un r5)))); have q8 := (hρ 8).trans (un0 (un (un (un r8)))); have q11 := (hρ 11).trans (un0 us)
          have q49 := (hρ 49).trans (un0 (un (un (un r49)))); have q50 := (hρ 50).trans (un0 (un (un (un r50)))); have q51 := (hρ 51).trans (un0 (un (un (un r51))))
          clear hρ r3 r49 r5 r50 r51 r52 r8
          have r3 := q3; clear q3; have r5 := q5; clear q5; have r8 := q8; clear q8; have r11 := q11; clear q11; have r49 := q49; clear q49; have r50 := q50; clear q50; have r51 := q51; clear q51
          refine W.seq ?_
          refine W.seqR ?_
          refine WL.cons rfl (st_loadK Try.isAgg29 Try.sizeOf29 r11 (cells2 (B11.cell rfl) (B11.cell rfl)) rfl ?_)
          refine WL.cons rfl (st_fieldAddr (f := 2) (k := 1) (un r3) Try.underlying33 rfl rfl Try.sizeOf29 ?_)
          refine WL.cons rfl (st_loadK Try.isAgg29 Try.sizeOf29 us (cells2 (B3.cell rfl) (B3.cell rfl)) rfl ?_)
          refine WL.cons rfl (st_bin (w' := w15) (r := .bool (decide (lk = k.l))) (un (un us)) us (run_eqGuard_agg _ _ _ _ _ _ _ (by kernel_rfl)) (by have := eq_link lk k.l w15; unfold Op.equal Op.maxDepth at this; rw [run_eql_struct]; show ((Op.equalIn 10000 29 (ekL lk) (ekL k.l)).run _ _).andThen _ = _; rw [this]; rfl) ?_)
          refine WL.nil ?_
          refine W.gen ?_; intro ρ18 hρ
          have q3 := (hρ 3).trans (un (un (un (un r3)))); have q5 := (hρ 5).trans (un (un (un (un r5)))); have q8 := (hρ 8).trans (un (un (un (un r8)))); have q11 := (hρ 11).trans (un (un (un (un r11))))
          have q49 := (hρ 49).trans (un (un (un (un r49)))); have q50 := (hρ 50).trans (un (un (un (un r50)))); have q51 := (hρ 51).trans (un (un (un (un r51)))); have q58 := (hρ 58).trans us
          clear hρ r11 r3 r49 r5 r50 r51 r8
          have r3 := q3; clear q3; have r5 := q5; clear q5; have r8 := q8; clear q8; have r11 := q11; clear q11; have r49 := q49; clear q49; have r50 := q50; clear q50; have r51 := q51; clear q51; have r58 := q58; clear q58
          refine W.cond r58 (fun hc17 => ?_) (fun hc17 => ?_)
          · skip
            try simp only [tests] at hc17
            refine W.exit ?_
            refine exitHere ?_
            refine W.endR ?_
            refine WL.cons rfl (st_add r51 uc (wr64 (by omega)) ?_)
            refine WL.cons rfl (st_move us ?_)
            refine WL.nil ?_
            exact ⟨m1, (by omega), i + 1, (by first | exact us | (refine us.trans ?_; congr 1; omega) | (refine us.trans ?_; simp)), ((un (un r3)).trans x2_3.symm), ((un (un r5)).trans x2_5.symm), ((un (un r8)).trans x2_8.symm), ((un (un r49)).trans x2_49.symm), ((un (un r50)).trans x2_50.symm), by omega, hu, h, hcl, hsl, B3⟩
          · skip
            try simp only [tests] at hc17
            have hql : (s.does k).1.q lk = s.q lk := does_apart hk ho hc17
            refine W.skip ?_
            refine W.seq ?_
            refine W.quietR mixed 7 (by kernel_rfl) ?_
            refine WQ.cons (fun w' hq => st_move r5 ⟨rfl, Up.refl _⟩) ?_
            refine WQ.cons (fun w' hq => st_loadK Try.isAgg29 Try.sizeOf29 (un r11) (cells2 ((B11.up hq).cell rfl) ((B11.up hq).cell rfl)) rfl ⟨rfl, Up.refl _⟩) ?_
            refine WQ.cons (fun w' hq => by
                refine st_call2 ent16 (un us) us (((len_ok _ (h.up hq) lk)).mono ?_); exact fun v w2 hv => hv) ?_
            refine WQ.cons (fun w' hq => st_move (un (un (un r8))) ⟨rfl, Up.refl _⟩) ?_
            refine WQ.cons (fun w' hq => st_loadK Try.isAgg29 Try.sizeOf29 (un (un (un (un r11)))) (cells2 ((B11.up hq).cell rfl) ((B11.up hq).cell rfl)) rfl ⟨rfl, Up.refl _⟩) ?_
            refine WQ.cons (fun w' hq => by
                refine st_call2 ent16 (un us) us (((len_ok _ (hcl.up hq) lk)).mono ?_); exact fun v w2 hv => hv) ?_
            refine WQ.cons (fun w' hq => st_neq (un (un (un us))) us ⟨rfl, Up.refl _⟩) ?_
            refine WQ.nil ?_
            intro w16 hq18
            replace B3 := B3.up hq18
            replace h := h.up hq18
            replace hcl := hcl.up hq18
            replace hsl := hsl.up hq18
            replace B11 := B11.up hq18
            replace hu := hu.trans hq18
            refine WL.nil ?_
            refine W.gen ?_; intro ρ19 hρ
            have q3 := (hρ 3).trans (un (un (un (un (un (un (un r3))))))); have q5 := (hρ 5).trans (un (un (un (un (un (un (un r5))))))); have q8 := (hρ 8).trans (un (un (un (un (un (un (un r8))))))); have q11 := (hρ 11).trans (un (un (un (un (un (un (un r11)))))))
            have q49 := (hρ 49).trans (un (un (un (un (un (un (un r49))))))); have q50 := (hρ 50).trans (un (un (un (un (un (un (un r50))))))); have q51 := (hρ 51).trans (un (un (un (un (un (un (un r51))))))); have q65 := (hρ 65).trans us
            clear hρ r11 r3 r49 r5 r50 r51 r58 r8
            have r3 := q3; clear q3; have r5 := q5; clear q5; have r8 := q8; clear q8; have r11 := q11; clear q11; have r49 := q49; clear q49; have r50 := q50; clear q50; have r51 := q51; clear q51; have r65 := q65; clear q65
            refine W.condF r65 (by rw [hql, hq]; simp) ?_
            refine W.skip ?_
            refine W.seqR ?_
            refine WL.cons rfl (st_move r8 ?_)
            refine WL.cons rfl (st_loadK Try.isAgg29 Try.sizeOf29 (un r11) (cells2 (B11.cell rfl) (B11.cell rfl)) rfl ?_)
            refine WL.cons rfl (st_call2 ent16 (un us) us (((len_ok _ hcl lk)).mono ?_))
            intro vl w17 ⟨hvl, ul⟩; subst hvl
            replace B3 := B3.up ul
            replace h := h.up ul
            replace hcl := hcl.up ul
            replace hsl := hsl.up ul
            replace B11 := B11.up ul
            replace hu := hu.trans ul
            refine WL.cons rfl (st_move uc ?_)
            refine WL.nil ?_
            refine W.gen ?_; intro ρ20 hρ
            have q3 := (hρ 3).trans (un (un (un (un r3)))); have q5 := (hρ 5).trans (un (un (un (un r5)))); have q8 := (hρ 8).trans (un (un (un (un r8)))); have q11 := (hρ 11).trans (un (un (un (un r11))))
            have q49 := (hρ 49).trans (un (un (un (un r49)))); have q50 := (hρ 50).trans (un (un (un (un r50)))); have q51 := (hρ 51).trans (un (un (un (un r51)))); have q68 := (hρ 68).trans (un us)
            have q69 := (hρ 69).trans us
            clear hρ r11 r3 r49 r5 r50 r51 r65 r8
            have r3 := q3; clear q3; have r5 := q5; clear q5; have r8 := q8; clear q8; have r11 := q11; clear q11; have r49 := q49; clear q49; have r50 := q50; clear q50; have r51 := q51; clear q51; have r68 := q68; clear q68; have r69 := q69; clear q69
            refine W.block ?_
            refine W.loop (fun nn ρ' w' => ∃ j : Nat, ev ρ' (.tmp 69) = .int .i64 (j : Int) ∧ ev ρ' (.tmp 3) = ev ρ20 (.tmp 3) ∧ ev ρ' (.tmp 5) = ev ρ20 (.tmp 5) ∧ ev ρ' (.tmp 8) = ev ρ20 (.tmp 8) ∧ ev ρ' (.tmp 11) = ev ρ20 (.tmp 11) ∧ ev ρ' (.tmp 49) = ev ρ20 (.tmp 49) ∧ ev ρ' (.tmp 50) = ev ρ20 (.tmp 50) ∧ ev ρ' (.tmp 51) = ev ρ20 (.tmp 51) ∧ ev ρ' (.tmp 68) = ev ρ20 (.tmp 68) ∧ j + nn = (sc.q lk).length ∧ Up w w' ∧ NetR S2 w' bn bm (s.does k).1 ∧ NetR Sx w' cn cm sc ∧ SlV AnyB w' (.slice (some ⟨bb, off, none⟩) d.size cB) d.size 2 (lkC (d.toList.map toL)) ∧ Blk w' b3 (.cells (Value.agg (doCells k vk).toArray).cells 33) ∧ Blk w' b11 (.cells (ekL lk).cells 29)) ((sc.q lk).length) ?_ ?_
            · exact ⟨0, (by first | exact r69 | (refine r69.trans ?_; congr 1; omega) | (refine r69.trans ?_; simp)), rfl, rfl, rfl, rfl, rfl, rfl, rfl, rfl, by omega, hu, h, hcl, hsl, B3, B11⟩
            intro nn ρ21 w18 ⟨j, q69, q3, q5, q8, q11, q49, q50, q51, q68, hjj, hu, h, hcl, hsl, B3, B11⟩
            have s3 := q3; replace q3 := q3.trans r3
            have s5 := q5; replace q5 := q5.trans r5
            have s8 := q8; replace q8 := q8.trans r8
            have s11 := q11; replace q11 := q11.trans r11
            have s49 := q49; replace q49 := q49.trans r49
            have s50 := q50; replace q50 := q50.trans r50
            have s51 := q51; replace q51 := q51.trans r51
            have s68 := q68; replace q68 := q68.trans r68
            clear r11 r3 r49 r5 r50 r51 r68 r69 r8
            have r69 := q69; clear q69; have r3 := q3; clear q3; have r5 := q5; clear q5; have r8 := q8; clear q8; have r11 := q11; clear q11; have r49 := q49; clear q49; have r50 := q50; clear q50; have r51 := q51; clear q51; have r68 := q68; clear q68
            have x4_3 := s3.symm.trans r3; clear s3
            have x4_5 := s5.symm.trans r5; clear s5
            have x4_8 := s8.symm.trans r8; clear s8
            have x4_11 := s11.symm.trans r11; clear s11
            have x4_49 := s49.symm.trans r49; clear s49
            have x4_50 := s50.symm.trans r50; clear s50
            have x4_51 := s51.symm.trans r51; clear s51
            have x4_68 := s68.symm.trans r68; clear s68
            refine W.seqR ?_
            refine WL.cons rfl (st_lss r69 r68 ?_)
            refine WL.nil ?_
            refine W.gen ?_; intro ρ22 hρ
            have q3 := (hρ 3).trans (un r3); have q5 := (hρ 5).trans (un r5); have q8 := (hρ 8).trans (un r8); have q11 := (hρ 11).trans (un r11)
            have q49 := (hρ 49).trans (un r49); have q50 := (hρ 50).trans (un r50); have q51 := (hρ 51).trans (un r51); have q68 := (hρ 68).trans (un r68)
            have q69 := (hρ 69).trans (un r69); have q70 := (hρ 70).trans us
            clear hρ r11 r3 r49 r5 r50 r51 r68 r69 r8
            have r3 := q3; clear q3; have r5 := q5; clear q5; have r8 := q8; clear q8; have r11 := q11; clear q11; have r49 := q49; clear q49; have r50 := q50; clear q50; have r51 := q51; clear q51; have r68 := q68; clear q68; have r69 := q69; clear q69; have r70 := q70; clear q70
            refine W.seq ?_
            refine W.cond r70 (fun hc21 => ?_) (fun hc21 => ?_)
            · skip
              try simp only [tests] at hc21
              have hab1 : (s.does k).1.able lk (j : Int) = sc.able lk (j : Int) := by unfold NetS.able; rw [hql, hq]
              have hmx := hk.max lk; rw [← hq] at hmx
              refine W.skip ?_
              refine W.seq ?_
              refine W.block ?_
              refine W.seqR ?_
              refine WL.cons rfl (st_move r69 ?_)
              refine WL.cons rfl (st_assign us ?_)
              refine WL.nil ?_
              refine W.gen ?_; intro ρ23 hρ
              have q3 := (hρ 3).trans (un (un r3)); have q5 := (hρ 5).trans (un (un r5)); have q8 := (hρ 8).trans (un (un r8)); have q11 := (hρ 11).trans (un (un r11))
              have q12 := (hρ 12).trans us; have q49 := (hρ 49).trans (un (un r49)); have q50 := (hρ 50).trans (un (un r50)); have q51 := (hρ 51).trans (un (un r51))
              have q68 := (hρ 68).trans (un (un r68)); have q69 := (hρ 69).trans (un (un r69))
              clear hρ r11 r3 r49 r5 r50 r51 r68 r69 r70 r8
              have r3 := q3; clear q3; have r5 := q5; clear q5; have r8 := q8; clear q8; have r11 := q11; clear q11; have r12 := q12; clear q12; have r49 := q49; clear q49; have r50 := q50; clear q50; have r51 := q51; clear q51; have r68 := q68; clear q68; have r69 := q69; clear q69
              refine W.seqR ?_
              refine WL.cons rfl (st_move r5 ?_)
              refine WL.cons rfl (st_loadK Try.isAgg29 Try.sizeOf29 (un r11) (cells2 (B11.cell rfl) (B11.cell rfl)) rfl ?_)
              refine WL.cons rfl (st_move (un (un r12)) ?_)
              refine WL.cons rfl (st_call3 ent14 (un (un us)) (un us) us (((peek_ok _ h hk2 lk (j : Int))).mono ?_))
              intro vp w19 ⟨x, hvp, uP, hrx⟩; subst hvp
              replace B3 := B3.up uP
              replace h := h.up uP
              replace hcl := hcl.up uP
              replace hsl := hsl.up uP
              replace B11 := B11.up uP
              replace hu := hu.trans uP
              refine WL.cons rfl (st_move us ?_)
              refine WL.cons rfl (st_extract us rfl ?_)
              refine WL.cons rfl (st_extract (un us) rfl ?_)
              refine WL.cons rfl (st_assign (un us) ?_)
              refine WL.cons rfl (st_assign (un us) ?_)
              refine WL.nil ?_
              refine W.gen ?_; intro ρ24 hρ
              have q3 := (hρ 3).trans (un (un (un (un (un (un (un (un (un r3))))))))); have q5 := (hρ 5).trans (un (un (un (un (un (un (un (un (un r5))))))))); have q8 := (hρ 8).trans (un (un (un (un (un (un (un (un (un r8))))))))); have q11 := (hρ 11).trans (un (un (un (un (un (un (un (un (un r11)))))))))
              have q12 := (hρ 12).trans (un (un (un (un (un (un (un (un (un r12))))))))); have q13 := (hρ 13).trans (un us); have q49 := (hρ 49).trans (un (un (un (un (un (un (un (un (un r49))))))))); have q50 := (hρ 50).trans (un (un (un (un (un (un (un (un (un r50)))))))))
              have q51 := (hρ 51).trans (un (un (un (un (un (un (un (un (un r51))))))))); have q68 := (hρ 68).trans (un (un (un (un (un (un (un (un (un r68))))))))); have q69 := (hρ 69).trans (un (un (un (un (un (un (un (un (un r69)))))))))
              clear hρ r11 r12 r3 r49 r5 r50 r51 r68 r69 r8
              have r3 := q3; clear q3; have r5 := q5; clear q5; have r8 := q8; clear q8; have r11 := q11; clear q11; have r12 := q12; clear q12; have r13 := q13; clear q13; have r49 := q49; clear q49; have r50 := q50; clear q50; have r51 := q51; clear q51; have r68 := q68; clear q68; have r69 := q69; clear q69
              refine W.seqR ?_
              refine WL.cons rfl (st_move r8 ?_)
              refine WL.cons rfl (st_loadK Try.isAgg29 Try.sizeOf29 (un r11) (cells2 (B11.cell rfl) (B11.cell rfl)) rfl ?_)
              refine WL.cons rfl (st_move (un (un r12)) ?_)
              
              refine WL.cons rfl (st_call3 ent14 (un (un us)) (un us) us (((peek_ok _ hcl hck lk (j : Int))).mono ?_))
              intro vp w20 ⟨y, hvp, uP, hry⟩; subst hvp; have hux := uP
              replace B3 := B3.up uP
              replace h := h.up uP
              replace hcl := hcl.up uP
              replace hsl := hsl.up uP
              replace B11 := B11.up uP
              replace hu := hu.trans uP
              refine WL.cons rfl (st_move us ?_)
              refine WL.cons rfl (st_extract us rfl ?_)
              refine WL.cons rfl (st_extract (un us) rfl ?_)
              refine WL.cons rfl (st_assign (un us) ?_)
              refine WL.cons rfl (st_assign (un us) ?_)
              refine WL.nil ?_
              refine W.gen ?_; intro ρ25 hρ
              have q3 := (hρ 3).trans (un (un (un (un (un (un (un (un (un r3))))))))); have q5 := (hρ 5).trans (un (un (un (un (un (un (un (un (un r5))))))))); have q8 := (hρ 8).trans (un (un (un (un (un (un (un (un (un r8))))))))); have q11 := (hρ 11).trans (un (un (un (un (un (un (un (un (un r11)))))))))
              have q13 := (hρ 13).trans (un (un (un (un (un (un (un (un (un r13))))))))); have q15 := (hρ 15).trans (un us); have q49 := (hρ 49).trans (un (un (un (un (un (un (un (un (un r49))))))))); have q50 := (hρ 50).trans (un (un (un (un (un (un (un (un (un r50)))))))))
              have q51 := (hρ 51).trans (un (un (un (un (un (un (un (un (un r51))))))))); have q68 := (hρ 68).trans (un (un (un (un (un (un (un (un (un r68))))))))); have q69 := (hρ 69).trans (un (un (un (un (un (un (un (un (un r69)))))))))
              clear hρ r11 r12 r13 r3 r49 r5 r50 r51 r68 r69 r8
              have r3 := q3; clear q3; have r5 := q5; clear q5; have r8 := q8; clear q8; have r11 := q11; clear q11; have r13 := q13; clear q13; have r15 := q15; clear q15; have r49 := q49; clear q49; have r50 := q50; clear q50; have r51 := q51; clear q51; have r68 := q68; clear q68; have r69 := q69; clear q69
              
              refine W.seqR ?_
              refine WL.cons rfl (st_move r13 ?_)
              refine WL.cons rfl (st_string us (hrx.up hux) Try.underlying30 Try.underlying5 Try.underlying9 ?_)
              refine WL.cons rfl (st_move (un (un r15)) ?_)
              refine WL.cons rfl (st_string us hry Try.underlying30 Try.underlying5 Try.underlying9 ?_)
              refine WL.cons rfl (st_neqS (un (un us)) us ?_)
              refine WL.nil ?_
              refine W.gen ?_; intro ρ26 hρ
              have q3 := (hρ 3).trans (un (un (un (un (un r3))))); have q5 := (hρ 5).trans (un (un (un (un (un r5))))); have q8 := (hρ 8).trans (un (un (un (un (un r8))))); have q11 := (hρ 11).trans (un (un (un (un (un r11)))))
              have q49 := (hρ 49).trans (un (un (un (un (un r49))))); have q50 := (hρ 50).trans (un (un (un (un (un r50))))); have q51 := (hρ 51).trans (un (un (un (un (un r51))))); have q68 := (hρ 68).trans (un (un (un (un (un r68)))))
              have q69 := (hρ 69).trans (un (un (un (un (un r69))))); have q90 := (hρ 90).trans us
              clear hρ r11 r13 r15 r3 r49 r5 r50 r51 r68 r69 r8
              have r3 := q3; clear q3; have r5 := q5; clear q5; have r8 := q8; clear q8; have r11 := q11; clear q11; have r49 := q49; clear q49; have r50 := q50; clear q50; have r51 := q51; clear q51; have r68 := q68; clear q68; have r69 := q69; clear q69; have r90 := q90; clear q90
              refine W.condF r90 (by rw [hab1, hql, hq]; simp) ?_
              refine W.skip ?_
              refine W.endR ?_
              refine WL.cons rfl (st_add r69 uc (wr64 (by omega)) ?_)
              refine WL.cons rfl (st_move us ?_)
              refine WL.nil ?_
              exact ⟨nn - 1, (by omega), j + 1, (by first | exact us | (refine us.trans ?_; congr 1; omega) | (refine us.trans ?_; simp)), ((un (un r3)).trans x4_3.symm), ((un (un r5)).trans x4_5.symm), ((un (un r8)).trans x4_8.symm), ((un (un r11)).trans x4_11.symm), ((un (un r49)).trans x4_49.symm), ((un (un r50)).trans x4_50.symm), ((un (un r51)).trans x4_51.symm), ((un (un r68)).trans x4_68.symm), by omega, hu, h, hcl, hsl, B3, B11⟩
            · skip
              try simp only [tests] at hc21
              refine W.exit ?_
              refine exitHere ?_
              refine W.endR ?_
              refine WL.cons rfl (st_add r51 uc (wr64 (by omega)) ?_)
              refine WL.cons rfl (st_move us ?_)
              refine WL.nil ?_
              exact ⟨m1, (by omega), i + 1, (by first | exact us | (refine us.trans ?_; congr 1; omega) | (refine us.trans ?_; simp)), ((un (un r3)).trans x2_3.symm), ((un (un r5)).trans x2_5.symm), ((un (un r8)).trans x2_8.symm), ((un (un r49)).trans x2_49.symm), ((un (un r50)).trans x2_50.symm), by omega, hu, h, hcl, hsl, B3⟩
        · skip
          try simp only [tests] at hc15
          refine W.exit ?_
          refine exitHere ?_
          refine W.seqR ?_
          refine WL.cons rfl (st_call0 ent11  (((awake_ok _)).mono ?_))
          intro va w21 ⟨hva, ua⟩; subst hva; replace hu := hu.trans ua
          refine WL.cons rfl (st_assign us ?_)
          refine WL.nil ?_
          refine W.gen ?_; intro ρ27 hρ
          have q4 := (hρ 4).trans us
          clear hρ r3 r49 r5 r50 r51 r52 r8
          have r4 := q4; clear q4
          refine W.ret ?_
          refine fin1 r4 ?_
          exact ⟨rfl, hu⟩

end Go.Proofs.Ytppohfgaegahoaa
