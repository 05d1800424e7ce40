/- Walk: LinksRoom. -/
import Derived.Test.YtppohfgaegahoaaLx
import Derived.Test.YtppohfgaegahoaaLs
namespace Go.Proofs.Ytppohfgaegahoaa
open Go.Tw Go.RowKit Go.Sort Go.Shelf
attribute [local irreducible] Step WL W WQ Does

def LoopR (w : World) (bn bm : Nat) (w' : World) : Prop := Up w w' ∧ ∃ S s, NetR S w' bn bm s ∧ s.Ok

theorem lkC_at {w : World} {b off i : Nat} {ks : List Lk} {l : Lk} (h : Cells w b off (lkC ks)) (hi : ks[i]? = some l) : Cells w b (off + i * 2) (lk2 l) := by
  intro c v hv
  obtain ⟨hlt, he⟩ := List.getElem?_eq_some_iff.1 hi
  have hc : c < 2 := by have := (List.getElem?_eq_some_iff.1 hv).1; simpa [lk2] using this
  have := h (i * 2 + c) v (by rw [lkC_get ks i c hlt hc, he]; exact hv)
  rwa [← Nat.add_assoc] at this

theorem key_len {s : NetS} (hk : s.Ok) {l : Lk} (h : l ∈ akeys s.of) : 1 ≤ (s.q l).length ∧ (s.q l).length ≤ 8 := by
  refine ⟨?_, hk.max l⟩
  cases e : aget s.of l with
  | none => exact absurd h (aget_none.1 e)
  | some q =>
    have hq : s.q l = q := by unfold NetS.q; rw [e]; rfl
    rw [hq]
    exact List.length_pos_iff.2 (hk.ne l q e)

/-- towline towlinelaw04.LinksRoom -/
theorem room_walk {v : Value} (l : List DoS) (w : World) (hv : RDos (fun b => b < w.heap.size) w v l) (hn : l.length ≤ 9223372036854775807) : Does Try.prog 4 #[v] w (fun v' w' => v' = .bool true ∧ Up w w') := by
  obtain ⟨o, cap, hv0⟩ := hv.shape
  refine fn_of_W (rs := [2]) (N := 43) Try.func4 rfl rfl rfl (by simp) ?_
  intro ρ0 hρ0
  have r0 : ev ρ0 (.tmp 0) = v := hρ0 0
  clear hρ0
  have hu := Up.refl w
  subst hv0
  refine W.seqR ?_
  refine WL.cons rfl (st_assign uc ?_)
  refine WL.nil ?_
  refine W.gen ?_; intro ρ1 hρ
  have q0 := (hρ 0).trans (un r0)
  clear hρ r0
  have r0 := q0; clear q0
  refine W.seq ?_
  refine W.seqR ?_
  refine WL.cons rfl (st_move r0 ?_)
  refine WL.cons rfl (st_build1 us Try.underlying70 info22 rfl rfl ?_)
  intro b1 w1 m1; have hrl : RL AnyB w1 _ [l] := ⟨_, made_sl (cells := [_]) m1 rfl trivial, ((hv.mono0).up m1.up), trivial⟩; replace hu := hu.trans m1.up; clear m1
  refine WL.cons rfl (st_call1 ent10 us (((short_ok [l] _ hrl (by simp) (by simpa using hn))).mono ?_))
  intro vs w2 ⟨t, hvs, us1⟩; subst hvs; replace hu := hu.trans us1; clear hrl us1
  refine WL.cons rfl (st_not us ?_)
  refine WL.nil ?_
  refine W.gen ?_; intro ρ2 hρ
  have q0 := (hρ 0).trans (un (un (un (un r0)))); have q11 := (hρ 11).trans us
  clear hρ r0
  have r0 := q0; clear q0; have r11 := q11; clear q11
  refine W.cond r11 (fun hc1 => ?_) (fun hc1 => ?_)
  · skip
    try simp only [tests] at hc1
    refine W.seqR ?_
    refine WL.cons rfl (st_call0 ent11  (((awake_ok _)).mono ?_))
    intro va w3 ⟨hva, ua⟩; subst hva; replace hu := hu.trans ua
    refine WL.cons rfl (st_assign us ?_)
    refine WL.nil ?_
    refine W.gen ?_; intro ρ3 hρ
    have q2 := (hρ 2).trans us
    clear hρ r0 r11
    have r2 := q2; clear q2
    refine W.ret ?_
    refine fin1 r2 ?_
    exact ⟨rfl, hu⟩
  · skip
    try simp only [tests] at hc1
    refine W.skip ?_
    refine W.seqR ?_
    refine WL.cons rfl (st_call0 ent12  (((new_ok _)).mono ?_))
    intro vn w4 ⟨bn, bm, hvn, hbn, hbm, uN, h⟩; subst hvn; have hsN := hu.size; replace hu := hu.trans uN; replace hbn : w.heap.size ≤ bn := by omega
    replace hbm : w.heap.size ≤ bm := by omega
    refine WL.cons rfl (st_assign us ?_)
    refine WL.nil ?_
    refine W.gen ?_; intro ρ4 hρ
    have q0 := (hρ 0).trans (un (un r0)); have q3 := (hρ 3).trans us
    clear hρ r0 r11
    have r0 := q0; clear q0; have r3 := q3; clear q3
    refine W.seq ?_
    refine W.seqR ?_
    refine WL.cons rfl (st_move r0 ?_)
    refine WL.cons rfl (st_lenS us Try.underlying22 ?_)
    refine WL.cons rfl (st_move uc ?_)
    refine WL.nil ?_
    refine W.gen ?_; intro ρ5 hρ
    have q3 := (hρ 3).trans (un (un (un r3))); have q14 := (hρ 14).trans (un (un us)); have q15 := (hρ 15).trans (un us); have q16 := (hρ 16).trans us
    clear hρ r0 r3
    have r3 := q3; clear q3; have r14 := q14; clear q14; have r15 := q15; clear q15; have r16 := q16; clear q16
    refine W.block ?_
    refine W.loop (fun nn ρ' w' => ∃ i : Nat, ev ρ' (.tmp 16) = .int .i64 (i : Int) ∧ ev ρ' (.tmp 3) = ev ρ5 (.tmp 3) ∧ ev ρ' (.tmp 14) = ev ρ5 (.tmp 14) ∧ ev ρ' (.tmp 15) = ev ρ5 (.tmp 15) ∧ i + nn = l.length ∧ LoopR w bn bm w') (l.length) ?_ ?_
    · exact ⟨0, (by first | exact r16 | (refine r16.trans ?_; congr 1; omega) | (refine r16.trans ?_; simp)), rfl, rfl, rfl, by omega, ⟨hu, _, _, h, netOk_new⟩⟩
    intro nn ρ6 w5 ⟨i, q16, q3, q14, q15, hi, hL⟩
    have s3 := q3; replace q3 := q3.trans r3
    have s14 := q14; replace q14 := q14.trans r14
    have s15 := q15; replace q15 := q15.trans r15
    clear r14 r15 r16 r3
    have r16 := q16; clear q16; have r3 := q3; clear q3; have r14 := q14; clear q14; have r15 := q15; clear q15
    obtain ⟨hu, Sx, s, h, hk⟩ := hL
    have x0_3 := s3.symm.trans r3; clear s3
    have x0_14 := s14.symm.trans r14; clear s14
    have x0_15 := s15.symm.trans r15; clear s15
    refine W.seqR ?_
    refine WL.cons rfl (st_lss r16 r15 ?_)
    refine WL.nil ?_
    refine W.gen ?_; intro ρ7 hρ
    have q3 := (hρ 3).trans (un r3); have q14 := (hρ 14).trans (un r14); have q15 := (hρ 15).trans (un r15); have q16 := (hρ 16).trans (un r16)
    have q17 := (hρ 17).trans us
    clear hρ r14 r15 r16 r3
    have r3 := q3; clear q3; have r14 := q14; clear q14; have r15 := q15; clear q15; have r16 := q16; clear q16; have r17 := q17; clear q17
    refine W.seq ?_
    refine W.cond r17 (fun hc5 => ?_) (fun hc5 => ?_)
    · skip
      try simp only [tests] at hc5
      obtain ⟨m1, rfl⟩ : ∃ m1, nn = m1 + 1 := ⟨nn - 1, by omega⟩
      obtain ⟨kb, koff, k, vb, rfl, hkk, hcs, hvb⟩ := (hv.up hu).at (j := i) (by omega)
      refine W.skip ?_
      refine W.seq ?_
      refine W.block ?_
      refine W.seqR ?_
      refine WL.cons rfl (st_indexAddrS r14 r16 Try.underlying22 Try.sizeOf33 (by omega) (by omega) ?_)
      refine WL.cons rfl (st_loadK Try.isAgg33 Try.sizeOf33 us (hcs) rfl ?_)
      refine WL.allocStore (v := .agg (doCells k vb).toArray) rfl (fun _ => un us) Try.zeroValue33 Try.sizeOf33 rfl (by first | rfl | kernel_rfl) (by first | exact ekL_one _ | exact do_one hvb _ | simp [Value.cells, Value.oneCell']) ?_
      intro b5 w6 m5; have B5 := m5.blk
      replace h := h.up m5.up
      replace hu := hu.trans m5.up
      replace hvb := hvb.up m5.up; clear m5
      refine WL.nil ?_
      refine W.gen ?_; intro ρ8 hρ
      have q3 := (hρ 3).trans (un0 (un (un (un r3)))); have q5 := (hρ 5).trans (un0 us); have q14 := (hρ 14).trans (un0 (un (un (un r14)))); have q15 := (hρ 15).trans (un0 (un (un (un r15))))
      have q16 := (hρ 16).trans (un0 (un (un (un r16))))
      clear hρ r14 r15 r16 r17 r3
      have r3 := q3; clear q3; have r5 := q5; clear q5; have r14 := q14; clear q14; have r15 := q15; clear q15; have r16 := q16; clear q16
      refine W.seqR ?_
      refine WL.cons rfl (st_move r3 ?_)
      refine WL.cons rfl (st_loadK Try.isAgg33 Try.sizeOf33 (un r5) (B5.row) rfl ?_)
      refine WL.cons rfl (st_call2 ent13 (un us) us (((does_ok _ h hk k hvb)).mono ?_))
      intro vd w7 ⟨u, hvd, htx⟩; subst hvd
      obtain ⟨hfr, S2, h2, hS2, _⟩ := htx
      replace hu := (Frm.trans' (X := NoB) hu.frm hfr fun i hi he => by rcases he with e | e <;> omega).up
      clear h hfr; have h := h2; clear h2; have hk2 := hk.does k
      refine WL.nil ?_
      refine W.gen ?_; intro ρ9 hρ
      have q3 := (hρ 3).trans (un (un (un r3))); have q14 := (hρ 14).trans (un (un (un r14))); have q15 := (hρ 15).trans (un (un (un r15))); have q16 := (hρ 16).trans (un (un (un r16)))
      clear hρ r14 r15 r16 r3 r5
      have r3 := q3; clear q3; have r14 := q14; clear q14; have r15 := q15; clear q15; have r16 := q16; clear q16
      clear B5 hvb
      refine W.seqR ?_
      refine WL.cons rfl (st_move r3 ?_)
      refine WL.cons rfl (st_call1 ent15 us (((busy_ok _ h hk2)).mono ?_))
      intro vB w8 ⟨d, _, hsl, hprm, ub⟩
      obtain ⟨oB, cB, hvB, _, _⟩ := id hsl; subst hvB; replace h := h.up ub; replace hu := hu.trans ub
      have hd1024 : d.size ≤ 1024 := by
        have h1 := hprm.length_eq
        have h2 := fits_few hk2.nodup fun l hl => key_fits hk2 hl
        rw [List.length_map, Array.length_toList] at h1
        omega
      refine WL.cons rfl (st_lenS us Try.underlying43 ?_)
      refine WL.cons rfl (st_move uc ?_)
      refine WL.nil ?_
      refine W.gen ?_; intro ρ10 hρ
      have q3 := (hρ 3).trans (un (un (un (un r3)))); have q14 := (hρ 14).trans (un (un (un (un r14)))); have q15 := (hρ 15).trans (un (un (un (un r15)))); have q16 := (hρ 16).trans (un (un (un (un r16))))
      have q24 := (hρ 24).trans (un (un us)); have q25 := (hρ 25).trans (un us); have q26 := (hρ 26).trans us
      clear hρ r14 r15 r16 r3
      have r3 := q3; clear q3; have r14 := q14; clear q14; have r15 := q15; clear q15; have r16 := q16; clear q16; have r24 := q24; clear q24; have r25 := q25; clear q25; have r26 := q26; clear q26
      refine W.block ?_
      refine W.loop (fun nn ρ' w' => ∃ j : Nat, ev ρ' (.tmp 26) = .int .i64 (j : Int) ∧ ev ρ' (.tmp 3) = ev ρ10 (.tmp 3) ∧ ev ρ' (.tmp 14) = ev ρ10 (.tmp 14) ∧ ev ρ' (.tmp 15) = ev ρ10 (.tmp 15) ∧ ev ρ' (.tmp 16) = ev ρ10 (.tmp 16) ∧ ev ρ' (.tmp 24) = ev ρ10 (.tmp 24) ∧ ev ρ' (.tmp 25) = ev ρ10 (.tmp 25) ∧ j + nn = d.size ∧ Up w w' ∧ NetR S2 w' bn bm (s.does k).1 ∧ SlV AnyB w' (.slice oB d.size cB) d.size 2 (lkC (d.toList.map toL))) (d.size) ?_ ?_
      · exact ⟨0, (by first | exact r26 | (refine r26.trans ?_; congr 1; omega) | (refine r26.trans ?_; simp)), rfl, rfl, rfl, rfl, rfl, rfl, by omega, hu, h, hsl⟩
      intro nn ρ11 w9 ⟨j, q26, q3, q14, q15, q16, q24, q25, hj, hu, h, hsl⟩
      have s3 := q3; replace q3 := q3.trans r3
      have s14 := q14; replace q14 := q14.trans r14
      have s15 := q15; replace q15 := q15.trans r15
      have s16 := q16; replace q16 := q16.trans r16
      have s24 := q24; replace q24 := q24.trans r24
      have s25 := q25; replace q25 := q25.trans r25
      clear r14 r15 r16 r24 r25 r26 r3
      have r26 := q26; clear q26; have r3 := q3; clear q3; have r14 := q14; clear q14; have r15 := q15; clear q15; have r16 := q16; clear q16; have r24 := q24; clear q24; have r25 := q25; clear q25
      have x2_3 := s3.symm.trans r3; clear s3
      have x2_14 := s14.symm.trans r14; clear s14
      have x2_15 := s15.symm.trans r15; clear s15
      have x2_16 := s16.symm.trans r16; clear s16
      have x2_24 := s24.symm.trans r24; clear s24
      have x2_25 := s25.symm.trans r25; clear s25
      refine W.seqR ?_
      refine WL.cons rfl (st_lss r26 r25 ?_)
      refine WL.nil ?_
      refine W.gen ?_; intro ρ12 hρ
      have q3 := (hρ 3).trans (un r3); have q14 := (hρ 14).trans (un r14); have q15 := (hρ 15).trans (un r15); have q16 := (hρ 16).trans (un r16)
      have q24 := (hρ 24).trans (un r24); have q25 := (hρ 25).trans (un r25); have q26 := (hρ 26).trans (un r26); have q27 := (hρ 27).trans us
      clear hρ r14 r15 r16 r24 r25 r26 r3
      have r3 := q3; clear q3; have r14 := q14; clear q14; have r15 := q15; clear q15; have r16 := q16; clear q16; have r24 := q24; clear q24; have r25 := q25; clear q25; have r26 := q26; clear q26; have r27 := q27; clear q27
      refine W.seq ?_
      refine W.cond r27 (fun hc9 => ?_) (fun hc9 => ?_)
      · skip
        try simp only [tests] at hc9
        obtain ⟨oB2, cB2, heB, _, hcB⟩ := id hsl; cases heB
        obtain ⟨bb, off, rfl, _, hcc⟩ := hcB (by omega)
        have hlt : j < (d.toList.map toL).length := by simp; omega
        obtain ⟨lk, hlk⟩ : ∃ lk, (d.toList.map toL)[j]? = some lk := ⟨_, List.getElem?_eq_getElem hlt⟩
        have hat := lkC_at hcc hlk
        have hkl := key_len hk2 (hprm.mem_iff.1 (List.mem_of_getElem? hlk))
        refine W.skip ?_
        refine W.seq ?_
        refine W.block ?_
        refine W.seqR ?_
        refine WL.cons rfl (st_indexAddrS r24 r26 Try.underlying43 Try.sizeOf29 (by omega) (by omega) ?_)
        refine WL.cons rfl (st_loadK Try.isAgg29 Try.sizeOf29 us (hat) rfl ?_)
        refine WL.allocStore (v := ekL lk) rfl (fun _ => un us) Try.zeroValue29 Try.sizeOf29 rfl (by first | rfl | kernel_rfl) (by first | exact ekL_one _ | exact do_one hvb _ | simp [Value.cells, Value.oneCell']) ?_
        intro b7 w10 m7; have B7 := m7.blk
        replace h := h.up m7.up
        replace hsl := hsl.up m7.up
        replace hu := hu.trans m7.up
        refine WL.nil ?_
        refine W.gen ?_; intro ρ13 hρ
        have q3 := (hρ 3).trans (un0 (un (un (un r3)))); have q7 := (hρ 7).trans (un0 us); have q14 := (hρ 14).trans (un0 (un (un (un r14)))); have q15 := (hρ 15).trans (un0 (un (un (un r15))))
        have q16 := (hρ 16).trans (un0 (un (un (un r16)))); have q24 := (hρ 24).trans (un0 (un (un (un r24)))); have q25 := (hρ 25).trans (un0 (un (un (un r25)))); have q26 := (hρ 26).trans (un0 (un (un (un r26))))
        clear hρ r14 r15 r16 r24 r25 r26 r27 r3
        have r3 := q3; clear q3; have r7 := q7; clear q7; have r14 := q14; clear q14; have r15 := q15; clear q15; have r16 := q16; clear q16; have r24 := q24; clear q24; have r25 := q25; clear q25; have r26 := q26; clear q26
        refine W.seqR ?_
        refine WL.cons rfl (st_move r3 ?_)
        refine WL.cons rfl (st_loadK Try.isAgg29 Try.sizeOf29 (un r7) (cells2 (B7.cell rfl) (B7.cell rfl)) rfl ?_)
        refine WL.cons rfl (st_call2 ent16 (un us) us (((len_ok _ h lk)).mono ?_))
        intro vl w11 ⟨hvl, ul⟩; subst hvl
        replace h := h.up ul
        replace hsl := hsl.up ul
        replace B7 := B7.up ul
        replace hu := hu.trans ul
        refine WL.cons rfl (st_lss us uc ?_)
        refine WL.cons rfl (st_move us ?_)
        apply WL.seg 4 (t := 34) (x := 38) (want := false) us rfl
        · intro hg34
          have hu0 := hu; have hu_ := Up.refl w11
          refine WL.guardY rfl (us.trans (by rw [hg34])) rfl (st_move (un (un (un (un (un r3))))) ?_)
          refine WL.guardY rfl ((un us).trans (by rw [hg34])) rfl (st_loadK Try.isAgg29 Try.sizeOf29 (un (un (un (un (un (un r7)))))) (cells2 (B7.cell rfl) (B7.cell rfl)) rfl ?_)
          refine WL.guardY rfl ((un (un us)).trans (by rw [hg34])) rfl (st_call2 ent16 (un us) us (((len_ok _ h lk)).mono ?_))
          intro vl w12 ⟨hvl, ul⟩; subst hvl
          replace h := h.up ul
          replace hsl := hsl.up ul
          replace B7 := B7.up ul
          replace hu_ := hu_.trans ul
          refine WL.guardY rfl ((un (un (un us))).trans (by rw [hg34])) rfl (st_gtr us uc ?_)
          exact WL.nil ⟨(ag (ag (ag (ag ag0)))), us, hu_⟩
        intro ρ14 w13 hup34 hag hx34
        replace h := h.up hup34
        replace hsl := hsl.up hup34
        replace B7 := B7.up hup34
        replace hu := hu.trans hup34
        have q3 := (hag 3 rfl).trans (un (un (un (un (un r3))))); have q14 := (hag 14 rfl).trans (un (un (un (un (un r14))))); have q15 := (hag 15 rfl).trans (un (un (un (un (un r15))))); have q16 := (hag 16 rfl).trans (un (un (un (un (un r16)))))
        have q24 := (hag 24 rfl).trans (un (un (un (un (un r24))))); have q25 := (hag 25 rfl).trans (un (un (un (un (un r25))))); have q26 := (hag 26 rfl).trans (un (un (un (un (un r26))))); have q34 := (hag 34 rfl).trans us
        clear hag r14 r15 r16 r24 r25 r26 r3 r7
        have r3 := q3; clear q3; have r14 := q14; clear q14; have r15 := q15; clear q15; have r16 := q16; clear q16; have r24 := q24; clear q24; have r25 := q25; clear q25; have r26 := q26; clear q26; have r34 := q34; clear q34
        refine WL.cons rfl (st_or r34 hx34 uc ?_)
        refine WL.nil ?_
        refine W.gen ?_; intro ρ15 hρ
        have q3 := (hρ 3).trans (un r3); have q14 := (hρ 14).trans (un r14); have q15 := (hρ 15).trans (un r15); have q16 := (hρ 16).trans (un r16)
        have q24 := (hρ 24).trans (un r24); have q25 := (hρ 25).trans (un r25); have q26 := (hρ 26).trans (un r26); have q39 := (hρ 39).trans us
        clear hρ r14 r15 r16 r24 r25 r26 r3 r34
        have r3 := q3; clear q3; have r14 := q14; clear q14; have r15 := q15; clear q15; have r16 := q16; clear q16; have r24 := q24; clear q24; have r25 := q25; clear q25; have r26 := q26; clear q26; have r39 := q39; clear q39
        refine W.condF r39 (by simp; omega) ?_
        refine W.skip ?_
        refine W.endR ?_
        refine WL.cons rfl (st_add r26 uc (wr64 (by omega)) ?_)
        refine WL.cons rfl (st_move us ?_)
        refine WL.nil ?_
        exact ⟨nn - 1, (by omega), j + 1, (by first | exact us | (refine us.trans ?_; congr 1; omega) | (refine us.trans ?_; simp)), ((un (un r3)).trans x2_3.symm), ((un (un r14)).trans x2_14.symm), ((un (un r15)).trans x2_15.symm), ((un (un r16)).trans x2_16.symm), ((un (un r24)).trans x2_24.symm), ((un (un r25)).trans x2_25.symm), by omega, hu, h, hsl⟩
      · skip
        try simp only [tests] at hc9
        have hnx : LoopR w bn bm w9 := ⟨hu, _, _, h, hk2⟩
        refine W.exit ?_
        refine exitHere ?_
        refine W.endR ?_
        refine WL.cons rfl (st_add r16 uc (wr64 (by omega)) ?_)
        refine WL.cons rfl (st_move us ?_)
        refine WL.nil ?_
        exact ⟨m1, (by omega), i + 1, (by first | exact us | (refine us.trans ?_; congr 1; omega) | (refine us.trans ?_; simp)), ((un (un r3)).trans x0_3.symm), ((un (un r14)).trans x0_14.symm), ((un (un r15)).trans x0_15.symm), by omega, hnx⟩
    · skip
      try simp only [tests] at hc5
      
      refine W.exit ?_
      refine exitHere ?_
      refine W.seqR ?_
      refine WL.cons rfl (st_call0 ent11  (((awake_ok _)).mono ?_))
      intro va w14 ⟨hva, ua⟩; subst hva; replace hu := hu.trans ua
      refine WL.cons rfl (st_assign us ?_)
      refine WL.nil ?_
      refine W.gen ?_; intro ρ16 hρ
      have q2 := (hρ 2).trans us
      clear hρ r14 r15 r16 r17 r3
      have r2 := q2; clear q2
      refine W.ret ?_
      refine fin1 r2 ?_
      exact ⟨rfl, hu⟩

end Go.Proofs.Ytppohfgaegahoaa
