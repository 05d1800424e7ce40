/- Walk: Send. -/
import Derived.Test.YtppohfgaegahoaaLf
namespace Go.Proofs.Ytppohfgaegahoaa
open Go.Tw Go.RowKit
attribute [local irreducible] Step WL W WQ Does

/-- (*towline links.Net).Send -/
theorem send_ok {S : Nat → Prop} {s : NetS} {bn bm : Nat} (w : World) (h : NetR S w bn bm s) (hk : s.Ok) (l : Lk) {Sb : Nat → Prop} {u : Value} {b : Msg} (hb : RB Sb w u b) : Does Try.prog 28 #[.pointer (some ⟨bn, 0, none⟩), ekL l, u] w (fun v w' => v = .int .i64 (s.send l b).2 ∧ NetTo S w w' bn bm (s.send l b).1) := by
  have hbn := h.blk.lt; have hbm := h.map.lt
  have hq8 := hk.max l
  have hbu := hb; obtain ⟨bo, bc, hbu, _, _⟩ := hbu
  refine fn_of_W (rs := [6]) (N := 50) Try.func28 rfl rfl rfl (by simp) ?_
  intro ρ0 hρ0
  have r0 : ev ρ0 (.tmp 0) = .pointer (some ⟨bn, 0, none⟩) := hρ0 0
  have r1 : ev ρ0 (.tmp 1) = ekL l := hρ0 1
  have r2 : ev ρ0 (.tmp 2) = u := hρ0 2
  clear hρ0
  have hu := Up.refl w
  subst hbu
  refine W.seqR ?_
  refine WL.cons rfl (st_box r1 ?_)
  intro b4 w1 m4; have B4 := m4.blk
  replace h := h.up m4.up
  replace hb := hb.up m4.up
  replace hu := hu.trans m4.up
  refine WL.cons rfl (st_assign uc ?_)
  refine WL.nil ?_
  refine W.gen ?_; intro ρ1 hρ
  have q0 := (hρ 0).trans (un (un r0)); have q2 := (hρ 2).trans (un (un r2)); have q4 := (hρ 4).trans (un us)
  clear hρ r0 r1 r2
  have r0 := q0; clear q0; have r2 := q2; clear q2; have r4 := q4; clear q4
  refine W.seq ?_
  refine W.block ?_
  refine W.seqR ?_
  refine WL.cons rfl (st_move r0 ?_)
  refine WL.cons rfl (st_call1 ent36 us (((dead_ok _ h)).mono ?_))
  intro vd w2 ⟨hvd, ud⟩; subst hvd
  replace h := h.up ud
  replace hb := hb.up ud
  replace B4 := B4.up ud
  replace hu := hu.trans ud
  refine WL.cons rfl (st_assign us ?_)
  refine WL.nil ?_
  refine W.gen ?_; intro ρ2 hρ
  have q0 := (hρ 0).trans (un (un (un r0))); have q2 := (hρ 2).trans (un (un (un r2))); have q4 := (hρ 4).trans (un (un (un r4))); have q7 := (hρ 7).trans us
  clear hρ r0 r2 r4
  have r0 := q0; clear q0; have r2 := q2; clear q2; have r4 := q4; clear q4; have r7 := q7; clear q7
  refine W.condF r7 (rfl) ?_
  refine W.seqR ?_
  refine WL.cons rfl (st_loadK Try.isAgg29 Try.sizeOf29 r4 (cells2 (B4.cell rfl) (B4.cell rfl)) rfl ?_)
  refine WL.cons rfl (st_call1 ent46 us (((fitsl_ok l _)).mono ?_))
  intro vf w3 ⟨hvf, uf⟩; subst hvf
  replace h := h.up uf
  replace hb := hb.up uf
  replace B4 := B4.up uf
  replace hu := hu.trans uf
  refine WL.cons rfl (st_not us ?_)
  refine WL.cons rfl (st_assign us ?_)
  refine WL.nil ?_
  refine W.gen ?_; intro ρ3 hρ
  have q0 := (hρ 0).trans (un (un (un (un r0)))); have q2 := (hρ 2).trans (un (un (un (un r2)))); have q4 := (hρ 4).trans (un (un (un (un r4)))); have q10 := (hρ 10).trans us
  clear hρ r0 r2 r4 r7
  have r0 := q0; clear q0; have r2 := q2; clear q2; have r4 := q4; clear q4; have r10 := q10; clear q10
  refine W.cond r10 (fun hc3 => ?_) (fun hc3 => ?_)
  · skip
    try simp only [tests] at hc3
    refine W.seqR ?_
    refine WL.cons rfl (st_assign uc ?_)
    refine WL.nil ?_
    refine W.gen ?_; intro ρ4 hρ
    have q6 := (hρ 6).trans us
    clear hρ r0 r10 r2 r4
    have r6 := q6; clear q6
    refine W.ret ?_
    refine fin1 r6 ?_
    have hf : fitsL l = false := by simpa using hc3
    unfold NetS.send; rw [if_pos hf]; exact ⟨rfl, NetTo.ahead hu (h.to (Up.refl _))⟩
  · skip
    try simp only [tests] at hc3
    have hf : ¬ fitsL l = false := by simpa using hc3
    refine W.seqR ?_
    refine WL.cons rfl (st_move r2 ?_)
    refine WL.cons rfl (st_lenS us Try.underlying30 ?_)
    refine WL.cons rfl (st_gtr us uc ?_)
    refine WL.cons rfl (st_assign us ?_)
    refine WL.nil ?_
    refine W.gen ?_; intro ρ5 hρ
    have q0 := (hρ 0).trans (un (un (un (un r0)))); have q2 := (hρ 2).trans (un (un (un (un r2)))); have q4 := (hρ 4).trans (un (un (un (un r4)))); have q14 := (hρ 14).trans us
    clear hρ r0 r10 r2 r4
    have r0 := q0; clear q0; have r2 := q2; clear q2; have r4 := q4; clear q4; have r14 := q14; clear q14
    refine W.cond r14 (fun hc5 => ?_) (fun hc5 => ?_)
    · skip
      try simp only [tests] at hc5
      refine W.seqR ?_
      refine WL.cons rfl (st_assign uc ?_)
      refine WL.nil ?_
      refine W.gen ?_; intro ρ6 hρ
      have q6 := (hρ 6).trans us
      clear hρ r0 r14 r2 r4
      have r6 := q6; clear q6
      refine W.ret ?_
      refine fin1 r6 ?_
      unfold NetS.send; rw [if_neg hf, if_pos (by omega)]; exact ⟨rfl, NetTo.ahead hu (h.to (Up.refl _))⟩
    · skip
      try simp only [tests] at hc5
      obtain ⟨vq, hvq, hlk⟩ := h.look l
      obtain ⟨qo, qc, rfl⟩ := hvq.len
      refine W.quietR mixed 9 (by kernel_rfl) ?_
      refine WQ.cons (fun w' hq => st_move r0 ⟨rfl, Up.refl _⟩) ?_
      refine WQ.cons (fun w' hq => st_nilCheck us ⟨rfl, Up.refl _⟩) ?_
      refine WQ.cons (fun w' hq => st_fieldAddr (f := 0) (k := 0) us Try.underlying64 rfl rfl Try.sizeOf61 ⟨rfl, Up.refl _⟩) ?_
      refine WQ.cons (fun w' hq => st_load1 Try.isAgg61 us ((h.up hq).blk.cell rfl) ⟨rfl, Up.refl _⟩) ?_
      refine WQ.cons (fun w' hq => st_loadK Try.isAgg29 Try.sizeOf29 (un (un (un (un r4)))) (cells2 ((B4.up hq).cell rfl) ((B4.up hq).cell rfl)) rfl ⟨rfl, Up.refl _⟩) ?_
      refine WQ.cons (fun w' hq => st_look (un us) us (hlk _ hq) ⟨rfl, Up.refl _⟩) ?_
      refine WQ.cons (fun w' hq => st_lenS us Try.underlying78 ⟨rfl, Up.refl _⟩) ?_
      refine WQ.cons (fun w' hq => st_geq us uc ⟨rfl, Up.refl _⟩) ?_
      refine WQ.cons (fun w' hq => st_assign us ⟨rfl, Up.refl _⟩) ?_
      refine WQ.nil ?_
      intro w4 hq7
      replace h := h.up hq7
      replace hb := hb.up hq7
      replace B4 := B4.up hq7
      replace hu := hu.trans hq7
      refine WL.nil ?_
      refine W.gen ?_; intro ρ7 hρ
      have q0 := (hρ 0).trans (un (un (un (un (un (un (un (un (un r0))))))))); have q2 := (hρ 2).trans (un (un (un (un (un (un (un (un (un r2))))))))); have q4 := (hρ 4).trans (un (un (un (un (un (un (un (un (un r4))))))))); have q18 := (hρ 18).trans us
      clear hρ r0 r14 r2 r4
      have r0 := q0; clear q0; have r2 := q2; clear q2; have r4 := q4; clear q4; have r18 := q18; clear q18
      refine W.cond r18 (fun hc7 => ?_) (fun hc7 => ?_)
      · skip
        try simp only [tests] at hc7
        refine W.seqR ?_
        refine WL.cons rfl (st_move r0 ?_)
        refine WL.cons rfl (st_nilCheck us ?_)
        refine WL.cons rfl (st_fieldAddr (f := 2) (k := 0) us Try.underlying64 rfl rfl Try.sizeOf3 ?_)
        refine WL.cons rfl (st_load1 Try.isAgg3 us (h.blk.cell rfl) ?_)
        refine WL.cons rfl (st_add us uc rfl ?_)
        refine WL.cons rfl (st_nilCheck (un (un (un (un us)))) ?_)
        refine WL.cons rfl (st_fieldAddr (f := 2) (k := 0) us Try.underlying64 rfl rfl Try.sizeOf3 ?_)
        refine WL.cons rfl (st_store us (un (un us)) Try.sizeOf3 rfl h.blk (by simp) (by simp [Value.cells, Value.oneCell']) rfl ?_)
        intro w5 hbk hfr hsz
        have ht : NetTo S w w5 bn bm { s with lost := IntKind.i64.wrap (s.lost + 1) } := NetTo.ahead hu ⟨hfr.mono fun k _ hk => .inl hk, S, ⟨hbk, h.map.frm hfr h.ne.symm fun _ _ hq => hq.frm hfr fun b hb => (h.old b hb).2.1, fun b hb => let ⟨h1, h2⟩ := h.old b hb; ⟨Nat.lt_of_lt_of_le h1 hfr.size, h2⟩⟩, fun _ h => .inl h⟩
        refine WL.nil ?_
        refine W.gen ?_; intro ρ8 hρ
        clear hρ r0 r18 r2 r4
        refine W.seqR ?_
        refine WL.cons rfl (st_assign uc ?_)
        refine WL.nil ?_
        refine W.gen ?_; intro ρ9 hρ
        have q6 := (hρ 6).trans us
        clear hρ
        have r6 := q6; clear q6
        refine W.ret ?_
        refine fin1 r6 ?_
        unfold NetS.send; rw [if_neg hf, if_neg (by omega), if_pos (by omega)]; exact ⟨rfl, ht⟩
      · skip
        try simp only [tests] at hc7
        refine W.skip ?_
        clear hlk hvq
        obtain ⟨vq, hvq, hlk⟩ := h.look l
        obtain ⟨vs, hvs, hall⟩ := hvq
        have hone := all_one hall
        have hbs := hu.size
        refine W.seq (W.drawQ mixed 16 15 [fun v => v = .pointer (some ⟨bn, 0, none⟩), fun v => v = .pointer (some ⟨bn, 0, none⟩), fun v => v = .pointer (some ⟨bn, 0, none⟩), fun v => v = .map (some bm), fun v => v = ekL l] [fun v _ => v = .pointer (some ⟨bn, 0, none⟩), fun v _ => v = .pointer (some ⟨bn, 0, none⟩), fun v _ => v = .pointer (some ⟨bn, 0, none⟩), fun v _ => v = .map (some bm), fun v _ => v = ekL l, fun v _ => v = vq, fun v w' => Own w4.heap.size w' 30 1 v (s.q l).length vs, fun v _ => v = .slice bo b.length bc, fun v w' => Own w4.heap.size w' 5 1 v b.length (b.map byteV), fun v w' => ∃ x, SlV (fun k => w4.heap.size ≤ k) w' v 1 1 [x] ∧ Own w4.heap.size w' 5 1 x b.length (b.map byteV), fun v w' => ∃ x, Own w4.heap.size w' 30 1 v ((s.q l).length + 1) (vs ++ [x]) ∧ RB (fun k => w4.heap.size ≤ k) w' x b] (by kernel_rfl) rfl (Nat.le_of_ble_eq_true rfl) ?_ ?_ ?_ ?_)
        · simp only [List.forall_mem_cons]
          refine ⟨stays_eq, stays_eq, stays_eq, stays_eq, stays_eq, stays_eq, ?_, stays_eq, ?_, ?_, ?_, by simp⟩
          · intro v wa wb _ hf hu; exact hf.up hu
          · intro v wa wb _ hf hu; exact hf.up hu
          · intro v wa wb _ hf hu; obtain ⟨x, h1, h2⟩ := hf; exact ⟨x, h1.up hu, h2.up hu⟩
          · intro v wa wb _ hf hu; obtain ⟨x, h1, h2⟩ := hf; exact ⟨x, h1.up hu, h2.up hu⟩
        · intro ii o ho hne ρ' w' hq hout hF
          match ii, ho, hne, hF with
          | 0, ho, _, hF =>
            obtain rfl := Option.some.inj ho
            change Step _ _ ρ' w' _
            have s0 := (show ev ρ' (.tmp 0) = _ from hout 0 (by decide)).trans r0
            exact st_move s0 ⟨rfl, Up.refl _⟩
          | 1, ho, _, hF =>
            obtain rfl := Option.some.inj ho
            change Step _ _ ρ' w' _
            have s34 : ev ρ' (.tmp 34) = .pointer (some ⟨bn, 0, none⟩) := hF 0 _ rfl (by kernel_rfl)
            exact st_nilCheck s34 ⟨rfl, Up.refl _⟩
          | 2, ho, _, hF =>
            obtain rfl := Option.some.inj ho
            change Step _ _ ρ' w' _
            have s35 : ev ρ' (.tmp 35) = .pointer (some ⟨bn, 0, none⟩) := hF 1 _ rfl (by kernel_rfl)
            exact st_fieldAddr (f := 0) (k := 0) s35 Try.underlying64 rfl rfl Try.sizeOf61 ⟨rfl, Up.refl _⟩
          | 3, ho, _, hF =>
            obtain rfl := Option.some.inj ho
            change Step _ _ ρ' w' _
            have s36 : ev ρ' (.tmp 36) = .pointer (some ⟨bn, 0, none⟩) := hF 2 _ rfl (by kernel_rfl)
            exact st_load1 Try.isAgg61 s36 ((h.up hq).blk.cell rfl) ⟨rfl, Up.refl _⟩
          | 4, ho, _, hF =>
            obtain rfl := Option.some.inj ho
            change Step _ _ ρ' w' _
            have s4 := (show ev ρ' (.tmp 4) = _ from hout 4 (by decide)).trans r4
            exact st_loadK Try.isAgg29 Try.sizeOf29 s4 (cells2 ((B4.up hq).cell rfl) ((B4.up hq).cell rfl)) rfl ⟨rfl, Up.refl _⟩
          | 5, ho, _, hF =>
            obtain rfl := Option.some.inj ho
            change Step _ _ ρ' w' _
            have s0 := (show ev ρ' (.tmp 0) = _ from hout 0 (by decide)).trans r0
            exact st_move s0 ⟨rfl, Up.refl _⟩
          | 6, ho, _, hF =>
            obtain rfl := Option.some.inj ho
            change Step _ _ ρ' w' _
            have s39 : ev ρ' (.tmp 39) = .pointer (some ⟨bn, 0, none⟩) := hF 5 _ rfl (by kernel_rfl)
            exact st_nilCheck s39 ⟨rfl, Up.refl _⟩
          | 7, ho, _, hF =>
            obtain rfl := Option.some.inj ho
            change Step _ _ ρ' w' _
            have s40 : ev ρ' (.tmp 40) = .pointer (some ⟨bn, 0, none⟩) := hF 6 _ rfl (by kernel_rfl)
            exact st_fieldAddr (f := 0) (k := 0) s40 Try.underlying64 rfl rfl Try.sizeOf61 ⟨rfl, Up.refl _⟩
          | 8, ho, _, hF =>
            obtain rfl := Option.some.inj ho
            change Step _ _ ρ' w' _
            have s41 : ev ρ' (.tmp 41) = .pointer (some ⟨bn, 0, none⟩) := hF 7 _ rfl (by kernel_rfl)
            exact st_load1 Try.isAgg61 s41 ((h.up hq).blk.cell rfl) ⟨rfl, Up.refl _⟩
          | 9, ho, _, hF =>
            obtain rfl := Option.some.inj ho
            change Step _ _ ρ' w' _
            have s4 := (show ev ρ' (.tmp 4) = _ from hout 4 (by decide)).trans r4
            exact st_loadK Try.isAgg29 Try.sizeOf29 s4 (cells2 ((B4.up hq).cell rfl) ((B4.up hq).cell rfl)) rfl ⟨rfl, Up.refl _⟩
          | 10, ho, _, hF =>
            obtain rfl := Option.some.inj ho
            change Step _ _ ρ' w' _
            have s42 : ev ρ' (.tmp 42) = .map (some bm) := hF 8 _ rfl (by kernel_rfl)
            have s43 : ev ρ' (.tmp 43) = ekL l := hF 9 _ rfl (by kernel_rfl)
            exact st_look s42 s43 (hlk _ hq) ⟨rfl, Up.refl _⟩
          | 11, ho, _, hF =>
            obtain rfl := Option.some.inj ho
            change Step _ _ ρ' w' _
            have s44 : ev ρ' (.tmp 44) = vq := hF 10 _ rfl (by kernel_rfl)
            refine st_call1 ent47 s44 ((cloneq_ok _ (hvs.up hq) hone (by omega)).mono ?_)
            intro v w2 ⟨ho, hu2⟩; exact ⟨ho.base hq.size, hu2⟩
          | 12, ho, _, hF =>
            obtain rfl := Option.some.inj ho
            change Step _ _ ρ' w' _
            have s2 := (show ev ρ' (.tmp 2) = _ from hout 2 (by decide)).trans r2
            exact st_move s2 ⟨rfl, Up.refl _⟩
          | 13, ho, _, hF =>
            obtain rfl := Option.some.inj ho
            change Step _ _ ρ' w' _
            have s46 : ev ρ' (.tmp 46) = .slice bo b.length bc := hF 12 _ rfl (by kernel_rfl)
            refine st_call1 ent18 s46 ((clone_ok _ (hb.up hq) (byteV_one _) (by omega)).mono ?_)
            intro v w2 ⟨ho, hu2⟩; exact ⟨ho.base hq.size, hu2⟩
          | 14, ho, _, hF =>
            obtain rfl := Option.some.inj ho
            change Step _ _ ρ' w' _
            have f13 := hF 13 _ rfl (by kernel_rfl)
            have s47 : ev ρ' (.tmp 47) = ρ' 47 := rfl
            have f13 : Own w4.heap.size w' 5 1 (ρ' 47) b.length (b.map byteV) := f13
            refine st_build1 s47 Try.underlying78 info30 rfl f13.one ?_
            intro g w2 m; exact ⟨⟨_, made_sl m (by simp) (show w4.heap.size ≤ g by have := m.at_; have := hq.size; omega), f13.up m.up⟩, m.up⟩
          | 15, _, hne, _ => exact absurd rfl hne
          | q + 16, ho, _, _ => have h1 := (List.getElem?_eq_some_iff.1 ho).1; have h2 := Nat.lt_of_lt_of_le h1 (List.length_take_le _ _); omega
        · intro o ho ρ' w' hq hout hF
          obtain rfl := Option.some.inj ho
          change Step _ _ ρ' w' _
          have f11 := hF 11 _ rfl (by kernel_rfl)
          have s45 : ev ρ' (.tmp 45) = ρ' 45 := rfl
          have f14 := hF 14 _ rfl (by kernel_rfl)
          have s48 : ev ρ' (.tmp 48) = ρ' 48 := rfl
          have f11 : Own w4.heap.size w' 30 1 (ρ' 45) (s.q l).length vs := f11
          obtain ⟨x, hx1, hx2⟩ := f14
          refine st_append s45 s48 Try.underlying78 info30 rfl (by omega) f11 hx1 (by intro c hc; simp at hc; subst hc; exact hx2.one) (by omega) (by omega) hq.size ?_
          intro v w2 ho hfr _ _
          exact ⟨⟨x, ho, (hx2.frm hfr (fun k hk => hx2.ne f11 (by decide) k hk)).sl⟩, (Frm.trans' (X := NoB) hq.frm hfr fun i hi hib => absurd (f11.block i hib).1 (by omega)).up⟩
        intro ρ10 w6 hq10 hout hF
        replace h := h.up hq10
        replace hb := hb.up hq10
        replace B4 := B4.up hq10
        replace hu := hu.trans hq10
        have q37 : ev ρ10 (.tmp 37) = .map (some bm) := hF 3 _ rfl rfl
        have q38 : ev ρ10 (.tmp 38) = ekL l := hF 4 _ rfl rfl
        have f15 := hF 15 _ rfl rfl
        have q49 : ev ρ10 (.tmp 49) = ρ10 49 := rfl
        clear hout hF r0 r18 r2 r4
        have r37 := q37; clear q37
        have r38 := q38; clear q38
        have r49 := q49; clear q49
        obtain ⟨x, ho15, hx15⟩ := f15
        have hW := h.widen (B := w.heap.size) hbn hbm
        have hv6 : RQ (fun b => S b ∨ (w.heap.size ≤ b ∧ b < w6.heap.size)) w6 _ ((s.q l) ++ [b]) := ⟨vs ++ [x], by rw [List.length_append]; exact ho15.sl.mono (fun b hb hb' => .inr ⟨by omega, hb⟩) (by omega), All2.append (All2.imp hall fun _ _ _ _ hr => (hr.up hq10).mono fun b _ h => .inl h) ⟨hx15.mono fun b hb hb' => .inr ⟨by omega, hb⟩, trivial⟩⟩
        refine WL.cons rfl (st_mapUpdate (ek := ekL) (a := l) r37 r38 r49 keyL Try.underlying61 hW.map hv6 ?_)
        intro w7 hm hf2 _ _
        have hW2 := hW.put hm hf2
        have ht : NetTo S w _ bn bm { s with of := aset s.of l (s.q l ++ [b]) } := ⟨hu.frm.trans (hf2.mono fun _ _ h => .inr h), _, hW2, fun b hb => Or.imp id And.left hb⟩
        refine WL.nil ?_
        refine W.gen ?_; intro ρ11 hρ
        clear hρ r37 r38 r49
        refine W.seqR ?_
        refine WL.cons rfl (st_assign uc ?_)
        refine WL.nil ?_
        refine W.gen ?_; intro ρ12 hρ
        have q6 := (hρ 6).trans us
        clear hρ
        have r6 := q6; clear q6
        refine W.ret ?_
        refine fin1 r6 ?_
        unfold NetS.send; rw [if_neg hf, if_neg (by omega), if_neg (by omega)]; exact ⟨rfl, ht⟩

end Go.Proofs.Ytppohfgaegahoaa
