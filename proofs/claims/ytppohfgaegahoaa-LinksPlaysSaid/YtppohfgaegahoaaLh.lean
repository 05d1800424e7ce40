/- Walk: Double. -/
import Derived.Test.YtppohfgaegahoaaLg
namespace Go.Proofs.Ytppohfgaegahoaa
open Go.Tw Go.RowKit
attribute [local irreducible] Step WL W WQ Does

/-- (*towline links.Net).Double -/
theorem double_ok {S : Nat → Prop} {s : NetS} {bn bm : Nat} (w : World) (h : NetR S w bn bm s) (hk : s.Ok) (l : Lk) (i : Int) : Does Try.prog 33 #[.pointer (some ⟨bn, 0, none⟩), ekL l, .int .i64 i] w (fun v w' => v = .int .i64 (s.double l i).2 ∧ NetTo S w w' bn bm (s.double l i).1) := by
  have hbn := h.blk.lt; have hbm := h.map.lt
  have hq8 := hk.max l
  refine fn_of_W (rs := [6]) (N := 46) Try.func33 rfl rfl rfl (by simp) ?_
  intro ρ0 hρ0
  have r0 : ev ρ0 (.tmp 0) = .pointer (some ⟨bn, 0, none⟩) := hρ0 0
  have r1 : ev ρ0 (.tmp 1) = ekL l := hρ0 1
  have r2 : ev ρ0 (.tmp 2) = .int .i64 i := hρ0 2
  clear hρ0
  have hu := Up.refl w
  refine W.seqR ?_
  refine WL.cons rfl (st_box r1 ?_)
  intro b4 w1 m4; have B4 := m4.blk
  replace h := h.up m4.up
  replace hu := hu.trans m4.up
  refine WL.cons rfl (st_assign uc ?_)
  refine WL.nil ?_
  refine W.gen ?_; intro ρ1 hρ
  have q0 := (hρ 0).trans (un (un r0)); have q2 := (hρ 2).trans (un (un r2)); have q4 := (hρ 4).trans (un us)
  clear hρ r0 r1 r2
  have r0 := q0; clear q0; have r2 := q2; clear q2; have r4 := q4; clear q4
  refine W.seq ?_
  refine W.seqR ?_
  refine WL.cons rfl (st_move r0 ?_)
  refine WL.cons rfl (st_loadK Try.isAgg29 Try.sizeOf29 (un r4) (cells2 (B4.cell rfl) (B4.cell rfl)) rfl ?_)
  refine WL.cons rfl (st_move (un (un r2)) ?_)
  refine WL.cons rfl (st_call3 ent35 (un (un us)) (un us) us (((able_ok _ h l i)).mono ?_))
  intro va w2 ⟨hva, ua⟩; subst hva
  replace h := h.up ua
  replace B4 := B4.up ua
  replace hu := hu.trans ua
  refine WL.cons rfl (st_assign us ?_)
  refine WL.nil ?_
  refine W.gen ?_; intro ρ2 hρ
  have q0 := (hρ 0).trans (un (un (un (un (un r0))))); have q2 := (hρ 2).trans (un (un (un (un (un r2))))); have q4 := (hρ 4).trans (un (un (un (un (un r4))))); have q7 := (hρ 7).trans us
  clear hρ r0 r2 r4
  have r0 := q0; clear q0; have r2 := q2; clear q2; have r4 := q4; clear q4; have r7 := q7; clear q7
  refine W.seqR ?_
  refine WL.cons rfl (st_move r7 ?_)
  refine WL.cons rfl (st_neq us uc ?_)
  refine WL.nil ?_
  refine W.gen ?_; intro ρ3 hρ
  have q0 := (hρ 0).trans (un (un r0)); have q2 := (hρ 2).trans (un (un r2)); have q4 := (hρ 4).trans (un (un r4)); have q7 := (hρ 7).trans (un (un r7))
  have q13 := (hρ 13).trans us
  clear hρ r0 r2 r4 r7
  have r0 := q0; clear q0; have r2 := q2; clear q2; have r4 := q4; clear q4; have r7 := q7; clear q7; have r13 := q13; clear q13
  refine W.cond r13 (fun hc2 => ?_) (fun hc2 => ?_)
  · skip
    try simp only [tests] at hc2
    have ha : s.able l i = false := by cases e : s.able l i <;> simp_all
    refine W.seqR ?_
    refine WL.cons rfl (st_move r7 ?_)
    refine WL.cons rfl (st_assign us ?_)
    refine WL.nil ?_
    refine W.gen ?_; intro ρ4 hρ
    have q6 := (hρ 6).trans us
    clear hρ r0 r13 r2 r4 r7
    have r6 := q6; clear q6
    refine W.ret ?_
    refine fin1 r6 ?_
    unfold NetS.double; rw [ha]; exact ⟨rfl, NetTo.ahead hu (h.to (Up.refl _))⟩
  · skip
    try simp only [tests] at hc2
    have ha : s.able l i = true := by cases e : s.able l i <;> simp_all
    obtain ⟨⟨hf, hi0⟩, hil⟩ : (fitsL l = true ∧ 0 ≤ i) ∧ i < (s.q l).length := by simpa [NetS.able] using ha
    refine W.skip ?_
    refine W.seq ?_
    obtain ⟨vq, hvq, hlk⟩ := h.look l
    obtain ⟨qo, qc, rfl⟩ := hvq.len
    refine W.quietR mixed 8 (by kernel_rfl) ?_
    refine WQ.cons (fun w' hq => st_move r0 ⟨rfl, Up.refl _⟩) ?_
    refine WQ.cons (fun w' hq => st_nilCheck us ⟨rfl, Up.refl _⟩) ?_
    refine WQ.cons (fun w' hq => st_fieldAddr (f := 0) (k := 0) us Try.underlying64 rfl rfl Try.sizeOf61 ⟨rfl, Up.refl _⟩) ?_
    refine WQ.cons (fun w' hq => st_load1 Try.isAgg61 us ((h.up hq).blk.cell rfl) ⟨rfl, Up.refl _⟩) ?_
    refine WQ.cons (fun w' hq => st_loadK Try.isAgg29 Try.sizeOf29 (un (un (un (un r4)))) (cells2 ((B4.up hq).cell rfl) ((B4.up hq).cell rfl)) rfl ⟨rfl, Up.refl _⟩) ?_
    refine WQ.cons (fun w' hq => st_look (un us) us (hlk _ hq) ⟨rfl, Up.refl _⟩) ?_
    refine WQ.cons (fun w' hq => st_lenS us Try.underlying78 ⟨rfl, Up.refl _⟩) ?_
    refine WQ.cons (fun w' hq => st_geq us uc ⟨rfl, Up.refl _⟩) ?_
    refine WQ.nil ?_
    intro w3 hq4
    replace h := h.up hq4
    replace B4 := B4.up hq4
    replace hu := hu.trans hq4
    refine WL.nil ?_
    refine W.gen ?_; intro ρ5 hρ
    have q0 := (hρ 0).trans (un (un (un (un (un (un (un (un r0)))))))); have q2 := (hρ 2).trans (un (un (un (un (un (un (un (un r2)))))))); have q4 := (hρ 4).trans (un (un (un (un (un (un (un (un r4)))))))); have q22 := (hρ 22).trans us
    clear hρ r0 r13 r2 r4 r7
    have r0 := q0; clear q0; have r2 := q2; clear q2; have r4 := q4; clear q4; have r22 := q22; clear q22
    refine W.cond r22 (fun hc4 => ?_) (fun hc4 => ?_)
    · skip
      try simp only [tests] at hc4
      refine W.seqR ?_
      refine WL.cons rfl (st_assign uc ?_)
      refine WL.nil ?_
      refine W.gen ?_; intro ρ6 hρ
      have q6 := (hρ 6).trans us
      clear hρ r0 r2 r22 r4
      have r6 := q6; clear q6
      refine W.ret ?_
      refine fin1 r6 ?_
      unfold NetS.double; rw [if_neg (by simp [ha]), if_pos (by omega)]; exact ⟨rfl, NetTo.ahead hu (h.to (Up.refl _))⟩
    · skip
      try simp only [tests] at hc4
      refine W.skip ?_
      clear hlk hvq
      obtain ⟨vq, hvq, hlk⟩ := h.look l
      obtain ⟨qb, qoff, qcap, x, rfl, hcx, hrx⟩ := hvq.at (i := i.toNat) (by omega)
      obtain ⟨vs, hvs, hall⟩ := hvq
      have hone := all_one hall
      have hbs := hu.size
      have hx1 : x.oneCell' = true := by obtain ⟨_, _, rfl, _⟩ := hrx; rfl
      refine W.seq (W.drawQ mixed 23 22 [fun v => v = .pointer (some ⟨bn, 0, none⟩), fun v => v = .pointer (some ⟨bn, 0, none⟩), fun v => v = .pointer (some ⟨bn, 0, none⟩), fun v => v = .map (some bm), fun v => v = ekL l] [fun v _ => v = .pointer (some ⟨bn, 0, none⟩), fun v _ => v = .pointer (some ⟨bn, 0, none⟩), fun v _ => v = .pointer (some ⟨bn, 0, none⟩), fun v _ => v = .map (some bm), fun v _ => v = ekL l, fun v _ => v = .slice (some ⟨qb, qoff, none⟩) (s.q l).length qcap, fun v w' => Own w3.heap.size w' 30 1 v (s.q l).length vs, fun v _ => v = .pointer (some ⟨bn, 0, none⟩), fun v _ => v = .pointer (some ⟨bn, 0, none⟩), fun v _ => v = .pointer (some ⟨bn, 0, none⟩), fun v _ => v = .map (some bm), fun v _ => v = ekL l, fun v _ => v = .slice (some ⟨qb, qoff, none⟩) (s.q l).length qcap, fun v _ => v = .int .i64 i, fun v _ => v = .pointer (some ⟨qb, qoff + i.toNat * 1, none⟩), fun v _ => v = x, fun v w' => SlV (fun k => w3.heap.size ≤ k) w' v 1 1 [x], fun v w' => Own w3.heap.size w' 30 1 v ((s.q l).length + 1) (vs ++ [x])] (by kernel_rfl) rfl (Nat.le_of_ble_eq_true rfl) ?_ ?_ ?_ ?_)
      · simp only [List.forall_mem_cons]
        refine ⟨stays_eq, stays_eq, stays_eq, stays_eq, stays_eq, stays_eq, ?_, stays_eq, stays_eq, stays_eq, stays_eq, stays_eq, stays_eq, stays_eq, stays_eq, stays_eq, ?_, ?_, by simp⟩
        · intro v wa wb _ hf hu; exact hf.up hu
        · intro v wa wb _ hf hu; exact hf.up hu
        · intro v wa wb _ hf hu; exact hf.up hu
      · intro ii o ho hne ρ' w' hq hout hF
        match ii, ho, hne, hF with
        | 0, ho, _, hF =>
          obtain rfl := Option.some.inj ho
          change Step _ _ ρ' w' _
          have s0 := (show ev ρ' (.tmp 0) = _ from hout 0 (by decide)).trans r0
          exact st_move s0 ⟨rfl, Up.refl _⟩
        | 1, ho, _, hF =>
          obtain rfl := Option.some.inj ho
          change Step _ _ ρ' w' _
          have s23 : ev ρ' (.tmp 23) = .pointer (some ⟨bn, 0, none⟩) := hF 0 _ rfl (by kernel_rfl)
          exact st_nilCheck s23 ⟨rfl, Up.refl _⟩
        | 2, ho, _, hF =>
          obtain rfl := Option.some.inj ho
          change Step _ _ ρ' w' _
          have s24 : ev ρ' (.tmp 24) = .pointer (some ⟨bn, 0, none⟩) := hF 1 _ rfl (by kernel_rfl)
          exact st_fieldAddr (f := 0) (k := 0) s24 Try.underlying64 rfl rfl Try.sizeOf61 ⟨rfl, Up.refl _⟩
        | 3, ho, _, hF =>
          obtain rfl := Option.some.inj ho
          change Step _ _ ρ' w' _
          have s25 : ev ρ' (.tmp 25) = .pointer (some ⟨bn, 0, none⟩) := hF 2 _ rfl (by kernel_rfl)
          exact st_load1 Try.isAgg61 s25 ((h.up hq).blk.cell rfl) ⟨rfl, Up.refl _⟩
        | 4, ho, _, hF =>
          obtain rfl := Option.some.inj ho
          change Step _ _ ρ' w' _
          have s4 := (show ev ρ' (.tmp 4) = _ from hout 4 (by decide)).trans r4
          exact st_loadK Try.isAgg29 Try.sizeOf29 s4 (cells2 ((B4.up hq).cell rfl) ((B4.up hq).cell rfl)) rfl ⟨rfl, Up.refl _⟩
        | 5, ho, _, hF =>
          obtain rfl := Option.some.inj ho
          change Step _ _ ρ' w' _
          have s0 := (show ev ρ' (.tmp 0) = _ from hout 0 (by decide)).trans r0
          exact st_move s0 ⟨rfl, Up.refl _⟩
        | 6, ho, _, hF =>
          obtain rfl := Option.some.inj ho
          change Step _ _ ρ' w' _
          have s28 : ev ρ' (.tmp 28) = .pointer (some ⟨bn, 0, none⟩) := hF 5 _ rfl (by kernel_rfl)
          exact st_nilCheck s28 ⟨rfl, Up.refl _⟩
        | 7, ho, _, hF =>
          obtain rfl := Option.some.inj ho
          change Step _ _ ρ' w' _
          have s29 : ev ρ' (.tmp 29) = .pointer (some ⟨bn, 0, none⟩) := hF 6 _ rfl (by kernel_rfl)
          exact st_fieldAddr (f := 0) (k := 0) s29 Try.underlying64 rfl rfl Try.sizeOf61 ⟨rfl, Up.refl _⟩
        | 8, ho, _, hF =>
          obtain rfl := Option.some.inj ho
          change Step _ _ ρ' w' _
          have s30 : ev ρ' (.tmp 30) = .pointer (some ⟨bn, 0, none⟩) := hF 7 _ rfl (by kernel_rfl)
          exact st_load1 Try.isAgg61 s30 ((h.up hq).blk.cell rfl) ⟨rfl, Up.refl _⟩
        | 9, ho, _, hF =>
          obtain rfl := Option.some.inj ho
          change Step _ _ ρ' w' _
          have s4 := (show ev ρ' (.tmp 4) = _ from hout 4 (by decide)).trans r4
          exact st_loadK Try.isAgg29 Try.sizeOf29 s4 (cells2 ((B4.up hq).cell rfl) ((B4.up hq).cell rfl)) rfl ⟨rfl, Up.refl _⟩
        | 10, ho, _, hF =>
          obtain rfl := Option.some.inj ho
          change Step _ _ ρ' w' _
          have s31 : ev ρ' (.tmp 31) = .map (some bm) := hF 8 _ rfl (by kernel_rfl)
          have s32 : ev ρ' (.tmp 32) = ekL l := hF 9 _ rfl (by kernel_rfl)
          exact st_look s31 s32 (hlk _ hq) ⟨rfl, Up.refl _⟩
        | 11, ho, _, hF =>
          obtain rfl := Option.some.inj ho
          change Step _ _ ρ' w' _
          have s33 : ev ρ' (.tmp 33) = .slice (some ⟨qb, qoff, none⟩) (s.q l).length qcap := hF 10 _ rfl (by kernel_rfl)
          refine st_call1 ent47 s33 ((cloneq_ok _ (hvs.up hq) hone (by omega)).mono ?_)
          intro v w2 ⟨ho, hu2⟩; exact ⟨ho.base hq.size, hu2⟩
        | 12, ho, _, hF =>
          obtain rfl := Option.some.inj ho
          change Step _ _ ρ' w' _
          have s0 := (show ev ρ' (.tmp 0) = _ from hout 0 (by decide)).trans r0
          exact st_move s0 ⟨rfl, Up.refl _⟩
        | 13, ho, _, hF =>
          obtain rfl := Option.some.inj ho
          change Step _ _ ρ' w' _
          have s35 : ev ρ' (.tmp 35) = .pointer (some ⟨bn, 0, none⟩) := hF 12 _ rfl (by kernel_rfl)
          exact st_nilCheck s35 ⟨rfl, Up.refl _⟩
        | 14, ho, _, hF =>
          obtain rfl := Option.some.inj ho
          change Step _ _ ρ' w' _
          have s36 : ev ρ' (.tmp 36) = .pointer (some ⟨bn, 0, none⟩) := hF 13 _ rfl (by kernel_rfl)
          exact st_fieldAddr (f := 0) (k := 0) s36 Try.underlying64 rfl rfl Try.sizeOf61 ⟨rfl, Up.refl _⟩
        | 15, ho, _, hF =>
          obtain rfl := Option.some.inj ho
          change Step _ _ ρ' w' _
          have s37 : ev ρ' (.tmp 37) = .pointer (some ⟨bn, 0, none⟩) := hF 14 _ rfl (by kernel_rfl)
          exact st_load1 Try.isAgg61 s37 ((h.up hq).blk.cell rfl) ⟨rfl, Up.refl _⟩
        | 16, ho, _, hF =>
          obtain rfl := Option.some.inj ho
          change Step _ _ ρ' w' _
          have s4 := (show ev ρ' (.tmp 4) = _ from hout 4 (by decide)).trans r4
          exact st_loadK Try.isAgg29 Try.sizeOf29 s4 (cells2 ((B4.up hq).cell rfl) ((B4.up hq).cell rfl)) rfl ⟨rfl, Up.refl _⟩
        | 17, ho, _, hF =>
          obtain rfl := Option.some.inj ho
          change Step _ _ ρ' w' _
          have s38 : ev ρ' (.tmp 38) = .map (some bm) := hF 15 _ rfl (by kernel_rfl)
          have s39 : ev ρ' (.tmp 39) = ekL l := hF 16 _ rfl (by kernel_rfl)
          exact st_look s38 s39 (hlk _ hq) ⟨rfl, Up.refl _⟩
        | 18, ho, _, hF =>
          obtain rfl := Option.some.inj ho
          change Step _ _ ρ' w' _
          have s2 := (show ev ρ' (.tmp 2) = _ from hout 2 (by decide)).trans r2
          exact st_move s2 ⟨rfl, Up.refl _⟩
        | 19, ho, _, hF =>
          obtain rfl := Option.some.inj ho
          change Step _ _ ρ' w' _
          have s40 : ev ρ' (.tmp 40) = .slice (some ⟨qb, qoff, none⟩) (s.q l).length qcap := hF 17 _ rfl (by kernel_rfl)
          have s41 : ev ρ' (.tmp 41) = .int .i64 i := hF 18 _ rfl (by kernel_rfl)
          exact st_indexAddrS s40 s41 Try.underlying78 Try.sizeOf30 (by omega) (by omega) ⟨rfl, Up.refl _⟩
        | 20, ho, _, hF =>
          obtain rfl := Option.some.inj ho
          change Step _ _ ρ' w' _
          have s42 : ev ρ' (.tmp 42) = .pointer (some ⟨qb, qoff + i.toNat * 1, none⟩) := hF 19 _ rfl (by kernel_rfl)
          exact st_load1 Try.isAgg30 s42 (cell_up hcx hq) ⟨rfl, Up.refl _⟩
        | 21, ho, _, hF =>
          obtain rfl := Option.some.inj ho
          change Step _ _ ρ' w' _
          have s43 : ev ρ' (.tmp 43) = x := hF 20 _ rfl (by kernel_rfl)
          refine st_build1 s43 Try.underlying78 info30 rfl hx1 ?_
          intro g w2 m; exact ⟨made_sl m (by simp) (show w3.heap.size ≤ g by have := m.at_; have := hq.size; omega), m.up⟩
        | 22, _, hne, _ => exact absurd rfl hne
        | q + 23, ho, _, _ => have h1 := (List.getElem?_eq_some_iff.1 ho).1; have h2 := Nat.lt_of_lt_of_le h1 (List.length_take_le _ _); omega
      · intro o ho ρ' w' hq hout hF
        obtain rfl := Option.some.inj ho
        change Step _ _ ρ' w' _
        have f11 := hF 11 _ rfl (by kernel_rfl)
        have s34 : ev ρ' (.tmp 34) = ρ' 34 := rfl
        have f21 := hF 21 _ rfl (by kernel_rfl)
        have s44 : ev ρ' (.tmp 44) = ρ' 44 := rfl
        have f11 : Own w3.heap.size w' 30 1 (ρ' 34) (s.q l).length vs := f11
        refine st_append s34 s44 Try.underlying78 info30 rfl (by omega) f11 f21 (by intro c hc; simp at hc; subst hc; exact hx1) (by omega) (by omega) hq.size ?_
        intro v w2 ho hfr _ _
        exact ⟨ho, (Frm.trans' (X := NoB) hq.frm hfr fun i hi hib => absurd (f11.block i hib).1 (by omega)).up⟩
      intro ρ7 w4 hq6 hout hF
      replace h := h.up hq6
      replace B4 := B4.up hq6
      replace hu := hu.trans hq6
      have q26 : ev ρ7 (.tmp 26) = .map (some bm) := hF 3 _ rfl rfl
      have q27 : ev ρ7 (.tmp 27) = ekL l := hF 4 _ rfl rfl
      have f22 := hF 22 _ rfl rfl
      have q45 : ev ρ7 (.tmp 45) = ρ7 45 := rfl
      clear hout hF r0 r2 r22 r4
      have r26 := q26; clear q26
      have r27 := q27; clear q27
      have r45 := q45; clear q45
      have hW := h.widen (B := w.heap.size) hbn hbm
      have f22 : Own _ w4 30 1 _ ((s.q l).length + 1) (vs ++ [x]) := f22
      have hv6 : RQ (fun b => S b ∨ (w.heap.size ≤ b ∧ b < w4.heap.size)) w4 _ ((s.q l) ++ [(s.q l).getD i.toNat []]) := ⟨vs ++ [x], by rw [List.length_append]; exact f22.sl.mono (fun b hb hb' => .inr ⟨by omega, hb⟩) (by omega), All2.append (All2.imp hall fun _ _ _ _ hr => (hr.up hq6).mono fun b _ h => .inl h) ⟨(hrx.up hq6).mono fun b _ h => .inl h, trivial⟩⟩
      refine WL.cons rfl (st_mapUpdate (ek := ekL) (a := l) r26 r27 r45 keyL Try.underlying61 hW.map hv6 ?_)
      intro w5 hm hf2 _ _
      have hW2 := hW.put hm hf2
      have ht : NetTo S w _ bn bm { s with of := aset s.of l (s.q l ++ [(s.q l).getD i.toNat []]) } := ⟨hu.frm.trans (hf2.mono fun _ _ h => .inr h), _, hW2, fun b hb => Or.imp id And.left hb⟩
      refine WL.nil ?_
      refine W.gen ?_; intro ρ8 hρ
      clear hρ r26 r27 r45
      refine W.seqR ?_
      refine WL.cons rfl (st_assign uc ?_)
      refine WL.nil ?_
      refine W.gen ?_; intro ρ9 hρ
      have q6 := (hρ 6).trans us
      clear hρ
      have r6 := q6; clear q6
      refine W.ret ?_
      refine fin1 r6 ?_
      unfold NetS.double; rw [if_neg (by simp [ha]), if_neg (by omega)]; exact ⟨rfl, ht⟩

end Go.Proofs.Ytppohfgaegahoaa
