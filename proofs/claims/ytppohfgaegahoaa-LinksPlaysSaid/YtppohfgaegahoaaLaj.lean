/- Walk: the document's Net: Send. -/
import Derived.Test.YtppohfgaegahoaaLai
namespace Go.Proofs.Ytppohfgaegahoaa
open Go.Tw Go.RowKit
attribute [local irreducible] Step WL W WQ Does

theorem info86 : EInfo Try.prog 86 (.agg #[.int .i64 0, .int .i64 0, .string ⟨#[]⟩]) 3 32 := by unfold EInfo; kernel_rfl
theorem build_item (p : Lk × Msg) (w : World) : (Instr.buildSlice 48 1 #[(0, .agg (it3 p).toArray)]).run Try.prog w = .ok (.slice (some ⟨w.heap.size, 0, none⟩) 1 1) (w.alloc (.cells (it3 p).toArray 86)) :=
  run_buildN Try.underlying48 info86 (by decide) (by decide) (by kernel_rfl) w
theorem refC_lost (v : Value) (x : RefS) : (refC v x).toArray[65]? = some (.int .i64 x.lost) := by simp [refC]
theorem it3_cells (p : Lk × Msg) : ∀ c ∈ it3 p, c.oneCell' = true := by
  intro c hc
  simp [it3] at hc
  rcases hc with rfl | rfl | rfl <;> rfl

/-- (*towline towlineref04.Net).Send -/
theorem rsend_ok {Sx : Nat → Prop} {x : RefS} {bx : Nat} (w : World) (h : RefR Sx w bx x) (hm : x.items.length ≤ 1000000) (l : Lk) {Sb : Nat → Prop} {u : Value} {b : Msg} (hb : RB Sb w u b) : Does Try.prog 44 #[.pointer (some ⟨bx, 0, none⟩), ekL l, u] w (fun v w' => v = .int .i64 (x.send l b).2 ∧ RefTo Sx w w' bx (x.send l b).1) := by
  obtain ⟨bo, bc, hbu, _, _⟩ := id hb
  have hbx0 : bx < w.heap.size := by obtain ⟨_, hh, _⟩ := h.blk; exact hh.lt
  refine fn_of_W (rs := [6]) (N := 39) Try.func44 rfl rfl rfl (by simp) ?_
  intro ρ0 hρ0
  have r0 : ev ρ0 (.tmp 0) = .pointer (some ⟨bx, 0, none⟩) := hρ0 0
  have r1 : ev ρ0 (.tmp 1) = ekL l := hρ0 1
  have r2 : ev ρ0 (.tmp 2) = u := hρ0 2
  clear hρ0
  have hu := Up.refl w
  subst hbu
  refine W.seqR ?_
  refine WL.cons rfl (st_box r1 ?_)
  intro b4 w1 m4; have B4 := m4.blk
  replace h := h.up m4.up
  replace hb := hb.up m4.up
  replace hu := hu.trans m4.up
  refine WL.cons rfl (st_assign uc ?_)
  refine WL.nil ?_
  refine W.gen ?_; intro ρ1 hρ
  have q0 := (hρ 0).trans (un (un r0)); have q2 := (hρ 2).trans (un (un r2)); have q4 := (hρ 4).trans (un us)
  clear hρ r0 r1 r2
  have r0 := q0; clear q0; have r2 := q2; clear q2; have r4 := q4; clear q4
  refine W.seq ?_
  refine W.seqR ?_
  refine WL.cons rfl (st_loadK Try.isAgg29 Try.sizeOf29 r4 (cells2 (B4.cell rfl) (B4.cell rfl)) rfl ?_)
  refine WL.cons rfl (st_call1 ent53 us (((right_ok l _)).mono ?_))
  intro vr w2 ⟨hvr, ur⟩; subst hvr
  replace h := h.up ur
  replace hb := hb.up ur
  replace B4 := B4.up ur
  replace hu := hu.trans ur
  refine WL.cons rfl (st_not us ?_)
  refine WL.nil ?_
  refine W.gen ?_; intro ρ2 hρ
  have q0 := (hρ 0).trans (un (un (un r0))); have q2 := (hρ 2).trans (un (un (un r2))); have q4 := (hρ 4).trans (un (un (un r4))); have q9 := (hρ 9).trans us
  clear hρ r0 r2 r4
  have r0 := q0; clear q0; have r2 := q2; clear q2; have r4 := q4; clear q4; have r9 := q9; clear q9
  refine W.cond r9 (fun hc1 => ?_) (fun hc1 => ?_)
  · skip
    try simp only [tests] at hc1
    have hf : fitsL l = false := by simpa using hc1
    refine W.seqR ?_
    refine WL.cons rfl (st_assign uc ?_)
    refine WL.nil ?_
    refine W.gen ?_; intro ρ3 hρ
    have q6 := (hρ 6).trans us
    clear hρ r0 r2 r4 r9
    have r6 := q6; clear q6
    refine W.ret ?_
    refine fin1 r6 ?_
    unfold RefS.send; rw [if_pos hf]; exact ⟨rfl, .same h hu.frm⟩
  · skip
    try simp only [tests] at hc1
    have hf : ¬ fitsL l = false := by simpa using hc1
    refine W.skip ?_
    refine W.seq ?_
    refine W.seqR ?_
    refine WL.cons rfl (st_move r2 ?_)
    refine WL.cons rfl (st_lenS us Try.underlying30 ?_)
    refine WL.cons rfl (st_gtr us uc ?_)
    refine WL.nil ?_
    refine W.gen ?_; intro ρ4 hρ
    have q0 := (hρ 0).trans (un (un (un r0))); have q2 := (hρ 2).trans (un (un (un r2))); have q4 := (hρ 4).trans (un (un (un r4))); have q12 := (hρ 12).trans us
    clear hρ r0 r2 r4 r9
    have r0 := q0; clear q0; have r2 := q2; clear q2; have r4 := q4; clear q4; have r12 := q12; clear q12
    refine W.cond r12 (fun hc3 => ?_) (fun hc3 => ?_)
    · skip
      try simp only [tests] at hc3
      refine W.seqR ?_
      refine WL.cons rfl (st_assign uc ?_)
      refine WL.nil ?_
      refine W.gen ?_; intro ρ5 hρ
      have q6 := (hρ 6).trans us
      clear hρ r0 r12 r2 r4
      have r6 := q6; clear q6
      refine W.ret ?_
      refine fin1 r6 ?_
      unfold RefS.send; rw [if_neg hf, if_pos (by omega)]; exact ⟨rfl, .same h hu.frm⟩
    · skip
      try simp only [tests] at hc3
      refine W.skip ?_
      refine W.seq ?_
      refine W.seqR ?_
      refine WL.cons rfl (st_move r0 ?_)
      refine WL.cons rfl (st_loadK Try.isAgg29 Try.sizeOf29 (un r4) (cells2 (B4.cell rfl) (B4.cell rfl)) rfl ?_)
      refine WL.cons rfl (st_call2 ent21 (un us) us (((rlen_ok _ h hm l)).mono ?_))
      intro vl w3 ⟨hvl, ul⟩; subst hvl
      replace h := h.up ul
      replace hb := hb.up ul
      replace B4 := B4.up ul
      replace hu := hu.trans ul
      refine WL.cons rfl (st_geq us uc ?_)
      refine WL.nil ?_
      refine W.gen ?_; intro ρ6 hρ
      have q0 := (hρ 0).trans (un (un (un (un r0)))); have q2 := (hρ 2).trans (un (un (un (un r2)))); have q4 := (hρ 4).trans (un (un (un (un r4)))); have q16 := (hρ 16).trans us
      clear hρ r0 r12 r2 r4
      have r0 := q0; clear q0; have r2 := q2; clear q2; have r4 := q4; clear q4; have r16 := q16; clear q16
      refine W.cond r16 (fun hc5 => ?_) (fun hc5 => ?_)
      · skip
        try simp only [tests] at hc5
        obtain ⟨vi, hbk, hsl, hroom⟩ := h.blk
        refine W.seqR ?_
        refine WL.cons rfl (st_move r0 ?_)
        refine WL.cons rfl (st_nilCheck us ?_)
        refine WL.cons rfl (st_fieldAddr (f := 2) (k := 0) us Try.underlying51 rfl rfl Try.sizeOf3 ?_)
        refine WL.cons rfl (st_load1 Try.isAgg3 us (hbk.cell (refC_lost _ _)) ?_)
        refine WL.cons rfl (st_add us uc rfl ?_)
        refine WL.cons rfl (st_nilCheck (un (un (un (un us)))) ?_)
        refine WL.cons rfl (st_fieldAddr (f := 2) (k := 0) us Try.underlying51 rfl rfl Try.sizeOf3 ?_)
        refine WL.cons rfl (st_store us (un (un us)) (cs := (refC vi { x with lost := IntKind.i64.wrap (x.lost + 1) }).toArray) Try.sizeOf3 rfl hbk (by simp [refC]) (by simp [Value.cells, Value.oneCell']) (by simp [refC, Value.cells, List.range_succ]) ?_)
        intro w4 hb2 hf2 _
        have hr2 : RefTo Sx w w4 bx { x with lost := IntKind.i64.wrap (x.lost + 1) } := .same ⟨⟨vi, hb2, hsl.frm hf2 fun b hb e => h.ne (by rw [← (show b = bx from e)]; exact hb), hroom⟩, h.ne, fun b hb => Nat.lt_of_lt_of_le (h.old b hb) hf2.size⟩ (hu.frm.trans hf2)
        refine WL.nil ?_
        refine W.gen ?_; intro ρ7 hρ
        clear hρ r0 r16 r2 r4
        refine W.seqR ?_
        refine WL.cons rfl (st_assign uc ?_)
        refine WL.nil ?_
        refine W.gen ?_; intro ρ8 hρ
        have q6 := (hρ 6).trans us
        clear hρ
        have r6 := q6; clear q6
        refine W.ret ?_
        refine fin1 r6 ?_
        unfold RefS.send; rw [if_neg hf, if_neg (by omega), if_pos (by omega)]; exact ⟨rfl, hr2⟩
      · skip
        try simp only [tests] at hc5
        refine W.skip ?_
        obtain ⟨vi, hbk, hsl, hroom⟩ := h.blk
        obtain ⟨io, ic, hvi, _, _⟩ := id hsl; subst hvi
        have hbs := hu.size
        refine W.seq (W.drawQ mixed 13 12 [fun v => v = .pointer (some ⟨bx, 0, none⟩)] [fun v w' => ∃ g, v = .slice (some ⟨g, 0, none⟩) 0 0 ∧ Own w3.heap.size w' 86 3 v 0 [], fun v _ => v = .pointer (some ⟨bx, 0, none⟩), fun v _ => v = .pointer (some ⟨bx, 0, none⟩), fun v _ => v = .pointer (some ⟨bx, 0, none⟩), fun v _ => v = .slice io x.items.length ic, fun v w' => Own w3.heap.size w' 86 3 v x.items.length (itC x.items), fun v _ => v = ekL l, fun v _ => v = .slice bo b.length bc, fun v _ => v = .string ⟨b.toArray⟩, fun v _ => v = .agg (it3 (l, b)).toArray, fun v w' => SlV (fun k => w3.heap.size ≤ k) w' v 1 3 (it3 (l, b)), fun v w' => Own w3.heap.size w' 86 3 v (x.items.length + 1) (itC (x.items ++ [(l, b)]))] (by kernel_rfl) rfl (Nat.le_of_ble_eq_true rfl) ?_ ?_ ?_ ?_)
        · simp only [List.forall_mem_cons]
          refine ⟨?_, stays_eq, stays_eq, stays_eq, stays_eq, ?_, stays_eq, stays_eq, stays_eq, stays_eq, ?_, ?_, by simp⟩
          · intro v wa wb _ hf hu; obtain ⟨g, h1, h2⟩ := hf; exact ⟨g, h1, h2.up hu⟩
          · intro v wa wb _ hf hu; exact hf.up hu
          · intro v wa wb _ hf hu; exact hf.up hu
          · intro v wa wb _ hf hu; exact hf.up hu
        · intro ii o ho hne ρ' w' hq hout hF
          match ii, ho, hne, hF with
          | 0, ho, _, hF =>
            obtain rfl := Option.some.inj ho
            change Step _ _ ρ' w' _
            have s0 := (show ev ρ' (.tmp 0) = _ from hout 0 (by decide)).trans r0
            exact st_move s0 ⟨rfl, Up.refl _⟩
          | 1, ho, _, hF =>
            obtain rfl := Option.some.inj ho
            change Step _ _ ρ' w' _
            refine st_empty0 Try.underlying48 Try.sizeOf86 ?_
            intro g w2 _ ho hu2; exact ⟨⟨g, rfl, ho.base hq.size⟩, hu2⟩
          | 2, ho, _, hF =>
            obtain rfl := Option.some.inj ho
            change Step _ _ ρ' w' _
            have s0 := (show ev ρ' (.tmp 0) = _ from hout 0 (by decide)).trans r0
            exact st_move s0 ⟨rfl, Up.refl _⟩
          | 3, ho, _, hF =>
            obtain rfl := Option.some.inj ho
            change Step _ _ ρ' w' _
            have s26 : ev ρ' (.tmp 26) = .pointer (some ⟨bx, 0, none⟩) := hF 2 _ rfl (by kernel_rfl)
            exact st_nilCheck s26 ⟨rfl, Up.refl _⟩
          | 4, ho, _, hF =>
            obtain rfl := Option.some.inj ho
            change Step _ _ ρ' w' _
            have s27 : ev ρ' (.tmp 27) = .pointer (some ⟨bx, 0, none⟩) := hF 3 _ rfl (by kernel_rfl)
            exact st_fieldAddr (f := 0) (k := 0) s27 Try.underlying51 rfl rfl Try.sizeOf48 ⟨rfl, Up.refl _⟩
          | 5, ho, _, hF =>
            obtain rfl := Option.some.inj ho
            change Step _ _ ρ' w' _
            have s28 : ev ρ' (.tmp 28) = .pointer (some ⟨bx, 0, none⟩) := hF 4 _ rfl (by kernel_rfl)
            exact st_load1 Try.isAgg48 s28 ((hbk.up hq).cell rfl) ⟨rfl, Up.refl _⟩
          | 6, ho, _, hF =>
            obtain rfl := Option.some.inj ho
            change Step _ _ ρ' w' _
            have f1 := hF 1 _ rfl (by kernel_rfl)
            have s25 : ev ρ' (.tmp 25) = ρ' 25 := rfl
            have s29 : ev ρ' (.tmp 29) = .slice io x.items.length ic := hF 5 _ rfl (by kernel_rfl)
            obtain ⟨g, hg, ho⟩ := f1
            have hg : ρ' 25 = .slice (some ⟨g, 0, none⟩) 0 0 := hg
            have ho : Own w3.heap.size w' 86 3 (ρ' 25) 0 [] := ho
            rw [hg] at ho
            refine st_appendZero (s25.trans hg) s29 Try.underlying48 info86 rfl (by omega) ho (hsl.up hq) (itC_one _) (by omega) (by omega) hq.size ?_
            intro v w2 hov hu2; exact ⟨hov, hu2⟩
          | 7, ho, _, hF =>
            obtain rfl := Option.some.inj ho
            change Step _ _ ρ' w' _
            have s4 := (show ev ρ' (.tmp 4) = _ from hout 4 (by decide)).trans r4
            exact st_loadK Try.isAgg29 Try.sizeOf29 s4 (cells2 ((B4.up hq).cell rfl) ((B4.up hq).cell rfl)) rfl ⟨rfl, Up.refl _⟩
          | 8, ho, _, hF =>
            obtain rfl := Option.some.inj ho
            change Step _ _ ρ' w' _
            have s2 := (show ev ρ' (.tmp 2) = _ from hout 2 (by decide)).trans r2
            exact st_move s2 ⟨rfl, Up.refl _⟩
          | 9, ho, _, hF =>
            obtain rfl := Option.some.inj ho
            change Step _ _ ρ' w' _
            have s32 : ev ρ' (.tmp 32) = .slice bo b.length bc := hF 8 _ rfl (by kernel_rfl)
            exact st_string s32 (hb.up hq) Try.underlying30 Try.underlying5 Try.underlying9 ⟨rfl, Up.refl _⟩
          | 10, ho, _, hF =>
            obtain rfl := Option.some.inj ho
            change Step _ _ ρ' w' _
            have s31 : ev ρ' (.tmp 31) = ekL l := hF 7 _ rfl (by kernel_rfl)
            have s33 : ev ρ' (.tmp 33) = .string ⟨b.toArray⟩ := hF 9 _ rfl (by kernel_rfl)
            exact st_buildP2 (v := .agg (it3 (l, b)).toArray) s31 s33 (fun w => by kernel_rfl) ⟨rfl, Up.refl _⟩
          | 11, ho, _, hF =>
            obtain rfl := Option.some.inj ho
            change Step _ _ ρ' w' _
            have s34 : ev ρ' (.tmp 34) = .agg (it3 (l, b)).toArray := hF 10 _ rfl (by kernel_rfl)
            refine st_bs1 s34 (build_item (l, b)) ?_
            intro g w2 m; exact ⟨made_sl m rfl (show w3.heap.size ≤ g by have := m.at_; have := hq.size; omega), m.up⟩
          | 12, _, hne, _ => exact absurd rfl hne
          | q + 13, ho, _, _ => have h1 := (List.getElem?_eq_some_iff.1 ho).1; have h2 := Nat.lt_of_lt_of_le h1 (List.length_take_le _ _); omega
        · intro o ho ρ' w' hq hout hF
          obtain rfl := Option.some.inj ho
          change Step _ _ ρ' w' _
          have f6 := hF 6 _ rfl (by kernel_rfl)
          have s30 : ev ρ' (.tmp 30) = ρ' 30 := rfl
          have f11 := hF 11 _ rfl (by kernel_rfl)
          have s35 : ev ρ' (.tmp 35) = ρ' 35 := rfl
          have f6 : Own w3.heap.size w' 86 3 (ρ' 30) x.items.length (itC x.items) := f6
          refine st_append s30 s35 Try.underlying48 info86 rfl (by omega) f6 f11 (it3_cells _) (by omega) (by omega) hq.size ?_
          intro v w2 ho hfr _ _
          exact ⟨(show Own w3.heap.size w2 86 3 v (x.items.length + 1) (itC (x.items ++ [(l, b)])) from by rw [show itC (x.items ++ [(l, b)]) = itC x.items ++ it3 (l, b) from by rw [itC_append]; simp [itC]]; exact ho), (Frm.trans' (X := NoB) hq.frm hfr fun i hi hib => absurd (f6.block i hib).1 (by omega)).up⟩
        intro ρ9 w5 hq8 hout hF
        replace h := h.up hq8
        replace hb := hb.up hq8
        replace B4 := B4.up hq8
        replace hu := hu.trans hq8
        have q24 : ev ρ9 (.tmp 24) = .pointer (some ⟨bx, 0, none⟩) := hF 0 _ rfl rfl
        have f12 := hF 12 _ rfl rfl
        have q36 : ev ρ9 (.tmp 36) = ρ9 36 := rfl
        clear hout hF r0 r16 r2 r4
        have r24 := q24; clear q24
        have r36 := q36; clear q36
        refine WL.cons rfl (st_nilCheck r24 ?_)
        refine WL.cons rfl (st_fieldAddr (f := 0) (k := 0) us Try.underlying51 rfl rfl Try.sizeOf48 ?_)
        obtain ⟨vo, vc, hvo, hvc, _⟩ := f12.slice
        obtain ⟨vi2, hbk2, _⟩ := h.blk
        refine WL.cons rfl (st_store us ((un (un r36)).trans hvo) (cs := (refC (.slice vo (x.items.length + 1) vc) { x with items := x.items ++ [(l, b)] }).toArray) Try.sizeOf48 rfl hbk2 (by simp [refC]) (by simp [Value.cells, Value.oneCell']) (by simp [refC, Value.cells]) ?_)
        intro w6 hb2 hf2 _
        have f12' := f12.sl; rw [hvo] at f12'
        have hr2 : RefTo Sx w w6 bx { x with items := x.items ++ [(l, b)] } := .new (by simp) hb2 f12' hf2 (by omega) hbs hvc (hu.frm.trans hf2)
        replace hf2 := hu.frm.trans hf2
        refine WL.nil ?_
        refine W.gen ?_; intro ρ10 hρ
        clear hρ r24 r36
        refine W.seqR ?_
        refine WL.cons rfl (st_assign uc ?_)
        refine WL.nil ?_
        refine W.gen ?_; intro ρ11 hρ
        have q6 := (hρ 6).trans us
        clear hρ
        have r6 := q6; clear q6
        refine W.ret ?_
        refine fin1 r6 ?_
        unfold RefS.send; rw [if_neg hf, if_neg (by omega), if_neg (by omega)]; exact ⟨rfl, hr2⟩

end Go.Proofs.Ytppohfgaegahoaa
