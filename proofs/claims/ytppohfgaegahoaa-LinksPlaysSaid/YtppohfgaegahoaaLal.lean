/- Walk: the document's Net: Double. -/
import Derived.Test.YtppohfgaegahoaaLak
namespace Go.Proofs.Ytppohfgaegahoaa
open Go.Tw Go.RowKit
attribute [local irreducible] Step WL W WQ Does

/-- (*towline towlineref04.Net).Double -/
theorem rdouble_ok {Sx : Nat → Prop} {x : RefS} {bx : Nat} (w : World) (h : RefR Sx w bx x) (hm : x.items.length ≤ 1000000) (l : Lk) (i : Int) : Does Try.prog 41 #[.pointer (some ⟨bx, 0, none⟩), ekL l, .int .i64 i] w (fun v w' => v = .int .i64 (x.double l i).2 ∧ RefTo Sx w w' bx (x.double l i).1) := by
  have hbx0 : bx < w.heap.size := by obtain ⟨_, hh, _⟩ := h.blk; exact hh.lt
  refine fn_of_W (rs := [6]) (N := 36) Try.func41 rfl rfl rfl (by simp) ?_
  intro ρ0 hρ0
  have r0 : ev ρ0 (.tmp 0) = .pointer (some ⟨bx, 0, none⟩) := hρ0 0
  have r1 : ev ρ0 (.tmp 1) = ekL l := hρ0 1
  have r2 : ev ρ0 (.tmp 2) = .int .i64 i := hρ0 2
  clear hρ0
  have hu := Up.refl w
  refine W.seqR ?_
  refine WL.cons rfl (st_box r1 ?_)
  intro b4 w1 m4; have B4 := m4.blk
  replace h := h.up m4.up
  replace hu := hu.trans m4.up
  refine WL.cons rfl (st_assign uc ?_)
  refine WL.nil ?_
  refine W.gen ?_; intro ρ1 hρ
  have q0 := (hρ 0).trans (un (un r0)); have q2 := (hρ 2).trans (un (un r2)); have q4 := (hρ 4).trans (un us)
  clear hρ r0 r1 r2
  have r0 := q0; clear q0; have r2 := q2; clear q2; have r4 := q4; clear q4
  refine W.seqR ?_
  refine WL.cons rfl (st_move r0 ?_)
  refine WL.cons rfl (st_loadK Try.isAgg29 Try.sizeOf29 (un r4) (cells2 (B4.cell rfl) (B4.cell rfl)) rfl ?_)
  refine WL.cons rfl (st_move (un (un r2)) ?_)
  refine WL.cons rfl (st_call3 ent45 (un (un us)) (un us) us (((place_ok _ h hm l i)).mono ?_))
  intro vp w2 ⟨hvp, uP⟩; subst hvp
  replace h := h.up uP
  replace B4 := B4.up uP
  replace hu := hu.trans uP
  refine WL.cons rfl (st_assign us ?_)
  refine WL.nil ?_
  refine W.gen ?_; intro ρ2 hρ
  have q0 := (hρ 0).trans (un (un (un (un (un r0))))); have q4 := (hρ 4).trans (un (un (un (un (un r4))))); have q7 := (hρ 7).trans us
  clear hρ r0 r2 r4
  have r0 := q0; clear q0; have r4 := q4; clear q4; have r7 := q7; clear q7
  refine W.seq ?_
  refine W.seqR ?_
  refine WL.cons rfl (st_move r7 ?_)
  refine WL.cons rfl (st_lss us uc ?_)
  refine WL.nil ?_
  refine W.gen ?_; intro ρ3 hρ
  have q0 := (hρ 0).trans (un (un r0)); have q4 := (hρ 4).trans (un (un r4)); have q7 := (hρ 7).trans (un (un r7)); have q13 := (hρ 13).trans us
  clear hρ r0 r4 r7
  have r0 := q0; clear q0; have r4 := q4; clear q4; have r7 := q7; clear q7; have r13 := q13; clear q13
  refine W.cond r13 (fun hc2 => ?_) (fun hc2 => ?_)
  · skip
    try simp only [tests] at hc2
    have hp : x.place l i = none := by
      cases e : x.place l i with
      | none => rfl
      | some a => unfold placeI at hc2; rw [e] at hc2; exact absurd hc2 (by simp)
    refine W.seqR ?_
    refine WL.cons rfl (st_assign uc ?_)
    refine WL.nil ?_
    refine W.gen ?_; intro ρ4 hρ
    have q6 := (hρ 6).trans us
    clear hρ r0 r13 r4 r7
    have r6 := q6; clear q6
    refine W.ret ?_
    refine fin1 r6 ?_
    unfold RefS.double; rw [hp]; exact ⟨rfl, .same h hu.frm⟩
  · skip
    try simp only [tests] at hc2
    obtain ⟨a, hp⟩ : ∃ a, x.place l i = some a := by
      cases e : x.place l i with
      | some a => exact ⟨a, rfl⟩
      | none => unfold placeI at hc2; rw [e] at hc2; exact absurd hc2 (by simp)
    obtain ⟨hlt, m, hm1⟩ := place_lt hp
    have hpi : placeI x l i = (a : Int) := by unfold placeI; rw [hp]
    rw [hpi] at r7
    refine W.skip ?_
    refine W.seq ?_
    refine W.seqR ?_
    refine WL.cons rfl (st_move r0 ?_)
    refine WL.cons rfl (st_loadK Try.isAgg29 Try.sizeOf29 (un r4) (cells2 (B4.cell rfl) (B4.cell rfl)) rfl ?_)
    refine WL.cons rfl (st_call2 ent21 (un us) us (((rlen_ok _ h hm l)).mono ?_))
    intro vl w3 ⟨hvl, ul⟩; subst hvl
    replace h := h.up ul
    replace B4 := B4.up ul
    replace hu := hu.trans ul
    refine WL.cons rfl (st_geq us uc ?_)
    refine WL.nil ?_
    refine W.gen ?_; intro ρ5 hρ
    have q0 := (hρ 0).trans (un (un (un (un r0)))); have q7 := (hρ 7).trans (un (un (un (un r7)))); have q17 := (hρ 17).trans us
    clear hρ r0 r13 r4 r7
    have r0 := q0; clear q0; have r7 := q7; clear q7; have r17 := q17; clear q17
    refine W.cond r17 (fun hc4 => ?_) (fun hc4 => ?_)
    · skip
      try simp only [tests] at hc4
      refine W.seqR ?_
      refine WL.cons rfl (st_assign uc ?_)
      refine WL.nil ?_
      refine W.gen ?_; intro ρ6 hρ
      have q6 := (hρ 6).trans us
      clear hρ r0 r17 r7
      have r6 := q6; clear q6
      refine W.ret ?_
      refine fin1 r6 ?_
      unfold RefS.double; rw [hp]; dsimp only; rw [if_pos (by omega)]; exact ⟨rfl, .same h hu.frm⟩
    · skip
      try simp only [tests] at hc4
      refine W.skip ?_
      obtain ⟨vi, hbk, hsl, hroom⟩ := h.blk
      obtain ⟨io, ic, hvi, _, hci⟩ := id hsl; subst hvi
      obtain ⟨bb, off, rfl, _, hcc⟩ := hci (by omega)
      have hat := itC_at hcc hm1
      have hbs := hu.size
      refine W.seq (W.drawQ mixed 16 15 [fun v => v = .pointer (some ⟨bx, 0, none⟩)] [fun v w' => ∃ g, v = .slice (some ⟨g, 0, none⟩) 0 0 ∧ Own w3.heap.size w' 86 3 v 0 [], fun v _ => v = .pointer (some ⟨bx, 0, none⟩), fun v _ => v = .pointer (some ⟨bx, 0, none⟩), fun v _ => v = .pointer (some ⟨bx, 0, none⟩), fun v _ => v = .slice (some ⟨bb, off, none⟩) x.items.length ic, fun v w' => Own w3.heap.size w' 86 3 v x.items.length (itC x.items), fun v _ => v = .pointer (some ⟨bx, 0, none⟩), fun v _ => v = .pointer (some ⟨bx, 0, none⟩), fun v _ => v = .pointer (some ⟨bx, 0, none⟩), fun v _ => v = .slice (some ⟨bb, off, none⟩) x.items.length ic, fun v _ => v = .int .i64 (a : Int), fun v _ => v = .pointer (some ⟨bb, off + a * 3, none⟩), fun v _ => v = .agg (it3 (l, m)).toArray, fun v w' => SlV (fun k => w3.heap.size ≤ k) w' v 1 3 (it3 (l, m)), fun v w' => Own w3.heap.size w' 86 3 v (x.items.length + 1) (itC (x.items ++ [(l, m)]))] (by kernel_rfl) rfl (Nat.le_of_ble_eq_true rfl) ?_ ?_ ?_ ?_)
      · simp only [List.forall_mem_cons]
        refine ⟨?_, stays_eq, stays_eq, stays_eq, stays_eq, ?_, stays_eq, stays_eq, stays_eq, stays_eq, stays_eq, stays_eq, stays_eq, ?_, ?_, by simp⟩
        · intro v wa wb _ hf hu; obtain ⟨g, h1, h2⟩ := hf; exact ⟨g, h1, h2.up hu⟩
        · intro v wa wb _ hf hu; exact hf.up hu
        · intro v wa wb _ hf hu; exact hf.up hu
        · intro v wa wb _ hf hu; exact hf.up hu
      · intro ii o ho hne ρ' w' hq hout hF
        match ii, ho, hne, hF with
        | 0, ho, _, hF =>
          obtain rfl := Option.some.inj ho
          change Step _ _ ρ' w' _
          have s0 := (show ev ρ' (.tmp 0) = _ from hout 0 (by decide)).trans r0
          exact st_move s0 ⟨rfl, Up.refl _⟩
        | 1, ho, _, hF =>
          obtain rfl := Option.some.inj ho
          change Step _ _ ρ' w' _
          refine st_empty0 Try.underlying48 Try.sizeOf86 ?_
          intro g w2 _ ho hu2; exact ⟨⟨g, rfl, ho.base hq.size⟩, hu2⟩
        | 2, ho, _, hF =>
          obtain rfl := Option.some.inj ho
          change Step _ _ ρ' w' _
          have s0 := (show ev ρ' (.tmp 0) = _ from hout 0 (by decide)).trans r0
          exact st_move s0 ⟨rfl, Up.refl _⟩
        | 3, ho, _, hF =>
          obtain rfl := Option.some.inj ho
          change Step _ _ ρ' w' _
          have s20 : ev ρ' (.tmp 20) = .pointer (some ⟨bx, 0, none⟩) := hF 2 _ rfl (by kernel_rfl)
          exact st_nilCheck s20 ⟨rfl, Up.refl _⟩
        | 4, ho, _, hF =>
          obtain rfl := Option.some.inj ho
          change Step _ _ ρ' w' _
          have s21 : ev ρ' (.tmp 21) = .pointer (some ⟨bx, 0, none⟩) := hF 3 _ rfl (by kernel_rfl)
          exact st_fieldAddr (f := 0) (k := 0) s21 Try.underlying51 rfl rfl Try.sizeOf48 ⟨rfl, Up.refl _⟩
        | 5, ho, _, hF =>
          obtain rfl := Option.some.inj ho
          change Step _ _ ρ' w' _
          have s22 : ev ρ' (.tmp 22) = .pointer (some ⟨bx, 0, none⟩) := hF 4 _ rfl (by kernel_rfl)
          exact st_load1 Try.isAgg48 s22 ((hbk.up hq).cell rfl) ⟨rfl, Up.refl _⟩
        | 6, ho, _, hF =>
          obtain rfl := Option.some.inj ho
          change Step _ _ ρ' w' _
          have f1 := hF 1 _ rfl (by kernel_rfl)
          have s19 : ev ρ' (.tmp 19) = ρ' 19 := rfl
          have s23 : ev ρ' (.tmp 23) = .slice (some ⟨bb, off, none⟩) x.items.length ic := hF 5 _ rfl (by kernel_rfl)
          obtain ⟨g, hg, ho⟩ := f1
          have hg : ρ' 19 = .slice (some ⟨g, 0, none⟩) 0 0 := hg
          have ho : Own w3.heap.size w' 86 3 (ρ' 19) 0 [] := ho
          rw [hg] at ho
          refine st_appendZero (s19.trans hg) s23 Try.underlying48 info86 rfl (by omega) ho (hsl.up hq) (itC_one _) (by omega) (by omega) hq.size ?_
          intro v wz hov hu2; exact ⟨hov, hu2⟩
        | 7, ho, _, hF =>
          obtain rfl := Option.some.inj ho
          change Step _ _ ρ' w' _
          have s0 := (show ev ρ' (.tmp 0) = _ from hout 0 (by decide)).trans r0
          exact st_move s0 ⟨rfl, Up.refl _⟩
        | 8, ho, _, hF =>
          obtain rfl := Option.some.inj ho
          change Step _ _ ρ' w' _
          have s25 : ev ρ' (.tmp 25) = .pointer (some ⟨bx, 0, none⟩) := hF 7 _ rfl (by kernel_rfl)
          exact st_nilCheck s25 ⟨rfl, Up.refl _⟩
        | 9, ho, _, hF =>
          obtain rfl := Option.some.inj ho
          change Step _ _ ρ' w' _
          have s26 : ev ρ' (.tmp 26) = .pointer (some ⟨bx, 0, none⟩) := hF 8 _ rfl (by kernel_rfl)
          exact st_fieldAddr (f := 0) (k := 0) s26 Try.underlying51 rfl rfl Try.sizeOf48 ⟨rfl, Up.refl _⟩
        | 10, ho, _, hF =>
          obtain rfl := Option.some.inj ho
          change Step _ _ ρ' w' _
          have s27 : ev ρ' (.tmp 27) = .pointer (some ⟨bx, 0, none⟩) := hF 9 _ rfl (by kernel_rfl)
          exact st_load1 Try.isAgg48 s27 ((hbk.up hq).cell rfl) ⟨rfl, Up.refl _⟩
        | 11, ho, _, hF =>
          obtain rfl := Option.some.inj ho
          change Step _ _ ρ' w' _
          have s7 := (show ev ρ' (.tmp 7) = _ from hout 7 (by decide)).trans r7
          exact st_move s7 ⟨rfl, Up.refl _⟩
        | 12, ho, _, hF =>
          obtain rfl := Option.some.inj ho
          change Step _ _ ρ' w' _
          have s28 : ev ρ' (.tmp 28) = .slice (some ⟨bb, off, none⟩) x.items.length ic := hF 10 _ rfl (by kernel_rfl)
          have s29 : ev ρ' (.tmp 29) = .int .i64 (a : Int) := hF 11 _ rfl (by kernel_rfl)
          exact st_indexAddrS s28 s29 Try.underlying48 Try.sizeOf86 (by omega) (by omega) ⟨rfl, Up.refl _⟩
        | 13, ho, _, hF =>
          obtain rfl := Option.some.inj ho
          change Step _ _ ρ' w' _
          have s30 : ev ρ' (.tmp 30) = .pointer (some ⟨bb, off + a * 3, none⟩) := hF 12 _ rfl (by kernel_rfl)
          exact st_loadK Try.isAgg86 Try.sizeOf86 s30 (hat.up hq) rfl ⟨rfl, Up.refl _⟩
        | 14, ho, _, hF =>
          obtain rfl := Option.some.inj ho
          change Step _ _ ρ' w' _
          have s31 : ev ρ' (.tmp 31) = .agg (it3 (l, m)).toArray := hF 13 _ rfl (by kernel_rfl)
          refine st_bs1 s31 (build_item (l, m)) ?_
          intro g wz mm; exact ⟨made_sl mm rfl (show w3.heap.size ≤ g by have := mm.at_; have := hq.size; omega), mm.up⟩
        | 15, _, hne, _ => exact absurd rfl hne
        | q + 16, ho, _, _ => have h1 := (List.getElem?_eq_some_iff.1 ho).1; have h2 := Nat.lt_of_lt_of_le h1 (List.length_take_le _ _); omega
      · intro o ho ρ' w' hq hout hF
        obtain rfl := Option.some.inj ho
        change Step _ _ ρ' w' _
        have f6 := hF 6 _ rfl (by kernel_rfl)
        have s24 : ev ρ' (.tmp 24) = ρ' 24 := rfl
        have f14 := hF 14 _ rfl (by kernel_rfl)
        have s32 : ev ρ' (.tmp 32) = ρ' 32 := rfl
        have f6 : Own w3.heap.size w' 86 3 (ρ' 24) x.items.length (itC x.items) := f6
        refine st_append s24 s32 Try.underlying48 info86 rfl (by omega) f6 f14 (it3_cells _) (by omega) (by omega) hq.size ?_
        intro v wz ho hfr _ _
        exact ⟨(show Own w3.heap.size wz 86 3 v (x.items.length + 1) (itC (x.items ++ [(l, m)])) from by rw [show itC (x.items ++ [(l, m)]) = itC x.items ++ it3 (l, m) from by rw [itC_append]; simp [itC]]; exact ho), (Frm.trans' (X := NoB) hq.frm hfr fun i hi hib => absurd (f6.block i hib).1 (by omega)).up⟩
      intro ρ7 w4 hq6 hout hF
      replace h := h.up hq6
      replace B4 := B4.up hq6
      replace hu := hu.trans hq6
      have q18 : ev ρ7 (.tmp 18) = .pointer (some ⟨bx, 0, none⟩) := hF 0 _ rfl rfl
      have f15 := hF 15 _ rfl rfl
      have q33 : ev ρ7 (.tmp 33) = ρ7 33 := rfl
      clear hout hF r0 r17 r7
      have r18 := q18; clear q18
      have r33 := q33; clear q33
      refine WL.cons rfl (st_nilCheck r18 ?_)
      refine WL.cons rfl (st_fieldAddr (f := 0) (k := 0) us Try.underlying51 rfl rfl Try.sizeOf48 ?_)
      obtain ⟨vo, vc, hvo, hvc, _⟩ := f15.slice
      obtain ⟨vi2, hbk2, _⟩ := h.blk
      refine WL.cons rfl (st_store us ((un (un r33)).trans hvo) (cs := (refC (.slice vo (x.items.length + 1) vc) { x with items := x.items ++ [(l, m)] }).toArray) Try.sizeOf48 rfl hbk2 (by simp [refC]) (by simp [Value.cells, Value.oneCell']) (by simp [refC, Value.cells]) ?_)
      intro w5 hb2 hf2 _
      have f15' := f15.sl; rw [hvo] at f15'
      have hr2 : RefTo Sx w w5 bx { x with items := x.items ++ [(l, m)] } := .new (by simp) hb2 f15' hf2 (by omega) hbs hvc (hu.frm.trans hf2)
      replace hf2 := hu.frm.trans hf2
      refine WL.nil ?_
      refine W.gen ?_; intro ρ8 hρ
      clear hρ r18 r33
      refine W.seqR ?_
      refine WL.cons rfl (st_assign uc ?_)
      refine WL.nil ?_
      refine W.gen ?_; intro ρ9 hρ
      have q6 := (hρ 6).trans us
      clear hρ
      have r6 := q6; clear q6
      refine W.ret ?_
      refine fin1 r6 ?_
      unfold RefS.double; rw [hp]; dsimp only; rw [if_neg (by omega), hm1]; exact ⟨rfl, hr2⟩

end Go.Proofs.Ytppohfgaegahoaa
