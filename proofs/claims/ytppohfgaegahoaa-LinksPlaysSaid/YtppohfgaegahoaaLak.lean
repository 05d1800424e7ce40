/- Walk: the document's Net: Lose. -/
import Derived.Test.YtppohfgaegahoaaLaj
namespace Go.Proofs.Ytppohfgaegahoaa
open Go.Tw Go.RowKit
attribute [local irreducible] Step WL W WQ Does

/-- (*towline towlineref04.Net).Lose -/
theorem rlose_ok {Sx : Nat → Prop} {x : RefS} {bx : Nat} (w : World) (h : RefR Sx w bx x) (hm : x.items.length ≤ 1000000) (l : Lk) (i : Int) : Does Try.prog 40 #[.pointer (some ⟨bx, 0, none⟩), ekL l, .int .i64 i] w (fun v w' => v = .int .i64 (x.lose l i).2 ∧ RefTo Sx w w' bx (x.lose l i).1) := by
  have hbx0 : bx < w.heap.size := by obtain ⟨_, hh, _⟩ := h.blk; exact hh.lt
  refine fn_of_W (rs := [6]) (N := 33) Try.func40 rfl rfl rfl (by simp) ?_
  intro ρ0 hρ0
  have r0 : ev ρ0 (.tmp 0) = .pointer (some ⟨bx, 0, none⟩) := hρ0 0
  have r1 : ev ρ0 (.tmp 1) = ekL l := hρ0 1
  have r2 : ev ρ0 (.tmp 2) = .int .i64 i := hρ0 2
  clear hρ0
  have hu := Up.refl w
  refine W.seqR ?_
  refine WL.cons rfl (st_box r1 ?_)
  intro b4 w1 m4; have B4 := m4.blk
  replace h := h.up m4.up
  replace hu := hu.trans m4.up
  refine WL.cons rfl (st_assign uc ?_)
  refine WL.nil ?_
  refine W.gen ?_; intro ρ1 hρ
  have q0 := (hρ 0).trans (un (un r0)); have q2 := (hρ 2).trans (un (un r2)); have q4 := (hρ 4).trans (un us)
  clear hρ r0 r1 r2
  have r0 := q0; clear q0; have r2 := q2; clear q2; have r4 := q4; clear q4
  refine W.seqR ?_
  refine WL.cons rfl (st_move r0 ?_)
  refine WL.cons rfl (st_loadK Try.isAgg29 Try.sizeOf29 (un r4) (cells2 (B4.cell rfl) (B4.cell rfl)) rfl ?_)
  refine WL.cons rfl (st_move (un (un r2)) ?_)
  refine WL.cons rfl (st_call3 ent45 (un (un us)) (un us) us (((place_ok _ h hm l i)).mono ?_))
  intro vp w2 ⟨hvp, uP⟩; subst hvp
  replace h := h.up uP
  replace B4 := B4.up uP
  replace hu := hu.trans uP
  refine WL.cons rfl (st_assign us ?_)
  refine WL.nil ?_
  refine W.gen ?_; intro ρ2 hρ
  have q0 := (hρ 0).trans (un (un (un (un (un r0))))); have q7 := (hρ 7).trans us
  clear hρ r0 r2 r4
  have r0 := q0; clear q0; have r7 := q7; clear q7
  refine W.seq ?_
  refine W.seqR ?_
  refine WL.cons rfl (st_move r7 ?_)
  refine WL.cons rfl (st_lss us uc ?_)
  refine WL.nil ?_
  refine W.gen ?_; intro ρ3 hρ
  have q0 := (hρ 0).trans (un (un r0)); have q7 := (hρ 7).trans (un (un r7)); have q13 := (hρ 13).trans us
  clear hρ r0 r7
  have r0 := q0; clear q0; have r7 := q7; clear q7; have r13 := q13; clear q13
  refine W.cond r13 (fun hc2 => ?_) (fun hc2 => ?_)
  · skip
    try simp only [tests] at hc2
    have hp : x.place l i = none := by
      cases e : x.place l i with
      | none => rfl
      | some a => unfold placeI at hc2; rw [e] at hc2; exact absurd hc2 (by simp)
    refine W.seqR ?_
    refine WL.cons rfl (st_assign uc ?_)
    refine WL.nil ?_
    refine W.gen ?_; intro ρ4 hρ
    have q6 := (hρ 6).trans us
    clear hρ r0 r13 r7
    have r6 := q6; clear q6
    refine W.ret ?_
    refine fin1 r6 ?_
    unfold RefS.lose; rw [hp]; exact ⟨rfl, .same h hu.frm⟩
  · skip
    try simp only [tests] at hc2
    obtain ⟨a, hp⟩ : ∃ a, x.place l i = some a := by
      cases e : x.place l i with
      | some a => exact ⟨a, rfl⟩
      | none => unfold placeI at hc2; rw [e] at hc2; exact absurd hc2 (by simp)
    obtain ⟨hlt, m, hm1⟩ := place_lt hp
    have hpi : placeI x l i = (a : Int) := by unfold placeI; rw [hp]
    rw [hpi] at r7
    refine W.skip ?_
    obtain ⟨vi, hbk, hsl, hroom⟩ := h.blk
    obtain ⟨io, ic, hvi, _, _⟩ := id hsl; subst hvi
    have hcap := hroom _ _ _ rfl
    have hbs := hu.size
    have htk : SlV Sx w2 (.slice io a ic) a 3 (itC (x.items.take a)) := by
      obtain ⟨o2, c2, he, hl2, hc2'⟩ := id hsl; cases he
      exact ⟨_, _, rfl, by rw [itC_len, List.length_take]; congr 1; omega, fun h0 => let ⟨b, off, h1, h2, h3⟩ := hc2' (by omega); ⟨b, off, h1, h2, by rw [← itC_take]; exact h3.take _⟩⟩
    refine W.seq (W.drawQ mixed 17 16 [fun v => v = .pointer (some ⟨bx, 0, none⟩)] [fun v w' => ∃ g, v = .slice (some ⟨g, 0, none⟩) 0 0 ∧ Own w2.heap.size w' 86 3 v 0 [], fun v _ => v = .pointer (some ⟨bx, 0, none⟩), fun v _ => v = .pointer (some ⟨bx, 0, none⟩), fun v _ => v = .pointer (some ⟨bx, 0, none⟩), fun v _ => v = .slice io x.items.length ic, fun v _ => v = .int .i64 (a : Int), fun v _ => v = .slice io a ic, fun v w' => Own w2.heap.size w' 86 3 v a (itC (x.items.take a)), fun v _ => v = .pointer (some ⟨bx, 0, none⟩), fun v _ => v = .pointer (some ⟨bx, 0, none⟩), fun v _ => v = .pointer (some ⟨bx, 0, none⟩), fun v _ => v = .slice io x.items.length ic, fun v _ => v = .int .i64 (a : Int), fun v _ => v = .int .i64 ((a : Int) + 1), fun v w' => SlV Sx w' v (x.items.length - (a + 1)) 3 (itC (x.items.drop (a + 1))), fun v w' => Own w2.heap.size w' 86 3 v (a + (x.items.length - (a + 1))) (itC (x.items.eraseIdx a))] (by kernel_rfl) rfl (Nat.le_of_ble_eq_true rfl) ?_ ?_ ?_ ?_)
    · simp only [List.forall_mem_cons]
      refine ⟨?_, stays_eq, stays_eq, stays_eq, stays_eq, stays_eq, stays_eq, ?_, stays_eq, stays_eq, stays_eq, stays_eq, stays_eq, stays_eq, ?_, ?_, by simp⟩
      · intro v wa wb _ hf hu; obtain ⟨g, h1, h2⟩ := hf; exact ⟨g, h1, h2.up hu⟩
      · intro v wa wb _ hf hu; exact hf.up hu
      · intro v wa wb _ hf hu; exact hf.up hu
      · intro v wa wb _ hf hu; exact hf.up hu
    · intro ii o ho hne ρ' w' hq hout hF
      match ii, ho, hne, hF with
      | 0, ho, _, hF =>
        obtain rfl := Option.some.inj ho
        change Step _ _ ρ' w' _
        have s0 := (show ev ρ' (.tmp 0) = _ from hout 0 (by decide)).trans r0
        exact st_move s0 ⟨rfl, Up.refl _⟩
      | 1, ho, _, hF =>
        obtain rfl := Option.some.inj ho
        change Step _ _ ρ' w' _
        refine st_empty0 Try.underlying48 Try.sizeOf86 ?_
        intro g w2 _ ho hu2; exact ⟨⟨g, rfl, ho.base hq.size⟩, hu2⟩
      | 2, ho, _, hF =>
        obtain rfl := Option.some.inj ho
        change Step _ _ ρ' w' _
        have s0 := (show ev ρ' (.tmp 0) = _ from hout 0 (by decide)).trans r0
        exact st_move s0 ⟨rfl, Up.refl _⟩
      | 3, ho, _, hF =>
        obtain rfl := Option.some.inj ho
        change Step _ _ ρ' w' _
        have s16 : ev ρ' (.tmp 16) = .pointer (some ⟨bx, 0, none⟩) := hF 2 _ rfl (by kernel_rfl)
        exact st_nilCheck s16 ⟨rfl, Up.refl _⟩
      | 4, ho, _, hF =>
        obtain rfl := Option.some.inj ho
        change Step _ _ ρ' w' _
        have s17 : ev ρ' (.tmp 17) = .pointer (some ⟨bx, 0, none⟩) := hF 3 _ rfl (by kernel_rfl)
        exact st_fieldAddr (f := 0) (k := 0) s17 Try.underlying51 rfl rfl Try.sizeOf48 ⟨rfl, Up.refl _⟩
      | 5, ho, _, hF =>
        obtain rfl := Option.some.inj ho
        change Step _ _ ρ' w' _
        have s18 : ev ρ' (.tmp 18) = .pointer (some ⟨bx, 0, none⟩) := hF 4 _ rfl (by kernel_rfl)
        exact st_load1 Try.isAgg48 s18 ((hbk.up hq).cell rfl) ⟨rfl, Up.refl _⟩
      | 6, ho, _, hF =>
        obtain rfl := Option.some.inj ho
        change Step _ _ ρ' w' _
        have s7 := (show ev ρ' (.tmp 7) = _ from hout 7 (by decide)).trans r7
        exact st_move s7 ⟨rfl, Up.refl _⟩
      | 7, ho, _, hF =>
        obtain rfl := Option.some.inj ho
        change Step _ _ ρ' w' _
        have s19 : ev ρ' (.tmp 19) = .slice io x.items.length ic := hF 5 _ rfl (by kernel_rfl)
        have s20 : ev ρ' (.tmp 20) = .int .i64 (a : Int) := hF 6 _ rfl (by kernel_rfl)
        exact st_sliceH s19 s20 Try.underlying48 Try.sizeOf86 (by omega) (by omega) ⟨rfl, Up.refl _⟩
      | 8, ho, _, hF =>
        obtain rfl := Option.some.inj ho
        change Step _ _ ρ' w' _
        have f1 := hF 1 _ rfl (by kernel_rfl)
        have s15 : ev ρ' (.tmp 15) = ρ' 15 := rfl
        have s21 : ev ρ' (.tmp 21) = .slice io a ic := hF 7 _ rfl (by kernel_rfl)
        obtain ⟨g, hg, ho⟩ := f1
        have hg : ρ' 15 = .slice (some ⟨g, 0, none⟩) 0 0 := hg
        have ho : Own w2.heap.size w' 86 3 (ρ' 15) 0 [] := ho
        rw [hg] at ho
        refine st_appendZero (s15.trans hg) s21 Try.underlying48 info86 rfl (by omega) ho (htk.up hq) (itC_one _) (by omega) (by omega) hq.size ?_
        intro v w2 hov hu2; exact ⟨hov, hu2⟩
      | 9, ho, _, hF =>
        obtain rfl := Option.some.inj ho
        change Step _ _ ρ' w' _
        have s0 := (show ev ρ' (.tmp 0) = _ from hout 0 (by decide)).trans r0
        exact st_move s0 ⟨rfl, Up.refl _⟩
      | 10, ho, _, hF =>
        obtain rfl := Option.some.inj ho
        change Step _ _ ρ' w' _
        have s23 : ev ρ' (.tmp 23) = .pointer (some ⟨bx, 0, none⟩) := hF 9 _ rfl (by kernel_rfl)
        exact st_nilCheck s23 ⟨rfl, Up.refl _⟩
      | 11, ho, _, hF =>
        obtain rfl := Option.some.inj ho
        change Step _ _ ρ' w' _
        have s24 : ev ρ' (.tmp 24) = .pointer (some ⟨bx, 0, none⟩) := hF 10 _ rfl (by kernel_rfl)
        exact st_fieldAddr (f := 0) (k := 0) s24 Try.underlying51 rfl rfl Try.sizeOf48 ⟨rfl, Up.refl _⟩
      | 12, ho, _, hF =>
        obtain rfl := Option.some.inj ho
        change Step _ _ ρ' w' _
        have s25 : ev ρ' (.tmp 25) = .pointer (some ⟨bx, 0, none⟩) := hF 11 _ rfl (by kernel_rfl)
        exact st_load1 Try.isAgg48 s25 ((hbk.up hq).cell rfl) ⟨rfl, Up.refl _⟩
      | 13, ho, _, hF =>
        obtain rfl := Option.some.inj ho
        change Step _ _ ρ' w' _
        have s7 := (show ev ρ' (.tmp 7) = _ from hout 7 (by decide)).trans r7
        exact st_move s7 ⟨rfl, Up.refl _⟩
      | 14, ho, _, hF =>
        obtain rfl := Option.some.inj ho
        change Step _ _ ρ' w' _
        have s27 : ev ρ' (.tmp 27) = .int .i64 (a : Int) := hF 13 _ rfl (by kernel_rfl)
        exact st_add s27 uc (wr64 (by omega)) ⟨rfl, Up.refl _⟩
      | 15, ho, _, hF =>
        obtain rfl := Option.some.inj ho
        change Step _ _ ρ' w' _
        have s26 : ev ρ' (.tmp 26) = .slice io x.items.length ic := hF 12 _ rfl (by kernel_rfl)
        have s28 : ev ρ' (.tmp 28) = .int .i64 ((a : Int) + 1) := hF 14 _ rfl (by kernel_rfl)
        have hcut := (hsl.up hq).cut (l := a + 1) (h := x.items.length) (by omega) (Nat.le_refl _) hcap
        rw [itC_take, List.take_length, itC_drop] at hcut
        exact st_sliceL s26 s28 Try.underlying48 Try.sizeOf86 (by omega) (by omega) ⟨hcut, Up.refl _⟩
      | 16, _, hne, _ => exact absurd rfl hne
      | q + 17, ho, _, _ => have h1 := (List.getElem?_eq_some_iff.1 ho).1; have h2 := Nat.lt_of_lt_of_le h1 (List.length_take_le _ _); omega
    · intro o ho ρ' w' hq hout hF
      obtain rfl := Option.some.inj ho
      change Step _ _ ρ' w' _
      have f8 := hF 8 _ rfl (by kernel_rfl)
      have s22 : ev ρ' (.tmp 22) = ρ' 22 := rfl
      have f15 := hF 15 _ rfl (by kernel_rfl)
      have s29 : ev ρ' (.tmp 29) = ρ' 29 := rfl
      have f8 : Own w2.heap.size w' 86 3 (ρ' 22) a (itC (x.items.take a)) := f8
      refine st_append s22 s29 Try.underlying48 info86 rfl (by omega) f8 f15 (itC_one _) (by omega) (by omega) hq.size ?_
      intro v wz ho hfr _ _
      exact ⟨(show Own w2.heap.size wz 86 3 v (a + (x.items.length - (a + 1))) (itC (x.items.eraseIdx a)) from by rw [List.eraseIdx_eq_take_drop_succ, itC_append]; exact ho), (Frm.trans' (X := NoB) hq.frm hfr fun i hi hib => absurd (f8.block i hib).1 (by omega)).up⟩
    intro ρ5 w3 hq4 hout hF
    replace h := h.up hq4
    replace B4 := B4.up hq4
    replace hu := hu.trans hq4
    have q14 : ev ρ5 (.tmp 14) = .pointer (some ⟨bx, 0, none⟩) := hF 0 _ rfl rfl
    have f16 := hF 16 _ rfl rfl
    have q30 : ev ρ5 (.tmp 30) = ρ5 30 := rfl
    clear hout hF r0 r13 r7
    have r14 := q14; clear q14
    have r30 := q30; clear q30
    refine WL.cons rfl (st_nilCheck r14 ?_)
    refine WL.cons rfl (st_fieldAddr (f := 0) (k := 0) us Try.underlying51 rfl rfl Try.sizeOf48 ?_)
    have hle : a + (x.items.length - (a + 1)) = (x.items.eraseIdx a).length := by rw [List.length_eraseIdx_of_lt hlt]; omega
    rw [hle] at f16
    obtain ⟨vo, vc, hvo, hvc, _⟩ := f16.slice
    obtain ⟨vi2, hbk2, _⟩ := h.blk
    refine WL.cons rfl (st_store us ((un (un r30)).trans hvo) (cs := (refC (.slice vo (x.items.eraseIdx a).length vc) { x with items := x.items.eraseIdx a }).toArray) Try.sizeOf48 rfl hbk2 (by simp [refC]) (by simp [Value.cells, Value.oneCell']) (by simp [refC, Value.cells]) ?_)
    intro w4 hb2 hf2 _
    have f16' := f16.sl; rw [hvo] at f16'
    have hr2 : RefTo Sx w w4 bx { x with items := x.items.eraseIdx a }   := .new rfl hb2 f16' hf2 (by omega) hbs hvc (hu.frm.trans hf2)
    replace hf2 := hu.frm.trans hf2
    refine WL.nil ?_
    refine W.gen ?_; intro ρ6 hρ
    clear hρ r14 r30
    refine W.seqR ?_
    refine WL.cons rfl (st_assign uc ?_)
    refine WL.nil ?_
    refine W.gen ?_; intro ρ7 hρ
    have q6 := (hρ 6).trans us
    clear hρ
    have r6 := q6; clear q6
    refine W.ret ?_
    refine fin1 r6 ?_
    unfold RefS.lose; rw [hp]; exact ⟨rfl, hr2⟩

end Go.Proofs.Ytppohfgaegahoaa
