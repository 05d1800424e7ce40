/- Walk: whether a Net has what the document's has. -/
import Derived.Test.YtppohfgaegahoaaLas
namespace Go.Proofs.Ytppohfgaegahoaa
open Go.Tw Go.RowKit Go.Sort Go.Shelf
attribute [local irreducible] Step WL W WQ Does

theorem same_peek {s : NetS} (hk : s.Ok) {x : RefS} (h : Same s x) (l : Lk) (i : Int) : (if s.able l i = true then (s.q l).getD i.toNat [] else []) = (peekR x l i).1 ∧ (if s.able l i = true then (0 : Int) else 40) = (peekR x l i).2 := by
  unfold peekR
  cases hp : x.place l i with
  | none =>
    have := (same_able hk h).1.2 hp
    simp [this]
  | some a =>
    have hn : s.able l i = true := by
      cases e : s.able l i with
      | true => rfl
      | false => have := (same_able hk h).1.1 e; rw [hp] at this; cases this
    obtain ⟨m, h1, _, h3, _⟩ := (same_able hk h).2 a hp
    simp only [hn, if_true, h1, h3, Option.map_some, Option.getD_some]
    exact ⟨trivial, trivial⟩

/-- towline towlinelaw04.same -/
theorem same_ok {S : Nat → Prop} {s : NetS} {bn bm : Nat} (w : World) (h : NetR S w bn bm s) (hk : s.Ok) {Sx : Nat → Prop} {x : RefS} {bx : Nat} (hx : RefR Sx w bx x) (hs : Same s x) : Does Try.prog 25 #[.pointer (some ⟨bn, 0, none⟩), .pointer (some ⟨bx, 0, none⟩)] w (fun v w' => v = .bool true ∧ Up w w') := by
  have hm : x.items.length ≤ 1000000 := Nat.le_trans (same_few hk hs) (by omega)
  have hfew := busyN_le x 1024
  have hbe := same_busy hs
  refine fn_of_W (rs := [4]) (N := 65) Try.func25 rfl rfl rfl (by simp) ?_
  intro ρ0 hρ0
  have r0 : ev ρ0 (.tmp 0) = .pointer (some ⟨bn, 0, none⟩) := hρ0 0
  have r1 : ev ρ0 (.tmp 1) = .pointer (some ⟨bx, 0, none⟩) := hρ0 1
  clear hρ0
  have hu := Up.refl w
  refine W.seqR ?_
  refine WL.cons rfl (st_assign uc ?_)
  refine WL.nil ?_
  refine W.gen ?_; intro ρ1 hρ
  have q0 := (hρ 0).trans (un r0); have q1 := (hρ 1).trans (un r1)
  clear hρ r0 r1
  have r0 := q0; clear q0; have r1 := q1; clear q1
  refine W.seq ?_
  refine W.seq (W.drawQ mixed 15 14 [fun v => v = .pointer (some ⟨bn, 0, none⟩)] [fun v w' => SlV AnyB w' v (busyS s).length 2 (lkC (busyS s)), fun v _ => v = .pointer (some ⟨bx, 0, none⟩), fun v w' => SlV AnyB w' v (busyN x 1024).length 2 (lkC (busyN x 1024)), fun v _ => v = .bool true, fun v _ => v = .bool false, fun v _ => v = .bool false, fun v _ => v = .pointer (some ⟨bn, 0, none⟩), fun v _ => v = .int .i64 s.lost, fun v _ => v = .pointer (some ⟨bx, 0, none⟩), fun v _ => v = .pointer (some ⟨bx, 0, none⟩), fun v _ => v = .pointer (some ⟨bx, 65, none⟩), fun v _ => v = .int .i64 x.lost, fun v _ => v = .bool false, fun v _ => v = .bool false] (by kernel_rfl) rfl (Nat.le_of_ble_eq_true rfl) ?_ ?_ ?_ ?_)
  · simp only [List.forall_mem_cons]
    refine ⟨?_, stays_eq, ?_, stays_eq, stays_eq, stays_eq, stays_eq, stays_eq, stays_eq, stays_eq, stays_eq, stays_eq, stays_eq, stays_eq, by simp⟩
    · intro v wa wb _ hf hu; exact hf.up hu
    · intro v wa wb _ hf hu; exact hf.up hu
  · intro ii o ho hne ρ' w' hq hout hF
    match ii, ho, hne, hF with
    | 0, ho, _, hF =>
      obtain rfl := Option.some.inj ho
      change Step _ _ ρ' w' _
      have s0 := (show ev ρ' (.tmp 0) = _ from hout 0 (by decide)).trans r0
      exact st_move s0 ⟨rfl, Up.refl _⟩
    | 1, ho, _, hF =>
      obtain rfl := Option.some.inj ho
      change Step _ _ ρ' w' _
      have s12 : ev ρ' (.tmp 12) = .pointer (some ⟨bn, 0, none⟩) := hF 0 _ rfl (by kernel_rfl)
      refine st_call1 ent15 s12 ((busy_ok _ (h.up hq) hk).mono ?_)
      intro v wz ⟨d, hsrt, hsl, hprm, u⟩
      have e := sorted_busy hk hsrt hprm
      refine ⟨show SlV AnyB wz v (busyS s).length 2 (lkC (busyS s)) from ?_, u⟩
      rw [← e, List.length_map]; exact hsl
    | 2, ho, _, hF =>
      obtain rfl := Option.some.inj ho
      change Step _ _ ρ' w' _
      have s1 := (show ev ρ' (.tmp 1) = _ from hout 1 (by decide)).trans r1
      exact st_move s1 ⟨rfl, Up.refl _⟩
    | 3, ho, _, hF =>
      obtain rfl := Option.some.inj ho
      change Step _ _ ρ' w' _
      have s14 : ev ρ' (.tmp 14) = .pointer (some ⟨bx, 0, none⟩) := hF 2 _ rfl (by kernel_rfl)
      refine st_call1 ent24 s14 ((rbusy_ok _ (hx.up hq) hm).mono ?_)
      intro v wz ⟨hsl, u⟩; exact ⟨hsl, u⟩
    | 4, ho, _, hF =>
      obtain rfl := Option.some.inj ho
      change Step _ _ ρ' w' _
      have f1 := hF 1 _ rfl (by kernel_rfl)
      have s13 : ev ρ' (.tmp 13) = ρ' 13 := rfl
      have f3 := hF 3 _ rfl (by kernel_rfl)
      have s15 : ev ρ' (.tmp 15) = ρ' 15 := rfl
      refine st_call2 ent23 s13 s15 ((leq_ok (busyS s) (busyN x 1024) _ f1 f3 (by rw [hbe]; omega)).mono ?_)
      intro v wz ⟨hv, u⟩
      rw [hv, decide_eq_true hbe]; exact ⟨rfl, u⟩
    | 5, ho, _, hF =>
      obtain rfl := Option.some.inj ho
      change Step _ _ ρ' w' _
      have s16 : ev ρ' (.tmp 16) = .bool true := hF 4 _ rfl (by kernel_rfl)
      exact st_not s16 ⟨rfl, Up.refl _⟩
    | 6, ho, _, hF =>
      obtain rfl := Option.some.inj ho
      change Step _ _ ρ' w' _
      have s17 : ev ρ' (.tmp 17) = .bool false := hF 5 _ rfl (by kernel_rfl)
      exact st_move s17 ⟨rfl, Up.refl _⟩
    | 7, ho, _, hF =>
      obtain rfl := Option.some.inj ho
      have s0 := (show ev ρ' (.tmp 0) = _ from hout 0 (by decide)).trans r0
      have s18 : ev ρ' (.tmp 18) = .bool false := hF 6 _ rfl (by kernel_rfl)
      refine gstep_yes rfl s18 ?_
      exact st_move s0 ⟨rfl, Up.refl _⟩
    | 8, ho, _, hF =>
      obtain rfl := Option.some.inj ho
      have s18 : ev ρ' (.tmp 18) = .bool false := hF 6 _ rfl (by kernel_rfl)
      have s19 : ev ρ' (.tmp 19) = .pointer (some ⟨bn, 0, none⟩) := hF 7 _ rfl (by kernel_rfl)
      refine gstep_yes rfl s18 ?_
      refine st_call1 ent20 s19 ((lost_ok _ (h.up hq)).mono ?_)
      intro v wz ⟨hv, u⟩; exact ⟨hv, u⟩
    | 9, ho, _, hF =>
      obtain rfl := Option.some.inj ho
      have s1 := (show ev ρ' (.tmp 1) = _ from hout 1 (by decide)).trans r1
      have s18 : ev ρ' (.tmp 18) = .bool false := hF 6 _ rfl (by kernel_rfl)
      refine gstep_yes rfl s18 ?_
      exact st_move s1 ⟨rfl, Up.refl _⟩
    | 10, ho, _, hF =>
      obtain rfl := Option.some.inj ho
      have s18 : ev ρ' (.tmp 18) = .bool false := hF 6 _ rfl (by kernel_rfl)
      have s21 : ev ρ' (.tmp 21) = .pointer (some ⟨bx, 0, none⟩) := hF 9 _ rfl (by kernel_rfl)
      refine gstep_yes rfl s18 ?_
      exact st_nilCheck s21 ⟨rfl, Up.refl _⟩
    | 11, ho, _, hF =>
      obtain rfl := Option.some.inj ho
      have s18 : ev ρ' (.tmp 18) = .bool false := hF 6 _ rfl (by kernel_rfl)
      have s22 : ev ρ' (.tmp 22) = .pointer (some ⟨bx, 0, none⟩) := hF 10 _ rfl (by kernel_rfl)
      refine gstep_yes rfl s18 ?_
      exact st_fieldAddr (f := 2) (k := 0) s22 Try.underlying51 rfl rfl Try.sizeOf3 ⟨rfl, Up.refl _⟩
    | 12, ho, _, hF =>
      obtain rfl := Option.some.inj ho
      have s18 : ev ρ' (.tmp 18) = .bool false := hF 6 _ rfl (by kernel_rfl)
      have s23 : ev ρ' (.tmp 23) = .pointer (some ⟨bx, 65, none⟩) := hF 11 _ rfl (by kernel_rfl)
      refine gstep_yes rfl s18 ?_
      obtain ⟨vi, hbk, _⟩ := (hx.up hq).blk
      exact st_load1 Try.isAgg3 s23 (hbk.cell (refC_lost _ _)) ⟨rfl, Up.refl _⟩
    | 13, ho, _, hF =>
      obtain rfl := Option.some.inj ho
      have s18 : ev ρ' (.tmp 18) = .bool false := hF 6 _ rfl (by kernel_rfl)
      have s20 : ev ρ' (.tmp 20) = .int .i64 s.lost := hF 8 _ rfl (by kernel_rfl)
      have s24 : ev ρ' (.tmp 24) = .int .i64 x.lost := hF 12 _ rfl (by kernel_rfl)
      refine gstep_yes rfl s18 ?_
      exact st_neq s20 s24 ⟨by rw [decide_eq_true hs.lost]; rfl, Up.refl _⟩
    | 14, _, hne, _ => exact absurd rfl hne
    | q + 15, ho, _, _ => have h1 := (List.getElem?_eq_some_iff.1 ho).1; have h2 := Nat.lt_of_lt_of_le h1 (List.length_take_le _ _); omega
  · intro o ho ρ' w' hq hout hF
    obtain rfl := Option.some.inj ho
    change Step _ _ ρ' w' _
    have s18 : ev ρ' (.tmp 18) = .bool false := hF 6 _ rfl (by kernel_rfl)
    have s25 : ev ρ' (.tmp 25) = .bool false := hF 13 _ rfl (by kernel_rfl)
    exact st_or s18 (fun _ => s25) uc ⟨rfl, hq⟩
  intro ρ2 w1 hq1 hout hF
  replace h := h.up hq1
  replace hx := hx.up hq1
  replace hu := hu.trans hq1
  have q0 := (show ev ρ2 (.tmp 0) = _ from hout 0 (by decide)).trans r0
  have q1 := (show ev ρ2 (.tmp 1) = _ from hout 1 (by decide)).trans r1
  have q26 : ev ρ2 (.tmp 26) = .bool false := hF 14 _ rfl rfl
  clear hout hF r0 r1
  have r0 := q0; clear q0
  have r1 := q1; clear q1
  have r26 := q26; clear q26
  refine WL.nil ?_
  refine W.condF r26 (rfl) ?_
  refine W.skip ?_
  refine W.seq ?_
  refine W.seqR ?_
  refine WL.cons rfl (st_move r1 ?_)
  refine WL.cons rfl (st_call1 ent24 us (((rbusy_ok _ hx hm)).mono ?_))
  intro vb w2 ⟨hbs, ub⟩; obtain ⟨bo, bc, hvb, _, _⟩ := id hbs; subst hvb
  replace h := h.up ub
  replace hx := hx.up ub
  replace hu := hu.trans ub
  refine WL.cons rfl (st_lenS us Try.underlying43 ?_)
  refine WL.cons rfl (st_move uc ?_)
  refine WL.nil ?_
  refine W.gen ?_; intro ρ3 hρ
  have q0 := (hρ 0).trans (un (un (un (un r0)))); have q1 := (hρ 1).trans (un (un (un (un r1)))); have q28 := (hρ 28).trans (un (un us)); have q29 := (hρ 29).trans (un us)
  have q30 := (hρ 30).trans us
  clear hρ r0 r1 r26
  have r0 := q0; clear q0; have r1 := q1; clear q1; have r28 := q28; clear q28; have r29 := q29; clear q29; have r30 := q30; clear q30
  refine W.block ?_
  refine W.loop (fun nn ρ' w' => ∃ i : Nat, ev ρ' (.tmp 30) = .int .i64 (i : Int) ∧ ev ρ' (.tmp 0) = ev ρ3 (.tmp 0) ∧ ev ρ' (.tmp 1) = ev ρ3 (.tmp 1) ∧ ev ρ' (.tmp 28) = ev ρ3 (.tmp 28) ∧ ev ρ' (.tmp 29) = ev ρ3 (.tmp 29) ∧ i + nn = (busyN x 1024).length ∧ Up w w' ∧ NetR S w' bn bm s ∧ RefR Sx w' bx x ∧ SlV AnyB w' (.slice bo (busyN x 1024).length bc) (busyN x 1024).length 2 (lkC (busyN x 1024))) ((busyN x 1024).length) ?_ ?_
  · exact ⟨0, (by first | exact r30 | (refine r30.trans ?_; congr 1; omega) | (refine r30.trans ?_; simp)), rfl, rfl, rfl, rfl, by omega, hu, h, hx, hbs⟩
  intro nn ρ4 w3 ⟨i, q30, q0, q1, q28, q29, hi, hu, h, hx, hbs⟩
  have s0 := q0; replace q0 := q0.trans r0
  have s1 := q1; replace q1 := q1.trans r1
  have s28 := q28; replace q28 := q28.trans r28
  have s29 := q29; replace q29 := q29.trans r29
  clear r0 r1 r28 r29 r30
  have r30 := q30; clear q30; have r0 := q0; clear q0; have r1 := q1; clear q1; have r28 := q28; clear q28; have r29 := q29; clear q29
  have x0_0 := s0.symm.trans r0; clear s0
  have x0_1 := s1.symm.trans r1; clear s1
  have x0_28 := s28.symm.trans r28; clear s28
  have x0_29 := s29.symm.trans r29; clear s29
  refine W.seqR ?_
  refine WL.cons rfl (st_lss r30 r29 ?_)
  refine WL.nil ?_
  refine W.gen ?_; intro ρ5 hρ
  have q0 := (hρ 0).trans (un r0); have q1 := (hρ 1).trans (un r1); have q28 := (hρ 28).trans (un r28); have q29 := (hρ 29).trans (un r29)
  have q30 := (hρ 30).trans (un r30); have q31 := (hρ 31).trans us
  clear hρ r0 r1 r28 r29 r30
  have r0 := q0; clear q0; have r1 := q1; clear q1; have r28 := q28; clear q28; have r29 := q29; clear q29; have r30 := q30; clear q30; have r31 := q31; clear q31
  refine W.seq ?_
  refine W.cond r31 (fun hc4 => ?_) (fun hc4 => ?_)
  · skip
    try simp only [tests] at hc4
    obtain ⟨m1, rfl⟩ : ∃ m1, nn = m1 + 1 := ⟨nn - 1, by omega⟩
    have hil : i < (busyN x 1024).length := by omega
    obtain ⟨lk, hlk⟩ : ∃ lk, (busyN x 1024)[i]? = some lk := ⟨_, List.getElem?_eq_getElem hil⟩
    obtain ⟨_, _, he, _, hci⟩ := id hbs; cases he
    obtain ⟨bb, off, rfl, _, hcc⟩ := hci (by omega)
    have hat := lkC_cell hcc hlk
    refine W.skip ?_
    refine W.seq ?_
    refine W.block ?_
    refine W.seqR ?_
    refine WL.cons rfl (st_indexAddrS r28 r30 Try.underlying43 Try.sizeOf29 (by omega) (by omega) ?_)
    refine WL.cons rfl (st_loadK Try.isAgg29 Try.sizeOf29 us (hat) rfl ?_)
    refine WL.allocStore (v := ekL lk) rfl (fun _ => un us) Try.zeroValue29 Try.sizeOf29 rfl (by first | rfl | kernel_rfl) (by first | exact it3_one _ | exact ekL_one _ | simp [Value.cells, Value.oneCell']) ?_
    intro b6 w4 m6; have B6 := m6.blk
    replace h := h.up m6.up
    replace hx := hx.up m6.up
    replace hbs := hbs.up m6.up
    replace hu := hu.trans m6.up
    refine WL.nil ?_
    refine W.gen ?_; intro ρ6 hρ
    have q0 := (hρ 0).trans (un0 (un (un (un r0)))); have q1 := (hρ 1).trans (un0 (un (un (un r1)))); have q6 := (hρ 6).trans (un0 us); have q28 := (hρ 28).trans (un0 (un (un (un r28))))
    have q29 := (hρ 29).trans (un0 (un (un (un r29)))); have q30 := (hρ 30).trans (un0 (un (un (un r30))))
    clear hρ r0 r1 r28 r29 r30 r31
    have r0 := q0; clear q0; have r1 := q1; clear q1; have r6 := q6; clear q6; have r28 := q28; clear q28; have r29 := q29; clear q29; have r30 := q30; clear q30
    refine W.seqR ?_
    refine WL.cons rfl (st_move r1 ?_)
    refine WL.cons rfl (st_loadK Try.isAgg29 Try.sizeOf29 (un r6) (cells2 (B6.cell rfl) (B6.cell rfl)) rfl ?_)
    refine WL.cons rfl (st_call2 ent21 (un us) us (((rlen_ok _ hx hm lk)).mono ?_))
    intro vl w5 ⟨hvl, ul⟩; subst hvl
    replace h := h.up ul
    replace hx := hx.up ul
    replace hbs := hbs.up ul
    replace B6 := B6.up ul
    replace hu := hu.trans ul
    refine WL.cons rfl (st_move uc ?_)
    refine WL.nil ?_
    refine W.gen ?_; intro ρ7 hρ
    have q0 := (hρ 0).trans (un (un (un (un r0)))); have q1 := (hρ 1).trans (un (un (un (un r1)))); have q6 := (hρ 6).trans (un (un (un (un r6)))); have q28 := (hρ 28).trans (un (un (un (un r28))))
    have q29 := (hρ 29).trans (un (un (un (un r29)))); have q30 := (hρ 30).trans (un (un (un (un r30)))); have q36 := (hρ 36).trans (un us); have q37 := (hρ 37).trans us
    clear hρ r0 r1 r28 r29 r30 r6
    have r0 := q0; clear q0; have r1 := q1; clear q1; have r6 := q6; clear q6; have r28 := q28; clear q28; have r29 := q29; clear q29; have r30 := q30; clear q30; have r36 := q36; clear q36; have r37 := q37; clear q37
    refine W.block ?_
    refine W.loop (fun nn ρ' w' => ∃ j : Nat, ev ρ' (.tmp 37) = .int .i64 (j : Int) ∧ ev ρ' (.tmp 0) = ev ρ7 (.tmp 0) ∧ ev ρ' (.tmp 1) = ev ρ7 (.tmp 1) ∧ ev ρ' (.tmp 6) = ev ρ7 (.tmp 6) ∧ ev ρ' (.tmp 28) = ev ρ7 (.tmp 28) ∧ ev ρ' (.tmp 29) = ev ρ7 (.tmp 29) ∧ ev ρ' (.tmp 30) = ev ρ7 (.tmp 30) ∧ ev ρ' (.tmp 36) = ev ρ7 (.tmp 36) ∧ j + nn = (qOf x.items lk).length ∧ Up w w' ∧ NetR S w' bn bm s ∧ RefR Sx w' bx x ∧ SlV AnyB w' (.slice (some ⟨bb, off, none⟩) (busyN x 1024).length bc) (busyN x 1024).length 2 (lkC (busyN x 1024)) ∧ Blk w' b6 (.cells (ekL lk).cells 29)) ((qOf x.items lk).length) ?_ ?_
    · exact ⟨0, (by first | exact r37 | (refine r37.trans ?_; congr 1; omega) | (refine r37.trans ?_; simp)), rfl, rfl, rfl, rfl, rfl, rfl, rfl, by omega, hu, h, hx, hbs, B6⟩
    intro nn ρ8 w6 ⟨j, q37, q0, q1, q6, q28, q29, q30, q36, hj, hu, h, hx, hbs, B6⟩
    have s0 := q0; replace q0 := q0.trans r0
    have s1 := q1; replace q1 := q1.trans r1
    have s6 := q6; replace q6 := q6.trans r6
    have s28 := q28; replace q28 := q28.trans r28
    have s29 := q29; replace q29 := q29.trans r29
    have s30 := q30; replace q30 := q30.trans r30
    have s36 := q36; replace q36 := q36.trans r36
    clear r0 r1 r28 r29 r30 r36 r37 r6
    have r37 := q37; clear q37; have r0 := q0; clear q0; have r1 := q1; clear q1; have r6 := q6; clear q6; have r28 := q28; clear q28; have r29 := q29; clear q29; have r30 := q30; clear q30; have r36 := q36; clear q36
    have x2_0 := s0.symm.trans r0; clear s0
    have x2_1 := s1.symm.trans r1; clear s1
    have x2_6 := s6.symm.trans r6; clear s6
    have x2_28 := s28.symm.trans r28; clear s28
    have x2_29 := s29.symm.trans r29; clear s29
    have x2_30 := s30.symm.trans r30; clear s30
    have x2_36 := s36.symm.trans r36; clear s36
    refine W.seqR ?_
    refine WL.cons rfl (st_lss r37 r36 ?_)
    refine WL.nil ?_
    refine W.gen ?_; intro ρ9 hρ
    have q0 := (hρ 0).trans (un r0); have q1 := (hρ 1).trans (un r1); have q6 := (hρ 6).trans (un r6); have q28 := (hρ 28).trans (un r28)
    have q29 := (hρ 29).trans (un r29); have q30 := (hρ 30).trans (un r30); have q36 := (hρ 36).trans (un r36); have q37 := (hρ 37).trans (un r37)
    have q38 := (hρ 38).trans us
    clear hρ r0 r1 r28 r29 r30 r36 r37 r6
    have r0 := q0; clear q0; have r1 := q1; clear q1; have r6 := q6; clear q6; have r28 := q28; clear q28; have r29 := q29; clear q29; have r30 := q30; clear q30; have r36 := q36; clear q36; have r37 := q37; clear q37; have r38 := q38; clear q38
    refine W.seq ?_
    refine W.cond r38 (fun hc7 => ?_) (fun hc7 => ?_)
    · skip
      try simp only [tests] at hc7
      obtain ⟨hpk1, hpk2⟩ := same_peek hk hs lk (j : Int)
      have hq8 := hk.max lk; rw [hs.q] at hq8
      refine W.skip ?_
      refine W.seq ?_
      refine W.block ?_
      refine W.seqR ?_
      refine WL.cons rfl (st_move r37 ?_)
      refine WL.cons rfl (st_assign us ?_)
      refine WL.nil ?_
      refine W.gen ?_; intro ρ10 hρ
      have q0 := (hρ 0).trans (un (un r0)); have q1 := (hρ 1).trans (un (un r1)); have q6 := (hρ 6).trans (un (un r6)); have q7 := (hρ 7).trans us
      have q28 := (hρ 28).trans (un (un r28)); have q29 := (hρ 29).trans (un (un r29)); have q30 := (hρ 30).trans (un (un r30)); have q36 := (hρ 36).trans (un (un r36))
      have q37 := (hρ 37).trans (un (un r37))
      clear hρ r0 r1 r28 r29 r30 r36 r37 r38 r6
      have r0 := q0; clear q0; have r1 := q1; clear q1; have r6 := q6; clear q6; have r7 := q7; clear q7; have r28 := q28; clear q28; have r29 := q29; clear q29; have r30 := q30; clear q30; have r36 := q36; clear q36; have r37 := q37; clear q37
      refine W.seqR ?_
      refine WL.cons rfl (st_move r0 ?_)
      refine WL.cons rfl (st_loadK Try.isAgg29 Try.sizeOf29 (un r6) (cells2 (B6.cell rfl) (B6.cell rfl)) rfl ?_)
      refine WL.cons rfl (st_move (un (un r7)) ?_)
      refine WL.cons rfl (st_call3 ent14 (un (un us)) (un us) us (((peek_ok _ h hk lk (j : Int))).mono ?_))
      intro vp w7 ⟨u, hvp, uP, hrp⟩; rw [hpk1] at hrp; rw [hpk2] at hvp; subst hvp
      replace h := h.up uP
      replace hx := hx.up uP
      replace hbs := hbs.up uP
      replace B6 := B6.up uP
      replace hu := hu.trans uP
      refine WL.cons rfl (st_move us ?_)
      refine WL.cons rfl (st_extract us rfl ?_)
      refine WL.cons rfl (st_extract (un us) rfl ?_)
      refine WL.cons rfl (st_assign (un us) ?_)
      refine WL.cons rfl (st_assign (un us) ?_)
      refine WL.nil ?_
      refine W.gen ?_; intro ρ11 hρ
      have q0 := (hρ 0).trans (un (un (un (un (un (un (un (un (un r0))))))))); have q1 := (hρ 1).trans (un (un (un (un (un (un (un (un (un r1))))))))); have q6 := (hρ 6).trans (un (un (un (un (un (un (un (un (un r6))))))))); have q7 := (hρ 7).trans (un (un (un (un (un (un (un (un (un r7)))))))))
      have q8 := (hρ 8).trans (un us); have q9 := (hρ 9).trans us; have q28 := (hρ 28).trans (un (un (un (un (un (un (un (un (un r28))))))))); have q29 := (hρ 29).trans (un (un (un (un (un (un (un (un (un r29)))))))))
      have q30 := (hρ 30).trans (un (un (un (un (un (un (un (un (un r30))))))))); have q36 := (hρ 36).trans (un (un (un (un (un (un (un (un (un r36))))))))); have q37 := (hρ 37).trans (un (un (un (un (un (un (un (un (un r37)))))))))
      clear hρ r0 r1 r28 r29 r30 r36 r37 r6 r7
      have r0 := q0; clear q0; have r1 := q1; clear q1; have r6 := q6; clear q6; have r7 := q7; clear q7; have r8 := q8; clear q8; have r9 := q9; clear q9; have r28 := q28; clear q28; have r29 := q29; clear q29; have r30 := q30; clear q30; have r36 := q36; clear q36; have r37 := q37; clear q37
      refine W.seqR ?_
      refine WL.cons rfl (st_move r1 ?_)
      refine WL.cons rfl (st_loadK Try.isAgg29 Try.sizeOf29 (un r6) (cells2 (B6.cell rfl) (B6.cell rfl)) rfl ?_)
      refine WL.cons rfl (st_move (un (un r7)) ?_)
      refine WL.cons rfl (st_call3 ent22 (un (un us)) (un us) us (((rpeek_ok _ hx hm lk (j : Int))).mono ?_))
      intro vq w8 ⟨hvq, uQ⟩; subst hvq
      replace h := h.up uQ
      replace hx := hx.up uQ
      replace hbs := hbs.up uQ
      replace B6 := B6.up uQ
      replace hrp := hrp.up uQ
      replace hu := hu.trans uQ
      refine WL.cons rfl (st_move us ?_)
      refine WL.cons rfl (st_extract us rfl ?_)
      refine WL.cons rfl (st_extract (un us) rfl ?_)
      refine WL.cons rfl (st_assign (un us) ?_)
      refine WL.cons rfl (st_assign (un us) ?_)
      refine WL.nil ?_
      refine W.gen ?_; intro ρ12 hρ
      have q0 := (hρ 0).trans (un (un (un (un (un (un (un (un (un r0))))))))); have q1 := (hρ 1).trans (un (un (un (un (un (un (un (un (un r1))))))))); have q6 := (hρ 6).trans (un (un (un (un (un (un (un (un (un r6))))))))); have q8 := (hρ 8).trans (un (un (un (un (un (un (un (un (un r8)))))))))
      have q9 := (hρ 9).trans (un (un (un (un (un (un (un (un (un r9))))))))); have q10 := (hρ 10).trans (un us); have q11 := (hρ 11).trans us; have q28 := (hρ 28).trans (un (un (un (un (un (un (un (un (un r28)))))))))
      have q29 := (hρ 29).trans (un (un (un (un (un (un (un (un (un r29))))))))); have q30 := (hρ 30).trans (un (un (un (un (un (un (un (un (un r30))))))))); have q36 := (hρ 36).trans (un (un (un (un (un (un (un (un (un r36))))))))); have q37 := (hρ 37).trans (un (un (un (un (un (un (un (un (un r37)))))))))
      clear hρ r0 r1 r28 r29 r30 r36 r37 r6 r7 r8 r9
      have r0 := q0; clear q0; have r1 := q1; clear q1; have r6 := q6; clear q6; have r8 := q8; clear q8; have r9 := q9; clear q9; have r10 := q10; clear q10; have r11 := q11; clear q11; have r28 := q28; clear q28; have r29 := q29; clear q29; have r30 := q30; clear q30; have r36 := q36; clear q36; have r37 := q37; clear q37
      refine W.seqR ?_
      refine WL.cons rfl (st_move r8 ?_)
      refine WL.cons rfl (st_string us hrp Try.underlying30 Try.underlying5 Try.underlying9 ?_)
      refine WL.cons rfl (st_move (un (un r10)) ?_)
      refine WL.cons rfl (st_neqS (un us) us ?_)
      refine WL.cons rfl (st_move us ?_)
      apply WL.seg0 3 (t := 58) (x := 61) (want := false) us rfl
      · intro hg58
        refine WL.guardY rfl (us.trans (by rw [hg58])) rfl (st_move (un (un (un (un (un r9))))) ?_)
        refine WL.guardY rfl ((un us).trans (by rw [hg58])) rfl (st_move (un (un (un (un (un (un r11)))))) ?_)
        refine WL.guardY rfl ((un (un us)).trans (by rw [hg58])) rfl (st_neq (un us) us ?_)
        exact WL.nil ⟨(ag (ag (ag ag0))), us, rfl⟩
      intro ρ13 hag hx58
      have q0 := (hag 0 rfl).trans (un (un (un (un (un r0))))); have q1 := (hag 1 rfl).trans (un (un (un (un (un r1))))); have q6 := (hag 6 rfl).trans (un (un (un (un (un r6))))); have q28 := (hag 28 rfl).trans (un (un (un (un (un r28)))))
      have q29 := (hag 29 rfl).trans (un (un (un (un (un r29))))); have q30 := (hag 30 rfl).trans (un (un (un (un (un r30))))); have q36 := (hag 36 rfl).trans (un (un (un (un (un r36))))); have q37 := (hag 37 rfl).trans (un (un (un (un (un r37)))))
      have q58 := (hag 58 rfl).trans us
      clear hag r0 r1 r10 r11 r28 r29 r30 r36 r37 r6 r8 r9
      have r0 := q0; clear q0; have r1 := q1; clear q1; have r6 := q6; clear q6; have r28 := q28; clear q28; have r29 := q29; clear q29; have r30 := q30; clear q30; have r36 := q36; clear q36; have r37 := q37; clear q37; have r58 := q58; clear q58
      refine WL.cons rfl (st_or r58 hx58 uc ?_)
      refine WL.nil ?_
      refine W.gen ?_; intro ρ14 hρ
      have q0 := (hρ 0).trans (un r0); have q1 := (hρ 1).trans (un r1); have q6 := (hρ 6).trans (un r6); have q28 := (hρ 28).trans (un r28)
      have q29 := (hρ 29).trans (un r29); have q30 := (hρ 30).trans (un r30); have q36 := (hρ 36).trans (un r36); have q37 := (hρ 37).trans (un r37)
      have q62 := (hρ 62).trans us
      clear hρ r0 r1 r28 r29 r30 r36 r37 r58 r6
      have r0 := q0; clear q0; have r1 := q1; clear q1; have r6 := q6; clear q6; have r28 := q28; clear q28; have r29 := q29; clear q29; have r30 := q30; clear q30; have r36 := q36; clear q36; have r37 := q37; clear q37; have r62 := q62; clear q62
      refine W.condF r62 (by simp) ?_
      refine W.skip ?_
      refine W.endR ?_
      refine WL.cons rfl (st_add r37 uc (wr64 (by omega)) ?_)
      refine WL.cons rfl (st_move us ?_)
      refine WL.nil ?_
      exact ⟨nn - 1, (by omega), j + 1, (by first | exact us | (refine us.trans ?_; congr 1; omega) | (refine us.trans ?_; simp)), ((un (un r0)).trans x2_0.symm), ((un (un r1)).trans x2_1.symm), ((un (un r6)).trans x2_6.symm), ((un (un r28)).trans x2_28.symm), ((un (un r29)).trans x2_29.symm), ((un (un r30)).trans x2_30.symm), ((un (un r36)).trans x2_36.symm), by omega, hu, h, hx, hbs, B6⟩
    · skip
      try simp only [tests] at hc7
      refine W.exit ?_
      refine exitHere ?_
      refine W.endR ?_
      refine WL.cons rfl (st_add r30 uc (wr64 (by omega)) ?_)
      refine WL.cons rfl (st_move us ?_)
      refine WL.nil ?_
      exact ⟨m1, (by omega), i + 1, (by first | exact us | (refine us.trans ?_; congr 1; omega) | (refine us.trans ?_; simp)), ((un (un r0)).trans x0_0.symm), ((un (un r1)).trans x0_1.symm), ((un (un r28)).trans x0_28.symm), ((un (un r29)).trans x0_29.symm), by omega, hu, h, hx, hbs⟩
  · skip
    try simp only [tests] at hc4
    refine W.exit ?_
    refine exitHere ?_
    refine W.seqR ?_
    refine WL.cons rfl (st_assign uc ?_)
    refine WL.nil ?_
    refine W.gen ?_; intro ρ15 hρ
    have q4 := (hρ 4).trans us
    clear hρ r0 r1 r28 r29 r30 r31
    have r4 := q4; clear q4
    refine W.ret ?_
    refine fin1 r4 ?_
    exact ⟨rfl, hu⟩

end Go.Proofs.Ytppohfgaegahoaa
