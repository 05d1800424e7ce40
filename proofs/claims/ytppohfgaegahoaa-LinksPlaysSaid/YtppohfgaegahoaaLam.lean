/- Walk: the document's Net: Take. -/
import Derived.Test.YtppohfgaegahoaaLal
namespace Go.Proofs.Ytppohfgaegahoaa
open Go.Tw Go.RowKit
attribute [local irreducible] Step WL W WQ Does

theorem refC_side (v : Value) (x : RefS) {a : Int} (h0 : 0 ≤ a) (h1 : a < 64) : (refC v x).toArray[0 + 1 + a.toNat * 1]? = some (.bool (x.side a)) := by
  have h : a.toNat < 64 := by omega
  have e : ((a.toNat : Nat) : Int) = a := by omega
  rw [show 0 + 1 + a.toNat * 1 = a.toNat + 1 by omega]
  simp [refC, List.getElem?_append, h, e]
def tkV (o : Option Msg) (e : Int) : Value := .tuple #[.string ⟨(o.getD []).toArray⟩, .bool o.isSome, .int .i64 e]

/-- (*towline towlineref04.Net).Take -/
theorem rtake_ok {Sx : Nat → Prop} {x : RefS} {bx : Nat} (w : World) (h : RefR Sx w bx x) (hm : x.items.length ≤ 1000000) (hfit : ∀ p ∈ x.items, fitsL p.1 = true) (l : Lk) (i : Int) : Does Try.prog 39 #[.pointer (some ⟨bx, 0, none⟩), ekL l, .int .i64 i] w (fun v w' => v = tkV (x.take l i).2.1 (x.take l i).2.2 ∧ RefTo Sx w w' bx (x.take l i).1) := by
  have hbx0 : bx < w.heap.size := by obtain ⟨_, hh, _⟩ := h.blk; exact hh.lt
  refine fn_of_W (rs := [6, 7, 8]) (N := 60) Try.func39 rfl rfl rfl (by simp) ?_
  intro ρ0 hρ0
  have r0 : ev ρ0 (.tmp 0) = .pointer (some ⟨bx, 0, none⟩) := hρ0 0
  have r1 : ev ρ0 (.tmp 1) = ekL l := hρ0 1
  have r2 : ev ρ0 (.tmp 2) = .int .i64 i := hρ0 2
  clear hρ0
  have hu := Up.refl w
  refine W.seqR ?_
  refine WL.cons rfl (st_box r1 ?_)
  intro b4 w1 m4; have B4 := m4.blk
  replace h := h.up m4.up
  replace hu := hu.trans m4.up
  refine WL.cons rfl (st_assign uc ?_)
  refine WL.cons rfl (st_assign uc ?_)
  refine WL.cons rfl (st_assign uc ?_)
  refine WL.nil ?_
  refine W.gen ?_; intro ρ1 hρ
  have q0 := (hρ 0).trans (un (un (un (un r0)))); have q2 := (hρ 2).trans (un (un (un (un r2)))); have q4 := (hρ 4).trans (un (un (un us)))
  clear hρ r0 r1 r2
  have r0 := q0; clear q0; have r2 := q2; clear q2; have r4 := q4; clear q4
  refine W.seqR ?_
  refine WL.cons rfl (st_move r0 ?_)
  refine WL.cons rfl (st_loadK Try.isAgg29 Try.sizeOf29 (un r4) (cells2 (B4.cell rfl) (B4.cell rfl)) rfl ?_)
  refine WL.cons rfl (st_move (un (un r2)) ?_)
  refine WL.cons rfl (st_call3 ent45 (un (un us)) (un us) us (((place_ok _ h hm l i)).mono ?_))
  intro vp w2 ⟨hvp, uP⟩; subst hvp
  replace h := h.up uP
  replace B4 := B4.up uP
  replace hu := hu.trans uP
  refine WL.cons rfl (st_assign us ?_)
  refine WL.nil ?_
  refine W.gen ?_; intro ρ2 hρ
  have q0 := (hρ 0).trans (un (un (un (un (un r0))))); have q4 := (hρ 4).trans (un (un (un (un (un r4))))); have q9 := (hρ 9).trans us
  clear hρ r0 r2 r4
  have r0 := q0; clear q0; have r4 := q4; clear q4; have r9 := q9; clear q9
  refine W.seq ?_
  refine W.seqR ?_
  refine WL.cons rfl (st_move r9 ?_)
  refine WL.cons rfl (st_lss us uc ?_)
  refine WL.nil ?_
  refine W.gen ?_; intro ρ3 hρ
  have q0 := (hρ 0).trans (un (un r0)); have q4 := (hρ 4).trans (un (un r4)); have q9 := (hρ 9).trans (un (un r9)); have q16 := (hρ 16).trans us
  clear hρ r0 r4 r9
  have r0 := q0; clear q0; have r4 := q4; clear q4; have r9 := q9; clear q9; have r16 := q16; clear q16
  refine W.cond r16 (fun hc2 => ?_) (fun hc2 => ?_)
  · skip
    try simp only [tests] at hc2
    have hp : x.place l i = none := by
      cases e : x.place l i with
      | none => rfl
      | some a => unfold placeI at hc2; rw [e] at hc2; exact absurd hc2 (by simp)
    refine W.seqR ?_
    refine WL.cons rfl (st_assign uc ?_)
    refine WL.cons rfl (st_assign uc ?_)
    refine WL.cons rfl (st_assign uc ?_)
    refine WL.nil ?_
    refine W.gen ?_; intro ρ4 hρ
    have q6 := (hρ 6).trans (un (un us)); have q7 := (hρ 7).trans (un us); have q8 := (hρ 8).trans us
    clear hρ r0 r16 r4 r9
    have r6 := q6; clear q6; have r7 := q7; clear q7; have r8 := q8; clear q8
    refine W.ret ?_
    refine fin3 r6 r7 r8 ?_
    unfold RefS.take; rw [hp]; exact ⟨rfl, .same h hu.frm⟩
  · skip
    try simp only [tests] at hc2
    obtain ⟨a, hp⟩ : ∃ a, x.place l i = some a := by
      cases e : x.place l i with
      | some a => exact ⟨a, rfl⟩
      | none => unfold placeI at hc2; rw [e] at hc2; exact absurd hc2 (by simp)
    obtain ⟨hlt, m, hm1⟩ := place_lt hp
    have hpi : placeI x l i = (a : Int) := by unfold placeI; rw [hp]
    rw [hpi] at r9
    obtain ⟨vi, hbk, hsl, hroom⟩ := h.blk
    obtain ⟨io, ic, hvi, _, hci⟩ := id hsl; subst hvi
    obtain ⟨bb, off, rfl, _, hcc⟩ := hci (by omega)
    have hat := itC_at hcc hm1
    have hcap := hroom _ _ _ rfl
    have hbs := hu.size
    have hfl : 0 ≤ l.1 ∧ l.1 < 32 ∧ 0 ≤ l.2 ∧ l.2 < 32 := fits_parts (hfit _ (List.mem_of_getElem? hm1))
    refine W.skip ?_
    refine W.seqR ?_
    refine WL.cons rfl (st_move r0 ?_)
    refine WL.cons rfl (st_nilCheck us ?_)
    refine WL.cons rfl (st_fieldAddr (f := 0) (k := 0) us Try.underlying51 rfl rfl Try.sizeOf48 ?_)
    refine WL.cons rfl (st_load1 Try.isAgg48 us (hbk.cell rfl) ?_)
    refine WL.cons rfl (st_move (un (un (un (un r9)))) ?_)
    refine WL.cons rfl (st_indexAddrS (un us) us Try.underlying48 Try.sizeOf86 (by omega) (by omega) ?_)
    refine WL.cons rfl (st_fieldAddr (f := 1) (k := 0) us Try.underlying86 rfl rfl Try.sizeOf9 ?_)
    refine WL.cons rfl (st_load1 Try.isAgg9 us (hat 2 _ rfl) ?_)
    refine WL.cons rfl (st_assign us ?_)
    refine WL.nil ?_
    refine W.gen ?_; intro ρ5 hρ
    have q0 := (hρ 0).trans (un (un (un (un (un (un (un (un (un r0))))))))); have q4 := (hρ 4).trans (un (un (un (un (un (un (un (un (un r4))))))))); have q9 := (hρ 9).trans (un (un (un (un (un (un (un (un (un r9))))))))); have q10 := (hρ 10).trans us
    clear hρ r0 r16 r4 r9
    have r0 := q0; clear q0; have r4 := q4; clear q4; have r9 := q9; clear q9; have r10 := q10; clear q10
    have htk : SlV Sx w2 (.slice (some ⟨bb, off, none⟩) a ic) a 3 (itC (x.items.take a)) := by
      obtain ⟨o2, c2, he, hl2, hc2'⟩ := id hsl; cases he
      exact ⟨_, _, rfl, by rw [itC_len, List.length_take]; congr 1; omega, fun h0 => let ⟨b, off, h1, h2, h3⟩ := hc2' (by omega); ⟨b, off, h1, h2, by rw [← itC_take]; exact h3.take _⟩⟩
    refine W.seq (W.drawQ mixed 17 16 [fun v => v = .pointer (some ⟨bx, 0, none⟩)] [fun v w' => ∃ g, v = .slice (some ⟨g, 0, none⟩) 0 0 ∧ Own w2.heap.size w' 86 3 v 0 [], fun v _ => v = .pointer (some ⟨bx, 0, none⟩), fun v _ => v = .pointer (some ⟨bx, 0, none⟩), fun v _ => v = .pointer (some ⟨bx, 0, none⟩), fun v _ => v = .slice (some ⟨bb, off, none⟩) x.items.length ic, fun v _ => v = .int .i64 (a : Int), fun v _ => v = .slice (some ⟨bb, off, none⟩) a ic, fun v w' => Own w2.heap.size w' 86 3 v a (itC (x.items.take a)), fun v _ => v = .pointer (some ⟨bx, 0, none⟩), fun v _ => v = .pointer (some ⟨bx, 0, none⟩), fun v _ => v = .pointer (some ⟨bx, 0, none⟩), fun v _ => v = .slice (some ⟨bb, off, none⟩) x.items.length ic, fun v _ => v = .int .i64 (a : Int), fun v _ => v = .int .i64 ((a : Int) + 1), fun v w' => SlV Sx w' v (x.items.length - (a + 1)) 3 (itC (x.items.drop (a + 1))), fun v w' => Own w2.heap.size w' 86 3 v (a + (x.items.length - (a + 1))) (itC (x.items.eraseIdx a))] (by kernel_rfl) rfl (Nat.le_of_ble_eq_true rfl) ?_ ?_ ?_ ?_)
    · simp only [List.forall_mem_cons]
      refine ⟨?_, stays_eq, stays_eq, stays_eq, stays_eq, stays_eq, stays_eq, ?_, stays_eq, stays_eq, stays_eq, stays_eq, stays_eq, stays_eq, ?_, ?_, by simp⟩
      · intro v wa wb _ hf hu; obtain ⟨g, h1, h2⟩ := hf; exact ⟨g, h1, h2.up hu⟩
      · intro v wa wb _ hf hu; exact hf.up hu
      · intro v wa wb _ hf hu; exact hf.up hu
      · intro v wa wb _ hf hu; exact hf.up hu
    · intro ii o ho hne ρ' w' hq hout hF
      match ii, ho, hne, hF with
      | 0, ho, _, hF =>
        obtain rfl := Option.some.inj ho
        change Step _ _ ρ' w' _
        have s0 := (show ev ρ' (.tmp 0) = _ from hout 0 (by decide)).trans r0
        exact st_move s0 ⟨rfl, Up.refl _⟩
      | 1, ho, _, hF =>
        obtain rfl := Option.some.inj ho
        change Step _ _ ρ' w' _
        refine st_empty0 Try.underlying48 Try.sizeOf86 ?_
        intro g w2 _ ho hu2; exact ⟨⟨g, rfl, ho.base hq.size⟩, hu2⟩
      | 2, ho, _, hF =>
        obtain rfl := Option.some.inj ho
        change Step _ _ ρ' w' _
        have s0 := (show ev ρ' (.tmp 0) = _ from hout 0 (by decide)).trans r0
        exact st_move s0 ⟨rfl, Up.refl _⟩
      | 3, ho, _, hF =>
        obtain rfl := Option.some.inj ho
        change Step _ _ ρ' w' _
        have s27 : ev ρ' (.tmp 27) = .pointer (some ⟨bx, 0, none⟩) := hF 2 _ rfl (by kernel_rfl)
        exact st_nilCheck s27 ⟨rfl, Up.refl _⟩
      | 4, ho, _, hF =>
        obtain rfl := Option.some.inj ho
        change Step _ _ ρ' w' _
        have s28 : ev ρ' (.tmp 28) = .pointer (some ⟨bx, 0, none⟩) := hF 3 _ rfl (by kernel_rfl)
        exact st_fieldAddr (f := 0) (k := 0) s28 Try.underlying51 rfl rfl Try.sizeOf48 ⟨rfl, Up.refl _⟩
      | 5, ho, _, hF =>
        obtain rfl := Option.some.inj ho
        change Step _ _ ρ' w' _
        have s29 : ev ρ' (.tmp 29) = .pointer (some ⟨bx, 0, none⟩) := hF 4 _ rfl (by kernel_rfl)
        exact st_load1 Try.isAgg48 s29 ((hbk.up hq).cell rfl) ⟨rfl, Up.refl _⟩
      | 6, ho, _, hF =>
        obtain rfl := Option.some.inj ho
        change Step _ _ ρ' w' _
        have s9 := (show ev ρ' (.tmp 9) = _ from hout 9 (by decide)).trans r9
        exact st_move s9 ⟨rfl, Up.refl _⟩
      | 7, ho, _, hF =>
        obtain rfl := Option.some.inj ho
        change Step _ _ ρ' w' _
        have s30 : ev ρ' (.tmp 30) = .slice (some ⟨bb, off, none⟩) x.items.length ic := hF 5 _ rfl (by kernel_rfl)
        have s31 : ev ρ' (.tmp 31) = .int .i64 (a : Int) := hF 6 _ rfl (by kernel_rfl)
        exact st_sliceH s30 s31 Try.underlying48 Try.sizeOf86 (by omega) (by omega) ⟨rfl, Up.refl _⟩
      | 8, ho, _, hF =>
        obtain rfl := Option.some.inj ho
        change Step _ _ ρ' w' _
        have f1 := hF 1 _ rfl (by kernel_rfl)
        have s26 : ev ρ' (.tmp 26) = ρ' 26 := rfl
        have s32 : ev ρ' (.tmp 32) = .slice (some ⟨bb, off, none⟩) a ic := hF 7 _ rfl (by kernel_rfl)
        obtain ⟨g, hg, ho⟩ := f1
        have hg : ρ' 26 = .slice (some ⟨g, 0, none⟩) 0 0 := hg
        have ho : Own w2.heap.size w' 86 3 (ρ' 26) 0 [] := ho
        rw [hg] at ho
        refine st_appendZero (s26.trans hg) s32 Try.underlying48 info86 rfl (by omega) ho (htk.up hq) (itC_one _) (by omega) (by omega) hq.size ?_
        intro v w2 hov hu2; exact ⟨hov, hu2⟩
      | 9, ho, _, hF =>
        obtain rfl := Option.some.inj ho
        change Step _ _ ρ' w' _
        have s0 := (show ev ρ' (.tmp 0) = _ from hout 0 (by decide)).trans r0
        exact st_move s0 ⟨rfl, Up.refl _⟩
      | 10, ho, _, hF =>
        obtain rfl := Option.some.inj ho
        change Step _ _ ρ' w' _
        have s34 : ev ρ' (.tmp 34) = .pointer (some ⟨bx, 0, none⟩) := hF 9 _ rfl (by kernel_rfl)
        exact st_nilCheck s34 ⟨rfl, Up.refl _⟩
      | 11, ho, _, hF =>
        obtain rfl := Option.some.inj ho
        change Step _ _ ρ' w' _
        have s35 : ev ρ' (.tmp 35) = .pointer (some ⟨bx, 0, none⟩) := hF 10 _ rfl (by kernel_rfl)
        exact st_fieldAddr (f := 0) (k := 0) s35 Try.underlying51 rfl rfl Try.sizeOf48 ⟨rfl, Up.refl _⟩
      | 12, ho, _, hF =>
        obtain rfl := Option.some.inj ho
        change Step _ _ ρ' w' _
        have s36 : ev ρ' (.tmp 36) = .pointer (some ⟨bx, 0, none⟩) := hF 11 _ rfl (by kernel_rfl)
        exact st_load1 Try.isAgg48 s36 ((hbk.up hq).cell rfl) ⟨rfl, Up.refl _⟩
      | 13, ho, _, hF =>
        obtain rfl := Option.some.inj ho
        change Step _ _ ρ' w' _
        have s9 := (show ev ρ' (.tmp 9) = _ from hout 9 (by decide)).trans r9
        exact st_move s9 ⟨rfl, Up.refl _⟩
      | 14, ho, _, hF =>
        obtain rfl := Option.some.inj ho
        change Step _ _ ρ' w' _
        have s38 : ev ρ' (.tmp 38) = .int .i64 (a : Int) := hF 13 _ rfl (by kernel_rfl)
        exact st_add s38 uc (wr64 (by omega)) ⟨rfl, Up.refl _⟩
      | 15, ho, _, hF =>
        obtain rfl := Option.some.inj ho
        change Step _ _ ρ' w' _
        have s37 : ev ρ' (.tmp 37) = .slice (some ⟨bb, off, none⟩) x.items.length ic := hF 12 _ rfl (by kernel_rfl)
        have s39 : ev ρ' (.tmp 39) = .int .i64 ((a : Int) + 1) := hF 14 _ rfl (by kernel_rfl)
        have hcut := (hsl.up hq).cut (l := a + 1) (h := x.items.length) (by omega) (Nat.le_refl _) hcap
        rw [itC_take, List.take_length, itC_drop] at hcut
        exact st_sliceL s37 s39 Try.underlying48 Try.sizeOf86 (by omega) (by omega) ⟨hcut, Up.refl _⟩
      | 16, _, hne, _ => exact absurd rfl hne
      | q + 17, ho, _, _ => have h1 := (List.getElem?_eq_some_iff.1 ho).1; have h2 := Nat.lt_of_lt_of_le h1 (List.length_take_le _ _); omega
    · intro o ho ρ' w' hq hout hF
      obtain rfl := Option.some.inj ho
      change Step _ _ ρ' w' _
      have f8 := hF 8 _ rfl (by kernel_rfl)
      have s33 : ev ρ' (.tmp 33) = ρ' 33 := rfl
      have f15 := hF 15 _ rfl (by kernel_rfl)
      have s40 : ev ρ' (.tmp 40) = ρ' 40 := rfl
      have f8 : Own w2.heap.size w' 86 3 (ρ' 33) a (itC (x.items.take a)) := f8
      refine st_append s33 s40 Try.underlying48 info86 rfl (by omega) f8 f15 (itC_one _) (by omega) (by omega) hq.size ?_
      intro v wz ho hfr _ _
      exact ⟨(show Own w2.heap.size wz 86 3 v (a + (x.items.length - (a + 1))) (itC (x.items.eraseIdx a)) from by rw [List.eraseIdx_eq_take_drop_succ, itC_append]; exact ho), (Frm.trans' (X := NoB) hq.frm hfr fun i hi hib => absurd (f8.block i hib).1 (by omega)).up⟩
    intro ρ6 w3 hq5 hout hF
    replace h := h.up hq5
    replace B4 := B4.up hq5
    replace hu := hu.trans hq5
    have q0 := (show ev ρ6 (.tmp 0) = _ from hout 0 (by decide)).trans r0
    have q4 := (show ev ρ6 (.tmp 4) = _ from hout 4 (by decide)).trans r4
    have q10 := (show ev ρ6 (.tmp 10) = _ from hout 10 (by decide)).trans r10
    have q25 : ev ρ6 (.tmp 25) = .pointer (some ⟨bx, 0, none⟩) := hF 0 _ rfl rfl
    have f16 := hF 16 _ rfl rfl
    have q41 : ev ρ6 (.tmp 41) = ρ6 41 := rfl
    clear hout hF r0 r10 r4 r9
    have r0 := q0; clear q0
    have r4 := q4; clear q4
    have r10 := q10; clear q10
    have r25 := q25; clear q25
    have r41 := q41; clear q41
    refine WL.cons rfl (st_nilCheck r25 ?_)
    refine WL.cons rfl (st_fieldAddr (f := 0) (k := 0) us Try.underlying51 rfl rfl Try.sizeOf48 ?_)
    have hle : a + (x.items.length - (a + 1)) = (x.items.eraseIdx a).length := by rw [List.length_eraseIdx_of_lt hlt]; omega
    rw [hle] at f16
    obtain ⟨vo, vc, hvo, hvc, _⟩ := f16.slice
    obtain ⟨vi2, hbk2, _⟩ := h.blk
    refine WL.cons rfl (st_store us ((un (un r41)).trans hvo) (cs := (refC (.slice vo (x.items.eraseIdx a).length vc) { x with items := x.items.eraseIdx a }).toArray) Try.sizeOf48 rfl hbk2 (by simp [refC]) (by simp [Value.cells, Value.oneCell']) (by simp [refC, Value.cells]) ?_)
    intro w4 hb2 hf2 _
    have f16' := f16.sl; rw [hvo] at f16'
    have hr2 : RefTo Sx w w4 bx { x with items := x.items.eraseIdx a }   := .new rfl hb2 f16' hf2 (by omega) hbs hvc (hu.frm.trans hf2)
    replace B4 := B4.frm hf2 (fun e => by have e : b4 = bx := e; have := m4.at_; omega)
    replace hf2 := hu.frm.trans hf2
    refine WL.nil ?_
    refine W.gen ?_; intro ρ7 hρ
    have q0 := (hρ 0).trans (un0 (un (un r0))); have q4 := (hρ 4).trans (un0 (un (un r4))); have q10 := (hρ 10).trans (un0 (un (un r10)))
    clear hρ r0 r10 r25 r4 r41
    have r0 := q0; clear q0; have r4 := q4; clear q4; have r10 := q10; clear q10
    refine W.seq ?_
    refine W.quietR mixed 15 (by kernel_rfl) ?_
    refine WQ.cons (fun w' hq => st_move r0 ⟨rfl, Up.refl _⟩) ?_
    refine WQ.cons (fun w' hq => st_fieldAddr (f := 0) (k := 0) (un r4) Try.underlying29 rfl rfl Try.sizeOf3 ⟨rfl, Up.refl _⟩) ?_
    refine WQ.cons (fun w' hq => st_load1 Try.isAgg3 us ((B4.up hq).cell rfl) ⟨rfl, Up.refl _⟩) ?_
    refine WQ.cons (fun w' hq => st_nilCheck (un (un us)) ⟨rfl, Up.refl _⟩) ?_
    refine WQ.cons (fun w' hq => st_fieldAddr (f := 1) (k := 63) us Try.underlying51 rfl rfl Try.sizeOf49 ⟨rfl, Up.refl _⟩) ?_
    refine WQ.cons (fun w' hq => st_indexAddrA us (un (un us)) Try.underlying49 Try.sizeOf4 (by omega) (by omega) ⟨rfl, Up.refl _⟩) ?_
    refine WQ.cons (fun w' hq => st_load1 Try.isAgg4 us ((hb2.up hq).cell (refC_side _ _ (by omega) (by omega))) ⟨rfl, Up.refl _⟩) ?_
    refine WQ.cons (fun w' hq => st_move (un (un (un (un (un (un (un r0))))))) ⟨rfl, Up.refl _⟩) ?_
    refine WQ.cons (fun w' hq => st_fieldAddr (f := 1) (k := 0) (un (un (un (un (un (un (un (un r4)))))))) Try.underlying29 rfl rfl Try.sizeOf3 ⟨rfl, Up.refl _⟩) ?_
    refine WQ.cons (fun w' hq => st_load1 Try.isAgg3 us ((B4.up hq).cell rfl) ⟨rfl, Up.refl _⟩) ?_
    refine WQ.cons (fun w' hq => st_nilCheck (un (un us)) ⟨rfl, Up.refl _⟩) ?_
    refine WQ.cons (fun w' hq => st_fieldAddr (f := 1) (k := 63) us Try.underlying51 rfl rfl Try.sizeOf49 ⟨rfl, Up.refl _⟩) ?_
    refine WQ.cons (fun w' hq => st_indexAddrA us (un (un us)) Try.underlying49 Try.sizeOf4 (by omega) (by omega) ⟨rfl, Up.refl _⟩) ?_
    refine WQ.cons (fun w' hq => st_load1 Try.isAgg4 us ((hb2.up hq).cell (refC_side _ _ (by omega) (by omega))) ⟨rfl, Up.refl _⟩) ?_
    refine WQ.cons (fun w' hq => st_neqB (un (un (un (un (un (un (un us))))))) us Try.underlying4 ⟨rfl, Up.refl _⟩) ?_
    refine WQ.nil ?_
    intro w5 hq6
    replace B4 := B4.up hq6
    replace hr2 := hr2.up hq6
    replace hb2 := hb2.up hq6
    refine WL.nil ?_
    refine W.gen ?_; intro ρ8 hρ
    have q10 := (hρ 10).trans (un (un (un (un (un (un (un (un (un (un (un (un (un (un (un r10))))))))))))))); have q58 := (hρ 58).trans us
    clear hρ r0 r10 r4
    have r10 := q10; clear q10; have r58 := q58; clear q58
    refine W.cond r58 (fun hc6 => ?_) (fun hc6 => ?_)
    · skip
      try simp only [tests] at hc6
      refine W.seqR ?_
      refine WL.cons rfl (st_assign uc ?_)
      refine WL.cons rfl (st_assign uc ?_)
      refine WL.cons rfl (st_assign uc ?_)
      refine WL.nil ?_
      refine W.gen ?_; intro ρ9 hρ
      have q6 := (hρ 6).trans (un (un us)); have q7 := (hρ 7).trans (un us); have q8 := (hρ 8).trans us
      clear hρ r10 r58
      have r6 := q6; clear q6; have r7 := q7; clear q7; have r8 := q8; clear q8
      refine W.ret ?_
      refine fin3 r6 r7 r8 ?_
      have hne : ¬ x.side l.1 = x.side l.2 := by intro e; rw [e] at hc6; simp at hc6
      unfold RefS.take; rw [hp]; dsimp only; rw [if_neg hne]; exact ⟨rfl, hr2⟩
    · skip
      try simp only [tests] at hc6
      refine W.skip ?_
      refine W.seqR ?_
      refine WL.cons rfl (st_move r10 ?_)
      refine WL.cons rfl (st_assign us ?_)
      refine WL.cons rfl (st_assign uc ?_)
      refine WL.cons rfl (st_assign uc ?_)
      refine WL.nil ?_
      refine W.gen ?_; intro ρ10 hρ
      have q6 := (hρ 6).trans (un (un us)); have q7 := (hρ 7).trans (un us); have q8 := (hρ 8).trans us
      clear hρ r10 r58
      have r6 := q6; clear q6; have r7 := q7; clear q7; have r8 := q8; clear q8
      refine W.ret ?_
      refine fin3 r6 r7 r8 ?_
      have he : x.side l.1 = x.side l.2 := by simpa using hc6
      unfold RefS.take; rw [hp]; dsimp only; rw [if_pos he, hm1]; exact ⟨rfl, hr2⟩

end Go.Proofs.Ytppohfgaegahoaa
