/- Walks: the document's Net: place, Peek. -/
import Derived.Test.YtppohfgaegahoaaLaf
namespace Go.Proofs.Ytppohfgaegahoaa
open Go.Tw Go.RowKit
attribute [local irreducible] Step WL W WQ Does

theorem place_here (l : Lk) : ∀ (items : List (Lk × Msg)) (idx i : Nat) (p : Lk × Msg), items[idx]? = some p → p.1 = l → (qOf (items.take idx) l).length = i → placeR items l i = some idx
  | [], idx, i, p, h, _, _ => by simp at h
  | y :: ys, 0, i, p, h, hp, hi => by
    simp at h; subst h
    simp [qOf] at hi; subst hi
    unfold placeR; rw [if_pos hp]
  | y :: ys, idx + 1, i, p, h, hp, hi => by
    rw [List.take_succ_cons, qOf_cons] at hi
    unfold placeR
    by_cases e : y.1 = l
    · rw [if_pos e] at hi ⊢
      cases i with
      | zero => simp at hi
      | succ i =>
        have := place_here l ys idx i p (by simpa using h) hp (by simpa using hi)
        simp [this]
    · rw [if_neg e] at hi ⊢
      have := place_here l ys idx i p (by simpa using h) hp hi
      simp [this]

theorem hi_keep {K K' : Nat} {i : Int} (h : K' = K + 0) (hi : i < 0 ∨ (K : Int) ≤ i) : i < 0 ∨ (K' : Int) ≤ i := by omega
theorem hi_next {K K' : Nat} {i : Int} (h : K' = K + 1) (hi : i < 0 ∨ (K : Int) ≤ i) (hne : ¬ (K : Int) = i) : i < 0 ∨ (K' : Int) ≤ i := by omega

def placeI (x : RefS) (l : Lk) (i : Int) : Int := match x.place l i with | some a => (a : Int) | none => -1

/-- (*towline towlineref04.Net).place -/
theorem place_ok {Sx : Nat → Prop} {x : RefS} {bx : Nat} (w : World) (h : RefR Sx w bx x) (hm : x.items.length ≤ 1000000) (l : Lk) (i : Int) : Does Try.prog 45 #[.pointer (some ⟨bx, 0, none⟩), ekL l, .int .i64 i] w (fun v w' => v = .int .i64 (placeI x l i) ∧ Up w w') := by
  obtain ⟨vi, hbx, hsl, hroom⟩ := h.blk
  obtain ⟨io, ic, hvi, _, _⟩ := id hsl; subst hvi
  refine fn_of_W (rs := [6]) (N := 31) Try.func45 rfl rfl rfl (by simp) ?_
  intro ρ0 hρ0
  have r0 : ev ρ0 (.tmp 0) = .pointer (some ⟨bx, 0, none⟩) := hρ0 0
  have r1 : ev ρ0 (.tmp 1) = ekL l := hρ0 1
  have r2 : ev ρ0 (.tmp 2) = .int .i64 i := hρ0 2
  clear hρ0
  have hu := Up.refl w
  refine W.seqR ?_
  refine WL.cons rfl (st_box r1 ?_)
  intro b4 w1 m4; have B4 := m4.blk
  replace hu := hu.trans m4.up
  refine WL.cons rfl (st_assign uc ?_)
  refine WL.nil ?_
  refine W.gen ?_; intro ρ1 hρ
  have q0 := (hρ 0).trans (un (un r0)); have q2 := (hρ 2).trans (un (un r2)); have q4 := (hρ 4).trans (un us)
  clear hρ r0 r1 r2
  have r0 := q0; clear q0; have r2 := q2; clear q2; have r4 := q4; clear q4
  refine W.seqR ?_
  refine WL.cons rfl (st_assign uc ?_)
  refine WL.nil ?_
  refine W.gen ?_; intro ρ2 hρ
  have q0 := (hρ 0).trans (un r0); have q2 := (hρ 2).trans (un r2); have q4 := (hρ 4).trans (un r4); have q7 := (hρ 7).trans us
  clear hρ r0 r2 r4
  have r0 := q0; clear q0; have r2 := q2; clear q2; have r4 := q4; clear q4; have r7 := q7; clear q7
  refine W.seq ?_
  refine W.seqR ?_
  refine WL.cons rfl (st_move r0 ?_)
  refine WL.cons rfl (st_nilCheck us ?_)
  refine WL.cons rfl (st_fieldAddr (f := 0) (k := 0) us Try.underlying51 rfl rfl Try.sizeOf48 ?_)
  refine WL.cons rfl (st_load1 Try.isAgg48 us ((hbx.up hu).cell rfl) ?_)
  refine WL.cons rfl (st_lenS us Try.underlying48 ?_)
  refine WL.cons rfl (st_move uc ?_)
  refine WL.nil ?_
  refine W.gen ?_; intro ρ3 hρ
  have q2 := (hρ 2).trans (un (un (un (un (un (un r2)))))); have q4 := (hρ 4).trans (un (un (un (un (un (un r4)))))); have q7 := (hρ 7).trans (un (un (un (un (un (un r7)))))); have q13 := (hρ 13).trans (un (un us))
  have q14 := (hρ 14).trans (un us); have q15 := (hρ 15).trans us
  clear hρ r0 r2 r4 r7
  have r2 := q2; clear q2; have r4 := q4; clear q4; have r7 := q7; clear q7; have r13 := q13; clear q13; have r14 := q14; clear q14; have r15 := q15; clear q15
  refine W.block ?_
  refine W.loop (fun nn ρ' w' => ∃ j : Nat, ev ρ' (.tmp 7) = .int .i64 ((qOf (x.items.take j) l).length : Nat) ∧ ev ρ' (.tmp 15) = .int .i64 (j : Int) ∧ ev ρ' (.tmp 2) = ev ρ3 (.tmp 2) ∧ ev ρ' (.tmp 4) = ev ρ3 (.tmp 4) ∧ ev ρ' (.tmp 13) = ev ρ3 (.tmp 13) ∧ ev ρ' (.tmp 14) = ev ρ3 (.tmp 14) ∧ j + nn = x.items.length ∧ (i < 0 ∨ ((qOf (x.items.take j) l).length : Int) ≤ i) ∧ Up w w' ∧ Blk w' b4 (.cells (ekL l).cells 29)) (x.items.length) ?_ ?_
  · exact ⟨0, (by first | exact r7 | (refine r7.trans ?_; congr 1; omega) | (refine r7.trans ?_; simp)), (by first | exact r15 | (refine r15.trans ?_; congr 1; omega) | (refine r15.trans ?_; simp)), rfl, rfl, rfl, rfl, by omega, by (simp [qOf]; omega), hu, B4⟩
  intro nn ρ4 w2 ⟨j, q7, q15, q2, q4, q13, q14, hj, hi, hu, B4⟩
  have s2 := q2; replace q2 := q2.trans r2
  have s4 := q4; replace q4 := q4.trans r4
  have s13 := q13; replace q13 := q13.trans r13
  have s14 := q14; replace q14 := q14.trans r14
  clear r13 r14 r15 r2 r4 r7
  have r7 := q7; clear q7; have r15 := q15; clear q15; have r2 := q2; clear q2; have r4 := q4; clear q4; have r13 := q13; clear q13; have r14 := q14; clear q14
  have x0_2 := s2.symm.trans r2; clear s2
  have x0_4 := s4.symm.trans r4; clear s4
  have x0_13 := s13.symm.trans r13; clear s13
  have x0_14 := s14.symm.trans r14; clear s14
  refine W.seqR ?_
  refine WL.cons rfl (st_lss r15 r14 ?_)
  refine WL.nil ?_
  refine W.gen ?_; intro ρ5 hρ
  have q2 := (hρ 2).trans (un r2); have q4 := (hρ 4).trans (un r4); have q7 := (hρ 7).trans (un r7); have q13 := (hρ 13).trans (un r13)
  have q14 := (hρ 14).trans (un r14); have q15 := (hρ 15).trans (un r15); have q16 := (hρ 16).trans us
  clear hρ r13 r14 r15 r2 r4 r7
  have r2 := q2; clear q2; have r4 := q4; clear q4; have r7 := q7; clear q7; have r13 := q13; clear q13; have r14 := q14; clear q14; have r15 := q15; clear q15; have r16 := q16; clear q16
  refine W.seq ?_
  refine W.cond r16 (fun hc3 => ?_) (fun hc3 => ?_)
  · skip
    try simp only [tests] at hc3
    obtain ⟨io2, ic2, hei, _, hci⟩ := id (hsl.up hu); cases hei
    obtain ⟨bb, off, rfl, _, hcc⟩ := hci (by omega)
    have hlt : j < x.items.length := by omega
    obtain ⟨p, hp⟩ : ∃ p, x.items[j]? = some p := ⟨_, List.getElem?_eq_getElem hlt⟩
    have hat := itC_at hcc hp
    have hst : (qOf (x.items.take (j + 1)) l).length = (qOf (x.items.take j) l).length + if p.1 = l then 1 else 0 := by
      have e : x.items.take (j + 1) = x.items.take j ++ [p] := by rw [List.take_succ_eq_append_getElem hlt]; congr 2; exact (List.getElem?_eq_some_iff.1 hp).2
      rw [e, qOf_append, List.length_append, qOf_cons, qOf_nil]; split <;> simp
    have hle : (qOf (x.items.take j) l).length ≤ x.items.length := by unfold qOf; rw [List.length_map]; exact Nat.le_trans (List.length_filter_le _ _) (by rw [List.length_take]; omega)
    have hsz := hu.size
    refine W.skip ?_
    refine W.seq ?_
    refine W.block ?_
    refine W.seqR ?_
    refine WL.cons rfl (st_move r15 ?_)
    refine WL.cons rfl (st_indexAddrS (un r13) (un r15) Try.underlying48 Try.sizeOf86 (by omega) (by omega) ?_)
    refine WL.cons rfl (st_loadK Try.isAgg86 Try.sizeOf86 us (hat) rfl ?_)
    refine WL.cons rfl (st_alloc Try.zeroValue86 ?_)
    intro b9 w3 m9; have B9 := m9.blk
    have n4_9 : b4 ≠ b9 := by have := B4.lt; have := m9.at_; omega
    replace B4 := B4.up m9.up
    replace hu := hu.trans m9.up
    refine WL.cons rfl (st_assign (un (un (un us))) ?_)
    refine WL.cons rfl (st_store (un us) (un (un us)) (v := .agg (it3 p).toArray) Try.sizeOf86 rfl B9 (by show 0 + 3 ≤ 3; omega) (it3_one p) rfl ?_)
    intro w4 hb9 hf9 _
    replace B9 := hb9; replace B4 := B4.frm hf9 (fun e => n4_9 e); replace hu := Up.local hu hf9 (by have := m9.at_; omega)
    refine WL.nil ?_
    refine W.gen ?_; intro ρ6 hρ
    have q2 := (hρ 2).trans (un0 (un (un (un (un (un r2)))))); have q4 := (hρ 4).trans (un0 (un (un (un (un (un r4)))))); have q7 := (hρ 7).trans (un0 (un (un (un (un (un r7)))))); have q8 := (hρ 8).trans (un0 us)
    have q9 := (hρ 9).trans (un0 (un us)); have q13 := (hρ 13).trans (un0 (un (un (un (un (un r13)))))); have q14 := (hρ 14).trans (un0 (un (un (un (un (un r14)))))); have q15 := (hρ 15).trans (un0 (un (un (un (un (un r15))))))
    clear hρ r13 r14 r15 r16 r2 r4 r7
    have r2 := q2; clear q2; have r4 := q4; clear q4; have r7 := q7; clear q7; have r8 := q8; clear q8; have r9 := q9; clear q9; have r13 := q13; clear q13; have r14 := q14; clear q14; have r15 := q15; clear q15
    refine W.seq ?_
    refine W.seqR ?_
    refine WL.cons rfl (st_fieldAddr (f := 0) (k := 1) r9 Try.underlying86 rfl rfl Try.sizeOf29 ?_)
    refine WL.cons rfl (st_loadK Try.isAgg29 Try.sizeOf29 us (cells2 (B9.cell rfl) (B9.cell rfl)) rfl ?_)
    refine WL.cons rfl (st_loadK Try.isAgg29 Try.sizeOf29 (un (un r4)) (cells2 (B4.cell rfl) (B4.cell rfl)) rfl ?_)
    refine WL.cons rfl (st_bin (w' := w4) (r := .bool (!decide (p.1 = l))) (un us) us (run_eqGuard_agg _ _ _ _ _ _ _ (by kernel_rfl)) (by have := eq_link p.1 l w4; unfold Op.equal Op.maxDepth at this; rw [run_neq_struct]; show ((Op.equalIn 10000 29 (ekL p.1) (ekL l)).run _ _).andThen _ = _; rw [this]; rfl) ?_)
    refine WL.nil ?_
    refine W.gen ?_; intro ρ7 hρ
    have q2 := (hρ 2).trans (un (un (un (un r2)))); have q4 := (hρ 4).trans (un (un (un (un r4)))); have q7 := (hρ 7).trans (un (un (un (un r7)))); have q8 := (hρ 8).trans (un (un (un (un r8))))
    have q13 := (hρ 13).trans (un (un (un (un r13)))); have q14 := (hρ 14).trans (un (un (un (un r14)))); have q15 := (hρ 15).trans (un (un (un (un r15)))); have q23 := (hρ 23).trans us
    clear hρ r13 r14 r15 r2 r4 r7 r8 r9
    have r2 := q2; clear q2; have r4 := q4; clear q4; have r7 := q7; clear q7; have r8 := q8; clear q8; have r13 := q13; clear q13; have r14 := q14; clear q14; have r15 := q15; clear q15; have r23 := q23; clear q23
    refine W.cond r23 (fun hc5 => ?_) (fun hc5 => ?_)
    · skip
      try simp only [tests] at hc5
      rw [if_neg hc5] at hst
      have hi2 := hi_keep hst hi
      refine W.exit ?_
      refine exitHere ?_
      refine W.endR ?_
      refine WL.cons rfl (st_add r15 uc (wr64 (by omega)) ?_)
      refine WL.cons rfl (st_move us ?_)
      refine WL.nil ?_
      exact ⟨nn - 1, (by omega), j + 1, (by first | exact (un (un r7)) | (refine (un (un r7)).trans ?_; congr 1; omega) | (refine (un (un r7)).trans ?_; simp)), (by first | exact us | (refine us.trans ?_; congr 1; omega) | (refine us.trans ?_; simp)), ((un (un r2)).trans x0_2.symm), ((un (un r4)).trans x0_4.symm), ((un (un r13)).trans x0_13.symm), ((un (un r14)).trans x0_14.symm), by omega, hi2, hu, B4⟩
    · skip
      try simp only [tests] at hc5
      replace hc5 : p.1 = l := by simpa using hc5
      rw [if_pos hc5] at hst
      refine W.skip ?_
      refine W.seq ?_
      refine W.seqR ?_
      refine WL.cons rfl (st_move r7 ?_)
      refine WL.cons rfl (st_move (un r2) ?_)
      refine WL.cons rfl (st_eql (un us) us ?_)
      refine WL.nil ?_
      refine W.gen ?_; intro ρ8 hρ
      have q2 := (hρ 2).trans (un (un (un r2))); have q4 := (hρ 4).trans (un (un (un r4))); have q7 := (hρ 7).trans (un (un (un r7))); have q8 := (hρ 8).trans (un (un (un r8)))
      have q13 := (hρ 13).trans (un (un (un r13))); have q14 := (hρ 14).trans (un (un (un r14))); have q15 := (hρ 15).trans (un (un (un r15))); have q26 := (hρ 26).trans us
      clear hρ r13 r14 r15 r2 r23 r4 r7 r8
      have r2 := q2; clear q2; have r4 := q4; clear q4; have r7 := q7; clear q7; have r8 := q8; clear q8; have r13 := q13; clear q13; have r14 := q14; clear q14; have r15 := q15; clear q15; have r26 := q26; clear q26
      refine W.cond r26 (fun hc6 => ?_) (fun hc6 => ?_)
      · skip
        try simp only [tests] at hc6
        refine W.seqR ?_
        refine WL.cons rfl (st_move r8 ?_)
        refine WL.cons rfl (st_assign us ?_)
        refine WL.nil ?_
        refine W.gen ?_; intro ρ9 hρ
        have q6 := (hρ 6).trans us
        clear hρ r13 r14 r15 r2 r26 r4 r7 r8
        have r6 := q6; clear q6
        refine W.ret ?_
        refine fin1 r6 ?_
        have hpl : x.place l i = some j := by
          unfold RefS.place; rw [if_neg (by omega)]; exact place_here l _ _ _ p hp hc5 (by omega)
        unfold placeI; rw [hpl]; exact ⟨rfl, hu⟩
      · skip
        try simp only [tests] at hc6
        have hi2 := hi_next hst hi hc6
        refine W.skip ?_
        refine W.endR ?_
        refine WL.cons rfl (st_move r7 ?_)
        refine WL.cons rfl (st_add us uc (wr64 (by omega)) ?_)
        refine WL.cons rfl (st_assign us ?_)
        refine WL.nil ?_
        refine W.endR ?_
        refine WL.cons rfl (st_add (un (un (un r15))) uc (wr64 (by omega)) ?_)
        refine WL.cons rfl (st_move us ?_)
        refine WL.nil ?_
        exact ⟨nn - 1, (by omega), j + 1, (by first | exact (un (un us)) | (refine (un (un us)).trans ?_; congr 1; omega) | (refine (un (un us)).trans ?_; simp)), (by first | exact us | (refine us.trans ?_; congr 1; omega) | (refine us.trans ?_; simp)), ((un (un (un (un (un r2))))).trans x0_2.symm), ((un (un (un (un (un r4))))).trans x0_4.symm), ((un (un (un (un (un r13))))).trans x0_13.symm), ((un (un (un (un (un r14))))).trans x0_14.symm), by omega, hi2, hu, B4⟩
  · skip
    try simp only [tests] at hc3
    refine W.exit ?_
    refine exitHere ?_
    refine W.seqR ?_
    refine WL.cons rfl (st_assign uc ?_)
    refine WL.nil ?_
    refine W.gen ?_; intro ρ10 hρ
    have q6 := (hρ 6).trans us
    clear hρ r13 r14 r15 r16 r2 r4 r7
    have r6 := q6; clear q6
    refine W.ret ?_
    refine fin1 r6 ?_
    have hpl : x.place l i = none := by
      unfold RefS.place
      by_cases h0 : i < 0
      · rw [if_pos h0]
      · rw [if_neg h0, place_none]; have he : j = x.items.length := by omega
        rw [he, List.take_length] at hi; omega
    unfold placeI; rw [hpl]; exact ⟨rfl, hu⟩

end Go.Proofs.Ytppohfgaegahoaa
