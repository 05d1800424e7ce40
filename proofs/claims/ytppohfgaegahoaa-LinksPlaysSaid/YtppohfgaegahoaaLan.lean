/- Walk: the document's Net: Forget. -/
import Derived.Test.YtppohfgaegahoaaLam
namespace Go.Proofs.Ytppohfgaegahoaa
open Go.Tw Go.RowKit
attribute [local irreducible] Step WL W WQ Does

def keepF (pl : Int) (xs : List (Lk × Msg)) : List (Lk × Msg) := xs.filter fun y => !hitsL pl y.1
theorem keepF_step {pl : Int} {xs : List (Lk × Msg)} {j : Nat} {p : Lk × Msg} (h : xs[j]? = some p) : keepF pl (xs.take (j + 1)) = keepF pl (xs.take j) ++ if hitsL pl p.1 = true then [] else [p] := by
  obtain ⟨hlt, he⟩ := List.getElem?_eq_some_iff.1 h
  rw [List.take_succ_eq_append_getElem hlt, he]
  unfold keepF
  rw [List.filter_append, List.filter_cons, List.filter_nil]
  cases hitsL pl p.1 <;> rfl
theorem keepF_le (pl : Int) (xs : List (Lk × Msg)) (j : Nat) : (keepF pl (xs.take j)).length ≤ xs.length := by
  unfold keepF
  exact Nat.le_trans (List.length_filter_le _ _) (by rw [List.length_take]; omega)
def LoopG (w w' : World) (xs : List (Lk × Msg)) (v : Value) : Prop := Up w w' ∧ Own w.heap.size w' 86 3 v xs.length (itC xs)

/-- (*towline towlineref04.Net).Forget -/
theorem rforget_ok {Sx : Nat → Prop} {x : RefS} {bx : Nat} (w : World) (h : RefR Sx w bx x) (hm : x.items.length ≤ 1000000) (pl : Int) : Does Try.prog 43 #[.pointer (some ⟨bx, 0, none⟩), .int .i64 pl] w (fun v w' => v = .tuple #[] ∧ RefTo Sx w w' bx (x.forget pl)) := by
  obtain ⟨vi, hbk, hsl, hroom⟩ := h.blk
  obtain ⟨io, ic, hvi, _, _⟩ := id hsl; subst hvi
  have hbx0 := hbk.lt
  refine fn_of_W (rs := []) (N := 37) Try.func43 rfl rfl rfl (by simp) ?_
  intro ρ0 hρ0
  have r0 : ev ρ0 (.tmp 0) = .pointer (some ⟨bx, 0, none⟩) := hρ0 0
  have r1 : ev ρ0 (.tmp 1) = .int .i64 pl := hρ0 1
  clear hρ0
  have hu := Up.refl w
  refine W.seqR ?_
  refine WL.cons rfl (st_assign uc ?_)
  refine WL.nil ?_
  refine W.gen ?_; intro ρ1 hρ
  have q0 := (hρ 0).trans (un r0); have q1 := (hρ 1).trans (un r1); have q4 := (hρ 4).trans us
  clear hρ r0 r1
  have r0 := q0; clear q0; have r1 := q1; clear q1; have r4 := q4; clear q4
  refine W.seq ?_
  refine W.seqR ?_
  refine WL.cons rfl (st_move r0 ?_)
  refine WL.cons rfl (st_nilCheck us ?_)
  refine WL.cons rfl (st_fieldAddr (f := 0) (k := 0) us Try.underlying51 rfl rfl Try.sizeOf48 ?_)
  refine WL.cons rfl (st_load1 Try.isAgg48 us ((hbk.up hu).cell rfl) ?_)
  refine WL.cons rfl (st_lenS us Try.underlying48 ?_)
  refine WL.cons rfl (st_move uc ?_)
  refine WL.nil ?_
  refine W.gen ?_; intro ρ2 hρ
  have q0 := (hρ 0).trans (un (un (un (un (un (un r0)))))); have q1 := (hρ 1).trans (un (un (un (un (un (un r1)))))); have q4 := (hρ 4).trans (un (un (un (un (un (un r4)))))); have q10 := (hρ 10).trans (un (un us))
  have q11 := (hρ 11).trans (un us); have q12 := (hρ 12).trans us
  clear hρ r0 r1 r4
  have r0 := q0; clear q0; have r1 := q1; clear q1; have r4 := q4; clear q4; have r10 := q10; clear q10; have r11 := q11; clear q11; have r12 := q12; clear q12
  refine W.block ?_
  refine W.loop (fun nn ρ' w' => ∃ (j : Nat) (vo : Value), ev ρ' (.tmp 4) = vo ∧ ev ρ' (.tmp 12) = .int .i64 (j : Int) ∧ ev ρ' (.tmp 0) = ev ρ2 (.tmp 0) ∧ ev ρ' (.tmp 1) = ev ρ2 (.tmp 1) ∧ ev ρ' (.tmp 10) = ev ρ2 (.tmp 10) ∧ ev ρ' (.tmp 11) = ev ρ2 (.tmp 11) ∧ j + nn = x.items.length ∧ LoopG w w' (keepF pl (x.items.take j)) vo) (x.items.length) ?_ ?_
  · exact ⟨0, .slice none 0 0, (by first | exact r4 | (refine r4.trans ?_; congr 1; omega) | (refine r4.trans ?_; simp)), (by first | exact r12 | (refine r12.trans ?_; congr 1; omega) | (refine r12.trans ?_; simp)), rfl, rfl, rfl, rfl, by omega, ⟨hu, by simp [keepF, itC], .inl ⟨rfl, by simp [keepF]⟩⟩⟩
  intro nn ρ3 w1 ⟨j, vo, q4, q12, q0, q1, q10, q11, hj, hL⟩
  have s0 := q0; replace q0 := q0.trans r0
  have s1 := q1; replace q1 := q1.trans r1
  have s10 := q10; replace q10 := q10.trans r10
  have s11 := q11; replace q11 := q11.trans r11
  clear r0 r1 r10 r11 r12 r4
  have r4 := q4; clear q4; have r12 := q12; clear q12; have r0 := q0; clear q0; have r1 := q1; clear q1; have r10 := q10; clear q10; have r11 := q11; clear q11
  clear hu; obtain ⟨hu, hown⟩ := hL
  have x0_0 := s0.symm.trans r0; clear s0
  have x0_1 := s1.symm.trans r1; clear s1
  have x0_10 := s10.symm.trans r10; clear s10
  have x0_11 := s11.symm.trans r11; clear s11
  refine W.seqR ?_
  refine WL.cons rfl (st_lss r12 r11 ?_)
  refine WL.nil ?_
  refine W.gen ?_; intro ρ4 hρ
  have q0 := (hρ 0).trans (un r0); have q1 := (hρ 1).trans (un r1); have q4 := (hρ 4).trans (un r4); have q10 := (hρ 10).trans (un r10)
  have q11 := (hρ 11).trans (un r11); have q12 := (hρ 12).trans (un r12); have q13 := (hρ 13).trans us
  clear hρ r0 r1 r10 r11 r12 r4
  have r0 := q0; clear q0; have r1 := q1; clear q1; have r4 := q4; clear q4; have r10 := q10; clear q10; have r11 := q11; clear q11; have r12 := q12; clear q12; have r13 := q13; clear q13
  refine W.seq ?_
  refine W.cond r13 (fun hc2 => ?_) (fun hc2 => ?_)
  · skip
    try simp only [tests] at hc2
    obtain ⟨io2, ic2, hei, _, hci⟩ := id (hsl.up hu); cases hei
    obtain ⟨bb, off, rfl, _, hcc⟩ := hci (by omega)
    have hlt : j < x.items.length := by omega
    obtain ⟨p, hp⟩ : ∃ p, x.items[j]? = some p := ⟨_, List.getElem?_eq_getElem hlt⟩
    have hat := itC_at hcc hp
    have hst := keepF_step (pl := pl) hp
    have hle := keepF_le pl x.items j
    refine W.skip ?_
    refine W.seq ?_
    refine W.block ?_
    refine W.seqR ?_
    refine WL.cons rfl (st_indexAddrS r10 r12 Try.underlying48 Try.sizeOf86 (by omega) (by omega) ?_)
    refine WL.cons rfl (st_loadK Try.isAgg86 Try.sizeOf86 us (hat) rfl ?_)
    refine WL.allocStore (v := .agg (it3 p).toArray) rfl (fun _ => un us) Try.zeroValue86 Try.sizeOf86 rfl (by first | rfl | kernel_rfl) (by first | exact it3_one _ | simp [Value.cells, Value.oneCell']) ?_
    intro b6 w2 m6; have B6 := m6.blk
    replace hu := hu.trans m6.up
    replace hown := hown.up m6.up
    refine WL.nil ?_
    refine W.gen ?_; intro ρ5 hρ
    have q0 := (hρ 0).trans (un0 (un (un (un r0)))); have q1 := (hρ 1).trans (un0 (un (un (un r1)))); have q4 := (hρ 4).trans (un0 (un (un (un r4)))); have q6 := (hρ 6).trans (un0 us)
    have q10 := (hρ 10).trans (un0 (un (un (un r10)))); have q11 := (hρ 11).trans (un0 (un (un (un r11)))); have q12 := (hρ 12).trans (un0 (un (un (un r12))))
    clear hρ r0 r1 r10 r11 r12 r13 r4
    have r0 := q0; clear q0; have r1 := q1; clear q1; have r4 := q4; clear q4; have r6 := q6; clear q6; have r10 := q10; clear q10; have r11 := q11; clear q11; have r12 := q12; clear q12
    refine W.seqR ?_
    refine WL.cons rfl (st_fieldAddr (f := 0) (k := 1) r6 Try.underlying86 rfl rfl Try.sizeOf29 ?_)
    refine WL.cons rfl (st_fieldAddr (f := 0) (k := 0) us Try.underlying29 rfl rfl Try.sizeOf3 ?_)
    refine WL.cons rfl (st_load1 Try.isAgg3 us (B6.cell rfl) ?_)
    refine WL.cons rfl (st_move (un (un (un r1))) ?_)
    refine WL.cons rfl (st_neq (un us) us ?_)
    refine WL.cons rfl (st_move us ?_)
    apply WL.seg0 5 (t := 21) (x := 26) (want := true) us rfl
    · intro hg21
      refine WL.guardY rfl (us.trans (by rw [hg21])) rfl (st_fieldAddr (f := 0) (k := 1) (un (un (un (un (un (un r6)))))) Try.underlying86 rfl rfl Try.sizeOf29 ?_)
      refine WL.guardY rfl ((un us).trans (by rw [hg21])) rfl (st_fieldAddr (f := 1) (k := 0) us Try.underlying29 rfl rfl Try.sizeOf3 ?_)
      refine WL.guardY rfl ((un (un us)).trans (by rw [hg21])) rfl (st_load1 Try.isAgg3 us (B6.cell rfl) ?_)
      refine WL.guardY rfl ((un (un (un us))).trans (by rw [hg21])) rfl (st_move (un (un (un (un (un (un (un (un (un r1))))))))) ?_)
      refine WL.guardY rfl ((un (un (un (un us)))).trans (by rw [hg21])) rfl (st_neq (un us) us ?_)
      exact WL.nil ⟨(ag (ag (ag (ag (ag ag0))))), us, rfl⟩
    intro ρ6 hag hx21
    have q0 := (hag 0 rfl).trans (un (un (un (un (un (un r0)))))); have q1 := (hag 1 rfl).trans (un (un (un (un (un (un r1)))))); have q4 := (hag 4 rfl).trans (un (un (un (un (un (un r4)))))); have q6 := (hag 6 rfl).trans (un (un (un (un (un (un r6))))))
    have q10 := (hag 10 rfl).trans (un (un (un (un (un (un r10)))))); have q11 := (hag 11 rfl).trans (un (un (un (un (un (un r11)))))); have q12 := (hag 12 rfl).trans (un (un (un (un (un (un r12)))))); have q21 := (hag 21 rfl).trans us
    clear hag r0 r1 r10 r11 r12 r4 r6
    have r0 := q0; clear q0; have r1 := q1; clear q1; have r4 := q4; clear q4; have r6 := q6; clear q6; have r10 := q10; clear q10; have r11 := q11; clear q11; have r12 := q12; clear q12; have r21 := q21; clear q21
    refine WL.cons rfl (st_and r21 hx21 uc ?_)
    refine WL.nil ?_
    refine W.gen ?_; intro ρ7 hρ
    have q0 := (hρ 0).trans (un r0); have q1 := (hρ 1).trans (un r1); have q4 := (hρ 4).trans (un r4); have q6 := (hρ 6).trans (un r6)
    have q10 := (hρ 10).trans (un r10); have q11 := (hρ 11).trans (un r11); have q12 := (hρ 12).trans (un r12); have q27 := (hρ 27).trans us
    clear hρ r0 r1 r10 r11 r12 r21 r4 r6
    have r0 := q0; clear q0; have r1 := q1; clear q1; have r4 := q4; clear q4; have r6 := q6; clear q6; have r10 := q10; clear q10; have r11 := q11; clear q11; have r12 := q12; clear q12; have r27 := q27; clear q27
    refine W.cond r27 (fun hc4 => ?_) (fun hc4 => ?_)
    · skip
      try simp only [tests] at hc4
      have hh : hitsL pl p.1 = false := by simpa [hitsL] using hc4
      rw [if_neg (by rw [hh]; exact Bool.false_ne_true)] at hst
      refine W.endR ?_
      refine WL.cons rfl (st_move r4 ?_)
      refine WL.cons rfl (st_loadK Try.isAgg86 Try.sizeOf86 (un r6) (cells3 (B6.cell rfl) (B6.cell rfl) (B6.cell rfl)) rfl ?_)
      refine WL.cons rfl (st_bs1 (v := .agg (it3 p).toArray) us (build_item p) ?_)
      intro b30 w3 m30; replace hown := hown.up m30.up; replace hu := hu.trans m30.up; have hnews : SlV AnyB w3 (.slice (some ⟨b30, 0, none⟩) 1 1) 1 3 (it3 p) := made_sl m30 rfl trivial
      refine WL.cons rfl (st_append (un (un us)) us Try.underlying48 info86 rfl (by omega) hown hnews (it3_cells _) (by omega) (by omega) hu.size ?_)
      intro v31 w4 hov hfr _ _
      replace hu := (Frm.trans' (X := NoB) hu.frm hfr fun i hi e => absurd (hown.block i e).1 (by omega)).up
      have hnx : LoopG w w4 (keepF pl (x.items.take (j + 1))) v31 := ⟨hu, by rw [hst, List.length_append, itC_append]; simpa [itC] using hov⟩
      refine WL.cons rfl (st_assign us ?_)
      refine WL.nil ?_
      refine W.endR ?_
      refine WL.cons rfl (st_add (un (un (un (un (un r12))))) uc (wr64 (by omega)) ?_)
      refine WL.cons rfl (st_move us ?_)
      refine WL.nil ?_
      exact ⟨nn - 1, (by omega), j + 1, _, (by first | exact (un (un us)) | (refine (un (un us)).trans ?_; congr 1; omega) | (refine (un (un us)).trans ?_; simp)), (by first | exact us | (refine us.trans ?_; congr 1; omega) | (refine us.trans ?_; simp)), ((un (un (un (un (un (un (un r0))))))).trans x0_0.symm), ((un (un (un (un (un (un (un r1))))))).trans x0_1.symm), ((un (un (un (un (un (un (un r10))))))).trans x0_10.symm), ((un (un (un (un (un (un (un r11))))))).trans x0_11.symm), by omega, hnx⟩
    · skip
      try simp only [tests] at hc4
      have hh : hitsL pl p.1 = true := by
        by_cases e : p.1.1 = pl
        · simp [hitsL, e]
        · have := hc4; simp [e] at this; simp [hitsL, this]
      rw [if_pos hh, List.append_nil] at hst
      have hnx : LoopG w _ (keepF pl (x.items.take (j + 1))) _ := ⟨hu, by rw [hst]; exact hown⟩
      refine W.skip ?_
      refine W.endR ?_
      refine WL.cons rfl (st_add r12 uc (wr64 (by omega)) ?_)
      refine WL.cons rfl (st_move us ?_)
      refine WL.nil ?_
      exact ⟨nn - 1, (by omega), j + 1, _, (by first | exact (un (un r4)) | (refine (un (un r4)).trans ?_; congr 1; omega) | (refine (un (un r4)).trans ?_; simp)), (by first | exact us | (refine us.trans ?_; congr 1; omega) | (refine us.trans ?_; simp)), ((un (un r0)).trans x0_0.symm), ((un (un r1)).trans x0_1.symm), ((un (un r10)).trans x0_10.symm), ((un (un r11)).trans x0_11.symm), by omega, hnx⟩
  · skip
    try simp only [tests] at hc2
    have he : x.items.take j = x.items := by rw [show j = x.items.length by omega, List.take_length]
    rw [he] at hown
    have hbs := hu.size
    refine W.exit ?_
    refine exitHere ?_
    refine W.endR ?_
    refine WL.cons rfl (st_move r0 ?_)
    refine WL.cons rfl (st_move (un r4) ?_)
    refine WL.cons rfl (st_nilCheck (un us) ?_)
    refine WL.cons rfl (st_fieldAddr (f := 0) (k := 0) us Try.underlying51 rfl rfl Try.sizeOf48 ?_)
    obtain ⟨vo2, vc, hvo, hvc, _⟩ := hown.slice
    subst hvo
    refine WL.cons rfl (st_store us (un (un us)) (cs := (refC (.slice vo2 (keepF pl x.items).length vc) { x with items := keepF pl x.items }).toArray) Try.sizeOf48 rfl (hbk.up hu) (by simp [refC]) (by simp [Value.cells, Value.oneCell']) (by simp [refC, Value.cells]) ?_)
    intro w5 hb2 hf2 _
    have f' := hown.sl
    have hr2 : RefTo Sx w w5 bx { x with items := keepF pl x.items }   := .new rfl hb2 f' hf2 hbx0 (Nat.le_refl _) hvc (hu.frm.trans hf2)
    replace hf2 := hu.frm.trans hf2
    refine WL.nil ?_
    refine fin0 ?_
    exact ⟨rfl, hr2⟩

end Go.Proofs.Ytppohfgaegahoaa
