/- Walks: Has, Take, Lose. -/
import Derived.Test.YtppohfgaegahoaaLe
namespace Go.Proofs.Ytppohfgaegahoaa
open Go.Tw Go.RowKit
attribute [local irreducible] Step WL W WQ Does

/-- (towline mask.Set).Has -/
theorem has_ok (x n : Int) (w : World) : Does Try.prog 49 #[.int .u64 x, .int .i64 n] w (fun v w' => v = .bool (hasB x n) ∧ Up w w') := by
  refine fn_of_W (rs := [4]) (N := 14) Try.func49 rfl rfl rfl (by simp) ?_
  intro ρ0 hρ0
  have r0 : ev ρ0 (.tmp 0) = .int .u64 x := hρ0 0
  have r1 : ev ρ0 (.tmp 1) = .int .i64 n := hρ0 1
  clear hρ0
  have hu := Up.refl w
  refine W.seqR ?_
  refine WL.cons rfl (st_assign uc ?_)
  refine WL.nil ?_
  refine W.gen ?_; intro ρ1 hρ
  have q0 := (hρ 0).trans (un r0); have q1 := (hρ 1).trans (un r1)
  clear hρ r0 r1
  have r0 := q0; clear q0; have r1 := q1; clear q1
  refine W.seqR ?_
  refine WL.cons rfl (st_move r1 ?_)
  refine WL.cons rfl (st_call1 ent55 us (((in_ok n _)).mono ?_))
  intro vi w1 ⟨hvi, ui⟩; subst hvi
  replace hu := hu.trans ui
  refine WL.cons rfl (st_move us ?_)
  apply WL.seg0 5 (t := 7) (x := 12) (want := true) us rfl
  · intro hg7
    refine WL.guardY rfl (us.trans (by rw [hg7])) rfl (st_move (un (un (un r0))) ?_)
    refine WL.guardY rfl ((un us).trans (by rw [hg7])) rfl (st_move (un (un (un (un r1)))) ?_)
    refine WL.guardY rfl ((un (un us)).trans (by rw [hg7])) rfl (st_shr (un us) us (by simp at hg7; omega) rfl ?_)
    refine WL.guardY rfl ((un (un (un us))).trans (by rw [hg7])) rfl (st_band us uc rfl ?_)
    refine WL.guardY rfl ((un (un (un (un us)))).trans (by rw [hg7])) rfl (st_eql us uc ?_)
    exact WL.nil ⟨(ag (ag (ag (ag (ag ag0))))), us, rfl⟩
  intro ρ2 hag hx7
  have q7 := (hag 7 rfl).trans us
  clear hag r0 r1
  have r7 := q7; clear q7
  refine WL.cons rfl (st_and r7 hx7 uc ?_)
  refine WL.cons rfl (st_assign us ?_)
  refine WL.nil ?_
  refine W.gen ?_; intro ρ3 hρ
  have q4 := (hρ 4).trans us
  clear hρ r7
  have r4 := q4; clear q4
  refine W.ret ?_
  refine fin1 r4 ?_
  exact ⟨rfl, hu⟩

/-- (*towline links.Net).Lose -/
theorem lose_ok {S : Nat → Prop} {s : NetS} {bn bm : Nat} (w : World) (h : NetR S w bn bm s) (hk : s.Ok) (l : Lk) (i : Int) : Does Try.prog 32 #[.pointer (some ⟨bn, 0, none⟩), ekL l, .int .i64 i] w (fun v w' => v = .int .i64 (s.lose l i).2 ∧ NetTo S w w' bn bm (s.lose l i).1) := by
  have hbn := h.blk.lt; have hbm := h.map.lt
  refine fn_of_W (rs := [6]) (N := 19) Try.func32 rfl rfl rfl (by simp) ?_
  intro ρ0 hρ0
  have r0 : ev ρ0 (.tmp 0) = .pointer (some ⟨bn, 0, none⟩) := hρ0 0
  have r1 : ev ρ0 (.tmp 1) = ekL l := hρ0 1
  have r2 : ev ρ0 (.tmp 2) = .int .i64 i := hρ0 2
  clear hρ0
  have hu := Up.refl w
  refine W.seqR ?_
  refine WL.cons rfl (st_box r1 ?_)
  intro b4 w1 m4; have B4 := m4.blk
  replace h := h.up m4.up
  replace hu := hu.trans m4.up
  refine WL.cons rfl (st_assign uc ?_)
  refine WL.nil ?_
  refine W.gen ?_; intro ρ1 hρ
  have q0 := (hρ 0).trans (un (un r0)); have q2 := (hρ 2).trans (un (un r2)); have q4 := (hρ 4).trans (un us)
  clear hρ r0 r1 r2
  have r0 := q0; clear q0; have r2 := q2; clear q2; have r4 := q4; clear q4
  refine W.seq ?_
  refine W.seqR ?_
  refine WL.cons rfl (st_move r0 ?_)
  refine WL.cons rfl (st_loadK Try.isAgg29 Try.sizeOf29 (un r4) (cells2 (B4.cell rfl) (B4.cell rfl)) rfl ?_)
  refine WL.cons rfl (st_move (un (un r2)) ?_)
  refine WL.cons rfl (st_call3 ent35 (un (un us)) (un us) us (((able_ok _ h l i)).mono ?_))
  intro va w2 ⟨hva, ua⟩; subst hva
  replace h := h.up ua
  replace B4 := B4.up ua
  replace hu := hu.trans ua
  refine WL.cons rfl (st_assign us ?_)
  refine WL.nil ?_
  refine W.gen ?_; intro ρ2 hρ
  have q0 := (hρ 0).trans (un (un (un (un (un r0))))); have q2 := (hρ 2).trans (un (un (un (un (un r2))))); have q4 := (hρ 4).trans (un (un (un (un (un r4))))); have q7 := (hρ 7).trans us
  clear hρ r0 r2 r4
  have r0 := q0; clear q0; have r2 := q2; clear q2; have r4 := q4; clear q4; have r7 := q7; clear q7
  refine W.seqR ?_
  refine WL.cons rfl (st_move r7 ?_)
  refine WL.cons rfl (st_neq us uc ?_)
  refine WL.nil ?_
  refine W.gen ?_; intro ρ3 hρ
  have q0 := (hρ 0).trans (un (un r0)); have q2 := (hρ 2).trans (un (un r2)); have q4 := (hρ 4).trans (un (un r4)); have q7 := (hρ 7).trans (un (un r7))
  have q13 := (hρ 13).trans us
  clear hρ r0 r2 r4 r7
  have r0 := q0; clear q0; have r2 := q2; clear q2; have r4 := q4; clear q4; have r7 := q7; clear q7; have r13 := q13; clear q13
  refine W.cond r13 (fun hc2 => ?_) (fun hc2 => ?_)
  · skip
    try simp only [tests] at hc2
    have ha : s.able l i = false := by cases e : s.able l i <;> simp_all
    refine W.seqR ?_
    refine WL.cons rfl (st_move r7 ?_)
    refine WL.cons rfl (st_assign us ?_)
    refine WL.nil ?_
    refine W.gen ?_; intro ρ4 hρ
    have q6 := (hρ 6).trans us
    clear hρ r0 r13 r2 r4 r7
    have r6 := q6; clear q6
    refine W.ret ?_
    refine fin1 r6 ?_
    unfold NetS.lose; rw [ha]; exact ⟨rfl, NetTo.ahead hu (h.to (Up.refl _))⟩
  · skip
    try simp only [tests] at hc2
    have ha : s.able l i = true := by cases e : s.able l i <;> simp_all
    refine W.skip ?_
    refine W.seqR ?_
    refine WL.cons rfl (st_move r0 ?_)
    refine WL.cons rfl (st_loadK Try.isAgg29 Try.sizeOf29 (un r4) (cells2 (B4.cell rfl) (B4.cell rfl)) rfl ?_)
    refine WL.cons rfl (st_move (un (un r2)) ?_)
    refine WL.cons rfl (st_call3 ent48 (un (un us)) (un us) us (((cut_ok _ h hk l i ha)).mono ?_))
    intro x w3 ⟨hx, hto⟩
    replace B4 := B4.frm hto.1 (fun e => by have := m4.at_; rcases e with e | e <;> omega)
    replace hto := NetTo.ahead hu hto
    have hto2 := hto; obtain ⟨_, S1, h1, hS1⟩ := hto2; clear hu h; have hu := Up.refl w3; have h := h1; clear h1
    refine WL.nil ?_
    refine W.gen ?_; intro ρ5 hρ
    clear hρ r0 r13 r2 r4 r7
    refine W.seqR ?_
    refine WL.cons rfl (st_assign uc ?_)
    refine WL.nil ?_
    refine W.gen ?_; intro ρ6 hρ
    have q6 := (hρ 6).trans us
    clear hρ
    have r6 := q6; clear q6
    refine W.ret ?_
    refine fin1 r6 ?_
    unfold NetS.lose; rw [ha]; exact ⟨rfl, hto.up hu⟩

/-- (*towline links.Net).Take -/
theorem take_ok {S : Nat → Prop} {s : NetS} {bn bm : Nat} (w : World) (h : NetR S w bn bm s) (hk : s.Ok) (l : Lk) (i : Int) : Does Try.prog 29 #[.pointer (some ⟨bn, 0, none⟩), ekL l, .int .i64 i] w (fun v w' => ∃ u, v = .tuple #[u, .bool (s.take l i).2.1.isSome, .int .i64 (s.take l i).2.2] ∧ NetToX S w w' bn bm (s.take l i).1 u ((s.take l i).2.1.getD [])) := by
  have hbn := h.blk.lt; have hbm := h.map.lt
  refine fn_of_W (rs := [6, 7, 8]) (N := 39) Try.func29 rfl rfl rfl (by simp) ?_
  intro ρ0 hρ0
  have r0 : ev ρ0 (.tmp 0) = .pointer (some ⟨bn, 0, none⟩) := hρ0 0
  have r1 : ev ρ0 (.tmp 1) = ekL l := hρ0 1
  have r2 : ev ρ0 (.tmp 2) = .int .i64 i := hρ0 2
  clear hρ0
  have hu := Up.refl w
  refine W.seqR ?_
  refine WL.cons rfl (st_box r1 ?_)
  intro b4 w1 m4; have B4 := m4.blk
  replace h := h.up m4.up
  replace hu := hu.trans m4.up
  refine WL.cons rfl (st_assign uc ?_)
  refine WL.cons rfl (st_assign uc ?_)
  refine WL.cons rfl (st_assign uc ?_)
  refine WL.nil ?_
  refine W.gen ?_; intro ρ1 hρ
  have q0 := (hρ 0).trans (un (un (un (un r0)))); have q2 := (hρ 2).trans (un (un (un (un r2)))); have q4 := (hρ 4).trans (un (un (un us)))
  clear hρ r0 r1 r2
  have r0 := q0; clear q0; have r2 := q2; clear q2; have r4 := q4; clear q4
  refine W.seq ?_
  refine W.seqR ?_
  refine WL.cons rfl (st_move r0 ?_)
  refine WL.cons rfl (st_loadK Try.isAgg29 Try.sizeOf29 (un r4) (cells2 (B4.cell rfl) (B4.cell rfl)) rfl ?_)
  refine WL.cons rfl (st_move (un (un r2)) ?_)
  refine WL.cons rfl (st_call3 ent35 (un (un us)) (un us) us (((able_ok _ h l i)).mono ?_))
  intro va w2 ⟨hva, ua⟩; subst hva
  replace h := h.up ua
  replace B4 := B4.up ua
  replace hu := hu.trans ua
  refine WL.cons rfl (st_assign us ?_)
  refine WL.nil ?_
  refine W.gen ?_; intro ρ2 hρ
  have q0 := (hρ 0).trans (un (un (un (un (un r0))))); have q2 := (hρ 2).trans (un (un (un (un (un r2))))); have q4 := (hρ 4).trans (un (un (un (un (un r4))))); have q9 := (hρ 9).trans us
  clear hρ r0 r2 r4
  have r0 := q0; clear q0; have r2 := q2; clear q2; have r4 := q4; clear q4; have r9 := q9; clear q9
  refine W.seqR ?_
  refine WL.cons rfl (st_move r9 ?_)
  refine WL.cons rfl (st_neq us uc ?_)
  refine WL.nil ?_
  refine W.gen ?_; intro ρ3 hρ
  have q0 := (hρ 0).trans (un (un r0)); have q2 := (hρ 2).trans (un (un r2)); have q4 := (hρ 4).trans (un (un r4)); have q9 := (hρ 9).trans (un (un r9))
  have q16 := (hρ 16).trans us
  clear hρ r0 r2 r4 r9
  have r0 := q0; clear q0; have r2 := q2; clear q2; have r4 := q4; clear q4; have r9 := q9; clear q9; have r16 := q16; clear q16
  refine W.cond r16 (fun hc2 => ?_) (fun hc2 => ?_)
  · skip
    try simp only [tests] at hc2
    have ha : s.able l i = false := by cases e : s.able l i <;> simp_all
    refine W.seqR ?_
    refine WL.cons rfl (st_move r9 ?_)
    refine WL.cons rfl (st_assign uc ?_)
    refine WL.cons rfl (st_assign uc ?_)
    refine WL.cons rfl (st_assign (un (un us)) ?_)
    refine WL.nil ?_
    refine W.gen ?_; intro ρ4 hρ
    have q6 := (hρ 6).trans (un (un us)); have q7 := (hρ 7).trans (un us); have q8 := (hρ 8).trans us
    clear hρ r0 r16 r2 r4 r9
    have r6 := q6; clear q6; have r7 := q7; clear q7; have r8 := q8; clear q8
    refine W.ret ?_
    refine fin3 r6 r7 r8 ?_
    unfold NetS.take; rw [ha]; exact ⟨_, rfl, (NetTo.ahead hu (h.to (Up.refl _))).noRow⟩
  · skip
    try simp only [tests] at hc2
    have ha : s.able l i = true := by cases e : s.able l i <;> simp_all
    obtain ⟨⟨hf, hi0⟩, hil⟩ : (fitsL l = true ∧ 0 ≤ i) ∧ i < (s.q l).length := by simpa [NetS.able] using ha
    refine W.skip ?_
    refine W.seqR ?_
    refine WL.cons rfl (st_move r0 ?_)
    refine WL.cons rfl (st_loadK Try.isAgg29 Try.sizeOf29 (un r4) (cells2 (B4.cell rfl) (B4.cell rfl)) rfl ?_)
    refine WL.cons rfl (st_move (un (un r2)) ?_)
    refine WL.cons rfl (st_call3 ent48 (un (un us)) (un us) us (((cut_ok _ h hk l i ha)).mono ?_))
    intro x w3 ⟨hx, hto⟩
    replace B4 := B4.frm hto.1 (fun e => by have := m4.at_; rcases e with e | e <;> omega)
    replace hto := NetTo.ahead hu hto
    have hto2 := hto; obtain ⟨_, S1, h1, hS1⟩ := hto2; clear hu h; have hu := Up.refl w3; have h := h1; clear h1
    refine WL.cons rfl (st_assign us ?_)
    refine WL.nil ?_
    refine W.gen ?_; intro ρ5 hρ
    have q0 := (hρ 0).trans (un (un (un (un (un r0))))); have q4 := (hρ 4).trans (un (un (un (un (un r4))))); have q10 := (hρ 10).trans us
    clear hρ r0 r16 r2 r4 r9
    have r0 := q0; clear q0; have r4 := q4; clear q4; have r10 := q10; clear q10
    refine W.seq ?_
    refine W.quietR mixed 15 (by kernel_rfl) ?_
    refine WQ.cons (fun w' hq => st_move r0 ⟨rfl, Up.refl _⟩) ?_
    refine WQ.cons (fun w' hq => st_nilCheck us ⟨rfl, Up.refl _⟩) ?_
    refine WQ.cons (fun w' hq => st_fieldAddr (f := 1) (k := 0) us Try.underlying64 rfl rfl Try.sizeOf62 ⟨rfl, Up.refl _⟩) ?_
    refine WQ.cons (fun w' hq => st_load1 Try.isAgg62 us ((h.up hq).blk.cell rfl) ⟨rfl, Up.refl _⟩) ?_
    refine WQ.cons (fun w' hq => st_fieldAddr (f := 0) (k := 0) (un (un (un (un r4)))) Try.underlying29 rfl rfl Try.sizeOf3 ⟨rfl, Up.refl _⟩) ?_
    refine WQ.cons (fun w' hq => st_load1 Try.isAgg3 us ((B4.up hq).cell rfl) ⟨rfl, Up.refl _⟩) ?_
    refine WQ.cons (fun w' hq => by
        refine st_call2 ent49 (un (un us)) us (((has_ok _ _ _)).mono ?_); exact fun v w2 hv => hv) ?_
    refine WQ.cons (fun w' hq => st_move (un (un (un (un (un (un (un r0))))))) ⟨rfl, Up.refl _⟩) ?_
    refine WQ.cons (fun w' hq => st_nilCheck us ⟨rfl, Up.refl _⟩) ?_
    refine WQ.cons (fun w' hq => st_fieldAddr (f := 1) (k := 0) us Try.underlying64 rfl rfl Try.sizeOf62 ⟨rfl, Up.refl _⟩) ?_
    refine WQ.cons (fun w' hq => st_load1 Try.isAgg62 us ((h.up hq).blk.cell rfl) ⟨rfl, Up.refl _⟩) ?_
    refine WQ.cons (fun w' hq => st_fieldAddr (f := 1) (k := 0) (un (un (un (un (un (un (un (un (un (un (un r4))))))))))) Try.underlying29 rfl rfl Try.sizeOf3 ⟨rfl, Up.refl _⟩) ?_
    refine WQ.cons (fun w' hq => st_load1 Try.isAgg3 us ((B4.up hq).cell rfl) ⟨rfl, Up.refl _⟩) ?_
    refine WQ.cons (fun w' hq => by
        refine st_call2 ent49 (un (un us)) us (((has_ok _ _ _)).mono ?_); exact fun v w2 hv => hv) ?_
    refine WQ.cons (fun w' hq => st_neqB (un (un (un (un (un (un (un us))))))) us Try.underlying4 ⟨rfl, Up.refl _⟩) ?_
    refine WQ.nil ?_
    intro w4 hq5
    replace h := h.up hq5
    replace B4 := B4.up hq5
    replace hu := hu.trans hq5
    refine WL.nil ?_
    refine W.gen ?_; intro ρ6 hρ
    have q10 := (hρ 10).trans (un (un (un (un (un (un (un (un (un (un (un (un (un (un (un r10))))))))))))))); have q36 := (hρ 36).trans us
    clear hρ r0 r10 r4
    have r10 := q10; clear q10; have r36 := q36; clear q36
    refine W.cond r36 (fun hc5 => ?_) (fun hc5 => ?_)
    · skip
      try simp only [tests] at hc5
      refine W.seqR ?_
      refine WL.cons rfl (st_assign uc ?_)
      refine WL.cons rfl (st_assign uc ?_)
      refine WL.cons rfl (st_assign uc ?_)
      refine WL.nil ?_
      refine W.gen ?_; intro ρ7 hρ
      have q6 := (hρ 6).trans (un (un us)); have q7 := (hρ 7).trans (un us); have q8 := (hρ 8).trans us
      clear hρ r10 r36
      have r6 := q6; clear q6; have r7 := q7; clear q7; have r8 := q8; clear q8
      refine W.ret ?_
      refine fin3 r6 r7 r8 ?_
      have he : ¬ hasB s.side l.1 = hasB s.side l.2 := by simpa [NetS.cut] using hc5
      unfold NetS.take; rw [if_neg (by simp [ha]), if_neg he]; exact ⟨_, rfl, (hto.up hu).noRow⟩
    · skip
      try simp only [tests] at hc5
      refine W.skip ?_
      have he : hasB s.side l.1 = hasB s.side l.2 := by simpa [NetS.cut] using hc5
      have hgm : (s.q l)[i.toNat]? = some ((s.q l).getD i.toNat []) := by simp [List.getD, show i.toNat < (s.q l).length by omega]
      have hms : ((s.q l).getD i.toNat []).length ≤ 8192 := hk.short l _ (List.mem_of_getElem? hgm)
      refine W.seqR ?_
      refine WL.cons rfl (st_move r10 ?_)
      refine WL.cons rfl (st_call1 ent18 us (((clone_ok _ (hx.up hu) (byteV_one _) (by omega))).mono ?_))
      intro u w5 ⟨hou, uu⟩; have hb0 := hu.size
      replace h := h.up uu
      replace B4 := B4.up uu
      replace hu := hu.trans uu
      refine WL.cons rfl (st_assign us ?_)
      refine WL.cons rfl (st_assign uc ?_)
      refine WL.cons rfl (st_assign uc ?_)
      refine WL.nil ?_
      refine W.gen ?_; intro ρ8 hρ
      have q6 := (hρ 6).trans (un (un us)); have q7 := (hρ 7).trans (un us); have q8 := (hρ 8).trans us
      clear hρ r10 r36
      have r6 := q6; clear q6; have r7 := q7; clear q7; have r8 := q8; clear q8
      refine W.ret ?_
      refine fin3 r6 r7 r8 ?_
      unfold NetS.take; rw [if_neg (by simp [ha]), if_pos he, hgm]; exact ⟨_, rfl, hto.own hu (hou.base hb0).sl⟩

end Go.Proofs.Ytppohfgaegahoaa
