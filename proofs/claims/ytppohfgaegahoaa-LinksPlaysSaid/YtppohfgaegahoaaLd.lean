/- Walks: copies of slices, and whether a link has an i-th message. -/
import Derived.Test.YtppohfgaegahoaaLc
namespace Go.Proofs.Ytppohfgaegahoaa
open Go.Tw Go.RowKit
attribute [local irreducible] Step WL W WQ Does

/-- slices.Clone   byte,byte  -/
theorem clone_ok {S : Nat → Prop} {v : Value} {n : Nat} {cs : List Value} (w : World) (hv : SlV S w v n 1 cs) (h1 : ∀ c ∈ cs, c.oneCell' = true) (hn : n ≤ 1000000000) : Does Try.prog 18 #[v] w (fun v' w' => Own w.heap.size w' 5 1 v' n cs ∧ Up w w') := by
  obtain ⟨o, cap, hv0, hl, hc⟩ := hv
  refine fn_of_W (rs := [2]) (N := 8) Try.func18 rfl rfl rfl (by simp) ?_
  intro ρ0 hρ0
  have r0 : ev ρ0 (.tmp 0) = v := hρ0 0
  clear hρ0
  have hu := Up.refl w
  subst hv0
  refine W.seqR ?_
  refine WL.cons rfl (st_assign uc ?_)
  refine WL.nil ?_
  refine W.gen ?_; intro ρ1 hρ
  have q0 := (hρ 0).trans (un r0)
  clear hρ r0
  have r0 := q0; clear q0
  refine W.seq ?_
  refine W.seqR ?_
  refine WL.cons rfl (st_move r0 ?_)
  refine WL.cons rfl (st_eqlS0 us uc Try.underlying30 ?_)
  refine WL.nil ?_
  refine W.gen ?_; intro ρ2 hρ
  have q0 := (hρ 0).trans (un (un r0)); have q4 := (hρ 4).trans us
  clear hρ r0
  have r0 := q0; clear q0; have r4 := q4; clear q4
  refine W.cond r4 (fun hc1 => ?_) (fun hc1 => ?_)
  · skip
    try simp only [tests] at hc1
    have ho : o = none := by cases o <;> simp_all
    refine W.seqR ?_
    refine WL.cons rfl (st_assign uc ?_)
    refine WL.nil ?_
    refine W.gen ?_; intro ρ3 hρ
    have q2 := (hρ 2).trans us
    clear hρ r0 r4
    have r2 := q2; clear q2
    refine W.ret ?_
    refine fin1 r2 ?_
    have hn0 : n = 0 := by
      rcases Nat.eq_zero_or_pos n with h | h
      · exact h
      · obtain ⟨b, off, e, _⟩ := hc h; rw [ho] at e; cases e
    subst hn0
    exact ⟨⟨hl, .inl ⟨rfl, rfl⟩⟩, hu⟩
  · skip
    try simp only [tests] at hc1
    refine W.skip ?_
    refine W.seqR ?_
    refine WL.cons rfl (st_empty Try.underlying30 Try.sizeOf5 ?_)
    intro ve w1 hve _ hoe ue; have hu1 := hu; replace hu := hu.trans ue
    refine WL.cons rfl (st_move (un r0) ?_)
    refine WL.cons rfl (st_append (un us) us Try.underlying30 info5 rfl (by omega) hoe (show SlV S _ (.slice o n cap) n 1 cs from SlV.up ⟨o, cap, rfl, hl, hc⟩ hu) h1 (by omega) (by omega) hu.size ?_)
    intro u w2 hou hfr _ _
    replace hu : Up w w2 := Up.local hu (hfr.mono fun k _ hk => by rw [hve] at hk; exact (Option.some.inj hk).symm) hu1.size
    refine WL.cons rfl (st_assign us ?_)
    refine WL.nil ?_
    refine W.gen ?_; intro ρ4 hρ
    have q2 := (hρ 2).trans us
    clear hρ r0 r4
    have r2 := q2; clear q2
    refine W.ret ?_
    refine fin1 r2 ?_
    exact ⟨by simpa using hou.base hu1.size, hu⟩

/-- slices.Clone towline links.queue,  byte  -/
theorem cloneq_ok {S : Nat → Prop} {v : Value} {n : Nat} {cs : List Value} (w : World) (hv : SlV S w v n 1 cs) (h1 : ∀ c ∈ cs, c.oneCell' = true) (hn : n ≤ 1000000000) : Does Try.prog 47 #[v] w (fun v' w' => Own w.heap.size w' 30 1 v' n cs ∧ Up w w') := by
  obtain ⟨o, cap, hv0, hl, hc⟩ := hv
  refine fn_of_W (rs := [2]) (N := 8) Try.func47 rfl rfl rfl (by simp) ?_
  intro ρ0 hρ0
  have r0 : ev ρ0 (.tmp 0) = v := hρ0 0
  clear hρ0
  have hu := Up.refl w
  subst hv0
  refine W.seqR ?_
  refine WL.cons rfl (st_assign uc ?_)
  refine WL.nil ?_
  refine W.gen ?_; intro ρ1 hρ
  have q0 := (hρ 0).trans (un r0)
  clear hρ r0
  have r0 := q0; clear q0
  refine W.seq ?_
  refine W.seqR ?_
  refine WL.cons rfl (st_move r0 ?_)
  refine WL.cons rfl (st_eqlS0 us uc Try.underlying78 ?_)
  refine WL.nil ?_
  refine W.gen ?_; intro ρ2 hρ
  have q0 := (hρ 0).trans (un (un r0)); have q4 := (hρ 4).trans us
  clear hρ r0
  have r0 := q0; clear q0; have r4 := q4; clear q4
  refine W.cond r4 (fun hc1 => ?_) (fun hc1 => ?_)
  · skip
    try simp only [tests] at hc1
    have ho : o = none := by cases o <;> simp_all
    refine W.seqR ?_
    refine WL.cons rfl (st_assign uc ?_)
    refine WL.nil ?_
    refine W.gen ?_; intro ρ3 hρ
    have q2 := (hρ 2).trans us
    clear hρ r0 r4
    have r2 := q2; clear q2
    refine W.ret ?_
    refine fin1 r2 ?_
    have hn0 : n = 0 := by
      rcases Nat.eq_zero_or_pos n with h | h
      · exact h
      · obtain ⟨b, off, e, _⟩ := hc h; rw [ho] at e; cases e
    subst hn0
    exact ⟨⟨hl, .inl ⟨rfl, rfl⟩⟩, hu⟩
  · skip
    try simp only [tests] at hc1
    refine W.skip ?_
    refine W.seqR ?_
    refine WL.cons rfl (st_empty Try.underlying78 Try.sizeOf30 ?_)
    intro ve w1 hve _ hoe ue; have hu1 := hu; replace hu := hu.trans ue
    refine WL.cons rfl (st_move (un r0) ?_)
    refine WL.cons rfl (st_append (un us) us Try.underlying78 info30 rfl (by omega) hoe (show SlV S _ (.slice o n cap) n 1 cs from SlV.up ⟨o, cap, rfl, hl, hc⟩ hu) h1 (by omega) (by omega) hu.size ?_)
    intro u w2 hou hfr _ _
    replace hu : Up w w2 := Up.local hu (hfr.mono fun k _ hk => by rw [hve] at hk; exact (Option.some.inj hk).symm) hu1.size
    refine WL.cons rfl (st_assign us ?_)
    refine WL.nil ?_
    refine W.gen ?_; intro ρ4 hρ
    have q2 := (hρ 2).trans us
    clear hρ r0 r4
    have r2 := q2; clear q2
    refine W.ret ?_
    refine fin1 r2 ?_
    exact ⟨by simpa using hou.base hu1.size, hu⟩

/-- (*towline links.Net).able -/
theorem able_ok1 {S : Nat → Prop} {s : NetS} {bn bm : Nat} (w : World) (h : NetR S w bn bm s) (l : Lk) (i : Int) (hf : fitsL l = false) : Does Try.prog 35 #[.pointer (some ⟨bn, 0, none⟩), ekL l, .int .i64 i] w (fun v w' => v = .int .i64 (if s.able l i = true then 0 else 40) ∧ Up w w') := by
  refine fn_of_W (rs := [6]) (N := 29) Try.func35 rfl rfl rfl (by simp) ?_
  intro ρ0 hρ0
  have r0 : ev ρ0 (.tmp 0) = .pointer (some ⟨bn, 0, none⟩) := hρ0 0
  have r1 : ev ρ0 (.tmp 1) = ekL l := hρ0 1
  have r2 : ev ρ0 (.tmp 2) = .int .i64 i := hρ0 2
  clear hρ0
  have hu := Up.refl w
  refine W.seqR ?_
  refine WL.cons rfl (st_box r1 ?_)
  intro b4 w1 m4; have B4 := m4.blk
  replace h := h.up m4.up
  replace hu := hu.trans m4.up
  refine WL.cons rfl (st_assign uc ?_)
  refine WL.nil ?_
  refine W.gen ?_; intro ρ1 hρ
  have q0 := (hρ 0).trans (un (un r0)); have q2 := (hρ 2).trans (un (un r2)); have q4 := (hρ 4).trans (un us)
  clear hρ r0 r1 r2
  have r0 := q0; clear q0; have r2 := q2; clear q2; have r4 := q4; clear q4
  refine W.seq ?_
  refine W.block ?_
  refine W.seqR ?_
  refine WL.cons rfl (st_move r0 ?_)
  refine WL.cons rfl (st_call1 ent36 us (((dead_ok _ h)).mono ?_))
  intro vd w2 ⟨hvd, ud⟩; subst hvd
  replace h := h.up ud
  replace B4 := B4.up ud
  replace hu := hu.trans ud
  refine WL.cons rfl (st_assign us ?_)
  refine WL.nil ?_
  refine W.gen ?_; intro ρ2 hρ
  have q0 := (hρ 0).trans (un (un (un r0))); have q2 := (hρ 2).trans (un (un (un r2))); have q4 := (hρ 4).trans (un (un (un r4))); have q7 := (hρ 7).trans us
  clear hρ r0 r2 r4
  have r0 := q0; clear q0; have r2 := q2; clear q2; have r4 := q4; clear q4; have r7 := q7; clear q7
  refine W.condF r7 (rfl) ?_
  refine W.quietR mixed 19 (by kernel_rfl) ?_
  refine WQ.cons (fun w' hq => st_loadK Try.isAgg29 Try.sizeOf29 r4 (cells2 ((B4.up hq).cell rfl) ((B4.up hq).cell rfl)) rfl ⟨rfl, Up.refl _⟩) ?_
  refine WQ.cons (fun w' hq => by
      refine st_call1 ent46 us (((fitsl_ok l _)).mono ?_); exact fun v w2 hv => hv) ?_
  refine WQ.cons (fun w' hq => st_not us ⟨rfl, Up.refl _⟩) ?_
  refine WQ.cons (fun w' hq => st_move us ⟨rfl, Up.refl _⟩) ?_
  refine WQ.guardN rfl us (by simp [*]) ?_
  refine WQ.guardN rfl (un us) (by simp [*]) ?_
  refine WQ.cons (fun w' hq => st_pick (un (un us)) (fun _ => uc) (fun e => by simp [hf] at e) ⟨rfl, Up.refl _⟩) ?_
  refine WQ.cons (fun w' hq => st_move us ⟨rfl, Up.refl _⟩) ?_
  refine WQ.guardN rfl us (by simp [*]) ?_
  refine WQ.guardN rfl (un us) (by simp [*]) ?_
  refine WQ.guardN rfl (un (un us)) (by simp [*]) ?_
  refine WQ.guardN rfl (un (un (un us))) (by simp [*]) ?_
  refine WQ.guardN rfl (un (un (un (un us)))) (by simp [*]) ?_
  refine WQ.guardN rfl (un (un (un (un (un us))))) (by simp [*]) ?_
  refine WQ.guardN rfl (un (un (un (un (un (un us)))))) (by simp [*]) ?_
  refine WQ.guardN rfl (un (un (un (un (un (un (un us))))))) (by simp [*]) ?_
  refine WQ.guardN rfl (un (un (un (un (un (un (un (un us)))))))) (by simp [*]) ?_
  refine WQ.cons (fun w' hq => st_pick (un (un (un (un (un (un (un (un (un us))))))))) (fun _ => uc) (fun e => by cases e) ⟨rfl, Up.refl _⟩) ?_
  refine WQ.cons (fun w' hq => st_assign us ⟨rfl, Up.refl _⟩) ?_
  refine WQ.nil ?_
  intro w3 hq3
  replace h := h.up hq3
  replace B4 := B4.up hq3
  replace hu := hu.trans hq3
  refine WL.nil ?_
  refine W.gen ?_; intro ρ3 hρ
  have q10 := (hρ 10).trans us
  clear hρ r0 r2 r4 r7
  have r10 := q10; clear q10
  refine W.condT r10 (rfl) ?_
  refine W.seqR ?_
  refine WL.cons rfl (st_assign uc ?_)
  refine WL.nil ?_
  refine W.gen ?_; intro ρ4 hρ
  have q6 := (hρ 6).trans us
  clear hρ r10
  have r6 := q6; clear q6
  refine W.ret ?_
  refine fin1 r6 ?_
  exact ⟨by simp [NetS.able, hf], hu⟩

/-- (*towline links.Net).able -/
theorem able_ok2 {S : Nat → Prop} {s : NetS} {bn bm : Nat} (w : World) (h : NetR S w bn bm s) (l : Lk) (i : Int) (hf : fitsL l = true) (hi : i < 0) : Does Try.prog 35 #[.pointer (some ⟨bn, 0, none⟩), ekL l, .int .i64 i] w (fun v w' => v = .int .i64 (if s.able l i = true then 0 else 40) ∧ Up w w') := by
  refine fn_of_W (rs := [6]) (N := 29) Try.func35 rfl rfl rfl (by simp) ?_
  intro ρ0 hρ0
  have r0 : ev ρ0 (.tmp 0) = .pointer (some ⟨bn, 0, none⟩) := hρ0 0
  have r1 : ev ρ0 (.tmp 1) = ekL l := hρ0 1
  have r2 : ev ρ0 (.tmp 2) = .int .i64 i := hρ0 2
  clear hρ0
  have hu := Up.refl w
  refine W.seqR ?_
  refine WL.cons rfl (st_box r1 ?_)
  intro b4 w1 m4; have B4 := m4.blk
  replace h := h.up m4.up
  replace hu := hu.trans m4.up
  refine WL.cons rfl (st_assign uc ?_)
  refine WL.nil ?_
  refine W.gen ?_; intro ρ1 hρ
  have q0 := (hρ 0).trans (un (un r0)); have q2 := (hρ 2).trans (un (un r2)); have q4 := (hρ 4).trans (un us)
  clear hρ r0 r1 r2
  have r0 := q0; clear q0; have r2 := q2; clear q2; have r4 := q4; clear q4
  refine W.seq ?_
  refine W.block ?_
  refine W.seqR ?_
  refine WL.cons rfl (st_move r0 ?_)
  refine WL.cons rfl (st_call1 ent36 us (((dead_ok _ h)).mono ?_))
  intro vd w2 ⟨hvd, ud⟩; subst hvd
  replace h := h.up ud
  replace B4 := B4.up ud
  replace hu := hu.trans ud
  refine WL.cons rfl (st_assign us ?_)
  refine WL.nil ?_
  refine W.gen ?_; intro ρ2 hρ
  have q0 := (hρ 0).trans (un (un (un r0))); have q2 := (hρ 2).trans (un (un (un r2))); have q4 := (hρ 4).trans (un (un (un r4))); have q7 := (hρ 7).trans us
  clear hρ r0 r2 r4
  have r0 := q0; clear q0; have r2 := q2; clear q2; have r4 := q4; clear q4; have r7 := q7; clear q7
  refine W.condF r7 (rfl) ?_
  refine W.quietR mixed 19 (by kernel_rfl) ?_
  refine WQ.cons (fun w' hq => st_loadK Try.isAgg29 Try.sizeOf29 r4 (cells2 ((B4.up hq).cell rfl) ((B4.up hq).cell rfl)) rfl ⟨rfl, Up.refl _⟩) ?_
  refine WQ.cons (fun w' hq => by
      refine st_call1 ent46 us (((fitsl_ok l _)).mono ?_); exact fun v w2 hv => hv) ?_
  refine WQ.cons (fun w' hq => st_not us ⟨rfl, Up.refl _⟩) ?_
  refine WQ.cons (fun w' hq => st_move us ⟨rfl, Up.refl _⟩) ?_
  refine WQ.guardY rfl us (by simp [*]) (fun w' hq => st_move (un (un (un (un r2)))) ⟨rfl, Up.refl _⟩) ?_
  refine WQ.guardY rfl (un us) (by simp [*]) (fun w' hq => st_lss us uc ⟨rfl, Up.refl _⟩) ?_
  refine WQ.cons (fun w' hq => st_or (un (un us)) (fun _ => us) uc ⟨rfl, Up.refl _⟩) ?_
  refine WQ.cons (fun w' hq => st_move us ⟨rfl, Up.refl _⟩) ?_
  refine WQ.guardN rfl us (by simp [*]) ?_
  refine WQ.guardN rfl (un us) (by simp [*]) ?_
  refine WQ.guardN rfl (un (un us)) (by simp [*]) ?_
  refine WQ.guardN rfl (un (un (un us))) (by simp [*]) ?_
  refine WQ.guardN rfl (un (un (un (un us)))) (by simp [*]) ?_
  refine WQ.guardN rfl (un (un (un (un (un us))))) (by simp [*]) ?_
  refine WQ.guardN rfl (un (un (un (un (un (un us)))))) (by simp [*]) ?_
  refine WQ.guardN rfl (un (un (un (un (un (un (un us))))))) (by simp [*]) ?_
  refine WQ.guardN rfl (un (un (un (un (un (un (un (un us)))))))) (by simp [*]) ?_
  refine WQ.cons (fun w' hq => st_pick (un (un (un (un (un (un (un (un (un us))))))))) (fun _ => uc) (fun e => by simp [hf] at e; omega) ⟨rfl, Up.refl _⟩) ?_
  refine WQ.cons (fun w' hq => st_assign us ⟨rfl, Up.refl _⟩) ?_
  refine WQ.nil ?_
  intro w3 hq3
  replace h := h.up hq3
  replace B4 := B4.up hq3
  replace hu := hu.trans hq3
  refine WL.nil ?_
  refine W.gen ?_; intro ρ3 hρ
  have q10 := (hρ 10).trans us
  clear hρ r0 r2 r4 r7
  have r10 := q10; clear q10
  refine W.condT r10 (rfl) ?_
  refine W.seqR ?_
  refine WL.cons rfl (st_assign uc ?_)
  refine WL.nil ?_
  refine W.gen ?_; intro ρ4 hρ
  have q6 := (hρ 6).trans us
  clear hρ r10
  have r6 := q6; clear q6
  refine W.ret ?_
  refine fin1 r6 ?_
  exact ⟨by simp [NetS.able, show ¬ (0 ≤ i) by omega], hu⟩

/-- (*towline links.Net).able -/
theorem able_ok3 {S : Nat → Prop} {s : NetS} {bn bm : Nat} (w : World) (h : NetR S w bn bm s) (l : Lk) (i : Int) (hf : fitsL l = true) (hi : 0 ≤ i) : Does Try.prog 35 #[.pointer (some ⟨bn, 0, none⟩), ekL l, .int .i64 i] w (fun v w' => v = .int .i64 (if s.able l i = true then 0 else 40) ∧ Up w w') := by
  refine fn_of_W (rs := [6]) (N := 29) Try.func35 rfl rfl rfl (by simp) ?_
  intro ρ0 hρ0
  have r0 : ev ρ0 (.tmp 0) = .pointer (some ⟨bn, 0, none⟩) := hρ0 0
  have r1 : ev ρ0 (.tmp 1) = ekL l := hρ0 1
  have r2 : ev ρ0 (.tmp 2) = .int .i64 i := hρ0 2
  clear hρ0
  have hu := Up.refl w
  refine W.seqR ?_
  refine WL.cons rfl (st_box r1 ?_)
  intro b4 w1 m4; have B4 := m4.blk
  replace h := h.up m4.up
  replace hu := hu.trans m4.up
  refine WL.cons rfl (st_assign uc ?_)
  refine WL.nil ?_
  refine W.gen ?_; intro ρ1 hρ
  have q0 := (hρ 0).trans (un (un r0)); have q2 := (hρ 2).trans (un (un r2)); have q4 := (hρ 4).trans (un us)
  clear hρ r0 r1 r2
  have r0 := q0; clear q0; have r2 := q2; clear q2; have r4 := q4; clear q4
  refine W.seq ?_
  refine W.block ?_
  refine W.seqR ?_
  refine WL.cons rfl (st_move r0 ?_)
  refine WL.cons rfl (st_call1 ent36 us (((dead_ok _ h)).mono ?_))
  intro vd w2 ⟨hvd, ud⟩; subst hvd
  replace h := h.up ud
  replace B4 := B4.up ud
  replace hu := hu.trans ud
  refine WL.cons rfl (st_assign us ?_)
  refine WL.nil ?_
  refine W.gen ?_; intro ρ2 hρ
  have q0 := (hρ 0).trans (un (un (un r0))); have q2 := (hρ 2).trans (un (un (un r2))); have q4 := (hρ 4).trans (un (un (un r4))); have q7 := (hρ 7).trans us
  clear hρ r0 r2 r4
  have r0 := q0; clear q0; have r2 := q2; clear q2; have r4 := q4; clear q4; have r7 := q7; clear q7
  refine W.condF r7 (rfl) ?_
  obtain ⟨vq, hvq, hlk⟩ := h.look l
  obtain ⟨qo, qc, rfl⟩ := hvq.len
  refine W.quietR mixed 19 (by kernel_rfl) ?_
  refine WQ.cons (fun w' hq => st_loadK Try.isAgg29 Try.sizeOf29 r4 (cells2 ((B4.up hq).cell rfl) ((B4.up hq).cell rfl)) rfl ⟨rfl, Up.refl _⟩) ?_
  refine WQ.cons (fun w' hq => by
      refine st_call1 ent46 us (((fitsl_ok l _)).mono ?_); exact fun v w2 hv => hv) ?_
  refine WQ.cons (fun w' hq => st_not us ⟨rfl, Up.refl _⟩) ?_
  refine WQ.cons (fun w' hq => st_move us ⟨rfl, Up.refl _⟩) ?_
  refine WQ.guardY rfl us (by simp [*]) (fun w' hq => st_move (un (un (un (un r2)))) ⟨rfl, Up.refl _⟩) ?_
  refine WQ.guardY rfl (un us) (by simp [*]) (fun w' hq => st_lss us uc ⟨rfl, Up.refl _⟩) ?_
  refine WQ.cons (fun w' hq => st_or (un (un us)) (fun _ => us) uc ⟨rfl, Up.refl _⟩) ?_
  refine WQ.cons (fun w' hq => st_move us ⟨rfl, Up.refl _⟩) ?_
  refine WQ.guardY rfl us (by simp [hf]; omega) (fun w' hq => st_move (un (un (un (un (un (un (un (un r2)))))))) ⟨rfl, Up.refl _⟩) ?_
  refine WQ.guardY rfl (un us) (by simp [hf]; omega) (fun w' hq => st_move (un (un (un (un (un (un (un (un (un r0))))))))) ⟨rfl, Up.refl _⟩) ?_
  refine WQ.guardY rfl (un (un us)) (by simp [hf]; omega) (fun w' hq => st_nilCheck us ⟨rfl, Up.refl _⟩) ?_
  refine WQ.guardY rfl (un (un (un us))) (by simp [hf]; omega) (fun w' hq => st_fieldAddr (f := 0) (k := 0) us Try.underlying64 rfl rfl Try.sizeOf61 ⟨rfl, Up.refl _⟩) ?_
  refine WQ.guardY rfl (un (un (un (un us)))) (by simp [hf]; omega) (fun w' hq => st_load1 Try.isAgg61 us ((h.up hq).blk.cell rfl) ⟨rfl, Up.refl _⟩) ?_
  refine WQ.guardY rfl (un (un (un (un (un us))))) (by simp [hf]; omega) (fun w' hq => st_loadK Try.isAgg29 Try.sizeOf29 (un (un (un (un (un (un (un (un (un (un (un (un (un r4))))))))))))) (cells2 ((B4.up hq).cell rfl) ((B4.up hq).cell rfl)) rfl ⟨rfl, Up.refl _⟩) ?_
  refine WQ.guardY rfl (un (un (un (un (un (un us)))))) (by simp [hf]; omega) (fun w' hq => st_look (un us) us (hlk _ hq) ⟨rfl, Up.refl _⟩) ?_
  refine WQ.guardY rfl (un (un (un (un (un (un (un us))))))) (by simp [hf]; omega) (fun w' hq => st_lenS us Try.underlying78 ⟨rfl, Up.refl _⟩) ?_
  refine WQ.guardY rfl (un (un (un (un (un (un (un (un us)))))))) (by simp [hf]; omega) (fun w' hq => st_geq (un (un (un (un (un (un (un us))))))) us ⟨rfl, Up.refl _⟩) ?_
  refine WQ.cons (fun w' hq => st_or (un (un (un (un (un (un (un (un (un us))))))))) (fun _ => us) uc ⟨rfl, Up.refl _⟩) ?_
  refine WQ.cons (fun w' hq => st_assign us ⟨rfl, Up.refl _⟩) ?_
  refine WQ.nil ?_
  intro w3 hq3
  replace h := h.up hq3
  replace B4 := B4.up hq3
  replace hu := hu.trans hq3
  refine WL.nil ?_
  refine W.gen ?_; intro ρ3 hρ
  have q10 := (hρ 10).trans us
  clear hρ r0 r2 r4 r7
  have r10 := q10; clear q10
  refine W.cond r10 (fun hc3 => ?_) (fun hc3 => ?_)
  · skip
    try simp only [tests] at hc3
    refine W.seqR ?_
    refine WL.cons rfl (st_assign uc ?_)
    refine WL.nil ?_
    refine W.gen ?_; intro ρ4 hρ
    have q6 := (hρ 6).trans us
    clear hρ r10
    have r6 := q6; clear q6
    refine W.ret ?_
    refine fin1 r6 ?_
    simp [hf] at hc3; exact ⟨by simp [NetS.able]; omega, hu⟩
  · skip
    try simp only [tests] at hc3
    refine W.skip ?_
    refine W.seqR ?_
    refine WL.cons rfl (st_assign uc ?_)
    refine WL.nil ?_
    refine W.gen ?_; intro ρ5 hρ
    have q6 := (hρ 6).trans us
    clear hρ r10
    have r6 := q6; clear q6
    refine W.ret ?_
    refine fin1 r6 ?_
    simp [hf] at hc3; exact ⟨by simp [NetS.able, hf]; omega, hu⟩

theorem able_ok {S : Nat → Prop} {s : NetS} {bn bm : Nat} (w : World) (h : NetR S w bn bm s) (l : Lk) (i : Int) : Does Try.prog 35 #[.pointer (some ⟨bn, 0, none⟩), ekL l, .int .i64 i] w (fun v w' => v = .int .i64 (if s.able l i = true then 0 else 40) ∧ Up w w') := by
  cases hf : fitsL l
  · exact able_ok1 w h l i hf
  · by_cases hi : i < 0
    · exact able_ok2 w h l i hf hi
    · exact able_ok3 w h l i hf (by omega)

end Go.Proofs.Ytppohfgaegahoaa
