/- Walks of what only reads a Net, and of what makes one. -/
import Derived.Test.YtppohfgaegahoaaLa
import Derived.Test.YtppohfgaegahoaaLb
namespace Go.Proofs.Ytppohfgaegahoaa
open Go.Tw Go.RowKit
attribute [local irreducible] Step WL W WQ Does

theorem fitsl_ok (l : Lk) (w : World) : Does Try.prog 46 #[ekL l] w (fun v w' => v = .bool (fitsL l) ∧ Up w w') := fits_ok l.1 l.2 w

/-- (*towline links.Net).dead -/
theorem dead_ok {S : Nat → Prop} {s : NetS} {bn bm : Nat} (w : World) (h : NetR S w bn bm s) : Does Try.prog 36 #[.pointer (some ⟨bn, 0, none⟩)] w (fun v w' => v = .bool false ∧ Up w w') := by
  refine fn_of_W (rs := [2]) (N := 12) Try.func36 rfl rfl rfl (by simp) ?_
  intro ρ0 hρ0
  have r0 : ev ρ0 (.tmp 0) = .pointer (some ⟨bn, 0, none⟩) := hρ0 0
  clear hρ0
  have hu := Up.refl w
  refine W.seqR ?_
  refine WL.cons rfl (st_assign uc ?_)
  refine WL.nil ?_
  refine W.gen ?_; intro ρ1 hρ
  have q0 := (hρ 0).trans (un r0)
  clear hρ r0
  have r0 := q0; clear q0
  refine W.seqR ?_
  refine WL.cons rfl (st_move r0 ?_)
  refine WL.cons rfl (st_eqlP0 us uc Try.underlying25 ?_)
  refine WL.cons rfl (st_move us ?_)
  apply WL.seg0 5 (t := 5) (x := 10) (want := false) us rfl
  · intro hg5
    refine WL.guardY rfl (us.trans (by rw [hg5])) rfl (st_move (un (un (un r0))) ?_)
    refine WL.guardY rfl ((un us).trans (by rw [hg5])) rfl (st_nilCheck us ?_)
    refine WL.guardY rfl ((un (un us)).trans (by rw [hg5])) rfl (st_fieldAddr (f := 3) (k := 0) us Try.underlying64 rfl rfl Try.sizeOf4 ?_)
    refine WL.guardY rfl ((un (un (un us))).trans (by rw [hg5])) rfl (st_load1 Try.isAgg4 us (h.blk.cell rfl) ?_)
    refine WL.guardY rfl ((un (un (un (un us)))).trans (by rw [hg5])) rfl (st_not us ?_)
    exact WL.nil ⟨(ag (ag (ag (ag (ag ag0))))), us, rfl⟩
  intro ρ2 hag hx5
  have q5 := (hag 5 rfl).trans us
  clear hag r0
  have r5 := q5; clear q5
  refine WL.cons rfl (st_or r5 hx5 uc ?_)
  refine WL.cons rfl (st_assign us ?_)
  refine WL.nil ?_
  refine W.gen ?_; intro ρ3 hρ
  have q2 := (hρ 2).trans us
  clear hρ r5
  have r2 := q2; clear q2
  refine W.ret ?_
  refine fin1 r2 ?_
  exact ⟨rfl, hu⟩

/-- (*towline links.Net).Lost -/
theorem lost_ok {S : Nat → Prop} {s : NetS} {bn bm : Nat} (w : World) (h : NetR S w bn bm s) : Does Try.prog 20 #[.pointer (some ⟨bn, 0, none⟩)] w (fun v w' => v = .int .i64 s.lost ∧ Up w w') := by
  refine fn_of_W (rs := [2]) (N := 9) Try.func20 rfl rfl rfl (by simp) ?_
  intro ρ0 hρ0
  have r0 : ev ρ0 (.tmp 0) = .pointer (some ⟨bn, 0, none⟩) := hρ0 0
  clear hρ0
  have hu := Up.refl w
  refine W.seqR ?_
  refine WL.cons rfl (st_assign uc ?_)
  refine WL.nil ?_
  refine W.gen ?_; intro ρ1 hρ
  have q0 := (hρ 0).trans (un r0)
  clear hρ r0
  have r0 := q0; clear q0
  refine W.seq ?_
  refine W.seqR ?_
  refine WL.cons rfl (st_move r0 ?_)
  refine WL.cons rfl (st_call1 ent36 us (((dead_ok _ h)).mono ?_))
  intro vd w1 ⟨hvd, ud⟩; subst hvd
  replace h := h.up ud
  replace hu := hu.trans ud
  refine WL.nil ?_
  refine W.gen ?_; intro ρ2 hρ
  have q0 := (hρ 0).trans (un (un r0)); have q4 := (hρ 4).trans us
  clear hρ r0
  have r0 := q0; clear q0; have r4 := q4; clear q4
  refine W.condF r4 (rfl) ?_
  refine W.skip ?_
  refine W.seqR ?_
  refine WL.cons rfl (st_move r0 ?_)
  refine WL.cons rfl (st_nilCheck us ?_)
  refine WL.cons rfl (st_fieldAddr (f := 2) (k := 0) us Try.underlying64 rfl rfl Try.sizeOf3 ?_)
  refine WL.cons rfl (st_load1 Try.isAgg3 us (h.blk.cell rfl) ?_)
  refine WL.cons rfl (st_assign us ?_)
  refine WL.nil ?_
  refine W.gen ?_; intro ρ3 hρ
  have q2 := (hρ 2).trans us
  clear hρ r0 r4
  have r2 := q2; clear q2
  refine W.ret ?_
  refine fin1 r2 ?_
  exact ⟨rfl, hu⟩

/-- (*towline links.Net).Len -/
theorem len_ok {S : Nat → Prop} {s : NetS} {bn bm : Nat} (w : World) (h : NetR S w bn bm s) (l : Lk) : Does Try.prog 16 #[.pointer (some ⟨bn, 0, none⟩), ekL l] w (fun v w' => v = .int .i64 (s.q l).length ∧ Up w w') := by
  refine fn_of_W (rs := [4]) (N := 14) Try.func16 rfl rfl rfl (by simp) ?_
  intro ρ0 hρ0
  have r0 : ev ρ0 (.tmp 0) = .pointer (some ⟨bn, 0, none⟩) := hρ0 0
  have r1 : ev ρ0 (.tmp 1) = ekL l := hρ0 1
  clear hρ0
  have hu := Up.refl w
  refine W.seqR ?_
  refine WL.cons rfl (st_box r1 ?_)
  intro b3 w1 m3; have B3 := m3.blk
  replace h := h.up m3.up
  replace hu := hu.trans m3.up
  refine WL.cons rfl (st_assign uc ?_)
  refine WL.nil ?_
  refine W.gen ?_; intro ρ1 hρ
  have q0 := (hρ 0).trans (un (un r0)); have q3 := (hρ 3).trans (un us)
  clear hρ r0 r1
  have r0 := q0; clear q0; have r3 := q3; clear q3
  refine W.seq ?_
  refine W.seqR ?_
  refine WL.cons rfl (st_move r0 ?_)
  refine WL.cons rfl (st_call1 ent36 us (((dead_ok _ h)).mono ?_))
  intro vd w2 ⟨hvd, ud⟩; subst hvd
  replace h := h.up ud
  replace B3 := B3.up ud
  replace hu := hu.trans ud
  refine WL.nil ?_
  refine W.gen ?_; intro ρ2 hρ
  have q0 := (hρ 0).trans (un (un r0)); have q3 := (hρ 3).trans (un (un r3)); have q6 := (hρ 6).trans us
  clear hρ r0 r3
  have r0 := q0; clear q0; have r3 := q3; clear q3; have r6 := q6; clear q6
  refine W.condF r6 (rfl) ?_
  refine W.skip ?_
  obtain ⟨vq, hvq, hlk⟩ := h.look l
  obtain ⟨qo, qc, rfl⟩ := hvq.len
  refine W.quietR mixed 8 (by kernel_rfl) ?_
  refine WQ.cons (fun w' hq => st_move r0 ⟨rfl, Up.refl _⟩) ?_
  refine WQ.cons (fun w' hq => st_nilCheck us ⟨rfl, Up.refl _⟩) ?_
  refine WQ.cons (fun w' hq => st_fieldAddr (f := 0) (k := 0) us Try.underlying64 rfl rfl Try.sizeOf61 ⟨rfl, Up.refl _⟩) ?_
  refine WQ.cons (fun w' hq => st_load1 Try.isAgg61 us ((h.up hq).blk.cell rfl) ⟨rfl, Up.refl _⟩) ?_
  refine WQ.cons (fun w' hq => st_loadK Try.isAgg29 Try.sizeOf29 (un (un (un (un r3)))) (cells2 ((B3.up hq).cell rfl) ((B3.up hq).cell rfl)) rfl ⟨rfl, Up.refl _⟩) ?_
  refine WQ.cons (fun w' hq => st_look (un us) us (hlk _ hq) ⟨rfl, Up.refl _⟩) ?_
  refine WQ.cons (fun w' hq => st_lenS us Try.underlying78 ⟨rfl, Up.refl _⟩) ?_
  refine WQ.cons (fun w' hq => st_assign us ⟨rfl, Up.refl _⟩) ?_
  refine WQ.nil ?_
  intro w3 hq3
  replace h := h.up hq3
  replace B3 := B3.up hq3
  replace hu := hu.trans hq3
  refine WL.nil ?_
  refine W.gen ?_; intro ρ3 hρ
  have q4 := (hρ 4).trans us
  clear hρ r0 r3 r6
  have r4 := q4; clear q4
  refine W.ret ?_
  refine fin1 r4 ?_
  exact ⟨rfl, hu⟩

/-- (*towline links.Net).Wall -/
theorem wall_ok {S : Nat → Prop} {s : NetS} {bn bm : Nat} (w : World) (h : NetR S w bn bm s) (x : Int) : Does Try.prog 30 #[.pointer (some ⟨bn, 0, none⟩), .int .u64 x] w (fun v w' => v = .int .i64 0 ∧ NetTo S w w' bn bm { s with side := x }) := by
  refine fn_of_W (rs := [4]) (N := 11) Try.func30 rfl rfl rfl (by simp) ?_
  intro ρ0 hρ0
  have r0 : ev ρ0 (.tmp 0) = .pointer (some ⟨bn, 0, none⟩) := hρ0 0
  have r1 : ev ρ0 (.tmp 1) = .int .u64 x := hρ0 1
  clear hρ0
  have hu := Up.refl w
  refine W.seqR ?_
  refine WL.cons rfl (st_assign uc ?_)
  refine WL.nil ?_
  refine W.gen ?_; intro ρ1 hρ
  have q0 := (hρ 0).trans (un r0); have q1 := (hρ 1).trans (un r1)
  clear hρ r0 r1
  have r0 := q0; clear q0; have r1 := q1; clear q1
  refine W.seq ?_
  refine W.seqR ?_
  refine WL.cons rfl (st_move r0 ?_)
  refine WL.cons rfl (st_call1 ent36 us (((dead_ok _ h)).mono ?_))
  intro vd w1 ⟨hvd, ud⟩; subst hvd
  replace h := h.up ud
  replace hu := hu.trans ud
  refine WL.nil ?_
  refine W.gen ?_; intro ρ2 hρ
  have q0 := (hρ 0).trans (un (un r0)); have q1 := (hρ 1).trans (un (un r1)); have q6 := (hρ 6).trans us
  clear hρ r0 r1
  have r0 := q0; clear q0; have r1 := q1; clear q1; have r6 := q6; clear q6
  refine W.condF r6 (rfl) ?_
  refine W.skip ?_
  refine W.seqR ?_
  refine WL.cons rfl (st_move r0 ?_)
  refine WL.cons rfl (st_move (un r1) ?_)
  refine WL.cons rfl (st_nilCheck (un us) ?_)
  refine WL.cons rfl (st_fieldAddr (f := 1) (k := 0) us Try.underlying64 rfl rfl Try.sizeOf62 ?_)
  refine WL.cons rfl (st_store us (un (un us)) Try.sizeOf62 rfl h.blk (by simp) (by simp [Value.cells, Value.oneCell']) rfl ?_)
  intro w2 hb hf hsz
  have ht : NetTo S w w2 bn bm { s with side := x } := NetTo.ahead hu ⟨hf.mono fun k _ hk => .inl hk, S, ⟨hb, h.map.frm hf h.ne.symm fun _ _ hq => hq.frm hf fun b hb => (h.old b hb).2.1, fun b hb => let ⟨h1, h2⟩ := h.old b hb; ⟨Nat.lt_of_lt_of_le h1 hf.size, h2⟩⟩, fun _ h => .inl h⟩
  clear hu h hb hf hsz
  refine WL.nil ?_
  refine W.gen ?_; intro ρ3 hρ
  clear hρ r0 r1 r6
  refine W.seqR ?_
  refine WL.cons rfl (st_assign uc ?_)
  refine WL.nil ?_
  refine W.gen ?_; intro ρ4 hρ
  have q4 := (hρ 4).trans us
  clear hρ
  have r4 := q4; clear q4
  refine W.ret ?_
  refine fin1 r4 ?_
  exact ⟨rfl, ht⟩

/-- towline links.New -/
theorem new_ok (w : World) : Does Try.prog 12 #[] w (fun v w' => ∃ bn bm, v = .pointer (some ⟨bn, 0, none⟩) ∧ w.heap.size ≤ bn ∧ w.heap.size ≤ bm ∧ Up w w' ∧ NetR (fun _ => False) w' bn bm ⟨[], 0, 0⟩) := by
  refine fn_of_W (rs := [0]) (N := 4) Try.func12 rfl rfl rfl (by simp) ?_
  intro ρ0 hρ0
  clear hρ0
  have hu := Up.refl w
  refine W.seqR ?_
  refine WL.cons rfl (st_assign uc ?_)
  refine WL.nil ?_
  refine W.gen ?_; intro ρ1 hρ
  clear hρ
  refine W.seqR ?_
  refine WL.cons rfl (st_makeMap ?_)
  intro bm w1 mm; replace hu := hu.trans mm.up; have hmm := mm.blk; have hms := mm.size; have hma := mm.at_
  refine WL.cons rfl (st_buildP2 (v := .agg #[.map (some bm), .int .u64 0, .int .i64 0, .bool true]) us uc (fun w => by kernel_rfl) ?_)
  refine WL.cons rfl (st_box us ?_)
  intro b3 w2 m3; have B3 := m3.blk
  replace hu := hu.trans m3.up
  replace hmm := hmm.up m3.up
  refine WL.cons rfl (st_assign us ?_)
  refine WL.nil ?_
  refine W.gen ?_; intro ρ2 hρ
  have q0 := (hρ 0).trans us
  clear hρ
  have r0 := q0; clear q0
  refine W.ret ?_
  refine fin1 r0 ?_
  exact ⟨b3, bm, rfl, by have := m3.at_; have := mm.up.size; omega, by have := mm.at_; omega, hu, B3, MapR.made hmm, fun _ h => h.elim⟩

end Go.Proofs.Ytppohfgaegahoaa
