/- Walks: an element is cut out of a slice; Peek, cut, Lose, Take. -/
import Derived.Test.YtppohfgaegahoaaLd
namespace Go.Proofs.Ytppohfgaegahoaa
open Go.Tw Go.RowKit
attribute [local irreducible] Step WL W WQ Does

/-- slices.Delete towline links.queue,  byte  -/
theorem delete_ok {base : Nat} {v : Value} {n : Nat} {xs : List Value} (w : World) (hv : Own base w 30 1 v n xs) (h1 : ∀ c ∈ xs, c.oneCell' = true) (i : Int) (hi : 0 ≤ i) (hin : i < n) (hn : n ≤ 1000000000) : Does Try.prog 54 #[v, .int .i64 i, .int .i64 (i + 1)] w (fun v' w' => Own base w' 30 1 v' (n - 1) (xs.eraseIdx i.toNat) ∧ Frm (fun k => v.ownBlock = some k) w w') := by
  obtain ⟨o, cap, hv0, hcap, ho⟩ := hv.slice
  refine fn_of_W (rs := [6]) (N := 33) Try.func54 rfl rfl rfl (by simp) ?_
  intro ρ0 hρ0
  have r0 : ev ρ0 (.tmp 0) = v := hρ0 0
  have r1 : ev ρ0 (.tmp 1) = .int .i64 i := hρ0 1
  have r2 : ev ρ0 (.tmp 2) = .int .i64 (i + 1) := hρ0 2
  clear hρ0
  have hu := Up.refl w
  subst hv0
  refine W.seqR ?_
  refine WL.cons rfl (st_assign uc ?_)
  refine WL.nil ?_
  refine W.gen ?_; intro ρ1 hρ
  have q0 := (hρ 0).trans (un r0); have q1 := (hρ 1).trans (un r1); have q2 := (hρ 2).trans (un r2)
  clear hρ r0 r1 r2
  have r0 := q0; clear q0; have r1 := q1; clear q1; have r2 := q2; clear q2
  refine W.seqR ?_
  refine WL.cons rfl (st_move r0 ?_)
  refine WL.cons rfl (st_move (un r1) ?_)
  refine WL.cons rfl (st_move (un (un r2)) ?_)
  refine WL.cons rfl (st_move (un (un (un r0))) ?_)
  refine WL.cons rfl (st_lenS us Try.underlying78 ?_)
  refine WL.cons rfl (st_slice3 (un (un (un (un us)))) (un (un (un us))) (un (un us)) us Try.underlying78 Try.sizeOf30 (by omega) (by omega) (by omega) (by omega) (fun v13 => ?_))
  refine WL.nil ?_
  refine W.gen ?_; intro ρ2 hρ
  have q0 := (hρ 0).trans (un (un (un (un (un (un r0)))))); have q1 := (hρ 1).trans (un (un (un (un (un (un r1)))))); have q2 := (hρ 2).trans (un (un (un (un (un (un r2))))))
  clear hρ r0 r1 r2
  have r0 := q0; clear q0; have r1 := q1; clear q1; have r2 := q2; clear q2
  refine W.seq ?_
  refine W.seqR ?_
  refine WL.cons rfl (st_move r1 ?_)
  refine WL.cons rfl (st_move (un r2) ?_)
  refine WL.cons rfl (st_eql (un us) us ?_)
  refine WL.nil ?_
  refine W.gen ?_; intro ρ3 hρ
  have q0 := (hρ 0).trans (un (un (un r0))); have q1 := (hρ 1).trans (un (un (un r1))); have q2 := (hρ 2).trans (un (un (un r2))); have q16 := (hρ 16).trans us
  clear hρ r0 r1 r2
  have r0 := q0; clear q0; have r1 := q1; clear q1; have r2 := q2; clear q2; have r16 := q16; clear q16
  refine W.condF r16 (decide_eq_false (by omega)) ?_
  refine W.skip ?_
  refine W.seqR ?_
  refine WL.cons rfl (st_move r0 ?_)
  refine WL.cons rfl (st_lenS us Try.underlying78 ?_)
  refine WL.cons rfl (st_assign us ?_)
  refine WL.nil ?_
  refine W.gen ?_; intro ρ4 hρ
  have q0 := (hρ 0).trans (un (un (un r0))); have q1 := (hρ 1).trans (un (un (un r1))); have q2 := (hρ 2).trans (un (un (un r2))); have q7 := (hρ 7).trans us
  clear hρ r0 r1 r16 r2
  have r0 := q0; clear q0; have r1 := q1; clear q1; have r2 := q2; clear q2; have r7 := q7; clear q7
  refine W.quietR mixed 6 (by kernel_rfl) ?_
  refine WQ.cons (fun w' hq => st_move r0 ⟨rfl, Up.refl _⟩) ?_
  refine WQ.cons (fun w' hq => st_move (un r1) ⟨rfl, Up.refl _⟩) ?_
  refine WQ.cons (fun w' hq => st_sliceH (un us) us Try.underlying78 Try.sizeOf30 (by omega) (by omega) ⟨rfl, Up.refl _⟩) ?_
  refine WQ.cons (fun w' hq => st_move (un (un (un r0))) ⟨rfl, Up.refl _⟩) ?_
  refine WQ.cons (fun w' hq => st_move (un (un (un (un r2)))) ⟨rfl, Up.refl _⟩) ?_
  refine WQ.cons (fun w' hq => st_sliceL (un us) us Try.underlying78 Try.sizeOf30 (by omega) (by omega) ⟨rfl, Up.refl _⟩) ?_
  refine WQ.nil ?_
  intro w1 hq5
  replace hv := hv.up hq5
  replace hu := hu.trans hq5
  refine WL.cons rfl (st_appendRoom (un (un (un us))) us Try.underlying78 info30 (hv.front (h := i.toNat) (by omega)) (hv.sl.cut (l := (i + 1).toNat) (h := n) (by omega) (Nat.le_refl n) hcap) (fun c hc => h1 c (List.mem_of_mem_take (List.mem_of_mem_drop hc))) (by omega) ?_)
  intro w2 hv2 hf2 _
  replace hf2 := hf2.mono (Y := fun k => (Value.slice o n cap).ownBlock = some k) fun k _ hk => by cases o <;> simp_all [Value.ownBlock]
  refine WL.cons rfl (st_assign us ?_)
  refine WL.nil ?_
  refine W.gen ?_; intro ρ5 hρ
  have q0 := (hρ 0).trans us; have q7 := (hρ 7).trans (un (un (un (un (un (un (un (un r7))))))))
  clear hρ r0 r1 r2 r7
  have r0 := q0; clear q0; have r7 := q7; clear q7
  refine W.seqR ?_
  refine WL.cons rfl (st_move r0 ?_)
  refine WL.cons rfl (st_move (un r0) ?_)
  refine WL.cons rfl (st_lenS us Try.underlying78 ?_)
  refine WL.cons rfl (st_move (un (un (un r7))) ?_)
  refine WL.cons rfl (st_sliceLH (un (un (un us))) (un us) us Try.underlying78 Try.sizeOf30 (by omega) (by omega) (by omega) ?_)
  refine WL.cons rfl (st_clear (m := n - (i.toNat + (n - (i + 1).toNat))) hv2 (by omega) ((us).trans (by simp only [Int.toNat_natCast])) Try.underlying78 Try.zeroValue30 rfl (by simp [Value.cells, Value.oneCell']) ?_)
  intro w3 hv3 hf3 _
  replace hf3 := hf3.mono (Y := fun k => (Value.slice o n cap).ownBlock = some k) fun k _ hk => by cases o <;> simp_all [Value.ownBlock]
  refine WL.nil ?_
  refine W.gen ?_; intro ρ6 hρ
  have q0 := (hρ 0).trans (un0 (un (un (un (un (un r0))))))
  clear hρ r0 r7
  have r0 := q0; clear q0
  refine W.seqR ?_
  refine WL.cons rfl (st_move r0 ?_)
  refine WL.cons rfl (st_assign us ?_)
  refine WL.nil ?_
  refine W.gen ?_; intro ρ7 hρ
  have q6 := (hρ 6).trans us
  clear hρ r0
  have r6 := q6; clear q6
  refine W.ret ?_
  refine fin1 r6 ?_
  have e1 : i.toNat + (n - (i + 1).toNat) = n - 1 := by omega
  have e2 : List.take (i.toNat * 1) xs ++ List.drop ((i + 1).toNat * 1) (List.take (n * 1) xs) = xs.eraseIdx i.toNat := by
    have hl := hv.1
    rw [List.take_of_length_le (show xs.length ≤ n * 1 by omega), Nat.mul_one, Nat.mul_one, show (i + 1).toNat = i.toNat + 1 by omega]; exact (List.eraseIdx_eq_take_drop_succ xs i.toNat).symm
  rw [e1, e2] at hv3
  rw [e1]
  exact ⟨hv3, hu.frm.trans (hf2.trans hf3)⟩

/-- (*towline links.Net).Peek -/
theorem peek_ok {S : Nat → Prop} {s : NetS} {bn bm : Nat} (w : World) (h : NetR S w bn bm s) (hk : s.Ok) (l : Lk) (i : Int) : Does Try.prog 14 #[.pointer (some ⟨bn, 0, none⟩), ekL l, .int .i64 i] w (fun v w' => ∃ u, v = .tuple #[u, .int .i64 (if s.able l i = true then 0 else 40)] ∧ Up w w' ∧ RB (fun b => w.heap.size ≤ b) w' u (if s.able l i = true then (s.q l).getD i.toNat [] else [])) := by
  refine fn_of_W (rs := [6, 7]) (N := 26) Try.func14 rfl rfl rfl (by simp) ?_
  intro ρ0 hρ0
  have r0 : ev ρ0 (.tmp 0) = .pointer (some ⟨bn, 0, none⟩) := hρ0 0
  have r1 : ev ρ0 (.tmp 1) = ekL l := hρ0 1
  have r2 : ev ρ0 (.tmp 2) = .int .i64 i := hρ0 2
  clear hρ0
  have hu := Up.refl w
  refine W.seqR ?_
  refine WL.cons rfl (st_box r1 ?_)
  intro b4 w1 m4; have B4 := m4.blk
  replace h := h.up m4.up
  replace hu := hu.trans m4.up
  refine WL.cons rfl (st_assign uc ?_)
  refine WL.cons rfl (st_assign uc ?_)
  refine WL.nil ?_
  refine W.gen ?_; intro ρ1 hρ
  have q0 := (hρ 0).trans (un (un (un r0))); have q2 := (hρ 2).trans (un (un (un r2))); have q4 := (hρ 4).trans (un (un us))
  clear hρ r0 r1 r2
  have r0 := q0; clear q0; have r2 := q2; clear q2; have r4 := q4; clear q4
  refine W.seq ?_
  refine W.seqR ?_
  refine WL.cons rfl (st_move r0 ?_)
  refine WL.cons rfl (st_loadK Try.isAgg29 Try.sizeOf29 (un r4) (cells2 (B4.cell rfl) (B4.cell rfl)) rfl ?_)
  refine WL.cons rfl (st_move (un (un r2)) ?_)
  refine WL.cons rfl (st_call3 ent35 (un (un us)) (un us) us (((able_ok _ h l i)).mono ?_))
  intro va w2 ⟨hva, ua⟩; subst hva
  replace h := h.up ua
  replace B4 := B4.up ua
  replace hu := hu.trans ua
  refine WL.cons rfl (st_assign us ?_)
  refine WL.nil ?_
  refine W.gen ?_; intro ρ2 hρ
  have q0 := (hρ 0).trans (un (un (un (un (un r0))))); have q2 := (hρ 2).trans (un (un (un (un (un r2))))); have q4 := (hρ 4).trans (un (un (un (un (un r4))))); have q8 := (hρ 8).trans us
  clear hρ r0 r2 r4
  have r0 := q0; clear q0; have r2 := q2; clear q2; have r4 := q4; clear q4; have r8 := q8; clear q8
  refine W.seqR ?_
  refine WL.cons rfl (st_move r8 ?_)
  refine WL.cons rfl (st_neq us uc ?_)
  refine WL.nil ?_
  refine W.gen ?_; intro ρ3 hρ
  have q0 := (hρ 0).trans (un (un r0)); have q2 := (hρ 2).trans (un (un r2)); have q4 := (hρ 4).trans (un (un r4)); have q8 := (hρ 8).trans (un (un r8))
  have q14 := (hρ 14).trans us
  clear hρ r0 r2 r4 r8
  have r0 := q0; clear q0; have r2 := q2; clear q2; have r4 := q4; clear q4; have r8 := q8; clear q8; have r14 := q14; clear q14
  refine W.cond r14 (fun hc2 => ?_) (fun hc2 => ?_)
  · skip
    try simp only [tests] at hc2
    have ha : s.able l i = false := by cases e : s.able l i <;> simp_all
    refine W.seqR ?_
    refine WL.cons rfl (st_move r8 ?_)
    refine WL.cons rfl (st_assign uc ?_)
    refine WL.cons rfl (st_assign (un us) ?_)
    refine WL.nil ?_
    refine W.gen ?_; intro ρ4 hρ
    have q6 := (hρ 6).trans (un us); have q7 := (hρ 7).trans us
    clear hρ r0 r14 r2 r4 r8
    have r6 := q6; clear q6; have r7 := q7; clear q7
    refine W.ret ?_
    refine fin2 r6 r7 ?_
    rw [ha]; exact ⟨_, rfl, hu, none, 0, rfl, rfl, fun h => absurd h (Nat.lt_irrefl 0)⟩
  · skip
    try simp only [tests] at hc2
    have ha : s.able l i = true := by cases e : s.able l i <;> simp_all
    obtain ⟨⟨hf, hi0⟩, hil⟩ : (fitsL l = true ∧ 0 ≤ i) ∧ i < (s.q l).length := by simpa [NetS.able] using ha
    refine W.skip ?_
    obtain ⟨vq, hvq, hlk⟩ := h.look l
    obtain ⟨qb, qoff, qcap, x, rfl, hcx, hrx⟩ := hvq.at (i := i.toNat) (by omega)
    have hms : ((s.q l).getD i.toNat []).length ≤ 8192 := by
      rw [show (s.q l).getD i.toNat [] = (s.q l)[i.toNat]'(by omega) by simp [List.getD, show i.toNat < (s.q l).length by omega]]; exact hk.short l _ (List.getElem_mem _)
    refine W.quietR mixed 9 (by kernel_rfl) ?_
    refine WQ.cons (fun w' hq => st_move r0 ⟨rfl, Up.refl _⟩) ?_
    refine WQ.cons (fun w' hq => st_nilCheck us ⟨rfl, Up.refl _⟩) ?_
    refine WQ.cons (fun w' hq => st_fieldAddr (f := 0) (k := 0) us Try.underlying64 rfl rfl Try.sizeOf61 ⟨rfl, Up.refl _⟩) ?_
    refine WQ.cons (fun w' hq => st_load1 Try.isAgg61 us ((h.up hq).blk.cell rfl) ⟨rfl, Up.refl _⟩) ?_
    refine WQ.cons (fun w' hq => st_loadK Try.isAgg29 Try.sizeOf29 (un (un (un (un r4)))) (cells2 ((B4.up hq).cell rfl) ((B4.up hq).cell rfl)) rfl ⟨rfl, Up.refl _⟩) ?_
    refine WQ.cons (fun w' hq => st_look (un us) us (hlk _ hq) ⟨rfl, Up.refl _⟩) ?_
    refine WQ.cons (fun w' hq => st_move (un (un (un (un (un (un r2)))))) ⟨rfl, Up.refl _⟩) ?_
    refine WQ.cons (fun w' hq => st_indexAddrS (un us) us Try.underlying78 Try.sizeOf30 (by omega) (by omega) ⟨rfl, Up.refl _⟩) ?_
    refine WQ.cons (fun w' hq => st_load1 Try.isAgg30 us (cell_up hcx hq) ⟨rfl, Up.refl _⟩) ?_
    refine WQ.nil ?_
    intro w3 hq4
    replace h := h.up hq4
    replace B4 := B4.up hq4
    replace hu := hu.trans hq4
    refine WL.cons rfl (st_call1 ent18 us (((clone_ok _ (hrx.up hq4) (byteV_one _) (by omega))).mono ?_))
    intro u w4 ⟨hou, uu⟩; have hb0 := hu.size
    replace h := h.up uu
    replace B4 := B4.up uu
    replace hu := hu.trans uu
    refine WL.cons rfl (st_assign us ?_)
    refine WL.cons rfl (st_assign uc ?_)
    refine WL.nil ?_
    refine W.gen ?_; intro ρ5 hρ
    have q6 := (hρ 6).trans (un us); have q7 := (hρ 7).trans us
    clear hρ r0 r14 r2 r4 r8
    have r6 := q6; clear q6; have r7 := q7; clear q7
    refine W.ret ?_
    refine fin2 r6 r7 ?_
    rw [ha]; exact ⟨_, rfl, hu, (hou.base hb0).sl⟩

/-- (*towline links.Net).cut -/
theorem cut_ok {S : Nat → Prop} {s : NetS} {bn bm : Nat} (w : World) (h : NetR S w bn bm s) (hk : s.Ok) (l : Lk) (i : Int) (ha : s.able l i = true) : Does Try.prog 48 #[.pointer (some ⟨bn, 0, none⟩), ekL l, .int .i64 i] w (fun v w' => RB S w' v ((s.q l).getD i.toNat []) ∧ NetTo S w w' bn bm (s.cut l i.toNat)) := by
  obtain ⟨⟨hf, hi0⟩, hil⟩ : (fitsL l = true ∧ 0 ≤ i) ∧ i < (s.q l).length := by simpa [NetS.able] using ha
  have hq8 := hk.max l
  have hbn := h.blk.lt; have hbm := h.map.lt
  refine fn_of_W (rs := [6]) (N := 40) Try.func48 rfl rfl rfl (by simp) ?_
  intro ρ0 hρ0
  have r0 : ev ρ0 (.tmp 0) = .pointer (some ⟨bn, 0, none⟩) := hρ0 0
  have r1 : ev ρ0 (.tmp 1) = ekL l := hρ0 1
  have r2 : ev ρ0 (.tmp 2) = .int .i64 i := hρ0 2
  clear hρ0
  have hu := Up.refl w
  refine W.seqR ?_
  refine WL.cons rfl (st_box r1 ?_)
  intro b4 w1 m4; have B4 := m4.blk
  replace h := h.up m4.up
  replace hu := hu.trans m4.up
  refine WL.cons rfl (st_assign uc ?_)
  refine WL.nil ?_
  refine W.gen ?_; intro ρ1 hρ
  have q0 := (hρ 0).trans (un (un r0)); have q2 := (hρ 2).trans (un (un r2)); have q4 := (hρ 4).trans (un us)
  clear hρ r0 r1 r2
  have r0 := q0; clear q0; have r2 := q2; clear q2; have r4 := q4; clear q4
  obtain ⟨vq, hvq, hlk⟩ := h.look l
  obtain ⟨qb, qoff, qcap, x, rfl, hcx, hrx⟩ := hvq.at (i := i.toNat) (by omega)
  refine W.quietR mixed 7 (by kernel_rfl) ?_
  refine WQ.cons (fun w' hq => st_move r0 ⟨rfl, Up.refl _⟩) ?_
  refine WQ.cons (fun w' hq => st_nilCheck us ⟨rfl, Up.refl _⟩) ?_
  refine WQ.cons (fun w' hq => st_fieldAddr (f := 0) (k := 0) us Try.underlying64 rfl rfl Try.sizeOf61 ⟨rfl, Up.refl _⟩) ?_
  refine WQ.cons (fun w' hq => st_load1 Try.isAgg61 us ((h.up hq).blk.cell rfl) ⟨rfl, Up.refl _⟩) ?_
  refine WQ.cons (fun w' hq => st_loadK Try.isAgg29 Try.sizeOf29 (un (un (un (un r4)))) (cells2 ((B4.up hq).cell rfl) ((B4.up hq).cell rfl)) rfl ⟨rfl, Up.refl _⟩) ?_
  refine WQ.cons (fun w' hq => st_look (un us) us (hlk _ hq) ⟨rfl, Up.refl _⟩) ?_
  refine WQ.cons (fun w' hq => st_assign us ⟨rfl, Up.refl _⟩) ?_
  refine WQ.nil ?_
  intro w2 hq1
  replace h := h.up hq1
  replace B4 := B4.up hq1
  replace hu := hu.trans hq1
  refine WL.nil ?_
  refine W.gen ?_; intro ρ2 hρ
  have q0 := (hρ 0).trans (un (un (un (un (un (un (un r0))))))); have q2 := (hρ 2).trans (un (un (un (un (un (un (un r2))))))); have q4 := (hρ 4).trans (un (un (un (un (un (un (un r4))))))); have q7 := (hρ 7).trans us
  clear hρ r0 r2 r4
  have r0 := q0; clear q0; have r2 := q2; clear q2; have r4 := q4; clear q4; have r7 := q7; clear q7
  replace hcx := cell_up hcx hq1; replace hrx := hrx.up hq1; replace hvq := hvq.up hq1
  obtain ⟨vs, hvs, hall⟩ := hvq
  have hw1 := h.up (Up.refl _); have hu1 := hu; have hone := all_one hall
  refine W.seqR ?_
  refine WL.cons rfl (st_move r7 ?_)
  refine WL.cons rfl (st_move (un r2) ?_)
  refine WL.cons rfl (st_indexAddrS (un us) us Try.underlying78 Try.sizeOf30 (by omega) (by omega) ?_)
  refine WL.cons rfl (st_load1 Try.isAgg30 us (hcx) ?_)
  refine WL.cons rfl (st_assign us ?_)
  refine WL.nil ?_
  refine W.gen ?_; intro ρ3 hρ
  have q0 := (hρ 0).trans (un (un (un (un (un r0))))); have q2 := (hρ 2).trans (un (un (un (un (un r2))))); have q4 := (hρ 4).trans (un (un (un (un (un r4))))); have q7 := (hρ 7).trans (un (un (un (un (un r7)))))
  have q8 := (hρ 8).trans us
  clear hρ r0 r2 r4 r7
  have r0 := q0; clear q0; have r2 := q2; clear q2; have r4 := q4; clear q4; have r7 := q7; clear q7; have r8 := q8; clear q8
  refine W.seq ?_
  refine W.seqR ?_
  refine WL.cons rfl (st_move r7 ?_)
  refine WL.cons rfl (st_call1 ent47 us (((cloneq_ok _ hvs hone (by omega))).mono ?_))
  intro u1 w3 ⟨hou, uu⟩; have huu := uu; have B40 := B4
  replace h := h.up uu
  replace B4 := B4.up uu
  replace hu := hu.trans uu
  refine WL.cons rfl (st_move (un (un r2)) ?_)
  refine WL.cons rfl (st_move (un (un (un r2))) ?_)
  refine WL.cons rfl (st_add us uc (wr64 (by omega)) ?_)
  refine WL.cons rfl (st_call3 ent54 (un (un (un us))) (un (un us)) us (((delete_ok _ hou hone i hi0 hil (by omega))).mono ?_))
  intro u2 w4 ⟨hod, hfd⟩
  have u13 : Up w2 w4 := (Frm.trans' (X := NoB) huu.frm hfd fun k hk he => absurd (hou.block k he).1 (by omega)).up
  have B43 := B40.up u13
  replace h := hw1.up u13; replace hrx := hrx.up u13; replace hall := All2.imp hall fun _ _ _ _ hr => hr.up u13; replace hu := hu1.trans u13; clear B4; have B4 := B43; clear hw1 B43 B40 hfd u13
  refine WL.cons rfl (st_assign us ?_)
  refine WL.nil ?_
  refine W.gen ?_; intro ρ4 hρ
  have q0 := (hρ 0).trans (un (un (un (un (un (un (un r0))))))); have q4 := (hρ 4).trans (un (un (un (un (un (un (un r4))))))); have q7 := (hρ 7).trans us; have q8 := (hρ 8).trans (un (un (un (un (un (un (un r8)))))))
  clear hρ r0 r2 r4 r7 r8
  have r0 := q0; clear q0; have r4 := q4; clear q4; have r7 := q7; clear q7; have r8 := q8; clear q8
  obtain ⟨o2, c2, rfl, _, _⟩ := hod.slice
  have hle : ((s.q l).eraseIdx i.toNat).length = (s.q l).length - 1 := List.length_eraseIdx_of_lt (by omega)
  refine W.seqR ?_
  refine WL.cons rfl (st_move r7 ?_)
  refine WL.cons rfl (st_lenS us Try.underlying78 ?_)
  refine WL.cons rfl (st_eql us uc ?_)
  refine WL.nil ?_
  refine W.gen ?_; intro ρ5 hρ
  have q0 := (hρ 0).trans (un (un (un r0))); have q4 := (hρ 4).trans (un (un (un r4))); have q7 := (hρ 7).trans (un (un (un r7))); have q8 := (hρ 8).trans (un (un (un r8)))
  have q27 := (hρ 27).trans us
  clear hρ r0 r4 r7 r8
  have r0 := q0; clear q0; have r4 := q4; clear q4; have r7 := q7; clear q7; have r8 := q8; clear q8; have r27 := q27; clear q27
  refine W.cond r27 (fun hc4 => ?_) (fun hc4 => ?_)
  · skip
    try simp only [tests] at hc4
    refine W.quiet mixed 5 (by kernel_rfl) ?_
    refine WQ.cons (fun w' hq => st_move r0 ⟨rfl, Up.refl _⟩) ?_
    refine WQ.cons (fun w' hq => st_nilCheck us ⟨rfl, Up.refl _⟩) ?_
    refine WQ.cons (fun w' hq => st_fieldAddr (f := 0) (k := 0) us Try.underlying64 rfl rfl Try.sizeOf61 ⟨rfl, Up.refl _⟩) ?_
    refine WQ.cons (fun w' hq => st_load1 Try.isAgg61 us ((h.up hq).blk.cell rfl) ⟨rfl, Up.refl _⟩) ?_
    refine WQ.cons (fun w' hq => st_loadK Try.isAgg29 Try.sizeOf29 (un (un (un (un r4)))) (cells2 ((B4.up hq).cell rfl) ((B4.up hq).cell rfl)) rfl ⟨rfl, Up.refl _⟩) ?_
    refine WQ.nil ?_
    intro w5 hq5
    replace h := h.up hq5
    replace B4 := B4.up hq5
    replace hu := hu.trans hq5
    refine WL.cons rfl (st_delete (ek := ekL) (a := l) (un us) us keyL Try.underlying61 h.map ?_)
    intro w6 hm hf2 _ _
    have hold := h.old; have h := h.put hm hf2; replace hrx := (hrx.up hq5).frm hf2 fun b hb => (hold b hb).2.2
    refine WL.nil ?_
    have he : (s.q l).eraseIdx i.toNat = [] := List.eq_nil_of_length_eq_zero (by omega)
    have ht : NetTo S w _ bn bm (s.cut l i.toNat) := ⟨hu.frm.trans (hf2.mono fun _ _ h => .inr h), S, by unfold NetS.cut; rw [if_pos he]; exact h, fun _ h => .inl h⟩
    refine W.seqR ?_
    refine WL.cons rfl (st_move (un0 (un (un (un (un (un r8)))))) ?_)
    refine WL.cons rfl (st_assign us ?_)
    refine WL.nil ?_
    refine W.gen ?_; intro ρ6 hρ
    have q6 := (hρ 6).trans us
    clear hρ r0 r27 r4 r7 r8
    have r6 := q6; clear q6
    refine W.ret ?_
    refine fin1 r6 ?_
    exact ⟨hrx, ht⟩
  · skip
    try simp only [tests] at hc4
    refine W.quiet mixed 6 (by kernel_rfl) ?_
    refine WQ.cons (fun w' hq => st_move r0 ⟨rfl, Up.refl _⟩) ?_
    refine WQ.cons (fun w' hq => st_nilCheck us ⟨rfl, Up.refl _⟩) ?_
    refine WQ.cons (fun w' hq => st_fieldAddr (f := 0) (k := 0) us Try.underlying64 rfl rfl Try.sizeOf61 ⟨rfl, Up.refl _⟩) ?_
    refine WQ.cons (fun w' hq => st_load1 Try.isAgg61 us ((h.up hq).blk.cell rfl) ⟨rfl, Up.refl _⟩) ?_
    refine WQ.cons (fun w' hq => st_loadK Try.isAgg29 Try.sizeOf29 (un (un (un (un r4)))) (cells2 ((B4.up hq).cell rfl) ((B4.up hq).cell rfl)) rfl ⟨rfl, Up.refl _⟩) ?_
    refine WQ.cons (fun w' hq => st_move (un (un (un (un (un r7))))) ⟨rfl, Up.refl _⟩) ?_
    refine WQ.nil ?_
    intro w7 hq6
    replace h := h.up hq6
    replace B4 := B4.up hq6
    replace hu := hu.trans hq6
    have hW := h.widen (B := w.heap.size) hbn hbm
    have hv6 : RQ (fun b => S b ∨ (w.heap.size ≤ b ∧ b < w7.heap.size)) w7 (.slice o2 ((s.q l).length - 1) c2) ((s.q l).eraseIdx i.toNat) := ⟨vs.eraseIdx i.toNat, by rw [hle]; exact ((hod.up hq6).sl.mono (fun b hb hb' => .inr ⟨by have := hu1.size; omega, hb⟩) (by omega)), All2.eraseIdx i.toNat (All2.imp hall fun _ _ _ _ hr => (hr.up hq6).mono fun b _ h => .inl h)⟩
    refine WL.cons rfl (st_mapUpdate (ek := ekL) (a := l) (un (un us)) (un us) us keyL Try.underlying61 hW.map hv6 ?_)
    intro w8 hm hf2 _ _
    have hold := h.old; have hW := hW.put hm hf2; replace hrx := (hrx.up hq6).frm hf2 fun b hb => (hold b hb).2.2
    refine WL.nil ?_
    have he : (s.q l).eraseIdx i.toNat ≠ [] := fun e => by rw [e] at hle; simp at hle; omega
    have hW2 := hW; rw [show ({ s with of := aset s.of l ((s.q l).eraseIdx i.toNat) } : NetS) = s.cut l i.toNat by unfold NetS.cut; rw [if_neg he]] at hW2
    have ht : NetTo S w _ bn bm (s.cut l i.toNat) := ⟨hu.frm.trans (hf2.mono fun _ _ h => .inr h), _, hW2, fun b hb => Or.imp id And.left hb⟩
    refine W.seqR ?_
    refine WL.cons rfl (st_move (un0 (un (un (un (un (un (un r8))))))) ?_)
    refine WL.cons rfl (st_assign us ?_)
    refine WL.nil ?_
    refine W.gen ?_; intro ρ7 hρ
    have q6 := (hρ 6).trans us
    clear hρ r0 r27 r4 r7 r8
    have r6 := q6; clear q6
    refine W.ret ?_
    refine fin1 r6 ?_
    exact ⟨hrx, ht⟩

end Go.Proofs.Ytppohfgaegahoaa
