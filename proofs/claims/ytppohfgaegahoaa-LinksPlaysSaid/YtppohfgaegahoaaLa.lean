/- Walks of the small functions of links and mask: each answers what its text says, and turns nothing that was there. -/
import Derived.Test.YtppohfgaegahoaaL0
namespace Go.Proofs.Ytppohfgaegahoaa
open Go.Tw Go.RowKit
attribute [local irreducible] Step WL W WQ Does

/-- towline mask.in -/
theorem in_ok (n : Int) (w : World) : Does Try.prog 55 #[.int .i64 n] w (fun v w' => v = .bool (decide (0 ≤ n) && decide (n < 64)) ∧ Up w w') := by
  refine fn_of_W (rs := [2]) (N := 9) Try.func55 rfl rfl rfl (by simp) ?_
  intro ρ0 hρ0
  have r0 : ev ρ0 (.tmp 0) = .int .i64 n := hρ0 0
  clear hρ0
  have hu := Up.refl w
  refine W.seqR ?_
  refine WL.cons rfl (st_assign uc ?_)
  refine WL.nil ?_
  refine W.gen ?_; intro ρ1 hρ
  have q0 := (hρ 0).trans (un r0)
  clear hρ r0
  have r0 := q0; clear q0
  refine W.seqR ?_
  refine WL.cons rfl (st_move r0 ?_)
  refine WL.cons rfl (st_geq us uc ?_)
  refine WL.cons rfl (st_move us ?_)
  apply WL.seg0 2 (t := 5) (x := 7) (want := true) us rfl
  · intro hg5
    refine WL.guardY rfl (us.trans (by rw [hg5])) rfl (st_move (un (un (un r0))) ?_)
    refine WL.guardY rfl ((un us).trans (by rw [hg5])) rfl (st_lss us uc ?_)
    exact WL.nil ⟨(ag (ag ag0)), us, rfl⟩
  intro ρ2 hag hx5
  have q5 := (hag 5 rfl).trans us
  clear hag r0
  have r5 := q5; clear q5
  refine WL.cons rfl (st_and r5 hx5 uc ?_)
  refine WL.cons rfl (st_assign us ?_)
  refine WL.nil ?_
  refine W.gen ?_; intro ρ3 hρ
  have q2 := (hρ 2).trans us
  clear hρ r5
  have r2 := q2; clear q2
  refine W.ret ?_
  refine fin1 r2 ?_
  exact ⟨rfl, hu⟩

/-- towline links.fits -/
theorem fits_ok (f t : Int) (w : World) : Does Try.prog 46 #[.agg #[.int .i64 f, .int .i64 t]] w (fun v w' => v = .bool (decide (0 ≤ f) && decide (f < 32) && decide (0 ≤ t) && decide (t < 32) && !decide (f = t)) ∧ Up w w') := by
  refine fn_of_W (rs := [2]) (N := 28) Try.func46 rfl rfl rfl (by simp) ?_
  intro ρ0 hρ0
  have r0 : ev ρ0 (.tmp 0) = .agg #[.int .i64 f, .int .i64 t] := hρ0 0
  clear hρ0
  have hu := Up.refl w
  refine W.seqR ?_
  refine WL.cons rfl (st_box r0 ?_)
  intro b1 w1 m1; have B1 := m1.blk
  replace hu := hu.trans m1.up
  refine WL.cons rfl (st_assign uc ?_)
  refine WL.nil ?_
  refine W.gen ?_; intro ρ1 hρ
  have q1 := (hρ 1).trans (un us)
  clear hρ r0
  have r1 := q1; clear q1
  refine W.seqR ?_
  refine WL.cons rfl (st_fieldAddr (f := 0) (k := 0) r1 Try.underlying29 rfl rfl Try.sizeOf3 ?_)
  refine WL.cons rfl (st_load1 Try.isAgg3 us (B1.cell rfl) ?_)
  refine WL.cons rfl (st_geq us uc ?_)
  refine WL.cons rfl (st_move us ?_)
  apply WL.seg0 3 (t := 6) (x := 9) (want := true) us rfl
  · intro hg6
    refine WL.guardY rfl (us.trans (by rw [hg6])) rfl (st_fieldAddr (f := 0) (k := 0) (un (un (un (un r1)))) Try.underlying29 rfl rfl Try.sizeOf3 ?_)
    refine WL.guardY rfl ((un us).trans (by rw [hg6])) rfl (st_load1 Try.isAgg3 us (B1.cell rfl) ?_)
    refine WL.guardY rfl ((un (un us)).trans (by rw [hg6])) rfl (st_lss us uc ?_)
    exact WL.nil ⟨(ag (ag (ag ag0))), us, rfl⟩
  intro ρ2 hag hx6
  have q1 := (hag 1 rfl).trans (un (un (un (un r1)))); have q6 := (hag 6 rfl).trans us
  clear hag r1
  have r1 := q1; clear q1; have r6 := q6; clear q6
  refine WL.cons rfl (st_and r6 hx6 uc ?_)
  refine WL.cons rfl (st_move us ?_)
  apply WL.seg0 3 (t := 11) (x := 14) (want := true) us rfl
  · intro hg11
    refine WL.guardY rfl (us.trans (by rw [hg11])) rfl (st_fieldAddr (f := 1) (k := 0) (un (un r1)) Try.underlying29 rfl rfl Try.sizeOf3 ?_)
    refine WL.guardY rfl ((un us).trans (by rw [hg11])) rfl (st_load1 Try.isAgg3 us (B1.cell rfl) ?_)
    refine WL.guardY rfl ((un (un us)).trans (by rw [hg11])) rfl (st_geq us uc ?_)
    exact WL.nil ⟨(ag (ag (ag ag0))), us, rfl⟩
  intro ρ3 hag hx11
  have q1 := (hag 1 rfl).trans (un (un r1)); have q11 := (hag 11 rfl).trans us
  clear hag r1 r6
  have r1 := q1; clear q1; have r11 := q11; clear q11
  refine WL.cons rfl (st_and r11 hx11 uc ?_)
  refine WL.cons rfl (st_move us ?_)
  apply WL.seg0 3 (t := 16) (x := 19) (want := true) us rfl
  · intro hg16
    refine WL.guardY rfl (us.trans (by rw [hg16])) rfl (st_fieldAddr (f := 1) (k := 0) (un (un r1)) Try.underlying29 rfl rfl Try.sizeOf3 ?_)
    refine WL.guardY rfl ((un us).trans (by rw [hg16])) rfl (st_load1 Try.isAgg3 us (B1.cell rfl) ?_)
    refine WL.guardY rfl ((un (un us)).trans (by rw [hg16])) rfl (st_lss us uc ?_)
    exact WL.nil ⟨(ag (ag (ag ag0))), us, rfl⟩
  intro ρ4 hag hx16
  have q1 := (hag 1 rfl).trans (un (un r1)); have q16 := (hag 16 rfl).trans us
  clear hag r1 r11
  have r1 := q1; clear q1; have r16 := q16; clear q16
  refine WL.cons rfl (st_and r16 hx16 uc ?_)
  refine WL.cons rfl (st_move us ?_)
  apply WL.seg0 5 (t := 21) (x := 26) (want := true) us rfl
  · intro hg21
    refine WL.guardY rfl (us.trans (by rw [hg21])) rfl (st_fieldAddr (f := 0) (k := 0) (un (un r1)) Try.underlying29 rfl rfl Try.sizeOf3 ?_)
    refine WL.guardY rfl ((un us).trans (by rw [hg21])) rfl (st_load1 Try.isAgg3 us (B1.cell rfl) ?_)
    refine WL.guardY rfl ((un (un us)).trans (by rw [hg21])) rfl (st_fieldAddr (f := 1) (k := 0) (un (un (un (un r1)))) Try.underlying29 rfl rfl Try.sizeOf3 ?_)
    refine WL.guardY rfl ((un (un (un us))).trans (by rw [hg21])) rfl (st_load1 Try.isAgg3 us (B1.cell rfl) ?_)
    refine WL.guardY rfl ((un (un (un (un us)))).trans (by rw [hg21])) rfl (st_neq (un (un us)) us ?_)
    exact WL.nil ⟨(ag (ag (ag (ag (ag ag0))))), us, rfl⟩
  intro ρ5 hag hx21
  have q21 := (hag 21 rfl).trans us
  clear hag r1 r16
  have r21 := q21; clear q21
  refine WL.cons rfl (st_and r21 hx21 uc ?_)
  refine WL.cons rfl (st_assign us ?_)
  refine WL.nil ?_
  refine W.gen ?_; intro ρ6 hρ
  have q2 := (hρ 2).trans us
  clear hρ r21
  have r2 := q2; clear q2
  refine W.ret ?_
  refine fin1 r2 ?_
  exact ⟨rfl, hu⟩

end Go.Proofs.Ytppohfgaegahoaa
