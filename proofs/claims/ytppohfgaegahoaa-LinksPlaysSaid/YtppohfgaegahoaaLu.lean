/- Walks: a Net that no call made: every call says so, and does nothing. -/
import Derived.Test.YtppohfgaegahoaaLq
import Derived.Test.YtppohfgaegahoaaLo
namespace Go.Proofs.Ytppohfgaegahoaa
open Go.Tw Go.RowKit
attribute [local irreducible] Step WL W WQ Does

def Dead (w : World) (o : Option Addr) : Prop := o = none ∨ ∃ b, o = some ⟨b, 0, none⟩ ∧ Blk w b (.cells #[.map none, .int .u64 0, .int .i64 0, .bool false] 64)
theorem Dead.up {w w' : World} {o : Option Addr} (h : Dead w o) (e : Up w w') : Dead w' o := h.imp id fun ⟨b, h1, h2⟩ => ⟨b, h1, h2.up e⟩
theorem Dead.made {w : World} {o : Option Addr} (h : Dead w o) (hn : o.isNone = false) : ∃ b, o = some ⟨b, 0, none⟩ ∧ Blk w b (.cells #[.map none, .int .u64 0, .int .i64 0, .bool false] 64) := by
  rcases h with rfl | h
  · cases hn
  · exact h

/-- (*towline links.Net).dead -/
theorem dead_yes {o : Option Addr} (w : World) (h : Dead w o) : Does Try.prog 36 #[.pointer o] w (fun v w' => v = .bool true ∧ Up w w') := by
  refine fn_of_W (rs := [2]) (N := 12) Try.func36 rfl rfl rfl (by simp) ?_
  intro ρ0 hρ0
  have r0 : ev ρ0 (.tmp 0) = .pointer o := hρ0 0
  clear hρ0
  have hu := Up.refl w
  refine W.seqR ?_
  refine WL.cons rfl (st_assign uc ?_)
  refine WL.nil ?_
  refine W.gen ?_; intro ρ1 hρ
  have q0 := (hρ 0).trans (un r0)
  clear hρ r0
  have r0 := q0; clear q0
  refine W.seqR ?_
  refine WL.cons rfl (st_move r0 ?_)
  refine WL.cons rfl (st_eqlP0 us uc Try.underlying25 ?_)
  refine WL.cons rfl (st_move us ?_)
  apply WL.seg0 5 (t := 5) (x := 10) (want := false) us rfl
  · intro hg5
    obtain ⟨b, rfl, hb⟩ := h.made hg5
    refine WL.guardY rfl (us.trans (by rw [hg5])) rfl (st_move (un (un (un r0))) ?_)
    refine WL.guardY rfl ((un us).trans (by rw [hg5])) rfl (st_nilCheck us ?_)
    refine WL.guardY rfl ((un (un us)).trans (by rw [hg5])) rfl (st_fieldAddr (f := 3) (k := 0) us Try.underlying64 rfl rfl Try.sizeOf4 ?_)
    refine WL.guardY rfl ((un (un (un us))).trans (by rw [hg5])) rfl (st_load1 Try.isAgg4 us (hb.cell rfl) ?_)
    refine WL.guardY rfl ((un (un (un (un us)))).trans (by rw [hg5])) rfl (st_not us ?_)
    exact WL.nil ⟨(ag (ag (ag (ag (ag ag0))))), us, rfl⟩
  intro ρ2 hag hx5
  have q5 := (hag 5 rfl).trans us
  clear hag r0
  have r5 := q5; clear q5
  refine WL.cons rfl (st_or r5 hx5 uc ?_)
  refine WL.cons rfl (st_assign us ?_)
  refine WL.nil ?_
  refine W.gen ?_; intro ρ3 hρ
  have q2 := (hρ 2).trans us
  clear hρ r5
  have r2 := q2; clear q2
  refine W.ret ?_
  refine fin1 r2 ?_
  exact ⟨by cases o <;> rfl, hu⟩

/-- (*towline links.Net).able -/
theorem able_dead {o : Option Addr} (w : World) (h : Dead w o) (l : Lk) (i : Int) : Does Try.prog 35 #[.pointer o, ekL l, .int .i64 i] w (fun v w' => v = .int .i64 6 ∧ Up w w') := by
  refine fn_of_W (rs := [6]) (N := 29) Try.func35 rfl rfl rfl (by simp) ?_
  intro ρ0 hρ0
  have r0 : ev ρ0 (.tmp 0) = .pointer o := hρ0 0
  have r1 : ev ρ0 (.tmp 1) = ekL l := hρ0 1
  have r2 : ev ρ0 (.tmp 2) = .int .i64 i := hρ0 2
  clear hρ0
  have hu := Up.refl w
  refine W.seqR ?_
  refine WL.cons rfl (st_box r1 ?_)
  intro b4 w1 m4; have B4 := m4.blk
  replace h := h.up m4.up
  replace hu := hu.trans m4.up
  refine WL.cons rfl (st_assign uc ?_)
  refine WL.nil ?_
  refine W.gen ?_; intro ρ1 hρ
  have q0 := (hρ 0).trans (un (un r0)); have q2 := (hρ 2).trans (un (un r2)); have q4 := (hρ 4).trans (un us)
  clear hρ r0 r1 r2
  have r0 := q0; clear q0; have r2 := q2; clear q2; have r4 := q4; clear q4
  refine W.seq ?_
  refine W.block ?_
  refine W.seqR ?_
  refine WL.cons rfl (st_move r0 ?_)
  refine WL.cons rfl (st_call1 ent36 us (((dead_yes _ h)).mono ?_))
  intro vd w2 ⟨hvd, ud⟩; subst hvd
  replace h := h.up ud
  replace B4 := B4.up ud
  replace hu := hu.trans ud
  refine WL.cons rfl (st_assign us ?_)
  refine WL.nil ?_
  refine W.gen ?_; intro ρ2 hρ
  have q0 := (hρ 0).trans (un (un (un r0))); have q2 := (hρ 2).trans (un (un (un r2))); have q4 := (hρ 4).trans (un (un (un r4))); have q7 := (hρ 7).trans us
  clear hρ r0 r2 r4
  have r0 := q0; clear q0; have r2 := q2; clear q2; have r4 := q4; clear q4; have r7 := q7; clear q7
  refine W.condT r7 (rfl) ?_
  refine W.seqR ?_
  refine WL.cons rfl (st_assign uc ?_)
  refine WL.nil ?_
  refine W.gen ?_; intro ρ3 hρ
  have q6 := (hρ 6).trans us
  clear hρ r0 r2 r4 r7
  have r6 := q6; clear q6
  refine W.ret ?_
  refine fin1 r6 ?_
  exact ⟨rfl, hu⟩

/-- (*towline links.Net).Lost -/
theorem lost_dead {o : Option Addr} (w : World) (h : Dead w o) : Does Try.prog 20 #[.pointer o] w (fun v w' => v = .int .i64 0 ∧ Up w w') := by
  refine fn_of_W (rs := [2]) (N := 9) Try.func20 rfl rfl rfl (by simp) ?_
  intro ρ0 hρ0
  have r0 : ev ρ0 (.tmp 0) = .pointer o := hρ0 0
  clear hρ0
  have hu := Up.refl w
  refine W.seqR ?_
  refine WL.cons rfl (st_assign uc ?_)
  refine WL.nil ?_
  refine W.gen ?_; intro ρ1 hρ
  have q0 := (hρ 0).trans (un r0)
  clear hρ r0
  have r0 := q0; clear q0
  refine W.seq ?_
  refine W.seqR ?_
  refine WL.cons rfl (st_move r0 ?_)
  refine WL.cons rfl (st_call1 ent36 us (((dead_yes _ h)).mono ?_))
  intro vd w1 ⟨hvd, ud⟩; subst hvd
  replace h := h.up ud
  replace hu := hu.trans ud
  refine WL.nil ?_
  refine W.gen ?_; intro ρ2 hρ
  have q0 := (hρ 0).trans (un (un r0)); have q4 := (hρ 4).trans us
  clear hρ r0
  have r0 := q0; clear q0; have r4 := q4; clear q4
  refine W.condT r4 (rfl) ?_
  refine W.seqR ?_
  refine WL.cons rfl (st_assign uc ?_)
  refine WL.nil ?_
  refine W.gen ?_; intro ρ3 hρ
  have q2 := (hρ 2).trans us
  clear hρ r0 r4
  have r2 := q2; clear q2
  refine W.ret ?_
  refine fin1 r2 ?_
  exact ⟨rfl, hu⟩

/-- (*towline links.Net).Len -/
theorem len_dead {o : Option Addr} (w : World) (h : Dead w o) (l : Lk) : Does Try.prog 16 #[.pointer o, ekL l] w (fun v w' => v = .int .i64 0 ∧ Up w w') := by
  refine fn_of_W (rs := [4]) (N := 14) Try.func16 rfl rfl rfl (by simp) ?_
  intro ρ0 hρ0
  have r0 : ev ρ0 (.tmp 0) = .pointer o := hρ0 0
  have r1 : ev ρ0 (.tmp 1) = ekL l := hρ0 1
  clear hρ0
  have hu := Up.refl w
  refine W.seqR ?_
  refine WL.cons rfl (st_box r1 ?_)
  intro b3 w1 m3; have B3 := m3.blk
  replace h := h.up m3.up
  replace hu := hu.trans m3.up
  refine WL.cons rfl (st_assign uc ?_)
  refine WL.nil ?_
  refine W.gen ?_; intro ρ1 hρ
  have q0 := (hρ 0).trans (un (un r0)); have q3 := (hρ 3).trans (un us)
  clear hρ r0 r1
  have r0 := q0; clear q0; have r3 := q3; clear q3
  refine W.seq ?_
  refine W.seqR ?_
  refine WL.cons rfl (st_move r0 ?_)
  refine WL.cons rfl (st_call1 ent36 us (((dead_yes _ h)).mono ?_))
  intro vd w2 ⟨hvd, ud⟩; subst hvd
  replace h := h.up ud
  replace B3 := B3.up ud
  replace hu := hu.trans ud
  refine WL.nil ?_
  refine W.gen ?_; intro ρ2 hρ
  have q0 := (hρ 0).trans (un (un r0)); have q3 := (hρ 3).trans (un (un r3)); have q6 := (hρ 6).trans us
  clear hρ r0 r3
  have r0 := q0; clear q0; have r3 := q3; clear q3; have r6 := q6; clear q6
  refine W.condT r6 (rfl) ?_
  refine W.seqR ?_
  refine WL.cons rfl (st_assign uc ?_)
  refine WL.nil ?_
  refine W.gen ?_; intro ρ3 hρ
  have q4 := (hρ 4).trans us
  clear hρ r0 r3 r6
  have r4 := q4; clear q4
  refine W.ret ?_
  refine fin1 r4 ?_
  exact ⟨rfl, hu⟩

/-- (*towline links.Net).Wall -/
theorem wall_dead {o : Option Addr} (w : World) (h : Dead w o) (x : Int) : Does Try.prog 30 #[.pointer o, .int .u64 x] w (fun v w' => v = .int .i64 6 ∧ Up w w') := by
  refine fn_of_W (rs := [4]) (N := 11) Try.func30 rfl rfl rfl (by simp) ?_
  intro ρ0 hρ0
  have r0 : ev ρ0 (.tmp 0) = .pointer o := hρ0 0
  have r1 : ev ρ0 (.tmp 1) = .int .u64 x := hρ0 1
  clear hρ0
  have hu := Up.refl w
  refine W.seqR ?_
  refine WL.cons rfl (st_assign uc ?_)
  refine WL.nil ?_
  refine W.gen ?_; intro ρ1 hρ
  have q0 := (hρ 0).trans (un r0); have q1 := (hρ 1).trans (un r1)
  clear hρ r0 r1
  have r0 := q0; clear q0; have r1 := q1; clear q1
  refine W.seq ?_
  refine W.seqR ?_
  refine WL.cons rfl (st_move r0 ?_)
  refine WL.cons rfl (st_call1 ent36 us (((dead_yes _ h)).mono ?_))
  intro vd w1 ⟨hvd, ud⟩; subst hvd
  replace h := h.up ud
  replace hu := hu.trans ud
  refine WL.nil ?_
  refine W.gen ?_; intro ρ2 hρ
  have q0 := (hρ 0).trans (un (un r0)); have q1 := (hρ 1).trans (un (un r1)); have q6 := (hρ 6).trans us
  clear hρ r0 r1
  have r0 := q0; clear q0; have r1 := q1; clear q1; have r6 := q6; clear q6
  refine W.condT r6 (rfl) ?_
  refine W.seqR ?_
  refine WL.cons rfl (st_assign uc ?_)
  refine WL.nil ?_
  refine W.gen ?_; intro ρ3 hρ
  have q4 := (hρ 4).trans us
  clear hρ r0 r1 r6
  have r4 := q4; clear q4
  refine W.ret ?_
  refine fin1 r4 ?_
  exact ⟨rfl, hu⟩

/-- (*towline links.Net).Forget -/
theorem forget_dead {o : Option Addr} (w : World) (h : Dead w o) (p : Int) : Does Try.prog 34 #[.pointer o, .int .i64 p] w (fun v w' => v = .int .i64 6 ∧ Up w w') := by
  refine fn_of_W (rs := [4]) (N := 32) Try.func34 rfl rfl rfl (by simp) ?_
  intro ρ0 hρ0
  have r0 : ev ρ0 (.tmp 0) = .pointer o := hρ0 0
  have r1 : ev ρ0 (.tmp 1) = .int .i64 p := hρ0 1
  clear hρ0
  have hu := Up.refl w
  refine W.seqR ?_
  refine WL.cons rfl (st_assign uc ?_)
  refine WL.nil ?_
  refine W.gen ?_; intro ρ1 hρ
  have q0 := (hρ 0).trans (un r0); have q1 := (hρ 1).trans (un r1)
  clear hρ r0 r1
  have r0 := q0; clear q0; have r1 := q1; clear q1
  refine W.seq ?_
  refine W.seqR ?_
  refine WL.cons rfl (st_move r0 ?_)
  refine WL.cons rfl (st_call1 ent36 us (((dead_yes _ h)).mono ?_))
  intro vd w1 ⟨hvd, ud⟩; subst hvd
  replace h := h.up ud
  replace hu := hu.trans ud
  refine WL.nil ?_
  refine W.gen ?_; intro ρ2 hρ
  have q0 := (hρ 0).trans (un (un r0)); have q1 := (hρ 1).trans (un (un r1)); have q7 := (hρ 7).trans us
  clear hρ r0 r1
  have r0 := q0; clear q0; have r1 := q1; clear q1; have r7 := q7; clear q7
  refine W.condT r7 (rfl) ?_
  refine W.seqR ?_
  refine WL.cons rfl (st_assign uc ?_)
  refine WL.nil ?_
  refine W.gen ?_; intro ρ3 hρ
  have q4 := (hρ 4).trans us
  clear hρ r0 r1 r7
  have r4 := q4; clear q4
  refine W.ret ?_
  refine fin1 r4 ?_
  exact ⟨rfl, hu⟩

/-- (*towline links.Net).Clone -/
theorem clone_dead {o : Option Addr} (w : World) (h : Dead w o) : Does Try.prog 17 #[.pointer o] w (fun v w' => v = .pointer none ∧ Up w w') := by
  refine fn_of_W (rs := [2]) (N := 27) Try.func17 rfl rfl rfl (by simp) ?_
  intro ρ0 hρ0
  have r0 : ev ρ0 (.tmp 0) = .pointer o := hρ0 0
  clear hρ0
  have hu := Up.refl w
  refine W.seqR ?_
  refine WL.cons rfl (st_assign uc ?_)
  refine WL.nil ?_
  refine W.gen ?_; intro ρ1 hρ
  have q0 := (hρ 0).trans (un r0)
  clear hρ r0
  have r0 := q0; clear q0
  refine W.seq ?_
  refine W.seqR ?_
  refine WL.cons rfl (st_move r0 ?_)
  refine WL.cons rfl (st_call1 ent36 us (((dead_yes _ h)).mono ?_))
  intro vd w1 ⟨hvd, ud⟩; subst hvd
  replace h := h.up ud
  replace hu := hu.trans ud
  refine WL.nil ?_
  refine W.gen ?_; intro ρ2 hρ
  have q0 := (hρ 0).trans (un (un r0)); have q7 := (hρ 7).trans us
  clear hρ r0
  have r0 := q0; clear q0; have r7 := q7; clear q7
  refine W.condT r7 (rfl) ?_
  refine W.seqR ?_
  refine WL.cons rfl (st_assign uc ?_)
  refine WL.nil ?_
  refine W.gen ?_; intro ρ3 hρ
  have q2 := (hρ 2).trans us
  clear hρ r0 r7
  have r2 := q2; clear q2
  refine W.ret ?_
  refine fin1 r2 ?_
  exact ⟨rfl, hu⟩

/-- (*towline links.Net).Busy -/
theorem busy_dead {o : Option Addr} (w : World) (h : Dead w o) : Does Try.prog 15 #[.pointer o] w (fun v w' => v = .slice none 0 0 ∧ Up w w') := by
  refine fn_of_W (rs := [2]) (N := 24) Try.func15 rfl rfl rfl (by simp) ?_
  intro ρ0 hρ0
  have r0 : ev ρ0 (.tmp 0) = .pointer o := hρ0 0
  clear hρ0
  have hu := Up.refl w
  refine W.seqR ?_
  refine WL.cons rfl (st_assign uc ?_)
  refine WL.nil ?_
  refine W.gen ?_; intro ρ1 hρ
  have q0 := (hρ 0).trans (un r0)
  clear hρ r0
  have r0 := q0; clear q0
  refine W.seqR ?_
  refine WL.cons rfl (st_assign uc ?_)
  refine WL.nil ?_
  refine W.gen ?_; intro ρ2 hρ
  have q0 := (hρ 0).trans (un r0); have q3 := (hρ 3).trans us
  clear hρ r0
  have r0 := q0; clear q0; have r3 := q3; clear q3
  refine W.seq ?_
  refine W.seqR ?_
  refine WL.cons rfl (st_move r0 ?_)
  refine WL.cons rfl (st_call1 ent36 us (((dead_yes _ h)).mono ?_))
  intro vd w1 ⟨hvd, ud⟩; subst hvd
  replace h := h.up ud
  replace hu := hu.trans ud
  refine WL.nil ?_
  refine W.gen ?_; intro ρ3 hρ
  have q0 := (hρ 0).trans (un (un r0)); have q3 := (hρ 3).trans (un (un r3)); have q6 := (hρ 6).trans us
  clear hρ r0 r3
  have r0 := q0; clear q0; have r3 := q3; clear q3; have r6 := q6; clear q6
  refine W.condT r6 (rfl) ?_
  refine W.seqR ?_
  refine WL.cons rfl (st_move r3 ?_)
  refine WL.cons rfl (st_assign us ?_)
  refine WL.nil ?_
  refine W.gen ?_; intro ρ4 hρ
  have q2 := (hρ 2).trans us
  clear hρ r0 r3 r6
  have r2 := q2; clear q2
  refine W.ret ?_
  refine fin1 r2 ?_
  exact ⟨rfl, hu⟩

/-- (*towline links.Net).Send -/
theorem send_dead {o : Option Addr} (w : World) (h : Dead w o) (l : Lk) (u : Value) : Does Try.prog 28 #[.pointer o, ekL l, u] w (fun v w' => v = .int .i64 6 ∧ Up w w') := by
  refine fn_of_W (rs := [6]) (N := 50) Try.func28 rfl rfl rfl (by simp) ?_
  intro ρ0 hρ0
  have r0 : ev ρ0 (.tmp 0) = .pointer o := hρ0 0
  have r1 : ev ρ0 (.tmp 1) = ekL l := hρ0 1
  have r2 : ev ρ0 (.tmp 2) = u := hρ0 2
  clear hρ0
  have hu := Up.refl w
  refine W.seqR ?_
  refine WL.cons rfl (st_box r1 ?_)
  intro b4 w1 m4; have B4 := m4.blk
  replace h := h.up m4.up
  replace hu := hu.trans m4.up
  refine WL.cons rfl (st_assign uc ?_)
  refine WL.nil ?_
  refine W.gen ?_; intro ρ1 hρ
  have q0 := (hρ 0).trans (un (un r0)); have q2 := (hρ 2).trans (un (un r2)); have q4 := (hρ 4).trans (un us)
  clear hρ r0 r1 r2
  have r0 := q0; clear q0; have r2 := q2; clear q2; have r4 := q4; clear q4
  refine W.seq ?_
  refine W.block ?_
  refine W.seqR ?_
  refine WL.cons rfl (st_move r0 ?_)
  refine WL.cons rfl (st_call1 ent36 us (((dead_yes _ h)).mono ?_))
  intro vd w2 ⟨hvd, ud⟩; subst hvd
  replace h := h.up ud
  replace B4 := B4.up ud
  replace hu := hu.trans ud
  refine WL.cons rfl (st_assign us ?_)
  refine WL.nil ?_
  refine W.gen ?_; intro ρ2 hρ
  have q0 := (hρ 0).trans (un (un (un r0))); have q2 := (hρ 2).trans (un (un (un r2))); have q4 := (hρ 4).trans (un (un (un r4))); have q7 := (hρ 7).trans us
  clear hρ r0 r2 r4
  have r0 := q0; clear q0; have r2 := q2; clear q2; have r4 := q4; clear q4; have r7 := q7; clear q7
  refine W.condT r7 (rfl) ?_
  refine W.seqR ?_
  refine WL.cons rfl (st_assign uc ?_)
  refine WL.nil ?_
  refine W.gen ?_; intro ρ3 hρ
  have q6 := (hρ 6).trans us
  clear hρ r0 r2 r4 r7
  have r6 := q6; clear q6
  refine W.ret ?_
  refine fin1 r6 ?_
  exact ⟨rfl, hu⟩

/-- (*towline links.Net).Peek -/
theorem peek_dead {o : Option Addr} (w : World) (h : Dead w o) (l : Lk) (i : Int) : Does Try.prog 14 #[.pointer o, ekL l, .int .i64 i] w (fun v w' => v = .tuple #[.slice none 0 0, .int .i64 6] ∧ Up w w') := by
  refine fn_of_W (rs := [6, 7]) (N := 26) Try.func14 rfl rfl rfl (by simp) ?_
  intro ρ0 hρ0
  have r0 : ev ρ0 (.tmp 0) = .pointer o := hρ0 0
  have r1 : ev ρ0 (.tmp 1) = ekL l := hρ0 1
  have r2 : ev ρ0 (.tmp 2) = .int .i64 i := hρ0 2
  clear hρ0
  have hu := Up.refl w
  refine W.seqR ?_
  refine WL.cons rfl (st_box r1 ?_)
  intro b4 w1 m4; have B4 := m4.blk
  replace h := h.up m4.up
  replace hu := hu.trans m4.up
  refine WL.cons rfl (st_assign uc ?_)
  refine WL.cons rfl (st_assign uc ?_)
  refine WL.nil ?_
  refine W.gen ?_; intro ρ1 hρ
  have q0 := (hρ 0).trans (un (un (un r0))); have q2 := (hρ 2).trans (un (un (un r2))); have q4 := (hρ 4).trans (un (un us))
  clear hρ r0 r1 r2
  have r0 := q0; clear q0; have r2 := q2; clear q2; have r4 := q4; clear q4
  refine W.seq ?_
  refine W.seqR ?_
  refine WL.cons rfl (st_move r0 ?_)
  refine WL.cons rfl (st_loadK Try.isAgg29 Try.sizeOf29 (un r4) (cells2 (B4.cell rfl) (B4.cell rfl)) rfl ?_)
  refine WL.cons rfl (st_move (un (un r2)) ?_)
  refine WL.cons rfl (st_call3 ent35 (un (un us)) (un us) us (((able_dead _ h l i)).mono ?_))
  intro va w2 ⟨hva, ua⟩; subst hva
  replace h := h.up ua
  replace B4 := B4.up ua
  replace hu := hu.trans ua
  refine WL.cons rfl (st_assign us ?_)
  refine WL.nil ?_
  refine W.gen ?_; intro ρ2 hρ
  have q0 := (hρ 0).trans (un (un (un (un (un r0))))); have q2 := (hρ 2).trans (un (un (un (un (un r2))))); have q4 := (hρ 4).trans (un (un (un (un (un r4))))); have q8 := (hρ 8).trans us
  clear hρ r0 r2 r4
  have r0 := q0; clear q0; have r2 := q2; clear q2; have r4 := q4; clear q4; have r8 := q8; clear q8
  refine W.seqR ?_
  refine WL.cons rfl (st_move r8 ?_)
  refine WL.cons rfl (st_neq us uc ?_)
  refine WL.nil ?_
  refine W.gen ?_; intro ρ3 hρ
  have q0 := (hρ 0).trans (un (un r0)); have q2 := (hρ 2).trans (un (un r2)); have q4 := (hρ 4).trans (un (un r4)); have q8 := (hρ 8).trans (un (un r8))
  have q14 := (hρ 14).trans us
  clear hρ r0 r2 r4 r8
  have r0 := q0; clear q0; have r2 := q2; clear q2; have r4 := q4; clear q4; have r8 := q8; clear q8; have r14 := q14; clear q14
  refine W.condT r14 (by decide) ?_
  refine W.seqR ?_
  refine WL.cons rfl (st_move r8 ?_)
  refine WL.cons rfl (st_assign uc ?_)
  refine WL.cons rfl (st_assign (un us) ?_)
  refine WL.nil ?_
  refine W.gen ?_; intro ρ4 hρ
  have q6 := (hρ 6).trans (un us); have q7 := (hρ 7).trans us
  clear hρ r0 r14 r2 r4 r8
  have r6 := q6; clear q6; have r7 := q7; clear q7
  refine W.ret ?_
  refine fin2 r6 r7 ?_
  exact ⟨rfl, hu⟩

/-- (*towline links.Net).Take -/
theorem take_dead {o : Option Addr} (w : World) (h : Dead w o) (l : Lk) (i : Int) : Does Try.prog 29 #[.pointer o, ekL l, .int .i64 i] w (fun v w' => v = .tuple #[.slice none 0 0, .bool false, .int .i64 6] ∧ Up w w') := by
  refine fn_of_W (rs := [6, 7, 8]) (N := 39) Try.func29 rfl rfl rfl (by simp) ?_
  intro ρ0 hρ0
  have r0 : ev ρ0 (.tmp 0) = .pointer o := hρ0 0
  have r1 : ev ρ0 (.tmp 1) = ekL l := hρ0 1
  have r2 : ev ρ0 (.tmp 2) = .int .i64 i := hρ0 2
  clear hρ0
  have hu := Up.refl w
  refine W.seqR ?_
  refine WL.cons rfl (st_box r1 ?_)
  intro b4 w1 m4; have B4 := m4.blk
  replace h := h.up m4.up
  replace hu := hu.trans m4.up
  refine WL.cons rfl (st_assign uc ?_)
  refine WL.cons rfl (st_assign uc ?_)
  refine WL.cons rfl (st_assign uc ?_)
  refine WL.nil ?_
  refine W.gen ?_; intro ρ1 hρ
  have q0 := (hρ 0).trans (un (un (un (un r0)))); have q2 := (hρ 2).trans (un (un (un (un r2)))); have q4 := (hρ 4).trans (un (un (un us)))
  clear hρ r0 r1 r2
  have r0 := q0; clear q0; have r2 := q2; clear q2; have r4 := q4; clear q4
  refine W.seq ?_
  refine W.seqR ?_
  refine WL.cons rfl (st_move r0 ?_)
  refine WL.cons rfl (st_loadK Try.isAgg29 Try.sizeOf29 (un r4) (cells2 (B4.cell rfl) (B4.cell rfl)) rfl ?_)
  refine WL.cons rfl (st_move (un (un r2)) ?_)
  refine WL.cons rfl (st_call3 ent35 (un (un us)) (un us) us (((able_dead _ h l i)).mono ?_))
  intro va w2 ⟨hva, ua⟩; subst hva
  replace h := h.up ua
  replace B4 := B4.up ua
  replace hu := hu.trans ua
  refine WL.cons rfl (st_assign us ?_)
  refine WL.nil ?_
  refine W.gen ?_; intro ρ2 hρ
  have q0 := (hρ 0).trans (un (un (un (un (un r0))))); have q2 := (hρ 2).trans (un (un (un (un (un r2))))); have q4 := (hρ 4).trans (un (un (un (un (un r4))))); have q9 := (hρ 9).trans us
  clear hρ r0 r2 r4
  have r0 := q0; clear q0; have r2 := q2; clear q2; have r4 := q4; clear q4; have r9 := q9; clear q9
  refine W.seqR ?_
  refine WL.cons rfl (st_move r9 ?_)
  refine WL.cons rfl (st_neq us uc ?_)
  refine WL.nil ?_
  refine W.gen ?_; intro ρ3 hρ
  have q0 := (hρ 0).trans (un (un r0)); have q2 := (hρ 2).trans (un (un r2)); have q4 := (hρ 4).trans (un (un r4)); have q9 := (hρ 9).trans (un (un r9))
  have q16 := (hρ 16).trans us
  clear hρ r0 r2 r4 r9
  have r0 := q0; clear q0; have r2 := q2; clear q2; have r4 := q4; clear q4; have r9 := q9; clear q9; have r16 := q16; clear q16
  refine W.condT r16 (by decide) ?_
  refine W.seqR ?_
  refine WL.cons rfl (st_move r9 ?_)
  refine WL.cons rfl (st_assign uc ?_)
  refine WL.cons rfl (st_assign uc ?_)
  refine WL.cons rfl (st_assign (un (un us)) ?_)
  refine WL.nil ?_
  refine W.gen ?_; intro ρ4 hρ
  have q6 := (hρ 6).trans (un (un us)); have q7 := (hρ 7).trans (un us); have q8 := (hρ 8).trans us
  clear hρ r0 r16 r2 r4 r9
  have r6 := q6; clear q6; have r7 := q7; clear q7; have r8 := q8; clear q8
  refine W.ret ?_
  refine fin3 r6 r7 r8 ?_
  exact ⟨rfl, hu⟩

/-- (*towline links.Net).Lose -/
theorem lose_dead {o : Option Addr} (w : World) (h : Dead w o) (l : Lk) (i : Int) : Does Try.prog 32 #[.pointer o, ekL l, .int .i64 i] w (fun v w' => v = .int .i64 6 ∧ Up w w') := by
  refine fn_of_W (rs := [6]) (N := 19) Try.func32 rfl rfl rfl (by simp) ?_
  intro ρ0 hρ0
  have r0 : ev ρ0 (.tmp 0) = .pointer o := hρ0 0
  have r1 : ev ρ0 (.tmp 1) = ekL l := hρ0 1
  have r2 : ev ρ0 (.tmp 2) = .int .i64 i := hρ0 2
  clear hρ0
  have hu := Up.refl w
  refine W.seqR ?_
  refine WL.cons rfl (st_box r1 ?_)
  intro b4 w1 m4; have B4 := m4.blk
  replace h := h.up m4.up
  replace hu := hu.trans m4.up
  refine WL.cons rfl (st_assign uc ?_)
  refine WL.nil ?_
  refine W.gen ?_; intro ρ1 hρ
  have q0 := (hρ 0).trans (un (un r0)); have q2 := (hρ 2).trans (un (un r2)); have q4 := (hρ 4).trans (un us)
  clear hρ r0 r1 r2
  have r0 := q0; clear q0; have r2 := q2; clear q2; have r4 := q4; clear q4
  refine W.seq ?_
  refine W.seqR ?_
  refine WL.cons rfl (st_move r0 ?_)
  refine WL.cons rfl (st_loadK Try.isAgg29 Try.sizeOf29 (un r4) (cells2 (B4.cell rfl) (B4.cell rfl)) rfl ?_)
  refine WL.cons rfl (st_move (un (un r2)) ?_)
  refine WL.cons rfl (st_call3 ent35 (un (un us)) (un us) us (((able_dead _ h l i)).mono ?_))
  intro va w2 ⟨hva, ua⟩; subst hva
  replace h := h.up ua
  replace B4 := B4.up ua
  replace hu := hu.trans ua
  refine WL.cons rfl (st_assign us ?_)
  refine WL.nil ?_
  refine W.gen ?_; intro ρ2 hρ
  have q0 := (hρ 0).trans (un (un (un (un (un r0))))); have q2 := (hρ 2).trans (un (un (un (un (un r2))))); have q4 := (hρ 4).trans (un (un (un (un (un r4))))); have q7 := (hρ 7).trans us
  clear hρ r0 r2 r4
  have r0 := q0; clear q0; have r2 := q2; clear q2; have r4 := q4; clear q4; have r7 := q7; clear q7
  refine W.seqR ?_
  refine WL.cons rfl (st_move r7 ?_)
  refine WL.cons rfl (st_neq us uc ?_)
  refine WL.nil ?_
  refine W.gen ?_; intro ρ3 hρ
  have q0 := (hρ 0).trans (un (un r0)); have q2 := (hρ 2).trans (un (un r2)); have q4 := (hρ 4).trans (un (un r4)); have q7 := (hρ 7).trans (un (un r7))
  have q13 := (hρ 13).trans us
  clear hρ r0 r2 r4 r7
  have r0 := q0; clear q0; have r2 := q2; clear q2; have r4 := q4; clear q4; have r7 := q7; clear q7; have r13 := q13; clear q13
  refine W.condT r13 (by decide) ?_
  refine W.seqR ?_
  refine WL.cons rfl (st_move r7 ?_)
  refine WL.cons rfl (st_assign us ?_)
  refine WL.nil ?_
  refine W.gen ?_; intro ρ4 hρ
  have q6 := (hρ 6).trans us
  clear hρ r0 r13 r2 r4 r7
  have r6 := q6; clear q6
  refine W.ret ?_
  refine fin1 r6 ?_
  exact ⟨rfl, hu⟩

/-- (*towline links.Net).Double -/
theorem double_dead {o : Option Addr} (w : World) (h : Dead w o) (l : Lk) (i : Int) : Does Try.prog 33 #[.pointer o, ekL l, .int .i64 i] w (fun v w' => v = .int .i64 6 ∧ Up w w') := by
  refine fn_of_W (rs := [6]) (N := 46) Try.func33 rfl rfl rfl (by simp) ?_
  intro ρ0 hρ0
  have r0 : ev ρ0 (.tmp 0) = .pointer o := hρ0 0
  have r1 : ev ρ0 (.tmp 1) = ekL l := hρ0 1
  have r2 : ev ρ0 (.tmp 2) = .int .i64 i := hρ0 2
  clear hρ0
  have hu := Up.refl w
  refine W.seqR ?_
  refine WL.cons rfl (st_box r1 ?_)
  intro b4 w1 m4; have B4 := m4.blk
  replace h := h.up m4.up
  replace hu := hu.trans m4.up
  refine WL.cons rfl (st_assign uc ?_)
  refine WL.nil ?_
  refine W.gen ?_; intro ρ1 hρ
  have q0 := (hρ 0).trans (un (un r0)); have q2 := (hρ 2).trans (un (un r2)); have q4 := (hρ 4).trans (un us)
  clear hρ r0 r1 r2
  have r0 := q0; clear q0; have r2 := q2; clear q2; have r4 := q4; clear q4
  refine W.seq ?_
  refine W.seqR ?_
  refine WL.cons rfl (st_move r0 ?_)
  refine WL.cons rfl (st_loadK Try.isAgg29 Try.sizeOf29 (un r4) (cells2 (B4.cell rfl) (B4.cell rfl)) rfl ?_)
  refine WL.cons rfl (st_move (un (un r2)) ?_)
  refine WL.cons rfl (st_call3 ent35 (un (un us)) (un us) us (((able_dead _ h l i)).mono ?_))
  intro va w2 ⟨hva, ua⟩; subst hva
  replace h := h.up ua
  replace B4 := B4.up ua
  replace hu := hu.trans ua
  refine WL.cons rfl (st_assign us ?_)
  refine WL.nil ?_
  refine W.gen ?_; intro ρ2 hρ
  have q0 := (hρ 0).trans (un (un (un (un (un r0))))); have q2 := (hρ 2).trans (un (un (un (un (un r2))))); have q4 := (hρ 4).trans (un (un (un (un (un r4))))); have q7 := (hρ 7).trans us
  clear hρ r0 r2 r4
  have r0 := q0; clear q0; have r2 := q2; clear q2; have r4 := q4; clear q4; have r7 := q7; clear q7
  refine W.seqR ?_
  refine WL.cons rfl (st_move r7 ?_)
  refine WL.cons rfl (st_neq us uc ?_)
  refine WL.nil ?_
  refine W.gen ?_; intro ρ3 hρ
  have q0 := (hρ 0).trans (un (un r0)); have q2 := (hρ 2).trans (un (un r2)); have q4 := (hρ 4).trans (un (un r4)); have q7 := (hρ 7).trans (un (un r7))
  have q13 := (hρ 13).trans us
  clear hρ r0 r2 r4 r7
  have r0 := q0; clear q0; have r2 := q2; clear q2; have r4 := q4; clear q4; have r7 := q7; clear q7; have r13 := q13; clear q13
  refine W.condT r13 (by decide) ?_
  refine W.seqR ?_
  refine WL.cons rfl (st_move r7 ?_)
  refine WL.cons rfl (st_assign us ?_)
  refine WL.nil ?_
  refine W.gen ?_; intro ρ4 hρ
  have q6 := (hρ 6).trans us
  clear hρ r0 r13 r2 r4 r7
  have r6 := q6; clear q6
  refine W.ret ?_
  refine fin1 r6 ?_
  exact ⟨rfl, hu⟩

/-- towline towlinelaw04.does -/
theorem does_dead {o : Option Addr} (w : World) (h : Dead w o) (k : DoS) (vb : Value) : Does Try.prog 13 #[.pointer o, .agg (doCells k vb).toArray] w (fun v w' => v = .tuple #[.slice none 0 0, .bool false, .int .i64 6] ∧ Up w w') := by
  refine fn_of_W (rs := [4, 5, 6]) (N := 58) Try.func13 rfl rfl rfl (by simp) ?_
  intro ρ0 hρ0
  have r0 : ev ρ0 (.tmp 0) = .pointer o := hρ0 0
  have r1 : ev ρ0 (.tmp 1) = .agg (doCells k vb).toArray := hρ0 1
  clear hρ0
  have hu := Up.refl w
  refine W.seqR ?_
  refine WL.cons rfl (st_box r1 ?_)
  intro b3 w1 m3; have B3 := m3.blk
  replace h := h.up m3.up
  replace hu := hu.trans m3.up
  refine WL.cons rfl (st_assign uc ?_)
  refine WL.cons rfl (st_assign uc ?_)
  refine WL.cons rfl (st_assign uc ?_)
  refine WL.nil ?_
  refine W.gen ?_; intro ρ1 hρ
  have q0 := (hρ 0).trans (un (un (un (un r0)))); have q3 := (hρ 3).trans (un (un (un us)))
  clear hρ r0 r1
  have r0 := q0; clear q0; have r3 := q3; clear q3
  refine W.seq ?_
  refine W.seqR ?_
  refine WL.cons rfl (st_fieldAddr (f := 0) (k := 0) r3 Try.underlying33 rfl rfl Try.sizeOf3 ?_)
  refine WL.cons rfl (st_load1 Try.isAgg3 us (B3.cell rfl) ?_)
  refine WL.cons rfl (st_conv us Try.underlying3 Try.underlying37 rfl ?_)
  refine WL.cons rfl (st_rem us uc (by omega) rfl ?_)
  refine WL.cons rfl (st_conv us Try.underlying37 Try.underlying3 (show _ = opN k.op from rfl) ?_)
  refine WL.nil ?_
  refine W.gen ?_; intro ρ2 hρ
  have q0 := (hρ 0).trans (un (un (un (un (un r0))))); have q3 := (hρ 3).trans (un (un (un (un (un r3))))); have q11 := (hρ 11).trans us
  clear hρ r0 r3
  have r0 := q0; clear q0; have r3 := q3; clear q3; have r11 := q11; clear q11
  refine W.block ?_
  refine W.seq ?_
  refine W.seqR ?_
  refine WL.cons rfl (st_eql r11 uc ?_)
  refine WL.cons rfl (st_assign us ?_)
  refine WL.nil ?_
  refine W.gen ?_; intro ρ3 hρ
  have q0 := (hρ 0).trans (un (un r0)); have q3 := (hρ 3).trans (un (un r3)); have q11 := (hρ 11).trans (un (un r11)); have q12 := (hρ 12).trans us
  clear hρ r0 r11 r3
  have r0 := q0; clear q0; have r3 := q3; clear q3; have r11 := q11; clear q11; have r12 := q12; clear q12
  refine W.meet (fun ρ' w' => ev ρ' (.tmp 12) = .bool (decide (opN k.op = 3) || decide (opN k.op = 4)) ∧ ev ρ' (.tmp 0) = ev ρ3 (.tmp 0) ∧ ev ρ' (.tmp 3) = ev ρ3 (.tmp 3) ∧ ev ρ' (.tmp 11) = ev ρ3 (.tmp 11) ∧ w' = w1) ?_ ?_
  · skip
    have r0_ := r0
    have r3_ := r3
    have r11_ := r11
    refine W.cond r12 (fun hc2 => ?_) (fun hc2 => ?_)
    · skip
      try simp only [tests] at hc2
      refine W.skip ?_
      exact ⟨(by first | exact r12 | (refine (r12).trans ?_; simp_all)), (r0.trans r0_.symm), (r3.trans r3_.symm), (r11.trans r11_.symm), rfl⟩
    · skip
      try simp only [tests] at hc2
      refine W.endR ?_
      refine WL.cons rfl (st_eql r11 uc ?_)
      refine WL.cons rfl (st_assign us ?_)
      refine WL.nil ?_
      exact ⟨(by first | exact us | (refine (us).trans ?_; simp_all)), ((un (un r0)).trans r0_.symm), ((un (un r3)).trans r3_.symm), ((un (un r11)).trans r11_.symm), rfl⟩
  intro ρ4 w2 ⟨q12, q0, q3, q11, hw⟩
  replace q0 := q0.trans r0
  replace q3 := q3.trans r3
  replace q11 := q11.trans r11
  clear r0 r11 r12 r3
  have r12 := q12; clear q12; have r0 := q0; clear q0; have r3 := q3; clear q3; have r11 := q11; clear q11
  subst hw
  refine W.cond r12 (fun hc3 => ?_) (fun hc3 => ?_)
  · skip
    try simp only [tests] at hc3
    refine W.seqR ?_
    refine WL.cons rfl (st_move r0 ?_)
    refine WL.cons rfl (st_fieldAddr (f := 2) (k := 1) (un r3) Try.underlying33 rfl rfl Try.sizeOf29 ?_)
    refine WL.cons rfl (st_loadK Try.isAgg29 Try.sizeOf29 us (cells2 (B3.cell rfl) (B3.cell rfl)) rfl ?_)
    refine WL.cons rfl (st_fieldAddr (f := 1) (k := 0) (un (un (un r3))) Try.underlying33 rfl rfl Try.sizeOf3 ?_)
    refine WL.cons rfl (st_load1 Try.isAgg3 us (B3.cell rfl) ?_)
    refine WL.cons rfl (st_call3 ent29 (un (un (un (un us)))) (un (un us)) us (((take_dead _ h k.l k.i)).mono ?_))
    intro vt w3 ⟨hvt, ut⟩; subst hvt
    replace h := h.up ut
    replace B3 := B3.up ut
    replace hu := hu.trans ut
    refine WL.cons rfl (st_extract us rfl ?_)
    refine WL.cons rfl (st_extract (un us) rfl ?_)
    refine WL.cons rfl (st_extract (un (un us)) rfl ?_)
    refine WL.cons rfl (st_assign (un (un us)) ?_)
    refine WL.cons rfl (st_assign (un (un us)) ?_)
    refine WL.cons rfl (st_assign (un (un us)) ?_)
    refine WL.nil ?_
    refine W.gen ?_; intro ρ5 hρ
    have q4 := (hρ 4).trans (un (un us)); have q5 := (hρ 5).trans (un us); have q6 := (hρ 6).trans us
    clear hρ r0 r11 r12 r3
    have r4 := q4; clear q4; have r5 := q5; clear q5; have r6 := q6; clear q6
    refine W.ret ?_
    refine fin3 r4 r5 r6 ?_
    exact ⟨rfl, hu⟩
  · skip
    try simp only [tests] at hc3
    refine W.seqR ?_
    refine WL.cons rfl (st_eql r11 uc ?_)
    refine WL.cons rfl (st_assign us ?_)
    refine WL.nil ?_
    refine W.gen ?_; intro ρ6 hρ
    have q0 := (hρ 0).trans (un (un r0)); have q3 := (hρ 3).trans (un (un r3)); have q11 := (hρ 11).trans (un (un r11)); have q24 := (hρ 24).trans us
    clear hρ r0 r11 r12 r3
    have r0 := q0; clear q0; have r3 := q3; clear q3; have r11 := q11; clear q11; have r24 := q24; clear q24
    refine W.cond r24 (fun hc5 => ?_) (fun hc5 => ?_)
    · skip
      try simp only [tests] at hc5
      refine W.seqR ?_
      refine WL.cons rfl (st_move r0 ?_)
      refine WL.cons rfl (st_fieldAddr (f := 2) (k := 1) (un r3) Try.underlying33 rfl rfl Try.sizeOf29 ?_)
      refine WL.cons rfl (st_loadK Try.isAgg29 Try.sizeOf29 us (cells2 (B3.cell rfl) (B3.cell rfl)) rfl ?_)
      refine WL.cons rfl (st_fieldAddr (f := 1) (k := 0) (un (un (un r3))) Try.underlying33 rfl rfl Try.sizeOf3 ?_)
      refine WL.cons rfl (st_load1 Try.isAgg3 us (B3.cell rfl) ?_)
      refine WL.cons rfl (st_call3 ent32 (un (un (un (un us)))) (un (un us)) us (((lose_dead _ h k.l k.i)).mono ?_))
      intro vt w4 ⟨hvt, ut⟩; subst hvt
      replace h := h.up ut
      replace B3 := B3.up ut
      replace hu := hu.trans ut
      refine WL.cons rfl (st_assign uc ?_)
      refine WL.cons rfl (st_assign uc ?_)
      refine WL.cons rfl (st_assign (un (un us)) ?_)
      refine WL.nil ?_
      refine W.gen ?_; intro ρ7 hρ
      have q4 := (hρ 4).trans (un (un us)); have q5 := (hρ 5).trans (un us); have q6 := (hρ 6).trans us
      clear hρ r0 r11 r24 r3
      have r4 := q4; clear q4; have r5 := q5; clear q5; have r6 := q6; clear q6
      refine W.ret ?_
      refine fin3 r4 r5 r6 ?_
      exact ⟨rfl, hu⟩
    · skip
      try simp only [tests] at hc5
      refine W.seqR ?_
      refine WL.cons rfl (st_eql r11 uc ?_)
      refine WL.cons rfl (st_assign us ?_)
      refine WL.nil ?_
      refine W.gen ?_; intro ρ8 hρ
      have q0 := (hρ 0).trans (un (un r0)); have q3 := (hρ 3).trans (un (un r3)); have q11 := (hρ 11).trans (un (un r11)); have q32 := (hρ 32).trans us
      clear hρ r0 r11 r24 r3
      have r0 := q0; clear q0; have r3 := q3; clear q3; have r11 := q11; clear q11; have r32 := q32; clear q32
      refine W.cond r32 (fun hc7 => ?_) (fun hc7 => ?_)
      · skip
        try simp only [tests] at hc7
        refine W.seqR ?_
        refine WL.cons rfl (st_move r0 ?_)
        refine WL.cons rfl (st_fieldAddr (f := 2) (k := 1) (un r3) Try.underlying33 rfl rfl Try.sizeOf29 ?_)
        refine WL.cons rfl (st_loadK Try.isAgg29 Try.sizeOf29 us (cells2 (B3.cell rfl) (B3.cell rfl)) rfl ?_)
        refine WL.cons rfl (st_fieldAddr (f := 1) (k := 0) (un (un (un r3))) Try.underlying33 rfl rfl Try.sizeOf3 ?_)
        refine WL.cons rfl (st_load1 Try.isAgg3 us (B3.cell rfl) ?_)
        refine WL.cons rfl (st_call3 ent33 (un (un (un (un us)))) (un (un us)) us (((double_dead _ h k.l k.i)).mono ?_))
        intro vt w5 ⟨hvt, ut⟩; subst hvt
        replace h := h.up ut
        replace B3 := B3.up ut
        replace hu := hu.trans ut
        refine WL.cons rfl (st_assign uc ?_)
        refine WL.cons rfl (st_assign uc ?_)
        refine WL.cons rfl (st_assign (un (un us)) ?_)
        refine WL.nil ?_
        refine W.gen ?_; intro ρ9 hρ
        have q4 := (hρ 4).trans (un (un us)); have q5 := (hρ 5).trans (un us); have q6 := (hρ 6).trans us
        clear hρ r0 r11 r3 r32
        have r4 := q4; clear q4; have r5 := q5; clear q5; have r6 := q6; clear q6
        refine W.ret ?_
        refine fin3 r4 r5 r6 ?_
        exact ⟨rfl, hu⟩
      · skip
        try simp only [tests] at hc7
        refine W.seqR ?_
        refine WL.cons rfl (st_eql r11 uc ?_)
        refine WL.cons rfl (st_assign us ?_)
        refine WL.nil ?_
        refine W.gen ?_; intro ρ10 hρ
        have q0 := (hρ 0).trans (un (un r0)); have q3 := (hρ 3).trans (un (un r3)); have q11 := (hρ 11).trans (un (un r11)); have q40 := (hρ 40).trans us
        clear hρ r0 r11 r3 r32
        have r0 := q0; clear q0; have r3 := q3; clear q3; have r11 := q11; clear q11; have r40 := q40; clear q40
        refine W.cond r40 (fun hc9 => ?_) (fun hc9 => ?_)
        · skip
          try simp only [tests] at hc9
          refine W.seqR ?_
          refine WL.cons rfl (st_move r0 ?_)
          refine WL.cons rfl (st_fieldAddr (f := 4) (k := 0) (un r3) Try.underlying33 rfl rfl Try.sizeOf31 ?_)
          refine WL.cons rfl (st_load1 Try.isAgg31 us (B3.cell rfl) ?_)
          refine WL.cons rfl (st_call2 ent30 (un (un us)) us (((wall_dead _ h k.side)).mono ?_))
          intro vt w6 ⟨hvt, ut⟩; subst hvt
          replace h := h.up ut
          replace B3 := B3.up ut
          replace hu := hu.trans ut
          refine WL.cons rfl (st_assign uc ?_)
          refine WL.cons rfl (st_assign uc ?_)
          refine WL.cons rfl (st_assign (un (un us)) ?_)
          refine WL.nil ?_
          refine W.gen ?_; intro ρ11 hρ
          have q4 := (hρ 4).trans (un (un us)); have q5 := (hρ 5).trans (un us); have q6 := (hρ 6).trans us
          clear hρ r0 r11 r3 r40
          have r4 := q4; clear q4; have r5 := q5; clear q5; have r6 := q6; clear q6
          refine W.ret ?_
          refine fin3 r4 r5 r6 ?_
          exact ⟨rfl, hu⟩
        · skip
          try simp only [tests] at hc9
          refine W.seqR ?_
          refine WL.cons rfl (st_eql r11 uc ?_)
          refine WL.cons rfl (st_assign us ?_)
          refine WL.nil ?_
          refine W.gen ?_; intro ρ12 hρ
          have q0 := (hρ 0).trans (un (un r0)); have q3 := (hρ 3).trans (un (un r3)); have q46 := (hρ 46).trans us
          clear hρ r0 r11 r3 r40
          have r0 := q0; clear q0; have r3 := q3; clear q3; have r46 := q46; clear q46
          refine W.cond r46 (fun hc11 => ?_) (fun hc11 => ?_)
          · skip
            try simp only [tests] at hc11
            refine W.seqR ?_
            refine WL.cons rfl (st_move r0 ?_)
            refine WL.cons rfl (st_fieldAddr (f := 1) (k := 0) (un r3) Try.underlying33 rfl rfl Try.sizeOf3 ?_)
            refine WL.cons rfl (st_load1 Try.isAgg3 us (B3.cell rfl) ?_)
            refine WL.cons rfl (st_call2 ent34 (un (un us)) us (((forget_dead _ h k.i)).mono ?_))
            intro vt w7 ⟨hvt, ut⟩; subst hvt
            replace h := h.up ut
            replace B3 := B3.up ut
            replace hu := hu.trans ut
            refine WL.cons rfl (st_assign uc ?_)
            refine WL.cons rfl (st_assign uc ?_)
            refine WL.cons rfl (st_assign (un (un us)) ?_)
            refine WL.nil ?_
            refine W.gen ?_; intro ρ13 hρ
            have q4 := (hρ 4).trans (un (un us)); have q5 := (hρ 5).trans (un us); have q6 := (hρ 6).trans us
            clear hρ r0 r3 r46
            have r4 := q4; clear q4; have r5 := q5; clear q5; have r6 := q6; clear q6
            refine W.ret ?_
            refine fin3 r4 r5 r6 ?_
            exact ⟨rfl, hu⟩
          · skip
            try simp only [tests] at hc11
            refine W.skip ?_
            refine W.seqR ?_
            refine WL.cons rfl (st_move r0 ?_)
            refine WL.cons rfl (st_fieldAddr (f := 2) (k := 1) (un r3) Try.underlying33 rfl rfl Try.sizeOf29 ?_)
            refine WL.cons rfl (st_loadK Try.isAgg29 Try.sizeOf29 us (cells2 (B3.cell rfl) (B3.cell rfl)) rfl ?_)
            refine WL.cons rfl (st_fieldAddr (f := 3) (k := 0) (un (un (un r3))) Try.underlying33 rfl rfl Try.sizeOf30 ?_)
            refine WL.cons rfl (st_load1 Try.isAgg30 us (B3.cell rfl) ?_)
            refine WL.cons rfl (st_call3 ent28 (un (un (un (un us)))) (un (un us)) us (((send_dead _ h k.l _)).mono ?_))
            intro vt w8 ⟨hvt, ut⟩; subst hvt
            replace h := h.up ut
            replace B3 := B3.up ut
            replace hu := hu.trans ut
            refine WL.cons rfl (st_assign uc ?_)
            refine WL.cons rfl (st_assign uc ?_)
            refine WL.cons rfl (st_assign (un (un us)) ?_)
            refine WL.nil ?_
            refine W.gen ?_; intro ρ14 hρ
            have q4 := (hρ 4).trans (un (un us)); have q5 := (hρ 5).trans (un us); have q6 := (hρ 6).trans us
            clear hρ r0 r3 r46
            have r4 := q4; clear q4; have r5 := q5; clear q5; have r6 := q6; clear q6
            refine W.ret ?_
            refine fin3 r4 r5 r6 ?_
            exact ⟨rfl, hu⟩

theorem info65 : EInfo Try.prog 25 (.pointer none) 1 8 := by unfold EInfo; kernel_rfl
theorem info22' : EInfo Try.prog 22 (.slice none 0 0) 1 24 := by unfold EInfo; kernel_rfl
section
variable {P : Program} {ρ : Env} {w : World} {K : Value → World → Prop} {d : Option Nat} {ty : TypeId} {ps : String} {af : Array Edge} {gd : Option (Nat × Bool)}
theorem run_buildN {T E : TypeId} {z : Value} {size bytes n : Nat} {parts : Array (Nat × Value)} {cells : Array Value} (hT : P.underlying T = some (.slice E)) (hi : EInfo P E z size bytes) (hs : ¬ n * size > 2 ^ 24) (hp : ¬ n * size = 0)
    (hf : Instr.fill (fun j => some (j * size, size)) ((Array.range (n * size)).map (z.cells[· % z.cells.size]!)) parts.toList = some cells) (w : World) :
    (Instr.buildSlice T n parts).run P w = .ok (.slice (some ⟨w.heap.size, 0, none⟩) n n) (w.alloc (.cells cells E)) := by
  obtain ⟨i, hi1, hi2, hi3, _⟩ := info_parts hi
  subst hi3
  exact Go.run_buildSlice (P := P) w T E n parts cells i z hT hi1 hi2 hs hp hf
theorem st_bs1 {T E : TypeId} {n : Nat} {x : Operand} {v : Value} {cells : Array Value} (hx : ev ρ x = v) (hrun : ∀ w, (Instr.buildSlice T n #[(0, v)]).run P w = .ok (.slice (some ⟨w.heap.size, 0, none⟩) n n) (w.alloc (.cells cells E)))
    (h : ∀ b w', Made w w' b (.cells cells E) → K (.slice (some ⟨b, 0, none⟩) n n) w') : Step P ⟨d, .buildSlice T n #[(0, x)], ty, ps, af, gd⟩ ρ w K := by
  subst hx
  exact st_buildSlice (fun w => by simpa using hrun w) h
theorem st_bs2 {T E : TypeId} {n : Nat} {x y : Operand} {v u : Value} {cells : Array Value} (hx : ev ρ x = v) (hy : ev ρ y = u) (hrun : ∀ w, (Instr.buildSlice T n #[(0, v), (1, u)]).run P w = .ok (.slice (some ⟨w.heap.size, 0, none⟩) n n) (w.alloc (.cells cells E)))
    (h : ∀ b w', Made w w' b (.cells cells E) → K (.slice (some ⟨b, 0, none⟩) n n) w') : Step P ⟨d, .buildSlice T n #[(0, x), (1, y)], ty, ps, af, gd⟩ ρ w K := by
  subst hx; subst hy
  exact st_buildSlice (fun w => by simpa using hrun w) h
end
theorem info33 : EInfo Try.prog 33 (.agg #[.int .i64 0, .int .i64 0, .int .i64 0, .int .i64 0, .slice none 0 0, .int .u64 0]) 6 64 := by unfold EInfo; kernel_rfl
theorem build_do (k : DoS) (vb : Value) (w : World) : (Instr.buildSlice 22 1 #[(0, .agg (doCells k vb).toArray)]).run Try.prog w = .ok (.slice (some ⟨w.heap.size, 0, none⟩) 1 1) (w.alloc (.cells (doCells k vb).toArray 33)) :=
  run_buildN Try.underlying22 info33 (by decide) (by decide) (by kernel_rfl) w
theorem build_two (b : Nat) (w : World) : (Instr.buildSlice 65 2 #[(0, .pointer none), (1, .pointer (some ⟨b, 0, none⟩))]).run Try.prog w = .ok (.slice (some ⟨w.heap.size, 0, none⟩) 2 2) (w.alloc (.cells #[.pointer none, .pointer (some ⟨b, 0, none⟩)] 25)) :=
  run_buildN Try.underlying65 info65 (by decide) (by decide) (by kernel_rfl) w

theorem do_size {S : Nat → Prop} {w : World} {vb : Value} {l : Msg} (h : RB S w vb l) : vb.oneCell' = true := by
  obtain ⟨o, cap, rfl, _⟩ := h; rfl

/-- towline towlinelaw04.LinksNobody -/
theorem nobody_walk (k : DoS) (vb : Value) (w : World) (hvb : RB AnyB w vb k.b) : Does Try.prog 8 #[.agg (doCells k vb).toArray] w (fun v w' => v = .bool true ∧ Up w w') := by
  refine fn_of_W (rs := [2]) (N := 76) Try.func8 rfl rfl rfl (by simp) ?_
  intro ρ0 hρ0
  have r0 : ev ρ0 (.tmp 0) = .agg (doCells k vb).toArray := hρ0 0
  clear hρ0
  have hu := Up.refl w
  refine W.seqR ?_
  refine WL.cons rfl (st_box r0 ?_)
  intro b1 w1 m1; have B1 := m1.blk
  replace hvb := hvb.up m1.up
  replace hu := hu.trans m1.up
  refine WL.cons rfl (st_assign uc ?_)
  refine WL.nil ?_
  refine W.gen ?_; intro ρ1 hρ
  have q1 := (hρ 1).trans (un us)
  clear hρ r0
  have r1 := q1; clear q1
  refine W.seq ?_
  refine W.seqR ?_
  refine WL.cons rfl (st_loadK Try.isAgg33 Try.sizeOf33 r1 (B1.row) rfl ?_)
  refine WL.cons rfl (st_bs1 us (build_do k vb) ?_)
  intro b11 w2 m11; replace hvb := hvb.up m11.up; replace B1 := B1.up m11.up; replace hu := hu.trans m11.up
  have hrd : RDos AnyB w2 (.slice (some ⟨b11, 0, none⟩) 1 1) [k] := ⟨[vb], made_sl (cells := flat [k] [vb]) (by simpa [flat] using m11) (by simp [flat, doCells]) trivial, hvb, trivial⟩
  refine WL.cons rfl (st_build1 us Try.underlying70 info22' rfl rfl ?_)
  intro b12 w3 m12; have hrl : RL AnyB w3 _ [[k]] := ⟨_, made_sl (cells := [_]) m12 rfl trivial, hrd.up m12.up, trivial⟩; replace hvb := hvb.up m12.up; replace B1 := B1.up m12.up; replace hu := hu.trans m12.up; clear m12
  refine WL.cons rfl (st_call1 ent10 us (((short_ok [[k]] _ hrl (by simp) (by simp))).mono ?_))
  intro vs w4 ⟨t, hvs, us1⟩; subst hvs; replace hvb := hvb.up us1; replace B1 := B1.up us1; replace hu := hu.trans us1; clear hrl us1 hrd m11
  refine WL.cons rfl (st_not us ?_)
  refine WL.nil ?_
  refine W.gen ?_; intro ρ2 hρ
  have q1 := (hρ 1).trans (un (un (un (un (un r1))))); have q14 := (hρ 14).trans us
  clear hρ r1
  have r1 := q1; clear q1; have r14 := q14; clear q14
  refine W.cond r14 (fun hc1 => ?_) (fun hc1 => ?_)
  · skip
    try simp only [tests] at hc1
    refine W.seqR ?_
    refine WL.cons rfl (st_call0 ent11  (((awake_ok _)).mono ?_))
    intro va w5 ⟨hva, ua⟩; subst hva; replace hu := hu.trans ua
    refine WL.cons rfl (st_assign us ?_)
    refine WL.nil ?_
    refine W.gen ?_; intro ρ3 hρ
    have q2 := (hρ 2).trans us
    clear hρ r1 r14
    have r2 := q2; clear q2
    refine W.ret ?_
    refine fin1 r2 ?_
    exact ⟨rfl, hu⟩
  · skip
    try simp only [tests] at hc1
    refine W.skip ?_
    refine W.seq ?_
    refine W.seqR ?_
    refine WL.cons rfl (st_buildP0 (v := .agg #[.map none, .int .u64 0, .int .i64 0, .bool false]) (fun w => by kernel_rfl) ?_)
    refine WL.cons rfl (st_box us ?_)
    intro b17 w6 m17; have B17 := m17.blk
    have n1_17 : b1 ≠ b17 := by have := B1.lt; have := m17.at_; omega
    replace hvb := hvb.up m17.up
    replace B1 := B1.up m17.up
    replace hu := hu.trans m17.up
    refine WL.cons rfl (st_bs2 uc us (build_two b17) ?_)
    intro bs w7 ms; have Bs := ms.blk; replace B17 := B17.up ms.up; replace hvb := hvb.up ms.up; replace B1 := B1.up ms.up; replace hu := hu.trans ms.up; clear ms
    refine WL.cons rfl (st_lenS us Try.underlying65 ?_)
    refine WL.cons rfl (st_move uc ?_)
    refine WL.nil ?_
    refine W.gen ?_; intro ρ4 hρ
    have q1 := (hρ 1).trans (un (un (un (un (un r1))))); have q18 := (hρ 18).trans (un (un us)); have q19 := (hρ 19).trans (un us); have q20 := (hρ 20).trans us
    clear hρ r1 r14
    have r1 := q1; clear q1; have r18 := q18; clear q18; have r19 := q19; clear q19; have r20 := q20; clear q20
    refine W.block ?_
    refine W.loop (fun nn ρ' w' => ∃ i : Nat, ev ρ' (.tmp 20) = .int .i64 (i : Int) ∧ ev ρ' (.tmp 1) = ev ρ4 (.tmp 1) ∧ ev ρ' (.tmp 18) = ev ρ4 (.tmp 18) ∧ ev ρ' (.tmp 19) = ev ρ4 (.tmp 19) ∧ i + nn = 2 ∧ Up w w' ∧ Blk w' b1 (.cells (Value.agg (doCells k vb).toArray).cells 33) ∧ Blk w' bs (.cells #[.pointer none, .pointer (some ⟨b17, 0, none⟩)] 25) ∧ Blk w' b17 (.cells #[.map none, .int .u64 0, .int .i64 0, .bool false] 64)) (2) ?_ ?_
    · exact ⟨0, (by first | exact r20 | (refine r20.trans ?_; congr 1; omega) | (refine r20.trans ?_; simp)), rfl, rfl, rfl, by omega, hu, B1, Bs, B17⟩
    intro nn ρ5 w8 ⟨i, q20, q1, q18, q19, hi, hu, B1, Bs, B17⟩
    have s1 := q1; replace q1 := q1.trans r1
    have s18 := q18; replace q18 := q18.trans r18
    have s19 := q19; replace q19 := q19.trans r19
    clear r1 r18 r19 r20
    have r20 := q20; clear q20; have r1 := q1; clear q1; have r18 := q18; clear q18; have r19 := q19; clear q19
    have x0_1 := s1.symm.trans r1; clear s1
    have x0_18 := s18.symm.trans r18; clear s18
    have x0_19 := s19.symm.trans r19; clear s19
    refine W.seqR ?_
    refine WL.cons rfl (st_lss r20 r19 ?_)
    refine WL.nil ?_
    refine W.gen ?_; intro ρ6 hρ
    have q1 := (hρ 1).trans (un r1); have q18 := (hρ 18).trans (un r18); have q19 := (hρ 19).trans (un r19); have q20 := (hρ 20).trans (un r20)
    have q21 := (hρ 21).trans us
    clear hρ r1 r18 r19 r20
    have r1 := q1; clear q1; have r18 := q18; clear q18; have r19 := q19; clear q19; have r20 := q20; clear q20; have r21 := q21; clear q21
    refine W.seq ?_
    refine W.cond r21 (fun hc4 => ?_) (fun hc4 => ?_)
    · skip
      try simp only [tests] at hc4
      obtain ⟨o, hco, hd⟩ : ∃ o, w8.cell? ⟨bs, 0 + i * 1, none⟩ = some (.pointer o) ∧ Dead w8 o := by
        rcases (show i = 0 ∨ i = 1 by omega) with rfl | rfl
        · exact ⟨none, Bs.cell rfl, .inl rfl⟩
        · exact ⟨_, Bs.cell rfl, .inr ⟨b17, rfl, B17⟩⟩
      refine W.skip ?_
      refine W.seq ?_
      refine W.block ?_
      refine W.seqR ?_
      refine WL.cons rfl (st_indexAddrS r18 r20 Try.underlying65 Try.sizeOf25 (by omega) (by omega) ?_)
      refine WL.cons rfl (st_load1 Try.isAgg25 us (hco) ?_)
      refine WL.cons rfl (st_assign us ?_)
      refine WL.nil ?_
      refine W.gen ?_; intro ρ7 hρ
      have q1 := (hρ 1).trans (un (un (un r1))); have q4 := (hρ 4).trans us; have q18 := (hρ 18).trans (un (un (un r18))); have q19 := (hρ 19).trans (un (un (un r19)))
      have q20 := (hρ 20).trans (un (un (un r20)))
      clear hρ r1 r18 r19 r20 r21
      have r1 := q1; clear q1; have r4 := q4; clear q4; have r18 := q18; clear q18; have r19 := q19; clear q19; have r20 := q20; clear q20
      refine W.seqR ?_
      refine WL.cons rfl (st_move r4 ?_)
      refine WL.cons rfl (st_loadK Try.isAgg33 Try.sizeOf33 (un r1) (B1.row) rfl ?_)
      refine WL.cons rfl (st_call2 ent13 (un us) us (((does_dead _ hd k vb)).mono ?_))
      intro vt w9 ⟨hvt, ut⟩; subst hvt
      replace B1 := B1.up ut
      replace B17 := B17.up ut
      replace hd := hd.up ut
      replace Bs := Bs.up ut
      replace hu := hu.trans ut
      refine WL.cons rfl (st_move us ?_)
      refine WL.cons rfl (st_extract us rfl ?_)
      refine WL.cons rfl (st_extract (un us) rfl ?_)
      refine WL.cons rfl (st_extract (un (un us)) rfl ?_)
      refine WL.cons rfl (st_assign (un (un us)) ?_)
      refine WL.cons rfl (st_assign (un (un us)) ?_)
      refine WL.cons rfl (st_assign (un (un us)) ?_)
      refine WL.nil ?_
      refine W.gen ?_; intro ρ8 hρ
      have q1 := (hρ 1).trans (un (un (un (un (un (un (un (un (un (un r1)))))))))); have q4 := (hρ 4).trans (un (un (un (un (un (un (un (un (un (un r4)))))))))); have q5 := (hρ 5).trans (un (un us)); have q6 := (hρ 6).trans (un us)
      have q7 := (hρ 7).trans us; have q18 := (hρ 18).trans (un (un (un (un (un (un (un (un (un (un r18)))))))))); have q19 := (hρ 19).trans (un (un (un (un (un (un (un (un (un (un r19)))))))))); have q20 := (hρ 20).trans (un (un (un (un (un (un (un (un (un (un r20))))))))))
      clear hρ r1 r18 r19 r20 r4
      have r1 := q1; clear q1; have r4 := q4; clear q4; have r5 := q5; clear q5; have r6 := q6; clear q6; have r7 := q7; clear q7; have r18 := q18; clear q18; have r19 := q19; clear q19; have r20 := q20; clear q20
      refine W.seqR ?_
      refine WL.cons rfl (st_move r4 ?_)
      refine WL.cons rfl (st_fieldAddr (f := 2) (k := 1) (un r1) Try.underlying33 rfl rfl Try.sizeOf29 ?_)
      refine WL.cons rfl (st_loadK Try.isAgg29 Try.sizeOf29 us (cells2 (B1.cell rfl) (B1.cell rfl)) rfl ?_)
      refine WL.cons rfl (st_fieldAddr (f := 1) (k := 0) (un (un (un r1))) Try.underlying33 rfl rfl Try.sizeOf3 ?_)
      refine WL.cons rfl (st_load1 Try.isAgg3 us (B1.cell rfl) ?_)
      refine WL.cons rfl (st_call3 ent14 (un (un (un (un us)))) (un (un us)) us (((peek_dead _ hd k.l k.i)).mono ?_))
      intro vt w10 ⟨hvt, ut⟩; subst hvt
      replace B1 := B1.up ut
      replace B17 := B17.up ut
      replace hd := hd.up ut
      replace Bs := Bs.up ut
      replace hu := hu.trans ut
      refine WL.cons rfl (st_move us ?_)
      refine WL.cons rfl (st_extract us rfl ?_)
      refine WL.cons rfl (st_extract (un us) rfl ?_)
      refine WL.cons rfl (st_assign (un us) ?_)
      refine WL.cons rfl (st_assign (un us) ?_)
      refine WL.nil ?_
      refine W.gen ?_; intro ρ9 hρ
      have q1 := (hρ 1).trans (un (un (un (un (un (un (un (un (un (un (un r1))))))))))); have q4 := (hρ 4).trans (un (un (un (un (un (un (un (un (un (un (un r4))))))))))); have q5 := (hρ 5).trans (un (un (un (un (un (un (un (un (un (un (un r5))))))))))); have q6 := (hρ 6).trans (un (un (un (un (un (un (un (un (un (un (un r6)))))))))))
      have q7 := (hρ 7).trans (un (un (un (un (un (un (un (un (un (un (un r7))))))))))); have q8 := (hρ 8).trans (un us); have q9 := (hρ 9).trans us; have q18 := (hρ 18).trans (un (un (un (un (un (un (un (un (un (un (un r18)))))))))))
      have q19 := (hρ 19).trans (un (un (un (un (un (un (un (un (un (un (un r19))))))))))); have q20 := (hρ 20).trans (un (un (un (un (un (un (un (un (un (un (un r20)))))))))))
      clear hρ r1 r18 r19 r20 r4 r5 r6 r7
      have r1 := q1; clear q1; have r4 := q4; clear q4; have r5 := q5; clear q5; have r6 := q6; clear q6; have r7 := q7; clear q7; have r8 := q8; clear q8; have r9 := q9; clear q9; have r18 := q18; clear q18; have r19 := q19; clear q19; have r20 := q20; clear q20
      refine W.seqR ?_
      refine WL.cons rfl (st_move r5 ?_)
      refine WL.cons rfl (st_lenS us Try.underlying30 ?_)
      refine WL.cons rfl (st_move (un (un r8)) ?_)
      refine WL.cons rfl (st_lenS us Try.underlying30 ?_)
      refine WL.cons rfl (st_add (un (un us)) us (wr64 (by omega)) ?_)
      refine WL.cons rfl (st_move (un (un (un (un (un r4))))) ?_)
      refine WL.cons rfl (st_fieldAddr (f := 2) (k := 1) (un (un (un (un (un (un r1)))))) Try.underlying33 rfl rfl Try.sizeOf29 ?_)
      refine WL.cons rfl (st_loadK Try.isAgg29 Try.sizeOf29 us (cells2 (B1.cell rfl) (B1.cell rfl)) rfl ?_)
      refine WL.cons rfl (st_call2 ent16 (un (un us)) us (((len_dead _ hd k.l)).mono ?_))
      intro vt w11 ⟨hvt, ut⟩; subst hvt
      replace B1 := B1.up ut
      replace B17 := B17.up ut
      replace hd := hd.up ut
      replace Bs := Bs.up ut
      replace hu := hu.trans ut
      refine WL.cons rfl (st_add (un (un (un (un us)))) us (wr64 (by omega)) ?_)
      refine WL.cons rfl (st_move (un (un (un (un (un (un (un (un (un (un r4)))))))))) ?_)
      refine WL.cons rfl (st_call1 ent20 us (((lost_dead _ hd )).mono ?_))
      intro vt w12 ⟨hvt, ut⟩; subst hvt
      replace B1 := B1.up ut
      replace B17 := B17.up ut
      replace hd := hd.up ut
      replace Bs := Bs.up ut
      replace hu := hu.trans ut
      refine WL.cons rfl (st_add (un (un us)) us (wr64 (by omega)) ?_)
      refine WL.cons rfl (st_move (un (un (un (un (un (un (un (un (un (un (un (un (un r4))))))))))))) ?_)
      refine WL.cons rfl (st_call1 ent15 us (((busy_dead _ hd )).mono ?_))
      intro vt w13 ⟨hvt, ut⟩; subst hvt
      replace B1 := B1.up ut
      replace B17 := B17.up ut
      replace hd := hd.up ut
      replace Bs := Bs.up ut
      replace hu := hu.trans ut
      refine WL.cons rfl (st_lenS us Try.underlying43 ?_)
      refine WL.cons rfl (st_add (un (un (un us))) us (wr64 (by omega)) ?_)
      refine WL.cons rfl (st_neq us uc ?_)
      refine WL.cons rfl (st_move us ?_)
      refine WL.guardY rfl (us.trans (by simp [*])) rfl (st_move (un (un (un (un (un (un (un (un (un (un (un (un (un (un (un (un (un (un (un r6))))))))))))))))))) ?_)
      refine WL.cons rfl (st_pick (un us) (fun e => by simp at e) (fun _ => us) ?_)
      refine WL.cons rfl (st_move us ?_)
      refine WL.guardY rfl (us.trans (by simp [*])) rfl (st_move (un (un (un (un (un (un (un (un (un (un (un (un (un (un (un (un (un (un (un (un (un (un r7)))))))))))))))))))))) ?_)
      refine WL.guardY rfl ((un us).trans (by simp [*])) rfl (st_neq us uc ?_)
      refine WL.cons rfl (st_pick (un (un us)) (fun e => by simp at e) (fun _ => us) ?_)
      refine WL.cons rfl (st_move us ?_)
      refine WL.guardY rfl (us.trans (by simp [*])) rfl (st_move (un (un (un (un (un (un (un (un (un (un (un (un (un (un (un (un (un (un (un (un (un (un (un (un (un (un r9)))))))))))))))))))))))))) ?_)
      refine WL.guardY rfl ((un us).trans (by simp [*])) rfl (st_neq us uc ?_)
      refine WL.cons rfl (st_pick (un (un us)) (fun e => by simp at e) (fun _ => us) ?_)
      refine WL.cons rfl (st_move us ?_)
      refine WL.guardY rfl (us.trans (by simp [*])) rfl (st_move (un (un (un (un (un (un (un (un (un (un (un (un (un (un (un (un (un (un (un (un (un (un (un (un (un (un (un (un (un (un r4)))))))))))))))))))))))))))))) ?_)
      refine WL.guardY rfl ((un us).trans (by simp [*])) rfl (st_call1 ent17 us (((clone_dead _ hd )).mono ?_))
      intro vt w14 ⟨hvt, ut⟩; subst hvt
      replace B1 := B1.up ut
      replace B17 := B17.up ut
      replace hd := hd.up ut
      replace Bs := Bs.up ut
      replace hu := hu.trans ut
      refine WL.guardY rfl ((un (un us)).trans (by simp [*])) rfl (st_neqP0 us uc Try.underlying25 ?_)
      refine WL.cons rfl (st_pick (un (un (un us))) (fun e => by simp at e) (fun _ => us) ?_)
      refine WL.nil ?_
      refine W.gen ?_; intro ρ10 hρ
      have q1 := (hρ 1).trans (un (un (un (un (un (un (un (un (un (un (un (un (un (un (un (un (un (un (un (un (un (un (un (un (un (un (un (un (un (un (un (un (un (un r1)))))))))))))))))))))))))))))))))); have q18 := (hρ 18).trans (un (un (un (un (un (un (un (un (un (un (un (un (un (un (un (un (un (un (un (un (un (un (un (un (un (un (un (un (un (un (un (un (un (un r18)))))))))))))))))))))))))))))))))); have q19 := (hρ 19).trans (un (un (un (un (un (un (un (un (un (un (un (un (un (un (un (un (un (un (un (un (un (un (un (un (un (un (un (un (un (un (un (un (un (un r19)))))))))))))))))))))))))))))))))); have q20 := (hρ 20).trans (un (un (un (un (un (un (un (un (un (un (un (un (un (un (un (un (un (un (un (un (un (un (un (un (un (un (un (un (un (un (un (un (un (un r20))))))))))))))))))))))))))))))))))
      have q73 := (hρ 73).trans us
      clear hρ r1 r18 r19 r20 r4 r5 r6 r7 r8 r9
      have r1 := q1; clear q1; have r18 := q18; clear q18; have r19 := q19; clear q19; have r20 := q20; clear q20; have r73 := q73; clear q73
      refine W.condF r73 (rfl) ?_
      refine W.skip ?_
      refine W.endR ?_
      refine WL.cons rfl (st_add r20 uc (wr64 (by omega)) ?_)
      refine WL.cons rfl (st_move us ?_)
      refine WL.nil ?_
      exact ⟨nn - 1, (by omega), i + 1, (by first | exact us | (refine us.trans ?_; congr 1; omega) | (refine us.trans ?_; simp)), ((un (un r1)).trans x0_1.symm), ((un (un r18)).trans x0_18.symm), ((un (un r19)).trans x0_19.symm), by omega, hu, B1, Bs, B17⟩
    · skip
      try simp only [tests] at hc4
      refine W.exit ?_
      refine exitHere ?_
      refine W.seqR ?_
      refine WL.cons rfl (st_call0 ent11  (((awake_ok _)).mono ?_))
      intro va w15 ⟨hva, ua⟩; subst hva; replace hu := hu.trans ua
      refine WL.cons rfl (st_assign us ?_)
      refine WL.nil ?_
      refine W.gen ?_; intro ρ11 hρ
      have q2 := (hρ 2).trans us
      clear hρ r1 r18 r19 r20 r21
      have r2 := q2; clear q2
      refine W.ret ?_
      refine fin1 r2 ?_
      exact ⟨rfl, hu⟩

end Go.Proofs.Ytppohfgaegahoaa
