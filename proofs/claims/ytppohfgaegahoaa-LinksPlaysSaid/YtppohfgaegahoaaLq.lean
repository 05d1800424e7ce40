/- Walk: the laws' example. -/
import Derived.Test.YtppohfgaegahoaaLk
import Derived.Test.YtppohfgaegahoaaLp
namespace Go.Proofs.Ytppohfgaegahoaa
open Go.Tw Go.RowKit
attribute [local irreducible] Step WL W WQ Does

theorem info3 : EInfo Try.prog 3 (.int .i64 0) 1 8 := by unfold EInfo; kernel_rfl
def L01 : Lk := (0, 1)
def aw1 : NetS := ⟨[(L01, [[97]])], 0, 0⟩
def aw2 : NetS := ⟨[(L01, [[97], [98]])], 0, 0⟩
def aw3 : NetS := ⟨[(L01, [[97]])], 0, 0⟩
def aw4 : NetS := ⟨[(L01, [[97]])], 2, 0⟩
def aw5 : NetS := ⟨[], 2, 0⟩
theorem aw_1 : NetS.send ⟨[], 0, 0⟩ L01 [97] = (aw1, 0) := rfl
theorem aw_2 : aw1.send L01 [98] = (aw2, 0) := rfl
theorem aw_3 : aw2.take L01 1 = (aw3, some [98], 0) := rfl
theorem aw_4 : ({ aw3 with side := [(1 : Int)].foldl withB 0 } : NetS) = aw4 := rfl
theorem aw_5 : aw4.take L01 0 = (aw5, none, 0) := rfl
theorem aw_6 : aw5.send (0, 0) [] = (aw5, 40) := rfl
theorem aw_k1 : aw1.Ok := by have := netOk_new.send (l := L01) (b := [97]); rw [aw_1] at this; exact this
theorem aw_k2 : aw2.Ok := by have := aw_k1.send (l := L01) (b := [98]); rw [aw_2] at this; exact this
theorem aw_k3 : aw3.Ok := by have := aw_k2.take (l := L01) (i := 1); rw [aw_3] at this; exact this
theorem aw_k4 : aw4.Ok := aw_k3.of rfl
theorem aw_k5 : aw5.Ok := by have := aw_k4.take (l := L01) (i := 0); rw [aw_5] at this; exact this

/-- towline towlinelaw04.awake -/
theorem awake_ok (w : World) : Does Try.prog 11 #[] w (fun v w' => v = .bool true ∧ Up w w') := by
  refine fn_of_W (rs := [0]) (N := 73) Try.func11 rfl rfl rfl (by simp) ?_
  intro ρ0 hρ0
  clear hρ0
  have hu := Up.refl w
  refine W.seqR ?_
  refine WL.cons rfl (st_assign uc ?_)
  refine WL.nil ?_
  refine W.gen ?_; intro ρ1 hρ
  clear hρ
  refine W.seqR ?_
  refine WL.cons rfl (st_call0 ent12  (((new_ok _)).mono ?_))
  intro vn w1 ⟨bn, bm, hvn, hbn, hbm, uN, h⟩; subst hvn; replace hu := hu.trans uN; have hnl := h.blk.lt; have hml := h.map.lt
  refine WL.cons rfl (st_assign us ?_)
  refine WL.nil ?_
  refine W.gen ?_; intro ρ2 hρ
  have q1 := (hρ 1).trans us
  clear hρ
  have r1 := q1; clear q1
  refine W.seqR ?_
  refine WL.cons rfl (st_buildP2 (v := .agg #[.int .i64 0, .int .i64 1]) uc uc (fun w => by kernel_rfl) ?_)
  refine WL.allocStore (v := ekL L01) rfl (fun _ => un us) Try.zeroValue29 Try.sizeOf29 rfl (by first | rfl | kernel_rfl) (by first | exact ekL_one _ | simp [Value.cells, Value.oneCell']) ?_
  intro b2 w2 m2; have B2 := m2.blk
  replace h := h.up m2.up
  replace hu := hu.trans m2.up
  have ab2 := m2.at_
  refine WL.nil ?_
  refine W.gen ?_; intro ρ3 hρ
  have q1 := (hρ 1).trans (un0 (un (un r1))); have q2 := (hρ 2).trans (un0 us)
  clear hρ r1
  have r1 := q1; clear q1; have r2 := q2; clear q2
  refine W.seq ?_
  refine W.seqR ?_
  refine WL.cons rfl (st_move r1 ?_)
  refine WL.cons rfl (st_loadK Try.isAgg29 Try.sizeOf29 (un r2) (cells2 (B2.cell rfl) (B2.cell rfl)) rfl ?_)
  have h0a := h.old; have sz1 := h.blk.lt; have sz2 := h.map.lt; have sz3 := B2.lt
  refine WL.cons rfl (st_build1 uc Try.underlying30 info5 rfl rfl ?_)
  intro ba w3 ma; have Bla := ma.blk; have ala := ma.at_; replace hu := hu.trans ma.up; replace h := h.up ma.up; replace B2 := B2.up ma.up
  refine WL.cons rfl (st_convId us Try.underlying30 Try.underlying5 Bla ?_)
  intro w4 Bca hfa _
  have hla := h.blk.lt; have hra : RB AnyB w4 (.slice (some ⟨ba, 0, none⟩) 1 1) [97] := ⟨_, _, rfl, rfl, fun _ => ⟨ba, 0, rfl, trivial, (show Blk w4 ba (.cells ([byteV 97] : List Value).toArray 5 (1, 2)) from Bca).row⟩⟩
  replace hu := Up.local hu hfa (by have := hu.size; omega)
  replace h := h.frm hfa (fun e => by have e : bn = ba := e; omega) (fun e => by have e : bm = ba := e; omega) (fun k hk e => by have e : k = ba := e; have := (h0a k hk).1; omega)
  replace B2 := B2.frm hfa (fun e => by have e : b2 = ba := e; omega)
  refine WL.cons rfl (st_call3 ent28 (un (un (un us))) (un (un us)) us (((send_ok _ h netOk_new L01 hra)).mono ?_))
  intro vs w5 ⟨hvs, ht⟩; rw [aw_1] at hvs ht; subst hvs
  obtain ⟨hfr, S1, h1, _⟩ := ht; replace B2 := B2.frm hfr (fun e => by rcases e with e | e <;> omega); replace hu := (Frm.trans' (X := NoB) hu.frm hfr fun i hi he => by rcases he with e | e <;> omega).up; clear h hfr; have h := h1; clear h1
  refine WL.cons rfl (st_neq us uc ?_)
  refine WL.cons rfl (st_move us ?_)
  refine WL.guardY rfl (us.trans (by simp [*])) rfl (st_move (un (un (un (un (un (un (un r1))))))) ?_)
  refine WL.guardY rfl ((un us).trans (by simp [*])) rfl (st_loadK Try.isAgg29 Try.sizeOf29 (un (un (un (un (un (un (un (un r2)))))))) (cells2 (B2.cell rfl) (B2.cell rfl)) rfl ?_)
  have h0b := h.old; have sz1 := h.blk.lt; have sz2 := h.map.lt; have sz3 := B2.lt
  refine WL.guardY rfl ((un (un us)).trans (by simp [*])) rfl (st_build1 uc Try.underlying30 info5 rfl rfl ?_)
  intro bb w6 mb; have Blb := mb.blk; have alb := mb.at_; replace hu := hu.trans mb.up; replace h := h.up mb.up; replace B2 := B2.up mb.up
  refine WL.guardY rfl ((un (un (un us))).trans (by simp [*])) rfl (st_convId us Try.underlying30 Try.underlying5 Blb ?_)
  intro w7 Bcb hfb _
  have hlb := h.blk.lt; have hrb : RB AnyB w7 (.slice (some ⟨bb, 0, none⟩) 1 1) [98] := ⟨_, _, rfl, rfl, fun _ => ⟨bb, 0, rfl, trivial, (show Blk w7 bb (.cells ([byteV 98] : List Value).toArray 5 (1, 2)) from Bcb).row⟩⟩
  replace hu := Up.local hu hfb (by have := hu.size; omega)
  replace h := h.frm hfb (fun e => by have e : bn = bb := e; omega) (fun e => by have e : bm = bb := e; omega) (fun k hk e => by have e : k = bb := e; have := (h0b k hk).1; omega)
  replace B2 := B2.frm hfb (fun e => by have e : b2 = bb := e; omega)
  refine WL.guardY rfl ((un (un (un (un us)))).trans (by simp [*])) rfl (st_call3 ent28 (un (un (un us))) (un (un us)) us (((send_ok _ h aw_k1 L01 hrb)).mono ?_))
  intro vs w8 ⟨hvs, ht⟩; rw [aw_2] at hvs ht; subst hvs
  obtain ⟨hfr, S1, h1, _⟩ := ht; replace B2 := B2.frm hfr (fun e => by rcases e with e | e <;> omega); replace hu := (Frm.trans' (X := NoB) hu.frm hfr fun i hi he => by rcases he with e | e <;> omega).up; clear h hfr; have h := h1; clear h1
  refine WL.guardY rfl ((un (un (un (un (un us))))).trans (by simp [*])) rfl (st_neq us uc ?_)
  refine WL.cons rfl (st_pick (un (un (un (un (un (un us)))))) (fun e => by simp at e) (fun _ => us) ?_)
  refine WL.nil ?_
  refine W.gen ?_; intro ρ4 hρ
  have q1 := (hρ 1).trans (un (un (un (un (un (un (un (un (un (un (un (un (un (un r1)))))))))))))); have q2 := (hρ 2).trans (un (un (un (un (un (un (un (un (un (un (un (un (un (un r2)))))))))))))); have q24 := (hρ 24).trans us
  clear hρ r1 r2
  have r1 := q1; clear q1; have r2 := q2; clear q2; have r24 := q24; clear q24
  refine W.condF r24 (by simp) ?_
  refine W.skip ?_
  refine W.seqR ?_
  refine WL.cons rfl (st_move r1 ?_)
  refine WL.cons rfl (st_loadK Try.isAgg29 Try.sizeOf29 (un r2) (cells2 (B2.cell rfl) (B2.cell rfl)) rfl ?_)
  refine WL.cons rfl (st_call3 ent29 (un us) us uc (((take_ok _ h aw_k2 L01 1)).mono ?_))
  intro vt w9 ⟨u3, hvt, htx⟩; rw [aw_3] at hvt htx; subst hvt
  have hsz3 := h.blk.lt; have hsz4 := h.map.lt; have ht := htx.to; obtain ⟨_, _, _, _, hr3⟩ := htx; replace hr3 := hr3.mono (S' := fun k => bn < k ∧ bm < k) fun k _ hk => ⟨by omega, by omega⟩
  obtain ⟨hfr, S1, h1, _⟩ := ht; replace B2 := B2.frm hfr (fun e => by rcases e with e | e <;> omega); replace hu := (Frm.trans' (X := NoB) hu.frm hfr fun i hi he => by rcases he with e | e <;> omega).up; clear h hfr; have h := h1; clear h1
  refine WL.cons rfl (st_move us ?_)
  refine WL.cons rfl (st_extract us rfl ?_)
  refine WL.cons rfl (st_extract (un us) rfl ?_)
  refine WL.cons rfl (st_extract (un (un us)) rfl ?_)
  refine WL.cons rfl (st_assign (un (un us)) ?_)
  refine WL.cons rfl (st_assign (un (un us)) ?_)
  refine WL.cons rfl (st_assign (un (un us)) ?_)
  refine WL.nil ?_
  refine W.gen ?_; intro ρ5 hρ
  have q1 := (hρ 1).trans (un (un (un (un (un (un (un (un (un (un r1)))))))))); have q2 := (hρ 2).trans (un (un (un (un (un (un (un (un (un (un r2)))))))))); have q3 := (hρ 3).trans (un (un us)); have q4 := (hρ 4).trans (un us)
  have q5 := (hρ 5).trans us
  clear hρ r1 r2 r24
  have r1 := q1; clear q1; have r2 := q2; clear q2; have r3 := q3; clear q3; have r4 := q4; clear q4; have r5 := q5; clear q5
  refine W.seqR ?_
  refine WL.cons rfl (st_move r1 ?_)
  have h0c := h.old
  refine WL.cons rfl (st_build1 uc Try.underlying92 info3 rfl rfl ?_)
  intro bo w10 mo; have Bo := mo.blk; replace hu := hu.trans mo.up; replace h := h.up mo.up; replace B2 := B2.up mo.up; replace hr3 := hr3.up mo.up
  refine WL.cons rfl (st_call1 ent31 us (((of_ok (S := AnyB) [1] _ (made_sl (cells := [Value.int .i64 1]) ⟨mo.at_, Bo, mo.up, mo.size⟩ rfl trivial) (by simp))).mono ?_))
  intro vo w11 ⟨hvo, uo⟩; subst hvo; replace hr3 := hr3.up uo; replace h := h.up uo; replace B2 := B2.up uo; replace hu := hu.trans uo
  refine WL.cons rfl (st_call2 ent30 (un (un us)) us (((wall_ok _ h _)).mono ?_))
  intro vw w12 ⟨hvw, ht⟩; rw [aw_4] at ht; subst hvw; replace hr3 := hr3.frm ht.1 fun k hk e => by rcases e with e | e <;> omega
  obtain ⟨hfr, S1, h1, _⟩ := ht; replace B2 := B2.frm hfr (fun e => by rcases e with e | e <;> omega); replace hu := (Frm.trans' (X := NoB) hu.frm hfr fun i hi he => by rcases he with e | e <;> omega).up; clear h hfr; have h := h1; clear h1
  refine WL.nil ?_
  refine W.gen ?_; intro ρ6 hρ
  have q1 := (hρ 1).trans (un (un (un (un r1)))); have q2 := (hρ 2).trans (un (un (un (un r2)))); have q3 := (hρ 3).trans (un (un (un (un r3)))); have q4 := (hρ 4).trans (un (un (un (un r4))))
  have q5 := (hρ 5).trans (un (un (un (un r5))))
  clear hρ r1 r2 r3 r4 r5
  have r1 := q1; clear q1; have r2 := q2; clear q2; have r3 := q3; clear q3; have r4 := q4; clear q4; have r5 := q5; clear q5
  refine W.seqR ?_
  refine WL.cons rfl (st_move r1 ?_)
  refine WL.cons rfl (st_loadK Try.isAgg29 Try.sizeOf29 (un r2) (cells2 (B2.cell rfl) (B2.cell rfl)) rfl ?_)
  refine WL.cons rfl (st_call3 ent29 (un us) us uc (((take_ok _ h aw_k4 L01 0)).mono ?_))
  intro vt w13 ⟨u6, hvt, htx⟩; rw [aw_5] at hvt htx; subst hvt
  have ht := htx.to; replace hr3 := hr3.frm ht.1 fun k hk e => by rcases e with e | e <;> omega
  obtain ⟨hfr, S1, h1, _⟩ := ht; replace B2 := B2.frm hfr (fun e => by rcases e with e | e <;> omega); replace hu := (Frm.trans' (X := NoB) hu.frm hfr fun i hi he => by rcases he with e | e <;> omega).up; clear h hfr; have h := h1; clear h1
  refine WL.cons rfl (st_move us ?_)
  refine WL.cons rfl (st_extract us rfl ?_)
  refine WL.cons rfl (st_extract (un us) rfl ?_)
  refine WL.cons rfl (st_extract (un (un us)) rfl ?_)
  refine WL.cons rfl (st_assign (un (un us)) ?_)
  refine WL.cons rfl (st_assign (un (un us)) ?_)
  refine WL.cons rfl (st_assign (un (un us)) ?_)
  refine WL.nil ?_
  refine W.gen ?_; intro ρ7 hρ
  have q1 := (hρ 1).trans (un (un (un (un (un (un (un (un (un (un r1)))))))))); have q2 := (hρ 2).trans (un (un (un (un (un (un (un (un (un (un r2)))))))))); have q3 := (hρ 3).trans (un (un (un (un (un (un (un (un (un (un r3)))))))))); have q4 := (hρ 4).trans (un (un (un (un (un (un (un (un (un (un r4))))))))))
  have q5 := (hρ 5).trans (un (un (un (un (un (un (un (un (un (un r5)))))))))); have q7 := (hρ 7).trans (un us); have q8 := (hρ 8).trans us
  clear hρ r1 r2 r3 r4 r5
  have r1 := q1; clear q1; have r2 := q2; clear q2; have r3 := q3; clear q3; have r4 := q4; clear q4; have r5 := q5; clear q5; have r7 := q7; clear q7; have r8 := q8; clear q8
  refine W.seqR ?_
  refine WL.cons rfl (st_move r3 ?_)
  refine WL.cons rfl (st_string us hr3 Try.underlying30 Try.underlying5 Try.underlying9 ?_)
  refine WL.cons rfl (st_eqlS us uc ?_)
  refine WL.cons rfl (st_move us ?_)
  refine WL.guardY rfl (us.trans (by simp [*])) rfl (st_move (un (un (un (un r4)))) ?_)
  refine WL.cons rfl (st_pick (un us) (fun _ => us) (fun e => by simp at e) ?_)
  refine WL.cons rfl (st_move us ?_)
  refine WL.guardY rfl (us.trans (by simp [*])) rfl (st_move (un (un (un (un (un (un (un r5))))))) ?_)
  refine WL.guardY rfl ((un us).trans (by simp [*])) rfl (st_eql us uc ?_)
  refine WL.cons rfl (st_pick (un (un us)) (fun _ => us) (fun e => by simp at e) ?_)
  refine WL.cons rfl (st_move us ?_)
  refine WL.guardY rfl (us.trans (by simp [*])) rfl (st_move (un (un (un (un (un (un (un (un (un (un (un r7))))))))))) ?_)
  refine WL.guardY rfl ((un us).trans (by simp [*])) rfl (st_not us ?_)
  refine WL.cons rfl (st_pick (un (un us)) (fun _ => us) (fun e => by simp at e) ?_)
  refine WL.cons rfl (st_move us ?_)
  refine WL.guardY rfl (us.trans (by simp [*])) rfl (st_move (un (un (un (un (un (un (un (un (un (un (un (un (un (un (un r8))))))))))))))) ?_)
  refine WL.guardY rfl ((un us).trans (by simp [*])) rfl (st_eql us uc ?_)
  refine WL.cons rfl (st_pick (un (un us)) (fun _ => us) (fun e => by simp at e) ?_)
  have hq5 : aw5.q L01 = [] := rfl
  refine WL.cons rfl (st_move us ?_)
  refine WL.guardY rfl (us.trans (by simp [*])) rfl (st_move (un (un (un (un (un (un (un (un (un (un (un (un (un (un (un (un (un (un (un r1))))))))))))))))))) ?_)
  refine WL.guardY rfl ((un us).trans (by simp [*])) rfl (st_loadK Try.isAgg29 Try.sizeOf29 (un (un (un (un (un (un (un (un (un (un (un (un (un (un (un (un (un (un (un (un r2)))))))))))))))))))) (cells2 (B2.cell rfl) (B2.cell rfl)) rfl ?_)
  refine WL.guardY rfl ((un (un us)).trans (by simp [*])) rfl (st_call2 ent16 (un us) us (((len_ok _ h L01)).mono ?_))
  intro vl w14 ⟨hvl, ul⟩; subst hvl; replace h := h.up ul; replace hu := hu.trans ul
  refine WL.guardY rfl ((un (un (un us))).trans (by simp [*])) rfl (st_eql us uc ?_)
  refine WL.cons rfl (st_pick (un (un (un (un us)))) (fun _ => us) (fun e => by simp [aw5, NetS.q, aget] at e) ?_)
  refine WL.cons rfl (st_move us ?_)
  refine WL.guardY rfl (us.trans (by simp [*])) rfl (st_move (un (un (un (un (un (un (un (un (un (un (un (un (un (un (un (un (un (un (un (un (un (un (un (un (un r1))))))))))))))))))))))))) ?_)
  refine WL.guardY rfl ((un us).trans (by simp [*])) rfl (st_buildP0 (v := .agg #[.int .i64 0, .int .i64 0]) (fun w => by kernel_rfl) ?_)
  refine WL.guardY rfl ((un (un us)).trans (by simp [*])) rfl (st_call3 ent28 (un us) us uc (((send_ok _ h aw_k5 (0, 0) (Sb := AnyB) (b := []) ⟨none, 0, rfl, rfl, fun h => absurd h (Nat.lt_irrefl 0)⟩)).mono ?_))
  intro vs w15 ⟨hvs, ht⟩; rw [aw_6] at hvs ht; subst hvs
  replace hu := (Frm.trans' (X := NoB) hu.frm ht.1 fun i hi he => by rcases he with e | e <;> omega).up
  refine WL.guardY rfl ((un (un (un us))).trans (by simp [*])) rfl (st_eql us uc ?_)
  refine WL.cons rfl (st_pick (un (un (un (un us)))) (fun _ => us) (fun e => by simp [hq5] at e) ?_)
  refine WL.cons rfl (st_assign us ?_)
  refine WL.nil ?_
  refine W.gen ?_; intro ρ8 hρ
  have q0 := (hρ 0).trans us
  clear hρ r1 r2 r3 r4 r5 r7 r8
  have r0 := q0; clear q0
  refine W.ret ?_
  refine fin1 r0 ?_
  exact ⟨by simp, hu⟩

end Go.Proofs.Ytppohfgaegahoaa
