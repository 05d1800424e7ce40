/- Walks: the document's Net: Peek. -/
import Derived.Test.YtppohfgaegahoaaLag
namespace Go.Proofs.Ytppohfgaegahoaa
open Go.Tw Go.RowKit
attribute [local irreducible] Step WL W WQ Does

theorem place_lt {x : RefS} {l : Lk} {i : Int} {a : Nat} (h : x.place l i = some a) : a < x.items.length ∧ ∃ m, x.items[a]? = some (l, m) := by
  unfold RefS.place at h
  split at h
  · cases h
  · obtain ⟨m, h1, _⟩ := place_some _ _ _ _ h
    exact ⟨(List.getElem?_eq_some_iff.1 h1).1, m, h1⟩
def peekR (x : RefS) (l : Lk) (i : Int) : Msg × Int := match x.place l i with | some a => (((x.items[a]?).map (·.2)).getD [], 0) | none => ([], 40)

/-- (*towline towlineref04.Net).Peek -/
theorem rpeek_ok {Sx : Nat → Prop} {x : RefS} {bx : Nat} (w : World) (h : RefR Sx w bx x) (hm : x.items.length ≤ 1000000) (l : Lk) (i : Int) : Does Try.prog 22 #[.pointer (some ⟨bx, 0, none⟩), ekL l, .int .i64 i] w (fun v w' => v = .tuple #[.string ⟨(peekR x l i).1.toArray⟩, .int .i64 (peekR x l i).2] ∧ Up w w') := by
  refine fn_of_W (rs := [6, 7]) (N := 23) Try.func22 rfl rfl rfl (by simp) ?_
  intro ρ0 hρ0
  have r0 : ev ρ0 (.tmp 0) = .pointer (some ⟨bx, 0, none⟩) := hρ0 0
  have r1 : ev ρ0 (.tmp 1) = ekL l := hρ0 1
  have r2 : ev ρ0 (.tmp 2) = .int .i64 i := hρ0 2
  clear hρ0
  have hu := Up.refl w
  refine W.seqR ?_
  refine WL.cons rfl (st_box r1 ?_)
  intro b4 w1 m4; have B4 := m4.blk
  replace hu := hu.trans m4.up
  refine WL.cons rfl (st_assign uc ?_)
  refine WL.cons rfl (st_assign uc ?_)
  refine WL.nil ?_
  refine W.gen ?_; intro ρ1 hρ
  have q0 := (hρ 0).trans (un (un (un r0))); have q2 := (hρ 2).trans (un (un (un r2))); have q4 := (hρ 4).trans (un (un us))
  clear hρ r0 r1 r2
  have r0 := q0; clear q0; have r2 := q2; clear q2; have r4 := q4; clear q4
  refine W.seqR ?_
  refine WL.cons rfl (st_move r0 ?_)
  refine WL.cons rfl (st_loadK Try.isAgg29 Try.sizeOf29 (un r4) (cells2 (B4.cell rfl) (B4.cell rfl)) rfl ?_)
  refine WL.cons rfl (st_move (un (un r2)) ?_)
  refine WL.cons rfl (st_call3 ent45 (un (un us)) (un us) us (((place_ok _ (h.up hu) hm l i)).mono ?_))
  intro vp w2 ⟨hvp, uP⟩; subst hvp
  replace B4 := B4.up uP
  replace hu := hu.trans uP
  refine WL.cons rfl (st_assign us ?_)
  refine WL.nil ?_
  refine W.gen ?_; intro ρ2 hρ
  have q0 := (hρ 0).trans (un (un (un (un (un r0))))); have q8 := (hρ 8).trans us
  clear hρ r0 r2 r4
  have r0 := q0; clear q0; have r8 := q8; clear q8
  refine W.seq ?_
  refine W.seqR ?_
  refine WL.cons rfl (st_move r8 ?_)
  refine WL.cons rfl (st_lss us uc ?_)
  refine WL.nil ?_
  refine W.gen ?_; intro ρ3 hρ
  have q0 := (hρ 0).trans (un (un r0)); have q8 := (hρ 8).trans (un (un r8)); have q14 := (hρ 14).trans us
  clear hρ r0 r8
  have r0 := q0; clear q0; have r8 := q8; clear q8; have r14 := q14; clear q14
  refine W.cond r14 (fun hc2 => ?_) (fun hc2 => ?_)
  · skip
    try simp only [tests] at hc2
    have hp : x.place l i = none := by
      cases e : x.place l i with
      | none => rfl
      | some a => unfold placeI at hc2; rw [e] at hc2; exact absurd hc2 (by simp)
    refine W.seqR ?_
    refine WL.cons rfl (st_assign uc ?_)
    refine WL.cons rfl (st_assign uc ?_)
    refine WL.nil ?_
    refine W.gen ?_; intro ρ4 hρ
    have q6 := (hρ 6).trans (un us); have q7 := (hρ 7).trans us
    clear hρ r0 r14 r8
    have r6 := q6; clear q6; have r7 := q7; clear q7
    refine W.ret ?_
    refine fin2 r6 r7 ?_
    unfold peekR; rw [hp]; exact ⟨rfl, hu⟩
  · skip
    try simp only [tests] at hc2
    obtain ⟨a, hp⟩ : ∃ a, x.place l i = some a := by
      cases e : x.place l i with
      | some a => exact ⟨a, rfl⟩
      | none => unfold placeI at hc2; rw [e] at hc2; exact absurd hc2 (by simp)
    obtain ⟨hlt, m, hm1⟩ := place_lt hp
    have hpi : placeI x l i = (a : Int) := by unfold placeI; rw [hp]
    obtain ⟨vi, hbx, hsl, hroom⟩ := (h.up hu).blk
    obtain ⟨io, ic, rfl, _, hci⟩ := id hsl
    obtain ⟨bb, off, rfl, _, hcc⟩ := hci (by omega)
    have hat := itC_at hcc hm1
    refine W.skip ?_
    rw [hpi] at r8
    refine W.seqR ?_
    refine WL.cons rfl (st_move r0 ?_)
    refine WL.cons rfl (st_nilCheck us ?_)
    refine WL.cons rfl (st_fieldAddr (f := 0) (k := 0) us Try.underlying51 rfl rfl Try.sizeOf48 ?_)
    refine WL.cons rfl (st_load1 Try.isAgg48 us (hbx.cell rfl) ?_)
    refine WL.cons rfl (st_move (un (un (un (un r8)))) ?_)
    refine WL.cons rfl (st_indexAddrS (un us) us Try.underlying48 Try.sizeOf86 (by omega) (by omega) ?_)
    refine WL.cons rfl (st_fieldAddr (f := 1) (k := 0) us Try.underlying86 rfl rfl Try.sizeOf9 ?_)
    refine WL.cons rfl (st_load1 Try.isAgg9 us (hat 2 _ rfl) ?_)
    refine WL.cons rfl (st_assign us ?_)
    refine WL.cons rfl (st_assign uc ?_)
    refine WL.nil ?_
    refine W.gen ?_; intro ρ5 hρ
    have q6 := (hρ 6).trans (un us); have q7 := (hρ 7).trans us
    clear hρ r0 r14 r8
    have r6 := q6; clear q6; have r7 := q7; clear q7
    refine W.ret ?_
    refine fin2 r6 r7 ?_
    unfold peekR; rw [hp]; dsimp only; rw [hm1]; exact ⟨rfl, hu⟩

end Go.Proofs.Ytppohfgaegahoaa
