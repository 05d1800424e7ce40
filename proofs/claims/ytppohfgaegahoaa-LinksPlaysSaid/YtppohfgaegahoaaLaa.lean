/- Walk: Clone. -/
import Derived.Test.YtppohfgaegahoaaLx
namespace Go.Proofs.Ytppohfgaegahoaa
open Go.Tw Go.RowKit
attribute [local irreducible] Step WL W WQ Does

/-- the clone while it is being made: what has been taken over -/
def LoopC (S : Nat → Prop) (w w' : World) (r bm b3 bc : Nat) (s : NetS) (nn : Nat) : Prop :=
  ∃ vis rem, nn = rem.length ∧ rem.Nodup ∧ (∀ l, l ∈ akeys s.of → l ∈ rem ∨ l ∈ akeys vis) ∧ (∀ l q, aget vis l = some q → aget s.of l = some q ∧ l ∉ rem) ∧ Up w w' ∧ Iter w' r bm ekL (RQ S w) s.of rem ∧ Blk w' b3 (.cells #[.map (some bc), .int .u64 s.side, .int .i64 s.lost, .bool true] 64) ∧ MapR w' bc ekL (RQ S w) vis

theorem cl_all {s : NetS} {vis : List (Lk × List Msg)} {r1 r2 : List Lk} {a : Lk} {u : List Msg} (h : ∀ l, l ∈ akeys s.of → l ∈ r1 ++ a :: r2 ∨ l ∈ akeys vis) : ∀ l, l ∈ akeys s.of → l ∈ r1 ++ r2 ∨ l ∈ akeys (aset vis a u) := by
  intro l hl
  have hm : ∀ x, x ∈ akeys vis ∨ x = a → x ∈ akeys (aset vis a u) := by
    intro x hx
    rw [akeys_aset]
    split
    · rename_i ha
      rcases hx with hx | hx
      · exact hx
      · rw [hx]; exact ha
    · rcases hx with hx | hx <;> simp [hx]
  rcases h l hl with h | h
  · rw [List.mem_append, List.mem_cons] at h
    rcases h with h | h | h
    · left; simp [h]
    · right; exact hm l (.inr h)
    · left; simp [h]
  · right; exact hm l (.inl h)
theorem cl_in {s : NetS} {vis : List (Lk × List Msg)} {r1 r2 : List Lk} {a : Lk} {u : List Msg} (hn : (r1 ++ a :: r2).Nodup) (hu : aget s.of a = some u) (h : ∀ l q, aget vis l = some q → aget s.of l = some q ∧ l ∉ r1 ++ a :: r2) : ∀ l q, aget (aset vis a u) l = some q → aget s.of l = some q ∧ l ∉ r1 ++ r2 := by
  intro l q hq
  rw [aget_aset] at hq
  split at hq
  · rename_i e
    cases hq
    subst e
    exact ⟨hu, (nodup_mid hn).1⟩
  · obtain ⟨h1, h2⟩ := h l q hq
    exact ⟨h1, fun hm => h2 (by rw [List.mem_append] at hm; rw [List.mem_append, List.mem_cons]; rcases hm with hm | hm <;> simp [hm])⟩
theorem cl_same {s : NetS} {vis : List (Lk × List Msg)} (hall : ∀ l, l ∈ akeys s.of → l ∈ ([] : List Lk) ∨ l ∈ akeys vis) (hin : ∀ l q, aget vis l = some q → aget s.of l = some q ∧ l ∉ ([] : List Lk)) (l : Lk) : aget vis l = aget s.of l := by
  cases h : aget vis l with
  | some q => exact (hin l q h).1.symm
  | none =>
    refine (aget_none.2 fun hm => ?_).symm
    rcases hall l hm with h2 | h2
    · simp at h2
    · exact absurd h2 (aget_none.1 h)

/-- (*towline links.Net).Clone -/
theorem clone_net_ok {S : Nat → Prop} {s : NetS} {bn bm : Nat} (w : World) (h : NetR S w bn bm s) : Does Try.prog 17 #[.pointer (some ⟨bn, 0, none⟩)] w (fun v w' => ∃ cn cm s', v = .pointer (some ⟨cn, 0, none⟩) ∧ w.heap.size ≤ cn ∧ w.heap.size ≤ cm ∧ Up w w' ∧ NetR S w' cn cm s' ∧ s'.side = s.side ∧ s'.lost = s.lost ∧ ∀ l, aget s'.of l = aget s.of l) := by
  have h0 := h
  have hbn := h.blk.lt; have hbm := h.map.lt
  refine fn_of_W (rs := [2]) (N := 27) Try.func17 rfl rfl rfl (by simp) ?_
  intro ρ0 hρ0
  have r0 : ev ρ0 (.tmp 0) = .pointer (some ⟨bn, 0, none⟩) := hρ0 0
  clear hρ0
  have hu := Up.refl w
  refine W.seqR ?_
  refine WL.cons rfl (st_assign uc ?_)
  refine WL.nil ?_
  refine W.gen ?_; intro ρ1 hρ
  have q0 := (hρ 0).trans (un r0)
  clear hρ r0
  have r0 := q0; clear q0
  refine W.seq ?_
  refine W.seqR ?_
  refine WL.cons rfl (st_move r0 ?_)
  refine WL.cons rfl (st_call1 ent36 us (((dead_ok _ h)).mono ?_))
  intro vd w1 ⟨hvd, ud⟩; subst hvd
  replace h := h.up ud
  replace hu := hu.trans ud
  refine WL.nil ?_
  refine W.gen ?_; intro ρ2 hρ
  have q0 := (hρ 0).trans (un (un r0)); have q7 := (hρ 7).trans us
  clear hρ r0
  have r0 := q0; clear q0; have r7 := q7; clear q7
  refine W.condF r7 (rfl) ?_
  refine W.skip ?_
  have hsz3 := hu.size; have h3n := h.blk.lt; have h3m := h.map.lt
  refine W.seqR ?_
  refine WL.cons rfl (st_move r0 ?_)
  refine WL.cons rfl (st_nilCheck us ?_)
  refine WL.cons rfl (st_loadK Try.isAgg64 Try.sizeOf64 us (h.blk.row) rfl ?_)
  refine WL.allocStore (v := .agg #[.map (some bm), .int .u64 s.side, .int .i64 s.lost, .bool true]) rfl (fun _ => un us) Try.zeroValue64 Try.sizeOf64 rfl (by first | rfl | kernel_rfl) (by first | exact ekL_one _ | simp [Value.cells, Value.oneCell']) ?_
  intro b3 w2 m3; have B3 := m3.blk
  replace h := h.up m3.up
  replace hu := hu.trans m3.up
  have h3w : w.heap.size ≤ b3 := by (have := m3.at_; omega)
  have a3 := m3.at_
  refine WL.nil ?_
  refine W.gen ?_; intro ρ3 hρ
  have q0 := (hρ 0).trans (un0 (un (un (un (un r0))))); have q3 := (hρ 3).trans (un0 us)
  clear hρ r0 r7
  have r0 := q0; clear q0; have r3 := q3; clear q3
  refine W.seqR ?_
  refine WL.cons rfl (st_makeMap ?_)
  intro bc w3 mc; have hcc := mc.blk; have hca := mc.at_; replace h := h.up mc.up; have h3c : b3 < bc := by (have := B3.lt; omega)
  replace B3 := B3.up mc.up; have hsz4 := hu.size; replace hu := hu.trans mc.up
  refine WL.cons rfl (st_fieldAddr (f := 0) (k := 0) (un r3) Try.underlying64 rfl rfl Try.sizeOf61 ?_)
  refine WL.cons rfl (st_store us (un us) Try.sizeOf61 rfl B3 (by show 0 + 1 ≤ 4; omega) (by simp [Value.cells, Value.oneCell']) rfl ?_)
  intro w4 hb3 hf3 _
  replace B3 := hb3; replace hcc := hcc.frm hf3 (fun e => by have e : bc = b3 := e; omega); replace h := h.frm hf3 (fun e => by have e : bn = b3 := e; omega) (fun e => by have e : bm = b3 := e; omega) (fun b hb e => by have e : b = b3 := e; have := (h0.old b hb).1; omega); replace hu := Up.local hu hf3 h3w
  refine WL.nil ?_
  refine W.gen ?_; intro ρ4 hρ
  have q0 := (hρ 0).trans (un0 (un (un r0))); have q3 := (hρ 3).trans (un0 (un (un r3)))
  clear hρ r0 r3
  have r0 := q0; clear q0; have r3 := q3; clear q3
  refine W.seq ?_
  refine W.seqR ?_
  refine WL.cons rfl (st_move r0 ?_)
  refine WL.cons rfl (st_nilCheck us ?_)
  refine WL.cons rfl (st_fieldAddr (f := 0) (k := 0) us Try.underlying64 rfl rfl Try.sizeOf61 ?_)
  refine WL.cons rfl (st_load1 Try.isAgg61 us (h.blk.cell rfl) ?_)
  refine WL.cons rfl (st_range (ek := ekL) us Try.underlying61 (h0.map.up hu (R' := RQ S w) fun _ _ h => h) ?_)
  intro r w5 hra hru hrs hri; have hrw : w.heap.size ≤ r := by (have := hu.size; omega)
  have hrc : bc < r := by (have := hcc.lt; omega)
  replace B3 := B3.up hru; replace hcc := hcc.up hru
  replace hu := hu.trans hru
  refine WL.nil ?_
  refine W.gen ?_; intro ρ5 hρ
  have q3 := (hρ 3).trans (un (un (un (un (un r3))))); have q17 := (hρ 17).trans us
  clear hρ r0 r3
  have r3 := q3; clear q3; have r17 := q17; clear q17
  refine W.block ?_
  refine W.loop (fun nn ρ' w' => ev ρ' (.tmp 3) = ev ρ5 (.tmp 3) ∧ ev ρ' (.tmp 17) = ev ρ5 (.tmp 17) ∧ LoopC S w w' r bm b3 bc s nn) ((akeys s.of).length) ?_ ?_
  · exact ⟨rfl, rfl, ⟨[], _, rfl, h0.map.nodup, fun l hl => .inl hl, fun l q hq => by simp [aget] at hq, hu, hri, B3, MapR.made hcc⟩⟩
  intro nn ρ6 w6 ⟨q3, q17, hL⟩
  have s3 := q3; replace q3 := q3.trans r3
  have s17 := q17; replace q17 := q17.trans r17
  clear r17 r3
  have r3 := q3; clear q3; have r17 := q17; clear q17
  clear hu h B3 hcc; obtain ⟨vis, rem, hnn, hnd, hall, hin, hu, hit, B3, hmc⟩ := hL
  have x0_3 := s3.symm.trans r3; clear s3
  have x0_17 := s17.symm.trans r17; clear s17
  refine W.seqR ?_
  refine WL.cons rfl (st_nextU (ek := ekL) r17 hit ekL_inj ?_)
  intro vs t6 w7 hv0 hf4 hno hyes; replace B3 := B3.frm hf4 (fun e => by have e : b3 = r := e; omega); replace hmc := hmc.frm hf4 (R' := RQ S w) (fun e => by have e : bc = r := e; omega) fun _ _ h => h
  replace hu := (Frm.trans' (X := NoB) hu.frm hf4 fun i hi hir => by have hir : i = r := hir; omega).up
  refine WL.cons rfl (st_extract us hv0 ?_)
  refine WL.nil ?_
  refine W.gen ?_; intro ρ7 hρ
  have q3 := (hρ 3).trans (un (un r3)); have q17 := (hρ 17).trans (un (un r17)); have q19 := (hρ 19).trans us
  clear hρ r17 r3
  have r3 := q3; clear q3; have r17 := q17; clear q17; have r19 := q19; clear q19
  refine W.seq ?_
  refine W.cond r19 (fun hc6 => ?_) (fun hc6 => ?_)
  · skip
    try simp only [tests] at hc6
    obtain ⟨a, u, _, rem1, rem2, _, hrem, hau, _, hia⟩ := hyes hc6
    subst hrem
    have hlt : (rem1 ++ rem2).length < nn := by rw [hnn]; simp
    refine W.skip ?_
    refine W.block ?_
    refine W.seqR ?_
    refine WL.cons rfl (st_entry r17 hia fun v7 hv7 => ?_)
    refine WL.cons rfl (st_extract us rfl ?_)
    refine WL.cons rfl (st_extract (un us) rfl ?_)
    refine WL.allocStore (v := ekL a) rfl (fun _ => un (un us)) Try.zeroValue29 Try.sizeOf29 rfl (by first | rfl | kernel_rfl) (by first | exact ekL_one _ | simp [Value.cells, Value.oneCell']) ?_
    intro b4 w8 m4; have B4 := m4.blk
    replace hu := hu.trans m4.up
    replace hia := hia.up m4.up fun _ _ h => h; replace B3 := B3.up m4.up; replace hmc := hmc.up m4.up (R' := RQ S w) fun _ _ h => h
    refine WL.cons rfl (st_assign (un0 (un us)) ?_)
    refine WL.nil ?_
    refine W.gen ?_; intro ρ8 hρ
    have q3 := (hρ 3).trans (un (un0 (un (un (un (un r3)))))); have q4 := (hρ 4).trans (un (un0 us)); have q5 := (hρ 5).trans us; have q17 := (hρ 17).trans (un (un0 (un (un (un (un r17))))))
    clear hρ r17 r19 r3
    have r3 := q3; clear q3; have r4 := q4; clear q4; have r5 := q5; clear q5; have r17 := q17; clear q17
    refine W.endR ?_
    refine WL.cons rfl (st_fieldAddr (f := 0) (k := 0) r3 Try.underlying64 rfl rfl Try.sizeOf61 ?_)
    refine WL.cons rfl (st_load1 Try.isAgg61 us (B3.cell rfl) ?_)
    refine WL.cons rfl (st_loadK Try.isAgg29 Try.sizeOf29 (un (un r4)) (cells2 (B4.cell rfl) (B4.cell rfl)) rfl ?_)
    refine WL.cons rfl (st_move (un (un (un r5))) ?_)
    refine WL.cons rfl (st_mapUpdate (ek := ekL) (a := a) (un (un us)) (un us) us keyL Try.underlying61 hmc hv7 ?_)
    intro w9 hm2 hf8 _ _
    have hit := hia.iter.frm hf8 (R' := RQ S w) (fun e => by have e : bm = bc := e; omega) (fun e => by have e : r = bc := e; omega) fun _ _ h => h
    replace B3 := B3.frm hf8 (fun e => by have e : b3 = bc := e; omega)
    replace hu := (Frm.trans' (X := NoB) hu.frm hf8 fun i hi e => by have e : i = bc := e; omega).up
    have hnx : LoopC S w _ r bm b3 bc s (rem1 ++ rem2).length := ⟨aset vis a u, rem1 ++ rem2, rfl, (nodup_mid hnd).2, cl_all hall, cl_in hnd (aget_of_mem h0.map.nodup hau) hin, hu, hit, B3, hm2⟩
    refine WL.nil ?_
    exact ⟨(rem1 ++ rem2).length, (by omega), ((un0 (un (un (un (un r3))))).trans x0_3.symm), ((un0 (un (un (un (un r17))))).trans x0_17.symm), hnx⟩
  · skip
    try simp only [tests] at hc6
    obtain ⟨hr0, hit2⟩ := hno hc6
    subst hr0
    refine W.exit ?_
    refine exitHere ?_
    refine W.seqR ?_
    refine WL.cons rfl (st_assign r3 ?_)
    refine WL.nil ?_
    refine W.gen ?_; intro ρ9 hρ
    have q2 := (hρ 2).trans us
    clear hρ r17 r19 r3
    have r2 := q2; clear q2
    refine W.ret ?_
    refine fin1 r2 ?_
    refine ⟨b3, bc, ⟨vis, s.side, s.lost⟩, rfl, h3w, by omega, hu, ⟨B3, hmc.up (Up.refl _) fun _ _ hq => hq.up hu, fun b hb => ?_⟩, rfl, rfl, fun l => ?_⟩
    · have := (h0.old b hb).1; have := hu.size; exact ⟨by omega, by omega, by omega⟩
    · exact cl_same hall hin l

end Go.Proofs.Ytppohfgaegahoaa
