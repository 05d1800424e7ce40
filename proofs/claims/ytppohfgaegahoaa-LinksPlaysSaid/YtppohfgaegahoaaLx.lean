/- Walk: Busy. -/
import Derived.Test.YtppohfgaegahoaaLw
import Derived.Test.YtppohfgaegahoaaLu
import Derived.Test.YtppohfgaegahoaaLp
namespace Go.Proofs.Ytppohfgaegahoaa
open Go.Tw Go.RowKit Go.Sort Go.Shelf
attribute [local irreducible] Step WL W WQ Does

theorem info29 : EInfo Try.prog 29 (.agg #[.int .i64 0, .int .i64 0]) 2 16 := by unfold EInfo; kernel_rfl
theorem build_link (l : Lk) (w : World) : (Instr.buildSlice 43 1 #[(0, ekL l)]).run Try.prog w = .ok (.slice (some ⟨w.heap.size, 0, none⟩) 1 1) (w.alloc (.cells (lk2 l).toArray 29)) :=
  run_buildN Try.underlying43 info29 (by decide) (by decide) (by kernel_rfl) w

theorem nodup_lt : ∀ (n : Nat) (l : List Nat), l.Nodup → (∀ x ∈ l, x < n) → l.length ≤ n
  | 0, [], _, _ => Nat.le_refl _
  | 0, x :: _, _, h => absurd (h x (by simp)) (by omega)
  | n + 1, l, hn, h => by
    by_cases hm : n ∈ l
    · have h1 := nodup_lt n (l.erase n) (hn.erase n) fun x hx => by
        have h2 := (List.Nodup.mem_erase_iff hn).1 hx
        have := h x h2.2
        have := h2.1
        omega
      have := List.length_erase_of_mem hm
      omega
    · have := nodup_lt n l hn fun x hx => by
        have h1 := h x hx
        have : x ≠ n := fun e => hm (e ▸ hx)
        omega
      omega

theorem fits_parts {l : Lk} (h : fitsL l = true) : 0 ≤ l.1 ∧ l.1 < 32 ∧ 0 ≤ l.2 ∧ l.2 < 32 := by
  simp [fitsL] at h; omega

theorem fits_few {ks : List Lk} (hn : ks.Nodup) (hf : ∀ l ∈ ks, fitsL l = true) : ks.length ≤ 1024 := by
  have h := nodup_lt 1024 (ks.map fun l => l.1.toNat * 32 + l.2.toNat) ?_ ?_
  · simpa using h
  · rw [List.nodup_iff_pairwise_ne, List.pairwise_map]
    refine (List.pairwise_iff_forall_sublist.2 fun {a b} hs => ?_)
    have ha := fits_parts (hf a (hs.subset (by simp)))
    have hb := fits_parts (hf b (hs.subset (by simp)))
    have hne : a ≠ b := (List.pairwise_iff_forall_sublist.1 (List.nodup_iff_pairwise_ne.1 hn)) hs
    intro e
    apply hne
    exact Prod.ext (by omega) (by omega)
  · intro x hx
    obtain ⟨l, hl, rfl⟩ := List.mem_map.1 hx
    have := fits_parts (hf l hl)
    omega

theorem to_FL : ∀ (ks : List Lk), (∀ l ∈ ks, fitsL l = true) → ∃ ds : List FL, ds.map toL = ks
  | [], _ => ⟨[], rfl⟩
  | l :: ks, h => by
    obtain ⟨ds, hd⟩ := to_FL ks fun x hx => h x (by simp [hx])
    have hp := fits_parts (h l (by simp))
    refine ⟨(⟨l.1.toNat, by omega⟩, ⟨l.2.toNat, by omega⟩) :: ds, ?_⟩
    simp only [List.map_cons, hd]
    congr 1
    exact Prod.ext (by simp [toL]; omega) (by simp [toL]; omega)

theorem sort_any {base : Nat} {v : Value} (w : World) (d : Array FL) (hown : Own base w 29 2 v d.size (lkC (d.toList.map toL))) (hsz : d.size ≤ 1024) :
    Does Try.prog 37 #[v, .func (.func 38) #[] #[]] w (fun u w' => u = .tuple #[] ∧ Frm (fun k => v.ownBlock = some k) w w' ∧ ∃ d' : Array FL, SortedIn (ltOf cfF) 0 d'.size d' ∧ d'.toList.Perm d.toList ∧ SlV AnyB w' v d'.size 2 (lkC (d'.toList.map toL))) := by
  rcases hown.2 with ⟨hv, h0⟩ | ⟨g, cap, cur, hv, _⟩
  · have hd : d = #[] := Array.eq_empty_of_size_eq_zero h0
    subst hv
    subst hd
    have h := AnyF.slices_SortFunc_none Try.sortL none 0 (.func (.func 38) #[] #[]) w
    change Calls Try.prog 37 _ _ _ at h
    unfold Does
    refine h.mono fun e w' ⟨he, hw⟩ => ⟨_, he, rfl, by rw [hw]; exact Frm.refl _ _, #[], fun i j _ _ hj => absurd hj (by simp), List.Perm.refl _, none, 0, rfl, rfl, fun h => absurd h (Nat.lt_irrefl 0)⟩
  · subst hv
    refine (sort_ok w d hown hsz).mono fun u w' ⟨h1, h2, d', h3, h4, h5, h6⟩ => ⟨h1, h2.mono fun k _ hk => by rw [hk]; rfl, d', by rw [h5]; exact h3, h4, by rw [h5]; exact h6⟩

theorem own_ne_iter {κ α : Type} {ek : κ → Value} {R : Value → α → Prop} {base e size n r b : Nat} {w : World} {v : Value} {xs : List Value} {l : List (κ × α)} {rem : List κ} (h : Own base w e size v n xs) (hi : Iter w r b ek R l rem) : ∀ k, v.ownBlock = some k → ¬ k = r := by
  obtain ⟨_, _, _, _, _, _, _, hr, _⟩ := hi
  intro k hk hkr
  rcases h.2 with ⟨rfl, _⟩ | ⟨g, cap, cur, rfl, _, hh, _⟩
  · simp [Value.ownBlock] at hk
  · simp [Value.ownBlock] at hk
    subst hk; subst hkr
    have := hh.symm.trans (show w.heap[g]? = _ from hr)
    cases this

theorem lkC_snoc (ks : List Lk) (l : Lk) : lkC (ks ++ [l]) = lkC ks ++ lk2 l := by simp [lkC]

def LoopB (S : Nat → Prop) (w w' : World) (r bm : Nat) (s : NetS) (v : Value) (nn : Nat) : Prop :=
  ∃ vis rem, nn = rem.length ∧ (vis ++ rem).Perm (akeys s.of) ∧ Up w w' ∧ Own w.heap.size w' 29 2 v vis.length (lkC vis) ∧ Iter w' r bm ekL (RQ S w) s.of rem

theorem key_fits {s : NetS} (hk : s.Ok) {l : Lk} (h : l ∈ akeys s.of) : fitsL l = true := by
  refine hk.fits l ?_
  cases e : aget s.of l with
  | none => exact absurd h (aget_none.1 e)
  | some _ => rfl

/-- (*towline links.Net).Busy -/
theorem busy_ok {S : Nat → Prop} {s : NetS} {bn bm : Nat} (w : World) (h : NetR S w bn bm s) (hk : s.Ok) : Does Try.prog 15 #[.pointer (some ⟨bn, 0, none⟩)] w (fun v w' => ∃ d : Array FL, SortedIn (ltOf cfF) 0 d.size d ∧ SlV AnyB w' v d.size 2 (lkC (d.toList.map toL)) ∧ (d.toList.map toL).Perm (akeys s.of) ∧ Up w w') := by
  have h0 := h
  have hbm := h.map.lt
  have hfew := fits_few hk.nodup fun l hl => key_fits hk hl
  refine fn_of_W (rs := [2]) (N := 24) Try.func15 rfl rfl rfl (by simp) ?_
  intro ρ0 hρ0
  have r0 : ev ρ0 (.tmp 0) = .pointer (some ⟨bn, 0, none⟩) := hρ0 0
  clear hρ0
  have hu := Up.refl w
  refine W.seqR ?_
  refine WL.cons rfl (st_assign uc ?_)
  refine WL.nil ?_
  refine W.gen ?_; intro ρ1 hρ
  have q0 := (hρ 0).trans (un r0)
  clear hρ r0
  have r0 := q0; clear q0
  refine W.seqR ?_
  refine WL.cons rfl (st_assign uc ?_)
  refine WL.nil ?_
  refine W.gen ?_; intro ρ2 hρ
  have q0 := (hρ 0).trans (un r0); have q3 := (hρ 3).trans us
  clear hρ r0
  have r0 := q0; clear q0; have r3 := q3; clear q3
  refine W.seq ?_
  refine W.seqR ?_
  refine WL.cons rfl (st_move r0 ?_)
  refine WL.cons rfl (st_call1 ent36 us (((dead_ok _ h)).mono ?_))
  intro vd w1 ⟨hvd, ud⟩; subst hvd
  replace h := h.up ud
  replace hu := hu.trans ud
  refine WL.nil ?_
  refine W.gen ?_; intro ρ3 hρ
  have q0 := (hρ 0).trans (un (un r0)); have q3 := (hρ 3).trans (un (un r3)); have q6 := (hρ 6).trans us
  clear hρ r0 r3
  have r0 := q0; clear q0; have r3 := q3; clear q3; have r6 := q6; clear q6
  refine W.condF r6 (rfl) ?_
  refine W.skip ?_
  refine W.seq ?_
  refine W.seqR ?_
  refine WL.cons rfl (st_move r0 ?_)
  refine WL.cons rfl (st_nilCheck us ?_)
  refine WL.cons rfl (st_fieldAddr (f := 0) (k := 0) us Try.underlying64 rfl rfl Try.sizeOf61 ?_)
  refine WL.cons rfl (st_load1 Try.isAgg61 us (h.blk.cell rfl) ?_)
  refine WL.cons rfl (st_range (ek := ekL) us Try.underlying61 (h0.map.up hu (R' := RQ S w) fun _ _ h => h) ?_)
  intro r w2 hra hru hrs hri; have hrw : w.heap.size ≤ r := by (have := hu.size; omega)
  replace hu := hu.trans hru
  refine WL.nil ?_
  refine W.gen ?_; intro ρ4 hρ
  have q3 := (hρ 3).trans (un (un (un (un (un r3))))); have q12 := (hρ 12).trans us
  clear hρ r0 r3 r6
  have r3 := q3; clear q3; have r12 := q12; clear q12
  refine W.block ?_
  refine W.loop (fun nn ρ' w' => ∃ v3, ev ρ' (.tmp 3) = v3 ∧ ev ρ' (.tmp 12) = ev ρ4 (.tmp 12) ∧ LoopB S w w' r bm s v3 nn) ((akeys s.of).length) ?_ ?_
  · exact ⟨.slice none 0 0, (by first | exact r3 | (refine r3.trans ?_; congr 1; omega) | (refine r3.trans ?_; simp)), rfl, ⟨[], _, rfl, List.Perm.refl _, hu, ⟨rfl, .inl ⟨rfl, rfl⟩⟩, hri⟩⟩
  intro nn ρ5 w3 ⟨v3, q3, q12, hL⟩
  have s12 := q12; replace q12 := q12.trans r12
  clear r12 r3
  have r3 := q3; clear q3; have r12 := q12; clear q12
  clear hu h; obtain ⟨vis, rem, hnn, hprm, hu, hown, hit⟩ := hL
  have hvl : vis.length ≤ 1024 := by (have := hprm.length_eq; simp at this; have e : (akeys s.of).length ≤ 1024 := hfew; omega)
  have x0_12 := s12.symm.trans r12; clear s12
  refine W.seqR ?_
  refine WL.cons rfl (st_nextU (ek := ekL) r12 hit ekL_inj ?_)
  intro vs t5 w4 hv0 hf4 hno hyes; replace hown := hown.frm hf4 (own_ne_iter hown hit)
  replace hu := (Frm.trans' (X := NoB) hu.frm hf4 fun i hi hir => by omega).up
  refine WL.cons rfl (st_extract us hv0 ?_)
  refine WL.nil ?_
  refine W.gen ?_; intro ρ6 hρ
  have q3 := (hρ 3).trans (un (un r3)); have q12 := (hρ 12).trans (un (un r12)); have q14 := (hρ 14).trans us
  clear hρ r12 r3
  have r3 := q3; clear q3; have r12 := q12; clear q12; have r14 := q14; clear q14
  refine W.seq ?_
  refine W.cond r14 (fun hc5 => ?_) (fun hc5 => ?_)
  · skip
    try simp only [tests] at hc5
    obtain ⟨a, u, _, rem1, rem2, _, hrem, hau, _, hia⟩ := hyes hc5
    subst hrem
    have hlt : (rem1 ++ rem2).length < nn := by rw [hnn]; simp
    refine W.skip ?_
    refine W.block ?_
    refine W.seqR ?_
    refine WL.cons rfl (st_entry r12 hia fun v5 _ => ?_)
    refine WL.cons rfl (st_extract us rfl ?_)
    refine WL.allocStore (v := ekL a) rfl (fun _ => un us) Try.zeroValue29 Try.sizeOf29 rfl (by first | rfl | kernel_rfl) (by first | exact ekL_one _ | simp [Value.cells, Value.oneCell']) ?_
    intro b4 w5 m4; have B4 := m4.blk
    replace hu := hu.trans m4.up
    replace hia := hia.up m4.up fun _ _ h => h; replace hown := hown.up m4.up
    refine WL.nil ?_
    refine W.gen ?_; intro ρ7 hρ
    have q3 := (hρ 3).trans (un0 (un (un (un r3)))); have q4 := (hρ 4).trans (un0 us); have q12 := (hρ 12).trans (un0 (un (un (un r12))))
    clear hρ r12 r14 r3
    have r3 := q3; clear q3; have r4 := q4; clear q4; have r12 := q12; clear q12
    refine W.endR ?_
    refine WL.cons rfl (st_move r3 ?_)
    refine WL.cons rfl (st_loadK Try.isAgg29 Try.sizeOf29 (un r4) (cells2 (B4.cell rfl) (B4.cell rfl)) rfl ?_)
    refine WL.cons rfl (st_bs1 (v := ekL a) us (build_link a) ?_)
    intro b19 w6 m19; replace hia := hia.up m19.up fun _ _ h => h; replace hown := hown.up m19.up; replace hu := hu.trans m19.up; have hnews : SlV AnyB w6 (.slice (some ⟨b19, 0, none⟩) 1 1) 1 2 (lk2 a) := made_sl m19 rfl trivial
    refine WL.cons rfl (st_append (un (un us)) us Try.underlying43 info29 rfl (by omega) hown hnews (by intro c hc; simp [lk2] at hc; rcases hc with rfl | rfl <;> rfl) (by omega) (by omega) hu.size ?_)
    intro v20 w7 hov hfr _ _
    have hit := hia.iter.frm hfr (fun e => by have := (hown.block bm e).1; omega) (fun e => own_ne_iter hown hia.iter r e rfl) fun _ _ h => h
    replace hu := (Frm.trans' (X := NoB) hu.frm hfr fun i hi e => absurd (hown.block i e).1 (by omega)).up
    have hnx : LoopB S w w7 r bm s v20 (rem1 ++ rem2).length := ⟨vis ++ [a], rem1 ++ rem2, rfl, List.Perm.trans (by rw [List.append_assoc]; exact List.Perm.append_left _ (List.perm_middle (l₁ := rem1) (l₂ := rem2) (a := a)).symm) hprm, hu, by rw [lkC_snoc, List.length_append]; exact hov, hit⟩
    refine WL.cons rfl (st_assign us ?_)
    refine WL.nil ?_
    exact ⟨(rem1 ++ rem2).length, (by omega), v20, (by first | exact us | (refine us.trans ?_; congr 1; omega) | (refine us.trans ?_; simp)), ((un (un (un (un (un r12))))).trans x0_12.symm), hnx⟩
  · skip
    try simp only [tests] at hc5
    obtain ⟨hr0, hit2⟩ := hno hc5
    subst hr0
    rw [List.append_nil] at hprm
    obtain ⟨ds, hds⟩ := to_FL vis fun l hl => key_fits hk (hprm.mem_iff.1 hl)
    subst hds
    rw [List.length_map] at hown hvl
    refine W.exit ?_
    refine exitHere ?_
    refine W.seqR ?_
    refine WL.cons rfl (st_move r3 ?_)
    refine WL.cons rfl (st_call2 ent37 us uf (((sort_any _ ds.toArray (by simpa using hown) (by simpa using hvl))).mono ?_))
    intro vt w8 ⟨hvt, hfr, d2, hsrt, hprm2, hsl⟩; subst hvt
    replace hu := (Frm.trans' (X := NoB) hu.frm hfr fun i hi e => absurd (hown.block i e).1 (by omega)).up
    refine WL.nil ?_
    refine W.gen ?_; intro ρ8 hρ
    have q3 := (hρ 3).trans (un (un r3))
    clear hρ r12 r14 r3
    have r3 := q3; clear q3
    refine W.seqR ?_
    refine WL.cons rfl (st_move r3 ?_)
    refine WL.cons rfl (st_assign us ?_)
    refine WL.nil ?_
    refine W.gen ?_; intro ρ9 hρ
    have q2 := (hρ 2).trans us
    clear hρ r3
    have r2 := q2; clear q2
    refine W.ret ?_
    refine fin1 r2 ?_
    exact ⟨d2, hsrt, hsl, (List.Perm.map toL (by simpa using hprm2)).trans hprm, hu⟩

end Go.Proofs.Ytppohfgaegahoaa
