/- Walk: whether calls are few: what it says of them. A Net and its clone, each beside the document's; whole plays. Walks: a copy of calls; the document's Net behind a whole play. Walk: LinksTwins. -/
import Derived.Test.YtppohfgaegahoaaLav
namespace Go.Proofs.Ytppohfgaegahoaa
open Go.Tw Go.RowKit
attribute [local irreducible] Step WL W WQ Does

def ShortP (ls : List (List DoS)) (n a : Int) : Prop := a ≤ 150 → n ≤ 16384 → ∀ l ∈ ls, l.length ≤ 150 ∧ ∀ k ∈ l, k.b.length ≤ 16384
def ShortQ (l : List DoS) (j : Nat) (n a : Int) : Prop := a ≤ 150 → n ≤ 16384 → (j : Int) ≤ a ∧ ∀ k ∈ l.take j, k.b.length ≤ 16384
theorem ShortP.next {ls : List (List DoS)} {i j : Nat} {l : List DoS} {n a : Int} (hl : ls[i]? = some l) (h : ShortP (ls.take i) n a) (hq : ShortQ l j n a) (hj : ¬ (((j : Int) < l.length ∧ a ≤ 150) ∧ n ≤ 16384)) (hjl : j ≤ l.length) : ShortP (ls.take (i + 1)) n a := by
  intro ha hn x hx
  obtain ⟨hlt, he⟩ := List.getElem?_eq_some_iff.1 hl
  rw [List.take_succ_eq_append_getElem hlt, he, List.mem_append] at hx
  rcases hx with hx | hx
  · exact h ha hn x hx
  · obtain rfl : x = l := by simpa using hx
    have hjj : j = x.length := by omega
    obtain ⟨h1, h2⟩ := hq ha hn
    subst hjj
    rw [List.take_length] at h2
    exact ⟨by omega, h2⟩
theorem ShortQ.next {l : List DoS} {j : Nat} {k : DoS} {n a : Int} (hk : l[j]? = some k) (h : ShortQ l j n a) (h0 : 0 ≤ n) : ShortQ l (j + 1) (n + min (k.b.length : Int) 16385) (a + 1) := by
  intro ha hn
  obtain ⟨h1, h2⟩ := h (by omega) (by omega)
  refine ⟨by omega, fun x hx => ?_⟩
  obtain ⟨hlt, he⟩ := List.getElem?_eq_some_iff.1 hk
  rw [List.take_succ_eq_append_getElem hlt, he, List.mem_append] at hx
  rcases hx with hx | hx
  · exact h2 x hx
  · obtain rfl : x = k := by simpa using hx
    omega
theorem ShortP.more {ls : List (List DoS)} {n a m : Int} (h : ShortP ls n a) (hm : 0 ≤ m) : ShortP ls (n + m) (a + 1) := fun ha hn => h (by omega) (by omega)

/-- towline towlinelaw04.short -/
theorem short2_ok {S : Nat → Prop} {v : Value} (ls : List (List DoS)) (w : World) (hv : RL S w v ls) (hn : ls.length ≤ 1000000000) (hm : ∀ l ∈ ls, l.length ≤ 9223372036854775807) : Does Try.prog 10 #[v] w (fun v' w' => ∃ t, v' = .bool t ∧ Up w w' ∧ (t = true → ∀ l ∈ ls, l.length ≤ 150 ∧ ∀ k ∈ l, k.b.length ≤ 16384)) := by
  obtain ⟨o, cap, hv0⟩ := hv.shape
  refine fn_of_W (rs := [2]) (N := 46) Try.func10 rfl rfl rfl (by simp) ?_
  intro ρ0 hρ0
  have r0 : ev ρ0 (.tmp 0) = v := hρ0 0
  clear hρ0
  have hu := Up.refl w
  subst hv0
  refine W.seqR ?_
  refine WL.cons rfl (st_assign uc ?_)
  refine WL.nil ?_
  refine W.gen ?_; intro ρ1 hρ
  have q0 := (hρ 0).trans (un r0)
  clear hρ r0
  have r0 := q0; clear q0
  refine W.seqR ?_
  refine WL.cons rfl (st_assign uc ?_)
  refine WL.cons rfl (st_assign uc ?_)
  refine WL.nil ?_
  refine W.gen ?_; intro ρ2 hρ
  have q0 := (hρ 0).trans (un (un r0)); have q3 := (hρ 3).trans (un us); have q4 := (hρ 4).trans us
  clear hρ r0
  have r0 := q0; clear q0; have r3 := q3; clear q3; have r4 := q4; clear q4
  refine W.seq ?_
  refine W.seqR ?_
  refine WL.cons rfl (st_move r0 ?_)
  refine WL.cons rfl (st_lenS us Try.underlying70 ?_)
  refine WL.cons rfl (st_move uc ?_)
  refine WL.nil ?_
  refine W.gen ?_; intro ρ3 hρ
  have q3 := (hρ 3).trans (un (un (un r3))); have q4 := (hρ 4).trans (un (un (un r4))); have q8 := (hρ 8).trans (un (un us)); have q9 := (hρ 9).trans (un us)
  have q10 := (hρ 10).trans us
  clear hρ r0 r3 r4
  have r3 := q3; clear q3; have r4 := q4; clear q4; have r8 := q8; clear q8; have r9 := q9; clear q9; have r10 := q10; clear q10
  refine W.block ?_
  refine W.loop (fun nn ρ' w' => ∃ (i : Nat) (n a : Int), ev ρ' (.tmp 3) = .int .i64 n ∧ ev ρ' (.tmp 4) = .int .i64 a ∧ ev ρ' (.tmp 10) = .int .i64 (i : Int) ∧ ev ρ' (.tmp 8) = ev ρ3 (.tmp 8) ∧ ev ρ' (.tmp 9) = ev ρ3 (.tmp 9) ∧ i + nn = ls.length ∧ (0 ≤ n ∧ n ≤ 40000 ∧ 0 ≤ a ∧ a ≤ 200) ∧ ShortP (ls.take i) n a ∧ w' = w) (ls.length) ?_ ?_
  · exact ⟨0, 0, 0, (by first | exact r3 | (refine r3.trans ?_; congr 1; omega) | (refine r3.trans ?_; simp)), (by first | exact r4 | (refine r4.trans ?_; congr 1; omega) | (refine r4.trans ?_; simp)), (by first | exact r10 | (refine r10.trans ?_; congr 1; omega) | (refine r10.trans ?_; simp)), rfl, rfl, by omega, by omega, fun _ _ l hl => by simp at hl, rfl⟩
  intro nn ρ4 w1 ⟨i, n, a, q3, q4, q10, q8, q9, hi, hna, hP, hw⟩
  have s8 := q8; replace q8 := q8.trans r8
  have s9 := q9; replace q9 := q9.trans r9
  clear r10 r3 r4 r8 r9
  have r3 := q3; clear q3; have r4 := q4; clear q4; have r10 := q10; clear q10; have r8 := q8; clear q8; have r9 := q9; clear q9
  replace hw := hw.symm; subst hw
  have x0_8 := s8.symm.trans r8; clear s8
  have x0_9 := s9.symm.trans r9; clear s9
  refine W.seqR ?_
  refine WL.cons rfl (st_lss r10 r9 ?_)
  refine WL.nil ?_
  refine W.gen ?_; intro ρ5 hρ
  have q3 := (hρ 3).trans (un r3); have q4 := (hρ 4).trans (un r4); have q8 := (hρ 8).trans (un r8); have q9 := (hρ 9).trans (un r9)
  have q10 := (hρ 10).trans (un r10); have q11 := (hρ 11).trans us
  clear hρ r10 r3 r4 r8 r9
  have r3 := q3; clear q3; have r4 := q4; clear q4; have r8 := q8; clear q8; have r9 := q9; clear q9; have r10 := q10; clear q10; have r11 := q11; clear q11
  refine W.seq ?_
  refine W.cond r11 (fun hc3 => ?_) (fun hc3 => ?_)
  · skip
    try simp only [decide_eq_true_eq, decide_eq_false_iff_not, Bool.not_eq_true', Bool.not_eq_false', Bool.not_eq_eq_eq_not, Bool.not_true, Bool.not_false] at hc3
    obtain ⟨m1, rfl⟩ : ∃ m1, nn = m1 + 1 := ⟨nn - 1, by omega⟩
    obtain ⟨lb, loff, x, l, rfl, hl, hcx, hrx⟩ := hv.at (i := i) (by omega)
    obtain ⟨o2, cap2, rfl⟩ := hrx.shape
    have hml := hm l (List.mem_of_getElem? hl)
    refine W.skip ?_
    refine W.seq ?_
    refine W.block ?_
    refine W.seqR ?_
    refine WL.cons rfl (st_indexAddrS r8 r10 Try.underlying70 Try.sizeOf22 (by omega) (by omega) ?_)
    refine WL.cons rfl (st_load1 Try.isAgg22 us (hcx) ?_)
    refine WL.cons rfl (st_assign us ?_)
    refine WL.nil ?_
    refine W.gen ?_; intro ρ6 hρ
    have q3 := (hρ 3).trans (un (un (un r3))); have q4 := (hρ 4).trans (un (un (un r4))); have q6 := (hρ 6).trans us; have q8 := (hρ 8).trans (un (un (un r8)))
    have q9 := (hρ 9).trans (un (un (un r9))); have q10 := (hρ 10).trans (un (un (un r10)))
    clear hρ r10 r11 r3 r4 r8 r9
    have r3 := q3; clear q3; have r4 := q4; clear q4; have r6 := q6; clear q6; have r8 := q8; clear q8; have r9 := q9; clear q9; have r10 := q10; clear q10
    refine W.seqR ?_
    refine WL.cons rfl (st_assign uc ?_)
    refine WL.nil ?_
    refine W.gen ?_; intro ρ7 hρ
    have q3 := (hρ 3).trans (un r3); have q4 := (hρ 4).trans (un r4); have q6 := (hρ 6).trans (un r6); have q7 := (hρ 7).trans us
    have q8 := (hρ 8).trans (un r8); have q9 := (hρ 9).trans (un r9); have q10 := (hρ 10).trans (un r10)
    clear hρ r10 r3 r4 r6 r8 r9
    have r3 := q3; clear q3; have r4 := q4; clear q4; have r6 := q6; clear q6; have r7 := q7; clear q7; have r8 := q8; clear q8; have r9 := q9; clear q9; have r10 := q10; clear q10
    refine W.block ?_
    refine W.loop (fun nn ρ' w' => ∃ (j : Nat) (n a : Int), ev ρ' (.tmp 3) = .int .i64 n ∧ ev ρ' (.tmp 4) = .int .i64 a ∧ ev ρ' (.tmp 7) = .int .i64 (j : Int) ∧ ev ρ' (.tmp 6) = ev ρ7 (.tmp 6) ∧ ev ρ' (.tmp 8) = ev ρ7 (.tmp 8) ∧ ev ρ' (.tmp 9) = ev ρ7 (.tmp 9) ∧ ev ρ' (.tmp 10) = ev ρ7 (.tmp 10) ∧ j + nn = l.length ∧ (0 ≤ n ∧ n ≤ 40000 ∧ 0 ≤ a ∧ a ≤ 200) ∧ ShortP (ls.take i) n a ∧ ShortQ l j n a ∧ w' = w) (l.length) ?_ ?_
    · exact ⟨0, n, a, (by first | exact r3 | (refine r3.trans ?_; congr 1; omega) | (refine r3.trans ?_; simp)), (by first | exact r4 | (refine r4.trans ?_; congr 1; omega) | (refine r4.trans ?_; simp)), (by first | exact r7 | (refine r7.trans ?_; congr 1; omega) | (refine r7.trans ?_; simp)), rfl, rfl, rfl, rfl, by omega, hna, hP, fun _ _ => ⟨by omega, fun k hk => by simp at hk⟩, rfl⟩
    intro nn ρ8 w2 ⟨j, n, a, q3, q4, q7, q6, q8, q9, q10, hj, hna, hP, hQ, hw⟩
    have s6 := q6; replace q6 := q6.trans r6
    have s8 := q8; replace q8 := q8.trans r8
    have s9 := q9; replace q9 := q9.trans r9
    have s10 := q10; replace q10 := q10.trans r10
    clear r10 r3 r4 r6 r7 r8 r9
    have r3 := q3; clear q3; have r4 := q4; clear q4; have r7 := q7; clear q7; have r6 := q6; clear q6; have r8 := q8; clear q8; have r9 := q9; clear q9; have r10 := q10; clear q10
    replace hw := hw.symm; subst hw
    have x2_6 := s6.symm.trans r6; clear s6
    have x2_8 := s8.symm.trans r8; clear s8
    have x2_9 := s9.symm.trans r9; clear s9
    have x2_10 := s10.symm.trans r10; clear s10
    refine W.seq ?_
    refine W.seqR ?_
    refine WL.cons rfl (st_move r7 ?_)
    refine WL.cons rfl (st_move (un r6) ?_)
    refine WL.cons rfl (st_lenS us Try.underlying22 ?_)
    refine WL.cons rfl (st_lss (un (un us)) us ?_)
    refine WL.cons rfl (st_move us ?_)
    apply WL.seg0 2 (t := 18) (x := 20) (want := true) us rfl
    · intro hg18
      refine WL.guardY rfl (us.trans (by rw [hg18])) rfl (st_move (un (un (un (un (un r4))))) ?_)
      refine WL.guardY rfl ((un us).trans (by rw [hg18])) rfl (st_leq us uc ?_)
      exact WL.nil ⟨(ag (ag ag0)), us, rfl⟩
    intro ρ9 hag hx18
    have q3 := (hag 3 rfl).trans (un (un (un (un (un r3))))); have q4 := (hag 4 rfl).trans (un (un (un (un (un r4))))); have q6 := (hag 6 rfl).trans (un (un (un (un (un r6))))); have q7 := (hag 7 rfl).trans (un (un (un (un (un r7)))))
    have q8 := (hag 8 rfl).trans (un (un (un (un (un r8))))); have q9 := (hag 9 rfl).trans (un (un (un (un (un r9))))); have q10 := (hag 10 rfl).trans (un (un (un (un (un r10))))); have q18 := (hag 18 rfl).trans us
    clear hag r10 r3 r4 r6 r7 r8 r9
    have r3 := q3; clear q3; have r4 := q4; clear q4; have r6 := q6; clear q6; have r7 := q7; clear q7; have r8 := q8; clear q8; have r9 := q9; clear q9; have r10 := q10; clear q10; have r18 := q18; clear q18
    refine WL.cons rfl (st_and r18 hx18 uc ?_)
    refine WL.cons rfl (st_move us ?_)
    apply WL.seg0 2 (t := 22) (x := 24) (want := true) us rfl
    · intro hg22
      refine WL.guardY rfl (us.trans (by rw [hg22])) rfl (st_move (un (un r3)) ?_)
      refine WL.guardY rfl ((un us).trans (by rw [hg22])) rfl (st_leq us uc ?_)
      exact WL.nil ⟨(ag (ag ag0)), us, rfl⟩
    intro ρ10 hag hx22
    have q3 := (hag 3 rfl).trans (un (un r3)); have q4 := (hag 4 rfl).trans (un (un r4)); have q6 := (hag 6 rfl).trans (un (un r6)); have q7 := (hag 7 rfl).trans (un (un r7))
    have q8 := (hag 8 rfl).trans (un (un r8)); have q9 := (hag 9 rfl).trans (un (un r9)); have q10 := (hag 10 rfl).trans (un (un r10)); have q22 := (hag 22 rfl).trans us
    clear hag r10 r18 r3 r4 r6 r7 r8 r9
    have r3 := q3; clear q3; have r4 := q4; clear q4; have r6 := q6; clear q6; have r7 := q7; clear q7; have r8 := q8; clear q8; have r9 := q9; clear q9; have r10 := q10; clear q10; have r22 := q22; clear q22
    refine WL.cons rfl (st_and r22 hx22 uc ?_)
    refine WL.nil ?_
    refine W.gen ?_; intro ρ11 hρ
    have q3 := (hρ 3).trans (un r3); have q4 := (hρ 4).trans (un r4); have q6 := (hρ 6).trans (un r6); have q7 := (hρ 7).trans (un r7)
    have q8 := (hρ 8).trans (un r8); have q9 := (hρ 9).trans (un r9); have q10 := (hρ 10).trans (un r10); have q25 := (hρ 25).trans us
    clear hρ r10 r22 r3 r4 r6 r7 r8 r9
    have r3 := q3; clear q3; have r4 := q4; clear q4; have r6 := q6; clear q6; have r7 := q7; clear q7; have r8 := q8; clear q8; have r9 := q9; clear q9; have r10 := q10; clear q10; have r25 := q25; clear q25
    refine W.cond r25 (fun hc6 => ?_) (fun hc6 => ?_)
    · skip
      try simp only [decide_eq_true_eq, decide_eq_false_iff_not, Bool.not_eq_true', Bool.not_eq_false', Bool.not_eq_eq_eq_not, Bool.not_true, Bool.not_false] at hc6
      obtain ⟨⟨hjl, ha⟩, hn⟩ : ((j : Int) < l.length ∧ a ≤ 150) ∧ n ≤ 16384 := by simpa using hc6
      obtain ⟨kb, koff, k, vb, rfl, hk, hcs, hrb⟩ := hrx.at (j := j) (by omega)
      obtain ⟨o3, cap3, rfl, _, _⟩ := id hrb
      refine W.skip ?_
      refine W.seq ?_
      refine W.block ?_
      refine W.seqR ?_
      refine WL.cons rfl (st_move r4 ?_)
      refine WL.cons rfl (st_add us uc (wr64 (by omega)) ?_)
      refine WL.cons rfl (st_assign us ?_)
      refine WL.nil ?_
      refine W.gen ?_; intro ρ12 hρ
      have q3 := (hρ 3).trans (un (un (un r3))); have q4 := (hρ 4).trans us; have q6 := (hρ 6).trans (un (un (un r6))); have q7 := (hρ 7).trans (un (un (un r7)))
      have q8 := (hρ 8).trans (un (un (un r8))); have q9 := (hρ 9).trans (un (un (un r9))); have q10 := (hρ 10).trans (un (un (un r10)))
      clear hρ r10 r25 r3 r4 r6 r7 r8 r9
      have r3 := q3; clear q3; have r4 := q4; clear q4; have r6 := q6; clear q6; have r7 := q7; clear q7; have r8 := q8; clear q8; have r9 := q9; clear q9; have r10 := q10; clear q10
      refine W.endR ?_
      refine WL.cons rfl (st_move r3 ?_)
      refine WL.cons rfl (st_move (un r6) ?_)
      refine WL.cons rfl (st_move (un (un r7)) ?_)
      refine WL.cons rfl (st_indexAddrS (un us) us Try.underlying22 Try.sizeOf33 (by omega) (by omega) ?_)
      refine WL.cons rfl (st_fieldAddr (f := 3) (k := 0) us Try.underlying33 rfl rfl Try.sizeOf30 ?_)
      refine WL.cons rfl (st_load1 Try.isAgg30 us (hcs 4 _ rfl) ?_)
      refine WL.cons rfl (st_lenS us Try.underlying30 ?_)
      refine WL.cons rfl (st_min us uc ?_)
      refine WL.cons rfl (st_add (un (un (un (un (un (un (un us))))))) us (wr64 (by omega)) ?_)
      refine WL.cons rfl (st_assign us ?_)
      refine WL.nil ?_
      refine W.endR ?_
      refine WL.cons rfl (st_move (un (un (un (un (un (un (un (un (un (un r7)))))))))) ?_)
      refine WL.cons rfl (st_add us uc (wr64 (by omega)) ?_)
      refine WL.cons rfl (st_assign us ?_)
      refine WL.nil ?_
      exact ⟨nn - 1, (by omega), j + 1, n + min (k.b.length : Int) 16385, a + 1, (by first | exact (un (un (un us))) | (refine (un (un (un us))).trans ?_; congr 1; omega) | (refine (un (un (un us))).trans ?_; simp)), (by first | exact (un (un (un (un (un (un (un (un (un (un (un (un (un r4))))))))))))) | (refine (un (un (un (un (un (un (un (un (un (un (un (un (un r4))))))))))))).trans ?_; congr 1; omega) | (refine (un (un (un (un (un (un (un (un (un (un (un (un (un r4))))))))))))).trans ?_; simp)), (by first | exact us | (refine us.trans ?_; congr 1; omega) | (refine us.trans ?_; simp)), ((un (un (un (un (un (un (un (un (un (un (un (un (un r6))))))))))))).trans x2_6.symm), ((un (un (un (un (un (un (un (un (un (un (un (un (un r8))))))))))))).trans x2_8.symm), ((un (un (un (un (un (un (un (un (un (un (un (un (un r9))))))))))))).trans x2_9.symm), ((un (un (un (un (un (un (un (un (un (un (un (un (un r10))))))))))))).trans x2_10.symm), by omega, by omega, hP.more (by omega), hQ.next hk hna.1, rfl⟩
    · skip
      try simp only [decide_eq_true_eq, decide_eq_false_iff_not, Bool.not_eq_true', Bool.not_eq_false', Bool.not_eq_eq_eq_not, Bool.not_true, Bool.not_false] at hc6
      have hP2 := hP.next hl hQ (fun e => by simp [e] at hc6) (by omega)
      refine W.exit ?_
      refine exitHere ?_
      refine W.endR ?_
      refine WL.cons rfl (st_add r10 uc (wr64 (by omega)) ?_)
      refine WL.cons rfl (st_move us ?_)
      refine WL.nil ?_
      exact ⟨m1, (by omega), i + 1, n, a, (by first | exact (un (un r3)) | (refine (un (un r3)).trans ?_; congr 1; omega) | (refine (un (un r3)).trans ?_; simp)), (by first | exact (un (un r4)) | (refine (un (un r4)).trans ?_; congr 1; omega) | (refine (un (un r4)).trans ?_; simp)), (by first | exact us | (refine us.trans ?_; congr 1; omega) | (refine us.trans ?_; simp)), ((un (un r8)).trans x0_8.symm), ((un (un r9)).trans x0_9.symm), by omega, hna, hP2, rfl⟩
  · skip
    try simp only [decide_eq_true_eq, decide_eq_false_iff_not, Bool.not_eq_true', Bool.not_eq_false', Bool.not_eq_eq_eq_not, Bool.not_true, Bool.not_false] at hc3
    refine W.exit ?_
    refine exitHere ?_
    refine W.seqR ?_
    refine WL.cons rfl (st_move r4 ?_)
    refine WL.cons rfl (st_leq us uc ?_)
    refine WL.cons rfl (st_move us ?_)
    apply WL.seg0 2 (t := 42) (x := 44) (want := true) us rfl
    · intro hg42
      refine WL.guardY rfl (us.trans (by rw [hg42])) rfl (st_move (un (un (un r3))) ?_)
      refine WL.guardY rfl ((un us).trans (by rw [hg42])) rfl (st_leq us uc ?_)
      exact WL.nil ⟨(ag (ag ag0)), us, rfl⟩
    intro ρ13 hag hx42
    have q42 := (hag 42 rfl).trans us
    clear hag r10 r11 r3 r4 r8 r9
    have r42 := q42; clear q42
    refine WL.cons rfl (st_and r42 hx42 uc ?_)
    refine WL.cons rfl (st_assign us ?_)
    refine WL.nil ?_
    refine W.gen ?_; intro ρ14 hρ
    have q2 := (hρ 2).trans us
    clear hρ r42
    have r2 := q2; clear q2
    refine W.ret ?_
    refine fin1 r2 ?_
    have he : i = ls.length := by omega
    refine ⟨_, rfl, Up.refl _, fun ht => ?_⟩
    have ht2 : a ≤ 150 ∧ n ≤ 16384 := by simpa using ht
    have := hP ht2.1 ht2.2
    rw [he, List.take_length] at this; exact this

end Go.Proofs.Ytppohfgaegahoaa

namespace Go.Proofs.Ytppohfgaegahoaa
open Go.Tw Go.RowKit

def playR (ks : List DoS) : RefS := ks.foldl (fun x k => (x.also k).1) ⟨[], fun _ => false, 0⟩
def playS (ks : List DoS) : NetS := ks.foldl (fun s k => (s.does k).1) ⟨[], 0, 0⟩
theorem playR_snoc (ks : List DoS) (k : DoS) : playR (ks ++ [k]) = ((playR ks).also k).1 := by simp [playR]
theorem play_step {ks : List DoS} {i : Nat} {k : DoS} (h : ks[i]? = some k) (l : List DoS) : playR (l ++ ks.take (i + 1)) = ((playR (l ++ ks.take i)).also k).1 := by
  obtain ⟨hlt, he⟩ := List.getElem?_eq_some_iff.1 h
  rw [List.take_succ_eq_append_getElem hlt, he, ← List.append_assoc, playR_snoc]
theorem play_past {ks : List DoS} {i : Nat} (h : ks.length ≤ i) : ks.take (i + 1) = ks.take i := by
  rw [List.take_of_length_le h, List.take_of_length_le (by omega)]
theorem play_fold : ∀ (ks : List DoS) (s : NetS) (x : RefS), s.Ok → Same s x → (ks.foldl (fun s k => (s.does k).1) s).Ok ∧ Same (ks.foldl (fun s k => (s.does k).1) s) (ks.foldl (fun x k => (x.also k).1) x)
  | [], _, _, h1, h2 => ⟨h1, h2⟩
  | k :: ks, s, x, h1, h2 => play_fold ks _ _ (h1.does k) (same_also h1 h2 k).2
theorem play_same (ks : List DoS) : (playS ks).Ok ∧ Same (playS ks) (playR ks) := play_fold ks _ _ netOk_new same_new
theorem play_few (ks : List DoS) : (playR ks).items.length ≤ 1000000 := Nat.le_trans (same_few (play_same ks).1 (play_same ks).2) (by omega)
theorem play_fits (ks : List DoS) : ∀ p ∈ (playR ks).items, fitsL p.1 = true := same_fits (play_same ks).1 (play_same ks).2

theorem same_of {s s' : NetS} {x : RefS} (h : Same s x) (hof : ∀ l, aget s'.of l = aget s.of l) (hl : s'.lost = s.lost) (hs : s'.side = s.side) : Same s' x :=
  ⟨fun l => by rw [← h.q]; unfold NetS.q; rw [hof], hl.trans h.lost, by rw [hs]; exact h.side⟩
theorem ok_of {s s' : NetS} (hk : s.Ok) (hn : (akeys s'.of).Nodup) (hof : ∀ l, aget s'.of l = aget s.of l) : s'.Ok := by
  have hq : ∀ l, s'.q l = s.q l := fun l => by unfold NetS.q; rw [hof]
  exact ⟨hn, fun x hx => hk.fits x (by rw [← hof]; exact hx), fun x q hx => hk.ne x q (by rw [← hof]; exact hx), fun x => by rw [hq]; exact hk.max x, fun x m hm => hk.short x m (by rw [← hq]; exact hm)⟩

structure Twin (Sa Sb : Nat → Prop) (w : World) (an am bn bm : Nat) (sa sb : NetS) (x y : RefS) : Prop where
  a : NetR Sa w an am sa
  b : NetR Sb w bn bm sb
  ne : an ≠ bn ∧ an ≠ bm ∧ am ≠ bn ∧ am ≠ bm
  na : ¬ Sa bn ∧ ¬ Sa bm
  nb : ¬ Sb an ∧ ¬ Sb am
  oka : sa.Ok
  okb : sb.Ok
  sma : Same sa x
  smb : Same sb y
theorem Twin.up {Sa Sb : Nat → Prop} {w w' : World} {an am bn bm : Nat} {sa sb : NetS} {x y : RefS} (h : Twin Sa Sb w an am bn bm sa sb x y) (e : Up w w') : Twin Sa Sb w' an am bn bm sa sb x y :=
  ⟨h.a.up e, h.b.up e, h.ne, h.na, h.nb, h.oka, h.okb, h.sma, h.smb⟩
theorem Twin.swap {Sa Sb : Nat → Prop} {w : World} {an am bn bm : Nat} {sa sb : NetS} {x y : RefS} (h : Twin Sa Sb w an am bn bm sa sb x y) : Twin Sb Sa w bn bm an am sb sa y x :=
  ⟨h.b, h.a, ⟨h.ne.1.symm, h.ne.2.2.1.symm, h.ne.2.1.symm, h.ne.2.2.2.symm⟩, h.nb, h.na, h.okb, h.oka, h.smb, h.sma⟩
theorem Twin.step {Sa Sb : Nat → Prop} {w w1 : World} {an am bn bm : Nat} {sa sb : NetS} {x y : RefS} {u : Value} {m : Msg} {k : DoS} (h : Twin Sa Sb w an am bn bm sa sb x y) (ht : NetToX Sa w w1 an am (sa.does k).1 u m) :
    Frm (fun b => b = an ∨ b = am) w w1 ∧ ∃ Sa', Twin Sa' Sb w1 an am bn bm (sa.does k).1 sb (x.also k).1 y := by
  obtain ⟨h1, S', h2, h3, _⟩ := ht
  have l1 := h.b.blk.lt
  have l2 := h.b.map.lt
  refine ⟨h1, S', h2, h.b.frm h1 (fun e => ?_) (fun e => ?_) (fun b hb e => ?_), h.ne, ⟨fun e => ?_, fun e => ?_⟩, h.nb, h.oka.does k, h.okb, (same_also h.oka h.sma k).2, h.smb⟩
  · rcases e with e | e; exact h.ne.1 e.symm; exact h.ne.2.2.1 e.symm
  · rcases e with e | e; exact h.ne.2.1 e.symm; exact h.ne.2.2.2 e.symm
  · rcases e with e | e <;> subst e; exact h.nb.1 hb; exact h.nb.2 hb
  · rcases h3 _ e with e | e; exact h.na.1 e; omega
  · rcases h3 _ e with e | e; exact h.na.2 e; omega

theorem flat_append : ∀ (ks ks' : List DoS) (vs vs' : List Value), ks.length = vs.length → flat (ks ++ ks') (vs ++ vs') = flat ks vs ++ flat ks' vs'
  | [], _, [], _, _ => rfl
  | k :: ks, ks', v :: vs, vs', h => by simp only [List.cons_append, flat, List.append_assoc]; rw [flat_append ks ks' vs vs' (by simpa using h)]
  | [], _, _ :: _, _, h => by simp at h
  | _ :: _, _, [], _, h => by simp at h
theorem flat_one {w : World} {S : Nat → Prop} : ∀ (ks : List DoS) (vs : List Value), All2 (fun vb (k : DoS) => RB S w vb k.b) vs ks → ∀ c ∈ flat ks vs, c.oneCell' = true
  | [], _, _ => by simp [flat]
  | k :: ks, [], h => h.elim
  | k :: ks, v :: vs, h => by
    intro c hc
    obtain ⟨h1, h2⟩ := h
    simp only [flat, List.mem_append] at hc
    rcases hc with hc | hc
    · obtain ⟨o, n, rfl, _⟩ := h1
      simp [doCells] at hc
      rcases hc with rfl | rfl | rfl | rfl | rfl | rfl <;> rfl
    · exact flat_one ks vs h2 c hc
end Go.Proofs.Ytppohfgaegahoaa

namespace Go.Proofs.Ytppohfgaegahoaa
open Go.Tw Go.RowKit
attribute [local irreducible] Step WL W WQ Does

/-- slices.Clone   towline towlinelaw04.Do,towline towlinelaw04.Do  -/
theorem cloneDo_ok {S : Nat → Prop} {v : Value} {n : Nat} {cs : List Value} (w : World) (hv : SlV S w v n 6 cs) (h1 : ∀ c ∈ cs, c.oneCell' = true) (hn : n ≤ 1000000) : Does Try.prog 27 #[v] w (fun v' w' => Own w.heap.size w' 33 6 v' n cs ∧ Up w w') := by
  obtain ⟨o, cap, hv0, hl, hc⟩ := hv
  refine fn_of_W (rs := [2]) (N := 8) Try.func27 rfl rfl rfl (by simp) ?_
  intro ρ0 hρ0
  have r0 : ev ρ0 (.tmp 0) = v := hρ0 0
  clear hρ0
  have hu := Up.refl w
  subst hv0
  refine W.seqR ?_
  refine WL.cons rfl (st_assign uc ?_)
  refine WL.nil ?_
  refine W.gen ?_; intro ρ1 hρ
  have q0 := (hρ 0).trans (un r0)
  clear hρ r0
  have r0 := q0; clear q0
  refine W.seq ?_
  refine W.seqR ?_
  refine WL.cons rfl (st_move r0 ?_)
  refine WL.cons rfl (st_eqlS0 us uc Try.underlying22 ?_)
  refine WL.nil ?_
  refine W.gen ?_; intro ρ2 hρ
  have q0 := (hρ 0).trans (un (un r0)); have q4 := (hρ 4).trans us
  clear hρ r0
  have r0 := q0; clear q0; have r4 := q4; clear q4
  refine W.cond r4 (fun hc1 => ?_) (fun hc1 => ?_)
  · skip
    try simp only [decide_eq_true_eq, decide_eq_false_iff_not, Bool.not_eq_true', Bool.not_eq_false', Bool.not_eq_eq_eq_not, Bool.not_true, Bool.not_false] at hc1
    have ho : o = none := by cases o <;> simp_all
    refine W.seqR ?_
    refine WL.cons rfl (st_assign uc ?_)
    refine WL.nil ?_
    refine W.gen ?_; intro ρ3 hρ
    have q2 := (hρ 2).trans us
    clear hρ r0 r4
    have r2 := q2; clear q2
    refine W.ret ?_
    refine fin1 r2 ?_
    have hn0 : n = 0 := by
      rcases Nat.eq_zero_or_pos n with h | h
      · exact h
      · obtain ⟨b, off, e, _⟩ := hc h; rw [ho] at e; cases e
    subst hn0
    exact ⟨⟨hl, .inl ⟨rfl, rfl⟩⟩, hu⟩
  · skip
    try simp only [decide_eq_true_eq, decide_eq_false_iff_not, Bool.not_eq_true', Bool.not_eq_false', Bool.not_eq_eq_eq_not, Bool.not_true, Bool.not_false] at hc1
    refine W.skip ?_
    refine W.seqR ?_
    refine WL.cons rfl (st_empty Try.underlying22 Try.sizeOf33 ?_)
    intro ve w1 hve _ hoe ue; have hu1 := hu; replace hu := hu.trans ue
    refine WL.cons rfl (st_move (un r0) ?_)
    refine WL.cons rfl (st_append (un us) us Try.underlying22 info33 rfl (by omega) hoe (show SlV S _ (.slice o n cap) n 6 cs from SlV.up ⟨o, cap, rfl, hl, hc⟩ hu) h1 (by omega) (by omega) hu.size ?_)
    intro u w2 hou hfr _ _
    replace hu : Up w w2 := Up.local hu (hfr.mono fun k _ hk => by rw [hve] at hk; exact (Option.some.inj hk).symm) hu1.size
    refine WL.cons rfl (st_assign us ?_)
    refine WL.nil ?_
    refine W.gen ?_; intro ρ4 hρ
    have q2 := (hρ 2).trans us
    clear hρ r0 r4
    have r2 := q2; clear q2
    refine W.ret ?_
    refine fin1 r2 ?_
    exact ⟨by simpa using hou.base hu1.size, hu⟩

theorem new_ref {w : World} {bx : Nat} (hb : Blk w bx (.cells (Value.agg (refC (.slice none 0 0) ⟨[], fun _ => false, 0⟩).toArray).cells 51)) : RefR (fun _ => False) w bx (playR []) :=
  ⟨⟨_, hb, ⟨none, 0, rfl, rfl, fun h => absurd h (Nat.lt_irrefl 0)⟩, fun o n c e => by cases e; exact Nat.le_refl _⟩, fun h => h, fun _ h => h.elim⟩
theorem play_take {ks : List DoS} {j : Nat} {k : DoS} (h : ks[j]? = some k) : playR (ks.take (j + 1)) = ((playR (ks.take j)).also k).1 := by simpa using play_step h []

/-- towline towlinelaw04.LinksTwins$1 -/
theorem play_ok {v0 v1 : Value} (l m : List DoS) (w : World) (h0 : RDos (fun b => b < w.heap.size) w v0 l) (h1 : RDos (fun b => b < w.heap.size) w v1 m) (hl : l.length ≤ 150) (hm : m.length ≤ 150) (hsl : ∀ d ∈ l ++ m, SideOk d) : Does Try.prog 26 #[v0, v1] w (fun v w' => ∃ bx Sx, v = .pointer (some ⟨bx, 0, none⟩) ∧ Up w w' ∧ RefR Sx w' bx (playR (l ++ m))) := by
  obtain ⟨o0, c0, hv0⟩ := h0.shape
  obtain ⟨o1, c1, hv1⟩ := h1.shape
  have hlen : (l ++ m).length ≤ 300 := by rw [List.length_append]; omega
  refine fn_of_W (rs := [4]) (N := 24) Try.func26 rfl rfl rfl (by simp) ?_
  intro ρ0 hρ0
  have r0 : ev ρ0 (.tmp 0) = v0 := hρ0 0
  have r1 : ev ρ0 (.tmp 1) = v1 := hρ0 1
  clear hρ0
  have hu := Up.refl w
  subst hv0; subst hv1
  refine W.seqR ?_
  refine WL.cons rfl (st_assign uc ?_)
  refine WL.nil ?_
  refine W.gen ?_; intro ρ1 hρ
  have q0 := (hρ 0).trans (un r0); have q1 := (hρ 1).trans (un r1)
  clear hρ r0 r1
  have r0 := q0; clear q0; have r1 := q1; clear q1
  refine W.seqR ?_
  refine WL.cons rfl (st_buildP0 (v := .agg (refC (.slice none 0 0) ⟨[], fun _ => false, 0⟩).toArray) (fun w => by kernel_rfl) ?_)
  refine WL.cons rfl (st_box us ?_)
  intro b9 w1 m9; have B9 := m9.blk
  replace hu := hu.trans m9.up
  refine WL.cons rfl (st_assign us ?_)
  refine WL.nil ?_
  refine W.gen ?_; intro ρ2 hρ
  have q0 := (hρ 0).trans (un (un (un r0))); have q1 := (hρ 1).trans (un (un (un r1))); have q5 := (hρ 5).trans us
  clear hρ r0 r1
  have r0 := q0; clear q0; have r1 := q1; clear q1; have r5 := q5; clear q5
  have hr := new_ref B9
  have hb9 := B9.lt
  have ha9 := m9.at_; have hw9 : w.heap.size ≤ b9 := by omega
  clear B9
  refine W.seq ?_
  obtain ⟨vs0, hs0, ha0⟩ := h0.up hu
  obtain ⟨vs1, hs1, ha1⟩ := h1.up hu
  have hvl0 := ha0.length; have hvl1 := ha1.length
  refine W.seqR ?_
  refine WL.cons rfl (st_move r0 ?_)
  refine WL.cons rfl (st_call1 ent27 us (((cloneDo_ok _ hs0 (flat_one _ _ ha0) (by omega))).mono ?_))
  intro vc w2 ⟨hoc, uK⟩; obtain ⟨bc, hbc⟩ : ∃ bc, bc = w1.heap.size := ⟨_, rfl⟩
  rw [← hbc] at hoc hb9; have hbs := hu.size; rw [← hbc] at hbs; replace hr := hr.up uK
  replace hu := hu.trans uK
  refine WL.cons rfl (st_move (un (un r1)) ?_)
  refine WL.cons rfl (st_append (un us) us Try.underlying22 info33 rfl (by omega) hoc (hs1.up uK) (flat_one _ _ ha1) (by omega) (by omega) (by rw [hbc]; exact uK.size) ?_)
  intro va w3 hoa hfr _ _
  have hob := fun b hb => (Own.block hoc b hb).1
  replace hu := (Frm.trans' (X := NoB) hu.frm hfr fun i hi e => absurd (hob i e) (by omega)).up
  replace hr := hr.frm hfr (fun e => by have := hob b9 e; omega) (fun b hb => hb.elim)
  have hd : RDos (fun b => b ≠ b9) w3 va (l ++ m) := by
    refine ⟨vs0 ++ vs1, ?_, All2.append ?_ ?_⟩
    · rw [flat_append l m vs0 vs1 hvl0.symm, List.length_append]
      exact hoa.sl.mono (fun b _ hb => by omega) (by omega)
    · exact All2.imp ha0 fun _ _ _ _ h => ((RB.up h uK).frm hfr fun b hb e => by have hb : b < w.heap.size := hb; have := hob b e; omega).mono fun b _ hb => by have hb : b < w.heap.size := hb; omega
    · exact All2.imp ha1 fun _ _ _ _ h => ((RB.up h uK).frm hfr fun b hb e => by have hb : b < w.heap.size := hb; have := hob b e; omega).mono fun b _ hb => by have hb : b < w.heap.size := hb; omega
  obtain ⟨oa, ca, hva⟩ := hd.shape
  subst hva
  refine WL.cons rfl (st_lenS us Try.underlying22 ?_)
  refine WL.cons rfl (st_move uc ?_)
  refine WL.nil ?_
  refine W.gen ?_; intro ρ3 hρ
  have q5 := (hρ 5).trans (un (un (un (un (un (un r5)))))); have q13 := (hρ 13).trans (un (un us)); have q14 := (hρ 14).trans (un us); have q15 := (hρ 15).trans us
  clear hρ r0 r1 r5
  have r5 := q5; clear q5; have r13 := q13; clear q13; have r14 := q14; clear q14; have r15 := q15; clear q15
  refine W.block ?_
  refine W.loop (fun nn ρ' w' => ∃ j : Nat, ev ρ' (.tmp 15) = .int .i64 (j : Int) ∧ ev ρ' (.tmp 5) = ev ρ3 (.tmp 5) ∧ ev ρ' (.tmp 13) = ev ρ3 (.tmp 13) ∧ ev ρ' (.tmp 14) = ev ρ3 (.tmp 14) ∧ j + nn = (l ++ m).length ∧ Up w w' ∧ (∃ Sx, RefR Sx w' b9 (playR ((l ++ m).take j))) ∧ RDos (fun b => b ≠ b9) w' (.slice oa (l ++ m).length ca) (l ++ m)) ((l ++ m).length) ?_ ?_
  · exact ⟨0, (by first | exact r15 | (refine r15.trans ?_; congr 1; omega) | (refine r15.trans ?_; simp)), rfl, rfl, rfl, by omega, hu, ⟨_, hr⟩, hd⟩
  intro nn ρ4 w4 ⟨j, q15, q5, q13, q14, hj, hu, hre, hd⟩
  have s5 := q5; replace q5 := q5.trans r5
  have s13 := q13; replace q13 := q13.trans r13
  have s14 := q14; replace q14 := q14.trans r14
  clear r13 r14 r15 r5
  have r15 := q15; clear q15; have r5 := q5; clear q5; have r13 := q13; clear q13; have r14 := q14; clear q14
  clear hr; obtain ⟨Sx, hr⟩ := hre
  have x0_5 := s5.symm.trans r5; clear s5
  have x0_13 := s13.symm.trans r13; clear s13
  have x0_14 := s14.symm.trans r14; clear s14
  refine W.seqR ?_
  refine WL.cons rfl (st_lss r15 r14 ?_)
  refine WL.nil ?_
  refine W.gen ?_; intro ρ5 hρ
  have q5 := (hρ 5).trans (un r5); have q13 := (hρ 13).trans (un r13); have q14 := (hρ 14).trans (un r14); have q15 := (hρ 15).trans (un r15)
  have q16 := (hρ 16).trans us
  clear hρ r13 r14 r15 r5
  have r5 := q5; clear q5; have r13 := q13; clear q13; have r14 := q14; clear q14; have r15 := q15; clear q15; have r16 := q16; clear q16
  refine W.seq ?_
  refine W.cond r16 (fun hc3 => ?_) (fun hc3 => ?_)
  · skip
    try simp only [decide_eq_true_eq, decide_eq_false_iff_not, Bool.not_eq_true', Bool.not_eq_false', Bool.not_eq_eq_eq_not, Bool.not_true, Bool.not_false] at hc3
    obtain ⟨kb, koff, d, vb, rfl, hkk, hcs, hvb⟩ := hd.at (j := j) (by omega)
    have hso := hsl d (List.mem_of_getElem? hkk)
    refine W.skip ?_
    refine W.seq ?_
    refine W.block ?_
    refine W.seqR ?_
    refine WL.cons rfl (st_indexAddrS r13 r15 Try.underlying22 Try.sizeOf33 (by omega) (by omega) ?_)
    refine WL.cons rfl (st_loadK Try.isAgg33 Try.sizeOf33 us (hcs) rfl ?_)
    refine WL.allocStore (v := .agg (doCells d vb).toArray) rfl (fun _ => un us) Try.zeroValue33 Try.sizeOf33 rfl (by first | rfl | kernel_rfl) (by first | exact ekL_one _ | exact do_one hvb _ | exact it3_one _ | simp [Value.cells, Value.oneCell']) ?_
    intro b7 w5 m7; have B7 := m7.blk
    replace hr := hr.up m7.up
    replace hd := hd.up m7.up
    replace hu := hu.trans m7.up
    replace hvb := hvb.up m7.up
    refine WL.nil ?_
    refine W.gen ?_; intro ρ6 hρ
    have q5 := (hρ 5).trans (un0 (un (un (un r5)))); have q7 := (hρ 7).trans (un0 us); have q13 := (hρ 13).trans (un0 (un (un (un r13)))); have q14 := (hρ 14).trans (un0 (un (un (un r14))))
    have q15 := (hρ 15).trans (un0 (un (un (un r15))))
    clear hρ r13 r14 r15 r16 r5
    have r5 := q5; clear q5; have r7 := q7; clear q7; have r13 := q13; clear q13; have r14 := q14; clear q14; have r15 := q15; clear q15
    refine W.endR ?_
    refine WL.cons rfl (st_move r5 ?_)
    refine WL.cons rfl (st_loadK Try.isAgg33 Try.sizeOf33 (un r7) (B7.row) rfl ?_)
    refine WL.cons rfl (st_call2 ent19 (un us) us (((also_ok _ hr (play_few _) (play_fits _) d hso hvb)).mono ?_))
    intro vx w6 ⟨_, hf2, Sx2, hr2, _⟩
    replace hu := (Frm.trans' (X := NoB) hu.frm hf2 fun i hi e => by have e : i = b9 := e; omega).up
    replace hd := hd.frm hf2 (fun b hb e => hb e)
    rw [← play_take hkk] at hr2
    clear hr; have hr := hr2; clear hr2
    refine WL.nil ?_
    refine W.endR ?_
    refine WL.cons rfl (st_add (un (un (un r15))) uc (wr64 (by omega)) ?_)
    refine WL.cons rfl (st_move us ?_)
    refine WL.nil ?_
    exact ⟨nn - 1, (by omega), j + 1, (by first | exact us | (refine us.trans ?_; congr 1; omega) | (refine us.trans ?_; simp)), ((un (un (un (un (un r5))))).trans x0_5.symm), ((un (un (un (un (un r13))))).trans x0_13.symm), ((un (un (un (un (un r14))))).trans x0_14.symm), by omega, hu, ⟨_, hr⟩, hd⟩
  · skip
    try simp only [decide_eq_true_eq, decide_eq_false_iff_not, Bool.not_eq_true', Bool.not_eq_false', Bool.not_eq_eq_eq_not, Bool.not_true, Bool.not_false] at hc3
    skip
    refine W.exit ?_
    refine exitHere ?_
    refine W.seqR ?_
    refine WL.cons rfl (st_move r5 ?_)
    refine WL.cons rfl (st_assign us ?_)
    refine WL.nil ?_
    refine W.gen ?_; intro ρ7 hρ
    have q4 := (hρ 4).trans us
    clear hρ r13 r14 r15 r16 r5
    have r4 := q4; clear q4
    refine W.ret ?_
    refine fin1 r4 ?_
    have he : (l ++ m).take j = l ++ m := by rw [show j = (l ++ m).length by omega, List.take_length]
    rw [he] at hr
    exact ⟨b9, _, rfl, hu, hr⟩

end Go.Proofs.Ytppohfgaegahoaa

namespace Go.Proofs.Ytppohfgaegahoaa
open Go.Tw Go.RowKit
attribute [local irreducible] Step WL W WQ Does

section
variable {P : Program} {ρ : Env} {w : World} {K : Value → World → Prop} {d : Option Nat} {ty : TypeId} {ps : String} {af : Array Edge} {gd : Option (Nat × Bool)}
theorem st_bs3 {T E : TypeId} {n : Nat} {x y z : Operand} {v u t : Value} {cells : Array Value} (hx : ev ρ x = v) (hy : ev ρ y = u) (hz : ev ρ z = t) (hrun : ∀ w, (Instr.buildSlice T n #[(0, v), (1, u), (2, t)]).run P w = .ok (.slice (some ⟨w.heap.size, 0, none⟩) n n) (w.alloc (.cells cells E)))
    (h : ∀ b w', Made w w' b (.cells cells E) → K (.slice (some ⟨b, 0, none⟩) n n) w') : Step P ⟨d, .buildSlice T n #[(0, x), (1, y), (2, z)], ty, ps, af, gd⟩ ρ w K := by
  subst hx; subst hy; subst hz
  exact st_buildSlice (fun w => by simpa using hrun w) h
end
theorem build_triple (v u t : Value) (hv : v.oneCell' = true) (hu : u.oneCell' = true) (ht : t.oneCell' = true) (w : World) : (Instr.buildSlice 70 3 #[(0, v), (1, u), (2, t)]).run Try.prog w = .ok (.slice (some ⟨w.heap.size, 0, none⟩) 3 3) (w.alloc (.cells #[v, u, t] 22)) := by
  have h1 : v.cells = #[v] := by cases v <;> first | rfl | cases hv
  have h2 : u.cells = #[u] := by cases u <;> first | rfl | cases hu
  have h3 : t.cells = #[t] := by cases t <;> first | rfl | cases ht
  refine run_buildN Try.underlying70 info22 (by decide) (by decide) ?_ w
  have hr : (Array.range (3 * 1)).map ((Value.slice none 0 0).cells[· % (Value.slice none 0 0).cells.size]!) = #[.slice none 0 0, .slice none 0 0, .slice none 0 0] := by
    refine Array.ext (by simp) fun i h1 h2 => ?_
    have : i = 0 ∨ i = 1 ∨ i = 2 := by simp at h2; omega
    rcases this with rfl | rfl | rfl <;> simp [Value.cells]
  rw [hr]
  simp [Instr.fill, h1, h2, h3]
def LoopA (w w' : World) (an am : Nat) (x : RefS) : Prop := Up w w' ∧ ∃ S s, NetR S w' an am s ∧ s.Ok ∧ Same s x
def LoopT (w w' : World) (an am bn bm : Nat) (x y : RefS) : Prop := Up w w' ∧ ∃ Sa Sb sa sb, Twin Sa Sb w' an am bn bm sa sb x y

theorem RDos.lt {w w' : World} {v : Value} {ks : List DoS} (h : RDos (fun b => b < w.heap.size) w' v ks) (e : w.heap.size ≤ w'.heap.size) : RDos (fun b => b < w'.heap.size) w' v ks := by
  obtain ⟨vbs, h1, h2⟩ := h
  exact ⟨vbs, h1.mono (fun b _ hb => Nat.lt_of_lt_of_le hb e) (by omega), All2.imp h2 fun _ _ _ _ h => h.mono fun b _ hb => Nat.lt_of_lt_of_le hb e⟩

/-- towline towlinelaw04.LinksTwins -/
theorem twins_walk {v0 v1 v2 : Value} (l one two : List DoS) (w : World) (hv0 : RDos (fun b => b < w.heap.size) w v0 l) (hv1 : RDos (fun b => b < w.heap.size) w v1 one) (hv2 : RDos (fun b => b < w.heap.size) w v2 two) (hn0 : l.length ≤ 9223372036854775807) (hn1 : one.length ≤ 9223372036854775807) (hn2 : two.length ≤ 9223372036854775807) (hs0 : ∀ d ∈ l, SideOk d) (hs1 : ∀ d ∈ one, SideOk d) (hs2 : ∀ d ∈ two, SideOk d) : Does Try.prog 9 #[v0, v1, v2] w (fun v' w' => v' = .bool true ∧ Up w w') := by
  obtain ⟨o0, c0, he0⟩ := hv0.shape
  obtain ⟨o1, c1, he1⟩ := hv1.shape
  obtain ⟨o2, c2, he2⟩ := hv2.shape
  refine fn_of_W (rs := [6]) (N := 83) Try.func9 rfl rfl rfl (by simp) ?_
  intro ρ0 hρ0
  have r0 : ev ρ0 (.tmp 0) = v0 := hρ0 0
  have r1 : ev ρ0 (.tmp 1) = v1 := hρ0 1
  have r2 : ev ρ0 (.tmp 2) = v2 := hρ0 2
  clear hρ0
  have hu := Up.refl w
  subst he0; subst he1; subst he2
  refine W.seqR ?_
  refine WL.cons rfl (st_assign uc ?_)
  refine WL.nil ?_
  refine W.gen ?_; intro ρ1 hρ
  have q0 := (hρ 0).trans (un r0); have q1 := (hρ 1).trans (un r1); have q2 := (hρ 2).trans (un r2)
  clear hρ r0 r1 r2
  have r0 := q0; clear q0; have r1 := q1; clear q1; have r2 := q2; clear q2
  refine W.seq ?_
  refine W.seqR ?_
  refine WL.cons rfl (st_move r0 ?_)
  refine WL.cons rfl (st_move (un r1) ?_)
  refine WL.cons rfl (st_move (un (un r2)) ?_)
  refine WL.cons rfl (st_bs3 (un (un us)) (un us) us (build_triple _ _ _ rfl rfl rfl) ?_)
  intro b18 w1 m18; have hrl : RL AnyB w1 _ [l, one, two] := ⟨_, made_sl (cells := [_, _, _]) m18 rfl trivial, ((hv0.mono0).up hu).up m18.up, ((hv1.mono0).up hu).up m18.up, ((hv2.mono0).up hu).up m18.up, trivial⟩; replace hu := hu.trans m18.up; clear m18
  refine WL.cons rfl (st_call1 ent10 us (((short2_ok [l, one, two] _ hrl (by simp) (by simpa using ⟨hn0, hn1, hn2⟩))).mono ?_))
  intro vs w2 ⟨t, hvs, us1, hsh⟩; subst hvs; replace hu := hu.trans us1; clear hrl us1
  refine WL.cons rfl (st_not us ?_)
  refine WL.nil ?_
  refine W.gen ?_; intro ρ2 hρ
  have q0 := (hρ 0).trans (un (un (un (un (un (un r0)))))); have q1 := (hρ 1).trans (un (un (un (un (un (un r1)))))); have q2 := (hρ 2).trans (un (un (un (un (un (un r2)))))); have q20 := (hρ 20).trans us
  clear hρ r0 r1 r2
  have r0 := q0; clear q0; have r1 := q1; clear q1; have r2 := q2; clear q2; have r20 := q20; clear q20
  refine W.cond r20 (fun hc1 => ?_) (fun hc1 => ?_)
  · skip
    try simp only [decide_eq_true_eq, decide_eq_false_iff_not, Bool.not_eq_true', Bool.not_eq_false', Bool.not_eq_eq_eq_not, Bool.not_true, Bool.not_false] at hc1
    refine W.seqR ?_
    refine WL.cons rfl (st_call0 ent11  (((awake_ok _)).mono ?_))
    intro va w3 ⟨hva, ua⟩; subst hva; replace hu := hu.trans ua
    refine WL.cons rfl (st_assign us ?_)
    refine WL.nil ?_
    refine W.gen ?_; intro ρ3 hρ
    have q6 := (hρ 6).trans us
    clear hρ r0 r1 r2 r20
    have r6 := q6; clear q6
    refine W.ret ?_
    refine fin1 r6 ?_
    exact ⟨rfl, hu⟩
  · skip
    try simp only [decide_eq_true_eq, decide_eq_false_iff_not, Bool.not_eq_true', Bool.not_eq_false', Bool.not_eq_eq_eq_not, Bool.not_true, Bool.not_false] at hc1
    have hsh2 := hsh (by simpa using hc1)
    have hl0 := (hsh2 l (by simp)).1; have hl1 := (hsh2 one (by simp)).1; have hl2 := (hsh2 two (by simp)).1
    refine W.skip ?_
    refine W.seqR ?_
    refine WL.cons rfl (st_assign uf ?_)
    refine WL.nil ?_
    refine W.gen ?_; intro ρ4 hρ
    have q0 := (hρ 0).trans (un r0); have q1 := (hρ 1).trans (un r1); have q2 := (hρ 2).trans (un r2); have q7 := (hρ 7).trans us
    clear hρ r0 r1 r2 r20
    have r0 := q0; clear q0; have r1 := q1; clear q1; have r2 := q2; clear q2; have r7 := q7; clear q7
    refine W.seqR ?_
    refine WL.cons rfl (st_call0 ent12  (((new_ok _)).mono ?_))
    intro vn w4 ⟨an, am, hvn, han, ham, uN, h⟩; subst hvn; have hsN := hu.size; replace hu := hu.trans uN; replace han : w.heap.size ≤ an := by omega
    replace ham : w.heap.size ≤ am := by omega
    refine WL.cons rfl (st_assign us ?_)
    refine WL.nil ?_
    refine W.gen ?_; intro ρ5 hρ
    have q0 := (hρ 0).trans (un (un r0)); have q1 := (hρ 1).trans (un (un r1)); have q2 := (hρ 2).trans (un (un r2)); have q7 := (hρ 7).trans (un (un r7))
    have q8 := (hρ 8).trans us
    clear hρ r0 r1 r2 r7
    have r0 := q0; clear q0; have r1 := q1; clear q1; have r2 := q2; clear q2; have r7 := q7; clear q7; have r8 := q8; clear q8
    refine W.seq ?_
    refine W.seqR ?_
    refine WL.cons rfl (st_move r0 ?_)
    refine WL.cons rfl (st_lenS us Try.underlying22 ?_)
    refine WL.cons rfl (st_move uc ?_)
    refine WL.nil ?_
    refine W.gen ?_; intro ρ6 hρ
    have q0 := (hρ 0).trans (un (un (un r0))); have q1 := (hρ 1).trans (un (un (un r1))); have q2 := (hρ 2).trans (un (un (un r2))); have q7 := (hρ 7).trans (un (un (un r7)))
    have q8 := (hρ 8).trans (un (un (un r8))); have q23 := (hρ 23).trans (un (un us)); have q24 := (hρ 24).trans (un us); have q25 := (hρ 25).trans us
    clear hρ r0 r1 r2 r7 r8
    have r0 := q0; clear q0; have r1 := q1; clear q1; have r2 := q2; clear q2; have r7 := q7; clear q7; have r8 := q8; clear q8; have r23 := q23; clear q23; have r24 := q24; clear q24; have r25 := q25; clear q25
    refine W.block ?_
    refine W.loop (fun nn ρ' w' => ∃ i : Nat, ev ρ' (.tmp 25) = .int .i64 (i : Int) ∧ ev ρ' (.tmp 0) = ev ρ6 (.tmp 0) ∧ ev ρ' (.tmp 1) = ev ρ6 (.tmp 1) ∧ ev ρ' (.tmp 2) = ev ρ6 (.tmp 2) ∧ ev ρ' (.tmp 7) = ev ρ6 (.tmp 7) ∧ ev ρ' (.tmp 8) = ev ρ6 (.tmp 8) ∧ ev ρ' (.tmp 23) = ev ρ6 (.tmp 23) ∧ ev ρ' (.tmp 24) = ev ρ6 (.tmp 24) ∧ i + nn = l.length ∧ LoopA w w' an am (playR (l.take i))) (l.length) ?_ ?_
    · exact ⟨0, (by first | exact r25 | (refine r25.trans ?_; congr 1; omega) | (refine r25.trans ?_; simp)), rfl, rfl, rfl, rfl, rfl, rfl, rfl, by omega, ⟨hu, _, _, h, netOk_new, same_new⟩⟩
    intro nn ρ7 w5 ⟨i, q25, q0, q1, q2, q7, q8, q23, q24, hi, hL⟩
    have s0 := q0; replace q0 := q0.trans r0
    have s1 := q1; replace q1 := q1.trans r1
    have s2 := q2; replace q2 := q2.trans r2
    have s7 := q7; replace q7 := q7.trans r7
    have s8 := q8; replace q8 := q8.trans r8
    have s23 := q23; replace q23 := q23.trans r23
    have s24 := q24; replace q24 := q24.trans r24
    clear r0 r1 r2 r23 r24 r25 r7 r8
    have r25 := q25; clear q25; have r0 := q0; clear q0; have r1 := q1; clear q1; have r2 := q2; clear q2; have r7 := q7; clear q7; have r8 := q8; clear q8; have r23 := q23; clear q23; have r24 := q24; clear q24
    clear h; clear hu; obtain ⟨hu, Sa, s, h, hk, hsm⟩ := hL
    have x0_0 := s0.symm.trans r0; clear s0
    have x0_1 := s1.symm.trans r1; clear s1
    have x0_2 := s2.symm.trans r2; clear s2
    have x0_7 := s7.symm.trans r7; clear s7
    have x0_8 := s8.symm.trans r8; clear s8
    have x0_23 := s23.symm.trans r23; clear s23
    have x0_24 := s24.symm.trans r24; clear s24
    refine W.seqR ?_
    refine WL.cons rfl (st_lss r25 r24 ?_)
    refine WL.nil ?_
    refine W.gen ?_; intro ρ8 hρ
    have q0 := (hρ 0).trans (un r0); have q1 := (hρ 1).trans (un r1); have q2 := (hρ 2).trans (un r2); have q7 := (hρ 7).trans (un r7)
    have q8 := (hρ 8).trans (un r8); have q23 := (hρ 23).trans (un r23); have q24 := (hρ 24).trans (un r24); have q25 := (hρ 25).trans (un r25)
    have q26 := (hρ 26).trans us
    clear hρ r0 r1 r2 r23 r24 r25 r7 r8
    have r0 := q0; clear q0; have r1 := q1; clear q1; have r2 := q2; clear q2; have r7 := q7; clear q7; have r8 := q8; clear q8; have r23 := q23; clear q23; have r24 := q24; clear q24; have r25 := q25; clear q25; have r26 := q26; clear q26
    refine W.seq ?_
    refine W.cond r26 (fun hc6 => ?_) (fun hc6 => ?_)
    · skip
      try simp only [decide_eq_true_eq, decide_eq_false_iff_not, Bool.not_eq_true', Bool.not_eq_false', Bool.not_eq_eq_eq_not, Bool.not_true, Bool.not_false] at hc6
      obtain ⟨kb, koff, d, vb, rfl, hkk, hcs, hvb⟩ := (hv0.up hu).at (j := i) (by omega)
      refine W.skip ?_
      refine W.seq ?_
      refine W.block ?_
      refine W.seqR ?_
      refine WL.cons rfl (st_indexAddrS r23 r25 Try.underlying22 Try.sizeOf33 (by omega) (by omega) ?_)
      refine WL.cons rfl (st_loadK Try.isAgg33 Try.sizeOf33 us (hcs) rfl ?_)
      refine WL.allocStore (v := .agg (doCells d vb).toArray) rfl (fun _ => un us) Try.zeroValue33 Try.sizeOf33 rfl (by first | rfl | kernel_rfl) (by first | exact ekL_one _ | exact do_one hvb _ | exact it3_one _ | simp [Value.cells, Value.oneCell']) ?_
      intro b10 w6 m10; have B10 := m10.blk
      replace h := h.up m10.up
      replace hu := hu.trans m10.up
      replace hvb := hvb.up m10.up; clear m10
      refine WL.nil ?_
      refine W.gen ?_; intro ρ9 hρ
      have q0 := (hρ 0).trans (un0 (un (un (un r0)))); have q1 := (hρ 1).trans (un0 (un (un (un r1)))); have q2 := (hρ 2).trans (un0 (un (un (un r2)))); have q7 := (hρ 7).trans (un0 (un (un (un r7))))
      have q8 := (hρ 8).trans (un0 (un (un (un r8)))); have q10 := (hρ 10).trans (un0 us); have q23 := (hρ 23).trans (un0 (un (un (un r23)))); have q24 := (hρ 24).trans (un0 (un (un (un r24))))
      have q25 := (hρ 25).trans (un0 (un (un (un r25))))
      clear hρ r0 r1 r2 r23 r24 r25 r26 r7 r8
      have r0 := q0; clear q0; have r1 := q1; clear q1; have r2 := q2; clear q2; have r7 := q7; clear q7; have r8 := q8; clear q8; have r10 := q10; clear q10; have r23 := q23; clear q23; have r24 := q24; clear q24; have r25 := q25; clear q25
      refine W.endR ?_
      refine WL.cons rfl (st_move r8 ?_)
      refine WL.cons rfl (st_loadK Try.isAgg33 Try.sizeOf33 (un r10) (B10.row) rfl ?_)
      refine WL.cons rfl (st_call2 ent13 (un us) us (((does_ok _ h hk d hvb)).mono ?_))
      intro vd w7 ⟨u, hvd, htx⟩; subst hvd
      obtain ⟨hfr, S2, h2, _, _⟩ := htx
      have hk2 := hk.does d
      have hsm2 := (same_also hk hsm d).2; rw [← play_take hkk] at hsm2
      replace hu := (Frm.trans' (X := NoB) hu.frm hfr fun i hi he => by rcases he with e | e <;> omega).up
      refine WL.nil ?_
      clear B10 hvb
      refine W.endR ?_
      refine WL.cons rfl (st_add (un (un (un r25))) uc (wr64 (by omega)) ?_)
      refine WL.cons rfl (st_move us ?_)
      refine WL.nil ?_
      exact ⟨nn - 1, (by omega), i + 1, (by first | exact us | (refine us.trans ?_; congr 1; omega) | (refine us.trans ?_; simp)), ((un (un (un (un (un r0))))).trans x0_0.symm), ((un (un (un (un (un r1))))).trans x0_1.symm), ((un (un (un (un (un r2))))).trans x0_2.symm), ((un (un (un (un (un r7))))).trans x0_7.symm), ((un (un (un (un (un r8))))).trans x0_8.symm), ((un (un (un (un (un r23))))).trans x0_23.symm), ((un (un (un (un (un r24))))).trans x0_24.symm), by omega, ⟨hu, _, _, h2, hk2, hsm2⟩⟩
    · skip
      try simp only [decide_eq_true_eq, decide_eq_false_iff_not, Bool.not_eq_true', Bool.not_eq_false', Bool.not_eq_eq_eq_not, Bool.not_true, Bool.not_false] at hc6
      have he : l.take i = l := by rw [show i = l.length by omega, List.take_length]
      rw [he] at hsm
      refine W.exit ?_
      refine exitHere ?_
      refine W.seqR ?_
      refine WL.cons rfl (st_move r8 ?_)
      refine WL.cons rfl (st_call1 ent17 us (((clone_net_ok _ h)).mono ?_))
      intro vc w8 ⟨bn, bm, sb, hvc, hbn, hbm, uC, hcl, hsd, hlo, hof⟩; subst hvc
      have hsC := hu.size; have hnl := h.blk.lt; have hml := h.map.lt
      have hold := fun b hb => (h.old b hb).1
      have ht : Twin Sa Sa w8 an am bn bm s sb (playR (l ++ one.take 0)) (playR (l ++ two.take 0)) := ⟨h.up uC, hcl, by omega, ⟨fun e => by have := hold _ e; omega, fun e => by have := hold _ e; omega⟩, ⟨fun e => (h.old _ e).2.1 rfl, fun e => (h.old _ e).2.2 rfl⟩, hk, ok_of hk hcl.map.nodup hof, by simpa using hsm, by simpa using same_of hsm hof hlo hsd⟩
      replace hu := hu.trans uC
      replace hbn : w.heap.size ≤ bn := by omega
      replace hbm : w.heap.size ≤ bm := by omega
      refine WL.cons rfl (st_assign us ?_)
      refine WL.nil ?_
      refine W.gen ?_; intro ρ10 hρ
      have q0 := (hρ 0).trans (un (un (un r0))); have q1 := (hρ 1).trans (un (un (un r1))); have q2 := (hρ 2).trans (un (un (un r2))); have q7 := (hρ 7).trans (un (un (un r7)))
      have q8 := (hρ 8).trans (un (un (un r8))); have q11 := (hρ 11).trans us
      clear hρ r0 r1 r2 r23 r24 r25 r26 r7 r8
      have r0 := q0; clear q0; have r1 := q1; clear q1; have r2 := q2; clear q2; have r7 := q7; clear q7; have r8 := q8; clear q8; have r11 := q11; clear q11
      have hsw := hu.size
      refine W.seq ?_
      refine W.seqR ?_
      refine WL.cons rfl (st_move r1 ?_)
      refine WL.cons rfl (st_lenS us Try.underlying22 ?_)
      refine WL.cons rfl (st_move (un (un r2)) ?_)
      refine WL.cons rfl (st_lenS us Try.underlying22 ?_)
      refine WL.cons rfl (st_max (un (un us)) us ?_)
      refine WL.cons rfl (st_move uc ?_)
      refine WL.nil ?_
      refine W.gen ?_; intro ρ11 hρ
      have q0 := (hρ 0).trans (un (un (un (un (un (un r0)))))); have q1 := (hρ 1).trans (un (un (un (un (un (un r1)))))); have q2 := (hρ 2).trans (un (un (un (un (un (un r2)))))); have q7 := (hρ 7).trans (un (un (un (un (un (un r7))))))
      have q8 := (hρ 8).trans (un (un (un (un (un (un r8)))))); have q11 := (hρ 11).trans (un (un (un (un (un (un r11)))))); have q39 := (hρ 39).trans (un us); have q40 := (hρ 40).trans us
      clear hρ r0 r1 r11 r2 r7 r8
      have r0 := q0; clear q0; have r1 := q1; clear q1; have r2 := q2; clear q2; have r7 := q7; clear q7; have r8 := q8; clear q8; have r11 := q11; clear q11; have r39 := q39; clear q39; have r40 := q40; clear q40
      refine W.block ?_
      refine W.loop (fun nn ρ' w' => ∃ i : Nat, ev ρ' (.tmp 40) = .int .i64 (i : Int) ∧ ev ρ' (.tmp 0) = ev ρ11 (.tmp 0) ∧ ev ρ' (.tmp 1) = ev ρ11 (.tmp 1) ∧ ev ρ' (.tmp 2) = ev ρ11 (.tmp 2) ∧ ev ρ' (.tmp 7) = ev ρ11 (.tmp 7) ∧ ev ρ' (.tmp 8) = ev ρ11 (.tmp 8) ∧ ev ρ' (.tmp 11) = ev ρ11 (.tmp 11) ∧ ev ρ' (.tmp 39) = ev ρ11 (.tmp 39) ∧ i + nn = max one.length two.length ∧ LoopT w w' an am bn bm (playR (l ++ one.take i)) (playR (l ++ two.take i))) (max one.length two.length) ?_ ?_
      · exact ⟨0, (by first | exact r40 | (refine r40.trans ?_; congr 1; omega) | (refine r40.trans ?_; simp)), rfl, rfl, rfl, rfl, rfl, rfl, rfl, by omega, ⟨hu, _, _, _, _, ht⟩⟩
      intro nn ρ12 w9 ⟨i, q40, q0, q1, q2, q7, q8, q11, q39, hi2, hL⟩
      have s0 := q0; replace q0 := q0.trans r0
      have s1 := q1; replace q1 := q1.trans r1
      have s2 := q2; replace q2 := q2.trans r2
      have s7 := q7; replace q7 := q7.trans r7
      have s8 := q8; replace q8 := q8.trans r8
      have s11 := q11; replace q11 := q11.trans r11
      have s39 := q39; replace q39 := q39.trans r39
      clear r0 r1 r11 r2 r39 r40 r7 r8
      have r40 := q40; clear q40; have r0 := q0; clear q0; have r1 := q1; clear q1; have r2 := q2; clear q2; have r7 := q7; clear q7; have r8 := q8; clear q8; have r11 := q11; clear q11; have r39 := q39; clear q39
      clear ht; clear hu; obtain ⟨hu, Sp, Sq, sp, sq, ht⟩ := hL
      have x2_0 := s0.symm.trans r0; clear s0
      have x2_1 := s1.symm.trans r1; clear s1
      have x2_2 := s2.symm.trans r2; clear s2
      have x2_7 := s7.symm.trans r7; clear s7
      have x2_8 := s8.symm.trans r8; clear s8
      have x2_11 := s11.symm.trans r11; clear s11
      have x2_39 := s39.symm.trans r39; clear s39
      refine W.seqR ?_
      refine WL.cons rfl (st_lss r40 r39 ?_)
      refine WL.nil ?_
      refine W.gen ?_; intro ρ13 hρ
      have q0 := (hρ 0).trans (un r0); have q1 := (hρ 1).trans (un r1); have q2 := (hρ 2).trans (un r2); have q7 := (hρ 7).trans (un r7)
      have q8 := (hρ 8).trans (un r8); have q11 := (hρ 11).trans (un r11); have q39 := (hρ 39).trans (un r39); have q40 := (hρ 40).trans (un r40)
      have q41 := (hρ 41).trans us
      clear hρ r0 r1 r11 r2 r39 r40 r7 r8
      have r0 := q0; clear q0; have r1 := q1; clear q1; have r2 := q2; clear q2; have r7 := q7; clear q7; have r8 := q8; clear q8; have r11 := q11; clear q11; have r39 := q39; clear q39; have r40 := q40; clear q40; have r41 := q41; clear q41
      refine W.seq ?_
      refine W.cond r41 (fun hc12 => ?_) (fun hc12 => ?_)
      · skip
        try simp only [decide_eq_true_eq, decide_eq_false_iff_not, Bool.not_eq_true', Bool.not_eq_false', Bool.not_eq_eq_eq_not, Bool.not_true, Bool.not_false] at hc12
        refine W.skip ?_
        refine W.seq ?_
        refine W.block ?_
        refine W.seqR ?_
        refine WL.cons rfl (st_move r40 ?_)
        refine WL.cons rfl (st_assign us ?_)
        refine WL.nil ?_
        refine W.gen ?_; intro ρ14 hρ
        have q0 := (hρ 0).trans (un (un r0)); have q1 := (hρ 1).trans (un (un r1)); have q2 := (hρ 2).trans (un (un r2)); have q7 := (hρ 7).trans (un (un r7))
        have q8 := (hρ 8).trans (un (un r8)); have q11 := (hρ 11).trans (un (un r11)); have q12 := (hρ 12).trans us; have q39 := (hρ 39).trans (un (un r39))
        have q40 := (hρ 40).trans (un (un r40))
        clear hρ r0 r1 r11 r2 r39 r40 r41 r7 r8
        have r0 := q0; clear q0; have r1 := q1; clear q1; have r2 := q2; clear q2; have r7 := q7; clear q7; have r8 := q8; clear q8; have r11 := q11; clear q11; have r12 := q12; clear q12; have r39 := q39; clear q39; have r40 := q40; clear q40
        refine W.seq ?_
        refine W.seqR ?_
        refine WL.cons rfl (st_move r12 ?_)
        refine WL.cons rfl (st_move (un r1) ?_)
        refine WL.cons rfl (st_lenS us Try.underlying22 ?_)
        refine WL.cons rfl (st_lss (un (un us)) us ?_)
        refine WL.nil ?_
        refine W.gen ?_; intro ρ15 hρ
        have q0 := (hρ 0).trans (un (un (un (un r0)))); have q1 := (hρ 1).trans (un (un (un (un r1)))); have q2 := (hρ 2).trans (un (un (un (un r2)))); have q7 := (hρ 7).trans (un (un (un (un r7))))
        have q8 := (hρ 8).trans (un (un (un (un r8)))); have q11 := (hρ 11).trans (un (un (un (un r11)))); have q12 := (hρ 12).trans (un (un (un (un r12)))); have q39 := (hρ 39).trans (un (un (un (un r39))))
        have q40 := (hρ 40).trans (un (un (un (un r40)))); have q46 := (hρ 46).trans us
        clear hρ r0 r1 r11 r12 r2 r39 r40 r7 r8
        have r0 := q0; clear q0; have r1 := q1; clear q1; have r2 := q2; clear q2; have r7 := q7; clear q7; have r8 := q8; clear q8; have r11 := q11; clear q11; have r12 := q12; clear q12; have r39 := q39; clear q39; have r40 := q40; clear q40; have r46 := q46; clear q46
        refine W.cond r46 (fun hc14 => ?_) (fun hc14 => ?_)
        · skip
          try simp only [decide_eq_true_eq, decide_eq_false_iff_not, Bool.not_eq_true', Bool.not_eq_false', Bool.not_eq_eq_eq_not, Bool.not_true, Bool.not_false] at hc14
          obtain ⟨kb, koff, d, vb, rfl, hkk, hcs, hvb⟩ := (hv1.up hu).at (j := i) (by omega)
          refine W.endR ?_
          refine WL.cons rfl (st_move r8 ?_)
          refine WL.cons rfl (st_move (un r1) ?_)
          refine WL.cons rfl (st_move (un (un r12)) ?_)
          refine WL.cons rfl (st_indexAddrS (un us) us Try.underlying22 Try.sizeOf33 (by omega) (by omega) ?_)
          refine WL.cons rfl (st_loadK Try.isAgg33 Try.sizeOf33 us (hcs) rfl ?_)
          refine WL.cons rfl (st_call2 ent13 (un (un (un (un us)))) us (((does_ok _ ht.a ht.oka d hvb)).mono ?_))
          intro vd w10 ⟨u, hvd, htx⟩; subst hvd
          obtain ⟨hfr, Sn, hs2⟩ := ht.step htx
          replace hu := (Frm.trans' (X := NoB) hu.frm hfr fun i hi he => by rcases he with e | e <;> omega).up
          clear ht; have ht := hs2; clear hs2; rw [← play_step hkk] at ht
          refine WL.nil ?_
          refine W.seqR ?_
          refine WL.cons rfl (st_move (un (un (un (un (un (un r12)))))) ?_)
          refine WL.cons rfl (st_move (un (un (un (un (un (un (un r2))))))) ?_)
          refine WL.cons rfl (st_lenS us Try.underlying22 ?_)
          refine WL.cons rfl (st_lss (un (un us)) us ?_)
          refine WL.nil ?_
          refine W.gen ?_; intro ρ16 hρ
          have q0 := (hρ 0).trans (un (un (un (un (un (un (un (un (un (un r0)))))))))); have q1 := (hρ 1).trans (un (un (un (un (un (un (un (un (un (un r1)))))))))); have q2 := (hρ 2).trans (un (un (un (un (un (un (un (un (un (un r2)))))))))); have q7 := (hρ 7).trans (un (un (un (un (un (un (un (un (un (un r7))))))))))
          have q8 := (hρ 8).trans (un (un (un (un (un (un (un (un (un (un r8)))))))))); have q11 := (hρ 11).trans (un (un (un (un (un (un (un (un (un (un r11)))))))))); have q12 := (hρ 12).trans (un (un (un (un (un (un (un (un (un (un r12)))))))))); have q39 := (hρ 39).trans (un (un (un (un (un (un (un (un (un (un r39))))))))))
          have q40 := (hρ 40).trans (un (un (un (un (un (un (un (un (un (un r40)))))))))); have q56 := (hρ 56).trans us
          clear hρ r0 r1 r11 r12 r2 r39 r40 r46 r7 r8
          have r0 := q0; clear q0; have r1 := q1; clear q1; have r2 := q2; clear q2; have r7 := q7; clear q7; have r8 := q8; clear q8; have r11 := q11; clear q11; have r12 := q12; clear q12; have r39 := q39; clear q39; have r40 := q40; clear q40; have r56 := q56; clear q56
          refine W.cond r56 (fun hc16 => ?_) (fun hc16 => ?_)
          · skip
            try simp only [decide_eq_true_eq, decide_eq_false_iff_not, Bool.not_eq_true', Bool.not_eq_false', Bool.not_eq_eq_eq_not, Bool.not_true, Bool.not_false] at hc16
            obtain ⟨kb2, koff2, d2, vb2, rfl, hkk2, hcs2, hvb2⟩ := (hv2.up hu).at (j := i) (by omega)
            refine W.endR ?_
            refine WL.cons rfl (st_move r11 ?_)
            refine WL.cons rfl (st_move (un r2) ?_)
            refine WL.cons rfl (st_move (un (un r12)) ?_)
            refine WL.cons rfl (st_indexAddrS (un us) us Try.underlying22 Try.sizeOf33 (by omega) (by omega) ?_)
            refine WL.cons rfl (st_loadK Try.isAgg33 Try.sizeOf33 us (hcs2) rfl ?_)
            refine WL.cons rfl (st_call2 ent13 (un (un (un (un us)))) us (((does_ok _ ht.b ht.okb d2 hvb2)).mono ?_))
            intro vd w11 ⟨u, hvd, htx⟩; subst hvd
            obtain ⟨hfr, Sn, hs2⟩ := ht.swap.step htx
            replace hu := (Frm.trans' (X := NoB) hu.frm hfr fun i hi he => by rcases he with e | e <;> omega).up
            clear ht; have ht := hs2.swap; clear hs2; rw [← play_step hkk2] at ht
            refine WL.nil ?_
            refine W.endR ?_
            refine WL.cons rfl (st_add (un (un (un (un (un (un r40)))))) uc (wr64 (by omega)) ?_)
            refine WL.cons rfl (st_move us ?_)
            refine WL.nil ?_
            exact ⟨nn - 1, (by omega), i + 1, (by first | exact us | (refine us.trans ?_; congr 1; omega) | (refine us.trans ?_; simp)), ((un (un (un (un (un (un (un (un r0)))))))).trans x2_0.symm), ((un (un (un (un (un (un (un (un r1)))))))).trans x2_1.symm), ((un (un (un (un (un (un (un (un r2)))))))).trans x2_2.symm), ((un (un (un (un (un (un (un (un r7)))))))).trans x2_7.symm), ((un (un (un (un (un (un (un (un r8)))))))).trans x2_8.symm), ((un (un (un (un (un (un (un (un r11)))))))).trans x2_11.symm), ((un (un (un (un (un (un (un (un r39)))))))).trans x2_39.symm), by omega, ⟨hu, _, _, _, _, ht⟩⟩
          · skip
            try simp only [decide_eq_true_eq, decide_eq_false_iff_not, Bool.not_eq_true', Bool.not_eq_false', Bool.not_eq_eq_eq_not, Bool.not_true, Bool.not_false] at hc16
            rw [← play_past (show two.length ≤ i by omega)] at ht
            refine W.skip ?_
            refine W.endR ?_
            refine WL.cons rfl (st_add r40 uc (wr64 (by omega)) ?_)
            refine WL.cons rfl (st_move us ?_)
            refine WL.nil ?_
            exact ⟨nn - 1, (by omega), i + 1, (by first | exact us | (refine us.trans ?_; congr 1; omega) | (refine us.trans ?_; simp)), ((un (un r0)).trans x2_0.symm), ((un (un r1)).trans x2_1.symm), ((un (un r2)).trans x2_2.symm), ((un (un r7)).trans x2_7.symm), ((un (un r8)).trans x2_8.symm), ((un (un r11)).trans x2_11.symm), ((un (un r39)).trans x2_39.symm), by omega, ⟨hu, _, _, _, _, ht⟩⟩
        · skip
          try simp only [decide_eq_true_eq, decide_eq_false_iff_not, Bool.not_eq_true', Bool.not_eq_false', Bool.not_eq_eq_eq_not, Bool.not_true, Bool.not_false] at hc14
          rw [← play_past (show one.length ≤ i by omega)] at ht
          refine W.skip ?_
          refine W.seqR ?_
          refine WL.cons rfl (st_move r12 ?_)
          refine WL.cons rfl (st_move (un r2) ?_)
          refine WL.cons rfl (st_lenS us Try.underlying22 ?_)
          refine WL.cons rfl (st_lss (un (un us)) us ?_)
          refine WL.nil ?_
          refine W.gen ?_; intro ρ17 hρ
          have q0 := (hρ 0).trans (un (un (un (un r0)))); have q1 := (hρ 1).trans (un (un (un (un r1)))); have q2 := (hρ 2).trans (un (un (un (un r2)))); have q7 := (hρ 7).trans (un (un (un (un r7))))
          have q8 := (hρ 8).trans (un (un (un (un r8)))); have q11 := (hρ 11).trans (un (un (un (un r11)))); have q12 := (hρ 12).trans (un (un (un (un r12)))); have q39 := (hρ 39).trans (un (un (un (un r39))))
          have q40 := (hρ 40).trans (un (un (un (un r40)))); have q56 := (hρ 56).trans us
          clear hρ r0 r1 r11 r12 r2 r39 r40 r46 r7 r8
          have r0 := q0; clear q0; have r1 := q1; clear q1; have r2 := q2; clear q2; have r7 := q7; clear q7; have r8 := q8; clear q8; have r11 := q11; clear q11; have r12 := q12; clear q12; have r39 := q39; clear q39; have r40 := q40; clear q40; have r56 := q56; clear q56
          refine W.cond r56 (fun hc16 => ?_) (fun hc16 => ?_)
          · skip
            try simp only [decide_eq_true_eq, decide_eq_false_iff_not, Bool.not_eq_true', Bool.not_eq_false', Bool.not_eq_eq_eq_not, Bool.not_true, Bool.not_false] at hc16
            obtain ⟨kb2, koff2, d2, vb2, rfl, hkk2, hcs2, hvb2⟩ := (hv2.up hu).at (j := i) (by omega)
            refine W.endR ?_
            refine WL.cons rfl (st_move r11 ?_)
            refine WL.cons rfl (st_move (un r2) ?_)
            refine WL.cons rfl (st_move (un (un r12)) ?_)
            refine WL.cons rfl (st_indexAddrS (un us) us Try.underlying22 Try.sizeOf33 (by omega) (by omega) ?_)
            refine WL.cons rfl (st_loadK Try.isAgg33 Try.sizeOf33 us (hcs2) rfl ?_)
            refine WL.cons rfl (st_call2 ent13 (un (un (un (un us)))) us (((does_ok _ ht.b ht.okb d2 hvb2)).mono ?_))
            intro vd w12 ⟨u, hvd, htx⟩; subst hvd
            obtain ⟨hfr, Sn, hs2⟩ := ht.swap.step htx
            replace hu := (Frm.trans' (X := NoB) hu.frm hfr fun i hi he => by rcases he with e | e <;> omega).up
            clear ht; have ht := hs2.swap; clear hs2; rw [← play_step hkk2] at ht
            refine WL.nil ?_
            refine W.endR ?_
            refine WL.cons rfl (st_add (un (un (un (un (un (un r40)))))) uc (wr64 (by omega)) ?_)
            refine WL.cons rfl (st_move us ?_)
            refine WL.nil ?_
            exact ⟨nn - 1, (by omega), i + 1, (by first | exact us | (refine us.trans ?_; congr 1; omega) | (refine us.trans ?_; simp)), ((un (un (un (un (un (un (un (un r0)))))))).trans x2_0.symm), ((un (un (un (un (un (un (un (un r1)))))))).trans x2_1.symm), ((un (un (un (un (un (un (un (un r2)))))))).trans x2_2.symm), ((un (un (un (un (un (un (un (un r7)))))))).trans x2_7.symm), ((un (un (un (un (un (un (un (un r8)))))))).trans x2_8.symm), ((un (un (un (un (un (un (un (un r11)))))))).trans x2_11.symm), ((un (un (un (un (un (un (un (un r39)))))))).trans x2_39.symm), by omega, ⟨hu, _, _, _, _, ht⟩⟩
          · skip
            try simp only [decide_eq_true_eq, decide_eq_false_iff_not, Bool.not_eq_true', Bool.not_eq_false', Bool.not_eq_eq_eq_not, Bool.not_true, Bool.not_false] at hc16
            rw [← play_past (show two.length ≤ i by omega)] at ht
            refine W.skip ?_
            refine W.endR ?_
            refine WL.cons rfl (st_add r40 uc (wr64 (by omega)) ?_)
            refine WL.cons rfl (st_move us ?_)
            refine WL.nil ?_
            exact ⟨nn - 1, (by omega), i + 1, (by first | exact us | (refine us.trans ?_; congr 1; omega) | (refine us.trans ?_; simp)), ((un (un r0)).trans x2_0.symm), ((un (un r1)).trans x2_1.symm), ((un (un r2)).trans x2_2.symm), ((un (un r7)).trans x2_7.symm), ((un (un r8)).trans x2_8.symm), ((un (un r11)).trans x2_11.symm), ((un (un r39)).trans x2_39.symm), by omega, ⟨hu, _, _, _, _, ht⟩⟩
      · skip
        try simp only [decide_eq_true_eq, decide_eq_false_iff_not, Bool.not_eq_true', Bool.not_eq_false', Bool.not_eq_eq_eq_not, Bool.not_true, Bool.not_false] at hc12
        have he1 : one.take i = one := List.take_of_length_le (by omega)
        have he2 : two.take i = two := List.take_of_length_le (by omega)
        rw [he1, he2] at ht
        refine W.exit ?_
        refine exitHere ?_
        refine W.seqR ?_
        refine WL.cons rfl (st_move r7 ?_)
        refine WL.cons rfl (st_move (un r0) ?_)
        refine WL.cons rfl (st_move (un (un r1)) ?_)
        refine WL.cons rfl (st_callV2 ent26 (un (un us)) (un us) us (((play_ok l one _ (RDos.lt (hv0.up hu) hu.size) (RDos.lt (hv1.up hu) hu.size) hl0 hl1 (fun d hd => by rcases List.mem_append.1 hd with h | h; exact hs0 d h; exact hs1 d h))).mono ?_))
        intro vx1 w13 ⟨bx1, Sx1, hvx, uX, hr1⟩; subst hvx; replace ht := ht.up uX; replace hu := hu.trans uX
        refine WL.cons rfl (st_move (un (un (un (un r7)))) ?_)
        refine WL.cons rfl (st_move (un (un (un (un (un r0))))) ?_)
        refine WL.cons rfl (st_move (un (un (un (un (un (un r2)))))) ?_)
        refine WL.cons rfl (st_callV2 ent26 (un (un us)) (un us) us (((play_ok l two _ (RDos.lt (hv0.up hu) hu.size) (RDos.lt (hv2.up hu) hu.size) hl0 hl2 (fun d hd => by rcases List.mem_append.1 hd with h | h; exact hs0 d h; exact hs2 d h))).mono ?_))
        intro vx2 w14 ⟨bx2, Sx2, hvx, uX, hr2⟩; subst hvx; replace ht := ht.up uX; replace hu := hu.trans uX; replace hr1 := hr1.up uX
        refine WL.cons rfl (st_assign (un (un (un (un us)))) ?_)
        refine WL.cons rfl (st_assign (un us) ?_)
        refine WL.nil ?_
        refine W.gen ?_; intro ρ18 hρ
        have q8 := (hρ 8).trans (un (un (un (un (un (un (un (un (un (un r8)))))))))); have q11 := (hρ 11).trans (un (un (un (un (un (un (un (un (un (un r11)))))))))); have q13 := (hρ 13).trans (un us); have q14 := (hρ 14).trans us
        clear hρ r0 r1 r11 r2 r39 r40 r41 r7 r8
        have r8 := q8; clear q8; have r11 := q11; clear q11; have r13 := q13; clear q13; have r14 := q14; clear q14
        refine W.seqR ?_
        refine WL.cons rfl (st_move r8 ?_)
        refine WL.cons rfl (st_move (un r13) ?_)
        refine WL.cons rfl (st_call2 ent25 (un us) us (((same_ok _ ht.a ht.oka hr1 ht.sma)).mono ?_))
        intro va w15 ⟨hva, uA⟩; subst hva
        replace ht := ht.up uA
        replace hr1 := hr1.up uA
        replace hr2 := hr2.up uA
        replace hu := hu.trans uA
        refine WL.cons rfl (st_move us ?_)
        apply WL.seg 3 (t := 75) (x := 78) (want := true) us rfl
        · intro hg75
          have hu0 := hu; have hu_ := Up.refl w15
          refine WL.guardY rfl (us.trans (by rw [hg75])) rfl (st_move (un (un (un (un r11)))) ?_)
          refine WL.guardY rfl ((un us).trans (by rw [hg75])) rfl (st_move (un (un (un (un (un r14))))) ?_)
          refine WL.guardY rfl ((un (un us)).trans (by rw [hg75])) rfl (st_call2 ent25 (un us) us (((same_ok _ ht.b ht.okb hr2 ht.smb)).mono ?_))
          intro vb w16 ⟨hvb, uB⟩; subst hvb
          replace ht := ht.up uB
          replace hr1 := hr1.up uB
          replace hr2 := hr2.up uB
          replace hu_ := hu_.trans uB
          exact WL.nil ⟨(ag (ag (ag ag0))), us, hu_⟩
        intro ρ19 w17 hup75 hag hx75
        replace ht := ht.up hup75
        replace hr1 := hr1.up hup75
        replace hr2 := hr2.up hup75
        replace hu := hu.trans hup75
        have q75 := (hag 75 rfl).trans us
        clear hag r11 r13 r14 r8
        have r75 := q75; clear q75
        refine WL.cons rfl (st_and r75 hx75 uc ?_)
        refine WL.cons rfl (st_move us ?_)
        apply WL.seg 1 (t := 80) (x := 81) (want := true) us rfl
        · intro hg80
          have hu0 := hu; have hu_ := Up.refl w17
          refine WL.guardY rfl (us.trans (by rw [hg80])) rfl (st_call0 ent11  (((awake_ok _)).mono ?_))
          intro vc w18 ⟨hvc, uC⟩; subst hvc
          replace ht := ht.up uC
          replace hr1 := hr1.up uC
          replace hr2 := hr2.up uC
          replace hu_ := hu_.trans uC
          exact WL.nil ⟨(ag ag0), us, hu_⟩
        intro ρ20 w19 hup80 hag hx80
        replace ht := ht.up hup80
        replace hr1 := hr1.up hup80
        replace hr2 := hr2.up hup80
        replace hu := hu.trans hup80
        have q80 := (hag 80 rfl).trans us
        clear hag r75
        have r80 := q80; clear q80
        refine WL.cons rfl (st_and r80 hx80 uc ?_)
        refine WL.cons rfl (st_assign us ?_)
        refine WL.nil ?_
        refine W.gen ?_; intro ρ21 hρ
        have q6 := (hρ 6).trans us
        clear hρ r80
        have r6 := q6; clear q6
        refine W.ret ?_
        refine fin1 r6 ?_
        exact ⟨rfl, hu⟩

end Go.Proofs.Ytppohfgaegahoaa
