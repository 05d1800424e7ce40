/- Walk: whether calls are few: what it says of them. A row of bytes that a call leaves as the caller's own; a store into one of its cells. Walks: Peek, Take and whichever call, with rows of the caller's own. Walk: LinksPlays. -/
import Derived.Test.YtppohfgaegahoaaLav
namespace Go.Proofs.Ytppohfgaegahoaa
open Go.Tw Go.RowKit
attribute [local irreducible] Step WL W WQ Does

def ShortP (ls : List (List DoS)) (n a : Int) : Prop := a ≤ 150 → n ≤ 16384 → ∀ l ∈ ls, l.length ≤ 150 ∧ ∀ k ∈ l, k.b.length ≤ 16384
def ShortQ (l : List DoS) (j : Nat) (n a : Int) : Prop := a ≤ 150 → n ≤ 16384 → (j : Int) ≤ a ∧ ∀ k ∈ l.take j, k.b.length ≤ 16384
theorem ShortP.next {ls : List (List DoS)} {i j : Nat} {l : List DoS} {n a : Int} (hl : ls[i]? = some l) (h : ShortP (ls.take i) n a) (hq : ShortQ l j n a) (hj : ¬ (((j : Int) < l.length ∧ a ≤ 150) ∧ n ≤ 16384)) (hjl : j ≤ l.length) : ShortP (ls.take (i + 1)) n a := by
  intro ha hn x hx
  obtain ⟨hlt, he⟩ := List.getElem?_eq_some_iff.1 hl
  rw [List.take_succ_eq_append_getElem hlt, he, List.mem_append] at hx
  rcases hx with hx | hx
  · exact h ha hn x hx
  · obtain rfl : x = l := by simpa using hx
    have hjj : j = x.length := by omega
    obtain ⟨h1, h2⟩ := hq ha hn
    subst hjj
    rw [List.take_length] at h2
    exact ⟨by omega, h2⟩
theorem ShortQ.next {l : List DoS} {j : Nat} {k : DoS} {n a : Int} (hk : l[j]? = some k) (h : ShortQ l j n a) (h0 : 0 ≤ n) : ShortQ l (j + 1) (n + min (k.b.length : Int) 16385) (a + 1) := by
  intro ha hn
  obtain ⟨h1, h2⟩ := h (by omega) (by omega)
  refine ⟨by omega, fun x hx => ?_⟩
  obtain ⟨hlt, he⟩ := List.getElem?_eq_some_iff.1 hk
  rw [List.take_succ_eq_append_getElem hlt, he, List.mem_append] at hx
  rcases hx with hx | hx
  · exact h2 x hx
  · obtain rfl : x = k := by simpa using hx
    omega
theorem ShortP.more {ls : List (List DoS)} {n a m : Int} (h : ShortP ls n a) (hm : 0 ≤ m) : ShortP ls (n + m) (a + 1) := fun ha hn => h (by omega) (by omega)

/-- towline towlinelaw04.short -/
theorem short2_ok {S : Nat → Prop} {v : Value} (ls : List (List DoS)) (w : World) (hv : RL S w v ls) (hn : ls.length ≤ 1000000000) (hm : ∀ l ∈ ls, l.length ≤ 9223372036854775807) : Does Try.prog 10 #[v] w (fun v' w' => ∃ t, v' = .bool t ∧ Up w w' ∧ (t = true → ∀ l ∈ ls, l.length ≤ 150 ∧ ∀ k ∈ l, k.b.length ≤ 16384)) := by
  obtain ⟨o, cap, hv0⟩ := hv.shape
  refine fn_of_W (rs := [2]) (N := 46) Try.func10 rfl rfl rfl (by simp) ?_
  intro ρ0 hρ0
  have r0 : ev ρ0 (.tmp 0) = v := hρ0 0
  clear hρ0
  have hu := Up.refl w
  subst hv0
  refine W.seqR ?_
  refine WL.cons rfl (st_assign uc ?_)
  refine WL.nil ?_
  refine W.gen ?_; intro ρ1 hρ
  have q0 := (hρ 0).trans (un r0)
  clear hρ r0
  have r0 := q0; clear q0
  refine W.seqR ?_
  refine WL.cons rfl (st_assign uc ?_)
  refine WL.cons rfl (st_assign uc ?_)
  refine WL.nil ?_
  refine W.gen ?_; intro ρ2 hρ
  have q0 := (hρ 0).trans (un (un r0)); have q3 := (hρ 3).trans (un us); have q4 := (hρ 4).trans us
  clear hρ r0
  have r0 := q0; clear q0; have r3 := q3; clear q3; have r4 := q4; clear q4
  refine W.seq ?_
  refine W.seqR ?_
  refine WL.cons rfl (st_move r0 ?_)
  refine WL.cons rfl (st_lenS us Try.underlying70 ?_)
  refine WL.cons rfl (st_move uc ?_)
  refine WL.nil ?_
  refine W.gen ?_; intro ρ3 hρ
  have q3 := (hρ 3).trans (un (un (un r3))); have q4 := (hρ 4).trans (un (un (un r4))); have q8 := (hρ 8).trans (un (un us)); have q9 := (hρ 9).trans (un us)
  have q10 := (hρ 10).trans us
  clear hρ r0 r3 r4
  have r3 := q3; clear q3; have r4 := q4; clear q4; have r8 := q8; clear q8; have r9 := q9; clear q9; have r10 := q10; clear q10
  refine W.block ?_
  refine W.loop (fun nn ρ' w' => ∃ (i : Nat) (n a : Int), ev ρ' (.tmp 3) = .int .i64 n ∧ ev ρ' (.tmp 4) = .int .i64 a ∧ ev ρ' (.tmp 10) = .int .i64 (i : Int) ∧ ev ρ' (.tmp 8) = ev ρ3 (.tmp 8) ∧ ev ρ' (.tmp 9) = ev ρ3 (.tmp 9) ∧ i + nn = ls.length ∧ (0 ≤ n ∧ n ≤ 40000 ∧ 0 ≤ a ∧ a ≤ 200) ∧ ShortP (ls.take i) n a ∧ w' = w) (ls.length) ?_ ?_
  · exact ⟨0, 0, 0, (by first | exact r3 | (refine r3.trans ?_; congr 1; omega) | (refine r3.trans ?_; simp)), (by first | exact r4 | (refine r4.trans ?_; congr 1; omega) | (refine r4.trans ?_; simp)), (by first | exact r10 | (refine r10.trans ?_; congr 1; omega) | (refine r10.trans ?_; simp)), rfl, rfl, by omega, by omega, fun _ _ l hl => by simp at hl, rfl⟩
  intro nn ρ4 w1 ⟨i, n, a, q3, q4, q10, q8, q9, hi, hna, hP, hw⟩
  have s8 := q8; replace q8 := q8.trans r8
  have s9 := q9; replace q9 := q9.trans r9
  clear r10 r3 r4 r8 r9
  have r3 := q3; clear q3; have r4 := q4; clear q4; have r10 := q10; clear q10; have r8 := q8; clear q8; have r9 := q9; clear q9
  replace hw := hw.symm; subst hw
  have x0_8 := s8.symm.trans r8; clear s8
  have x0_9 := s9.symm.trans r9; clear s9
  refine W.seqR ?_
  refine WL.cons rfl (st_lss r10 r9 ?_)
  refine WL.nil ?_
  refine W.gen ?_; intro ρ5 hρ
  have q3 := (hρ 3).trans (un r3); have q4 := (hρ 4).trans (un r4); have q8 := (hρ 8).trans (un r8); have q9 := (hρ 9).trans (un r9)
  have q10 := (hρ 10).trans (un r10); have q11 := (hρ 11).trans us
  clear hρ r10 r3 r4 r8 r9
  have r3 := q3; clear q3; have r4 := q4; clear q4; have r8 := q8; clear q8; have r9 := q9; clear q9; have r10 := q10; clear q10; have r11 := q11; clear q11
  refine W.seq ?_
  refine W.cond r11 (fun hc3 => ?_) (fun hc3 => ?_)
  · skip
    try simp only [tests] at hc3
    obtain ⟨m1, rfl⟩ : ∃ m1, nn = m1 + 1 := ⟨nn - 1, by omega⟩
    obtain ⟨lb, loff, x, l, rfl, hl, hcx, hrx⟩ := hv.at (i := i) (by omega)
    obtain ⟨o2, cap2, rfl⟩ := hrx.shape
    have hml := hm l (List.mem_of_getElem? hl)
    refine W.skip ?_
    refine W.seq ?_
    refine W.block ?_
    refine W.seqR ?_
    refine WL.cons rfl (st_indexAddrS r8 r10 Try.underlying70 Try.sizeOf22 (by omega) (by omega) ?_)
    refine WL.cons rfl (st_load1 Try.isAgg22 us (hcx) ?_)
    refine WL.cons rfl (st_assign us ?_)
    refine WL.nil ?_
    refine W.gen ?_; intro ρ6 hρ
    have q3 := (hρ 3).trans (un (un (un r3))); have q4 := (hρ 4).trans (un (un (un r4))); have q6 := (hρ 6).trans us; have q8 := (hρ 8).trans (un (un (un r8)))
    have q9 := (hρ 9).trans (un (un (un r9))); have q10 := (hρ 10).trans (un (un (un r10)))
    clear hρ r10 r11 r3 r4 r8 r9
    have r3 := q3; clear q3; have r4 := q4; clear q4; have r6 := q6; clear q6; have r8 := q8; clear q8; have r9 := q9; clear q9; have r10 := q10; clear q10
    refine W.seqR ?_
    refine WL.cons rfl (st_assign uc ?_)
    refine WL.nil ?_
    refine W.gen ?_; intro ρ7 hρ
    have q3 := (hρ 3).trans (un r3); have q4 := (hρ 4).trans (un r4); have q6 := (hρ 6).trans (un r6); have q7 := (hρ 7).trans us
    have q8 := (hρ 8).trans (un r8); have q9 := (hρ 9).trans (un r9); have q10 := (hρ 10).trans (un r10)
    clear hρ r10 r3 r4 r6 r8 r9
    have r3 := q3; clear q3; have r4 := q4; clear q4; have r6 := q6; clear q6; have r7 := q7; clear q7; have r8 := q8; clear q8; have r9 := q9; clear q9; have r10 := q10; clear q10
    refine W.block ?_
    refine W.loop (fun nn ρ' w' => ∃ (j : Nat) (n a : Int), ev ρ' (.tmp 3) = .int .i64 n ∧ ev ρ' (.tmp 4) = .int .i64 a ∧ ev ρ' (.tmp 7) = .int .i64 (j : Int) ∧ ev ρ' (.tmp 6) = ev ρ7 (.tmp 6) ∧ ev ρ' (.tmp 8) = ev ρ7 (.tmp 8) ∧ ev ρ' (.tmp 9) = ev ρ7 (.tmp 9) ∧ ev ρ' (.tmp 10) = ev ρ7 (.tmp 10) ∧ j + nn = l.length ∧ (0 ≤ n ∧ n ≤ 40000 ∧ 0 ≤ a ∧ a ≤ 200) ∧ ShortP (ls.take i) n a ∧ ShortQ l j n a ∧ w' = w) (l.length) ?_ ?_
    · exact ⟨0, n, a, (by first | exact r3 | (refine r3.trans ?_; congr 1; omega) | (refine r3.trans ?_; simp)), (by first | exact r4 | (refine r4.trans ?_; congr 1; omega) | (refine r4.trans ?_; simp)), (by first | exact r7 | (refine r7.trans ?_; congr 1; omega) | (refine r7.trans ?_; simp)), rfl, rfl, rfl, rfl, by omega, hna, hP, fun _ _ => ⟨by omega, fun k hk => by simp at hk⟩, rfl⟩
    intro nn ρ8 w2 ⟨j, n, a, q3, q4, q7, q6, q8, q9, q10, hj, hna, hP, hQ, hw⟩
    have s6 := q6; replace q6 := q6.trans r6
    have s8 := q8; replace q8 := q8.trans r8
    have s9 := q9; replace q9 := q9.trans r9
    have s10 := q10; replace q10 := q10.trans r10
    clear r10 r3 r4 r6 r7 r8 r9
    have r3 := q3; clear q3; have r4 := q4; clear q4; have r7 := q7; clear q7; have r6 := q6; clear q6; have r8 := q8; clear q8; have r9 := q9; clear q9; have r10 := q10; clear q10
    replace hw := hw.symm; subst hw
    have x2_6 := s6.symm.trans r6; clear s6
    have x2_8 := s8.symm.trans r8; clear s8
    have x2_9 := s9.symm.trans r9; clear s9
    have x2_10 := s10.symm.trans r10; clear s10
    refine W.seq ?_
    refine W.seqR ?_
    refine WL.cons rfl (st_move r7 ?_)
    refine WL.cons rfl (st_move (un r6) ?_)
    refine WL.cons rfl (st_lenS us Try.underlying22 ?_)
    refine WL.cons rfl (st_lss (un (un us)) us ?_)
    refine WL.cons rfl (st_move us ?_)
    apply WL.seg0 2 (t := 18) (x := 20) (want := true) us rfl
    · intro hg18
      refine WL.guardY rfl (us.trans (by rw [hg18])) rfl (st_move (un (un (un (un (un r4))))) ?_)
      refine WL.guardY rfl ((un us).trans (by rw [hg18])) rfl (st_leq us uc ?_)
      exact WL.nil ⟨(ag (ag ag0)), us, rfl⟩
    intro ρ9 hag hx18
    have q3 := (hag 3 rfl).trans (un (un (un (un (un r3))))); have q4 := (hag 4 rfl).trans (un (un (un (un (un r4))))); have q6 := (hag 6 rfl).trans (un (un (un (un (un r6))))); have q7 := (hag 7 rfl).trans (un (un (un (un (un r7)))))
    have q8 := (hag 8 rfl).trans (un (un (un (un (un r8))))); have q9 := (hag 9 rfl).trans (un (un (un (un (un r9))))); have q10 := (hag 10 rfl).trans (un (un (un (un (un r10))))); have q18 := (hag 18 rfl).trans us
    clear hag r10 r3 r4 r6 r7 r8 r9
    have r3 := q3; clear q3; have r4 := q4; clear q4; have r6 := q6; clear q6; have r7 := q7; clear q7; have r8 := q8; clear q8; have r9 := q9; clear q9; have r10 := q10; clear q10; have r18 := q18; clear q18
    refine WL.cons rfl (st_and r18 hx18 uc ?_)
    refine WL.cons rfl (st_move us ?_)
    apply WL.seg0 2 (t := 22) (x := 24) (want := true) us rfl
    · intro hg22
      refine WL.guardY rfl (us.trans (by rw [hg22])) rfl (st_move (un (un r3)) ?_)
      refine WL.guardY rfl ((un us).trans (by rw [hg22])) rfl (st_leq us uc ?_)
      exact WL.nil ⟨(ag (ag ag0)), us, rfl⟩
    intro ρ10 hag hx22
    have q3 := (hag 3 rfl).trans (un (un r3)); have q4 := (hag 4 rfl).trans (un (un r4)); have q6 := (hag 6 rfl).trans (un (un r6)); have q7 := (hag 7 rfl).trans (un (un r7))
    have q8 := (hag 8 rfl).trans (un (un r8)); have q9 := (hag 9 rfl).trans (un (un r9)); have q10 := (hag 10 rfl).trans (un (un r10)); have q22 := (hag 22 rfl).trans us
    clear hag r10 r18 r3 r4 r6 r7 r8 r9
    have r3 := q3; clear q3; have r4 := q4; clear q4; have r6 := q6; clear q6; have r7 := q7; clear q7; have r8 := q8; clear q8; have r9 := q9; clear q9; have r10 := q10; clear q10; have r22 := q22; clear q22
    refine WL.cons rfl (st_and r22 hx22 uc ?_)
    refine WL.nil ?_
    refine W.gen ?_; intro ρ11 hρ
    have q3 := (hρ 3).trans (un r3); have q4 := (hρ 4).trans (un r4); have q6 := (hρ 6).trans (un r6); have q7 := (hρ 7).trans (un r7)
    have q8 := (hρ 8).trans (un r8); have q9 := (hρ 9).trans (un r9); have q10 := (hρ 10).trans (un r10); have q25 := (hρ 25).trans us
    clear hρ r10 r22 r3 r4 r6 r7 r8 r9
    have r3 := q3; clear q3; have r4 := q4; clear q4; have r6 := q6; clear q6; have r7 := q7; clear q7; have r8 := q8; clear q8; have r9 := q9; clear q9; have r10 := q10; clear q10; have r25 := q25; clear q25
    refine W.cond r25 (fun hc6 => ?_) (fun hc6 => ?_)
    · skip
      try simp only [tests] at hc6
      obtain ⟨⟨hjl, ha⟩, hn⟩ : ((j : Int) < l.length ∧ a ≤ 150) ∧ n ≤ 16384 := by simpa using hc6
      obtain ⟨kb, koff, k, vb, rfl, hk, hcs, hrb⟩ := hrx.at (j := j) (by omega)
      obtain ⟨o3, cap3, rfl, _, _⟩ := id hrb
      refine W.skip ?_
      refine W.seq ?_
      refine W.block ?_
      refine W.seqR ?_
      refine WL.cons rfl (st_move r4 ?_)
      refine WL.cons rfl (st_add us uc (wr64 (by omega)) ?_)
      refine WL.cons rfl (st_assign us ?_)
      refine WL.nil ?_
      refine W.gen ?_; intro ρ12 hρ
      have q3 := (hρ 3).trans (un (un (un r3))); have q4 := (hρ 4).trans us; have q6 := (hρ 6).trans (un (un (un r6))); have q7 := (hρ 7).trans (un (un (un r7)))
      have q8 := (hρ 8).trans (un (un (un r8))); have q9 := (hρ 9).trans (un (un (un r9))); have q10 := (hρ 10).trans (un (un (un r10)))
      clear hρ r10 r25 r3 r4 r6 r7 r8 r9
      have r3 := q3; clear q3; have r4 := q4; clear q4; have r6 := q6; clear q6; have r7 := q7; clear q7; have r8 := q8; clear q8; have r9 := q9; clear q9; have r10 := q10; clear q10
      refine W.endR ?_
      refine WL.cons rfl (st_move r3 ?_)
      refine WL.cons rfl (st_move (un r6) ?_)
      refine WL.cons rfl (st_move (un (un r7)) ?_)
      refine WL.cons rfl (st_indexAddrS (un us) us Try.underlying22 Try.sizeOf33 (by omega) (by omega) ?_)
      refine WL.cons rfl (st_fieldAddr (f := 3) (k := 0) us Try.underlying33 rfl rfl Try.sizeOf30 ?_)
      refine WL.cons rfl (st_load1 Try.isAgg30 us (hcs 4 _ rfl) ?_)
      refine WL.cons rfl (st_lenS us Try.underlying30 ?_)
      refine WL.cons rfl (st_min us uc ?_)
      refine WL.cons rfl (st_add (un (un (un (un (un (un (un us))))))) us (wr64 (by omega)) ?_)
      refine WL.cons rfl (st_assign us ?_)
      refine WL.nil ?_
      refine W.endR ?_
      refine WL.cons rfl (st_move (un (un (un (un (un (un (un (un (un (un r7)))))))))) ?_)
      refine WL.cons rfl (st_add us uc (wr64 (by omega)) ?_)
      refine WL.cons rfl (st_assign us ?_)
      refine WL.nil ?_
      exact ⟨nn - 1, (by omega), j + 1, n + min (k.b.length : Int) 16385, a + 1, (by first | exact (un (un (un us))) | (refine (un (un (un us))).trans ?_; congr 1; omega) | (refine (un (un (un us))).trans ?_; simp)), (by first | exact (un (un (un (un (un (un (un (un (un (un (un (un (un r4))))))))))))) | (refine (un (un (un (un (un (un (un (un (un (un (un (un (un r4))))))))))))).trans ?_; congr 1; omega) | (refine (un (un (un (un (un (un (un (un (un (un (un (un (un r4))))))))))))).trans ?_; simp)), (by first | exact us | (refine us.trans ?_; congr 1; omega) | (refine us.trans ?_; simp)), ((un (un (un (un (un (un (un (un (un (un (un (un (un r6))))))))))))).trans x2_6.symm), ((un (un (un (un (un (un (un (un (un (un (un (un (un r8))))))))))))).trans x2_8.symm), ((un (un (un (un (un (un (un (un (un (un (un (un (un r9))))))))))))).trans x2_9.symm), ((un (un (un (un (un (un (un (un (un (un (un (un (un r10))))))))))))).trans x2_10.symm), by omega, by omega, hP.more (by omega), hQ.next hk hna.1, rfl⟩
    · skip
      try simp only [tests] at hc6
      have hP2 := hP.next hl hQ (fun e => by simp [e] at hc6) (by omega)
      refine W.exit ?_
      refine exitHere ?_
      refine W.endR ?_
      refine WL.cons rfl (st_add r10 uc (wr64 (by omega)) ?_)
      refine WL.cons rfl (st_move us ?_)
      refine WL.nil ?_
      exact ⟨m1, (by omega), i + 1, n, a, (by first | exact (un (un r3)) | (refine (un (un r3)).trans ?_; congr 1; omega) | (refine (un (un r3)).trans ?_; simp)), (by first | exact (un (un r4)) | (refine (un (un r4)).trans ?_; congr 1; omega) | (refine (un (un r4)).trans ?_; simp)), (by first | exact us | (refine us.trans ?_; congr 1; omega) | (refine us.trans ?_; simp)), ((un (un r8)).trans x0_8.symm), ((un (un r9)).trans x0_9.symm), by omega, hna, hP2, rfl⟩
  · skip
    try simp only [tests] at hc3
    refine W.exit ?_
    refine exitHere ?_
    refine W.seqR ?_
    refine WL.cons rfl (st_move r4 ?_)
    refine WL.cons rfl (st_leq us uc ?_)
    refine WL.cons rfl (st_move us ?_)
    apply WL.seg0 2 (t := 42) (x := 44) (want := true) us rfl
    · intro hg42
      refine WL.guardY rfl (us.trans (by rw [hg42])) rfl (st_move (un (un (un r3))) ?_)
      refine WL.guardY rfl ((un us).trans (by rw [hg42])) rfl (st_leq us uc ?_)
      exact WL.nil ⟨(ag (ag ag0)), us, rfl⟩
    intro ρ13 hag hx42
    have q42 := (hag 42 rfl).trans us
    clear hag r10 r11 r3 r4 r8 r9
    have r42 := q42; clear q42
    refine WL.cons rfl (st_and r42 hx42 uc ?_)
    refine WL.cons rfl (st_assign us ?_)
    refine WL.nil ?_
    refine W.gen ?_; intro ρ14 hρ
    have q2 := (hρ 2).trans us
    clear hρ r42
    have r2 := q2; clear q2
    refine W.ret ?_
    refine fin1 r2 ?_
    have he : i = ls.length := by omega
    refine ⟨_, rfl, Up.refl _, fun ht => ?_⟩
    have ht2 : a ≤ 150 ∧ n ≤ 16384 := by simpa using ht
    have := hP ht2.1 ht2.2
    rw [he, List.take_length] at this; exact this

end Go.Proofs.Ytppohfgaegahoaa

namespace Go.Proofs.Ytppohfgaegahoaa
open Go.Tw Go.RowKit

def OB (base : Nat) (w : World) (u : Value) (m : Msg) : Prop := Own base w 5 1 u m.length (m.map byteV)
theorem OB.rb {base : Nat} {w : World} {u : Value} {m : Msg} (h : OB base w u m) : RB (fun b => base ≤ b) w u m := h.sl
theorem OB.nil0 {base : Nat} {w : World} : OB base w (.slice none 0 0) [] := ⟨rfl, .inl ⟨rfl, rfl⟩⟩

/-- what a call leaves, a row of bytes of the caller's own with it -/
def NetToY (S : Nat → Prop) (w w' : World) (bn bm : Nat) (s : NetS) (u : Value) (m : Msg) : Prop :=
  Frm (fun k => k = bn ∨ k = bm) w w' ∧ ∃ S', NetR S' w' bn bm s ∧ (∀ b, S' b → S b ∨ w.heap.size ≤ b) ∧ OB w.heap.size w' u m ∧ ∀ b, u.ownBlock = some b → ¬ S' b

theorem NetToY.toX {S : Nat → Prop} {w w' : World} {bn bm : Nat} {s : NetS} {u : Value} {m : Msg} (h : NetToY S w w' bn bm s u m) : NetToX S w w' bn bm s u m := by
  obtain ⟨h1, S', h2, h3, h4, h5⟩ := h
  refine ⟨h1, S', h2, h3, ?_⟩
  rcases h4.2 with ⟨rfl, h0⟩ | ⟨g, cap, cur, rfl, hg, _⟩
  · exact ⟨_, 0, by rw [h0], h4.1, fun h => absurd h (by omega)⟩
  · obtain ⟨o, c, e, hl, hc⟩ := h4.rb
    cases e
    exact ⟨_, _, rfl, hl, fun h0 => let ⟨b, off, e, _, hcs⟩ := hc h0; ⟨b, off, e, by cases e; exact ⟨hg, h5 g rfl⟩, hcs⟩⟩
theorem NetTo.noRowY {S : Nat → Prop} {w w' : World} {bn bm : Nat} {s : NetS} (h : NetTo S w w' bn bm s) : NetToY S w w' bn bm s (.slice none 0 0) [] :=
  let ⟨h1, S', h2, h3⟩ := h; ⟨h1, S', h2, h3, OB.nil0, fun b hb => by cases hb⟩
theorem NetTo.ownY {S : Nat → Prop} {w w1 w' : World} {bn bm : Nat} {s : NetS} {u : Value} {m : Msg} (h : NetTo S w w1 bn bm s) (e : Up w1 w') (hu : OB w1.heap.size w' u m) : NetToY S w w' bn bm s u m :=
  let ⟨h1, S', h2, h3⟩ := h; ⟨h1.trans e.frm, S', h2.up e, h3, hu.base h1.size, fun b hb hs => by have := (h2.old b hs).1; have := (hu.block b hb).1; omega⟩
theorem NetToY.ahead {S : Nat → Prop} {w0 w w' : World} {bn bm : Nat} {s : NetS} {u : Value} {m : Msg} (e : Up w0 w) (h : NetToY S w w' bn bm s u m) : NetToY S w0 w' bn bm s u m :=
  let ⟨h1, S', h2, h3, h4, h5⟩ := h; ⟨e.frm.trans h1, S', h2, fun b hb => (h3 b hb).imp id fun h => Nat.le_trans e.size h, h4.base e.size, h5⟩

theorem OB.row {base : Nat} {w : World} {u : Value} {m : Msg} {S : Nat → Prop} (h4 : OB base w u m) (h5 : ∀ b, u.ownBlock = some b → ¬ S b) : RB (fun b => base ≤ b ∧ ¬ S b) w u m := by
  rcases h4.2 with ⟨rfl, h0⟩ | ⟨g, cap, cur, rfl, hg, _⟩
  · exact ⟨_, 0, by rw [h0], h4.1, fun h => absurd h (by omega)⟩
  · obtain ⟨o, c, e, hl, hc⟩ := h4.rb
    cases e
    exact ⟨_, _, rfl, hl, fun h0 => let ⟨b, off, e, _, hcs⟩ := hc h0; ⟨b, off, e, by cases e; exact ⟨hg, h5 g rfl⟩, hcs⟩⟩
theorem Pair.midY {S Sx : Nat → Prop} {w w1 : World} {bn bm bx : Nat} {s s' : NetS} {x : RefS} {u : Value} {m : Msg} (h : Pair S Sx w bn bm bx s x) (ht : NetToY S w w1 bn bm s' u m) : ∃ S', Mid S Sx w w1 bn bm bx s' x u m S' ∧ OB w.heap.size w1 u m ∧ ∀ b, u.ownBlock = some b → ¬ S' b := by
  obtain ⟨h1, S', h2, h3, h4, h5⟩ := ht
  have hbx := h.ref.lt
  refine ⟨S', ⟨h1, h2, h.ref.frm h1 (fun e => by rcases e with e | e; exact h.nb e.symm; exact h.mb e.symm) (fun b hb e => by rcases e with e | e <;> subst e; exact h.xn hb; exact h.xm hb), h3, fun hs => ?_, h4.row h5⟩, h4, h5⟩
  rcases h3 bx hs with e | e
  · exact h.nx e
  · omega

theorem u8_byte (z : Int) : ∃ x : UInt8, IntKind.u8.wrap z = ((x.toNat : Nat) : Int) := by
  have h : 0 ≤ IntKind.u8.wrap z ∧ IntKind.u8.wrap z < 256 := by simp [IntKind.wrap, IntKind.bits, IntKind.signed]; omega
  refine ⟨UInt8.ofNat (IntKind.u8.wrap z).toNat, ?_⟩
  rw [UInt8.toNat_ofNat']
  omega

theorem OB.at {base : Nat} {w : World} {o : Option Addr} {n c : Nat} {m : Msg} (h : OB base w (.slice o n c) m) {j : Nat} (hj : j < m.length) : n = m.length ∧ ∃ b, o = some ⟨b, 0, none⟩ ∧ base ≤ b ∧ (Value.slice o n c).ownBlock = some b ∧ w.cell? ⟨b, 0 + j * 1, none⟩ = some (byteV m[j]) := by
  rcases h.2 with ⟨_, h0⟩ | ⟨g, cap, cur, e, hg, hh, hn, hm, hs, ht⟩
  · omega
  · cases e
    refine ⟨rfl, g, rfl, hg, rfl, ?_⟩
    obtain ⟨_, _, e, hl, hc⟩ := h.rb
    cases e
    obtain ⟨b, off, e, _, hcs⟩ := hc (by omega)
    cases e
    have := hcs j (byteV m[j]) (by simp [hj])
    rwa [Nat.mul_one]

theorem st_ownStore {ρ : Env} {w : World} {K : Value → World → Prop} {d : Option Nat} {ty : TypeId} {ps : String} {af : Array Edge} {gd : Option (Nat × Bool)} {x y : Operand} {base b p n c j : Nat} {m : Msg} {z : Int} (hx : ev ρ x = .pointer (some ⟨b, p, none⟩)) (hy : ev ρ y = .int .u8 (IntKind.u8.wrap z)) (hp : p = j) (hown : OB base w (.slice (some ⟨b, 0, none⟩) n c) m) (hj : j < m.length)
    (h : ∀ w' m', m'.length = m.length → OB base w' (.slice (some ⟨b, 0, none⟩) n c) m' → Frm (fun i => i = b) w w' → w'.heap.size = w.heap.size → K undef w') : Step Try.prog ⟨d, .store 5 x y, ty, ps, af, gd⟩ ρ w K := by
  subst hp
  obtain ⟨v, hv⟩ := u8_byte z
  rw [hv] at hy
  rcases hown.2 with ⟨e, h0⟩ | ⟨g, cap, cur, e, hg, hh, hn, hm, hs, ht⟩
  · omega
  · cases e
    have hcl : p < cur.toList.length := by simp; omega
    refine st_store1 (cur := cur.toList) hx hy Try.sizeOf5 hh hcl rfl rfl fun w' hb hf hz => ?_
    refine h w' (m.set p v) (by simp) ⟨by simp, .inr ⟨b, c, (cur.toList.set p (byteV v)).toArray, ?_, hg, hb, ?_, hm, ?_, ?_⟩⟩ hf hz
    · simp
    · simpa using hn
    · simpa using hs
    · have ht' : cur.toList.take m.length = m.map byteV := by simpa using ht
      simp only [List.length_set, Nat.mul_one]
      rw [List.take_set, ht']
      exact (List.map_set).symm
end Go.Proofs.Ytppohfgaegahoaa

namespace Go.Proofs.Ytppohfgaegahoaa
open Go.Tw Go.RowKit
attribute [local irreducible] Step WL W WQ Does

/-- (*towline links.Net).Peek -/
theorem peekY_ok {S : Nat → Prop} {s : NetS} {bn bm : Nat} (w : World) (h : NetR S w bn bm s) (hk : s.Ok) (l : Lk) (i : Int) : Does Try.prog 14 #[.pointer (some ⟨bn, 0, none⟩), ekL l, .int .i64 i] w (fun v w' => ∃ u, v = .tuple #[u, .int .i64 (if s.able l i = true then 0 else 40)] ∧ Up w w' ∧ OB w.heap.size w' u (if s.able l i = true then (s.q l).getD i.toNat [] else [])) := by
  refine fn_of_W (rs := [6, 7]) (N := 26) Try.func14 rfl rfl rfl (by simp) ?_
  intro ρ0 hρ0
  have r0 : ev ρ0 (.tmp 0) = .pointer (some ⟨bn, 0, none⟩) := hρ0 0
  have r1 : ev ρ0 (.tmp 1) = ekL l := hρ0 1
  have r2 : ev ρ0 (.tmp 2) = .int .i64 i := hρ0 2
  clear hρ0
  have hu := Up.refl w
  refine W.seqR ?_
  refine WL.cons rfl (st_box r1 ?_)
  intro b4 w1 m4; have B4 := m4.blk
  replace h := h.up m4.up
  replace hu := hu.trans m4.up
  refine WL.cons rfl (st_assign uc ?_)
  refine WL.cons rfl (st_assign uc ?_)
  refine WL.nil ?_
  refine W.gen ?_; intro ρ1 hρ
  have q0 := (hρ 0).trans (un (un (un r0))); have q2 := (hρ 2).trans (un (un (un r2))); have q4 := (hρ 4).trans (un (un us))
  clear hρ r0 r1 r2
  have r0 := q0; clear q0; have r2 := q2; clear q2; have r4 := q4; clear q4
  refine W.seq ?_
  refine W.seqR ?_
  refine WL.cons rfl (st_move r0 ?_)
  refine WL.cons rfl (st_loadK Try.isAgg29 Try.sizeOf29 (un r4) (cells2 (B4.cell rfl) (B4.cell rfl)) rfl ?_)
  refine WL.cons rfl (st_move (un (un r2)) ?_)
  refine WL.cons rfl (st_call3 ent35 (un (un us)) (un us) us (((able_ok _ h l i)).mono ?_))
  intro va w2 ⟨hva, ua⟩; subst hva
  replace h := h.up ua
  replace B4 := B4.up ua
  replace hu := hu.trans ua
  refine WL.cons rfl (st_assign us ?_)
  refine WL.nil ?_
  refine W.gen ?_; intro ρ2 hρ
  have q0 := (hρ 0).trans (un (un (un (un (un r0))))); have q2 := (hρ 2).trans (un (un (un (un (un r2))))); have q4 := (hρ 4).trans (un (un (un (un (un r4))))); have q8 := (hρ 8).trans us
  clear hρ r0 r2 r4
  have r0 := q0; clear q0; have r2 := q2; clear q2; have r4 := q4; clear q4; have r8 := q8; clear q8
  refine W.seqR ?_
  refine WL.cons rfl (st_move r8 ?_)
  refine WL.cons rfl (st_neq us uc ?_)
  refine WL.nil ?_
  refine W.gen ?_; intro ρ3 hρ
  have q0 := (hρ 0).trans (un (un r0)); have q2 := (hρ 2).trans (un (un r2)); have q4 := (hρ 4).trans (un (un r4)); have q8 := (hρ 8).trans (un (un r8))
  have q14 := (hρ 14).trans us
  clear hρ r0 r2 r4 r8
  have r0 := q0; clear q0; have r2 := q2; clear q2; have r4 := q4; clear q4; have r8 := q8; clear q8; have r14 := q14; clear q14
  refine W.cond r14 (fun hc2 => ?_) (fun hc2 => ?_)
  · skip
    try simp only [tests] at hc2
    have ha : s.able l i = false := by cases e : s.able l i <;> simp_all
    refine W.seqR ?_
    refine WL.cons rfl (st_move r8 ?_)
    refine WL.cons rfl (st_assign uc ?_)
    refine WL.cons rfl (st_assign (un us) ?_)
    refine WL.nil ?_
    refine W.gen ?_; intro ρ4 hρ
    have q6 := (hρ 6).trans (un us); have q7 := (hρ 7).trans us
    clear hρ r0 r14 r2 r4 r8
    have r6 := q6; clear q6; have r7 := q7; clear q7
    refine W.ret ?_
    refine fin2 r6 r7 ?_
    rw [ha]; exact ⟨_, rfl, hu, OB.nil0⟩
  · skip
    try simp only [tests] at hc2
    have ha : s.able l i = true := by cases e : s.able l i <;> simp_all
    obtain ⟨⟨hf, hi0⟩, hil⟩ : (fitsL l = true ∧ 0 ≤ i) ∧ i < (s.q l).length := by simpa [NetS.able] using ha
    refine W.skip ?_
    obtain ⟨vq, hvq, hlk⟩ := h.look l
    obtain ⟨qb, qoff, qcap, x, rfl, hcx, hrx⟩ := hvq.at (i := i.toNat) (by omega)
    have hms : ((s.q l).getD i.toNat []).length ≤ 8192 := by
      rw [show (s.q l).getD i.toNat [] = (s.q l)[i.toNat]'(by omega) by simp [List.getD, show i.toNat < (s.q l).length by omega]]; exact hk.short l _ (List.getElem_mem _)
    refine W.quietR mixed 9 (by kernel_rfl) ?_
    refine WQ.cons (fun w' hq => st_move r0 ⟨rfl, Up.refl _⟩) ?_
    refine WQ.cons (fun w' hq => st_nilCheck us ⟨rfl, Up.refl _⟩) ?_
    refine WQ.cons (fun w' hq => st_fieldAddr (f := 0) (k := 0) us Try.underlying64 rfl rfl Try.sizeOf61 ⟨rfl, Up.refl _⟩) ?_
    refine WQ.cons (fun w' hq => st_load1 Try.isAgg61 us ((h.up hq).blk.cell rfl) ⟨rfl, Up.refl _⟩) ?_
    refine WQ.cons (fun w' hq => st_loadK Try.isAgg29 Try.sizeOf29 (un (un (un (un r4)))) (cells2 ((B4.up hq).cell rfl) ((B4.up hq).cell rfl)) rfl ⟨rfl, Up.refl _⟩) ?_
    refine WQ.cons (fun w' hq => st_look (un us) us (hlk _ hq) ⟨rfl, Up.refl _⟩) ?_
    refine WQ.cons (fun w' hq => st_move (un (un (un (un (un (un r2)))))) ⟨rfl, Up.refl _⟩) ?_
    refine WQ.cons (fun w' hq => st_indexAddrS (un us) us Try.underlying78 Try.sizeOf30 (by omega) (by omega) ⟨rfl, Up.refl _⟩) ?_
    refine WQ.cons (fun w' hq => st_load1 Try.isAgg30 us (cell_up hcx hq) ⟨rfl, Up.refl _⟩) ?_
    refine WQ.nil ?_
    intro w3 hq4
    replace h := h.up hq4
    replace B4 := B4.up hq4
    replace hu := hu.trans hq4
    refine WL.cons rfl (st_call1 ent18 us (((clone_ok _ (hrx.up hq4) (byteV_one _) (by omega))).mono ?_))
    intro u w4 ⟨hou, uu⟩; have hb0 := hu.size
    replace h := h.up uu
    replace B4 := B4.up uu
    replace hu := hu.trans uu
    refine WL.cons rfl (st_assign us ?_)
    refine WL.cons rfl (st_assign uc ?_)
    refine WL.nil ?_
    refine W.gen ?_; intro ρ5 hρ
    have q6 := (hρ 6).trans (un us); have q7 := (hρ 7).trans us
    clear hρ r0 r14 r2 r4 r8
    have r6 := q6; clear q6; have r7 := q7; clear q7
    refine W.ret ?_
    refine fin2 r6 r7 ?_
    rw [ha]; exact ⟨_, rfl, hu, hou.base hb0⟩

/-- (*towline links.Net).Take -/
theorem takeY_ok {S : Nat → Prop} {s : NetS} {bn bm : Nat} (w : World) (h : NetR S w bn bm s) (hk : s.Ok) (l : Lk) (i : Int) : Does Try.prog 29 #[.pointer (some ⟨bn, 0, none⟩), ekL l, .int .i64 i] w (fun v w' => ∃ u, v = .tuple #[u, .bool (s.take l i).2.1.isSome, .int .i64 (s.take l i).2.2] ∧ NetToY S w w' bn bm (s.take l i).1 u ((s.take l i).2.1.getD [])) := by
  have hbn := h.blk.lt; have hbm := h.map.lt
  refine fn_of_W (rs := [6, 7, 8]) (N := 39) Try.func29 rfl rfl rfl (by simp) ?_
  intro ρ0 hρ0
  have r0 : ev ρ0 (.tmp 0) = .pointer (some ⟨bn, 0, none⟩) := hρ0 0
  have r1 : ev ρ0 (.tmp 1) = ekL l := hρ0 1
  have r2 : ev ρ0 (.tmp 2) = .int .i64 i := hρ0 2
  clear hρ0
  have hu := Up.refl w
  refine W.seqR ?_
  refine WL.cons rfl (st_box r1 ?_)
  intro b4 w1 m4; have B4 := m4.blk
  replace h := h.up m4.up
  replace hu := hu.trans m4.up
  refine WL.cons rfl (st_assign uc ?_)
  refine WL.cons rfl (st_assign uc ?_)
  refine WL.cons rfl (st_assign uc ?_)
  refine WL.nil ?_
  refine W.gen ?_; intro ρ1 hρ
  have q0 := (hρ 0).trans (un (un (un (un r0)))); have q2 := (hρ 2).trans (un (un (un (un r2)))); have q4 := (hρ 4).trans (un (un (un us)))
  clear hρ r0 r1 r2
  have r0 := q0; clear q0; have r2 := q2; clear q2; have r4 := q4; clear q4
  refine W.seq ?_
  refine W.seqR ?_
  refine WL.cons rfl (st_move r0 ?_)
  refine WL.cons rfl (st_loadK Try.isAgg29 Try.sizeOf29 (un r4) (cells2 (B4.cell rfl) (B4.cell rfl)) rfl ?_)
  refine WL.cons rfl (st_move (un (un r2)) ?_)
  refine WL.cons rfl (st_call3 ent35 (un (un us)) (un us) us (((able_ok _ h l i)).mono ?_))
  intro va w2 ⟨hva, ua⟩; subst hva
  replace h := h.up ua
  replace B4 := B4.up ua
  replace hu := hu.trans ua
  refine WL.cons rfl (st_assign us ?_)
  refine WL.nil ?_
  refine W.gen ?_; intro ρ2 hρ
  have q0 := (hρ 0).trans (un (un (un (un (un r0))))); have q2 := (hρ 2).trans (un (un (un (un (un r2))))); have q4 := (hρ 4).trans (un (un (un (un (un r4))))); have q9 := (hρ 9).trans us
  clear hρ r0 r2 r4
  have r0 := q0; clear q0; have r2 := q2; clear q2; have r4 := q4; clear q4; have r9 := q9; clear q9
  refine W.seqR ?_
  refine WL.cons rfl (st_move r9 ?_)
  refine WL.cons rfl (st_neq us uc ?_)
  refine WL.nil ?_
  refine W.gen ?_; intro ρ3 hρ
  have q0 := (hρ 0).trans (un (un r0)); have q2 := (hρ 2).trans (un (un r2)); have q4 := (hρ 4).trans (un (un r4)); have q9 := (hρ 9).trans (un (un r9))
  have q16 := (hρ 16).trans us
  clear hρ r0 r2 r4 r9
  have r0 := q0; clear q0; have r2 := q2; clear q2; have r4 := q4; clear q4; have r9 := q9; clear q9; have r16 := q16; clear q16
  refine W.cond r16 (fun hc2 => ?_) (fun hc2 => ?_)
  · skip
    try simp only [tests] at hc2
    have ha : s.able l i = false := by cases e : s.able l i <;> simp_all
    refine W.seqR ?_
    refine WL.cons rfl (st_move r9 ?_)
    refine WL.cons rfl (st_assign uc ?_)
    refine WL.cons rfl (st_assign uc ?_)
    refine WL.cons rfl (st_assign (un (un us)) ?_)
    refine WL.nil ?_
    refine W.gen ?_; intro ρ4 hρ
    have q6 := (hρ 6).trans (un (un us)); have q7 := (hρ 7).trans (un us); have q8 := (hρ 8).trans us
    clear hρ r0 r16 r2 r4 r9
    have r6 := q6; clear q6; have r7 := q7; clear q7; have r8 := q8; clear q8
    refine W.ret ?_
    refine fin3 r6 r7 r8 ?_
    unfold NetS.take; rw [ha]; exact ⟨_, rfl, (NetTo.ahead hu (h.to (Up.refl _))).noRowY⟩
  · skip
    try simp only [tests] at hc2
    have ha : s.able l i = true := by cases e : s.able l i <;> simp_all
    obtain ⟨⟨hf, hi0⟩, hil⟩ : (fitsL l = true ∧ 0 ≤ i) ∧ i < (s.q l).length := by simpa [NetS.able] using ha
    refine W.skip ?_
    refine W.seqR ?_
    refine WL.cons rfl (st_move r0 ?_)
    refine WL.cons rfl (st_loadK Try.isAgg29 Try.sizeOf29 (un r4) (cells2 (B4.cell rfl) (B4.cell rfl)) rfl ?_)
    refine WL.cons rfl (st_move (un (un r2)) ?_)
    refine WL.cons rfl (st_call3 ent48 (un (un us)) (un us) us (((cut_ok _ h hk l i ha)).mono ?_))
    intro x w3 ⟨hx, hto⟩
    replace B4 := B4.frm hto.1 (fun e => by have := m4.at_; rcases e with e | e <;> omega)
    replace hto := NetTo.ahead hu hto
    have hto2 := hto; obtain ⟨_, S1, h1, hS1⟩ := hto2; clear hu h; have hu := Up.refl w3; have h := h1; clear h1
    refine WL.cons rfl (st_assign us ?_)
    refine WL.nil ?_
    refine W.gen ?_; intro ρ5 hρ
    have q0 := (hρ 0).trans (un (un (un (un (un r0))))); have q4 := (hρ 4).trans (un (un (un (un (un r4))))); have q10 := (hρ 10).trans us
    clear hρ r0 r16 r2 r4 r9
    have r0 := q0; clear q0; have r4 := q4; clear q4; have r10 := q10; clear q10
    refine W.seq ?_
    refine W.quietR mixed 15 (by kernel_rfl) ?_
    refine WQ.cons (fun w' hq => st_move r0 ⟨rfl, Up.refl _⟩) ?_
    refine WQ.cons (fun w' hq => st_nilCheck us ⟨rfl, Up.refl _⟩) ?_
    refine WQ.cons (fun w' hq => st_fieldAddr (f := 1) (k := 0) us Try.underlying64 rfl rfl Try.sizeOf62 ⟨rfl, Up.refl _⟩) ?_
    refine WQ.cons (fun w' hq => st_load1 Try.isAgg62 us ((h.up hq).blk.cell rfl) ⟨rfl, Up.refl _⟩) ?_
    refine WQ.cons (fun w' hq => st_fieldAddr (f := 0) (k := 0) (un (un (un (un r4)))) Try.underlying29 rfl rfl Try.sizeOf3 ⟨rfl, Up.refl _⟩) ?_
    refine WQ.cons (fun w' hq => st_load1 Try.isAgg3 us ((B4.up hq).cell rfl) ⟨rfl, Up.refl _⟩) ?_
    refine WQ.cons (fun w' hq => by
        refine st_call2 ent49 (un (un us)) us (((has_ok _ _ _)).mono ?_); exact fun v w2 hv => hv) ?_
    refine WQ.cons (fun w' hq => st_move (un (un (un (un (un (un (un r0))))))) ⟨rfl, Up.refl _⟩) ?_
    refine WQ.cons (fun w' hq => st_nilCheck us ⟨rfl, Up.refl _⟩) ?_
    refine WQ.cons (fun w' hq => st_fieldAddr (f := 1) (k := 0) us Try.underlying64 rfl rfl Try.sizeOf62 ⟨rfl, Up.refl _⟩) ?_
    refine WQ.cons (fun w' hq => st_load1 Try.isAgg62 us ((h.up hq).blk.cell rfl) ⟨rfl, Up.refl _⟩) ?_
    refine WQ.cons (fun w' hq => st_fieldAddr (f := 1) (k := 0) (un (un (un (un (un (un (un (un (un (un (un r4))))))))))) Try.underlying29 rfl rfl Try.sizeOf3 ⟨rfl, Up.refl _⟩) ?_
    refine WQ.cons (fun w' hq => st_load1 Try.isAgg3 us ((B4.up hq).cell rfl) ⟨rfl, Up.refl _⟩) ?_
    refine WQ.cons (fun w' hq => by
        refine st_call2 ent49 (un (un us)) us (((has_ok _ _ _)).mono ?_); exact fun v w2 hv => hv) ?_
    refine WQ.cons (fun w' hq => st_neqB (un (un (un (un (un (un (un us))))))) us Try.underlying4 ⟨rfl, Up.refl _⟩) ?_
    refine WQ.nil ?_
    intro w4 hq5
    replace h := h.up hq5
    replace B4 := B4.up hq5
    replace hu := hu.trans hq5
    refine WL.nil ?_
    refine W.gen ?_; intro ρ6 hρ
    have q10 := (hρ 10).trans (un (un (un (un (un (un (un (un (un (un (un (un (un (un (un r10))))))))))))))); have q36 := (hρ 36).trans us
    clear hρ r0 r10 r4
    have r10 := q10; clear q10; have r36 := q36; clear q36
    refine W.cond r36 (fun hc5 => ?_) (fun hc5 => ?_)
    · skip
      try simp only [tests] at hc5
      refine W.seqR ?_
      refine WL.cons rfl (st_assign uc ?_)
      refine WL.cons rfl (st_assign uc ?_)
      refine WL.cons rfl (st_assign uc ?_)
      refine WL.nil ?_
      refine W.gen ?_; intro ρ7 hρ
      have q6 := (hρ 6).trans (un (un us)); have q7 := (hρ 7).trans (un us); have q8 := (hρ 8).trans us
      clear hρ r10 r36
      have r6 := q6; clear q6; have r7 := q7; clear q7; have r8 := q8; clear q8
      refine W.ret ?_
      refine fin3 r6 r7 r8 ?_
      have he : ¬ hasB s.side l.1 = hasB s.side l.2 := by simpa [NetS.cut] using hc5
      unfold NetS.take; rw [if_neg (by simp [ha]), if_neg he]; exact ⟨_, rfl, (hto.up hu).noRowY⟩
    · skip
      try simp only [tests] at hc5
      refine W.skip ?_
      have he : hasB s.side l.1 = hasB s.side l.2 := by simpa [NetS.cut] using hc5
      have hgm : (s.q l)[i.toNat]? = some ((s.q l).getD i.toNat []) := by simp [List.getD, show i.toNat < (s.q l).length by omega]
      have hms : ((s.q l).getD i.toNat []).length ≤ 8192 := hk.short l _ (List.mem_of_getElem? hgm)
      refine W.seqR ?_
      refine WL.cons rfl (st_move r10 ?_)
      refine WL.cons rfl (st_call1 ent18 us (((clone_ok _ (hx.up hu) (byteV_one _) (by omega))).mono ?_))
      intro u w5 ⟨hou, uu⟩; have hb0 := hu.size
      replace h := h.up uu
      replace B4 := B4.up uu
      replace hu := hu.trans uu
      refine WL.cons rfl (st_assign us ?_)
      refine WL.cons rfl (st_assign uc ?_)
      refine WL.cons rfl (st_assign uc ?_)
      refine WL.nil ?_
      refine W.gen ?_; intro ρ8 hρ
      have q6 := (hρ 6).trans (un (un us)); have q7 := (hρ 7).trans (un us); have q8 := (hρ 8).trans us
      clear hρ r10 r36
      have r6 := q6; clear q6; have r7 := q7; clear q7; have r8 := q8; clear q8
      refine W.ret ?_
      refine fin3 r6 r7 r8 ?_
      unfold NetS.take; rw [if_neg (by simp [ha]), if_pos he, hgm]; exact ⟨_, rfl, hto.ownY hu (hou.base hb0)⟩

/-- towline towlinelaw04.does -/
theorem doesY_ok {S : Nat → Prop} {s : NetS} {bn bm : Nat} (w : World) (h : NetR S w bn bm s) (hk : s.Ok) (k : DoS) {Sb : Nat → Prop} {vb : Value} (hb : RB Sb w vb k.b) : Does Try.prog 13 #[.pointer (some ⟨bn, 0, none⟩), .agg (doCells k vb).toArray] w (fun v w' => ∃ u, v = .tuple #[u, .bool (s.does k).2.1.isSome, .int .i64 (s.does k).2.2] ∧ NetToY S w w' bn bm (s.does k).1 u ((s.does k).2.1.getD [])) := by
  refine fn_of_W (rs := [4, 5, 6]) (N := 58) Try.func13 rfl rfl rfl (by simp) ?_
  intro ρ0 hρ0
  have r0 : ev ρ0 (.tmp 0) = .pointer (some ⟨bn, 0, none⟩) := hρ0 0
  have r1 : ev ρ0 (.tmp 1) = .agg (doCells k vb).toArray := hρ0 1
  clear hρ0
  have hu := Up.refl w
  refine W.seqR ?_
  refine WL.cons rfl (st_box r1 ?_)
  intro b3 w1 m3; have B3 := m3.blk
  replace h := h.up m3.up
  replace hb := hb.up m3.up
  replace hu := hu.trans m3.up
  refine WL.cons rfl (st_assign uc ?_)
  refine WL.cons rfl (st_assign uc ?_)
  refine WL.cons rfl (st_assign uc ?_)
  refine WL.nil ?_
  refine W.gen ?_; intro ρ1 hρ
  have q0 := (hρ 0).trans (un (un (un (un r0)))); have q3 := (hρ 3).trans (un (un (un us)))
  clear hρ r0 r1
  have r0 := q0; clear q0; have r3 := q3; clear q3
  refine W.seq ?_
  refine W.seqR ?_
  refine WL.cons rfl (st_fieldAddr (f := 0) (k := 0) r3 Try.underlying33 rfl rfl Try.sizeOf3 ?_)
  refine WL.cons rfl (st_load1 Try.isAgg3 us (B3.cell rfl) ?_)
  refine WL.cons rfl (st_conv us Try.underlying3 Try.underlying37 rfl ?_)
  refine WL.cons rfl (st_rem us uc (by omega) rfl ?_)
  refine WL.cons rfl (st_conv us Try.underlying37 Try.underlying3 (show _ = opN k.op from rfl) ?_)
  refine WL.nil ?_
  refine W.gen ?_; intro ρ2 hρ
  have q0 := (hρ 0).trans (un (un (un (un (un r0))))); have q3 := (hρ 3).trans (un (un (un (un (un r3))))); have q11 := (hρ 11).trans us
  clear hρ r0 r3
  have r0 := q0; clear q0; have r3 := q3; clear q3; have r11 := q11; clear q11
  refine W.block ?_
  refine W.seq ?_
  refine W.seqR ?_
  refine WL.cons rfl (st_eql r11 uc ?_)
  refine WL.cons rfl (st_assign us ?_)
  refine WL.nil ?_
  refine W.gen ?_; intro ρ3 hρ
  have q0 := (hρ 0).trans (un (un r0)); have q3 := (hρ 3).trans (un (un r3)); have q11 := (hρ 11).trans (un (un r11)); have q12 := (hρ 12).trans us
  clear hρ r0 r11 r3
  have r0 := q0; clear q0; have r3 := q3; clear q3; have r11 := q11; clear q11; have r12 := q12; clear q12
  refine W.meet (fun ρ' w' => ev ρ' (.tmp 12) = .bool (decide (opN k.op = 3) || decide (opN k.op = 4)) ∧ ev ρ' (.tmp 0) = ev ρ3 (.tmp 0) ∧ ev ρ' (.tmp 3) = ev ρ3 (.tmp 3) ∧ ev ρ' (.tmp 11) = ev ρ3 (.tmp 11) ∧ w' = w1) ?_ ?_
  · skip
    have r0_ := r0
    have r3_ := r3
    have r11_ := r11
    refine W.cond r12 (fun hc2 => ?_) (fun hc2 => ?_)
    · skip
      try simp only [tests] at hc2
      refine W.skip ?_
      exact ⟨(by first | exact r12 | (refine (r12).trans ?_; simp_all)), (r0.trans r0_.symm), (r3.trans r3_.symm), (r11.trans r11_.symm), rfl⟩
    · skip
      try simp only [tests] at hc2
      refine W.endR ?_
      refine WL.cons rfl (st_eql r11 uc ?_)
      refine WL.cons rfl (st_assign us ?_)
      refine WL.nil ?_
      exact ⟨(by first | exact us | (refine (us).trans ?_; simp_all)), ((un (un r0)).trans r0_.symm), ((un (un r3)).trans r3_.symm), ((un (un r11)).trans r11_.symm), rfl⟩
  intro ρ4 w2 ⟨q12, q0, q3, q11, hw⟩
  replace q0 := q0.trans r0
  replace q3 := q3.trans r3
  replace q11 := q11.trans r11
  clear r0 r11 r12 r3
  have r12 := q12; clear q12; have r0 := q0; clear q0; have r3 := q3; clear q3; have r11 := q11; clear q11
  subst hw
  refine W.cond r12 (fun hc3 => ?_) (fun hc3 => ?_)
  · skip
    try simp only [tests] at hc3
    have ho : opN k.op = 3 ∨ opN k.op = 4 := by simpa using hc3
    refine W.seqR ?_
    refine WL.cons rfl (st_move r0 ?_)
    refine WL.cons rfl (st_fieldAddr (f := 2) (k := 1) (un r3) Try.underlying33 rfl rfl Try.sizeOf29 ?_)
    refine WL.cons rfl (st_loadK Try.isAgg29 Try.sizeOf29 us (cells2 (B3.cell rfl) (B3.cell rfl)) rfl ?_)
    refine WL.cons rfl (st_fieldAddr (f := 1) (k := 0) (un (un (un r3))) Try.underlying33 rfl rfl Try.sizeOf3 ?_)
    refine WL.cons rfl (st_load1 Try.isAgg3 us (B3.cell rfl) ?_)
    refine WL.cons rfl (st_call3 ent29 (un (un (un (un us)))) (un (un us)) us (((takeY_ok _ h hk k.l k.i)).mono ?_))
    intro vt w3 ⟨u, hvt, ht⟩; subst hvt; replace ht := NetToY.ahead hu ht
    refine WL.cons rfl (st_extract us rfl ?_)
    refine WL.cons rfl (st_extract (un us) rfl ?_)
    refine WL.cons rfl (st_extract (un (un us)) rfl ?_)
    refine WL.cons rfl (st_assign (un (un us)) ?_)
    refine WL.cons rfl (st_assign (un (un us)) ?_)
    refine WL.cons rfl (st_assign (un (un us)) ?_)
    refine WL.nil ?_
    refine W.gen ?_; intro ρ5 hρ
    have q4 := (hρ 4).trans (un (un us)); have q5 := (hρ 5).trans (un us); have q6 := (hρ 6).trans us
    clear hρ r0 r11 r12 r3
    have r4 := q4; clear q4; have r5 := q5; clear q5; have r6 := q6; clear q6
    refine W.ret ?_
    refine fin3 r4 r5 r6 ?_
    have hd : s.does k = s.take k.l k.i := by unfold NetS.does; rw [if_pos ho]
    rw [hd]; exact ⟨_, rfl, ht⟩
  · skip
    try simp only [tests] at hc3
    have ho : ¬ (opN k.op = 3 ∨ opN k.op = 4) := by simpa using hc3
    refine W.seqR ?_
    refine WL.cons rfl (st_eql r11 uc ?_)
    refine WL.cons rfl (st_assign us ?_)
    refine WL.nil ?_
    refine W.gen ?_; intro ρ6 hρ
    have q0 := (hρ 0).trans (un (un r0)); have q3 := (hρ 3).trans (un (un r3)); have q11 := (hρ 11).trans (un (un r11)); have q24 := (hρ 24).trans us
    clear hρ r0 r11 r12 r3
    have r0 := q0; clear q0; have r3 := q3; clear q3; have r11 := q11; clear q11; have r24 := q24; clear q24
    refine W.cond r24 (fun hc5 => ?_) (fun hc5 => ?_)
    · skip
      try simp only [tests] at hc5
      refine W.seqR ?_
      refine WL.cons rfl (st_move r0 ?_)
      refine WL.cons rfl (st_fieldAddr (f := 2) (k := 1) (un r3) Try.underlying33 rfl rfl Try.sizeOf29 ?_)
      refine WL.cons rfl (st_loadK Try.isAgg29 Try.sizeOf29 us (cells2 (B3.cell rfl) (B3.cell rfl)) rfl ?_)
      refine WL.cons rfl (st_fieldAddr (f := 1) (k := 0) (un (un (un r3))) Try.underlying33 rfl rfl Try.sizeOf3 ?_)
      refine WL.cons rfl (st_load1 Try.isAgg3 us (B3.cell rfl) ?_)
      refine WL.cons rfl (st_call3 ent32 (un (un (un (un us)))) (un (un us)) us (((lose_ok _ h hk k.l k.i)).mono ?_))
      intro vt w4 ⟨hvt, ht⟩; subst hvt; replace ht := NetTo.ahead hu ht
      refine WL.cons rfl (st_assign uc ?_)
      refine WL.cons rfl (st_assign uc ?_)
      refine WL.cons rfl (st_assign (un (un us)) ?_)
      refine WL.nil ?_
      refine W.gen ?_; intro ρ7 hρ
      have q4 := (hρ 4).trans (un (un us)); have q5 := (hρ 5).trans (un us); have q6 := (hρ 6).trans us
      clear hρ r0 r11 r24 r3
      have r4 := q4; clear q4; have r5 := q5; clear q5; have r6 := q6; clear q6
      refine W.ret ?_
      refine fin3 r4 r5 r6 ?_
      have hd : s.does k = ((s.lose k.l k.i).1, none, (s.lose k.l k.i).2) := by unfold NetS.does; rw [if_neg ho, if_pos hc5]
      rw [hd]; exact ⟨_, rfl, ht.noRowY⟩
    · skip
      try simp only [tests] at hc5
      refine W.seqR ?_
      refine WL.cons rfl (st_eql r11 uc ?_)
      refine WL.cons rfl (st_assign us ?_)
      refine WL.nil ?_
      refine W.gen ?_; intro ρ8 hρ
      have q0 := (hρ 0).trans (un (un r0)); have q3 := (hρ 3).trans (un (un r3)); have q11 := (hρ 11).trans (un (un r11)); have q32 := (hρ 32).trans us
      clear hρ r0 r11 r24 r3
      have r0 := q0; clear q0; have r3 := q3; clear q3; have r11 := q11; clear q11; have r32 := q32; clear q32
      refine W.cond r32 (fun hc7 => ?_) (fun hc7 => ?_)
      · skip
        try simp only [tests] at hc7
        refine W.seqR ?_
        refine WL.cons rfl (st_move r0 ?_)
        refine WL.cons rfl (st_fieldAddr (f := 2) (k := 1) (un r3) Try.underlying33 rfl rfl Try.sizeOf29 ?_)
        refine WL.cons rfl (st_loadK Try.isAgg29 Try.sizeOf29 us (cells2 (B3.cell rfl) (B3.cell rfl)) rfl ?_)
        refine WL.cons rfl (st_fieldAddr (f := 1) (k := 0) (un (un (un r3))) Try.underlying33 rfl rfl Try.sizeOf3 ?_)
        refine WL.cons rfl (st_load1 Try.isAgg3 us (B3.cell rfl) ?_)
        refine WL.cons rfl (st_call3 ent33 (un (un (un (un us)))) (un (un us)) us (((double_ok _ h hk k.l k.i)).mono ?_))
        intro vt w5 ⟨hvt, ht⟩; subst hvt; replace ht := NetTo.ahead hu ht
        refine WL.cons rfl (st_assign uc ?_)
        refine WL.cons rfl (st_assign uc ?_)
        refine WL.cons rfl (st_assign (un (un us)) ?_)
        refine WL.nil ?_
        refine W.gen ?_; intro ρ9 hρ
        have q4 := (hρ 4).trans (un (un us)); have q5 := (hρ 5).trans (un us); have q6 := (hρ 6).trans us
        clear hρ r0 r11 r3 r32
        have r4 := q4; clear q4; have r5 := q5; clear q5; have r6 := q6; clear q6
        refine W.ret ?_
        refine fin3 r4 r5 r6 ?_
        have hd : s.does k = ((s.double k.l k.i).1, none, (s.double k.l k.i).2) := by unfold NetS.does; rw [if_neg ho, if_neg hc5, if_pos hc7]
        rw [hd]; exact ⟨_, rfl, ht.noRowY⟩
      · skip
        try simp only [tests] at hc7
        refine W.seqR ?_
        refine WL.cons rfl (st_eql r11 uc ?_)
        refine WL.cons rfl (st_assign us ?_)
        refine WL.nil ?_
        refine W.gen ?_; intro ρ10 hρ
        have q0 := (hρ 0).trans (un (un r0)); have q3 := (hρ 3).trans (un (un r3)); have q11 := (hρ 11).trans (un (un r11)); have q40 := (hρ 40).trans us
        clear hρ r0 r11 r3 r32
        have r0 := q0; clear q0; have r3 := q3; clear q3; have r11 := q11; clear q11; have r40 := q40; clear q40
        refine W.cond r40 (fun hc9 => ?_) (fun hc9 => ?_)
        · skip
          try simp only [tests] at hc9
          refine W.seqR ?_
          refine WL.cons rfl (st_move r0 ?_)
          refine WL.cons rfl (st_fieldAddr (f := 4) (k := 0) (un r3) Try.underlying33 rfl rfl Try.sizeOf31 ?_)
          refine WL.cons rfl (st_load1 Try.isAgg31 us (B3.cell rfl) ?_)
          refine WL.cons rfl (st_call2 ent30 (un (un us)) us (((wall_ok _ h k.side)).mono ?_))
          intro vt w6 ⟨hvt, ht⟩; subst hvt; replace ht := NetTo.ahead hu ht
          refine WL.cons rfl (st_assign uc ?_)
          refine WL.cons rfl (st_assign uc ?_)
          refine WL.cons rfl (st_assign (un (un us)) ?_)
          refine WL.nil ?_
          refine W.gen ?_; intro ρ11 hρ
          have q4 := (hρ 4).trans (un (un us)); have q5 := (hρ 5).trans (un us); have q6 := (hρ 6).trans us
          clear hρ r0 r11 r3 r40
          have r4 := q4; clear q4; have r5 := q5; clear q5; have r6 := q6; clear q6
          refine W.ret ?_
          refine fin3 r4 r5 r6 ?_
          have hd : s.does k = ({ s with side := k.side }, none, 0) := by unfold NetS.does; rw [if_neg ho, if_neg hc5, if_neg hc7, if_pos hc9]
          rw [hd]; exact ⟨_, rfl, ht.noRowY⟩
        · skip
          try simp only [tests] at hc9
          refine W.seqR ?_
          refine WL.cons rfl (st_eql r11 uc ?_)
          refine WL.cons rfl (st_assign us ?_)
          refine WL.nil ?_
          refine W.gen ?_; intro ρ12 hρ
          have q0 := (hρ 0).trans (un (un r0)); have q3 := (hρ 3).trans (un (un r3)); have q46 := (hρ 46).trans us
          clear hρ r0 r11 r3 r40
          have r0 := q0; clear q0; have r3 := q3; clear q3; have r46 := q46; clear q46
          refine W.cond r46 (fun hc11 => ?_) (fun hc11 => ?_)
          · skip
            try simp only [tests] at hc11
            refine W.seqR ?_
            refine WL.cons rfl (st_move r0 ?_)
            refine WL.cons rfl (st_fieldAddr (f := 1) (k := 0) (un r3) Try.underlying33 rfl rfl Try.sizeOf3 ?_)
            refine WL.cons rfl (st_load1 Try.isAgg3 us (B3.cell rfl) ?_)
            refine WL.cons rfl (st_call2 ent34 (un (un us)) us (((forget_ok _ h k.i)).mono ?_))
            intro vt w7 ⟨hvt, ht⟩; subst hvt; replace ht := NetTo.ahead hu ht
            refine WL.cons rfl (st_assign uc ?_)
            refine WL.cons rfl (st_assign uc ?_)
            refine WL.cons rfl (st_assign (un (un us)) ?_)
            refine WL.nil ?_
            refine W.gen ?_; intro ρ13 hρ
            have q4 := (hρ 4).trans (un (un us)); have q5 := (hρ 5).trans (un us); have q6 := (hρ 6).trans us
            clear hρ r0 r3 r46
            have r4 := q4; clear q4; have r5 := q5; clear q5; have r6 := q6; clear q6
            refine W.ret ?_
            refine fin3 r4 r5 r6 ?_
            have hd : s.does k = (s.forget k.i, none, 0) := by unfold NetS.does; rw [if_neg ho, if_neg hc5, if_neg hc7, if_neg hc9, if_pos hc11]
            rw [hd]; exact ⟨_, rfl, ht.noRowY⟩
          · skip
            try simp only [tests] at hc11
            refine W.skip ?_
            refine W.seqR ?_
            refine WL.cons rfl (st_move r0 ?_)
            refine WL.cons rfl (st_fieldAddr (f := 2) (k := 1) (un r3) Try.underlying33 rfl rfl Try.sizeOf29 ?_)
            refine WL.cons rfl (st_loadK Try.isAgg29 Try.sizeOf29 us (cells2 (B3.cell rfl) (B3.cell rfl)) rfl ?_)
            refine WL.cons rfl (st_fieldAddr (f := 3) (k := 0) (un (un (un r3))) Try.underlying33 rfl rfl Try.sizeOf30 ?_)
            refine WL.cons rfl (st_load1 Try.isAgg30 us (B3.cell rfl) ?_)
            refine WL.cons rfl (st_call3 ent28 (un (un (un (un us)))) (un (un us)) us (((send_ok _ h hk k.l hb)).mono ?_))
            intro vt w8 ⟨hvt, ht⟩; subst hvt; replace ht := NetTo.ahead hu ht
            refine WL.cons rfl (st_assign uc ?_)
            refine WL.cons rfl (st_assign uc ?_)
            refine WL.cons rfl (st_assign (un (un us)) ?_)
            refine WL.nil ?_
            refine W.gen ?_; intro ρ14 hρ
            have q4 := (hρ 4).trans (un (un us)); have q5 := (hρ 5).trans (un us); have q6 := (hρ 6).trans us
            clear hρ r0 r3 r46
            have r4 := q4; clear q4; have r5 := q5; clear q5; have r6 := q6; clear q6
            refine W.ret ?_
            refine fin3 r4 r5 r6 ?_
            have hd : s.does k = ((s.send k.l k.b).1, none, (s.send k.l k.b).2) := by unfold NetS.does; rw [if_neg ho, if_neg hc5, if_neg hc7, if_neg hc9, if_neg hc11]
            rw [hd]; exact ⟨_, rfl, ht.noRowY⟩

end Go.Proofs.Ytppohfgaegahoaa

namespace Go.Proofs.Ytppohfgaegahoaa
open Go.Tw Go.RowKit
attribute [local irreducible] Step WL W WQ Does

/-- towline towlinelaw04.LinksPlays -/
theorem plays_walk {v : Value} (l : List DoS) (pi : Int) (w : World) (hv : RDos (fun b => b < w.heap.size) w v l) (hn : l.length ≤ 9223372036854775807) (hsl : ∀ d ∈ l, SideOk d) : Does Try.prog 6 #[v, .int .i64 pi] w (fun v' w' => v' = .bool true ∧ Up w w') := by
  obtain ⟨o, cap, hv0⟩ := hv.shape
  refine fn_of_W (rs := [4]) (N := 160) Try.func6 rfl rfl rfl (by simp) ?_
  intro ρ0 hρ0
  have r0 : ev ρ0 (.tmp 0) = v := hρ0 0
  have r1 : ev ρ0 (.tmp 1) = .int .i64 pi := hρ0 1
  clear hρ0
  have hu := Up.refl w
  subst hv0
  refine W.seqR ?_
  refine WL.cons rfl (st_assign uc ?_)
  refine WL.nil ?_
  refine W.gen ?_; intro ρ1 hρ
  have q0 := (hρ 0).trans (un r0); have q1 := (hρ 1).trans (un r1)
  clear hρ r0 r1
  have r0 := q0; clear q0; have r1 := q1; clear q1
  refine W.seq ?_
  refine W.seqR ?_
  refine WL.cons rfl (st_move r0 ?_)
  refine WL.cons rfl (st_build1 us Try.underlying70 info22 rfl rfl ?_)
  intro b1 w1 m1; have hrl : RL AnyB w1 _ [l] := ⟨_, made_sl (cells := [_]) m1 rfl trivial, ((hv.mono0).up m1.up), trivial⟩; replace hu := hu.trans m1.up; clear m1
  refine WL.cons rfl (st_call1 ent10 us (((short2_ok [l] _ hrl (by simp) (by simpa using hn))).mono ?_))
  intro vs w2 ⟨t, hvs, us1, hsh⟩; subst hvs; replace hu := hu.trans us1; clear hrl us1
  refine WL.cons rfl (st_not us ?_)
  refine WL.nil ?_
  refine W.gen ?_; intro ρ2 hρ
  have q0 := (hρ 0).trans (un (un (un (un r0)))); have q1 := (hρ 1).trans (un (un (un (un r1)))); have q24 := (hρ 24).trans us
  clear hρ r0 r1
  have r0 := q0; clear q0; have r1 := q1; clear q1; have r24 := q24; clear q24
  refine W.cond r24 (fun hc1 => ?_) (fun hc1 => ?_)
  · skip
    try simp only [tests] at hc1
    refine W.seqR ?_
    refine WL.cons rfl (st_call0 ent11  (((awake_ok _)).mono ?_))
    intro va w3 ⟨hva, ua⟩; subst hva; replace hu := hu.trans ua
    refine WL.cons rfl (st_assign us ?_)
    refine WL.nil ?_
    refine W.gen ?_; intro ρ3 hρ
    have q4 := (hρ 4).trans us
    clear hρ r0 r1 r24
    have r4 := q4; clear q4
    refine W.ret ?_
    refine fin1 r4 ?_
    exact ⟨rfl, hu⟩
  · skip
    try simp only [tests] at hc1
    have hsh2 := (hsh (by simpa using hc1) l (by simp)).2
    refine W.skip ?_
    refine W.seqR ?_
    refine WL.cons rfl (st_call0 ent12  (((new_ok _)).mono ?_))
    intro vn w4 ⟨bn, bm, hvn, hbn, hbm, uN, h⟩; subst hvn; have hsN := hu.size; replace hu := hu.trans uN; replace hbn : w.heap.size ≤ bn := by omega
    replace hbm : w.heap.size ≤ bm := by omega
    refine WL.cons rfl (st_buildP0 (v := .agg (refC (.slice none 0 0) ⟨[], fun _ => false, 0⟩).toArray) (fun w => by kernel_rfl) ?_)
    have hbl := h.blk.lt; have hml := h.map.lt
    refine WL.cons rfl (st_box us ?_)
    intro b28 w5 m28; have B28 := m28.blk
    replace h := h.up m28.up
    replace hu := hu.trans m28.up
    refine WL.cons rfl (st_assign (un (un us)) ?_)
    refine WL.cons rfl (st_assign (un us) ?_)
    refine WL.nil ?_
    refine W.gen ?_; intro ρ4 hρ
    have q0 := (hρ 0).trans (un (un (un (un (un r0))))); have q1 := (hρ 1).trans (un (un (un (un (un r1))))); have q5 := (hρ 5).trans (un us); have q6 := (hρ 6).trans us
    clear hρ r0 r1 r24
    have r0 := q0; clear q0; have r1 := q1; clear q1; have r5 := q5; clear q5; have r6 := q6; clear q6
    have hbx := m28.at_
    have hp := new_pair h B28 (by omega) (by omega)
    replace hbx : w.heap.size ≤ b28 := by omega
    clear h hbl hml B28 m28
    refine W.seq ?_
    refine W.seqR ?_
    refine WL.cons rfl (st_move r0 ?_)
    refine WL.cons rfl (st_lenS us Try.underlying22 ?_)
    refine WL.cons rfl (st_move uc ?_)
    refine WL.nil ?_
    refine W.gen ?_; intro ρ5 hρ
    have q1 := (hρ 1).trans (un (un (un r1))); have q5 := (hρ 5).trans (un (un (un r5))); have q6 := (hρ 6).trans (un (un (un r6))); have q29 := (hρ 29).trans (un (un us))
    have q30 := (hρ 30).trans (un us); have q31 := (hρ 31).trans us
    clear hρ r0 r1 r5 r6
    have r1 := q1; clear q1; have r5 := q5; clear q5; have r6 := q6; clear q6; have r29 := q29; clear q29; have r30 := q30; clear q30; have r31 := q31; clear q31
    refine W.block ?_
    refine W.loop (fun nn ρ' w' => ∃ i : Nat, ev ρ' (.tmp 31) = .int .i64 (i : Int) ∧ ev ρ' (.tmp 1) = ev ρ5 (.tmp 1) ∧ ev ρ' (.tmp 5) = ev ρ5 (.tmp 5) ∧ ev ρ' (.tmp 6) = ev ρ5 (.tmp 6) ∧ ev ρ' (.tmp 29) = ev ρ5 (.tmp 29) ∧ ev ρ' (.tmp 30) = ev ρ5 (.tmp 30) ∧ i + nn = l.length ∧ LoopQ w bn bm b28 w') (l.length) ?_ ?_
    · exact ⟨0, (by first | exact r31 | (refine r31.trans ?_; congr 1; omega) | (refine r31.trans ?_; simp)), rfl, rfl, rfl, rfl, rfl, by omega, ⟨hu, _, _, _, _, hp⟩⟩
    intro nn ρ6 w6 ⟨i, q31, q1, q5, q6, q29, q30, hi, hL⟩
    have s1 := q1; replace q1 := q1.trans r1
    have s5 := q5; replace q5 := q5.trans r5
    have s6 := q6; replace q6 := q6.trans r6
    have s29 := q29; replace q29 := q29.trans r29
    have s30 := q30; replace q30 := q30.trans r30
    clear r1 r29 r30 r31 r5 r6
    have r31 := q31; clear q31; have r1 := q1; clear q1; have r5 := q5; clear q5; have r6 := q6; clear q6; have r29 := q29; clear q29; have r30 := q30; clear q30
    clear hp; clear hu; obtain ⟨hu, Sa, Sx, s, x, hp⟩ := hL
    have hk := hp.ok
    have x0_1 := s1.symm.trans r1; clear s1
    have x0_5 := s5.symm.trans r5; clear s5
    have x0_6 := s6.symm.trans r6; clear s6
    have x0_29 := s29.symm.trans r29; clear s29
    have x0_30 := s30.symm.trans r30; clear s30
    refine W.seqR ?_
    refine WL.cons rfl (st_lss r31 r30 ?_)
    refine WL.nil ?_
    refine W.gen ?_; intro ρ7 hρ
    have q1 := (hρ 1).trans (un r1); have q5 := (hρ 5).trans (un r5); have q6 := (hρ 6).trans (un r6); have q29 := (hρ 29).trans (un r29)
    have q30 := (hρ 30).trans (un r30); have q31 := (hρ 31).trans (un r31); have q32 := (hρ 32).trans us
    clear hρ r1 r29 r30 r31 r5 r6
    have r1 := q1; clear q1; have r5 := q5; clear q5; have r6 := q6; clear q6; have r29 := q29; clear q29; have r30 := q30; clear q30; have r31 := q31; clear q31; have r32 := q32; clear q32
    refine W.seq ?_
    refine W.cond r32 (fun hc5 => ?_) (fun hc5 => ?_)
    · skip
      try simp only [tests] at hc5
      obtain ⟨mr, rfl⟩ : ∃ mr, nn = mr + 1 := ⟨nn - 1, by omega⟩
      obtain ⟨kb, koff, d, vb, rfl, hkk, hcs, hvb⟩ := (hv.up hu).at (j := i) (by omega)
      have hbl := hp.net.blk.lt; have hml := hp.net.map.lt; have hxl := hp.ref.lt
      have hSo := fun b hb => (hp.net.old b hb).1
      have hSxo := hp.ref.old
      have hso := hsl d (List.mem_of_getElem? hkk)
      have hdl := hsh2 d (List.mem_of_getElem? hkk)
      have hwk := hu.size
      refine W.skip ?_
      refine W.seq ?_
      refine W.block ?_
      refine W.seqR ?_
      refine WL.cons rfl (st_indexAddrS r29 r31 Try.underlying22 Try.sizeOf33 (by omega) (by omega) ?_)
      refine WL.cons rfl (st_loadK Try.isAgg33 Try.sizeOf33 us (hcs) rfl ?_)
      refine WL.allocStore (v := .agg (doCells d vb).toArray) rfl (fun _ => un us) Try.zeroValue33 Try.sizeOf33 rfl (by first | rfl | kernel_rfl) (by first | exact ekL_one _ | exact do_one hvb _ | exact it3_one _ | simp [Value.cells, Value.oneCell']) ?_
      intro b8 w7 m8; have B8 := m8.blk
      replace hp := hp.up m8.up
      replace hu := hu.trans m8.up
      replace hvb := hvb.up m8.up
      refine WL.nil ?_
      refine W.gen ?_; intro ρ8 hρ
      have q1 := (hρ 1).trans (un0 (un (un (un r1)))); have q5 := (hρ 5).trans (un0 (un (un (un r5)))); have q6 := (hρ 6).trans (un0 (un (un (un r6)))); have q8 := (hρ 8).trans (un0 us)
      have q29 := (hρ 29).trans (un0 (un (un (un r29)))); have q30 := (hρ 30).trans (un0 (un (un (un r30)))); have q31 := (hρ 31).trans (un0 (un (un (un r31))))
      clear hρ r1 r29 r30 r31 r32 r5 r6
      have r1 := q1; clear q1; have r5 := q5; clear q5; have r6 := q6; clear q6; have r8 := q8; clear q8; have r29 := q29; clear q29; have r30 := q30; clear q30; have r31 := q31; clear q31
      refine W.seqR ?_
      refine WL.cons rfl (st_loadK Try.isAgg33 Try.sizeOf33 r8 (B8.row) rfl ?_)
      refine WL.allocStore (v := .agg (doCells d vb).toArray) rfl (fun _ => un us) Try.zeroValue33 Try.sizeOf33 rfl (by first | rfl | kernel_rfl) (by first | exact ekL_one _ | exact do_one hvb _ | exact it3_one _ | simp [Value.cells, Value.oneCell']) ?_
      intro b9 w8 m9; have B9 := m9.blk
      have n8_9 : b8 ≠ b9 := by have := B8.lt; have := m9.at_; omega
      replace hp := hp.up m9.up
      replace B8 := B8.up m9.up
      replace hu := hu.trans m9.up
      replace hvb := hvb.up m9.up
      have ha8 := m8.at_; have ha9 := m9.at_; have hs8 := m8.size; have hs9 := m9.size
      refine WL.nil ?_
      refine W.gen ?_; intro ρ9 hρ
      have q1 := (hρ 1).trans (un0 (un (un r1))); have q5 := (hρ 5).trans (un0 (un (un r5))); have q6 := (hρ 6).trans (un0 (un (un r6))); have q8 := (hρ 8).trans (un0 (un (un r8)))
      have q9 := (hρ 9).trans (un0 us); have q29 := (hρ 29).trans (un0 (un (un r29))); have q30 := (hρ 30).trans (un0 (un (un r30))); have q31 := (hρ 31).trans (un0 (un (un r31)))
      clear hρ r1 r29 r30 r31 r5 r6 r8
      have r1 := q1; clear q1; have r5 := q5; clear q5; have r6 := q6; clear q6; have r8 := q8; clear q8; have r9 := q9; clear q9; have r29 := q29; clear q29; have r30 := q30; clear q30; have r31 := q31; clear q31
      refine W.seqR ?_
      refine WL.cons rfl (st_fieldAddr (f := 3) (k := 0) r8 Try.underlying33 rfl rfl Try.sizeOf30 ?_)
      refine WL.cons rfl (st_load1 Try.isAgg30 us (B8.cell rfl) ?_)
      refine WL.cons rfl (st_call1 ent18 us (((clone_ok _ hvb (byteV_one _) (by omega))).mono ?_))
      intro vg w9 ⟨hog, ug⟩; obtain ⟨bg, hbg⟩ : ∃ bg, bg = w8.heap.size := ⟨_, rfl⟩
      have hg : OB bg w9 vg d.b := by rw [hbg]; exact hog
      clear hog; replace hvb := hvb.up ug
      replace hp := hp.up ug
      replace B8 := B8.up ug
      replace B9 := B9.up ug
      replace hu := hu.trans ug
      refine WL.cons rfl (st_fieldAddr (f := 3) (k := 0) (un (un (un r9))) Try.underlying33 rfl rfl Try.sizeOf30 ?_)
      obtain ⟨og, cg, hvg, hcg, _⟩ := Own.slice hg
      subst hvg
      refine WL.cons rfl (st_store1 (cur := doCells d vb) us (un us) Try.sizeOf30 B9 (by simp [doCells]) rfl rfl ?_)
      intro w10 hb9 hf9 _
      replace B9 : Blk w10 b9 (.cells (doCells d (.slice og d.b.length cg)).toArray 33) := hb9
      replace B8 := B8.frm hf9 (fun e => n8_9 e); replace hg : OB _ _ _ _ := Own.frm hg hf9 (fun b hb e => by have e : b = b9 := e; have := (Own.block hg b hb).1; omega)
      replace hp := hp.apart hf9 (fun k _ e => by have e : k = b9 := e; exact ⟨fun h => by have := hSo k h; omega, fun h => by have := hSxo k h; omega, by omega, by omega, by omega⟩)
      replace hu := Up.local hu hf9 (by omega)
      replace hvb := hvb.frm hf9 (fun b hb e => by have hb : b < w.heap.size := hb; have e : b = b9 := e; omega)
      refine WL.nil ?_
      refine W.gen ?_; intro ρ10 hρ
      have q1 := (hρ 1).trans (un0 (un (un (un (un r1))))); have q5 := (hρ 5).trans (un0 (un (un (un (un r5))))); have q6 := (hρ 6).trans (un0 (un (un (un (un r6))))); have q8 := (hρ 8).trans (un0 (un (un (un (un r8)))))
      have q9 := (hρ 9).trans (un0 (un (un (un (un r9))))); have q29 := (hρ 29).trans (un0 (un (un (un (un r29))))); have q30 := (hρ 30).trans (un0 (un (un (un (un r30))))); have q31 := (hρ 31).trans (un0 (un (un (un (un r31)))))
      clear hρ r1 r29 r30 r31 r5 r6 r8 r9
      have r1 := q1; clear q1; have r5 := q5; clear q5; have r6 := q6; clear q6; have r8 := q8; clear q8; have r9 := q9; clear q9; have r29 := q29; clear q29; have r30 := q30; clear q30; have r31 := q31; clear q31
      refine W.seqR ?_
      refine WL.cons rfl (st_move r5 ?_)
      refine WL.cons rfl (st_loadK Try.isAgg33 Try.sizeOf33 (un r9) (B9.row) rfl ?_)
      refine WL.cons rfl (st_call2 ent13 (un us) us (((doesY_ok _ hp.net hk d (OB.rb hg))).mono ?_))
      intro vd w11 ⟨u, hvd, hty⟩; subst hvd
      obtain ⟨S2, hm, hou, hnu⟩ := hp.midY hty
      have hk2 := hk.does d
      have hfr := hm.frm
      obtain ⟨bu, hbu⟩ : ∃ bu, bu = w10.heap.size := ⟨_, rfl⟩
      rw [← hbu] at hou
      have hgu : ∀ b, (Value.slice og d.b.length cg).ownBlock = some b → bg ≤ b ∧ b < bu := fun b hb => by rw [hbu]; exact Own.block hg b hb
      have hSg : ∀ b, (Value.slice og d.b.length cg).ownBlock = some b → ¬ S2 b := fun b hb hs => by
        have := hgu b hb
        rcases hm.sub b hs with e | e
        · have := hSo b e; omega
        · omega
      have h9u := B9.lt
      rw [← hbu] at h9u
      replace hu := (Frm.trans' (X := NoB) hu.frm hfr fun i hi he => by rcases he with e | e <;> omega).up
      replace B8 := B8.frm hfr (fun e => by rcases e with e | e <;> omega)
      replace B9 := B9.frm hfr (fun e => by rcases e with e | e <;> omega)
      replace hvb := hvb.frm hfr (fun b hb e => by have hb : b < w.heap.size := hb; rcases e with e | e <;> omega)
      replace hg : OB _ _ _ _ := Own.frm hg hfr (fun b hb e => by have := hgu b hb; rcases e with e | e <;> omega)
      refine WL.cons rfl (st_move us ?_)
      refine WL.cons rfl (st_extract us rfl ?_)
      refine WL.cons rfl (st_extract (un us) rfl ?_)
      refine WL.cons rfl (st_extract (un (un us)) rfl ?_)
      refine WL.cons rfl (st_assign (un (un us)) ?_)
      refine WL.cons rfl (st_assign (un (un us)) ?_)
      refine WL.cons rfl (st_assign (un (un us)) ?_)
      refine WL.nil ?_
      refine W.gen ?_; intro ρ11 hρ
      have q1 := (hρ 1).trans (un (un (un (un (un (un (un (un (un (un r1)))))))))); have q5 := (hρ 5).trans (un (un (un (un (un (un (un (un (un (un r5)))))))))); have q6 := (hρ 6).trans (un (un (un (un (un (un (un (un (un (un r6)))))))))); have q8 := (hρ 8).trans (un (un (un (un (un (un (un (un (un (un r8))))))))))
      have q9 := (hρ 9).trans (un (un (un (un (un (un (un (un (un (un r9)))))))))); have q10 := (hρ 10).trans (un (un us)); have q11 := (hρ 11).trans (un us); have q12 := (hρ 12).trans us
      have q29 := (hρ 29).trans (un (un (un (un (un (un (un (un (un (un r29)))))))))); have q30 := (hρ 30).trans (un (un (un (un (un (un (un (un (un (un r30)))))))))); have q31 := (hρ 31).trans (un (un (un (un (un (un (un (un (un (un r31))))))))))
      clear hρ r1 r29 r30 r31 r5 r6 r8 r9
      have r1 := q1; clear q1; have r5 := q5; clear q5; have r6 := q6; clear q6; have r8 := q8; clear q8; have r9 := q9; clear q9; have r10 := q10; clear q10; have r11 := q11; clear q11; have r12 := q12; clear q12; have r29 := q29; clear q29; have r30 := q30; clear q30; have r31 := q31; clear q31
      refine W.seqR ?_
      refine WL.cons rfl (st_move r6 ?_)
      refine WL.cons rfl (st_loadK Try.isAgg33 Try.sizeOf33 (un r8) (B8.row) rfl ?_)
      refine WL.cons rfl (st_call2 ent19 (un us) us (((also_ok _ hm.ref hp.few hp.fits d hso hvb)).mono ?_))
      intro va w12 ⟨hva, hra⟩
      obtain ⟨hsa, hsm⟩ := same_also hk hp.same d
      replace hva : va = tkV (s.does d).2.1 (s.does d).2.2 := by rw [hva, hsa]
      subst hva
      have huw := fun b hb => (Own.block hou b hb)
      obtain ⟨hf2, Sx2, hp2, hsx2⟩ := hm.pair hp hk2 hra hsm
      have hSxg : ∀ b, (Value.slice og d.b.length cg).ownBlock = some b → ¬ Sx2 b := fun b hb hs => by
        have := hgu b hb; have := hfr.size
        rcases hsx2 b hs with e | e
        · have := hSxo b e; omega
        · omega
      have hSxu : ∀ b, u.ownBlock = some b → ¬ Sx2 b := fun b hb hs => by
        have := huw b hb
        rcases hsx2 b hs with e | e
        · have := hSxo b e; omega
        · omega
      replace hu := (Frm.trans' (X := NoB) hu.frm hf2 fun i hi he => by have e : i = b28 := he; omega).up
      replace B8 := B8.frm hf2 (fun e => by have e : b8 = b28 := e; omega)
      replace B9 := B9.frm hf2 (fun e => by have e : b9 = b28 := e; omega)
      replace hg : OB _ _ _ _ := Own.frm hg hf2 (fun b hb e => by have := hgu b hb; have e : b = b28 := e; omega)
      replace hou : OB _ _ _ _ := Own.frm hou hf2 (fun b hb e => by have := huw b hb; have e : b = b28 := e; omega)
      have hng : ∀ b, (Value.slice og d.b.length cg).ownBlock = some b → ¬ S2 b ∧ ¬ Sx2 b ∧ b ≠ bn ∧ b ≠ bm ∧ b ≠ b28 ∧ w.heap.size ≤ b := fun b hb => by
        have := hgu b hb
        exact ⟨hSg b hb, hSxg b hb, by omega, by omega, by omega, by omega⟩
      have hnw : ∀ b, u.ownBlock = some b → ¬ S2 b ∧ ¬ Sx2 b ∧ b ≠ bn ∧ b ≠ bm ∧ b ≠ b28 ∧ w.heap.size ≤ b := fun b hb => by
        have := huw b hb
        exact ⟨hnu b hb, hSxu b hb, by omega, by omega, by omega, by omega⟩
      have hug : ∀ b, u.ownBlock = some b → bu ≤ b := fun b hb => (huw b hb).1
      clear hp hm; have hp := hp2; clear hp2 hfr hvb huw
      refine WL.cons rfl (st_move us ?_)
      refine WL.cons rfl (st_extract us rfl ?_)
      refine WL.cons rfl (st_extract (un us) rfl ?_)
      refine WL.cons rfl (st_extract (un (un us)) rfl ?_)
      refine WL.cons rfl (st_assign (un (un us)) ?_)
      refine WL.cons rfl (st_assign (un (un us)) ?_)
      refine WL.cons rfl (st_assign (un (un us)) ?_)
      refine WL.nil ?_
      refine W.gen ?_; intro ρ12 hρ
      have q1 := (hρ 1).trans (un (un (un (un (un (un (un (un (un (un r1)))))))))); have q5 := (hρ 5).trans (un (un (un (un (un (un (un (un (un (un r5)))))))))); have q6 := (hρ 6).trans (un (un (un (un (un (un (un (un (un (un r6)))))))))); have q8 := (hρ 8).trans (un (un (un (un (un (un (un (un (un (un r8))))))))))
      have q9 := (hρ 9).trans (un (un (un (un (un (un (un (un (un (un r9)))))))))); have q10 := (hρ 10).trans (un (un (un (un (un (un (un (un (un (un r10)))))))))); have q11 := (hρ 11).trans (un (un (un (un (un (un (un (un (un (un r11)))))))))); have q12 := (hρ 12).trans (un (un (un (un (un (un (un (un (un (un r12))))))))))
      have q13 := (hρ 13).trans (un (un us)); have q14 := (hρ 14).trans (un us); have q15 := (hρ 15).trans us; have q29 := (hρ 29).trans (un (un (un (un (un (un (un (un (un (un r29))))))))))
      have q30 := (hρ 30).trans (un (un (un (un (un (un (un (un (un (un r30)))))))))); have q31 := (hρ 31).trans (un (un (un (un (un (un (un (un (un (un r31))))))))))
      clear hρ r1 r10 r11 r12 r29 r30 r31 r5 r6 r8 r9
      have r1 := q1; clear q1; have r5 := q5; clear q5; have r6 := q6; clear q6; have r8 := q8; clear q8; have r9 := q9; clear q9; have r10 := q10; clear q10; have r11 := q11; clear q11; have r12 := q12; clear q12; have r13 := q13; clear q13; have r14 := q14; clear q14; have r15 := q15; clear q15; have r29 := q29; clear q29; have r30 := q30; clear q30; have r31 := q31; clear q31
      refine W.seq ?_
      refine W.seqR ?_
      refine WL.cons rfl (st_fieldAddr (f := 3) (k := 0) r9 Try.underlying33 rfl rfl Try.sizeOf30 ?_)
      refine WL.cons rfl (st_load1 Try.isAgg30 us (B9.cell rfl) ?_)
      refine WL.cons rfl (st_lenS us Try.underlying30 ?_)
      refine WL.cons rfl (st_move uc ?_)
      refine WL.nil ?_
      refine W.gen ?_; intro ρ13 hρ
      have q1 := (hρ 1).trans (un (un (un (un r1)))); have q5 := (hρ 5).trans (un (un (un (un r5)))); have q6 := (hρ 6).trans (un (un (un (un r6)))); have q8 := (hρ 8).trans (un (un (un (un r8))))
      have q9 := (hρ 9).trans (un (un (un (un r9)))); have q10 := (hρ 10).trans (un (un (un (un r10)))); have q11 := (hρ 11).trans (un (un (un (un r11)))); have q12 := (hρ 12).trans (un (un (un (un r12))))
      have q13 := (hρ 13).trans (un (un (un (un r13)))); have q14 := (hρ 14).trans (un (un (un (un r14)))); have q15 := (hρ 15).trans (un (un (un (un r15)))); have q29 := (hρ 29).trans (un (un (un (un r29))))
      have q30 := (hρ 30).trans (un (un (un (un r30)))); have q31 := (hρ 31).trans (un (un (un (un r31)))); have q56 := (hρ 56).trans (un us); have q57 := (hρ 57).trans us
      clear hρ r1 r10 r11 r12 r13 r14 r15 r29 r30 r31 r5 r6 r8 r9
      have r1 := q1; clear q1; have r5 := q5; clear q5; have r6 := q6; clear q6; have r8 := q8; clear q8; have r9 := q9; clear q9; have r10 := q10; clear q10; have r11 := q11; clear q11; have r12 := q12; clear q12; have r13 := q13; clear q13; have r14 := q14; clear q14; have r15 := q15; clear q15; have r29 := q29; clear q29; have r30 := q30; clear q30; have r31 := q31; clear q31; have r56 := q56; clear q56; have r57 := q57; clear q57
      refine W.block ?_
      refine W.loop (fun nn ρ' w' => ∃ j : Nat, ev ρ' (.tmp 57) = .int .i64 (j : Int) ∧ ev ρ' (.tmp 1) = ev ρ13 (.tmp 1) ∧ ev ρ' (.tmp 5) = ev ρ13 (.tmp 5) ∧ ev ρ' (.tmp 6) = ev ρ13 (.tmp 6) ∧ ev ρ' (.tmp 8) = ev ρ13 (.tmp 8) ∧ ev ρ' (.tmp 9) = ev ρ13 (.tmp 9) ∧ ev ρ' (.tmp 10) = ev ρ13 (.tmp 10) ∧ ev ρ' (.tmp 11) = ev ρ13 (.tmp 11) ∧ ev ρ' (.tmp 12) = ev ρ13 (.tmp 12) ∧ ev ρ' (.tmp 13) = ev ρ13 (.tmp 13) ∧ ev ρ' (.tmp 14) = ev ρ13 (.tmp 14) ∧ ev ρ' (.tmp 15) = ev ρ13 (.tmp 15) ∧ ev ρ' (.tmp 29) = ev ρ13 (.tmp 29) ∧ ev ρ' (.tmp 30) = ev ρ13 (.tmp 30) ∧ ev ρ' (.tmp 31) = ev ρ13 (.tmp 31) ∧ ev ρ' (.tmp 56) = ev ρ13 (.tmp 56) ∧ j + nn = d.b.length ∧ Up w w' ∧ (∃ m2 : Msg, m2.length = d.b.length ∧ OB bg w' (.slice og d.b.length cg) m2) ∧ Pair S2 Sx2 w' bn bm b28 (s.does d).1 (x.also d).1 ∧ Blk w' b8 (.cells (Value.agg (doCells d vb).toArray).cells 33) ∧ Blk w' b9 (.cells (doCells d (.slice og d.b.length cg)).toArray 33) ∧ OB bu w' u ((s.does d).2.1.getD [])) (d.b.length) ?_ ?_
      · exact ⟨0, (by first | exact r57 | (refine r57.trans ?_; congr 1; omega) | (refine r57.trans ?_; simp)), rfl, rfl, rfl, rfl, rfl, rfl, rfl, rfl, rfl, rfl, rfl, rfl, rfl, rfl, rfl, by omega, hu, ⟨_, rfl, hg⟩, hp, B8, B9, hou⟩
      intro nn ρ14 w13 ⟨j, q57, q1, q5, q6, q8, q9, q10, q11, q12, q13, q14, q15, q29, q30, q31, q56, hj, hu, hge, hp, B8, B9, hou⟩
      have s1 := q1; replace q1 := q1.trans r1
      have s5 := q5; replace q5 := q5.trans r5
      have s6 := q6; replace q6 := q6.trans r6
      have s8 := q8; replace q8 := q8.trans r8
      have s9 := q9; replace q9 := q9.trans r9
      have s10 := q10; replace q10 := q10.trans r10
      have s11 := q11; replace q11 := q11.trans r11
      have s12 := q12; replace q12 := q12.trans r12
      have s13 := q13; replace q13 := q13.trans r13
      have s14 := q14; replace q14 := q14.trans r14
      have s15 := q15; replace q15 := q15.trans r15
      have s29 := q29; replace q29 := q29.trans r29
      have s30 := q30; replace q30 := q30.trans r30
      have s31 := q31; replace q31 := q31.trans r31
      have s56 := q56; replace q56 := q56.trans r56
      clear r1 r10 r11 r12 r13 r14 r15 r29 r30 r31 r5 r56 r57 r6 r8 r9
      have r57 := q57; clear q57; have r1 := q1; clear q1; have r5 := q5; clear q5; have r6 := q6; clear q6; have r8 := q8; clear q8; have r9 := q9; clear q9; have r10 := q10; clear q10; have r11 := q11; clear q11; have r12 := q12; clear q12; have r13 := q13; clear q13; have r14 := q14; clear q14; have r15 := q15; clear q15; have r29 := q29; clear q29; have r30 := q30; clear q30; have r31 := q31; clear q31; have r56 := q56; clear q56
      have x2_1 := s1.symm.trans r1; clear s1
      have x2_5 := s5.symm.trans r5; clear s5
      have x2_6 := s6.symm.trans r6; clear s6
      have x2_8 := s8.symm.trans r8; clear s8
      have x2_9 := s9.symm.trans r9; clear s9
      have x2_10 := s10.symm.trans r10; clear s10
      have x2_11 := s11.symm.trans r11; clear s11
      have x2_12 := s12.symm.trans r12; clear s12
      have x2_13 := s13.symm.trans r13; clear s13
      have x2_14 := s14.symm.trans r14; clear s14
      have x2_15 := s15.symm.trans r15; clear s15
      have x2_29 := s29.symm.trans r29; clear s29
      have x2_30 := s30.symm.trans r30; clear s30
      have x2_31 := s31.symm.trans r31; clear s31
      have x2_56 := s56.symm.trans r56; clear s56
      refine W.seqR ?_
      refine WL.cons rfl (st_lss r57 r56 ?_)
      refine WL.nil ?_
      refine W.gen ?_; intro ρ15 hρ
      have q1 := (hρ 1).trans (un r1); have q5 := (hρ 5).trans (un r5); have q6 := (hρ 6).trans (un r6); have q8 := (hρ 8).trans (un r8)
      have q9 := (hρ 9).trans (un r9); have q10 := (hρ 10).trans (un r10); have q11 := (hρ 11).trans (un r11); have q12 := (hρ 12).trans (un r12)
      have q13 := (hρ 13).trans (un r13); have q14 := (hρ 14).trans (un r14); have q15 := (hρ 15).trans (un r15); have q29 := (hρ 29).trans (un r29)
      have q30 := (hρ 30).trans (un r30); have q31 := (hρ 31).trans (un r31); have q56 := (hρ 56).trans (un r56); have q57 := (hρ 57).trans (un r57)
      have q58 := (hρ 58).trans us
      clear hρ r1 r10 r11 r12 r13 r14 r15 r29 r30 r31 r5 r56 r57 r6 r8 r9
      have r1 := q1; clear q1; have r5 := q5; clear q5; have r6 := q6; clear q6; have r8 := q8; clear q8; have r9 := q9; clear q9; have r10 := q10; clear q10; have r11 := q11; clear q11; have r12 := q12; clear q12; have r13 := q13; clear q13; have r14 := q14; clear q14; have r15 := q15; clear q15; have r29 := q29; clear q29; have r30 := q30; clear q30; have r31 := q31; clear q31; have r56 := q56; clear q56; have r57 := q57; clear q57; have r58 := q58; clear q58
      refine W.seq ?_
      refine W.cond r58 (fun hc12 => ?_) (fun hc12 => ?_)
      · skip
        try simp only [tests] at hc12
        obtain ⟨m2, hml, hg2⟩ := hge
        obtain ⟨_, gb, hgo, hgb, hgw, hgc⟩ := OB.at hg2 (j := j) (by omega)
        obtain ⟨z1, z2, z3, z4, z5, z6⟩ := hng gb hgw
        subst hgo
        refine W.skip ?_
        refine W.seq ?_
        refine W.block ?_
        refine W.seqR ?_
        refine WL.cons rfl (st_move r57 ?_)
        refine WL.cons rfl (st_assign us ?_)
        refine WL.nil ?_
        refine W.gen ?_; intro ρ16 hρ
        have q1 := (hρ 1).trans (un (un r1)); have q5 := (hρ 5).trans (un (un r5)); have q6 := (hρ 6).trans (un (un r6)); have q8 := (hρ 8).trans (un (un r8))
        have q9 := (hρ 9).trans (un (un r9)); have q10 := (hρ 10).trans (un (un r10)); have q11 := (hρ 11).trans (un (un r11)); have q12 := (hρ 12).trans (un (un r12))
        have q13 := (hρ 13).trans (un (un r13)); have q14 := (hρ 14).trans (un (un r14)); have q15 := (hρ 15).trans (un (un r15)); have q16 := (hρ 16).trans us
        have q29 := (hρ 29).trans (un (un r29)); have q30 := (hρ 30).trans (un (un r30)); have q31 := (hρ 31).trans (un (un r31)); have q56 := (hρ 56).trans (un (un r56))
        have q57 := (hρ 57).trans (un (un r57))
        clear hρ r1 r10 r11 r12 r13 r14 r15 r29 r30 r31 r5 r56 r57 r58 r6 r8 r9
        have r1 := q1; clear q1; have r5 := q5; clear q5; have r6 := q6; clear q6; have r8 := q8; clear q8; have r9 := q9; clear q9; have r10 := q10; clear q10; have r11 := q11; clear q11; have r12 := q12; clear q12; have r13 := q13; clear q13; have r14 := q14; clear q14; have r15 := q15; clear q15; have r16 := q16; clear q16; have r29 := q29; clear q29; have r30 := q30; clear q30; have r31 := q31; clear q31; have r56 := q56; clear q56; have r57 := q57; clear q57
        refine W.endR ?_
        refine WL.cons rfl (st_fieldAddr (f := 3) (k := 0) r9 Try.underlying33 rfl rfl Try.sizeOf30 ?_)
        refine WL.cons rfl (st_load1 Try.isAgg30 us (B9.cell rfl) ?_)
        refine WL.cons rfl (st_move (un (un r16)) ?_)
        refine WL.cons rfl (st_indexAddrS (un us) us Try.underlying30 Try.sizeOf5 (by omega) (by omega) ?_)
        refine WL.cons rfl (st_load1 Try.isAgg5 us (hgc) ?_)
        refine WL.cons rfl (st_bxor us uc rfl ?_)
        refine WL.cons rfl (st_indexAddrS (un (un (un (un us)))) (un (un (un us))) Try.underlying30 Try.sizeOf5 (by omega) (by omega) ?_)
        refine WL.cons rfl (st_ownStore (j := j) us (un us) (by omega) hg2 (by omega) ?_)
        intro w14 m3 hm3 hg3 hfg _
        replace hu := Up.local hu hfg z6
        replace hp := hp.apart hfg (fun k _ e => by have e : k = gb := e; subst e; exact ⟨z1, z2, z3, z4, z5⟩)
        replace B8 := B8.frm hfg (fun e => by have e : b8 = gb := e; have := hgu gb hgw; omega)
        replace B9 := B9.frm hfg (fun e => by have e : b9 = gb := e; have := hgu gb hgw; omega)
        replace hou : OB _ _ _ _ := Own.frm hou hfg (fun b hb e => by have e : b = gb := e; have := hgu gb hgw; have := hug b hb; omega)
        refine WL.nil ?_
        refine W.endR ?_
        refine WL.cons rfl (st_add (un0 (un (un (un (un (un (un (un r57)))))))) uc (wr64 (by omega)) ?_)
        refine WL.cons rfl (st_move us ?_)
        refine WL.nil ?_
        exact ⟨nn - 1, (by omega), j + 1, (by first | exact us | (refine us.trans ?_; congr 1; omega) | (refine us.trans ?_; simp)), ((un (un (un0 (un (un (un (un (un (un (un r1)))))))))).trans x2_1.symm), ((un (un (un0 (un (un (un (un (un (un (un r5)))))))))).trans x2_5.symm), ((un (un (un0 (un (un (un (un (un (un (un r6)))))))))).trans x2_6.symm), ((un (un (un0 (un (un (un (un (un (un (un r8)))))))))).trans x2_8.symm), ((un (un (un0 (un (un (un (un (un (un (un r9)))))))))).trans x2_9.symm), ((un (un (un0 (un (un (un (un (un (un (un r10)))))))))).trans x2_10.symm), ((un (un (un0 (un (un (un (un (un (un (un r11)))))))))).trans x2_11.symm), ((un (un (un0 (un (un (un (un (un (un (un r12)))))))))).trans x2_12.symm), ((un (un (un0 (un (un (un (un (un (un (un r13)))))))))).trans x2_13.symm), ((un (un (un0 (un (un (un (un (un (un (un r14)))))))))).trans x2_14.symm), ((un (un (un0 (un (un (un (un (un (un (un r15)))))))))).trans x2_15.symm), ((un (un (un0 (un (un (un (un (un (un (un r29)))))))))).trans x2_29.symm), ((un (un (un0 (un (un (un (un (un (un (un r30)))))))))).trans x2_30.symm), ((un (un (un0 (un (un (un (un (un (un (un r31)))))))))).trans x2_31.symm), ((un (un (un0 (un (un (un (un (un (un (un r56)))))))))).trans x2_56.symm), by omega, hu, ⟨m3, by omega, hg3⟩, hp, B8, B9, hou⟩
      · skip
        try simp only [tests] at hc12
        refine W.exit ?_
        refine exitHere ?_
        refine W.seq ?_
        obtain ⟨vi, hbk, hslx, hroom⟩ := hp.ref.blk
        have hlost := hp.same.lost
        refine W.quietR mixed 34 (by kernel_rfl) ?_
        refine WQ.cons (fun w' hq => st_move r10 ⟨rfl, Up.refl _⟩) ?_
        refine WQ.cons (fun w' hq => st_string us (OB.rb (hou.up hq)) Try.underlying30 Try.underlying5 Try.underlying9 ⟨rfl, Up.refl _⟩) ?_
        refine WQ.cons (fun w' hq => st_move (un (un r13)) ⟨rfl, Up.refl _⟩) ?_
        refine WQ.cons (fun w' hq => st_neqS (un us) us ⟨rfl, Up.refl _⟩) ?_
        refine WQ.cons (fun w' hq => st_move us ⟨rfl, Up.refl _⟩) ?_
        refine WQ.guardY rfl us (by simp) (fun w' hq => st_move (un (un (un (un (un r11))))) ⟨rfl, Up.refl _⟩) ?_
        refine WQ.guardY rfl (un us) (by simp) (fun w' hq => st_move (un (un (un (un (un (un r14)))))) ⟨rfl, Up.refl _⟩) ?_
        refine WQ.guardY rfl (un (un us)) (by simp) (fun w' hq => st_neqB (un us) us Try.underlying4 ⟨rfl, Up.refl _⟩) ?_
        refine WQ.cons (fun w' hq => st_or (un (un (un us))) (fun _ => us) uc ⟨rfl, Up.refl _⟩) ?_
        refine WQ.cons (fun w' hq => st_move us ⟨rfl, Up.refl _⟩) ?_
        refine WQ.guardY rfl us (by simp) (fun w' hq => st_move (un (un (un (un (un (un (un (un (un (un r12)))))))))) ⟨rfl, Up.refl _⟩) ?_
        refine WQ.guardY rfl (un us) (by simp) (fun w' hq => st_move (un (un (un (un (un (un (un (un (un (un (un r15))))))))))) ⟨rfl, Up.refl _⟩) ?_
        refine WQ.guardY rfl (un (un us)) (by simp) (fun w' hq => st_neq (un us) us ⟨rfl, Up.refl _⟩) ?_
        refine WQ.cons (fun w' hq => st_or (un (un (un us))) (fun _ => us) uc ⟨rfl, Up.refl _⟩) ?_
        refine WQ.cons (fun w' hq => st_move us ⟨rfl, Up.refl _⟩) ?_
        refine WQ.guardY rfl us (by simp) (fun w' hq => st_move (un (un (un (un (un (un (un (un (un (un (un (un (un (un (un r5))))))))))))))) ⟨rfl, Up.refl _⟩) ?_
        refine WQ.guardY rfl (un us) (by simp) (fun w' hq => by
            refine st_call1 ent20 us (((lost_ok _ (hp.up hq).net)).mono ?_); exact fun v w2 hv => hv) ?_
        refine WQ.guardY rfl (un (un us)) (by simp) (fun w' hq => st_move (un (un (un (un (un (un (un (un (un (un (un (un (un (un (un (un (un r6))))))))))))))))) ⟨rfl, Up.refl _⟩) ?_
        refine WQ.guardY rfl (un (un (un us))) (by simp) (fun w' hq => st_nilCheck us ⟨rfl, Up.refl _⟩) ?_
        refine WQ.guardY rfl (un (un (un (un us)))) (by simp) (fun w' hq => st_fieldAddr (f := 2) (k := 0) us Try.underlying51 rfl rfl Try.sizeOf3 ⟨rfl, Up.refl _⟩) ?_
        refine WQ.guardY rfl (un (un (un (un (un us))))) (by simp) (fun w' hq => st_load1 Try.isAgg3 us ((hbk.up hq).cell (refC_lost _ _)) ⟨rfl, Up.refl _⟩) ?_
        refine WQ.guardY rfl (un (un (un (un (un (un us)))))) (by simp) (fun w' hq => st_neq (un (un (un (un us)))) us ⟨rfl, Up.refl _⟩) ?_
        refine WQ.cons (fun w' hq => st_or (un (un (un (un (un (un (un us))))))) (fun _ => us) uc ⟨rfl, Up.refl _⟩) ?_
        refine WQ.cons (fun w' hq => st_move us ⟨rfl, Up.refl _⟩) ?_
        refine WQ.guardY rfl us (by simp [hlost]) (fun w' hq => st_move (un (un (un (un (un (un (un (un (un (un (un (un (un (un (un (un (un (un (un (un (un (un (un (un r5)))))))))))))))))))))))) ⟨rfl, Up.refl _⟩) ?_
        refine WQ.guardY rfl (un us) (by simp [hlost]) (fun w' hq => st_fieldAddr (f := 2) (k := 1) (un (un (un (un (un (un (un (un (un (un (un (un (un (un (un (un (un (un (un (un (un (un (un (un (un r8))))))))))))))))))))))))) Try.underlying33 rfl rfl Try.sizeOf29 ⟨rfl, Up.refl _⟩) ?_
        refine WQ.guardY rfl (un (un us)) (by simp [hlost]) (fun w' hq => st_loadK Try.isAgg29 Try.sizeOf29 us (cells2 ((B8.up hq).cell rfl) ((B8.up hq).cell rfl)) rfl ⟨rfl, Up.refl _⟩) ?_
        refine WQ.guardY rfl (un (un (un us))) (by simp [hlost]) (fun w' hq => by
            refine st_call2 ent16 (un (un us)) us (((len_ok _ (hp.up hq).net d.l)).mono ?_); exact fun v w2 hv => hv) ?_
        refine WQ.guardY rfl (un (un (un (un us)))) (by simp [hlost]) (fun w' hq => st_move (un (un (un (un (un (un (un (un (un (un (un (un (un (un (un (un (un (un (un (un (un (un (un (un (un (un (un (un r6)))))))))))))))))))))))))))) ⟨rfl, Up.refl _⟩) ?_
        refine WQ.guardY rfl (un (un (un (un (un us))))) (by simp [hlost]) (fun w' hq => st_fieldAddr (f := 2) (k := 1) (un (un (un (un (un (un (un (un (un (un (un (un (un (un (un (un (un (un (un (un (un (un (un (un (un (un (un (un (un r8))))))))))))))))))))))))))))) Try.underlying33 rfl rfl Try.sizeOf29 ⟨rfl, Up.refl _⟩) ?_
        refine WQ.guardY rfl (un (un (un (un (un (un us)))))) (by simp [hlost]) (fun w' hq => st_loadK Try.isAgg29 Try.sizeOf29 us (cells2 ((B8.up hq).cell rfl) ((B8.up hq).cell rfl)) rfl ⟨rfl, Up.refl _⟩) ?_
        refine WQ.guardY rfl (un (un (un (un (un (un (un us))))))) (by simp [hlost]) (fun w' hq => by
            refine st_call2 ent21 (un (un us)) us (((rlen_ok _ (hp.up hq).ref (hp.up hq).few d.l)).mono ?_); exact fun v w2 hv => hv) ?_
        refine WQ.guardY rfl (un (un (un (un (un (un (un (un us)))))))) (by simp [hlost]) (fun w' hq => st_neq (un (un (un (un us)))) us ⟨rfl, Up.refl _⟩) ?_
        refine WQ.cons (fun w' hq => st_or (un (un (un (un (un (un (un (un (un us))))))))) (fun _ => us) uc ⟨rfl, Up.refl _⟩) ?_
        refine WQ.nil ?_
        intro w15 hq16
        replace B8 := B8.up hq16
        replace B9 := B9.up hq16
        replace hp := hp.up hq16
        replace hou := hou.up hq16
        replace hu := hu.trans hq16
        refine WL.nil ?_
        refine W.gen ?_; intro ρ17 hρ
        have q1 := (hρ 1).trans (un (un (un (un (un (un (un (un (un (un (un (un (un (un (un (un (un (un (un (un (un (un (un (un (un (un (un (un (un (un (un (un (un (un r1)))))))))))))))))))))))))))))))))); have q5 := (hρ 5).trans (un (un (un (un (un (un (un (un (un (un (un (un (un (un (un (un (un (un (un (un (un (un (un (un (un (un (un (un (un (un (un (un (un (un r5)))))))))))))))))))))))))))))))))); have q6 := (hρ 6).trans (un (un (un (un (un (un (un (un (un (un (un (un (un (un (un (un (un (un (un (un (un (un (un (un (un (un (un (un (un (un (un (un (un (un r6)))))))))))))))))))))))))))))))))); have q8 := (hρ 8).trans (un (un (un (un (un (un (un (un (un (un (un (un (un (un (un (un (un (un (un (un (un (un (un (un (un (un (un (un (un (un (un (un (un (un r8))))))))))))))))))))))))))))))))))
        have q10 := (hρ 10).trans (un (un (un (un (un (un (un (un (un (un (un (un (un (un (un (un (un (un (un (un (un (un (un (un (un (un (un (un (un (un (un (un (un (un r10)))))))))))))))))))))))))))))))))); have q29 := (hρ 29).trans (un (un (un (un (un (un (un (un (un (un (un (un (un (un (un (un (un (un (un (un (un (un (un (un (un (un (un (un (un (un (un (un (un (un r29)))))))))))))))))))))))))))))))))); have q30 := (hρ 30).trans (un (un (un (un (un (un (un (un (un (un (un (un (un (un (un (un (un (un (un (un (un (un (un (un (un (un (un (un (un (un (un (un (un (un r30)))))))))))))))))))))))))))))))))); have q31 := (hρ 31).trans (un (un (un (un (un (un (un (un (un (un (un (un (un (un (un (un (un (un (un (un (un (un (un (un (un (un (un (un (un (un (un (un (un (un r31))))))))))))))))))))))))))))))))))
        have q101 := (hρ 101).trans us
        clear hρ r1 r10 r11 r12 r13 r14 r15 r29 r30 r31 r5 r56 r57 r58 r6 r8 r9
        have r1 := q1; clear q1; have r5 := q5; clear q5; have r6 := q6; clear q6; have r8 := q8; clear q8; have r10 := q10; clear q10; have r29 := q29; clear q29; have r30 := q30; clear q30; have r31 := q31; clear q31; have r101 := q101; clear q101
        refine W.condF r101 (by simp [hlost, hp.same.q]) ?_
        refine W.skip ?_
        obtain ⟨hpk1, hpk2⟩ := same_peek hp.ok hp.same d.l pi
        clear hbk hslx hroom
        refine W.seqR ?_
        refine WL.cons rfl (st_move r5 ?_)
        refine WL.cons rfl (st_fieldAddr (f := 2) (k := 1) (un r8) Try.underlying33 rfl rfl Try.sizeOf29 ?_)
        refine WL.cons rfl (st_loadK Try.isAgg29 Try.sizeOf29 us (cells2 (B8.cell rfl) (B8.cell rfl)) rfl ?_)
        refine WL.cons rfl (st_move (un (un (un r1))) ?_)
        refine WL.cons rfl (st_call3 ent14 (un (un (un us))) (un us) us (((peekY_ok _ hp.net hp.ok d.l pi)).mono ?_))
        intro vp w16 ⟨up, hvp, uP, hop⟩; rw [hpk1] at hop; rw [hpk2] at hvp; subst hvp
        obtain ⟨bp, hbp⟩ : ∃ bp, bp = w15.heap.size := ⟨_, rfl⟩
        rw [← hbp] at hop
        have hpo1 := fun b hb => (hp.net.old b hb).1; have hpo2 := hp.ref.old; have hbl2 := hp.net.blk.lt; have hml2 := hp.net.map.lt; have hxl2 := hp.ref.lt; have hsz2 := hu.size
        have huo : ∀ b, u.ownBlock = some b → b < bp := fun b hb => by rw [hbp]; exact (Own.block hou b hb).2
        have hnp : ∀ b, up.ownBlock = some b → ¬ S2 b ∧ ¬ Sx2 b ∧ b ≠ bn ∧ b ≠ bm ∧ b ≠ b28 ∧ w.heap.size ≤ b := fun b hb => by
          have := (Own.block hop b hb).1
          exact ⟨fun h => by have := hpo1 b h; omega, fun h => by have := hpo2 b h; omega, by omega, by omega, by omega, by omega⟩
        have hpb : ∀ b, up.ownBlock = some b → bp ≤ b := fun b hb => (Own.block hop b hb).1
        replace B8 := B8.up uP
        replace hp := hp.up uP
        replace hou := hou.up uP
        replace hu := hu.trans uP
        refine WL.cons rfl (st_move us ?_)
        refine WL.cons rfl (st_extract us rfl ?_)
        refine WL.cons rfl (st_extract (un us) rfl ?_)
        refine WL.cons rfl (st_assign (un us) ?_)
        refine WL.cons rfl (st_assign (un us) ?_)
        refine WL.nil ?_
        refine W.gen ?_; intro ρ18 hρ
        have q1 := (hρ 1).trans (un (un (un (un (un (un (un (un (un (un r1)))))))))); have q5 := (hρ 5).trans (un (un (un (un (un (un (un (un (un (un r5)))))))))); have q6 := (hρ 6).trans (un (un (un (un (un (un (un (un (un (un r6)))))))))); have q8 := (hρ 8).trans (un (un (un (un (un (un (un (un (un (un r8))))))))))
        have q10 := (hρ 10).trans (un (un (un (un (un (un (un (un (un (un r10)))))))))); have q12 := (hρ 12).trans us; have q17 := (hρ 17).trans (un us); have q29 := (hρ 29).trans (un (un (un (un (un (un (un (un (un (un r29))))))))))
        have q30 := (hρ 30).trans (un (un (un (un (un (un (un (un (un (un r30)))))))))); have q31 := (hρ 31).trans (un (un (un (un (un (un (un (un (un (un r31))))))))))
        clear hρ r1 r10 r101 r29 r30 r31 r5 r6 r8
        have r1 := q1; clear q1; have r5 := q5; clear q5; have r6 := q6; clear q6; have r8 := q8; clear q8; have r10 := q10; clear q10; have r12 := q12; clear q12; have r17 := q17; clear q17; have r29 := q29; clear q29; have r30 := q30; clear q30; have r31 := q31; clear q31
        refine W.seqR ?_
        refine WL.cons rfl (st_move r6 ?_)
        refine WL.cons rfl (st_fieldAddr (f := 2) (k := 1) (un r8) Try.underlying33 rfl rfl Try.sizeOf29 ?_)
        refine WL.cons rfl (st_loadK Try.isAgg29 Try.sizeOf29 us (cells2 (B8.cell rfl) (B8.cell rfl)) rfl ?_)
        refine WL.cons rfl (st_move (un (un (un r1))) ?_)
        refine WL.cons rfl (st_call3 ent22 (un (un (un us))) (un us) us (((rpeek_ok _ hp.ref hp.few d.l pi)).mono ?_))
        intro vq w17 ⟨hvq, uQ⟩; subst hvq
        replace B8 := B8.up uQ
        replace hp := hp.up uQ
        replace hou := hou.up uQ
        replace hop := hop.up uQ
        replace hu := hu.trans uQ
        refine WL.cons rfl (st_move us ?_)
        refine WL.cons rfl (st_extract us rfl ?_)
        refine WL.cons rfl (st_extract (un us) rfl ?_)
        refine WL.cons rfl (st_assign (un us) ?_)
        refine WL.cons rfl (st_assign (un us) ?_)
        refine WL.nil ?_
        refine W.gen ?_; intro ρ19 hρ
        have q1 := (hρ 1).trans (un (un (un (un (un (un (un (un (un (un r1)))))))))); have q5 := (hρ 5).trans (un (un (un (un (un (un (un (un (un (un r5)))))))))); have q6 := (hρ 6).trans (un (un (un (un (un (un (un (un (un (un r6)))))))))); have q10 := (hρ 10).trans (un (un (un (un (un (un (un (un (un (un r10))))))))))
        have q12 := (hρ 12).trans (un (un (un (un (un (un (un (un (un (un r12)))))))))); have q15 := (hρ 15).trans us; have q17 := (hρ 17).trans (un (un (un (un (un (un (un (un (un (un r17)))))))))); have q18 := (hρ 18).trans (un us)
        have q29 := (hρ 29).trans (un (un (un (un (un (un (un (un (un (un r29)))))))))); have q30 := (hρ 30).trans (un (un (un (un (un (un (un (un (un (un r30)))))))))); have q31 := (hρ 31).trans (un (un (un (un (un (un (un (un (un (un r31))))))))))
        clear hρ r1 r10 r12 r17 r29 r30 r31 r5 r6 r8
        have r1 := q1; clear q1; have r5 := q5; clear q5; have r6 := q6; clear q6; have r10 := q10; clear q10; have r12 := q12; clear q12; have r15 := q15; clear q15; have r17 := q17; clear q17; have r18 := q18; clear q18; have r29 := q29; clear q29; have r30 := q30; clear q30; have r31 := q31; clear q31
        refine W.seq ?_
        refine W.seqR ?_
        refine WL.cons rfl (st_move r17 ?_)
        refine WL.cons rfl (st_string us (OB.rb hop) Try.underlying30 Try.underlying5 Try.underlying9 ?_)
        refine WL.cons rfl (st_move (un (un r18)) ?_)
        refine WL.cons rfl (st_neqS (un us) us ?_)
        refine WL.cons rfl (st_move us ?_)
        apply WL.seg0 3 (t := 122) (x := 125) (want := false) us rfl
        · intro hg122
          refine WL.guardY rfl (us.trans (by rw [hg122])) rfl (st_move (un (un (un (un (un r12))))) ?_)
          refine WL.guardY rfl ((un us).trans (by rw [hg122])) rfl (st_move (un (un (un (un (un (un r15)))))) ?_)
          refine WL.guardY rfl ((un (un us)).trans (by rw [hg122])) rfl (st_neq (un us) us ?_)
          exact WL.nil ⟨(ag (ag (ag ag0))), us, rfl⟩
        intro ρ20 hag hx122
        have q1 := (hag 1 rfl).trans (un (un (un (un (un r1))))); have q5 := (hag 5 rfl).trans (un (un (un (un (un r5))))); have q6 := (hag 6 rfl).trans (un (un (un (un (un r6))))); have q10 := (hag 10 rfl).trans (un (un (un (un (un r10)))))
        have q17 := (hag 17 rfl).trans (un (un (un (un (un r17))))); have q29 := (hag 29 rfl).trans (un (un (un (un (un r29))))); have q30 := (hag 30 rfl).trans (un (un (un (un (un r30))))); have q31 := (hag 31 rfl).trans (un (un (un (un (un r31)))))
        have q122 := (hag 122 rfl).trans us
        clear hag r1 r10 r12 r15 r17 r18 r29 r30 r31 r5 r6
        have r1 := q1; clear q1; have r5 := q5; clear q5; have r6 := q6; clear q6; have r10 := q10; clear q10; have r17 := q17; clear q17; have r29 := q29; clear q29; have r30 := q30; clear q30; have r31 := q31; clear q31; have r122 := q122; clear q122
        refine WL.cons rfl (st_or r122 hx122 uc ?_)
        refine WL.nil ?_
        refine W.gen ?_; intro ρ21 hρ
        have q1 := (hρ 1).trans (un r1); have q5 := (hρ 5).trans (un r5); have q6 := (hρ 6).trans (un r6); have q10 := (hρ 10).trans (un r10)
        have q17 := (hρ 17).trans (un r17); have q29 := (hρ 29).trans (un r29); have q30 := (hρ 30).trans (un r30); have q31 := (hρ 31).trans (un r31)
        have q126 := (hρ 126).trans us
        clear hρ r1 r10 r122 r17 r29 r30 r31 r5 r6
        have r1 := q1; clear q1; have r5 := q5; clear q5; have r6 := q6; clear q6; have r10 := q10; clear q10; have r17 := q17; clear q17; have r29 := q29; clear q29; have r30 := q30; clear q30; have r31 := q31; clear q31; have r126 := q126; clear q126
        refine W.condF r126 (by simp) ?_
        refine W.skip ?_
        refine W.seq ?_
        obtain ⟨op2, cp, hvp2, _, _⟩ := Own.slice hop
        subst hvp2
        have hpl : (peekR (x.also d).1 d.l pi).1.length ≤ 9223372036854775807 := by obtain ⟨_, h2⟩ := hop; rcases h2 with ⟨_, h0⟩ | ⟨_, _, _, _, _, _, hn1, hn2, _⟩; omega; unfold maxLen at hn2; omega
        refine W.seqR ?_
        refine WL.cons rfl (st_move r17 ?_)
        refine WL.cons rfl (st_lenS us Try.underlying30 ?_)
        refine WL.cons rfl (st_move uc ?_)
        refine WL.nil ?_
        refine W.gen ?_; intro ρ22 hρ
        have q1 := (hρ 1).trans (un (un (un r1))); have q5 := (hρ 5).trans (un (un (un r5))); have q6 := (hρ 6).trans (un (un (un r6))); have q10 := (hρ 10).trans (un (un (un r10)))
        have q17 := (hρ 17).trans (un (un (un r17))); have q29 := (hρ 29).trans (un (un (un r29))); have q30 := (hρ 30).trans (un (un (un r30))); have q31 := (hρ 31).trans (un (un (un r31)))
        have q128 := (hρ 128).trans (un us); have q129 := (hρ 129).trans us
        clear hρ r1 r10 r126 r17 r29 r30 r31 r5 r6
        have r1 := q1; clear q1; have r5 := q5; clear q5; have r6 := q6; clear q6; have r10 := q10; clear q10; have r17 := q17; clear q17; have r29 := q29; clear q29; have r30 := q30; clear q30; have r31 := q31; clear q31; have r128 := q128; clear q128; have r129 := q129; clear q129
        refine W.block ?_
        refine W.loop (fun nn ρ' w' => ∃ j : Nat, ev ρ' (.tmp 129) = .int .i64 (j : Int) ∧ ev ρ' (.tmp 1) = ev ρ22 (.tmp 1) ∧ ev ρ' (.tmp 5) = ev ρ22 (.tmp 5) ∧ ev ρ' (.tmp 6) = ev ρ22 (.tmp 6) ∧ ev ρ' (.tmp 10) = ev ρ22 (.tmp 10) ∧ ev ρ' (.tmp 17) = ev ρ22 (.tmp 17) ∧ ev ρ' (.tmp 29) = ev ρ22 (.tmp 29) ∧ ev ρ' (.tmp 30) = ev ρ22 (.tmp 30) ∧ ev ρ' (.tmp 31) = ev ρ22 (.tmp 31) ∧ ev ρ' (.tmp 128) = ev ρ22 (.tmp 128) ∧ j + nn = (peekR (x.also d).1 d.l pi).1.length ∧ Up w w' ∧ (∃ m2 : Msg, m2.length = (peekR (x.also d).1 d.l pi).1.length ∧ OB bp w' (.slice op2 (peekR (x.also d).1 d.l pi).1.length cp) m2) ∧ Pair S2 Sx2 w' bn bm b28 (s.does d).1 (x.also d).1 ∧ OB bu w' u ((s.does d).2.1.getD [])) ((peekR (x.also d).1 d.l pi).1.length) ?_ ?_
        · exact ⟨0, (by first | exact r129 | (refine r129.trans ?_; congr 1; omega) | (refine r129.trans ?_; simp)), rfl, rfl, rfl, rfl, rfl, rfl, rfl, rfl, rfl, by omega, hu, ⟨_, rfl, hop⟩, hp, hou⟩
        intro nn ρ23 w18 ⟨j, q129, q1, q5, q6, q10, q17, q29, q30, q31, q128, hj, hu, hge, hp, hou⟩
        have s1 := q1; replace q1 := q1.trans r1
        have s5 := q5; replace q5 := q5.trans r5
        have s6 := q6; replace q6 := q6.trans r6
        have s10 := q10; replace q10 := q10.trans r10
        have s17 := q17; replace q17 := q17.trans r17
        have s29 := q29; replace q29 := q29.trans r29
        have s30 := q30; replace q30 := q30.trans r30
        have s31 := q31; replace q31 := q31.trans r31
        have s128 := q128; replace q128 := q128.trans r128
        clear r1 r10 r128 r129 r17 r29 r30 r31 r5 r6
        have r129 := q129; clear q129; have r1 := q1; clear q1; have r5 := q5; clear q5; have r6 := q6; clear q6; have r10 := q10; clear q10; have r17 := q17; clear q17; have r29 := q29; clear q29; have r30 := q30; clear q30; have r31 := q31; clear q31; have r128 := q128; clear q128
        have x4_1 := s1.symm.trans r1; clear s1
        have x4_5 := s5.symm.trans r5; clear s5
        have x4_6 := s6.symm.trans r6; clear s6
        have x4_10 := s10.symm.trans r10; clear s10
        have x4_17 := s17.symm.trans r17; clear s17
        have x4_29 := s29.symm.trans r29; clear s29
        have x4_30 := s30.symm.trans r30; clear s30
        have x4_31 := s31.symm.trans r31; clear s31
        have x4_128 := s128.symm.trans r128; clear s128
        refine W.seqR ?_
        refine WL.cons rfl (st_lss r129 r128 ?_)
        refine WL.nil ?_
        refine W.gen ?_; intro ρ24 hρ
        have q1 := (hρ 1).trans (un r1); have q5 := (hρ 5).trans (un r5); have q6 := (hρ 6).trans (un r6); have q10 := (hρ 10).trans (un r10)
        have q17 := (hρ 17).trans (un r17); have q29 := (hρ 29).trans (un r29); have q30 := (hρ 30).trans (un r30); have q31 := (hρ 31).trans (un r31)
        have q128 := (hρ 128).trans (un r128); have q129 := (hρ 129).trans (un r129); have q130 := (hρ 130).trans us
        clear hρ r1 r10 r128 r129 r17 r29 r30 r31 r5 r6
        have r1 := q1; clear q1; have r5 := q5; clear q5; have r6 := q6; clear q6; have r10 := q10; clear q10; have r17 := q17; clear q17; have r29 := q29; clear q29; have r30 := q30; clear q30; have r31 := q31; clear q31; have r128 := q128; clear q128; have r129 := q129; clear q129; have r130 := q130; clear q130
        refine W.seq ?_
        refine W.cond r130 (fun hc23 => ?_) (fun hc23 => ?_)
        · skip
          try simp only [tests] at hc23
          obtain ⟨m2, hml, hg2⟩ := hge
          obtain ⟨_, gb, hgo, hgb, hgw, hgc⟩ := OB.at hg2 (j := j) (by omega)
          obtain ⟨z1, z2, z3, z4, z5, z6⟩ := hnp gb hgw
          subst hgo
          refine W.skip ?_
          refine W.seq ?_
          refine W.block ?_
          refine W.seqR ?_
          refine WL.cons rfl (st_move r129 ?_)
          refine WL.cons rfl (st_assign us ?_)
          refine WL.nil ?_
          refine W.gen ?_; intro ρ25 hρ
          have q1 := (hρ 1).trans (un (un r1)); have q5 := (hρ 5).trans (un (un r5)); have q6 := (hρ 6).trans (un (un r6)); have q10 := (hρ 10).trans (un (un r10))
          have q17 := (hρ 17).trans (un (un r17)); have q19 := (hρ 19).trans us; have q29 := (hρ 29).trans (un (un r29)); have q30 := (hρ 30).trans (un (un r30))
          have q31 := (hρ 31).trans (un (un r31)); have q128 := (hρ 128).trans (un (un r128)); have q129 := (hρ 129).trans (un (un r129))
          clear hρ r1 r10 r128 r129 r130 r17 r29 r30 r31 r5 r6
          have r1 := q1; clear q1; have r5 := q5; clear q5; have r6 := q6; clear q6; have r10 := q10; clear q10; have r17 := q17; clear q17; have r19 := q19; clear q19; have r29 := q29; clear q29; have r30 := q30; clear q30; have r31 := q31; clear q31; have r128 := q128; clear q128; have r129 := q129; clear q129
          refine W.endR ?_
          refine WL.cons rfl (st_move r17 ?_)
          refine WL.cons rfl (st_move (un r19) ?_)
          refine WL.cons rfl (st_indexAddrS (un us) us Try.underlying30 Try.sizeOf5 (by omega) (by omega) ?_)
          refine WL.cons rfl (st_load1 Try.isAgg5 us (hgc) ?_)
          refine WL.cons rfl (st_bxor us uc rfl ?_)
          refine WL.cons rfl (st_indexAddrS (un (un (un (un us)))) (un (un (un us))) Try.underlying30 Try.sizeOf5 (by omega) (by omega) ?_)
          refine WL.cons rfl (st_ownStore (j := j) us (un us) (by omega) hg2 (by omega) ?_)
          intro w19 m3 hm3 hg3 hfg _
          replace hu := Up.local hu hfg z6
          replace hp := hp.apart hfg (fun k _ e => by have e : k = gb := e; subst e; exact ⟨z1, z2, z3, z4, z5⟩)
          replace hou : OB _ _ _ _ := Own.frm hou hfg (fun b hb e => by have e : b = gb := e; have := hpb gb hgw; have := huo b hb; omega)
          refine WL.nil ?_
          refine W.endR ?_
          refine WL.cons rfl (st_add (un0 (un (un (un (un (un (un r129))))))) uc (wr64 (by omega)) ?_)
          refine WL.cons rfl (st_move us ?_)
          refine WL.nil ?_
          exact ⟨nn - 1, (by omega), j + 1, (by first | exact us | (refine us.trans ?_; congr 1; omega) | (refine us.trans ?_; simp)), ((un (un (un0 (un (un (un (un (un (un r1))))))))).trans x4_1.symm), ((un (un (un0 (un (un (un (un (un (un r5))))))))).trans x4_5.symm), ((un (un (un0 (un (un (un (un (un (un r6))))))))).trans x4_6.symm), ((un (un (un0 (un (un (un (un (un (un r10))))))))).trans x4_10.symm), ((un (un (un0 (un (un (un (un (un (un r17))))))))).trans x4_17.symm), ((un (un (un0 (un (un (un (un (un (un r29))))))))).trans x4_29.symm), ((un (un (un0 (un (un (un (un (un (un r30))))))))).trans x4_30.symm), ((un (un (un0 (un (un (un (un (un (un r31))))))))).trans x4_31.symm), ((un (un (un0 (un (un (un (un (un (un r128))))))))).trans x4_128.symm), by omega, hu, ⟨m3, by omega, hg3⟩, hp, hou⟩
        · skip
          try simp only [tests] at hc23
          refine W.exit ?_
          refine exitHere ?_
          obtain ⟨ou, cu, hvu, _, _⟩ := Own.slice hou
          subst hvu
          have hul : ((s.does d).2.1.getD []).length ≤ 9223372036854775807 := by obtain ⟨_, h2⟩ := hou; rcases h2 with ⟨_, h0⟩ | ⟨_, _, _, _, _, _, hn1, hn2, _⟩; omega; unfold maxLen at hn2; omega
          refine W.seqR ?_
          refine WL.cons rfl (st_move r10 ?_)
          refine WL.cons rfl (st_lenS us Try.underlying30 ?_)
          refine WL.cons rfl (st_move uc ?_)
          refine WL.nil ?_
          refine W.gen ?_; intro ρ26 hρ
          have q1 := (hρ 1).trans (un (un (un r1))); have q5 := (hρ 5).trans (un (un (un r5))); have q6 := (hρ 6).trans (un (un (un r6))); have q10 := (hρ 10).trans (un (un (un r10)))
          have q29 := (hρ 29).trans (un (un (un r29))); have q30 := (hρ 30).trans (un (un (un r30))); have q31 := (hρ 31).trans (un (un (un r31))); have q140 := (hρ 140).trans (un us)
          have q141 := (hρ 141).trans us
          clear hρ r1 r10 r128 r129 r130 r17 r29 r30 r31 r5 r6
          have r1 := q1; clear q1; have r5 := q5; clear q5; have r6 := q6; clear q6; have r10 := q10; clear q10; have r29 := q29; clear q29; have r30 := q30; clear q30; have r31 := q31; clear q31; have r140 := q140; clear q140; have r141 := q141; clear q141
          refine W.block ?_
          refine W.loop (fun nn ρ' w' => ∃ j : Nat, ev ρ' (.tmp 141) = .int .i64 (j : Int) ∧ ev ρ' (.tmp 1) = ev ρ26 (.tmp 1) ∧ ev ρ' (.tmp 5) = ev ρ26 (.tmp 5) ∧ ev ρ' (.tmp 6) = ev ρ26 (.tmp 6) ∧ ev ρ' (.tmp 10) = ev ρ26 (.tmp 10) ∧ ev ρ' (.tmp 29) = ev ρ26 (.tmp 29) ∧ ev ρ' (.tmp 30) = ev ρ26 (.tmp 30) ∧ ev ρ' (.tmp 31) = ev ρ26 (.tmp 31) ∧ ev ρ' (.tmp 140) = ev ρ26 (.tmp 140) ∧ j + nn = ((s.does d).2.1.getD []).length ∧ Up w w' ∧ (∃ m2 : Msg, m2.length = ((s.does d).2.1.getD []).length ∧ OB bu w' (.slice ou ((s.does d).2.1.getD []).length cu) m2) ∧ Pair S2 Sx2 w' bn bm b28 (s.does d).1 (x.also d).1) (((s.does d).2.1.getD []).length) ?_ ?_
          · exact ⟨0, (by first | exact r141 | (refine r141.trans ?_; congr 1; omega) | (refine r141.trans ?_; simp)), rfl, rfl, rfl, rfl, rfl, rfl, rfl, rfl, by omega, hu, ⟨_, rfl, hou⟩, hp⟩
          intro nn ρ27 w20 ⟨j, q141, q1, q5, q6, q10, q29, q30, q31, q140, hj, hu, hge, hp⟩
          have s1 := q1; replace q1 := q1.trans r1
          have s5 := q5; replace q5 := q5.trans r5
          have s6 := q6; replace q6 := q6.trans r6
          have s10 := q10; replace q10 := q10.trans r10
          have s29 := q29; replace q29 := q29.trans r29
          have s30 := q30; replace q30 := q30.trans r30
          have s31 := q31; replace q31 := q31.trans r31
          have s140 := q140; replace q140 := q140.trans r140
          clear r1 r10 r140 r141 r29 r30 r31 r5 r6
          have r141 := q141; clear q141; have r1 := q1; clear q1; have r5 := q5; clear q5; have r6 := q6; clear q6; have r10 := q10; clear q10; have r29 := q29; clear q29; have r30 := q30; clear q30; have r31 := q31; clear q31; have r140 := q140; clear q140
          have x6_1 := s1.symm.trans r1; clear s1
          have x6_5 := s5.symm.trans r5; clear s5
          have x6_6 := s6.symm.trans r6; clear s6
          have x6_10 := s10.symm.trans r10; clear s10
          have x6_29 := s29.symm.trans r29; clear s29
          have x6_30 := s30.symm.trans r30; clear s30
          have x6_31 := s31.symm.trans r31; clear s31
          have x6_140 := s140.symm.trans r140; clear s140
          refine W.seqR ?_
          refine WL.cons rfl (st_lss r141 r140 ?_)
          refine WL.nil ?_
          refine W.gen ?_; intro ρ28 hρ
          have q1 := (hρ 1).trans (un r1); have q5 := (hρ 5).trans (un r5); have q6 := (hρ 6).trans (un r6); have q10 := (hρ 10).trans (un r10)
          have q29 := (hρ 29).trans (un r29); have q30 := (hρ 30).trans (un r30); have q31 := (hρ 31).trans (un r31); have q140 := (hρ 140).trans (un r140)
          have q141 := (hρ 141).trans (un r141); have q142 := (hρ 142).trans us
          clear hρ r1 r10 r140 r141 r29 r30 r31 r5 r6
          have r1 := q1; clear q1; have r5 := q5; clear q5; have r6 := q6; clear q6; have r10 := q10; clear q10; have r29 := q29; clear q29; have r30 := q30; clear q30; have r31 := q31; clear q31; have r140 := q140; clear q140; have r141 := q141; clear q141; have r142 := q142; clear q142
          refine W.seq ?_
          refine W.cond r142 (fun hc28 => ?_) (fun hc28 => ?_)
          · skip
            try simp only [tests] at hc28
            obtain ⟨m2, hml, hg2⟩ := hge
            obtain ⟨_, gb, hgo, hgb, hgw, hgc⟩ := OB.at hg2 (j := j) (by omega)
            obtain ⟨z1, z2, z3, z4, z5, z6⟩ := hnw gb hgw
            subst hgo
            refine W.skip ?_
            refine W.seq ?_
            refine W.block ?_
            refine W.seqR ?_
            refine WL.cons rfl (st_move r141 ?_)
            refine WL.cons rfl (st_assign us ?_)
            refine WL.nil ?_
            refine W.gen ?_; intro ρ29 hρ
            have q1 := (hρ 1).trans (un (un r1)); have q5 := (hρ 5).trans (un (un r5)); have q6 := (hρ 6).trans (un (un r6)); have q10 := (hρ 10).trans (un (un r10))
            have q20 := (hρ 20).trans us; have q29 := (hρ 29).trans (un (un r29)); have q30 := (hρ 30).trans (un (un r30)); have q31 := (hρ 31).trans (un (un r31))
            have q140 := (hρ 140).trans (un (un r140)); have q141 := (hρ 141).trans (un (un r141))
            clear hρ r1 r10 r140 r141 r142 r29 r30 r31 r5 r6
            have r1 := q1; clear q1; have r5 := q5; clear q5; have r6 := q6; clear q6; have r10 := q10; clear q10; have r20 := q20; clear q20; have r29 := q29; clear q29; have r30 := q30; clear q30; have r31 := q31; clear q31; have r140 := q140; clear q140; have r141 := q141; clear q141
            refine W.endR ?_
            refine WL.cons rfl (st_move r10 ?_)
            refine WL.cons rfl (st_move (un r20) ?_)
            refine WL.cons rfl (st_indexAddrS (un us) us Try.underlying30 Try.sizeOf5 (by omega) (by omega) ?_)
            refine WL.cons rfl (st_load1 Try.isAgg5 us (hgc) ?_)
            refine WL.cons rfl (st_bxor us uc rfl ?_)
            refine WL.cons rfl (st_indexAddrS (un (un (un (un us)))) (un (un (un us))) Try.underlying30 Try.sizeOf5 (by omega) (by omega) ?_)
            refine WL.cons rfl (st_ownStore (j := j) us (un us) (by omega) hg2 (by omega) ?_)
            intro w21 m3 hm3 hg3 hfg _
            replace hu := Up.local hu hfg z6
            replace hp := hp.apart hfg (fun k _ e => by have e : k = gb := e; subst e; exact ⟨z1, z2, z3, z4, z5⟩)
            refine WL.nil ?_
            refine W.endR ?_
            refine WL.cons rfl (st_add (un0 (un (un (un (un (un (un r141))))))) uc (wr64 (by omega)) ?_)
            refine WL.cons rfl (st_move us ?_)
            refine WL.nil ?_
            exact ⟨nn - 1, (by omega), j + 1, (by first | exact us | (refine us.trans ?_; congr 1; omega) | (refine us.trans ?_; simp)), ((un (un (un0 (un (un (un (un (un (un r1))))))))).trans x6_1.symm), ((un (un (un0 (un (un (un (un (un (un r5))))))))).trans x6_5.symm), ((un (un (un0 (un (un (un (un (un (un r6))))))))).trans x6_6.symm), ((un (un (un0 (un (un (un (un (un (un r10))))))))).trans x6_10.symm), ((un (un (un0 (un (un (un (un (un (un r29))))))))).trans x6_29.symm), ((un (un (un0 (un (un (un (un (un (un r30))))))))).trans x6_30.symm), ((un (un (un0 (un (un (un (un (un (un r31))))))))).trans x6_31.symm), ((un (un (un0 (un (un (un (un (un (un r140))))))))).trans x6_140.symm), by omega, hu, ⟨m3, by omega, hg3⟩, hp⟩
          · skip
            try simp only [tests] at hc28
            refine W.exit ?_
            refine exitHere ?_
            refine W.endR ?_
            refine WL.cons rfl (st_add r31 uc (wr64 (by omega)) ?_)
            refine WL.cons rfl (st_move us ?_)
            refine WL.nil ?_
            exact ⟨mr, (by omega), i + 1, (by first | exact us | (refine us.trans ?_; congr 1; omega) | (refine us.trans ?_; simp)), ((un (un r1)).trans x0_1.symm), ((un (un r5)).trans x0_5.symm), ((un (un r6)).trans x0_6.symm), ((un (un r29)).trans x0_29.symm), ((un (un r30)).trans x0_30.symm), by omega, ⟨hu, _, _, _, _, hp⟩⟩
    · skip
      try simp only [tests] at hc5
      have hbn2 := hbn
      refine W.exit ?_
      refine exitHere ?_
      refine W.seqR ?_
      refine WL.cons rfl (st_move r5 ?_)
      refine WL.cons rfl (st_call1 ent15 us (((busy_ok _ hp.net hp.ok)).mono ?_))
      intro vB w22 ⟨ds, hsrt, hsB, hprm, ub⟩
      have e := sorted_busy hp.ok hsrt hprm
      have hB1 : SlV AnyB w22 vB (busyS s).length 2 (lkC (busyS s)) := by rw [← e, List.length_map]; exact hsB
      replace hp := hp.up ub
      replace hu := hu.trans ub
      refine WL.cons rfl (st_move (un (un r6)) ?_)
      refine WL.cons rfl (st_call1 ent24 us (((rbusy_ok _ hp.ref hp.few)).mono ?_))
      intro vC w23 ⟨hB2, ub2⟩
      replace hp := hp.up ub2
      replace hB1 := hB1.up ub2
      replace hu := hu.trans ub2
      refine WL.cons rfl (st_call2 ent23 (un (un us)) us (((leq_ok (busyS s) (busyN x 1024) _ hB1 hB2 (by have := busyN_le x 1024; rw [same_busy hp.same]; omega))).mono ?_))
      intro ve w24 ⟨hve, ue⟩; rw [decide_eq_true (same_busy hp.same)] at hve; subst hve
      replace hp := hp.up ue
      replace hB1 := hB1.up ue
      replace hB2 := hB2.up ue
      replace hu := hu.trans ue
      refine WL.cons rfl (st_move us ?_)
      apply WL.seg 1 (t := 157) (x := 158) (want := true) us rfl
      · intro hg157
        have hu0 := hu; have hu_ := Up.refl w24
        refine WL.guardY rfl (us.trans (by rw [hg157])) rfl (st_call0 ent11  (((awake_ok _)).mono ?_))
        intro va w25 ⟨hva, ua⟩; subst hva
        replace hp := hp.up ua
        replace hB1 := hB1.up ua
        replace hB2 := hB2.up ua
        replace hu_ := hu_.trans ua
        exact WL.nil ⟨(ag ag0), us, hu_⟩
      intro ρ30 w26 hup157 hag hx157
      replace hp := hp.up hup157
      replace hB1 := hB1.up hup157
      replace hB2 := hB2.up hup157
      replace hu := hu.trans hup157
      have q157 := (hag 157 rfl).trans us
      clear hag r1 r29 r30 r31 r32 r5 r6
      have r157 := q157; clear q157
      refine WL.cons rfl (st_and r157 hx157 uc ?_)
      refine WL.cons rfl (st_assign us ?_)
      refine WL.nil ?_
      refine W.gen ?_; intro ρ31 hρ
      have q4 := (hρ 4).trans us
      clear hρ r157
      have r4 := q4; clear q4
      refine W.ret ?_
      refine fin1 r4 ?_
      exact ⟨rfl, hu⟩

end Go.Proofs.Ytppohfgaegahoaa
