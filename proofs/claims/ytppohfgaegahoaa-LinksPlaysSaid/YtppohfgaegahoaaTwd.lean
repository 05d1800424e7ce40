/- A region that draws its order, whose operations (but for a forced tail) yield one value in whatever world has come of the first by growth: one walk, in the text's order. It speaks of no program. -/
import Derived.Test.YtppohfgaegahoaaTwc
namespace Go.Tw
open Go.RowKit

def QStep (P : Program) (l : List Oper) (o : Oper) (ρ : Env) (w : World) (v : Value) : Prop :=
  match o.guard with
  | none => ∀ w', Up w w' → Step P o ρ w' (fun u w'' => u = v ∧ Up w' w'')
  | some (j, want) => ∃ t b, (l[j]?).bind (·.dst) = some t ∧ ev ρ (.tmp t) = .bool b ∧ if b = want then ∀ w', Up w w' → Step P o ρ w' (fun u w'' => u = v ∧ Up w' w'') else v = undef

def WQ (P : Program) (l : List Oper) (w : World) : List Oper → (Env → Prop) → Env → Prop
  | [], M, ρ => M ρ
  | o :: rest, M, ρ => ∃ v, QStep P l o ρ w v ∧ WQ P l w rest M (upd ρ o.dst v)

section
variable {P : Program} {l rest : List Oper} {w : World} {M : Env → Prop} {ρ : Env} {v : Value}
theorem WQ.nil (h : M ρ) : WQ P l w [] M ρ := h
variable {d : Option Nat} {op : Op} {ty : TypeId} {ps : String} {af : Array Edge}
theorem WQ.cons (hs : ∀ w', Up w w' → Step P ⟨d, op, ty, ps, af, none⟩ ρ w' (fun u w'' => u = v ∧ Up w' w'')) (h : WQ P l w rest M (upd ρ d v)) : WQ P l w (⟨d, op, ty, ps, af, none⟩ :: rest) M ρ :=
  ⟨v, hs, h⟩
theorem WQ.guardY {j t : Nat} {want b : Bool} (hj : (l[j]?).bind (·.dst) = some t) (hb : ev ρ (.tmp t) = .bool b) (e : b = want) (hs : ∀ w', Up w w' → Step P ⟨d, op, ty, ps, af, some (j, want)⟩ ρ w' (fun u w'' => u = v ∧ Up w' w'')) (h : WQ P l w rest M (upd ρ d v)) : WQ P l w (⟨d, op, ty, ps, af, some (j, want)⟩ :: rest) M ρ :=
  ⟨v, ⟨t, b, hj, hb, by rw [if_pos e]; exact hs⟩, h⟩
theorem WQ.guardN {j t : Nat} {want b : Bool} (hj : (l[j]?).bind (·.dst) = some t) (hb : ev ρ (.tmp t) = .bool b) (e : b = !want) (h : WQ P l w rest M (upd ρ d undef)) : WQ P l w (⟨d, op, ty, ps, af, some (j, want)⟩ :: rest) M ρ :=
  ⟨undef, ⟨t, b, hj, hb, by rw [if_neg (by rw [e]; cases want <;> simp)]⟩, h⟩
end

theorem upd_ne {ρ : Env} {d : Option Nat} {v : Value} {t : Nat} (h : d ≠ some t) : ev (upd ρ d v) (.tmp t) = ev ρ (.tmp t) := by
  cases d with
  | none => rfl
  | some d =>
    have hne : t ≠ d := fun e => h (by rw [e])
    have hb : Nat.beq t d = false := by
      cases h : Nat.beq t d with
      | false => rfl
      | true => exact absurd (Nat.eq_of_beq_eq_true h) hne
    simp [ev, upd, hb]

theorem dsts_mem {l : List Oper} {o : Oper} {d : Nat} (h : o ∈ l) (hd : o.dst = some d) : d ∈ dsts l := List.mem_filterMap.2 ⟨o, h, hd⟩

theorem WQ_env {P : Program} {l0 : List Oper} {w : World} {M : Env → Prop} : ∀ (l : List Oper) (ρ : Env), (dsts l).Nodup → WQ P l0 w l M ρ →
    ∃ ρe, M ρe ∧ (∀ t, t ∉ dsts l → ev ρe (.tmp t) = ev ρ (.tmp t)) ∧
      ∀ i o, l[i]? = some o → o.dst.isSome = true → ∃ ρi, QStep P l0 o ρi w (slotOf ρe o) ∧ (∀ t, t ∉ dsts l → ev ρi (.tmp t) = ev ρ (.tmp t)) ∧ (∀ t, t ∈ dsts (l.take i) → ev ρi (.tmp t) = ev ρe (.tmp t))
  | [], ρ, _, h => ⟨ρ, h, fun _ _ => rfl, fun i o hi => by simp at hi⟩
  | o :: l, ρ, hn, ⟨v, hs, h⟩ => by
    have htl : (dsts l).Nodup := by
      cases h : o.dst with
      | none => have e : dsts (o :: l) = dsts l := by simp [dsts, h]
                rwa [e] at hn
      | some d => have e : dsts (o :: l) = d :: dsts l := by simp [dsts, h]
                  rw [e] at hn; exact (List.nodup_cons.1 hn).2
    have hsub : ∀ t, t ∉ dsts (o :: l) → t ∉ dsts l ∧ o.dst ≠ some t := by
      intro t ht
      refine ⟨fun h => ht ?_, fun h => ht (dsts_mem (by simp) h)⟩
      obtain ⟨o', ho', hd⟩ := List.mem_filterMap.1 h
      exact dsts_mem (by simp [ho']) hd
    obtain ⟨ρe, hM, hag, hall⟩ := WQ_env l _ htl h
    refine ⟨ρe, hM, fun t ht => ?_, fun i oi hi hsome => ?_⟩
    · obtain ⟨h1, h2⟩ := hsub t ht
      rw [hag t h1, upd_ne h2]
    · cases i with
      | zero =>
        simp at hi
        subst hi
        refine ⟨ρ, ?_, fun _ _ => rfl, fun t ht => by simp [dsts] at ht⟩
        cases hd : o.dst with
        | none => rw [hd] at hsome; cases hsome
        | some d =>
          have hnd : d ∉ dsts l := by
            have e : dsts (o :: l) = d :: dsts l := by simp [dsts, hd]
            rw [e] at hn; exact (List.nodup_cons.1 hn).1
          have e : slotOf ρe o = v := by
            simp only [slotOf, hd]
            rw [hag d hnd, hd]; exact us
          rw [e]; exact hs
      | succ i =>
        simp at hi
        obtain ⟨ρi, hq, h1, h2⟩ := hall i oi hi hsome
        refine ⟨ρi, hq, fun t ht => ?_, fun t ht => ?_⟩
        · obtain ⟨g1, g2⟩ := hsub t ht
          rw [h1 t g1, upd_ne g2]
        · by_cases hm : t ∈ dsts (l.take i)
          · exact h2 t hm
          · have hd : o.dst = some t := by
              obtain ⟨o', ho', hd⟩ := List.mem_filterMap.1 ht
              rw [List.take_succ_cons] at ho'
              rcases List.mem_cons.1 ho' with e | e
              · rw [← e]; exact hd
              · exact absurd (dsts_mem e hd) hm
            have hnd : t ∉ dsts l := by
              have e : dsts (o :: l) = t :: dsts l := by simp [dsts, hd]
              rw [e] at hn; exact (List.nodup_cons.1 hn).1
            rw [h1 t hnd, hag t hnd]

def tmpsOf (o : Oper) : List Nat := o.op.operands.toList.filterMap fun | .tmp t => some t | _ => none

def noSel (o : Oper) : Bool := match o.op with | .select _ _ => false | _ => true

def quietOk (n0 : Nat) (l : List Oper) : Bool :=
  (List.range n0).all fun i => match l[i]? with
    | none => true
    | some o => noSel o && ((tmpsOf o).all fun t => !(dsts (l.take n0)).contains t || (List.range i).any fun j => pre l i j && decide ((l[j]?).bind (·.dst) = some t)) &&
      match o.guard with | none => true | some (j, _) => pre l i j && Nat.blt j i

theorem W.quiet {P : Program} {N : Nat} {l : List Oper} {ρ : Env} {w : World} {id : Nat} {n : Env → World → Prop} {x : Nat → Env → World → Prop} {r : Env → World → Prop} (hm : P.follows .mixedOrders = true) (n0 : Nat) (hok : (drawOk N n0 l && Nat.ble n0 l.length && quietOk n0 l) = true)
    (h : WQ P l w (l.take n0) (fun ρ' => ∀ w', Up w w' → WL P N l.toArray (l.drop n0) n ρ' w') ρ) : W P N (.region id l.toArray true) n x r ρ w := by
  simp only [Bool.and_eq_true] at hok
  obtain ⟨⟨hd, hn0⟩, hq⟩ := hok
  have hn0' : n0 ≤ l.length := by simpa using hn0
  have hd' := hd
  unfold drawOk at hd'
  simp only [Bool.and_eq_true] at hd'
  obtain ⟨⟨⟨_, c2⟩, c3⟩, _⟩ := hd'
  have hnd : (dsts (l.take n0)).Nodup := by simpa using c3
  obtain ⟨ρe, hM, hag, hall⟩ := WQ_env (l.take n0) ρ hnd h
  refine W.draw hm n0 (fun i v _ => ∃ o, l[i]? = some o ∧ v = slotOf ρe o) hd hn0' (fun i v w1 w2 _ h _ => h) ?_ ?_
  · intro i o ho ρ' w' hu hout hF
    have hi : i < n0 := by have := (List.getElem?_eq_some_iff.1 ho).1; simp at this; omega
    have ho' : l[i]? = some o := by rw [List.getElem?_take_of_lt hi] at ho; exact ho
    have hsome : o.dst.isSome = true := by
      have := List.all_eq_true.1 c2 o (List.mem_of_getElem? ho)
      cases hdd : o.dst with
      | none => simp [hdd] at this
      | some d => rfl
    obtain ⟨ρi, hstep, h1, h2⟩ := hall i o ho hsome
    have hqi := List.all_eq_true.1 hq i (List.mem_range.2 hi)
    rw [ho'] at hqi
    simp only [Bool.and_eq_true] at hqi
    obtain ⟨⟨hsel, htm⟩, hgu⟩ := hqi
    have hslot : ∀ j oj t, l[j]? = some oj → j < i → pre l i j = true → oj.dst = some t → ev ρ' (.tmp t) = ev ρi (.tmp t) := by
      intro j oj t hj hji hp hdj
      obtain ⟨o2, ho2, hv⟩ := hF j oj hj hp
      rw [hj] at ho2
      cases ho2
      have e1 : ev ρ' (.tmp t) = ev ρe (.tmp t) := by simpa [slotOf, hdj] using hv
      rw [e1, h2 t]
      refine dsts_mem (o := oj) ?_ hdj
      rw [List.take_take, Nat.min_eq_left (by omega)]
      exact List.mem_of_getElem? (i := j) (by rw [List.getElem?_take_of_lt hji]; exact hj)
    have hev : ∀ x ∈ o.op.operands, ev ρ' x = ev ρi x := by
      intro x hx
      cases x with
      | tmp t =>
        have ht : t ∈ tmpsOf o := List.mem_filterMap.2 ⟨.tmp t, by simpa using hx, rfl⟩
        have := List.all_eq_true.1 htm t ht
        simp only [Bool.or_eq_true, Bool.not_eq_true'] at this
        rcases this with h | h
        · have hnot : t ∉ dsts (l.take n0) := fun hm => by
            have : (dsts (l.take n0)).contains t = true := by simpa using hm
            rw [this] at h; cases h
          show ρ' t = ρi t
          rw [hout t hnot, show ρ t = ev ρ (.tmp t) from rfl, ← h1 t hnot]
          rfl
        · obtain ⟨j, hj, hjt⟩ := List.any_eq_true.1 h
          simp only [Bool.and_eq_true, decide_eq_true_eq] at hjt
          obtain ⟨hp, hdj⟩ := hjt
          cases hlj : l[j]? with
          | none => rw [hlj] at hdj; cases hdj
          | some oj =>
            rw [hlj] at hdj
            exact hslot j oj t hlj (List.mem_range.1 hj) hp hdj
      | const v => rfl
      | global g => rfl
      | func f => rfl
    have hexec : execOp (ev ρ') o = execOp (ev ρi) o := execOp_congr o (fun cs b e => by unfold noSel at hsel; rw [e] at hsel; cases hsel) hev
    have hconv : (∀ w', Up w w' → Step P o ρi w' (fun u w'' => u = slotOf ρe o ∧ Up w' w'')) → Step P o ρ' w' (fun v w'' => (∃ o, l[i]? = some o ∧ v = slotOf ρe o) ∧ Up w' w'') := by
      intro hs
      have := hs w' hu
      unfold Step at this ⊢
      rw [hexec]
      exact this.mono fun v w'' ⟨hv, hu'⟩ => ⟨⟨o, ho', hv⟩, hu'⟩
    unfold GStep
    unfold QStep at hstep
    cases hg : o.guard with
    | none => rw [hg] at hstep; exact hconv hstep
    | some jw =>
      obtain ⟨j, want⟩ := jw
      rw [hg] at hstep hgu
      obtain ⟨t, b, hj, hb, hs⟩ := hstep
      simp only [Bool.and_eq_true] at hgu
      cases hlj : l[j]? with
      | none => rw [hlj] at hj; cases hj
      | some oj =>
        have hj' := hj
        rw [hlj] at hj'
        refine ⟨t, b, by rw [hlj]; exact hj', ?_, ?_⟩
        · rw [hslot j oj t hlj (by simpa using hgu.2) hgu.1 hj']; exact hb
        · by_cases e : b = want
          · rw [if_pos e] at hs ⊢; exact hconv hs
          · rw [if_neg e] at hs ⊢
            exact ⟨⟨o, ho', hs.symm⟩, Up.refl _⟩
  · intro ρ' w' hu hout hF
    have henv : ρ' = ρe := by
      funext t
      by_cases hm : t ∈ dsts (l.take n0)
      · obtain ⟨o, ho, hd⟩ := List.mem_filterMap.1 hm
        obtain ⟨i, hi⟩ := List.mem_iff_getElem?.1 ho
        obtain ⟨o2, ho2, hv⟩ := hF i o hi
        have hi' : i < n0 := by have := (List.getElem?_eq_some_iff.1 hi).1; simp at this; omega
        rw [List.getElem?_take_of_lt hi'] at hi
        rw [hi] at ho2
        cases ho2
        simpa [slotOf, hd, ev] using hv
      · rw [hout t hm]
        exact (hag t hm).symm
    rw [henv]
    exact hM w' hu

/-- .. and the rest behind it -/
theorem W.quietR {P : Program} {N : Nat} {l : List Oper} {ρ : Env} {w : World} {id : Nat} {y : Code} {n : Env → World → Prop} {x : Nat → Env → World → Prop} {r : Env → World → Prop} (hm : P.follows .mixedOrders = true) (n0 : Nat) (hok : (drawOk N n0 l && Nat.ble n0 l.length && quietOk n0 l) = true)
    (h : WQ P l w (l.take n0) (fun ρ' => ∀ w', Up w w' → WL P N l.toArray (l.drop n0) (W P N y n x r) ρ' w') ρ) : W P N (.seq (.region id l.toArray true) y) n x r ρ w :=
  W.seq (W.quiet hm n0 hok h)

/-! ### a guarded stretch: 'a && b', 'a || b' -/
theorem WL.guardU {P : Program} {N : Nat} {ops : Array Oper} {K : Env → World → Prop} {ρ : Env} {w : World} {rest : List Oper} {o : Oper} {j : Nat} {want : Bool} (hg : o.guard = some (j, want))
    (hj : ∀ a, Real N a ρ → yielded ops a.tmps j ≠ some want) (hd : dstOk N o.dst = true) (h : WL P N ops rest K (upd ρ o.dst undef) w) : WL P N ops (o :: rest) K ρ w := by
  intro a ha Q hq
  refine wpList_step fun K' hK' => ?_
  have hy := hj a ha
  have hw : Region.wanted o (yielded ops a.tmps) = false := by
    simp only [Region.wanted, hg]
    simpa using hy
  rw [hw]
  simp only [Bool.false_eq_true, if_false]
  exact hK' _ _ (h _ (ha.put hd undef) Q hq)

/-- all of the stretch hangs on slot t (of operation j's) being 'want', or on what the stretch itself has yielded -/
def segOk (N : Nat) (ops : Array Oper) (t : Nat) (want : Bool) : List Nat → List Oper → Bool
  | _, [] => true
  | D, o :: r => dstOk N o.dst && (match o.guard with
      | none => false
      | some (j, wn) => match (ops[j]?).bind (·.dst) with | none => true | some s => (Nat.beq s t && wn == want && !D.contains t) || (D.contains s)) && segOk N ops t want (match o.dst with | none => D | some d => d :: D) r

theorem seg_skip {P : Program} {N : Nat} {ops : Array Oper} {t : Nat} {want : Bool} : ∀ (l : List Oper) (D : List Nat) (ρ : Env) (w : World) (K : Env → World → Prop), segOk N ops t want D l = true → (D.contains t = false → ev ρ (.tmp t) = .bool (!want)) → (∀ s, D.contains s = true → ev ρ (.tmp s) = undef) →
    (∀ ρ', (∀ s, (dsts l).contains s = false → ev ρ' (.tmp s) = ev ρ (.tmp s)) → K ρ' w) → WL P N ops l K ρ w
  | [], D, ρ, w, K, _, _, _, h => WL.nil (h ρ fun _ _ => rfl)
  | o :: r, D, ρ, w, K, hs, ht, hD, h => by
    simp only [segOk, Bool.and_eq_true] at hs
    obtain ⟨⟨hdst, hg⟩, hr⟩ := hs
    cases hgd : o.guard with
    | none => rw [hgd] at hg; cases hg
    | some jw =>
      obtain ⟨j, wn⟩ := jw
      rw [hgd] at hg
      refine WL.guardU hgd (fun a ha => ?_) hdst ?_
      · cases hj : (ops[j]?).bind (·.dst) with
        | none => unfold yielded; rw [hj]; simp
        | some s =>
          simp only [hj, Bool.or_eq_true, Bool.and_eq_true] at hg
          rcases hg with ⟨⟨h1, h2⟩, h3⟩ | h3
          · have e : s = t := Nat.eq_of_beq_eq_true h1
            have hb := ht (by simpa using h3)
            rw [yielded_slot ha hj (by rw [e]; exact hb)]
            have : wn = want := by simpa using h2
            rw [this]
            cases want <;> simp
          · have hu := hD s h3
            have hs' := ha.slot s
            unfold yielded
            rw [hj]
            simp only [Option.bind_some]
            have : ρ s = undef := hu
            rw [this] at hs'
            cases hx : a.tmps[s]? with
            | none => simp
            | some v => simp [Array.getD_eq_getD_getElem?, hx] at hs'; subst hs'; simp [undef]
      · refine seg_skip r _ _ w K hr ?_ ?_ ?_
        · intro hc
          cases hd : o.dst with
          | none => rw [hd] at hc; exact ht hc
          | some d =>
            rw [hd] at hc
            simp only [List.contains_cons, Bool.or_eq_false_iff] at hc
            rw [upd_ne (fun e => by cases e; simp at hc)]
            exact ht hc.2
        · intro s hc
          cases hd : o.dst with
          | none => rw [hd] at hc; exact hD s hc
          | some d =>
            rw [hd] at hc
            by_cases e : s = d
            · subst e; exact us
            · rw [upd_ne (fun e' => e (by cases e'; rfl))]
              simp only [List.contains_cons, Bool.or_eq_true] at hc
              exact hD s (hc.resolve_left (by simpa using e))
        · intro ρ' hag
          refine h ρ' fun s hsn => ?_
          cases hd : o.dst with
          | none =>
            have e : dsts (o :: r) = dsts r := by simp [dsts, hd]
            rw [e] at hsn
            rw [hag s hsn, hd]; rfl
          | some d =>
            have e : dsts (o :: r) = d :: dsts r := by simp [dsts, hd]
            rw [e] at hsn
            simp only [List.contains_cons, Bool.or_eq_false_iff] at hsn
            rw [hag s hsn.2, upd_ne (fun e' => by rw [hd] at e'; cases e'; simp at hsn)]

theorem WL.seg {P : Program} {N : Nat} {ops : Array Oper} {K : Env → World → Prop} {ρ : Env} {w : World} {l : List Oper} (k : Nat) {t x : Nat} {want b1 b2 : Bool} (hb : ev ρ (.tmp t) = .bool b1) (hok : segOk N ops t want [] (l.take k) = true)
    (hyes : b1 = want → WL P N ops (l.take k) (fun ρ' w' => (∀ s, (dsts (l.take k)).contains s = false → ev ρ' (.tmp s) = ev ρ (.tmp s)) ∧ ev ρ' (.tmp x) = .bool b2 ∧ Up w w') ρ w)
    (hk : ∀ ρ' w', Up w w' → (∀ s, (dsts (l.take k)).contains s = false → ev ρ' (.tmp s) = ev ρ (.tmp s)) → (b1 = want → ev ρ' (.tmp x) = .bool b2) → WL P N ops (l.drop k) K ρ' w') : WL P N ops l K ρ w := by
  refine WL.split k ?_
  by_cases e : b1 = want
  · exact (hyes e).mono fun ρ' w' ⟨h1, h2, h3⟩ => hk ρ' w' h3 h1 fun _ => h2
  · refine seg_skip (l.take k) [] ρ w _ hok (fun _ => by rw [hb]; cases b1 <;> cases want <;> simp_all) (fun s h => by simp at h) fun ρ' hag => hk ρ' w (Up.refl w) hag fun h => absurd h e

/-- .. in which nothing is made -/
theorem WL.seg0 {P : Program} {N : Nat} {ops : Array Oper} {K : Env → World → Prop} {ρ : Env} {w : World} {l : List Oper} (k : Nat) {t x : Nat} {want b1 b2 : Bool} (hb : ev ρ (.tmp t) = .bool b1) (hok : segOk N ops t want [] (l.take k) = true)
    (hyes : b1 = want → WL P N ops (l.take k) (fun ρ' w' => (∀ s, (dsts (l.take k)).contains s = false → ev ρ' (.tmp s) = ev ρ (.tmp s)) ∧ ev ρ' (.tmp x) = .bool b2 ∧ w' = w) ρ w)
    (hk : ∀ ρ', (∀ s, (dsts (l.take k)).contains s = false → ev ρ' (.tmp s) = ev ρ (.tmp s)) → (b1 = want → ev ρ' (.tmp x) = .bool b2) → WL P N ops (l.drop k) K ρ' w) : WL P N ops l K ρ w := by
  refine WL.split k ?_
  by_cases e : b1 = want
  · exact (hyes e).mono fun ρ' w' ⟨h1, h2, h3⟩ => by subst h3; exact hk ρ' h1 fun _ => h2
  · refine seg_skip (l.take k) [] ρ w _ hok (fun _ => by rw [hb]; cases b1 <;> cases want <;> simp_all) (fun s h => by simp at h) fun ρ' hag => hk ρ' hag fun h => absurd h e

theorem ag0 {ρ : Env} {D : List Nat} : ∀ s, D.contains s = false → ev ρ (.tmp s) = ev ρ (.tmp s) := fun _ _ => rfl
theorem ag {ρ ρ0 : Env} {D : List Nat} {d : Nat} {v : Value} (h : ∀ s, D.contains s = false → ev ρ (.tmp s) = ev ρ0 (.tmp s)) (hd : D.contains d = true := by rfl) : ∀ s, D.contains s = false → ev (upd ρ (some d) v) (.tmp s) = ev ρ0 (.tmp s) := fun s hs => by
  rw [upd_ne (fun e => by cases e; rw [hd] at hs; cases hs)]; exact h s hs
theorem agn {ρ ρ0 : Env} {D : List Nat} {v : Value} (h : ∀ s, D.contains s = false → ev ρ (.tmp s) = ev ρ0 (.tmp s)) : ∀ s, D.contains s = false → ev (upd ρ none v) (.tmp s) = ev ρ0 (.tmp s) := h
theorem agT {ρ ρ1 ρ0 : Env} {D D' : List Nat} (h' : ∀ s, D'.contains s = false → ev ρ (.tmp s) = ev ρ1 (.tmp s)) (h : ∀ s, D.contains s = false → ev ρ1 (.tmp s) = ev ρ0 (.tmp s)) (hd : (D'.all fun d => D.contains d) = true := by rfl) : ∀ s, D.contains s = false → ev ρ (.tmp s) = ev ρ0 (.tmp s) := fun s hs => by
  rw [h' s ?_]
  · exact h s hs
  · cases hc : D'.contains s with
    | false => rfl
    | true =>
      have := List.all_eq_true.1 hd s (by simpa using hc)
      rw [this] at hs; cases hs

end Go.Tw
