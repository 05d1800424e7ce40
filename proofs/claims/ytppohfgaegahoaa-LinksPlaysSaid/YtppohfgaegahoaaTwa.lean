/- A small calculus over the kit's wp: frames as functions from slots to values, one rule for each form of code. It speaks of no program. -/
import Derived.Tactics2
import Derived.Orders
import Derived.Below
namespace Go.Tw
open Go.RowKit

abbrev Env := Nat → Value

def upd (ρ : Env) (d : Option Nat) (v : Value) : Env := match d with | none => ρ | some d => fun t => bif Nat.beq t d then v else ρ t

def ev (ρ : Env) : Operand → Value
  | .tmp t => ρ t
  | .const v => v
  | .global g => .pointer (some ⟨g, 0, none⟩)
  | .func f => .func (.func f) #[] #[]

theorem us {ρ : Env} {d : Nat} {v : Value} : ev (upd ρ (some d) v) (.tmp d) = v := by simp [ev, upd]
theorem un {ρ : Env} {d t : Nat} {v u : Value} (h : ev ρ (.tmp t) = u) (hne : Nat.beq t d = false := by rfl) : ev (upd ρ (some d) v) (.tmp t) = u := by
  have h' : ρ t = u := h
  simp [ev, upd, hne, h']
theorem un0 {ρ : Env} {t : Nat} {v u : Value} (h : ev ρ (.tmp t) = u) : ev (upd ρ none v) (.tmp t) = u := h
theorem uc {ρ : Env} {v : Value} : ev ρ (.const v) = v := rfl
theorem ug {ρ : Env} {g : Nat} : ev ρ (.global g) = .pointer (some ⟨g, 0, none⟩) := rfl
theorem uf {ρ : Env} {f : Nat} : ev ρ (.func f) = .func (.func f) #[] #[] := rfl

structure Real (N : Nat) (a : Act) (ρ : Env) : Prop where
  defers : a.defers = []
  size : a.tmps.size = N
  slot : ∀ t, a.tmps.getD t undef = ρ t

theorem Real.eval {N : Nat} {a : Act} {ρ : Env} (h : Real N a ρ) : a.eval = ev ρ := by
  funext x
  cases x with
  | tmp t => exact h.slot t
  | _ => rfl

def dstOk (N : Nat) : Option Nat → Bool
  | none => true
  | some d => Nat.blt d N

theorem Real.put {N : Nat} {a : Act} {ρ : Env} (h : Real N a ρ) {d : Option Nat} (hd : dstOk N d = true) (v : Value) : Real N (a.put d v) (upd ρ d v) := by
  cases d with
  | none => exact h
  | some d =>
    have hd' : d < N := by simpa [dstOk] using hd
    refine ⟨h.defers, by simp [Act.put, h.size], fun t => ?_⟩
    have hs := h.slot t
    by_cases e : t = d
    · subst e
      simp [Act.put, upd, h.size, hd']
    · have : Nat.beq t d = false := by
        cases h : Nat.beq t d with
        | false => rfl
        | true => exact absurd (Nat.eq_of_beq_eq_true h) e
      simp only [upd, this, cond_false]
      rw [← hs]
      simp only [Act.put, Array.getD_eq_getD_getElem?]
      rw [Array.getElem?_setIfInBounds_ne (by omega)]

/-- what holds behind a piece of code: at its end (n); where it leaves a block (x); where it returns (r) -/
def Ends (n : Env → World → Prop) (x : Nat → Env → World → Prop) (r : Env → World → Prop) : Exit → Env → World → Prop
  | .normal => n
  | .exit id => x id
  | .ret => r
  | _ => fun _ _ => False

/-- CODE: from a frame that holds ρ, in the world w. -/
def W (P : Program) (N : Nat) (c : Code) (n : Env → World → Prop) (x : Nat → Env → World → Prop) (r : Env → World → Prop) (ρ : Env) (w : World) : Prop :=
  ∀ a, Real N a ρ → c.wp P (fun e a' w' => ∃ ρ', Real N a' ρ' ∧ Ends n x r e ρ' w') a w

/-- AN OPERATION yields a value in a world. -/
def StepR (P : Program) (K : Value → World → Prop) : Result Next → Prop
  | .ok (.value v) w' => K v w'
  | .ok .skip w' => K undef w'
  | .ok (.enter f args) w' => Calls P f args w' (fun e w'' => ∃ v, e = .returned v ∧ K v w'')
  | _ => False

def Step (P : Program) (o : Oper) (ρ : Env) (w : World) (K : Value → World → Prop) : Prop := StepR P K ((execOp (ev ρ) o).run P w)

theorem StepR.mono {P : Program} {K K' : Value → World → Prop} {r : Result Next} (h : StepR P K r) (hk : ∀ v w, K v w → K' v w) : StepR P K' r := by
  cases r with
  | ok n w' =>
    cases n <;> simp only [StepR] at h ⊢
    case value v => exact hk _ _ h
    case skip => exact hk _ _ h
    case enter f args => exact h.mono fun e w'' ⟨v, he, hv⟩ => ⟨v, he, hk _ _ hv⟩
  | halt x w' => exact h

theorem Step.mono {P : Program} {o : Oper} {ρ : Env} {w : World} {K K' : Value → World → Prop} (h : Step P o ρ w K) (hk : ∀ v w, K v w → K' v w) : Step P o ρ w K' :=
  StepR.mono h hk

theorem Step.wp {P : Program} {N : Nat} {o : Oper} {ρ : Env} {w : World} {K : Value → World → Prop} (h : Step P o ρ w K) {a : Act} (ha : Real N a ρ) {K' : Act → World → Prop} {Q : Exit → Act → World → Prop}
    (hk : ∀ v w', K v w' → K' (a.put o.dst v) w') : o.wp P a w K' Q := by
  unfold Step at h
  unfold Oper.wp
  rw [ha.eval]
  generalize (execOp (ev ρ) o).run P w = r at *
  cases r with
  | ok n w' =>
    cases n <;> simp only [StepR] at h <;> simp only [Oper.upon]
    case value v => exact hk _ _ h
    case skip => exact hk _ _ h
    case enter f args => exact h.mono fun e w'' ⟨v, he, hv⟩ => by subst he; exact hk _ _ hv
  | halt x w' => exact h.elim

/-- A LIST OF OPERATIONS (of the region 'ops'), one behind the other. -/
def WL (P : Program) (N : Nat) (ops : Array Oper) (l : List Oper) (K : Env → World → Prop) (ρ : Env) (w : World) : Prop :=
  ∀ a, Real N a ρ → ∀ Q : Exit → Act → World → Prop, (∀ a' ρ' w', Real N a' ρ' → K ρ' w' → Q .normal a' w') → wpList P ops Q l a w

section
variable {P : Program} {N : Nat} {ops : Array Oper} {K : Env → World → Prop} {ρ : Env} {w : World} {rest : List Oper} {o : Oper}

theorem WL.nil (h : K ρ w) : WL P N ops [] K ρ w := fun a ha _ hq => hq a ρ w ha h

theorem WL.mono {l : List Oper} {K' : Env → World → Prop} (h : WL P N ops l K ρ w) (hk : ∀ ρ w, K ρ w → K' ρ w) : WL P N ops l K' ρ w :=
  fun a ha Q hq => h a ha Q fun a' ρ' w' hr k => hq a' ρ' w' hr (hk _ _ k)

theorem WL.cons {d : Option Nat} {op : Op} {ty : TypeId} {ps : String} {af : Array Edge} (hd : dstOk N d = true) (h : Step P ⟨d, op, ty, ps, af, none⟩ ρ w (fun v w' => WL P N ops rest K (upd ρ d v) w')) : WL P N ops (⟨d, op, ty, ps, af, none⟩ :: rest) K ρ w := by
  intro a ha Q hq
  refine wpList_plain rfl fun K' hK' => ?_
  exact h.wp ha fun v w' hv => hK' _ _ (hv _ (ha.put hd v) Q hq)

theorem yielded_slot {ops : Array Oper} {j t : Nat} {a : Act} {b : Bool} (ha : Real N a ρ) (hj : (ops[j]?).bind (·.dst) = some t) (hb : ev ρ (.tmp t) = .bool b) : yielded ops a.tmps j = some b := by
  have hs := ha.slot t
  rw [show ρ t = .bool b from hb] at hs
  unfold yielded
  rw [hj]
  simp only [Option.bind_some]
  cases h : a.tmps[t]? with
  | none => simp [Array.getD_eq_getD_getElem?, h, undef] at hs
  | some v => simp [Array.getD_eq_getD_getElem?, h] at hs; subst hs; rfl

theorem WL.guard {j t : Nat} {want b : Bool} (hg : o.guard = some (j, want)) (hj : (ops[j]?).bind (·.dst) = some t) (hb : ev ρ (.tmp t) = .bool b) (hd : dstOk N o.dst = true)
    (h : if b = want then Step P o ρ w (fun v w' => WL P N ops rest K (upd ρ o.dst v) w') else WL P N ops rest K (upd ρ o.dst undef) w) : WL P N ops (o :: rest) K ρ w := by
  intro a ha Q hq
  refine wpList_step fun K' hK' => ?_
  have hy := yielded_slot ha hj hb
  have hw : Region.wanted o (yielded ops a.tmps) = decide (b = want) := by
    simp only [Region.wanted, hg, hy]
    cases b <;> cases want <;> decide
  rw [hw]
  by_cases e : b = want
  · simp only [e, decide_true, if_true] at h ⊢
    exact h.wp ha fun v w' hv => hK' _ _ (hv _ (ha.put hd v) Q hq)
  · simp only [e, decide_false, if_false, Bool.false_eq_true] at h ⊢
    exact hK' _ _ (h _ (ha.put hd undef) Q hq)

theorem WL.guardY {j t : Nat} {want : Bool} {d : Option Nat} {op : Op} {ty : TypeId} {ps : String} {af : Array Edge} (hj : (ops[j]?).bind (·.dst) = some t) (hb : ev ρ (.tmp t) = .bool want) (hd : dstOk N d = true)
    (h : Step P ⟨d, op, ty, ps, af, some (j, want)⟩ ρ w (fun v w' => WL P N ops rest K (upd ρ d v) w')) : WL P N ops (⟨d, op, ty, ps, af, some (j, want)⟩ :: rest) K ρ w :=
  WL.guard rfl hj hb hd (by rw [if_pos rfl]; exact h)

theorem WL.guardN {j t : Nat} {want : Bool} {d : Option Nat} {op : Op} {ty : TypeId} {ps : String} {af : Array Edge} (hj : (ops[j]?).bind (·.dst) = some t) (hb : ev ρ (.tmp t) = .bool (!want)) (hd : dstOk N d = true)
    (h : WL P N ops rest K (upd ρ d undef) w) : WL P N ops (⟨d, op, ty, ps, af, some (j, want)⟩ :: rest) K ρ w :=
  WL.guard rfl hj hb hd (by rw [if_neg (by cases want <;> simp)]; exact h)

/-- A list in two parts. -/
theorem WL.append {l₁ l₂ : List Oper} (h : WL P N ops l₁ (WL P N ops l₂ K) ρ w) : WL P N ops (l₁ ++ l₂) K ρ w := by
  intro a ha Q hq
  have key : ∀ (l : List Oper) (a : Act) (w : World), wpList P ops (fun e a' w' => e = .normal ∧ wpList P ops Q l₂ a' w') l a w → LetsOut Q ∨ True → wpList P ops Q (l ++ l₂) a w := by
    intro l
    induction l with
    | nil => intro a w h _; exact h.2
    | cons o l ih =>
      intro a w h _
      simp only [List.cons_append, wpList] at h ⊢
      split
      · rename_i hw
        rw [if_pos hw] at h
        rcases h with h | ⟨_, a₀, w₀, h0⟩
        · left
          have hmono : ∀ a w, wpList P ops (fun e a' w' => e = .normal ∧ wpList P ops Q l₂ a' w') l a w → wpList P ops Q (l ++ l₂) a w := fun a w h => ih a w h (.inr trivial)
          unfold Oper.wp at *
          generalize (execOp a.eval o).run P w = r at *
          cases r with
          | ok n w' =>
            cases n <;> simp only [Oper.upon] at h ⊢
            case value v => exact hmono _ _ h
            case skip => exact hmono _ _ h
            case defer d => exact hmono _ _ h
            case enter f args =>
              refine Calls.mono h fun e w'' he => ?_
              cases e with
              | returned v => exact hmono _ _ he
              | panicked c => cases he.1
              | outgrown => obtain ⟨_, _, h0⟩ := he; cases h0.1
            case row row args => exact Rows.mono h fun v w'' he => hmono _ _ he
          | halt x w' =>
            cases x <;> simp only [Oper.upon] at h ⊢
            case panic v => cases h.1
        · cases h0.1
      · rename_i hw
        rw [if_neg hw] at h
        exact ih _ _ h (.inr trivial)
  refine key l₁ a w ?_ (.inr trivial)
  exact h a ha _ fun a' ρ' w' hr hk => ⟨rfl, hk a' hr Q hq⟩

theorem WL.split (k : Nat) {l : List Oper} (h : WL P N ops (l.take k) (WL P N ops (l.drop k) K) ρ w) : WL P N ops l K ρ w := by
  have := WL.append h
  rwa [List.take_append_drop] at this
end

/-! ### code -/
section
variable {P : Program} {N : Nat} {n : Env → World → Prop} {x : Nat → Env → World → Prop} {r : Env → World → Prop} {ρ : Env} {w : World}

theorem W.gen {c : Code} (h : ∀ ρ', (∀ t, ev ρ' (.tmp t) = ev ρ (.tmp t)) → W P N c n x r ρ' w) : W P N c n x r ρ w := h ρ fun _ => rfl

theorem W.mono {c : Code} {n' : Env → World → Prop} {x' : Nat → Env → World → Prop} {r' : Env → World → Prop} (h : W P N c n x r ρ w) (hn : ∀ ρ w, n ρ w → n' ρ w) (hx : ∀ i ρ w, x i ρ w → x' i ρ w) (hr : ∀ ρ w, r ρ w → r' ρ w) : W P N c n' x' r' ρ w :=
  fun a ha => wp_mono (h a ha) fun e _ _ ⟨ρ', hr', h⟩ => ⟨ρ', hr', by
    cases e <;> first
      | exact hn _ _ h
      | exact hx _ _ _ h
      | exact hr _ _ h
      | exact h⟩

theorem W.seq {c₁ c₂ : Code} (h : W P N c₁ (W P N c₂ n x r) x r ρ w) : W P N (.seq c₁ c₂) n x r ρ w := by
  intro a ha
  refine wp_seq (wp_mono (h a ha) ?_)
  intro e a' w' ⟨ρ', hr, h⟩
  cases e <;> first
    | exact h a' hr
    | exact ⟨ρ', hr, h⟩

/-- ways that meet again: what the rest needs to know -/
theorem W.join {c₁ c₂ : Code} (M : Env → World → Prop) (h : W P N c₁ M x r ρ w) (hy : ∀ ρ w, M ρ w → W P N c₂ n x r ρ w) : W P N (.seq c₁ c₂) n x r ρ w :=
  W.seq (W.mono h hy (fun _ _ _ h => h) (fun _ _ h => h))

theorem W.meet {c : Code} (M : Env → World → Prop) (h : W P N c M x r ρ w) (hy : ∀ ρ w, M ρ w → n ρ w) : W P N c n x r ρ w := W.mono h hy (fun _ _ _ h => h) (fun _ _ h => h)

theorem W.skip (h : n ρ w) : W P N .skip n x r ρ w := fun _ ha => wp_skip ⟨ρ, ha, h⟩
theorem W.ret (h : r ρ w) : W P N .ret n x r ρ w := fun _ ha => wp_ret ⟨ρ, ha, h⟩
theorem W.exit {id : Nat} (h : x id ρ w) : W P N (.exit id) n x r ρ w := fun _ ha => wp_exit ⟨ρ, ha, h⟩

theorem W.cond {c : Operand} {c₁ c₂ : Code} {b : Bool} (hc : ev ρ c = .bool b) (ht : b = true → W P N c₁ n x r ρ w) (hf : b = false → W P N c₂ n x r ρ w) : W P N (.cond c c₁ c₂) n x r ρ w := by
  intro a ha
  have hc' : a.eval c = .bool b := by rw [ha.eval]; exact hc
  exact wp_cond_split hc' (fun e => ht e a ha) (fun e => hf e a ha)

theorem W.condT {c : Operand} {c₁ c₂ : Code} {b : Bool} (hc : ev ρ c = .bool b) (hb : b = true) (ht : W P N c₁ n x r ρ w) : W P N (.cond c c₁ c₂) n x r ρ w := W.cond hc (fun _ => ht) (fun e => by rw [hb] at e; cases e)
theorem W.condF {c : Operand} {c₁ c₂ : Code} {b : Bool} (hc : ev ρ c = .bool b) (hb : b = false) (hf : W P N c₂ n x r ρ w) : W P N (.cond c c₁ c₂) n x r ρ w := W.cond hc (fun e => by rw [hb] at e; cases e) (fun _ => hf)

theorem exitHere {id : Nat} {A B : Prop} (h : A) : (bif Nat.beq id id then A else B) := by
  have : Nat.beq id id = true := by simp
  rw [this]; exact h
theorem exitOut {i id : Nat} {A B : Prop} (hne : Nat.beq i id = false) (h : B) : (bif Nat.beq i id then A else B) := by rw [hne]; exact h

theorem W.block {id : Nat} {c : Code} (h : W P N c n (fun i ρ w => bif Nat.beq i id then n ρ w else x i ρ w) r ρ w) : W P N (.block id c) n x r ρ w := by
  intro a ha
  refine wp_block (wp_mono (h a ha) ?_)
  intro e a' w' ⟨ρ', hr, h⟩
  cases e <;> first
    | exact ⟨ρ', hr, h⟩
    | (rename_i id'
       simp only [Ends] at h
       simp only [Exit.inBlock]
       split
       · rename_i e; subst e; exact ⟨ρ', hr, by show n ρ' w'; simpa using h⟩
       · rename_i e
         have : Nat.beq id' id = false := by
           cases h : Nat.beq id' id with
           | false => rfl
           | true => exact absurd (Nat.eq_of_beq_eq_true h) e
         rw [this] at h
         exact ⟨ρ', hr, h⟩)

/-- A loop by the number of rounds that are left: 'I n' holds at the head when n rounds are left. -/
theorem W.loop {c : Code} (I : Nat → Env → World → Prop) (k₀ : Nat) (h₀ : I k₀ ρ w)
    (round : ∀ k ρ w, I k ρ w → W P N c (fun ρ' w' => ∃ m, m < k ∧ I m ρ' w') x r ρ w) : W P N (.loop c) n x r ρ w := by
  intro a ha b k cs
  have key : ∀ k₁ ρ w a, I k₁ ρ w → Real N a ρ →
      ∃ e a' w', (∃ ρ', Real N a' ρ' ∧ Ends n x r e ρ' w') ∧ Arrives P (lone (b.at a (.code c :: .inLoop c :: k)) cs w) b k cs e a' w' := by
    intro k₁
    induction k₁ using Nat.strongRecOn with
    | _ k₁ ih =>
      intro ρ w a hI ha
      obtain ⟨e, a₁, w₁, ⟨ρ₁, hr₁, hq⟩, harr⟩ := round k₁ ρ w hI a ha b (.inLoop c :: k) cs
      cases e with
      | normal =>
        obtain ⟨m, hm, hI₁⟩ := hq
        obtain ⟨e₂, a₂, w₂, hq₂, harr₂⟩ := ih m hm ρ₁ w₁ a₁ hI₁ hr₁
        exact ⟨e₂, a₂, w₂, hq₂, .of_steps (Steps.trans harr (.one step_inLoop)) harr₂⟩
      | exit id => exact ⟨.exit id, a₁, w₁, ⟨ρ₁, hr₁, hq⟩, .pass (x := .inLoop c) rfl (fun _ _ => .inl (by simp)) harr⟩
      | goto l => exact ⟨.goto l, a₁, w₁, ⟨ρ₁, hr₁, hq⟩, .pass (x := .inLoop c) rfl (fun _ _ => .inl (by simp)) harr⟩
      | ret => exact ⟨.ret, a₁, w₁, ⟨ρ₁, hr₁, hq⟩, .pass (x := .inLoop c) rfl (fun _ _ => .inl (by simp)) harr⟩
      | panic ch => exact ⟨.panic ch, a₁, w₁, ⟨ρ₁, hr₁, hq⟩, .pass (x := .inLoop c) rfl (fun _ _ => .inl (by simp)) harr⟩
      | outgrown => exact ⟨.outgrown, a₁, w₁, ⟨ρ₁, hr₁, hq⟩, .pass (x := .inLoop c) rfl (fun _ _ => .inl (by simp)) harr⟩
  obtain ⟨e, a', w', hq, harr⟩ := key _ ρ w a h₀ ha
  exact ⟨e, a', w', hq, .of_steps (.one step_loop) harr⟩

theorem W.endR {id : Nat} {l : List Oper} (h : WL P N l.toArray l n ρ w) : W P N (.region id l.toArray false) n x r ρ w := by
  intro a ha
  exact wp_region_lit (h a ha _ fun a' ρ' w' hr k => ⟨ρ', hr, k⟩)

/-- A statement, then the rest. -/
theorem W.seqR {id : Nat} {l : List Oper} {y : Code} (h : WL P N l.toArray l (W P N y n x r) ρ w) : W P N (.seq (.region id l.toArray false) y) n x r ρ w :=
  W.seq (W.endR h)
end

/-- what a test says -/
theorem tests : (∀ (p : Prop) [Decidable p], (decide p = true) = p) ∧ (∀ (p : Prop) [Decidable p], (decide p = false) = ¬ p) ∧ (∀ b : Bool, ((!b) = true) = (b = false)) ∧ (∀ b : Bool, ((!b) = false) = (b = true)) :=
  ⟨fun p _ => by simp, fun p _ => by simp, fun b => by simp, fun b => by simp⟩
end Go.Tw
