/- A region that draws its order: every order, by facts that stay. It speaks of no program. -/
import Derived.Test.YtppohfgaegahoaaTwa
namespace Go.Tw
open Go.RowKit

def Up (w w' : World) : Prop := Below w.heap.size w w'
theorem Up.refl (w : World) : Up w w := Below.refl _ _
theorem Up.trans {a b c : World} (h : Up a b) (k : Up b c) : Up a c := Below.trans h (Below.mono k h.size)
theorem Up.drew {w : World} : Up w { w with drawn := w.drawn + 1 } := ⟨rfl, rfl, rfl, Nat.le_refl _, fun _ _ => rfl⟩

def maskOf (acc : List Nat) (o : Oper) : Nat := o.after.toList.foldl (fun s e => if Region.binds .any e then s ||| 2 ^ e.on ||| acc.getD e.on 0 else s) 0

def masks : List Oper → List Nat → List Nat
  | [], acc => acc
  | o :: r, acc => masks r (acc ++ [maskOf acc o])

theorem maskOf_bit {acc : List Nat} {o : Oper} {j : Nat} (h : (maskOf acc o).testBit j = true) : ∃ e ∈ o.after, Region.binds .any e = true ∧ (e.on = j ∨ (acc.getD e.on 0).testBit j = true) := by
  unfold maskOf at h
  have key : ∀ (es : List Edge) (s : Nat), (es.foldl (fun s e => if Region.binds .any e then s ||| 2 ^ e.on ||| acc.getD e.on 0 else s) s).testBit j = true →
      s.testBit j = true ∨ ∃ e ∈ es, Region.binds .any e = true ∧ (e.on = j ∨ (acc.getD e.on 0).testBit j = true) := by
    intro es
    induction es with
    | nil => intro s h; exact .inl h
    | cons e es ih =>
      intro s h
      rw [List.foldl_cons] at h
      rcases ih _ h with h | ⟨e', he', hb⟩
      · split at h
        · rename_i hb
          rw [Nat.testBit_or, Nat.testBit_or, Bool.or_eq_true, Bool.or_eq_true] at h
          rcases h with (h | h) | h
          · exact .inl h
          · rw [Nat.testBit_two_pow] at h
            exact .inr ⟨e, by simp, hb, .inl (by simpa using h)⟩
          · exact .inr ⟨e, by simp, hb, .inr h⟩
        · exact .inl h
      · exact .inr ⟨e', by simp [he'], hb⟩
  rcases key _ _ h with h | ⟨e, he, hb⟩
  · simp at h
  · exact ⟨e, by simpa using he, hb⟩

theorem masks_spec : ∀ (l : List Oper) (acc : List Nat), (masks l acc).length = acc.length + l.length ∧ (masks l acc).take acc.length = acc ∧
    ∀ i o, l[i]? = some o → (masks l acc).getD (acc.length + i) 0 = maskOf ((masks l acc).take (acc.length + i)) o
  | [], acc => by simp [masks]
  | o :: r, acc => by
    obtain ⟨h1, h2, h3⟩ := masks_spec r (acc ++ [maskOf acc o])
    simp only [masks]
    have e1 : (acc ++ [maskOf acc o]).length = acc.length + 1 := by simp
    rw [e1] at h1 h2 h3
    have h4 : (masks r (acc ++ [maskOf acc o])).take acc.length = acc := by
      have := congrArg (List.take acc.length) h2
      rw [List.take_take] at this
      rw [Nat.min_eq_left (by omega)] at this
      rw [this]; simp
    refine ⟨by rw [h1]; simp; omega, h4, fun i o' hi => ?_⟩
    cases i with
    | zero =>
      simp at hi
      subst hi
      rw [Nat.add_zero, h4]
      have := congrArg (fun x => x.getD acc.length 0) h2
      simp only [List.getD_eq_getElem?_getD] at this ⊢
      rw [List.getElem?_take_of_lt (by omega)] at this
      rw [this]; simp
    | succ i =>
      have := h3 i o' (by simpa using hi)
      rw [show acc.length + 1 + i = acc.length + (i + 1) by omega] at this
      exact this

def dsts (l : List Oper) : List Nat := l.filterMap (·.dst)

def pre (l : List Oper) (i j : Nat) : Bool := ((masks l []).getD i 0).testBit j

def drawOk (N n0 : Nat) (l : List Oper) : Bool :=
  (l.zipIdx.all fun x => x.1.after.toList.all fun e => !Region.binds .any e || Nat.blt e.on x.2) &&
  ((l.take n0).all fun o => match o.dst with | some d => Nat.blt d N | none => false) &&
  decide (dsts (l.take n0)).Nodup &&
  ((List.range l.length).all fun k => Nat.blt k n0 || (List.range k).all fun j => pre l k j)

/-- What is asked of one operation, its guard in mind. -/
def GStep (P : Program) (l : List Oper) (o : Oper) (ρ : Env) (w : World) (K : Value → World → Prop) : Prop :=
  match o.guard with
  | none => Step P o ρ w K
  | some (j, want) => ∃ t b, (l[j]?).bind (·.dst) = some t ∧ ev ρ (.tmp t) = .bool b ∧ if b = want then Step P o ρ w K else K undef w

section
variable {P : Program} {N n0 : Nat} {l : List Oper} {K : Env → World → Prop} {ρ : Env} {w : World} {F : Nat → Value → World → Prop}

def slotOf (ρ : Env) (o : Oper) : Value := match o.dst with | some d => ev ρ (.tmp d) | none => undef

structure DInv (N n0 : Nat) (l : List Oper) (F : Nat → Value → World → Prop) (ρ : Env) (w : World) (listed : Array Bool) (a : Act) (w' : World) : Prop where
  size : listed.size = l.length
  closed : ∀ i o, l[i]? = some o → listed.getD i false = true → ∀ e ∈ o.after, Region.binds .any e = true → listed.getD e.on false = true
  tail : ∀ k, n0 ≤ k → listed.getD k false = false
  up : Up w w'
  env : ∃ ρ', Real N a ρ' ∧ (∀ t, t ∉ dsts (l.take n0) → ρ' t = ρ t) ∧ ∀ i o, l[i]? = some o → listed.getD i false = true → F i (slotOf ρ' o) w'

structure DInvP (N n0 p : Nat) (et : Nat → Bool) (l : List Oper) (F : Nat → Value → World → Prop) (ρ : Env) (w : World) (listed : Array Bool) (a : Act) (w' : World) : Prop where
  size : listed.size = l.length
  closed : ∀ i o, l[i]? = some o → listed.getD i false = true → ∀ e ∈ o.after, Region.binds .any e = true → listed.getD e.on false = true
  tail : ∀ k, n0 ≤ k → listed.getD k false = false
  up : Up w w'
  env : ∃ ρ', Real N a ρ' ∧ (∀ t, t ∉ dsts (l.take n0) → ρ' t = ρ t) ∧ ∀ i o, l[i]? = some o → listed.getD i false = true → (et i = true ∨ listed.getD p false = false) → F i (slotOf ρ' o) w'


theorem pre_listed {listed : Array Bool} (hb : ∀ i o, l[i]? = some o → ∀ e ∈ o.after, Region.binds .any e = true → e.on < i)
    (closed : ∀ i o, l[i]? = some o → listed.getD i false = true → ∀ e ∈ o.after, Region.binds .any e = true → listed.getD e.on false = true) :
    ∀ i o, l[i]? = some o → (∀ e ∈ o.after, Region.binds .any e = true → listed.getD e.on false = true) → ∀ j, pre l i j = true → listed.getD j false = true := by
  intro i
  induction i using Nat.strongRecOn with
  | _ i ih =>
    intro o ho hall j hj
    obtain ⟨_, _, h3⟩ := masks_spec l []
    have hm := h3 i o ho
    simp only [List.length_nil, Nat.zero_add] at hm
    unfold pre at hj
    rw [hm] at hj
    obtain ⟨e, he, hbe, h | h⟩ := maskOf_bit hj
    · rw [← h]; exact hall e he hbe
    · have hlt := hb i o ho e he hbe
      have hgl : e.on < l.length := by
        have := (List.getElem?_eq_some_iff.1 ho).1
        omega
      have h' : pre l e.on j = true := by
        unfold pre
        rw [List.getD_eq_getElem?_getD, List.getElem?_take_of_lt hlt] at h
        rw [List.getD_eq_getElem?_getD]; exact h
      exact ih e.on hlt l[e.on] (by simp [hgl]) (closed e.on _ (by simp [hgl]) (hall e he hbe)) j h'

theorem getD_set_self {listed : Array Bool} {i : Nat} (h : i < listed.size) : (listed.setIfInBounds i true).getD i false = true := by
  simp [Array.getD_eq_getD_getElem?, h]

theorem getD_ft {listed : Array Bool} {i : Nat} (h : i < listed.size) : listed.getD i true = listed.getD i false := by
  simp [Array.getD_eq_getD_getElem?, h]

theorem nodup_at : ∀ {l : List Oper} {i j : Nat} {oi oj : Oper} {d : Nat}, (dsts l).Nodup → l[i]? = some oi → l[j]? = some oj → oi.dst = some d → oj.dst = some d → i = j
  | [], i, _, _, _, _, _, hi, _, _, _ => by simp at hi
  | o :: l, i, j, oi, oj, d, hn, hi, hj, hdi, hdj => by
    have hmem : ∀ {k : Nat} {ok : Oper}, l[k]? = some ok → ok.dst = some d → d ∈ dsts l := fun hk hd => List.mem_filterMap.2 ⟨_, List.mem_of_getElem? hk, hd⟩
    have hcons : ∀ d', o.dst = some d' → dsts (o :: l) = d' :: dsts l := fun d' h => by simp [dsts, h]
    have htl : (dsts l).Nodup := by
      cases h : o.dst with
      | none => have : dsts (o :: l) = dsts l := by simp [dsts, h]
                rwa [this] at hn
      | some d' => rw [hcons d' h] at hn; exact (List.nodup_cons.1 hn).2
    cases i with
    | zero =>
      cases j with
      | zero => rfl
      | succ j =>
        simp at hi hj
        subst hi
        rw [hcons d hdi] at hn
        exact absurd (hmem hj hdj) (List.nodup_cons.1 hn).1
    | succ i =>
      cases j with
      | zero =>
        simp at hi hj
        subst hj
        rw [hcons d hdj] at hn
        exact absurd (hmem hi hdi) (List.nodup_cons.1 hn).1
      | succ j =>
        simp at hi hj
        rw [nodup_at htl hi hj hdi hdj]

/-- how many are still to come -/
def left (n : Nat) (listed : Array Bool) : Nat := ((List.range n).filter fun i => !listed.getD i false).length

theorem left_set {n i : Nat} {listed : Array Bool} (hi : i < n) (hs : i < listed.size) (h : listed.getD i false = false) : left n (listed.setIfInBounds i true) + 1 = left n listed := by
  unfold left
  have key : ∀ (L : List Nat), L.Nodup → (i ∈ L → (L.filter fun k => !(listed.setIfInBounds i true).getD k false).length + 1 = (L.filter fun k => !listed.getD k false).length) ∧
      (i ∉ L → (L.filter fun k => !(listed.setIfInBounds i true).getD k false).length = (L.filter fun k => !listed.getD k false).length) := by
    intro L
    induction L with
    | nil => intro _; exact ⟨fun h => by simp at h, fun _ => rfl⟩
    | cons k L ih =>
      intro hn
      obtain ⟨h1, h2⟩ := List.nodup_cons.1 hn
      obtain ⟨i1, i2⟩ := ih h2
      by_cases hk : k = i
      · subst hk
        refine ⟨fun _ => ?_, fun h => absurd (by simp) h⟩
        rw [List.filter_cons_of_neg (by simp [getD_set_self hs]), List.filter_cons_of_pos (by simp [h]), List.length_cons, i2 h1]
      · have e : (listed.setIfInBounds i true).getD k false = listed.getD k false := getD_set_ne false (Ne.symm hk)
        constructor
        · intro hm
          have hm' : i ∈ L := by
            rcases List.mem_cons.1 hm with h | h
            · exact absurd h.symm hk
            · exact h
          by_cases hv : listed.getD k false = true
          · rw [List.filter_cons_of_neg (by simp [e, hv]), List.filter_cons_of_neg (by simp [hv])]; exact i1 hm'
          · rw [List.filter_cons_of_pos (by simpa [e] using hv), List.filter_cons_of_pos (by simpa using hv), List.length_cons, List.length_cons]; have := i1 hm'; omega
        · intro hm
          have hm' : i ∉ L := fun h => hm (by simp [h])
          by_cases hv : listed.getD k false = true
          · rw [List.filter_cons_of_neg (by simp [e, hv]), List.filter_cons_of_neg (by simp [hv])]; exact i2 hm'
          · rw [List.filter_cons_of_pos (by simpa [e] using hv), List.filter_cons_of_pos (by simpa using hv), List.length_cons, List.length_cons]; have := i2 hm'; omega
  exact (key _ List.nodup_range).1 (List.mem_range.2 hi)

theorem left_zero {n : Nat} {listed : Array Bool} (h : left n listed = 0) : ∀ i, i < n → listed.getD i false = true := by
  intro i hi
  unfold left at h
  have h0 := List.eq_nil_of_length_eq_zero h
  rw [List.filter_eq_nil_iff] at h0
  simpa using h0 i (List.mem_range.2 hi)

theorem left_none (n : Nat) (m : Nat) (h : n ≤ m) : left n (Array.replicate m false) = n := by
  unfold left
  rw [List.filter_eq_self.2 (fun i hi => by simp [Array.getD_eq_getD_getElem?, show i < m by have := List.mem_range.1 hi; omega])]
  simp

/-- the tail: forced -/
theorem tail_any {ops : Array Oper} {Q : Exit → Act → World → Prop} (hops : ops = l.toArray)
    (hpre : ∀ k, k < l.length → n0 ≤ k → ∀ j, j < k → pre l k j = true)
    (hb : ∀ i o, l[i]? = some o → ∀ e ∈ o.after, Region.binds .any e = true → e.on < i) :
    ∀ (fuel k : Nat) (listed : Array Bool) (a : Act) (w : World), n0 ≤ k → fuel + k = l.length → listed.size = l.length → (∀ j, listed.getD j false = decide (j < k)) →
      wpList P ops Q (l.drop k) a w → wpAny P .any ops Q fuel listed a w := by
  have hready : ∀ (k : Nat) (listed : Array Bool), n0 ≤ k → listed.size = l.length → (∀ j, listed.getD j false = decide (j < k)) → ∀ i, i ∈ Region.ready .any ops listed → i = k := by
    intro k listed hk hs hl i hi
    obtain ⟨hun, o, ho, hall⟩ := mem_ready.1 hi
    have hil : i < l.length := by subst hops; simpa using (Array.getElem?_eq_some_iff.1 ho).1
    have ho' : l[i]? = some o := by subst hops; simpa using ho
    rw [getD_ft (by omega), hl] at hun
    have hge : k ≤ i := by simpa using hun
    have hcl : ∀ i o, l[i]? = some o → listed.getD i false = true → ∀ e ∈ o.after, Region.binds .any e = true → listed.getD e.on false = true := by
      intro i' o' ho' hi' e he hbe
      have := hb i' o' ho' e he hbe
      rw [hl] at hi' ⊢
      simp at hi' ⊢
      omega
    rcases Nat.lt_or_ge k i with h | h
    · have := pre_listed hb hcl i o ho' hall k (hpre i hil (by omega) k h)
      rw [hl] at this
      simp at this
    · omega
  intro fuel
  induction fuel with
  | zero =>
    intro k listed a w hk hf hs hl h
    have hkl : k = l.length := by omega
    refine ⟨?_, ?_⟩
    · cases hr : Region.ready .any ops listed with
      | nil => rfl
      | cons i r =>
        have hi : i ∈ Region.ready .any ops listed := by rw [hr]; simp
        have e := hready k listed hk hs hl i hi
        obtain ⟨_, o, ho, _⟩ := mem_ready.1 hi
        have : i < l.length := by subst hops; simpa using (Array.getElem?_eq_some_iff.1 ho).1
        omega
    · subst hkl; simpa [wpList] using h
  | succ fuel ih =>
    intro k listed a w hk hf hs hl h
    have hkl : k < l.length := by omega
    have hkr : k ∈ Region.ready .any ops listed := by
      refine mem_ready.2 ⟨by rw [getD_ft (by omega), hl]; simp, l[k], by subst hops; simp [hkl], fun e he hbe => ?_⟩
      have := hb k l[k] (by simp [hkl]) e he hbe
      rw [hl]; simpa using this
    refine ⟨fun h0 => by rw [h0] at hkr; simp at hkr, fun i hi => ?_⟩
    have e := hready k listed hk hs hl i hi
    subst e
    have hok : ops[i]? = some l[i] := by subst hops; simp [hkl]
    have hdrop : l.drop i = l[i] :: l.drop (i + 1) := List.drop_eq_getElem_cons hkl
    rw [hdrop] at h
    unfold wpOp
    rw [hok]
    dsimp only
    simp only [wpList] at h
    have hl' : ∀ j, (listed.setIfInBounds i true).getD j false = decide (j < i + 1) := by
      intro j
      by_cases hj : j = i
      · subst hj; rw [getD_set_self (by omega)]; simp
      · rw [getD_set_ne false (Ne.symm hj), hl]; simp; omega
    have hnext : ∀ a w, wpList P ops Q (l.drop (i + 1)) a w → wpAny P .any ops Q fuel (listed.setIfInBounds i true) a w := fun a w h =>
      ih (i + 1) _ a w (by omega) (by omega) (by simpa using hs) hl' h
    split
    · rename_i hw
      rw [if_pos hw] at h
      exact h.imp (Oper.wp_mono hnext) id
    · rename_i hw
      rw [if_neg hw] at h
      exact hnext _ _ h

/-- EVERY ORDER. 'F i' is what is known of operation i's value, and stays known; n0: how many operations come in open order; the others are forced, behind all. -/
theorem W.draw {id : Nat} {n : Env → World → Prop} {x : Nat → Env → World → Prop} {r : Env → World → Prop} (hm : P.follows .mixedOrders = true) (n0 : Nat) (F : Nat → Value → World → Prop) (hok : drawOk N n0 l = true) (hn0 : n0 ≤ l.length)
    (hstay : ∀ i v w1 w2, Up w w1 → F i v w1 → Up w1 w2 → F i v w2)
    (hstep : ∀ i o, (l.take n0)[i]? = some o → ∀ ρ' w', Up w w' → (∀ t, t ∉ dsts (l.take n0) → ρ' t = ρ t) → (∀ j oj, l[j]? = some oj → pre l i j = true → F j (slotOf ρ' oj) w') →
      GStep P l o ρ' w' (fun v w'' => F i v w'' ∧ Up w' w''))
    (hend : ∀ ρ' w', Up w w' → (∀ t, t ∉ dsts (l.take n0) → ρ' t = ρ t) → (∀ i o, (l.take n0)[i]? = some o → F i (slotOf ρ' o) w') → WL P N l.toArray (l.drop n0) n ρ' w') :
    W P N (.region id l.toArray true) n x r ρ w := by
  unfold drawOk at hok
  simp only [Bool.and_eq_true] at hok
  obtain ⟨⟨⟨c1, c2⟩, c3⟩, c4⟩ := hok
  have hb : ∀ i o, l[i]? = some o → ∀ e ∈ o.after, Region.binds .any e = true → e.on < i := by
    intro i o ho e he hbe
    rw [List.all_eq_true] at c1
    have := c1 (o, i) (by rw [List.mem_zipIdx_iff_getElem?]; exact ho)
    rw [List.all_eq_true] at this
    have := this e (by simpa using he)
    simpa [hbe] using this
  have hpre : ∀ k, k < l.length → n0 ≤ k → ∀ j, j < k → pre l k j = true := by
    intro k hk hn j hj
    rw [List.all_eq_true] at c4
    have := c4 k (List.mem_range.2 hk)
    rw [Bool.or_eq_true] at this
    rcases this with h | h
    · simp at h; omega
    · rw [List.all_eq_true] at h; exact h j (List.mem_range.2 hj)
  have hnd : (dsts (l.take n0)).Nodup := by simpa using c3
  have htk : ∀ i o, l[i]? = some o → i < n0 → (l.take n0)[i]? = some o := fun i o ho hi => by rw [List.getElem?_take_of_lt hi]; exact ho
  intro a ha
  refine wp_region_any hm ?_
  generalize hQ : (fun e a' w' => ∃ ρ', Real N a' ρ' ∧ Ends n x r e ρ' w') = Q'
  have key : ∀ (m : Nat) (listed : Array Bool) (a : Act) (w' : World), left n0 listed = m → DInv N n0 l F ρ w listed a w' → wpAny P .any l.toArray Q' (m + (l.length - n0)) listed a w' := by
    intro m
    induction m with
    | zero =>
      intro listed a w' hm inv
      have hall := left_zero hm
      obtain ⟨ρ', hr, hag, hF⟩ := inv.env
      refine tail_any rfl hpre hb (0 + (l.length - n0)) n0 listed a w' (Nat.le_refl _) (by omega) inv.size (fun j => ?_) ?_
      · by_cases hj : j < n0
        · simp [hall j hj, hj]
        · simp [inv.tail j (by omega), hj]
      · have := hend ρ' w' inv.up hag (fun i o ho => by
          have hi : i < n0 := by have := (List.getElem?_eq_some_iff.1 ho).1; simp at this; omega
          rw [List.getElem?_take_of_lt hi] at ho
          exact hF i o ho (hall i hi))
        exact this a hr Q' fun a' ρ'' w'' hr' hk => by subst hQ; exact ⟨ρ'', hr', hk⟩
    | succ m ih =>
      intro listed a w' hm inv
      rw [show m + 1 + (l.length - n0) = (m + (l.length - n0)) + 1 by omega]
      -- some operation is still to come, the first of them is ready
      have hex : ∃ i, i < n0 ∧ listed.getD i false = false := by
        apply Classical.byContradiction
        intro hno
        have h0 : left n0 listed = 0 := by
          unfold left
          rw [List.filter_eq_nil_iff.2]
          · rfl
          · intro i hi
            have := List.mem_range.1 hi
            cases hc : listed.getD i false with
            | true => simp
            | false => exact absurd ⟨i, this, hc⟩ hno
        omega
      have hready : Region.ready .any l.toArray listed ≠ [] := by
        have hmin : ∀ i, i < n0 → listed.getD i false = false → ∃ k, k ∈ Region.ready .any l.toArray listed := by
          intro i
          induction i using Nat.strongRecOn with
          | _ i ihi =>
            intro hi hu
            have hil : i < l.length := by omega
            by_cases hall : ∀ e ∈ l[i].after, Region.binds .any e = true → listed.getD e.on false = true
            · exact ⟨i, mem_ready.2 ⟨by rw [getD_ft (by have := inv.size; omega)]; exact hu, l[i], by simp [hil], hall⟩⟩
            · have : ∃ e, e ∈ l[i].after ∧ Region.binds .any e = true ∧ listed.getD e.on false = false := by
                apply Classical.byContradiction
                intro hno
                refine hall fun e he hbe => ?_
                cases hc : listed.getD e.on false with
                | true => rfl
                | false => exact absurd ⟨e, he, hbe, hc⟩ hno
              obtain ⟨e, he, hbe, hc⟩ := this
              have hlt := hb i l[i] (by simp [hil]) e he hbe
              exact ihi e.on hlt (by omega) hc
        obtain ⟨i, hi, hu⟩ := hex
        obtain ⟨k, hk⟩ := hmin i hi hu
        intro h0
        rw [h0] at hk
        simp at hk
      refine ⟨fun h0 => absurd h0 hready, fun i hi => ?_⟩
      obtain ⟨hun, o, ho, hall⟩ := mem_ready.1 hi
      have ho' : l[i]? = some o := by simpa using ho
      have hil : i < l.length := (List.getElem?_eq_some_iff.1 ho').1
      have hprl := pre_listed hb inv.closed i o ho' hall
      have hin : i < n0 := by
        apply Classical.byContradiction
        intro hge
        obtain ⟨k, hk, hu⟩ := hex
        have := hprl k (hpre i hil (by omega) k (by omega))
        rw [hu] at this
        cases this
      have hun' : listed.getD i false = false := by rw [← getD_ft (by have := inv.size; omega)]; exact hun
      obtain ⟨ρ', hr, hag, hF⟩ := inv.env
      have hs := hstep i o (htk i o ho' hin) ρ' w' inv.up hag (fun j oj hj hp => hF j oj hj (hprl j hp))
      have hd : dstOk N o.dst = true := by
        rw [List.all_eq_true] at c2
        have := c2 o (List.mem_of_getElem? (htk i o ho' hin))
        cases hdd : o.dst with
        | none => rfl
        | some d => simpa [dstOk, hdd] using this
      have hlm : left n0 (listed.setIfInBounds i true) = m := by
        have := left_set hin (by have := inv.size; omega) hun'
        omega
      -- what holds behind it
      have hnext : ∀ v w'', (F i v w'' ∧ Up w' w'') → DInv N n0 l F ρ w (listed.setIfInBounds i true) (a.put o.dst v) w'' := by
        intro v w'' ⟨hf, hu⟩
        refine ⟨by simpa using inv.size, fun k ok hk hkl e he hbe => ?_, fun k hk => ?_, inv.up.trans hu, upd ρ' o.dst v, hr.put hd v, fun t ht => ?_, fun k ok hk hkl => ?_⟩
        · by_cases hki : k = i
          · subst hki
            rw [ho'] at hk
            cases hk
            exact getD_set_true (hall e he hbe)
          · rw [getD_set_ne false (Ne.symm hki)] at hkl
            exact getD_set_true (inv.closed k ok hk hkl e he hbe)
        · rw [getD_set_ne false (by omega)]; exact inv.tail k hk
        · cases hdd : o.dst with
          | none => exact hag t ht
          | some d =>
            have hne : t ≠ d := fun e => ht (by subst e; exact List.mem_filterMap.2 ⟨o, List.mem_of_getElem? (htk i o ho' hin), hdd⟩)
            have hbq : Nat.beq t d = false := by
              cases h : Nat.beq t d with
              | false => rfl
              | true => exact absurd (Nat.eq_of_beq_eq_true h) hne
            simp only [upd, hbq, cond_false]
            exact hag t ht
        · by_cases hki : k = i
          · subst hki
            rw [ho'] at hk
            cases hk
            have hsl : slotOf (upd ρ' o.dst v) o = v := by
              have hds := List.all_eq_true.1 c2 o (List.mem_of_getElem? (htk k o ho' hin))
              cases hdd : o.dst with
              | none => simp [hdd] at hds
              | some d => simp [slotOf, hdd, upd, ev]
            rw [hsl]; exact hf
          · rw [getD_set_ne false (Ne.symm hki)] at hkl
            have hkn : k < n0 := by
              apply Classical.byContradiction
              intro hge
              have := inv.tail k (by omega)
              rw [this] at hkl
              cases hkl
            have hsl : slotOf (upd ρ' o.dst v) ok = slotOf ρ' ok := by
              cases hdk : ok.dst with
              | none => simp [slotOf, hdk]
              | some dk =>
                cases hdd : o.dst with
                | none => rfl
                | some d =>
                  have hne : dk ≠ d := fun e => hki (nodup_at hnd (htk k ok hk hkn) (htk i o ho' hin) hdk (by rw [hdd, e]))
                  have hbq : Nat.beq dk d = false := by
                    cases h : Nat.beq dk d with
                    | false => rfl
                    | true => exact absurd (Nat.eq_of_beq_eq_true h) hne
                  simp only [slotOf, hdk, upd, ev, hbq, cond_false]
            rw [hsl]
            exact hstay k _ w' w'' inv.up (hF k ok hk hkl) hu
      unfold wpOp
      rw [ho]
      unfold GStep at hs
      cases hg : o.guard with
      | none =>
        rw [hg] at hs
        simp only [Region.wanted, hg, if_true]
        exact .inl (hs.wp hr fun v w'' hv => ih _ _ _ hlm (hnext v w'' hv))
      | some jw =>
        obtain ⟨j, want⟩ := jw
        rw [hg] at hs
        obtain ⟨t, b, hj, hbt, hs⟩ := hs
        have hy : yielded l.toArray a.tmps j = some b := yielded_slot hr (by simpa using hj) hbt
        have hw : Region.wanted o (yielded l.toArray a.tmps) = decide (b = want) := by
          simp only [Region.wanted, hg, hy]
          cases b <;> cases want <;> decide
        simp only [hw]
        by_cases e : b = want
        · simp only [e, decide_true, if_true] at hs ⊢
          exact .inl (hs.wp hr fun v w'' hv => ih _ _ _ hlm (hnext v w'' hv))
        · simp only [e, decide_false, if_false, Bool.false_eq_true] at hs ⊢
          exact ih _ _ _ hlm (hnext undef w' hs)
  have hrep : ∀ i, (Array.replicate l.toArray.size false).getD i false = false := by
    intro i
    rw [Array.getD_eq_getD_getElem?, Array.getElem?_replicate]
    split <;> rfl
  have h0 : DInv N n0 l F ρ w (Array.replicate l.toArray.size false) a { w with drawn := w.drawn + 1 } :=
    ⟨by simp, fun i o ho hi => by rw [hrep] at hi; exact absurd hi Bool.false_ne_true, fun k hk => hrep k, Up.drew, ρ, ha, fun _ _ => rfl, fun i o ho hi => by rw [hrep] at hi; exact absurd hi Bool.false_ne_true⟩
  have := key n0 _ a _ (left_none n0 l.toArray.size (by simpa using hn0)) h0
  rw [show n0 + (l.length - n0) = l.toArray.size by simp; omega] at this
  exact this

/-- the operations that may come behind operation p lean on what lasts alone -/
def pivotOk (n0 p : Nat) (et : Nat → Bool) (l : List Oper) : Bool :=
  Nat.blt p n0 && et p && (List.range n0).all fun i => Nat.beq i p || pre l p i || (List.range n0).all fun j => !pre l i j || et j

/-- EVERY ORDER, where one operation p turns what was made here ('append' onto a row of the region's own): what 'et' marks lasts over it. -/
theorem W.drawP {id : Nat} {n : Env → World → Prop} {x : Nat → Env → World → Prop} {r : Env → World → Prop} (hm : P.follows .mixedOrders = true) (n0 p : Nat) (et : Nat → Bool) (F : Nat → Value → World → Prop) (hok : (drawOk N n0 l && pivotOk n0 p et l) = true) (hn0 : n0 ≤ l.length)
    (hstay : ∀ i v w1 w2, Up w w1 → F i v w1 → Up w1 w2 → F i v w2)
    (hstep : ∀ i o, (l.take n0)[i]? = some o → i ≠ p → ∀ ρ' w', Up w w' → (∀ t, t ∉ dsts (l.take n0) → ρ' t = ρ t) → (∀ j oj, l[j]? = some oj → pre l i j = true → F j (slotOf ρ' oj) w') →
      GStep P l o ρ' w' (fun v w'' => F i v w'' ∧ Up w' w''))
    (hpiv : ∀ o, l[p]? = some o → ∀ ρ' w', Up w w' → (∀ t, t ∉ dsts (l.take n0) → ρ' t = ρ t) → (∀ j oj, l[j]? = some oj → pre l p j = true → F j (slotOf ρ' oj) w') →
      GStep P l o ρ' w' (fun v w'' => F p v w'' ∧ Up w w'' ∧ ∀ i u, et i = true → i ≠ p → F i u w' → F i u w''))
    (hend : ∀ ρ' w', Up w w' → (∀ t, t ∉ dsts (l.take n0) → ρ' t = ρ t) → (∀ i o, (l.take n0)[i]? = some o → et i = true → F i (slotOf ρ' o) w') → WL P N l.toArray (l.drop n0) n ρ' w') :
    W P N (.region id l.toArray true) n x r ρ w := by
  unfold drawOk pivotOk at hok
  simp only [Bool.and_eq_true] at hok
  obtain ⟨⟨⟨⟨c1, c2⟩, c3⟩, c4⟩, ⟨c5, c6⟩, c7⟩ := hok
  have hpn : p < n0 := by simpa using c5
  have hlate : ∀ i, i < n0 → i ≠ p → pre l p i = false → ∀ j, j < n0 → pre l i j = true → et j = true := by
    intro i hi hne hnp j hj hp
    have := List.all_eq_true.1 c7 i (List.mem_range.2 hi)
    simp only [Bool.or_eq_true] at this
    rcases this with (h | h) | h
    · exact absurd (Nat.eq_of_beq_eq_true h) hne
    · rw [hnp] at h; cases h
    · have := List.all_eq_true.1 h j (List.mem_range.2 hj)
      rw [hp] at this; simpa using this
  have hb : ∀ i o, l[i]? = some o → ∀ e ∈ o.after, Region.binds .any e = true → e.on < i := by
    intro i o ho e he hbe
    rw [List.all_eq_true] at c1
    have := c1 (o, i) (by rw [List.mem_zipIdx_iff_getElem?]; exact ho)
    rw [List.all_eq_true] at this
    have := this e (by simpa using he)
    simpa [hbe] using this
  have hpre : ∀ k, k < l.length → n0 ≤ k → ∀ j, j < k → pre l k j = true := by
    intro k hk hn j hj
    rw [List.all_eq_true] at c4
    have := c4 k (List.mem_range.2 hk)
    rw [Bool.or_eq_true] at this
    rcases this with h | h
    · simp at h; omega
    · rw [List.all_eq_true] at h; exact h j (List.mem_range.2 hj)
  have hnd : (dsts (l.take n0)).Nodup := by simpa using c3
  have htk : ∀ i o, l[i]? = some o → i < n0 → (l.take n0)[i]? = some o := fun i o ho hi => by rw [List.getElem?_take_of_lt hi]; exact ho
  intro a ha
  refine wp_region_any hm ?_
  generalize hQ : (fun e a' w' => ∃ ρ', Real N a' ρ' ∧ Ends n x r e ρ' w') = Q'
  have key : ∀ (m : Nat) (listed : Array Bool) (a : Act) (w' : World), left n0 listed = m → DInvP N n0 p et l F ρ w listed a w' → wpAny P .any l.toArray Q' (m + (l.length - n0)) listed a w' := by
    intro m
    induction m with
    | zero =>
      intro listed a w' hm inv
      have hall := left_zero hm
      obtain ⟨ρ', hr, hag, hF⟩ := inv.env
      refine tail_any rfl hpre hb (0 + (l.length - n0)) n0 listed a w' (Nat.le_refl _) (by omega) inv.size (fun j => ?_) ?_
      · by_cases hj : j < n0
        · simp [hall j hj, hj]
        · simp [inv.tail j (by omega), hj]
      · have := hend ρ' w' inv.up hag (fun i o ho het => by
          have hi : i < n0 := by have := (List.getElem?_eq_some_iff.1 ho).1; simp at this; omega
          rw [List.getElem?_take_of_lt hi] at ho
          exact hF i o ho (hall i hi) (.inl het))
        exact this a hr Q' fun a' ρ'' w'' hr' hk => by subst hQ; exact ⟨ρ'', hr', hk⟩
    | succ m ih =>
      intro listed a w' hm inv
      rw [show m + 1 + (l.length - n0) = (m + (l.length - n0)) + 1 by omega]
      -- some operation is still to come, the first of them is ready
      have hex : ∃ i, i < n0 ∧ listed.getD i false = false := by
        apply Classical.byContradiction
        intro hno
        have h0 : left n0 listed = 0 := by
          unfold left
          rw [List.filter_eq_nil_iff.2]
          · rfl
          · intro i hi
            have := List.mem_range.1 hi
            cases hc : listed.getD i false with
            | true => simp
            | false => exact absurd ⟨i, this, hc⟩ hno
        omega
      have hready : Region.ready .any l.toArray listed ≠ [] := by
        have hmin : ∀ i, i < n0 → listed.getD i false = false → ∃ k, k ∈ Region.ready .any l.toArray listed := by
          intro i
          induction i using Nat.strongRecOn with
          | _ i ihi =>
            intro hi hu
            have hil : i < l.length := by omega
            by_cases hall : ∀ e ∈ l[i].after, Region.binds .any e = true → listed.getD e.on false = true
            · exact ⟨i, mem_ready.2 ⟨by rw [getD_ft (by have := inv.size; omega)]; exact hu, l[i], by simp [hil], hall⟩⟩
            · have : ∃ e, e ∈ l[i].after ∧ Region.binds .any e = true ∧ listed.getD e.on false = false := by
                apply Classical.byContradiction
                intro hno
                refine hall fun e he hbe => ?_
                cases hc : listed.getD e.on false with
                | true => rfl
                | false => exact absurd ⟨e, he, hbe, hc⟩ hno
              obtain ⟨e, he, hbe, hc⟩ := this
              have hlt := hb i l[i] (by simp [hil]) e he hbe
              exact ihi e.on hlt (by omega) hc
        obtain ⟨i, hi, hu⟩ := hex
        obtain ⟨k, hk⟩ := hmin i hi hu
        intro h0
        rw [h0] at hk
        simp at hk
      refine ⟨fun h0 => absurd h0 hready, fun i hi => ?_⟩
      obtain ⟨hun, o, ho, hall⟩ := mem_ready.1 hi
      have ho' : l[i]? = some o := by simpa using ho
      have hil : i < l.length := (List.getElem?_eq_some_iff.1 ho').1
      have hprl := pre_listed hb inv.closed i o ho' hall
      have hin : i < n0 := by
        apply Classical.byContradiction
        intro hge
        obtain ⟨k, hk, hu⟩ := hex
        have := hprl k (hpre i hil (by omega) k (by omega))
        rw [hu] at this
        cases this
      have hun' : listed.getD i false = false := by rw [← getD_ft (by have := inv.size; omega)]; exact hun
      obtain ⟨ρ', hr, hag, hF⟩ := inv.env
      have hd : dstOk N o.dst = true := by
        rw [List.all_eq_true] at c2
        have := c2 o (List.mem_of_getElem? (htk i o ho' hin))
        cases hdd : o.dst with
        | none => rfl
        | some d => simpa [dstOk, hdd] using this
      have hlm : left n0 (listed.setIfInBounds i true) = m := by
        have := left_set hin (by have := inv.size; omega) hun'
        omega
      -- the slot of an operation that has been carried out
      have hsl : ∀ (v : Value), slotOf (upd ρ' o.dst v) o = v := by
        intro v
        have hds := List.all_eq_true.1 c2 o (List.mem_of_getElem? (htk i o ho' hin))
        cases hdd : o.dst with
        | none => simp [hdd] at hds
        | some d => simp [slotOf, hdd, upd, ev]
      have hother : ∀ k ok (v : Value), l[k]? = some ok → k ≠ i → k < n0 → slotOf (upd ρ' o.dst v) ok = slotOf ρ' ok := by
        intro k ok v hk hki hkn
        cases hdk : ok.dst with
        | none => simp [slotOf, hdk]
        | some dk =>
          cases hdd : o.dst with
          | none => rfl
          | some d =>
            have hne : dk ≠ d := fun e => hki (nodup_at hnd (htk k ok hk hkn) (htk i o ho' hin) hdk (by rw [hdd, e]))
            have hbq : Nat.beq dk d = false := by
              cases h : Nat.beq dk d with
              | false => rfl
              | true => exact absurd (Nat.eq_of_beq_eq_true h) hne
            simp only [slotOf, hdk, upd, ev, hbq, cond_false]
      have hclosed : ∀ k ok, l[k]? = some ok → (listed.setIfInBounds i true).getD k false = true → ∀ e ∈ ok.after, Region.binds .any e = true → (listed.setIfInBounds i true).getD e.on false = true := by
        intro k ok hk hkl e he hbe
        by_cases hki : k = i
        · subst hki
          rw [ho'] at hk
          cases hk
          exact getD_set_true (hall e he hbe)
        · rw [getD_set_ne false (Ne.symm hki)] at hkl
          exact getD_set_true (inv.closed k ok hk hkl e he hbe)
      have hout : ∀ (v : Value) t, t ∉ dsts (l.take n0) → upd ρ' o.dst v t = ρ t := by
        intro v t ht
        cases hdd : o.dst with
        | none => exact hag t ht
        | some d =>
          have hne : t ≠ d := fun e => ht (by subst e; exact List.mem_filterMap.2 ⟨o, List.mem_of_getElem? (htk i o ho' hin), hdd⟩)
          have hbq : Nat.beq t d = false := by
            cases h : Nat.beq t d with
            | false => rfl
            | true => exact absurd (Nat.eq_of_beq_eq_true h) hne
          simp only [upd, hbq, cond_false]
          exact hag t ht
      have hkn : ∀ k, (listed.setIfInBounds i true).getD k false = true → k ≠ i → k < n0 ∧ listed.getD k false = true := by
        intro k hkl hki
        rw [getD_set_ne false (Ne.symm hki)] at hkl
        refine ⟨?_, hkl⟩
        apply Classical.byContradiction
        intro hge
        have := inv.tail k (by omega)
        rw [this] at hkl
        cases hkl
      have run : ∀ (R : Value → World → Prop), GStep P l o ρ' w' R → (∀ v w'', R v w'' → DInvP N n0 p et l F ρ w (listed.setIfInBounds i true) (a.put o.dst v) w'') →
          wpOp P l.toArray Q' i (wpAny P .any l.toArray Q' (m + (l.length - n0)) (listed.setIfInBounds i true)) a w' := by
        intro R hs hnext
        unfold wpOp
        rw [ho]
        unfold GStep at hs
        cases hg : o.guard with
        | none =>
          rw [hg] at hs
          simp only [Region.wanted, hg, if_true]
          exact .inl (hs.wp hr fun v w'' hv => ih _ _ _ hlm (hnext v w'' hv))
        | some jw =>
          obtain ⟨j, want⟩ := jw
          rw [hg] at hs
          obtain ⟨t, b, hj, hbt, hs⟩ := hs
          have hy : yielded l.toArray a.tmps j = some b := yielded_slot hr (by simpa using hj) hbt
          have hw : Region.wanted o (yielded l.toArray a.tmps) = decide (b = want) := by
            simp only [Region.wanted, hg, hy]
            cases b <;> cases want <;> decide
          simp only [hw]
          by_cases e : b = want
          · simp only [e, decide_true, if_true] at hs ⊢
            exact .inl (hs.wp hr fun v w'' hv => ih _ _ _ hlm (hnext v w'' hv))
          · simp only [e, decide_false, if_false, Bool.false_eq_true] at hs ⊢
            exact ih _ _ _ hlm (hnext undef w' hs)
      by_cases hip : i = p
      · subst hip
        refine run _ (hpiv o ho' ρ' w' inv.up hag (fun j oj hj hp => hF j oj hj (hprl j hp) (.inr hun'))) ?_
        intro v w'' ⟨hf, hu, hlast⟩
        refine ⟨by simpa using inv.size, hclosed, fun k hk => by rw [getD_set_ne false (by omega)]; exact inv.tail k hk, hu, upd ρ' o.dst v, hr.put hd v, hout v, fun k ok hk hkl het => ?_⟩
        by_cases hki : k = i
        · subst hki
          rw [ho'] at hk
          cases hk
          rw [hsl]; exact hf
        · obtain ⟨hkn', hkl'⟩ := hkn k hkl hki
          rw [hother k ok v hk hki hkn']
          have hek : et k = true := by
            rcases het with h | h
            · exact h
            · rw [getD_set_self (by have := inv.size; omega)] at h; cases h
          exact hlast k _ hek hki (hF k ok hk hkl' (.inl hek))
      · have hpreds : ∀ j oj, l[j]? = some oj → pre l i j = true → F j (slotOf ρ' oj) w' := by
          intro j oj hj hp
          refine hF j oj hj (hprl j hp) ?_
          cases hlp : listed.getD p false with
          | false => exact .inr rfl
          | true =>
            left
            have hjn : j < n0 := by
              apply Classical.byContradiction
              intro hge
              have := inv.tail j (by omega)
              rw [hprl j hp] at this
              cases this
            refine hlate i hin hip ?_ j hjn hp
            cases hpi : pre l p i with
            | false => rfl
            | true =>
              have hlo : l[p]? = some (l[p]'(by omega)) := by simp [show p < l.length by omega]
              have := pre_listed hb inv.closed p _ hlo (fun e he hbe => inv.closed p _ hlo hlp e he hbe) i hpi
              rw [hun'] at this
              cases this
        refine run _ (hstep i o (htk i o ho' hin) hip ρ' w' inv.up hag hpreds) ?_
        intro v w'' ⟨hf, hu⟩
        refine ⟨by simpa using inv.size, hclosed, fun k hk => by rw [getD_set_ne false (by omega)]; exact inv.tail k hk, inv.up.trans hu, upd ρ' o.dst v, hr.put hd v, hout v, fun k ok hk hkl het => ?_⟩
        by_cases hki : k = i
        · subst hki
          rw [ho'] at hk
          cases hk
          rw [hsl]; exact hf
        · obtain ⟨hkn', hkl'⟩ := hkn k hkl hki
          rw [hother k ok v hk hki hkn']
          refine hstay k _ w' w'' inv.up (hF k ok hk hkl' ?_) hu
          rw [getD_set_ne false hip] at het
          exact het
  have hrep : ∀ i, (Array.replicate l.toArray.size false).getD i false = false := by
    intro i
    rw [Array.getD_eq_getD_getElem?, Array.getElem?_replicate]
    split <;> rfl
  have h0 : DInvP N n0 p et l F ρ w (Array.replicate l.toArray.size false) a { w with drawn := w.drawn + 1 } :=
    ⟨by simp, fun i o ho hi => by rw [hrep] at hi; exact absurd hi Bool.false_ne_true, fun k hk => hrep k, Up.drew, ρ, ha, fun _ _ => rfl, fun i o ho hi _ => by rw [hrep] at hi; exact absurd hi Bool.false_ne_true⟩
  have := key n0 _ a _ (left_none n0 l.toArray.size (by simpa using hn0)) h0
  rw [show n0 + (l.length - n0) = l.toArray.size by simp; omega] at this
  exact this
end
end Go.Tw
