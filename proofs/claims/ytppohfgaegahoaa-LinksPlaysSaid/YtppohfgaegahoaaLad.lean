/- The document's answer as plain data: one list of all that is on its way; how it stands beside a Net. -/
import Derived.Test.YtppohfgaegahoaaLp
namespace Go.Proofs.Ytppohfgaegahoaa
open Go.Tw Go.RowKit

structure RefS where
  items : List (Lk × Msg)
  side : Int → Bool
  lost : Int

/-- what lies on a link -/
def qOf (items : List (Lk × Msg)) (l : Lk) : List Msg := (items.filter fun x => decide (x.1 = l)).map (·.2)

theorem qOf_nil (l : Lk) : qOf [] l = [] := rfl
theorem qOf_cons (p : Lk × Msg) (items : List (Lk × Msg)) (l : Lk) : qOf (p :: items) l = if p.1 = l then p.2 :: qOf items l else qOf items l := by
  unfold qOf
  rw [List.filter_cons]
  by_cases h : p.1 = l <;> simp [h]
theorem qOf_append (xs ys : List (Lk × Msg)) (l : Lk) : qOf (xs ++ ys) l = qOf xs l ++ qOf ys l := by
  unfold qOf; rw [List.filter_append, List.map_append]

/-- where a link's i-th message stands -/
def placeR : List (Lk × Msg) → Lk → Nat → Option Nat
  | [], _, _ => none
  | p :: ps, l, i => if p.1 = l then (match i with | 0 => some 0 | i + 1 => (placeR ps l i).map (· + 1)) else (placeR ps l i).map (· + 1)

theorem place_none : ∀ (items : List (Lk × Msg)) (l : Lk) (i : Nat), placeR items l i = none ↔ (qOf items l).length ≤ i
  | [], l, i => by simp [placeR, qOf]
  | p :: ps, l, i => by
    rw [qOf_cons]
    unfold placeR
    by_cases h : p.1 = l
    · rw [if_pos h, if_pos h]
      cases i with
      | zero => simp
      | succ i => simp [place_none ps l i]
    · rw [if_neg h, if_neg h]; simp [place_none ps l i]

theorem place_some : ∀ (items : List (Lk × Msg)) (l : Lk) (i at_ : Nat), placeR items l i = some at_ →
    ∃ m, items[at_]? = some (l, m) ∧ (qOf items l)[i]? = some m ∧ ∀ l', qOf (items.eraseIdx at_) l' = if l = l' then (qOf items l).eraseIdx i else qOf items l'
  | [], _, _, _, h => by simp [placeR] at h
  | p :: ps, l, i, at_, h => by
    unfold placeR at h
    by_cases hp : p.1 = l
    · rw [if_pos hp] at h
      cases i with
      | zero =>
        simp at h
        subst h
        refine ⟨p.2, by simp [← hp], by rw [qOf_cons, if_pos hp]; rfl, fun l' => ?_⟩
        rw [List.eraseIdx_cons_zero, qOf_cons, qOf_cons, if_pos hp, hp]
        by_cases e : l = l'
        · subst e; simp
        · simp [e]
      | succ i =>
        obtain ⟨a, ha, rfl⟩ := Option.map_eq_some_iff.1 h
        obtain ⟨m, h1, h2, h3⟩ := place_some ps l i a ha
        refine ⟨m, by simpa using h1, by rw [qOf_cons, if_pos hp]; simpa using h2, fun l' => ?_⟩
        rw [List.eraseIdx_cons_succ, qOf_cons, h3, qOf_cons, qOf_cons, if_pos hp, hp]
        by_cases e : l = l'
        · subst e; simp
        · simp [e]
    · rw [if_neg hp] at h
      obtain ⟨a, ha, rfl⟩ := Option.map_eq_some_iff.1 h
      obtain ⟨m, h1, h2, h3⟩ := place_some ps l i a ha
      refine ⟨m, by simpa using h1, by rw [qOf_cons, if_neg hp]; exact h2, fun l' => ?_⟩
      rw [List.eraseIdx_cons_succ, qOf_cons, h3, qOf_cons, qOf_cons, if_neg hp]
      by_cases e : l = l'
      · subst e; rw [if_neg hp, if_pos rfl, if_pos rfl]
      · by_cases e2 : p.1 = l' <;> simp [e, e2]

def RefS.place (x : RefS) (l : Lk) (i : Int) : Option Nat := if i < 0 then none else placeR x.items l i.toNat

def RefS.send (x : RefS) (l : Lk) (b : Msg) : RefS × Int :=
  if fitsL l = false then (x, 40) else if 8192 < b.length then (x, 4) else if 8 ≤ (qOf x.items l).length then ({ x with lost := IntKind.i64.wrap (x.lost + 1) }, 7)
  else ({ x with items := x.items ++ [(l, b)] }, 0)
def RefS.take (x : RefS) (l : Lk) (i : Int) : RefS × Option Msg × Int :=
  match x.place l i with
  | none => (x, none, 40)
  | some a => ({ x with items := x.items.eraseIdx a }, if x.side l.1 = x.side l.2 then (x.items[a]?).map (·.2) else none, 0)
def RefS.lose (x : RefS) (l : Lk) (i : Int) : RefS × Int :=
  match x.place l i with
  | none => (x, 40)
  | some a => ({ x with items := x.items.eraseIdx a }, 0)
def RefS.double (x : RefS) (l : Lk) (i : Int) : RefS × Int :=
  match x.place l i with
  | none => (x, 40)
  | some a => if 8 ≤ (qOf x.items l).length then (x, 7) else ({ x with items := x.items ++ (x.items[a]?).toList }, 0)
def RefS.forget (x : RefS) (p : Int) : RefS := { x with items := x.items.filter fun y => !hitsL p y.1 }
def RefS.also (x : RefS) (k : DoS) : RefS × Option Msg × Int :=
  if opN k.op = 3 ∨ opN k.op = 4 then x.take k.l k.i
  else if opN k.op = 5 then ((x.lose k.l k.i).1, none, (x.lose k.l k.i).2)
  else if opN k.op = 6 then ((x.double k.l k.i).1, none, (x.double k.l k.i).2)
  else if opN k.op = 7 then ({ x with side := hasB k.side }, none, 0)
  else if opN k.op = 8 then (x.forget k.i, none, 0)
  else ((x.send k.l k.b).1, none, (x.send k.l k.b).2)

/-- a Net and the document's -/
structure Same (s : NetS) (x : RefS) : Prop where
  q : ∀ l, s.q l = qOf x.items l
  lost : s.lost = x.lost
  side : ∀ l : Lk, fitsL l = true → (hasB s.side l.1 = hasB s.side l.2 ↔ x.side l.1 = x.side l.2)

theorem q_fits {s : NetS} (hk : s.Ok) {l : Lk} (h : s.q l ≠ []) : fitsL l = true := by
  refine hk.fits l ?_
  cases e : aget s.of l with
  | none => exact absurd (by unfold NetS.q; rw [e]; rfl) h
  | some _ => rfl

theorem same_able {s : NetS} (hk : s.Ok) {x : RefS} (h : Same s x) {l : Lk} {i : Int} : (s.able l i = false ↔ x.place l i = none) ∧ ∀ a, x.place l i = some a → ∃ m, x.items[a]? = some (l, m) ∧ (s.q l)[i.toNat]? = some m ∧ (s.q l).getD i.toNat [] = m ∧
    ∀ l', qOf (x.items.eraseIdx a) l' = if l = l' then (s.q l).eraseIdx i.toNat else s.q l' := by
  constructor
  · unfold RefS.place
    by_cases h0 : i < 0
    · rw [if_pos h0]; simp [NetS.able]; omega
    · rw [if_neg h0, place_none, ← h.q]
      constructor
      · intro ha
        apply Nat.le_of_not_lt
        intro hlt
        have hf := q_fits hk (l := l) (fun e => by rw [e] at hlt; simp at hlt)
        have : s.able l i = true := by unfold NetS.able; simp [hf]; omega
        rw [this] at ha; cases ha
      · intro hle
        have : ¬ (i < (s.q l).length) := by omega
        simp [NetS.able, this]
  · intro a ha
    unfold RefS.place at ha
    by_cases h0 : i < 0
    · rw [if_pos h0] at ha; cases ha
    · rw [if_neg h0] at ha
      obtain ⟨m, h1, h2, h3⟩ := place_some _ _ _ _ ha
      rw [← h.q] at h2
      exact ⟨m, h1, h2, by simp [List.getD, h2], fun l' => by rw [h3, ← h.q, ← h.q]⟩

theorem same_cut {s : NetS} (hk : s.Ok) {x : RefS} (h : Same s x) {l : Lk} {i : Int} {a : Nat} (ha : x.place l i = some a) : Same (s.cut l i.toNat) { x with items := x.items.eraseIdx a } := by
  obtain ⟨_, _, _, _, h4⟩ := (same_able hk h).2 a ha
  exact ⟨fun l' => by rw [q_cut hk, h4], h.lost, h.side⟩

theorem same_take {s : NetS} (hk : s.Ok) {x : RefS} (h : Same s x) (l : Lk) (i : Int) : (s.take l i).2 = (x.take l i).2 ∧ Same (s.take l i).1 (x.take l i).1 := by
  unfold NetS.take RefS.take
  cases hp : x.place l i with
  | none => rw [if_pos ((same_able hk h).1.2 hp)]; exact ⟨rfl, h⟩
  | some a =>
    have hn : ¬ s.able l i = false := fun e => by rw [(same_able hk h).1.1 e] at hp; cases hp
    obtain ⟨m, h1, h2, _, _⟩ := (same_able hk h).2 a hp
    rw [if_neg hn]
    refine ⟨?_, same_cut hk h hp⟩
    dsimp only
    have hf := (able_parts (by simpa using hn)).1
    rw [h1, h2]
    by_cases e : hasB s.side l.1 = hasB s.side l.2
    · rw [if_pos e, if_pos ((h.side l hf).1 e)]; rfl
    · rw [if_neg e, if_neg fun e2 => e ((h.side l hf).2 e2)]
theorem same_lose {s : NetS} (hk : s.Ok) {x : RefS} (h : Same s x) (l : Lk) (i : Int) : (s.lose l i).2 = (x.lose l i).2 ∧ Same (s.lose l i).1 (x.lose l i).1 := by
  unfold NetS.lose RefS.lose
  cases hp : x.place l i with
  | none => rw [if_pos ((same_able hk h).1.2 hp)]; exact ⟨rfl, h⟩
  | some a =>
    have hn : ¬ s.able l i = false := fun e => by rw [(same_able hk h).1.1 e] at hp; cases hp
    rw [if_neg hn]; exact ⟨rfl, same_cut hk h hp⟩
theorem same_double {s : NetS} (hk : s.Ok) {x : RefS} (h : Same s x) (l : Lk) (i : Int) : (s.double l i).2 = (x.double l i).2 ∧ Same (s.double l i).1 (x.double l i).1 := by
  unfold NetS.double RefS.double
  cases hp : x.place l i with
  | none => rw [if_pos ((same_able hk h).1.2 hp)]; exact ⟨rfl, h⟩
  | some a =>
    have hn : ¬ s.able l i = false := fun e => by rw [(same_able hk h).1.1 e] at hp; cases hp
    obtain ⟨m, h1, _, h3, _⟩ := (same_able hk h).2 a hp
    rw [if_neg hn]
    dsimp only
    rw [← h.q]
    by_cases h8 : 8 ≤ (s.q l).length
    · rw [if_pos h8, if_pos h8]; exact ⟨rfl, h⟩
    · rw [if_neg h8, if_neg h8]
      refine ⟨rfl, fun l' => ?_, h.lost, h.side⟩
      rw [q_aset, h3, h1, qOf_append]
      show _ = _ ++ qOf [(l, m)] l'
      rw [qOf_cons, qOf_nil, ← h.q]
      by_cases e : l = l'
      · subst e; simp
      · simp [e]
theorem same_send {s : NetS} {x : RefS} (h : Same s x) (l : Lk) (b : Msg) : (s.send l b).2 = (x.send l b).2 ∧ Same (s.send l b).1 (x.send l b).1 := by
  unfold NetS.send RefS.send
  rw [← h.q]
  by_cases h1 : fitsL l = false
  · rw [if_pos h1, if_pos h1]; exact ⟨rfl, h⟩
  · rw [if_neg h1, if_neg h1]
    by_cases h2 : 8192 < b.length
    · rw [if_pos h2, if_pos h2]; exact ⟨rfl, h⟩
    · rw [if_neg h2, if_neg h2]
      by_cases h3 : 8 ≤ (s.q l).length
      · rw [if_pos h3, if_pos h3]; exact ⟨rfl, fun l' => h.q l', by dsimp only; rw [h.lost], h.side⟩
      · rw [if_neg h3, if_neg h3]
        refine ⟨rfl, fun l' => ?_, h.lost, h.side⟩
        rw [q_aset, qOf_append, qOf_cons, qOf_nil, ← h.q]
        by_cases e : l = l'
        · subst e; simp
        · simp [e]
theorem same_forget {s : NetS} {x : RefS} (h : Same s x) (p : Int) : Same (s.forget p) (x.forget p) := by
  refine ⟨fun l => ?_, h.lost, h.side⟩
  rw [q_forget, h.q]
  unfold RefS.forget qOf
  dsimp only
  rw [List.filter_filter]
  by_cases e : hitsL p l = true
  · rw [if_pos e]
    rw [List.filter_eq_nil_iff.2]
    · rfl
    · intro y _ hy
      simp only [Bool.and_eq_true, decide_eq_true_eq, Bool.not_eq_true'] at hy
      rw [hy.1, e] at hy
      exact absurd hy.2 (by simp)
  · rw [if_neg e]
    congr 1
    refine List.filter_congr fun y _ => ?_
    by_cases hy : y.1 = l
    · simp [hy, e]
    · simp [hy]

theorem same_also {s : NetS} (hk : s.Ok) {x : RefS} (h : Same s x) (k : DoS) : (s.does k).2 = (x.also k).2 ∧ Same (s.does k).1 (x.also k).1 := by
  unfold NetS.does RefS.also
  by_cases o3 : opN k.op = 3 ∨ opN k.op = 4
  · rw [if_pos o3, if_pos o3]; exact same_take hk h _ _
  · rw [if_neg o3, if_neg o3]
    by_cases o5 : opN k.op = 5
    · rw [if_pos o5, if_pos o5]
      have := same_lose hk h k.l k.i
      exact ⟨by dsimp only; rw [this.1], this.2⟩
    · rw [if_neg o5, if_neg o5]
      by_cases o6 : opN k.op = 6
      · rw [if_pos o6, if_pos o6]
        have := same_double hk h k.l k.i
        exact ⟨by dsimp only; rw [this.1], this.2⟩
      · rw [if_neg o6, if_neg o6]
        by_cases o7 : opN k.op = 7
        · rw [if_pos o7, if_pos o7]; exact ⟨rfl, fun l => h.q l, h.lost, fun _ _ => Iff.rfl⟩
        · rw [if_neg o7, if_neg o7]
          by_cases o8 : opN k.op = 8
          · rw [if_pos o8, if_pos o8]; exact ⟨rfl, same_forget h _⟩
          · rw [if_neg o8, if_neg o8]
            have := same_send h k.l k.b
            exact ⟨by dsimp only; rw [this.1], this.2⟩
theorem same_new : Same ⟨[], 0, 0⟩ ⟨[], fun _ => false, 0⟩ := ⟨fun l => by simp [NetS.q, aget, qOf], rfl, fun l _ => by simp [hasB, IntKind.wrap, IntKind.bits, IntKind.signed]⟩
end Go.Proofs.Ytppohfgaegahoaa
