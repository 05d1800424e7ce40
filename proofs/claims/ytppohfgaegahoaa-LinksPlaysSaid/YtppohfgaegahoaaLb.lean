/- What a Net is, as plain data, and how it lies in memory. -/
import Derived.Test.YtppohfgaegahoaaL0
namespace Go.Proofs.Ytppohfgaegahoaa
open Go.Tw Go.RowKit

abbrev Lk := Int × Int
abbrev Msg := List UInt8

def ekL (l : Lk) : Value := .agg #[.int .i64 l.1, .int .i64 l.2]

theorem ekL_one (l : Lk) : ∀ c ∈ (ekL l).cells.toList, c.oneCell' = true := by
  intro c hc
  simp [ekL, Value.cells] at hc
  rcases hc with rfl | rfl <;> rfl

theorem ekL_inj (a b : Lk) (h : ekL a = ekL b) : a = b := by
  simp [ekL] at h
  exact Prod.ext h.1 h.2

theorem eq_link (a b : Lk) (w : World) : (Op.equal 29 (ekL a) (ekL b)).run Try.prog w = .ok (decide (a = b)) w := by
  have u3 := Try.underlying3
  have a3 := Try.isAgg3
  have z3 := Try.sizeOf3
  have hS : Try.prog.underlying 29 = some (.struct (Try.prog.fieldsOf 29)) := by kernel_rfl
  have hp : Try.prog.stoodInHeld 29 = false := by kernel_rfl
  unfold Op.equal Op.maxDepth
  simp only [ekL]
  rw [show (10000 : Nat) = 9999 + 1 from rfl, run_equalIn_agg w 9999 29 _ _ hS hp]
  simp only [Program.fieldsOf, Try.underlying29]
  go_simp
  obtain ⟨a1, a2⟩ := a
  obtain ⟨b1, b2⟩ := b
  by_cases h1 : a1 = b1 <;> by_cases h2 : a2 = b2 <;> simp [h1, h2]

theorem keyL : KeyOk Try.prog 29 ekL :=
  KeyOk.ofEq Try.underlying29 ekL_inj (fun em a w => by kernel_rfl) (fun a b => rfl) eq_link (fun a w => by
    have h : Instr.sameBits 10000 (ekL a) (ekL a) = true := by
      rw [show (10000 : Nat) = 9998 + 1 + 1 from rfl]
      simp [ekL, Instr.sameBits]
    simp [Instr.keyThatStays, h])

theorem info5 : EInfo Try.prog 5 (.int .u8 0) 1 1 := by unfold EInfo; kernel_rfl
theorem info30 : EInfo Try.prog 30 (.slice none 0 0) 1 24 := by unfold EInfo; kernel_rfl

/-- a queue: a slice of slices of bytes, all of them in blocks of S -/
def RQ (S : Nat → Prop) (w : World) (v : Value) (q : List Msg) : Prop := ∃ vs : List Value, SlV S w v q.length 1 vs ∧ All2 (fun v l => RB S w v l) vs q

theorem RQ.frm {S : Nat → Prop} {w w' : World} {v : Value} {q : List Msg} (h : RQ S w v q) {X : Nat → Prop} (e : Frm X w w') (hx : ∀ b, S b → ¬ X b) : RQ S w' v q := by
  obtain ⟨vs, h1, h2⟩ := h
  exact ⟨vs, h1.frm e hx, All2.imp h2 fun _ _ _ _ h => h.frm e hx⟩
theorem RQ.up {S : Nat → Prop} {w w' : World} {v : Value} {q : List Msg} (h : RQ S w v q) (e : Up w w') : RQ S w' v q := h.frm (X := NoB) e.frm fun _ _ h => h
theorem RQ.mono {S S' : Nat → Prop} {w : World} {v : Value} {q : List Msg} (h : RQ S w v q) (hs : ∀ b, b < w.heap.size → S b → S' b) : RQ S' w v q := by
  obtain ⟨vs, h1, h2⟩ := h
  exact ⟨vs, h1.mono hs (by omega), All2.imp h2 fun _ _ _ _ h => h.mono hs⟩
theorem RQ.nil {S : Nat → Prop} {w : World} : RQ S w (.slice none 0 0) [] := ⟨[], ⟨none, 0, rfl, rfl, fun h => absurd h (Nat.lt_irrefl 0)⟩, trivial⟩
theorem RQ.len {S : Nat → Prop} {w : World} {v : Value} {q : List Msg} (h : RQ S w v q) : ∃ o cap, v = .slice o q.length cap := by
  obtain ⟨vs, ⟨o, cap, hv, _⟩, _⟩ := h
  exact ⟨o, cap, hv⟩

theorem all_one {S : Nat → Prop} {w : World} {vs : List Value} {q : List Msg} (h : All2 (fun v l => RB S w v l) vs q) : ∀ c ∈ vs, c.oneCell' = true := by
  intro c hc
  obtain ⟨i, hi⟩ := List.mem_iff_getElem?.1 hc
  obtain ⟨_, _, o, cap, rfl, _⟩ := All2.get h hi
  rfl

theorem RQ.at {S : Nat → Prop} {w : World} {v : Value} {q : List Msg} (h : RQ S w v q) {i : Nat} (hi : i < q.length) :
    ∃ b off cap x, v = .slice (some ⟨b, off, none⟩) q.length cap ∧ w.cell? ⟨b, off + i * 1, none⟩ = some x ∧ RB S w x (q.getD i []) := by
  obtain ⟨vs, ⟨o, cap, hv, hl, hc⟩, h2⟩ := h
  obtain ⟨b, off, rfl, _, hcs⟩ := hc (by omega)
  obtain ⟨x, hx, hr⟩ := All2.get' h2 (show q[i]? = some q[i] by simp [hi])
  refine ⟨b, off, cap, x, hv, by rw [Nat.mul_one]; exact hcs i x hx, ?_⟩
  have : q.getD i [] = q[i] := by simp [List.getD, hi]
  rw [this]; exact hr

theorem All2.eraseIdx {α β : Type} {R : α → β → Prop} : ∀ {xs : List α} {ys : List β} (i : Nat), All2 R xs ys → All2 R (xs.eraseIdx i) (ys.eraseIdx i)
  | [], [], _, _ => trivial
  | _ :: _, _ :: _, 0, h => h.2
  | _ :: _, _ :: _, i + 1, h => ⟨h.1, All2.eraseIdx i h.2⟩
  | [], _ :: _, _, h => h.elim
  | _ :: _, [], _, h => h.elim

structure NetS where
  of : List (Lk × List Msg)
  side : Int
  lost : Int

def fitsL (l : Lk) : Bool := decide (0 ≤ l.1) && decide (l.1 < 32) && decide (0 ≤ l.2) && decide (l.2 < 32) && !decide (l.1 = l.2)

def NetS.q (s : NetS) (l : Lk) : List Msg := (aget s.of l).getD []

/-- what holds of a Net that calls have made -/
structure NetS.Ok (s : NetS) : Prop where
  nodup : (akeys s.of).Nodup
  fits : ∀ l, (aget s.of l).isSome = true → fitsL l = true
  ne : ∀ l q, aget s.of l = some q → q ≠ []
  max : ∀ l, (s.q l).length ≤ 8
  short : ∀ l m, m ∈ s.q l → m.length ≤ 8192

structure NetR (S : Nat → Prop) (w : World) (bn bm : Nat) (s : NetS) : Prop where
  blk : Blk w bn (.cells #[.map (some bm), .int .u64 s.side, .int .i64 s.lost, .bool true] 64)
  map : MapR w bm ekL (RQ S w) s.of
  old : ∀ b, S b → b < w.heap.size ∧ b ≠ bn ∧ b ≠ bm

theorem NetR.frm {S : Nat → Prop} {w w' : World} {bn bm : Nat} {s : NetS} (h : NetR S w bn bm s) {X : Nat → Prop} (e : Frm X w w') (hn : ¬ X bn) (hm : ¬ X bm) (hS : ∀ b, S b → ¬ X b) : NetR S w' bn bm s :=
  ⟨h.blk.frm e hn, h.map.frm e hm fun _ _ hq => hq.frm e hS, fun b hb => let ⟨h1, h2⟩ := h.old b hb; ⟨Nat.lt_of_lt_of_le h1 e.size, h2⟩⟩
theorem NetR.up {S : Nat → Prop} {w w' : World} {bn bm : Nat} {s : NetS} (h : NetR S w bn bm s) (e : Up w w') : NetR S w' bn bm s := h.frm (X := NoB) e.frm (fun h => h) (fun h => h) fun _ _ h => h

theorem NetR.widen {S : Nat → Prop} {w : World} {bn bm : Nat} {s : NetS} (h : NetR S w bn bm s) {B : Nat} (hn : bn < B) (hm : bm < B) : NetR (fun b => S b ∨ (B ≤ b ∧ b < w.heap.size)) w bn bm s := by
  refine ⟨h.blk, ?_, fun b hb => ?_⟩
  · obtain ⟨es, c, h1, h2, h3⟩ := h.map
    exact ⟨es, c, h1, h2, All2.imp h3 fun _ _ _ _ ⟨h1, h2⟩ => ⟨h1, h2.mono fun b _ h => .inl h⟩⟩
  · rcases hb with hb | ⟨h1, h2⟩
    · exact h.old b hb
    · exact ⟨h2, by omega, by omega⟩

/-- the map's block has been written -/
theorem NetR.put {S : Nat → Prop} {w w' : World} {bn bm : Nat} {s : NetS} (h : NetR S w bn bm s) {l : List (Lk × List Msg)} (hm : MapR w' bm ekL (RQ S w) l) (e : Frm (fun k => k = bm) w w') : NetR S w' bn bm { s with of := l } := by
  have hne : bn ≠ bm := by
    intro e
    obtain ⟨es, c, hb, _⟩ := h.map
    have := (show w.heap[bn]? = _ from h.blk).symm.trans (e ▸ (show w.heap[bm]? = _ from hb))
    cases this
  refine ⟨h.blk.frm e hne, ?_, fun b hb => let ⟨h1, h2⟩ := h.old b hb; ⟨Nat.lt_of_lt_of_le h1 e.size, h2⟩⟩
  obtain ⟨es, c, h1, h2, h3⟩ := hm
  exact ⟨es, c, h1, h2, All2.imp h3 fun _ _ _ _ ⟨h1, h2⟩ => ⟨h1, h2.frm e fun b hb => (h.old b hb).2.2⟩⟩

/-- what a call leaves: of the old blocks only the Net's own two have turned -/
def NetTo (S : Nat → Prop) (w w' : World) (bn bm : Nat) (s : NetS) : Prop :=
  Frm (fun k => k = bn ∨ k = bm) w w' ∧ ∃ S', NetR S' w' bn bm s ∧ ∀ b, S' b → S b ∨ w.heap.size ≤ b

/-- .. and a row of bytes of its own has come -/
def NetToX (S : Nat → Prop) (w w' : World) (bn bm : Nat) (s : NetS) (u : Value) (m : Msg) : Prop :=
  Frm (fun k => k = bn ∨ k = bm) w w' ∧ ∃ S', NetR S' w' bn bm s ∧ (∀ b, S' b → S b ∨ w.heap.size ≤ b) ∧ RB (fun b => w.heap.size ≤ b ∧ ¬ S' b) w' u m

theorem NetToX.to {S : Nat → Prop} {w w' : World} {bn bm : Nat} {s : NetS} {u : Value} {m : Msg} (h : NetToX S w w' bn bm s u m) : NetTo S w w' bn bm s := let ⟨h1, S', h2, h3, _⟩ := h; ⟨h1, S', h2, h3⟩
theorem NetTo.noRow {S : Nat → Prop} {w w' : World} {bn bm : Nat} {s : NetS} (h : NetTo S w w' bn bm s) : NetToX S w w' bn bm s (.slice none 0 0) [] :=
  let ⟨h1, S', h2, h3⟩ := h; ⟨h1, S', h2, h3, none, 0, rfl, rfl, fun h => absurd h (Nat.lt_irrefl 0)⟩
theorem NetTo.own {S : Nat → Prop} {w w1 w' : World} {bn bm : Nat} {s : NetS} {u : Value} {m : Msg} (h : NetTo S w w1 bn bm s) (e : Up w1 w') (hu : RB (fun b => w1.heap.size ≤ b) w' u m) : NetToX S w w' bn bm s u m :=
  let ⟨h1, S', h2, h3⟩ := h; ⟨h1.trans e.frm, S', h2.up e, h3, hu.mono fun b _ hb => ⟨Nat.le_trans h1.size hb, fun hs => by have := (h2.old b hs).1; omega⟩⟩

theorem NetR.to {S : Nat → Prop} {w w' : World} {bn bm : Nat} {s : NetS} (h : NetR S w bn bm s) (e : Up w w') : NetTo S w w' bn bm s := ⟨e.frm, S, h.up e, fun _ h => .inl h⟩
theorem NetTo.up {S : Nat → Prop} {w w' w'' : World} {bn bm : Nat} {s : NetS} (h : NetTo S w w' bn bm s) (e : Up w' w'') : NetTo S w w'' bn bm s :=
  let ⟨h1, S', h2, h3⟩ := h; ⟨h1.trans e.frm, S', h2.up e, h3⟩
theorem NetTo.ahead {S : Nat → Prop} {w0 w w' : World} {bn bm : Nat} {s : NetS} (e : Up w0 w) (h : NetTo S w w' bn bm s) : NetTo S w0 w' bn bm s :=
  let ⟨h1, S', h2, h3⟩ := h; ⟨e.frm.trans h1, S', h2, fun b hb => (h3 b hb).imp id fun h => Nat.le_trans e.size h⟩

theorem NetR.ne {S : Nat → Prop} {w : World} {bn bm : Nat} {s : NetS} (h : NetR S w bn bm s) : bn ≠ bm := by
  intro e
  obtain ⟨es, c, hb, _⟩ := h.map
  have := (show w.heap[bn]? = _ from h.blk).symm.trans (e ▸ (show w.heap[bm]? = _ from hb))
  cases this

/-- the queue of a link, as the look-up finds it, now and in whatever world grows out of this one -/
theorem NetR.look {S : Nat → Prop} {w : World} {bn bm : Nat} {s : NetS} (h : NetR S w bn bm s) (l : Lk) : ∃ v, RQ S w v (s.q l) ∧ ∀ w', Up w w' → (Instr.lookup 61 (.map (some bm)) (ekL l) false).run Try.prog w' = .ok v w' := by
  obtain ⟨es, clock, hb, hs, he⟩ := h.map
  have hT := Try.underlying61
  rcases keyL.find es.toList l w he.isKey with ⟨_, h2⟩ | ⟨j, e, _, h2, h3⟩
  · refine ⟨.slice none 0 0, ?_, fun w' hu => ?_⟩
    · have : s.q l = [] := by unfold NetS.q; rw [he.absent h2]; rfl
      rw [this]; exact RQ.nil
    · have hb' := hb.up hu
      rcases keyL.find es.toList l w' he.isKey with ⟨h1, _⟩ | ⟨j, e, _, hj, hk⟩
      · simp [Instr.lookup, run_underlying hT, run_getMap hb', keyL.check, h1, Try.zeroValue78]
      · exact absurd hk (h2 e (List.mem_of_getElem? hj))
  · obtain ⟨x, hx, hr⟩ := he.present keyL hs.2.2 h2 h3
    refine ⟨e.val, ?_, fun w' hu => ?_⟩
    · have : s.q l = x := by unfold NetS.q; rw [hx]; rfl
      rw [this]; exact hr
    · have hb' := hb.up hu
      rcases keyL.find es.toList l w' he.isKey with ⟨_, hno⟩ | ⟨j', e', h1, hj, hk⟩
      · exact absurd h3 (hno e (List.mem_of_getElem? h2))
      · have e1 : e' = e := by
          have hnk := List.pairwise_iff_getElem.1 hs.2.2
          obtain ⟨hli, hei⟩ := List.getElem?_eq_some_iff.1 h2
          obtain ⟨hlj, hej⟩ := List.getElem?_eq_some_iff.1 hj
          rcases Nat.lt_trichotomy j j' with hlt | hlt | hlt
          · have := hnk j j' (by simpa using hli) (by simpa using hlj) hlt
            simp only [List.getElem_map, hei, hej, hk, h3] at this
            exact absurd rfl this
          · subst hlt; rw [h2] at hj; cases hj; rfl
          · have := hnk j' j (by simpa using hlj) (by simpa using hli) hlt
            simp only [List.getElem_map, hei, hej, hk, h3] at this
            exact absurd rfl this
        subst e1
        simp [Instr.lookup, run_underlying hT, run_getMap hb', keyL.check, h1]

/-! ### what the calls do -/
def NetS.able (s : NetS) (l : Lk) (i : Int) : Bool := fitsL l && decide (0 ≤ i) && decide (i < (s.q l).length)

def NetS.send (s : NetS) (l : Lk) (b : Msg) : NetS × Int :=
  if fitsL l = false then (s, 40) else if 8192 < b.length then (s, 4) else if 8 ≤ (s.q l).length then ({ s with lost := IntKind.i64.wrap (s.lost + 1) }, 7)
  else ({ s with of := aset s.of l (s.q l ++ [b]) }, 0)

def NetS.cut (s : NetS) (l : Lk) (i : Nat) : NetS :=
  { s with of := if (s.q l).eraseIdx i = [] then adel s.of l else aset s.of l ((s.q l).eraseIdx i) }

/-- does a side hold a place -/
def hasB (s : Int) (n : Int) : Bool := (decide (0 ≤ n) && decide (n < 64)) && decide (IntKind.u64.wrap (BitVec.ofInt IntKind.u64.bits (s.fdiv (2 ^ min n.toNat IntKind.u64.bits)) &&& BitVec.ofInt IntKind.u64.bits 1).toNat = 1)

def NetS.take (s : NetS) (l : Lk) (i : Int) : NetS × Option Msg × Int :=
  if s.able l i = false then (s, none, 40)
  else (s.cut l i.toNat, if hasB s.side l.1 = hasB s.side l.2 then (s.q l)[i.toNat]? else none, 0)

def NetS.lose (s : NetS) (l : Lk) (i : Int) : NetS × Int := if s.able l i = false then (s, 40) else (s.cut l i.toNat, 0)

def NetS.double (s : NetS) (l : Lk) (i : Int) : NetS × Int :=
  if s.able l i = false then (s, 40) else if 8 ≤ (s.q l).length then (s, 7) else ({ s with of := aset s.of l (s.q l ++ [(s.q l).getD i.toNat []]) }, 0)

def NetS.forget (s : NetS) (p : Int) : NetS := { s with of := s.of.filter fun x => !(decide (x.1.1 = p) || decide (x.1.2 = p)) }

/-! ### a call, as the laws' texts give it -/
structure DoS where
  op : Int
  i : Int
  l : Lk
  b : Msg
  side : Int

def doCells (k : DoS) (vb : Value) : List Value := [.int .i64 k.op, .int .i64 k.i, .int .i64 k.l.1, .int .i64 k.l.2, vb, .int .u64 k.side]

def flat : List DoS → List Value → List Value
  | k :: ks, v :: vs => doCells k v ++ flat ks vs
  | _, _ => []

/-- a slice of calls -/
def RDos (S : Nat → Prop) (w : World) (v : Value) (ks : List DoS) : Prop := ∃ vbs, SlV S w v ks.length 6 (flat ks vbs) ∧ All2 (fun vb k => RB S w vb k.b) vbs ks

theorem RDos.up {S : Nat → Prop} {w w' : World} {v : Value} {ks : List DoS} (h : RDos S w v ks) (e : Up w w') : RDos S w' v ks := by
  obtain ⟨vbs, h1, h2⟩ := h
  exact ⟨vbs, h1.up e, All2.imp h2 fun _ _ _ _ h => h.up e⟩
theorem RDos.frm {S : Nat → Prop} {w w' : World} {v : Value} {ks : List DoS} (h : RDos S w v ks) {X : Nat → Prop} (e : Frm X w w') (hx : ∀ b, S b → ¬ X b) : RDos S w' v ks := by
  obtain ⟨vbs, h1, h2⟩ := h
  exact ⟨vbs, h1.frm e hx, All2.imp h2 fun _ _ _ _ h => h.frm e hx⟩

theorem flat_cells {w : World} {b : Nat} : ∀ (ks : List DoS) (vbs : List Value) (off j : Nat) (k : DoS) (vb : Value), Cells w b off (flat ks vbs) → ks[j]? = some k → vbs[j]? = some vb → Cells w b (off + j * 6) (doCells k vb)
  | [], _, _, _, _, _, _, h, _ => by simp at h
  | _ :: _, [], _, _, _, _, _, _, h => by simp at h
  | k :: ks, v :: vs, off, 0, k', vb, h, h1, h2 => by
    simp at h1 h2
    subst h1; subst h2
    intro i u hu
    exact h i u (by
      have hi : i < (doCells k v).length := by
        rcases Nat.lt_or_ge i (doCells k v).length with h | h
        · exact h
        · rw [List.getElem?_eq_none h] at hu; cases hu
      simp only [flat]
      rw [List.getElem?_append_left hi]; exact hu)
  | k :: ks, v :: vs, off, j + 1, k', vb, h, h1, h2 => by
    have h' : Cells w b (off + 6) (flat ks vs) := fun i u hu => by
      have := h (6 + i) u (by simp only [flat]; rw [List.getElem?_append_right (by simp [doCells])]; simpa [doCells] using hu)
      rwa [← Nat.add_assoc] at this
    have := flat_cells ks vs (off + 6) j k' vb h' (by simpa using h1) (by simpa using h2)
    rwa [show off + (j + 1) * 6 = off + 6 + j * 6 by omega]

theorem RDos.shape {S : Nat → Prop} {w : World} {v : Value} {ks : List DoS} (h : RDos S w v ks) : ∃ o cap, v = .slice o ks.length cap := by
  obtain ⟨_, ⟨o, cap, hv, _⟩, _⟩ := h; exact ⟨o, cap, hv⟩
theorem RDos.at {S : Nat → Prop} {w : World} {o : Option Addr} {n cap j : Nat} {ks : List DoS} (h : RDos S w (.slice o n cap) ks) (hj : j < ks.length) :
    ∃ b off k vb, o = some ⟨b, off, none⟩ ∧ ks[j]? = some k ∧ Cells w b (off + j * 6) (doCells k vb) ∧ RB S w vb k.b := by
  obtain ⟨vbs, ⟨o', cap', hv, hl, hc⟩, h2⟩ := h
  cases hv
  obtain ⟨b, off, rfl, _, hcs⟩ := hc (by omega)
  obtain ⟨vb, hvb, hr⟩ := All2.get' h2 (show ks[j]? = some ks[j] by simp [hj])
  exact ⟨b, off, ks[j], vb, rfl, by simp [hj], flat_cells ks vbs off j _ vb hcs (by simp [hj]) hvb, hr⟩

/-- several such slices -/
def RL (S : Nat → Prop) (w : World) (v : Value) (ls : List (List DoS)) : Prop := ∃ vs, SlV S w v ls.length 1 vs ∧ All2 (fun v l => RDos S w v l) vs ls
theorem RL.shape {S : Nat → Prop} {w : World} {v : Value} {ls : List (List DoS)} (h : RL S w v ls) : ∃ o cap, v = .slice o ls.length cap := by
  obtain ⟨_, ⟨o, cap, hv, _⟩, _⟩ := h; exact ⟨o, cap, hv⟩
theorem RL.at {S : Nat → Prop} {w : World} {o : Option Addr} {n cap i : Nat} {ls : List (List DoS)} (h : RL S w (.slice o n cap) ls) (hi : i < ls.length) :
    ∃ b off x l, o = some ⟨b, off, none⟩ ∧ ls[i]? = some l ∧ w.cell? ⟨b, off + i * 1, none⟩ = some x ∧ RDos S w x l := by
  obtain ⟨vs, ⟨o', cap', hv, hl, hc⟩, h2⟩ := h
  cases hv
  obtain ⟨b, off, rfl, _, hcs⟩ := hc (by omega)
  obtain ⟨x, hx, hr⟩ := All2.get' h2 (show ls[i]? = some ls[i] by simp [hi])
  exact ⟨b, off, x, ls[i], rfl, by simp [hi], by rw [Nat.mul_one]; exact hcs i x hx, hr⟩

def withB (m n : Int) : Int := if (decide (0 ≤ n) && decide (n < 64)) = false then m else IntKind.u64.wrap (BitVec.ofInt IntKind.u64.bits m ||| BitVec.ofInt IntKind.u64.bits (IntKind.u64.wrap (1 * 2 ^ min n.toNat IntKind.u64.bits))).toNat

def opN (x : Int) : Int := IntKind.i64.wrap ((IntKind.u64.wrap x).tmod 9)

def NetS.does (s : NetS) (k : DoS) : NetS × Option Msg × Int :=
  if opN k.op = 3 ∨ opN k.op = 4 then s.take k.l k.i
  else if opN k.op = 5 then ((s.lose k.l k.i).1, none, (s.lose k.l k.i).2)
  else if opN k.op = 6 then ((s.double k.l k.i).1, none, (s.double k.l k.i).2)
  else if opN k.op = 7 then ({ s with side := k.side }, none, 0)
  else if opN k.op = 8 then (s.forget k.i, none, 0)
  else ((s.send k.l k.b).1, none, (s.send k.l k.b).2)

theorem NetToX.ahead {S : Nat → Prop} {w0 w w' : World} {bn bm : Nat} {s : NetS} {u : Value} {m : Msg} (e : Up w0 w) (h : NetToX S w w' bn bm s u m) : NetToX S w0 w' bn bm s u m :=
  let ⟨h1, S', h2, h3, h4⟩ := h; ⟨e.frm.trans h1, S', h2, fun b hb => (h3 b hb).imp id fun h => Nat.le_trans e.size h, h4.mono fun _ _ hb => ⟨Nat.le_trans e.size hb.1, hb.2⟩⟩

/-! ### Forget, while it goes through the map -/
def hitsL (p : Int) (a : Lk) : Bool := decide (a.1 = p) || decide (a.2 = p)
def fgP (p : Int) (rem : List Lk) (x : Lk × List Msg) : Bool := !hitsL p x.1 || decide (x.1 ∈ rem)

theorem fg_all (p : Int) (l : List (Lk × List Msg)) : l.filter (fgP p (akeys l)) = l := by
  refine List.filter_eq_self.2 fun x hx => ?_
  have : x.1 ∈ akeys l := List.mem_map.2 ⟨x, hx, rfl⟩
  simp [fgP, this]
theorem fg_none (p : Int) (s : NetS) : { s with of := s.of.filter (fgP p []) } = s.forget p := by
  unfold NetS.forget
  congr 1
  refine List.filter_congr fun x _ => ?_
  simp [fgP, hitsL]
theorem fg_keep {p : Int} {l : List (Lk × List Msg)} {r1 r2 : List Lk} {a : Lk} (ha : hitsL p a = false) : l.filter (fgP p (r1 ++ a :: r2)) = l.filter (fgP p (r1 ++ r2)) := by
  refine List.filter_congr fun x _ => ?_
  unfold fgP
  by_cases e : x.1 = a
  · simp [e, ha]
  · simp [e]
theorem nodup_mid {α : Type} {r1 r2 : List α} {a : α} (h : (r1 ++ a :: r2).Nodup) : a ∉ r1 ++ r2 ∧ (r1 ++ r2).Nodup := by
  have hp : (r1 ++ a :: r2).Perm (a :: (r1 ++ r2)) := List.perm_middle
  exact List.nodup_cons.1 (hp.nodup_iff.1 h)
theorem fg_del {p : Int} {l : List (Lk × List Msg)} {r1 r2 : List Lk} {a : Lk} (hn : (akeys l).Nodup) (hd : (r1 ++ a :: r2).Nodup) (ha : hitsL p a = true) : adel (l.filter (fgP p (r1 ++ a :: r2))) a = l.filter (fgP p (r1 ++ r2)) := by
  have hn' : (akeys (l.filter (fgP p (r1 ++ a :: r2)))).Nodup := hn.sublist (List.Sublist.map _ List.filter_sublist)
  rw [adel_filter hn', List.filter_filter]
  refine List.filter_congr fun x _ => ?_
  unfold fgP
  have hna : a ∉ r1 ++ r2 := (nodup_mid hd).1
  by_cases e : x.1 = a
  · rw [e]; simp [ha] ; simpa using hna
  · simp [e]

def LoopF (S : Nat → Prop) (w w' : World) (r bm : Nat) (s : NetS) (p : Int) (nn : Nat) : Prop :=
  ∃ rem, nn = rem.length ∧ rem.Nodup ∧ Frm (fun k => k = bm) w w' ∧ Iter w' r bm ekL (RQ S w) (s.of.filter (fgP p rem)) rem

end Go.Proofs.Ytppohfgaegahoaa
