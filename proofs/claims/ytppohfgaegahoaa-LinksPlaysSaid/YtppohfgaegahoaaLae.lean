/- How the document's Net lies in memory. -/
import Derived.Test.YtppohfgaegahoaaLad
import Derived.Test.YtppohfgaegahoaaLx
namespace Go.Proofs.Ytppohfgaegahoaa
open Go.Tw Go.RowKit

def it3 (p : Lk × Msg) : List Value := [.int .i64 p.1.1, .int .i64 p.1.2, .string ⟨p.2.toArray⟩]
def itC (xs : List (Lk × Msg)) : List Value := xs.flatMap it3

theorem itC_append (xs ys : List (Lk × Msg)) : itC (xs ++ ys) = itC xs ++ itC ys := by simp [itC]
theorem itC_cons (p : Lk × Msg) (xs : List (Lk × Msg)) : itC (p :: xs) = it3 p ++ itC xs := by simp [itC]
theorem itC_len (xs : List (Lk × Msg)) : (itC xs).length = xs.length * 3 := by
  induction xs with
  | nil => rfl
  | cons p xs ih => rw [itC_cons, List.length_append, ih]; simp [it3]; omega
theorem itC_take : ∀ (xs : List (Lk × Msg)) (n : Nat), (itC xs).take (n * 3) = itC (xs.take n)
  | [], n => by simp [itC]
  | p :: xs, 0 => by simp [itC]
  | p :: xs, n + 1 => by
    rw [itC_cons, List.take_succ_cons, itC_cons, ← itC_take xs n, show (n + 1) * 3 = n * 3 + 3 by omega]
    simp [it3]
theorem itC_drop : ∀ (xs : List (Lk × Msg)) (n : Nat), (itC xs).drop (n * 3) = itC (xs.drop n)
  | [], n => by simp [itC]
  | p :: xs, 0 => by simp
  | p :: xs, n + 1 => by
    rw [itC_cons, List.drop_succ_cons, ← itC_drop xs n, show (n + 1) * 3 = n * 3 + 3 by omega]
    simp [it3]
theorem itC_at {w : World} {b off : Nat} : ∀ {xs : List (Lk × Msg)} {i : Nat} {p : Lk × Msg}, Cells w b off (itC xs) → xs[i]? = some p → Cells w b (off + i * 3) (it3 p) := by
  intro xs i p h hi
  have h2 := (h.drop (i * 3)).take 3
  rw [itC_drop] at h2
  obtain ⟨hlt, he⟩ := List.getElem?_eq_some_iff.1 hi
  rw [List.drop_eq_getElem_cons hlt, he, itC_cons] at h2
  simpa [it3] using h2
theorem itC_one (xs : List (Lk × Msg)) : ∀ c ∈ itC xs, c.oneCell' = true := by
  intro c hc
  obtain ⟨p, _, hp⟩ := List.mem_flatMap.1 hc
  simp [it3] at hp
  rcases hp with rfl | rfl | rfl <;> rfl

/-- the cells of the struct: the items, sixty-four answers, how many had no room -/
def refC (v : Value) (x : RefS) : List Value := v :: ((List.range 64).map fun (n : Nat) => Value.bool (x.side (n : Int))) ++ [.int .i64 x.lost]

structure RefR (S : Nat → Prop) (w : World) (bx : Nat) (x : RefS) : Prop where
  blk : ∃ v, Blk w bx (.cells (refC v x).toArray 51) ∧ SlV S w v x.items.length 3 (itC x.items) ∧ ∀ o n c, v = .slice o n c → n ≤ c
  ne : ¬ S bx
  old : ∀ b, S b → b < w.heap.size

theorem RefR.frm {S : Nat → Prop} {w w' : World} {bx : Nat} {x : RefS} (h : RefR S w bx x) {X : Nat → Prop} (e : Frm X w w') (hx : ¬ X bx) (hs : ∀ b, S b → ¬ X b) : RefR S w' bx x := by
  obtain ⟨v, h1, h2, h4⟩ := h.blk
  exact ⟨⟨v, h1.frm e hx, h2.frm e hs, h4⟩, h.ne, fun b hb => Nat.lt_of_lt_of_le (h.old b hb) e.size⟩
theorem RefR.up {S : Nat → Prop} {w w' : World} {bx : Nat} {x : RefS} (h : RefR S w bx x) (e : Up w w') : RefR S w' bx x := h.frm (X := NoB) e.frm (fun h => h) fun _ _ h => h
theorem RefR.lt {S : Nat → Prop} {w : World} {bx : Nat} {x : RefS} (h : RefR S w bx x) : bx < w.heap.size := by obtain ⟨_, hh, _⟩ := h.blk; exact hh.lt

/-- what a call leaves: the struct's block alone has turned; the items lie where they lay, or in a new row -/
def RefTo (S : Nat → Prop) (w w' : World) (bx : Nat) (x : RefS) : Prop := Frm (fun k => k = bx) w w' ∧ ∃ S', RefR S' w' bx x ∧ ∀ b, S' b → S b ∨ w.heap.size ≤ b
theorem RefTo.same {S : Nat → Prop} {w w' : World} {bx : Nat} {x : RefS} (h : RefR S w' bx x) (hf : Frm (fun k => k = bx) w w') : RefTo S w w' bx x := ⟨hf, S, h, fun _ => .inl⟩
theorem RefTo.up {S : Nat → Prop} {w w1 w' : World} {bx : Nat} {x : RefS} (h : RefTo S w w1 bx x) (e : Up w1 w') : RefTo S w w' bx x :=
  let ⟨h1, S', h2, h3⟩ := h; ⟨h1.trans e.frm, S', h2.up e, h3⟩
theorem RefTo.ahead {S : Nat → Prop} {w0 w w' : World} {bx : Nat} {x : RefS} (e : Up w0 w) (h : RefTo S w w' bx x) : RefTo S w0 w' bx x :=
  let ⟨h1, S', h2, h3⟩ := h; ⟨e.frm.trans h1, S', h2, fun b hb => (h3 b hb).imp id fun h => Nat.le_trans e.size h⟩
theorem RefTo.new {S : Nat → Prop} {w wq w' : World} {bx base c n : Nat} {o : Option Addr} {x : RefS} (hn : n = x.items.length) (hb : Blk w' bx (.cells (refC (.slice o n c) x).toArray 51)) (hsl : SlV (fun b => base ≤ b) wq (.slice o n c) n 3 (itC x.items)) (hf2 : Frm (fun k => k = bx) wq w') (hbx : bx < base) (hbase : w.heap.size ≤ base) (hroom : n ≤ c) (hf : Frm (fun k => k = bx) w w') : RefTo S w w' bx x := by
  subst hn
  refine ⟨hf, fun b => base ≤ b ∧ b < w'.heap.size, ⟨⟨_, hb, ?_, fun o n c e => by cases e; exact hroom⟩, fun h => absurd h.1 (by omega), fun b h => h.2⟩, fun b h => .inr (by omega)⟩
  exact (hsl.frm hf2 fun b hb e => by have e : b = bx := e; omega).mono (fun b h h2 => ⟨h2, h⟩) (by omega)
end Go.Proofs.Ytppohfgaegahoaa
