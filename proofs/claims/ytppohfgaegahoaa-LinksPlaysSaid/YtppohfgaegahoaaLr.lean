/- How the statement LinksOnce counts: its keys, its map, what holds at its loop's head. -/
import Derived.Test.YtppohfgaegahoaaLp
namespace Go.Proofs.Ytppohfgaegahoaa
open Go.Tw Go.RowKit

def ekS (a : Lk × Msg) : Value := .agg #[.int .i64 a.1.1, .int .i64 a.1.2, .string ⟨a.2.toArray⟩]

theorem ekS_inj (a b : Lk × Msg) (h : ekS a = ekS b) : a = b := by
  obtain ⟨⟨a1, a2⟩, a3⟩ := a
  obtain ⟨⟨b1, b2⟩, b3⟩ := b
  simp [ekS] at h
  obtain ⟨h1, h2, h3⟩ := h
  rw [h1, h2, h3]
theorem ekS_one (a : Lk × Msg) : ∀ c ∈ (ekS a).cells.toList, c.oneCell' = true := by
  intro c hc
  simp [ekS, Value.cells] at hc
  rcases hc with rfl | rfl | rfl <;> rfl
theorem do_one {S : Nat → Prop} {w : World} {vb : Value} {l : Msg} (h : RB S w vb l) (k : DoS) : ∀ c ∈ (Value.agg (doCells k vb).toArray).cells.toList, c.oneCell' = true := by
  intro c hc
  obtain ⟨o, cap, rfl, _⟩ := h
  simp [doCells, Value.cells] at hc
  rcases hc with rfl | rfl | rfl | rfl | rfl | rfl <;> rfl

theorem eqIn_link (d : Nat) (a b : Lk) (w : World) : (Op.equalIn (d + 2) 29 (.agg #[.int .i64 a.1, .int .i64 a.2]) (.agg #[.int .i64 b.1, .int .i64 b.2])).run Try.prog w = .ok (decide (a = b)) w := by
  have u3 := Try.underlying3
  have a3 := Try.isAgg3
  have z3 := Try.sizeOf3
  have hS : Try.prog.underlying 29 = some (.struct (Try.prog.fieldsOf 29)) := by kernel_rfl
  have hp : Try.prog.stoodInHeld 29 = false := by kernel_rfl
  rw [show d + 2 = (d + 1) + 1 from rfl, run_equalIn_agg w (d + 1) 29 _ _ hS hp]
  simp only [Program.fieldsOf, Try.underlying29]
  go_simp
  obtain ⟨a1, a2⟩ := a
  obtain ⟨b1, b2⟩ := b
  by_cases h1 : a1 = b1 <;> by_cases h2 : a2 = b2 <;> simp [h1, h2]

theorem str_eq (x y : Msg) : ((⟨x.toArray⟩ : ByteArray).toList == (⟨y.toArray⟩ : ByteArray).toList) = decide (x = y) := by
  rw [beq_toList]
  simp

theorem part_link (x y z : Value) (w : World) : (part 29 #[x, y, z] 0).run Try.prog w = .ok (.agg #[x, y]) w := by
  simp [part, Try.isAgg29, Try.sizeOf29]
theorem part_str (x y z : Value) (w : World) : (part 9 #[x, y, z] 2).run Try.prog w = .ok z w := by
  simp [part, Try.isAgg9]

theorem eq_sent (a b : Lk × Msg) (w : World) : (Op.equal 39 (ekS a) (ekS b)).run Try.prog w = .ok (decide (a = b)) w := by
  have hS : Try.prog.underlying 39 = some (.struct (Try.prog.fieldsOf 39)) := by kernel_rfl
  have hp : Try.prog.stoodInHeld 39 = false := by kernel_rfl
  unfold Op.equal Op.maxDepth
  simp only [ekS]
  rw [show (10000 : Nat) = 9999 + 1 from rfl, run_equalIn_agg w 9999 39 _ _ hS hp]
  have hf : (Try.prog.fieldsOf 39).toList = [{ name := "l", type := 29, offset := 0, embedded := false, tag := "", pkgPath := "towline/towlinelaw04", byteOffset := 0 }, { name := "b", type := 9, offset := 2, embedded := false, tag := "", pkgPath := "towline/towlinelaw04", byteOffset := 16 }] := by
    simp only [Program.fieldsOf, Try.underlying39]
  rw [hf]
  have h1 := eqIn_link 9997 a.1 b.1 w
  have h2 := run_equalIn_string (P := Try.prog) w 9998 9 ⟨a.2.toArray⟩ ⟨b.2.toArray⟩ Try.underlying9
  rw [str_eq] at h2
  simp only [Op.eqFields, ne_eq, if_true, not_false_eq_true, Sem.run_bind, part_link, part_str, Result.andThen_ok, show ("l" : String) ≠ "_" from by decide, show ("b" : String) ≠ "_" from by decide]
  rw [h1]
  simp only [Result.andThen_ok]
  obtain ⟨a1, a2⟩ := a
  obtain ⟨b1, b2⟩ := b
  by_cases e1 : a1 = b1
  · subst e1
    simp only [decide_true, Bool.not_true, Bool.false_eq_true, if_false, Sem.run_bind, part_str, Result.andThen_ok, h2]
    by_cases e2 : a2 = b2 <;> simp [e2]
  · simp [e1]

theorem keyS : KeyOk Try.prog 39 ekS :=
  KeyOk.ofEq Try.underlying39 ekS_inj (fun em a w => by kernel_rfl) (fun a b => rfl) eq_sent (fun a w => by
    have h : Instr.sameBits 10000 (ekS a) (ekS a) = true := by
      rw [show (10000 : Nat) = 9998 + 1 + 1 from rfl]
      simp [ekS, Instr.sameBits, show ∀ x : ByteArray, (x == x) = true from fun x => by rw [beq_toListBytes]; simp]
    simp only [Instr.keyThatStays, h]; rfl)

def CntR (w : World) (b : Nat) (c : List ((Lk × Msg) × Int)) : Prop := MapR w b ekS RI c
theorem CntR.up {w w' : World} {b : Nat} {c : List ((Lk × Msg) × Int)} (h : CntR w b c) (e : Up w w') : CntR w' b c := MapR.up h e fun _ _ h => h
theorem CntR.frm {w w' : World} {b : Nat} {c : List ((Lk × Msg) × Int)} (h : CntR w b c) {X : Nat → Prop} (e : Frm X w w') (hx : ¬ X b) : CntR w' b c := MapR.frm h e hx fun _ _ h => h

theorem aset_aset {κ α : Type} [DecidableEq κ] {l : List (κ × α)} {a : κ} {x y : α} : aset (aset l a x) a y = aset l a y := by
  induction l with
  | nil => simp [aset]
  | cons p l ih =>
    simp only [aset]
    by_cases h : p.1 = a
    · rw [if_pos h, if_pos h]; simp [aset]
    · rw [if_neg h, if_neg h]; simp only [aset]; rw [if_neg h, ih]

def LoopO (w : World) (bn bm bc : Nat) (i : Nat) (w' : World) : Prop :=
  Up w w' ∧ ∃ S s c, NetR S w' bn bm s ∧ s.Ok ∧ CntR w' bc c ∧ ¬ S bc ∧ Inv s c i
end Go.Proofs.Ytppohfgaegahoaa
