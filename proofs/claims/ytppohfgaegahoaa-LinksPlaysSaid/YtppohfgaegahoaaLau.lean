/- A Net and the document's, side by side in one memory. -/
import Derived.Test.YtppohfgaegahoaaLat
namespace Go.Proofs.Ytppohfgaegahoaa
open Go.Tw Go.RowKit

structure Pair (S Sx : Nat → Prop) (w : World) (bn bm bx : Nat) (s : NetS) (x : RefS) : Prop where
  net : NetR S w bn bm s
  ok : s.Ok
  ref : RefR Sx w bx x
  same : Same s x
  nx : ¬ S bx
  xn : ¬ Sx bn
  xm : ¬ Sx bm
  nb : bn ≠ bx
  mb : bm ≠ bx

theorem Pair.few {S Sx : Nat → Prop} {w : World} {bn bm bx : Nat} {s : NetS} {x : RefS} (h : Pair S Sx w bn bm bx s x) : x.items.length ≤ 1000000 := Nat.le_trans (same_few h.ok h.same) (by omega)
theorem Pair.fits {S Sx : Nat → Prop} {w : World} {bn bm bx : Nat} {s : NetS} {x : RefS} (h : Pair S Sx w bn bm bx s x) : ∀ p ∈ x.items, fitsL p.1 = true := same_fits h.ok h.same

theorem Pair.frm {S Sx : Nat → Prop} {w w' : World} {bn bm bx : Nat} {s : NetS} {x : RefS} (h : Pair S Sx w bn bm bx s x) {X : Nat → Prop} (e : Frm X w w') (h1 : ¬ X bn) (h2 : ¬ X bm) (h3 : ¬ X bx) (h4 : ∀ b, S b → ¬ X b) (h5 : ∀ b, Sx b → ¬ X b) : Pair S Sx w' bn bm bx s x :=
  ⟨h.net.frm e h1 h2 h4, h.ok, h.ref.frm e h3 h5, h.same, h.nx, h.xn, h.xm, h.nb, h.mb⟩
theorem Pair.up {S Sx : Nat → Prop} {w w' : World} {bn bm bx : Nat} {s : NetS} {x : RefS} (h : Pair S Sx w bn bm bx s x) (e : Up w w') : Pair S Sx w' bn bm bx s x :=
  ⟨h.net.up e, h.ok, h.ref.up e, h.same, h.nx, h.xn, h.xm, h.nb, h.mb⟩
/-- blocks from a bound on are none of theirs -/
theorem Pair.apart {S Sx : Nat → Prop} {w w' : World} {bn bm bx : Nat} {s : NetS} {x : RefS} (h : Pair S Sx w bn bm bx s x) {X : Nat → Prop} (e : Frm X w w') (hx : ∀ k, k < w.heap.size → X k → ¬ S k ∧ ¬ Sx k ∧ k ≠ bn ∧ k ≠ bm ∧ k ≠ bx) : Pair S Sx w' bn bm bx s x :=
  h.frm e (fun e => (hx _ h.net.blk.lt e).2.2.1 rfl) (fun e => (hx _ h.net.map.lt e).2.2.2.1 rfl) (fun e => (hx _ h.ref.lt e).2.2.2.2 rfl) (fun b hb e => (hx b (h.net.old b hb).1 e).1 hb) (fun b hb e => (hx b (h.ref.old b hb) e).2.1 hb)

/-- behind a call of the Net -/
structure Mid (S Sx : Nat → Prop) (w w1 : World) (bn bm bx : Nat) (s : NetS) (x : RefS) (u : Value) (m : Msg) (S' : Nat → Prop) : Prop where
  frm : Frm (fun k => k = bn ∨ k = bm) w w1
  net : NetR S' w1 bn bm s
  ref : RefR Sx w1 bx x
  sub : ∀ b, S' b → S b ∨ w.heap.size ≤ b
  nx : ¬ S' bx
  row : RB (fun b => w.heap.size ≤ b ∧ ¬ S' b) w1 u m

theorem Pair.mid {S Sx : Nat → Prop} {w w1 : World} {bn bm bx : Nat} {s s' : NetS} {x : RefS} {u : Value} {m : Msg} (h : Pair S Sx w bn bm bx s x) (ht : NetToX S w w1 bn bm s' u m) : ∃ S', Mid S Sx w w1 bn bm bx s' x u m S' := by
  obtain ⟨h1, S', h2, h3, h4⟩ := ht
  have hbx := h.ref.lt
  refine ⟨S', h1, h2, h.ref.frm h1 (fun e => by rcases e with e | e; exact h.nb e.symm; exact h.mb e.symm) (fun b hb e => by rcases e with e | e <;> subst e; exact h.xn hb; exact h.xm hb), h3, fun hs => ?_, h4⟩
  rcases h3 bx hs with e | e
  · exact h.nx e
  · omega

theorem Mid.pair {S Sx S' : Nat → Prop} {w w1 w2 : World} {bn bm bx : Nat} {s s' : NetS} {x x' : RefS} {u : Value} {m : Msg} (h0 : Pair S Sx w bn bm bx s x) (h : Mid S Sx w w1 bn bm bx s' x u m S') (hk : s'.Ok) (ht : RefTo Sx w1 w2 bx x') (hs : Same s' x') :
    Frm (fun k => k = bx) w1 w2 ∧ ∃ Sx', Pair S' Sx' w2 bn bm bx s' x' ∧ ∀ b, Sx' b → Sx b ∨ w1.heap.size ≤ b := by
  obtain ⟨h1, Sx', h2, h3⟩ := ht
  refine ⟨h1, Sx', ⟨h.net.frm h1 h0.nb h0.mb (fun b hb e => by have e : b = bx := e; subst e; exact h.nx hb), hk, h2, hs, h.nx, fun e => ?_, fun e => ?_, h0.nb, h0.mb⟩, h3⟩
  · rcases h3 bn e with e | e
    · exact h0.xn e
    · have := h.net.blk.lt; omega
  · rcases h3 bm e with e | e
    · exact h0.xm e
    · have := h.net.map.lt; omega

def LoopQ (w : World) (bn bm bx : Nat) (w' : World) : Prop := Up w w' ∧ ∃ S Sx s x, Pair S Sx w' bn bm bx s x

theorem refC_setLost (v : Value) (x : RefS) (n : Int) : (refC v x).set (0 + 65) (.int .i64 n) = refC v { x with lost := n } := by simp [refC]

theorem blk_setLost {w : World} {b o : Nat} {v : Value} {x : RefS} {n : Int} (ho : o = 65) (h : Blk w b (.cells ((refC v x).set o (.int .i64 n)).toArray 51)) : Blk w b (.cells (refC v { x with lost := n }).toArray 51) := by
  subst ho; have := refC_setLost v x n; rw [Nat.zero_add] at this; rw [← this]; exact h

theorem does_refused {s : NetS} {x : RefS} (h : Same s x) {k : DoS} (he : (s.does k).2.2 ≠ 0) : Same (s.does k).1 { x with lost := if (s.does k).2.2 = 7 ∧ opN k.op < 3 then IntKind.i64.wrap (s.lost + 1) else s.lost } ∧ True := by
  refine ⟨?_, trivial⟩
  have hs : Same s { x with lost := s.lost } := ⟨h.q, rfl, h.side⟩
  unfold NetS.does at he ⊢
  by_cases o3 : opN k.op = 3 ∨ opN k.op = 4
  · simp only [if_pos o3] at he ⊢
    rw [if_neg (by omega)]
    unfold NetS.take at he ⊢
    split
    · exact hs
    · rename_i hn; rw [if_neg hn] at he; exact absurd rfl he
  · simp only [if_neg o3] at he ⊢
    by_cases o5 : opN k.op = 5
    · simp only [if_pos o5] at he ⊢
      rw [if_neg (by omega)]
      unfold NetS.lose at he ⊢
      split
      · exact hs
      · rename_i hn; rw [if_neg hn] at he; exact absurd rfl he
    · simp only [if_neg o5] at he ⊢
      by_cases o6 : opN k.op = 6
      · simp only [if_pos o6] at he ⊢
        rw [if_neg (by omega)]
        unfold NetS.double at he ⊢
        split
        · exact hs
        · rename_i hn; rw [if_neg hn] at he
          split
          · exact hs
          · rename_i hn2; rw [if_neg hn2] at he; exact absurd rfl he
      · simp only [if_neg o6] at he ⊢
        by_cases o7 : opN k.op = 7
        · simp only [if_pos o7] at he; exact absurd rfl he
        · simp only [if_neg o7] at he ⊢
          by_cases o8 : opN k.op = 8
          · simp only [if_pos o8] at he; exact absurd rfl he
          · simp only [if_neg o8] at he ⊢
            have hop : opN k.op < 3 := by
              have := opN_bounds k.op
              omega
            unfold NetS.send at he ⊢
            split
            · rw [if_neg (by simp)]; exact hs
            · rename_i h1; rw [if_neg h1] at he
              split
              · rw [if_neg (by simp)]; exact hs
              · rename_i h2; rw [if_neg h2] at he
                split
                · rw [if_pos ⟨rfl, hop⟩]; exact ⟨fun l => h.q l, rfl, h.side⟩
                · rename_i h3; rw [if_neg h3] at he; exact absurd rfl he
end Go.Proofs.Ytppohfgaegahoaa
