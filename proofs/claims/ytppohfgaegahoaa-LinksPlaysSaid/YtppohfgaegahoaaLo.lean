/- What comes in, opened: a slice of calls. -/
import Derived.Test.YtppohfgaegahoaaLb
import Derived.Test.YtppohfgaegahoaaTwi
namespace Go.Proofs.Ytppohfgaegahoaa
open Go.Tw Go.RowKit Go.ChangeShapes Go.WideShapes Go.Deep

section
variable {H : Type} {enc : TypeId × Value → H} {w : World} {fuel : Nat} {cs : List Value} {x : DataW H × List MemPlace}

theorem cells3' : Try.prog.cellsOf 3 = 1 := by kernel_rfl
theorem cells29' : Try.prog.cellsOf 29 = 2 := by kernel_rfl
theorem cells30' : Try.prog.cellsOf 30 = 1 := by kernel_rfl
theorem cells31' : Try.prog.cellsOf 31 = 1 := by kernel_rfl
theorem len2 {α : Type} {l : List α} (h : l.length = 2) : ∃ a b, l = [a, b] := match l, h with | [a, b], _ => ⟨a, b, rfl⟩
theorem len6 {α : Type} {l : List α} (h : l.length = 6) : ∃ a b c d e f, l = [a, b, c, d, e, f] := match l, h with | [a, b, c, d, e, f], _ => ⟨a, b, c, d, e, f, rfl⟩
theorem open_link (h : DataW.trod enc Try.prog w 0 (fun _ => true) true fuel 29 cs = some x) : ∃ l : Lk, cs = [.int .i64 l.1, .int .i64 l.2] := by
  obtain ⟨y0, y1, n, _, hl, h0, h1⟩ := trod_struct2 Try.underlying29 h
  obtain ⟨a, e0, _, _⟩ := DataW.trod_int Try.underlying3 h0
  obtain ⟨b, e1, _, _⟩ := DataW.trod_int Try.underlying3 h1
  have hl : cs.length = 2 := hl.trans (by kernel_rfl)
  clear h h0 h1
  obtain ⟨c0, c1, rfl⟩ := len2 hl
  dsimp only at e0 e1
  simp only [cells3'] at e0 e1
  simp at e0 e1
  exact ⟨(a, b), by simp [e0, e1]⟩

theorem open_do (h : DataW.trod enc Try.prog w 0 (fun _ => true) true fuel 33 cs = some x) : ∃ k vb, cs = doCells k vb ∧ RB AnyB w vb k.b := by
  obtain ⟨xs, n, _, _, hl, hxl, hf⟩ := DataW.trod_struct Try.underlying33 h
  have hl : cs.length = 6 := hl.trans (by kernel_rfl)
  match xs, hxl with
  | [y0, y1, y2, y3, y4], _ =>
    obtain ⟨a, e0, _, _⟩ := DataW.trod_int Try.underlying3 (hf 0 _ rfl)
    obtain ⟨b, e1, _, _⟩ := DataW.trod_int Try.underlying3 (hf 1 _ rfl)
    obtain ⟨l, e2⟩ := open_link (hf 2 _ rfl)
    obtain ⟨vb, m, e3, hb, _⟩ := open_bytes Try.underlying30 Try.underlying5 (by kernel_rfl) (hf 3 _ rfl)
    obtain ⟨s, e4, _, _⟩ := DataW.trod_int Try.underlying31 (hf 4 _ rfl)
    clear h hf
    obtain ⟨c0, c1, c2, c3, c4, c5, rfl⟩ := len6 hl
    · simp [cells3', cells29', cells30', cells31'] at e0 e1 e2 e3 e4
      refine ⟨⟨a, b, l, m, s⟩, vb, by simp [doCells, e0, e1, e2, e3, e4], hb⟩

theorem gather_dos {b : Nat} : ∀ (n off : Nat), (∀ i, i < n → ∃ k vb, Cells w b (off + i * 6) (doCells k vb) ∧ RB AnyB w vb k.b) → ∃ ks vbs, ks.length = n ∧ vbs.length = n ∧ Cells w b off (flat ks vbs) ∧ All2 (fun vb (k : DoS) => RB AnyB w vb k.b) vbs ks
  | 0, off, _ => ⟨[], [], rfl, rfl, cells0, trivial⟩
  | n + 1, off, h => by
    obtain ⟨k, vb, h1, h2⟩ := h 0 (by omega)
    obtain ⟨ks, vbs, h3, h3', h4, h5⟩ := gather_dos n (off + 6) fun i hi => by
      obtain ⟨k, vb, h1, h2⟩ := h (i + 1) (by omega)
      exact ⟨k, vb, by rwa [show off + 6 + i * 6 = off + (i + 1) * 6 by omega], h2⟩
    exact ⟨k :: ks, vb :: vbs, by simp [h3], by simp [h3'], (show Cells w b off (doCells k vb) by simpa using h1).append (by simpa [doCells] using h4), ⟨h2, h5⟩⟩

theorem flat_length : ∀ (ks : List DoS) (vbs : List Value), ks.length = vbs.length → (flat ks vbs).length = ks.length * 6
  | [], [], _ => rfl
  | k :: ks, v :: vs, h => by
    simp only [flat, List.length_append, List.length_cons]
    rw [flat_length ks vs (by simpa using h)]
    simp [doCells]; omega
  | [], _ :: _, h => by simp at h
  | _ :: _, [], h => by simp at h

theorem open_dos (h : DataW.trod enc Try.prog w 0 (fun _ => true) true fuel 22 cs = some x) : ∃ v ks, cs = [v] ∧ RDos AnyB w v ks ∧ ks.length ≤ 9223372036854775807 := by
  rcases open_slice Try.underlying22 h with ⟨hcs, _⟩ | ⟨a, len, cap, m, n, D, Pl, hcs, _, hl, hm, hmm, _, hi⟩
  · exact ⟨_, [], hcs, ⟨[], ⟨none, 0, rfl, rfl, fun h => absurd h (Nat.lt_irrefl 0)⟩, trivial⟩, by simp⟩
  · have hmc : m = cap := by simpa using hmm
    have h33 : Try.prog.cellsOf 33 = 6 := by kernel_rfl
    rw [h33] at hi
    have hm' : cap ≤ 9223372036854775807 := hm
    rcases Nat.eq_zero_or_pos len with h0 | h0
    · subst h0
      exact ⟨_, [], hcs, ⟨[], ⟨some a, cap, rfl, rfl, fun h => absurd h (Nat.lt_irrefl 0)⟩, trivial⟩, by simp⟩
    · have hcell : ∀ i, i < len → ∃ k vb, (∀ j v, (doCells k vb)[j]? = some v → w.cell? ((a.add (i * 6)).add j) = some v) ∧ RB AnyB w vb k.b := by
        intro i hil
        obtain ⟨cs', hc, ht⟩ := hi i (by omega)
        obtain ⟨k, vb, rfl, hb⟩ := open_do ht
        obtain ⟨_, hlen, hat⟩ := World.cells?_some hc
        exact ⟨k, vb, fun j v hv => by rw [hat j (by have := (List.getElem?_eq_some_iff.1 hv).1; omega)]; exact hv, hb⟩
      obtain ⟨k0, vb0, hc0, _⟩ := hcell 0 h0
      have hp : ∃ b off, a = ⟨b, off, none⟩ := by
        have := hc0 0 (.int .i64 k0.op) rfl
        rw [show (a.add (0 * 6)).add 0 = a.add 0 by simp [Addr.add]] at this
        exact addr_plain this
      obtain ⟨b, off, rfl⟩ := hp
      obtain ⟨ks, vbs, h1, h2, h3, h4⟩ := gather_dos (w := w) (b := b) len off fun i hil => by
        obtain ⟨k, vb, hc, hb⟩ := hcell i hil
        exact ⟨k, vb, fun j v hv => by have := hc j v hv; rwa [add_zero_addr, add_zero_addr] at this, hb⟩
      subst h1
      exact ⟨_, ks, hcs, ⟨vbs, ⟨_, cap, rfl, flat_length ks vbs h2.symm, fun _ => ⟨b, off, rfl, trivial, h3⟩⟩, h4⟩, by omega⟩
end
end Go.Proofs.Ytppohfgaegahoaa
