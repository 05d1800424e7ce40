/- A side as sixty-four answers; what comes in, its sides within their range. -/
import Derived.Test.YtppohfgaegahoaaLao
import Derived.Test.YtppohfgaegahoaaLo
import Derived.Test.YtppohfgaegahoaaTwk
namespace Go.Proofs.Ytppohfgaegahoaa
open Go.Tw Go.RowKit Go.ChangeShapes Go.WideShapes Go.Deep

def dv (u : Int) (j : Nat) : Int := u / 2 ^ j
theorem dv_0 (u : Int) : dv u 0 = u := by simp [dv]
theorem dv_nn {u : Int} (h : 0 ≤ u) (j : Nat) : 0 ≤ dv u j := Int.ediv_nonneg h (Int.le_of_lt (Int.pow_pos (by omega)))
theorem dv_le {u : Int} (h : 0 ≤ u) (j : Nat) : dv u j ≤ u := Int.ediv_le_self _ h
theorem dv_rem {u : Int} (h : 0 ≤ u) (j : Nat) : (dv u j).tmod 2 = dv u j % 2 := Int.tmod_eq_emod_of_nonneg (dv_nn h j)
theorem dv_quo {u : Int} (h : 0 ≤ u) (h1 : u ≤ 18446744073709551615) (j : Nat) : IntKind.u64.wrap ((dv u j).tdiv 2) = dv u (j + 1) := by
  rw [Int.tdiv_eq_ediv_of_nonneg (dv_nn h j)]
  have e : dv u j / 2 = dv u (j + 1) := by
    unfold dv
    rw [Int.pow_succ, Int.ediv_ediv_of_nonneg (Int.le_of_lt (Int.pow_pos (by omega)))]
  rw [e]
  have := dv_nn h (j + 1)
  have := dv_le h (j + 1)
  exact wru64 (by omega)
theorem hasB_dv {u : Int} (h : 0 ≤ u) (h1 : u ≤ 18446744073709551615) {j : Nat} (hj : j < 64) : hasB u (j : Int) = decide (dv u j % 2 = 1) := by
  unfold hasB
  have hm : min ((j : Int)).toNat IntKind.u64.bits = j := by simp [IntKind.bits]; omega
  rw [hm, show decide ((0 : Int) ≤ (j : Int)) = true by simp, show decide ((j : Int) < 64) = true by simp; omega]
  simp only [Bool.and_self, Bool.true_and]
  congr 1
  have e : u.fdiv (2 ^ j) = dv u j := Int.fdiv_eq_ediv_of_nonneg _ (Int.le_of_lt (Int.pow_pos (by omega)))
  rw [e]
  have h2 := dv_nn h j
  have h3 := dv_le h j
  generalize dv u j = q at *
  have : (BitVec.ofInt IntKind.u64.bits q &&& BitVec.ofInt IntKind.u64.bits 1).toNat = (q % 2).toNat := by
    rw [BitVec.toNat_and]
    have : (BitVec.ofInt IntKind.u64.bits 1).toNat = 1 := by decide
    rw [this, Nat.and_one_is_mod]
    simp only [BitVec.toNat_ofInt, IntKind.bits]
    omega
  rw [this, wru64 (by omega)]
  apply propext
  omega

def fromC (u : Int) (j : Nat) : List Value := (List.range 64).map fun (n : Nat) => Value.bool (decide (n < j) && hasB u n)
theorem fromC_len (u : Int) (j : Nat) : (fromC u j).length = 64 := by simp [fromC]
theorem fromC_set (u : Int) {j : Nat} (hj : j < 64) : (fromC u j).set j (.bool (hasB u j)) = fromC u (j + 1) := by
  refine List.ext_getElem (by simp [fromC]) fun i h1 h2 => ?_
  rw [List.getElem_set]
  by_cases e : j = i
  · subst e; simp [fromC]
  · rw [if_neg e]
    have : (i < j) ↔ (i < j + 1) := by omega
    simp [fromC, this]
theorem fromC_all (u : Int) : fromC u 64 = (List.range 64).map fun (n : Nat) => Value.bool (hasB u n) := by
  refine List.map_congr_left fun n hn => ?_
  have : n < 64 := by simpa using hn
  simp [this]
theorem fromC_one (u : Int) (j : Nat) : ∀ c ∈ fromC u j, c.oneCell' = true := by
  intro c hc
  obtain ⟨n, _, rfl⟩ := List.mem_map.1 hc
  rfl

theorem from_zero (u : Int) : (Value.agg #[.bool false, .bool false, .bool false, .bool false, .bool false, .bool false, .bool false, .bool false, .bool false, .bool false, .bool false, .bool false, .bool false, .bool false, .bool false, .bool false, .bool false, .bool false, .bool false, .bool false, .bool false, .bool false, .bool false, .bool false, .bool false, .bool false, .bool false, .bool false, .bool false, .bool false, .bool false, .bool false, .bool false, .bool false, .bool false, .bool false, .bool false, .bool false, .bool false, .bool false, .bool false, .bool false, .bool false, .bool false, .bool false, .bool false, .bool false, .bool false, .bool false, .bool false, .bool false, .bool false, .bool false, .bool false, .bool false, .bool false, .bool false, .bool false, .bool false, .bool false, .bool false, .bool false, .bool false, .bool false]).cells = (fromC u 0).toArray := by kernel_rfl

def SideOk (k : DoS) : Prop := 0 ≤ k.side ∧ k.side ≤ 18446744073709551615

section
variable {H : Type} {enc : TypeId × Value → H} {w : World} {fuel : Nat} {cs : List Value} {x : DataW H × List MemPlace}
theorem side_wf {s : Int} (h : (Lit.int .u64 s).wf = true) : 0 ≤ s ∧ s ≤ 18446744073709551615 := by
  simp [Lit.wf, IntKind.min, IntKind.max, IntKind.bits, IntKind.signed] at h; omega

theorem open_do2 (h : DataW.trod enc Try.prog w 0 (fun _ => true) true fuel 33 cs = some x) : ∃ k vb, cs = doCells k vb ∧ RB AnyB w vb k.b ∧ SideOk k := by
  obtain ⟨xs, n, _, _, hl, hxl, hf⟩ := DataW.trod_struct Try.underlying33 h
  have hl : cs.length = 6 := hl.trans (by kernel_rfl)
  match xs, hxl with
  | [y0, y1, y2, y3, y4], _ =>
    obtain ⟨a, e0, _, _⟩ := DataW.trod_int Try.underlying3 (hf 0 _ rfl)
    obtain ⟨b, e1, _, _⟩ := DataW.trod_int Try.underlying3 (hf 1 _ rfl)
    obtain ⟨l, e2⟩ := open_link (hf 2 _ rfl)
    obtain ⟨vb, m, e3, hb, _⟩ := open_bytes Try.underlying30 Try.underlying5 (by kernel_rfl) (hf 3 _ rfl)
    obtain ⟨s, e4, _, hs⟩ := DataW.trod_int Try.underlying31 (hf 4 _ rfl)
    clear h hf
    obtain ⟨c0, c1, c2, c3, c4, c5, rfl⟩ := len6 hl
    · simp [cells3', cells29', cells30', cells31'] at e0 e1 e2 e3 e4
      refine ⟨⟨a, b, l, m, s⟩, vb, by simp [doCells, e0, e1, e2, e3, e4], hb, side_wf hs⟩

theorem gather_dos2 {b : Nat} : ∀ (n off : Nat), (∀ i, i < n → ∃ k vb, Cells w b (off + i * 6) (doCells k vb) ∧ RB AnyB w vb k.b ∧ SideOk k) → ∃ ks vbs, ks.length = n ∧ vbs.length = n ∧ Cells w b off (flat ks vbs) ∧ All2 (fun vb (k : DoS) => RB AnyB w vb k.b) vbs ks ∧ ∀ k ∈ ks, SideOk k
  | 0, off, _ => ⟨[], [], rfl, rfl, cells0, trivial, by simp⟩
  | n + 1, off, h => by
    obtain ⟨k, vb, h1, h2, hk⟩ := h 0 (by omega)
    obtain ⟨ks, vbs, h3, h3', h4, h5, hks⟩ := gather_dos2 n (off + 6) fun i hi => by
      obtain ⟨k, vb, h1, h2, hk⟩ := h (i + 1) (by omega)
      exact ⟨k, vb, by rwa [show off + 6 + i * 6 = off + (i + 1) * 6 by omega], h2, hk⟩
    exact ⟨k :: ks, vb :: vbs, by simp [h3], by simp [h3'], (show Cells w b off (doCells k vb) by simpa using h1).append (by simpa [doCells] using h4), ⟨h2, h5⟩, by simp [hk]; exact hks⟩

theorem open_dos2 (h : DataW.trod enc Try.prog w 0 (fun _ => true) true fuel 22 cs = some x) : ∃ v ks, cs = [v] ∧ RDos AnyB w v ks ∧ ks.length ≤ 9223372036854775807 ∧ ∀ k ∈ ks, SideOk k := by
  rcases open_slice Try.underlying22 h with ⟨hcs, _⟩ | ⟨a, len, cap, m, n, D, Pl, hcs, _, hl, hm, hmm, _, hi⟩
  · exact ⟨_, [], hcs, ⟨[], ⟨none, 0, rfl, rfl, fun h => absurd h (Nat.lt_irrefl 0)⟩, trivial⟩, by simp, by simp⟩
  · have hmc : m = cap := by simpa using hmm
    have h33 : Try.prog.cellsOf 33 = 6 := by kernel_rfl
    rw [h33] at hi
    have hm' : cap ≤ 9223372036854775807 := hm
    rcases Nat.eq_zero_or_pos len with h0 | h0
    · subst h0
      exact ⟨_, [], hcs, ⟨[], ⟨some a, cap, rfl, rfl, fun h => absurd h (Nat.lt_irrefl 0)⟩, trivial⟩, by simp, by simp⟩
    · have hcell : ∀ i, i < len → ∃ k vb, (∀ j v, (doCells k vb)[j]? = some v → w.cell? ((a.add (i * 6)).add j) = some v) ∧ RB AnyB w vb k.b ∧ SideOk k := by
        intro i hil
        obtain ⟨cs', hc, ht⟩ := hi i (by omega)
        obtain ⟨k, vb, rfl, hb⟩ := open_do2 ht
        obtain ⟨_, hlen, hat⟩ := World.cells?_some hc
        exact ⟨k, vb, fun j v hv => by rw [hat j (by have := (List.getElem?_eq_some_iff.1 hv).1; omega)]; exact hv, hb⟩
      obtain ⟨k0, vb0, hc0, _⟩ := hcell 0 h0
      have hp : ∃ b off, a = ⟨b, off, none⟩ := by
        have := hc0 0 (.int .i64 k0.op) rfl
        rw [show (a.add (0 * 6)).add 0 = a.add 0 by simp [Addr.add]] at this
        exact addr_plain this
      obtain ⟨b, off, rfl⟩ := hp
      obtain ⟨ks, vbs, h1, h2, h3, h4, h5⟩ := gather_dos2 (w := w) (b := b) len off fun i hil => by
        obtain ⟨k, vb, hc, hb⟩ := hcell i hil
        exact ⟨k, vb, fun j v hv => by have := hc j v hv; rwa [add_zero_addr, add_zero_addr] at this, hb⟩
      subst h1
      exact ⟨_, ks, hcs, ⟨vbs, ⟨_, cap, rfl, flat_length ks vbs h2.symm, fun _ => ⟨b, off, rfl, trivial, h3⟩⟩, h4⟩, by omega, h5⟩
end
end Go.Proofs.Ytppohfgaegahoaa
