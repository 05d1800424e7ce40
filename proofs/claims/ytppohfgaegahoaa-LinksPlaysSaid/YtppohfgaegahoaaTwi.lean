/- What comes in, opened: slices of bytes. It speaks of no program. -/
import Derived.Test.YtppohfgaegahoaaTwh
import Derived.ProofKit
import Derived.OpenShut
import Derived.Deep.Slices
import Derived.ChangeOld
namespace Go.Tw
open Go.RowKit Go.ChangeShapes Go.WideShapes

theorem addr_plain {w : World} {a : Addr} {v : Value} (h : w.cell? (a.add 0) = some v) : ∃ b off, a = ⟨b, off, none⟩ := by
  obtain ⟨b, off, spot⟩ := a
  have hs : spot = none := by simpa [Addr.add] using World.cell?_spot h
  exact ⟨b, off, by rw [hs]⟩

section
variable {H : Type} {enc : TypeId × Value → H} {P : Program} {w : World} {T E : TypeId} {fuel : Nat} {cs : List Value} {x : DataW H × List MemPlace}

theorem byteV_of {z : Int} (h : (Lit.int .u8 z).wf = true) : byteV (UInt8.ofNat z.toNat) = .int .u8 z := by
  have hb := bounds_u8 h
  unfold byteV
  congr 1
  rw [UInt8.toNat_ofNat_of_lt' (by show z.toNat < 256; omega)]
  omega

theorem open_bytes (ht : P.underlying T = some (.slice E)) (he : P.underlying E = some (.int .u8)) (hc : P.cellsOf E = 1) (h : DataW.trod enc P w 0 (fun _ => true) true fuel T cs = some x) :
    ∃ v l, cs = [v] ∧ RB AnyB w v l ∧ l.length ≤ maxLen := by
  rcases open_ints ht he hc h with ⟨hcs, _⟩ | ⟨a, len, cap, zs, hcs, _, hl, hm, hz, _, hcell, hwz⟩
  · exact ⟨_, [], hcs, ⟨none, 0, rfl, rfl, fun h => absurd h (Nat.lt_irrefl 0)⟩, by simp⟩
  · have hz' : zs.length = cap := by simpa using hz
    have hll : ((zs.take len).map fun z => UInt8.ofNat z.toNat).length = len := by simp; omega
    refine ⟨_, (zs.take len).map fun z => UInt8.ofNat z.toNat, hcs, ⟨some a, cap, by rw [hll], by simp, fun h0 => ?_⟩, by rw [hll]; omega⟩
    have hlen0 : 0 < len := by rw [hll] at h0; exact h0
    obtain ⟨b, off, rfl⟩ := addr_plain (hcell 0 (by omega))
    refine ⟨b, off, rfl, trivial, fun i v hv => ?_⟩
    rw [List.map_map, List.getElem?_map] at hv
    cases hzi : (zs.take len)[i]? with
    | none => rw [hzi] at hv; cases hv
    | some z =>
      rw [hzi] at hv
      have hi : zs[i]? = some z := by
        rw [List.getElem?_take] at hzi
        split at hzi
        · exact hzi
        · cases hzi
      have hil : i < zs.length := (List.getElem?_eq_some_iff.1 hi).1
      have hc := hcell i hil
      have hg : zs.getD i 0 = z := by simp [List.getD, hi]
      rw [hg, add_zero_addr] at hc
      have hw := hwz z (List.mem_of_getElem? hi)
      simp only [Option.map_some, Function.comp_apply, byteV_of hw] at hv
      cases hv
      exact hc

/-- two rows of cells, one behind the other -/
theorem Cells.append {b off : Nat} {xs ys : List Value} (h1 : Cells w b off xs) (h2 : Cells w b (off + xs.length) ys) : Cells w b off (xs ++ ys) := by
  intro i v hv
  rcases Nat.lt_or_ge i xs.length with hi | hi
  · rw [List.getElem?_append_left hi] at hv; exact h1 i v hv
  · rw [List.getElem?_append_right hi] at hv
    have := h2 (i - xs.length) v hv
    rwa [show off + xs.length + (i - xs.length) = off + i by omega] at this
end
end Go.Tw
