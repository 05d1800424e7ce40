/- An append onto a row of no room: it turns nothing that was there. -/
import Derived.Test.YtppohfgaegahoaaLah
namespace Go.Proofs.Ytppohfgaegahoaa
open Go.Tw Go.RowKit

section
variable {P : Program} {ρ : Env} {w : World} {K : Value → World → Prop} {d : Option Nat} {ty : TypeId} {ps : String} {af : Array Edge} {gd : Option (Nat × Bool)}
theorem st_appendZero {s x : Operand} {t e : TypeId} {z : Value} {size bytes base m g : Nat} {u : Value} {news : List Value} {S : Nat → Prop} (hs : ev ρ s = .slice (some ⟨g, 0, none⟩) 0 0) (hx : ev ρ x = u) (hT : P.underlying t = some (.slice e)) (hi : EInfo P e z size bytes) (hzs : z.cells.size = size) (hsz : 0 < size)
    (hown : Own base w e size (.slice (some ⟨g, 0, none⟩) 0 0) 0 []) (hu : SlV S w u m size news) (h1 : ∀ c ∈ news, c.oneCell' = true) (hb : m * bytes ≤ 140737488355328) (hm : m ≤ 9223372036854775807) (hbase : base ≤ w.heap.size)
    (h : ∀ v' w', Own base w' e size v' m news → Up w w' → K v' w') : Step P ⟨d, .call { callee := .builtin .append, args := #[s, x], argTypes := #[t, t] }, ty, ps, af, gd⟩ ρ w K := by
  obtain ⟨i, hi1, hi2, hi3, hi4⟩ := info_parts hi
  obtain ⟨o', cap', rfl, hl, hc⟩ := hu
  by_cases hm0 : m = 0
  · subst hm0
    have hn : news = [] := List.eq_nil_of_length_eq_zero (by simpa using hl)
    subst hn
    refine st_builtin (s := Builtin.append_ #[t, t] ty #[.slice (some ⟨g, 0, none⟩) 0 0, .slice o' 0 cap']) (w' := w) (v := .slice (some ⟨g, 0, none⟩) 0 0) (fun cs => by simp [builtin, hs, hx]) ?_ (h _ w hown (Up.refl w))
    cases o' with
    | none => simp [Builtin.append_, run_underlying hT, sizeOf, typeInfo, hi1, Builtin.lenOf, Builtin.firstCells, storeCells]
    | some a =>
      have hf := run_firstCells_some (P := P) w i.size 0 a 0 cap' [] (by simp) (by simp)
      simp [Builtin.append_, run_underlying hT, sizeOf, typeInfo, hi1, Builtin.lenOf, hf, storeCells]
  · obtain ⟨b, off, rfl, _, hcs⟩ := hc (by omega)
    have hnews : ∀ j c, news[j]? = some c → w.cell? ((⟨b, off, none⟩ : Addr).add j) = some c := fun j c hj => by rw [add_zero_addr]; exact hcs j c hj
    obtain ⟨v', w', hr, h2, h3, h4⟩ := run_append_own (P := P) w base t ty e i z size bytes hT hi1 hi2 hi3 hi4 hzs hsz _ 0 [] hown ⟨b, off, none⟩ m cap' news hl hnews h1 (by unfold maxLen; omega) (by simpa using hb) hbase
    have hr' := run_append_grow (P := P) w t ty e i z hT hi1 hi2 ⟨g, 0, none⟩ 0 0 [] (by simp) (by simp) ⟨b, off, none⟩ m cap' news (by rw [hi3]; exact hl) hnews (by omega) (by omega) (growslice_fits (by omega) (by rw [hi4]; simpa using hb))
    rw [hr'] at hr
    simp only [Result.ok.injEq] at hr
    obtain ⟨rfl, hw⟩ := hr
    refine st_builtin (s := Builtin.append_ #[t, t] ty #[.slice (some ⟨g, 0, none⟩) 0 0, .slice (some ⟨b, off, none⟩) m cap']) (fun cs => by simp [builtin, hs, hx]) hr' (h _ _ (by rw [hw]; simpa [Own] using h2) (Up.trans Up.drew (made_alloc _ _).up))

/-- an empty slice, its value written out -/
theorem st_empty0 {T E : TypeId} {size : Nat} (hT : P.underlying T = some (.slice E)) (hs : ∀ w, (sizeOf E).run P w = .ok size w)
    (h : ∀ b w', b = w.heap.size → Own w.heap.size w' E size (.slice (some ⟨b, 0, none⟩) 0 0) 0 [] → Up w w' → K (.slice (some ⟨b, 0, none⟩) 0 0) w') : Step P ⟨d, .buildSlice T 0 #[], ty, ps, af, gd⟩ ρ w K := by
  have m := made_alloc w (.cells #[] E)
  exact st_val (v := .slice (some ⟨w.heap.size, 0, none⟩) 0 0) (w' := w.alloc (.cells #[] E)) (by simp [execOp, run_buildSlice0 hT hs]) (h _ _ rfl ⟨by simp, .inr ⟨w.heap.size, 0, #[], rfl, Nat.le_refl _, m.blk, Nat.le_refl _, by simp [maxLen], by simp, by simp⟩⟩ m.up)
end
end Go.Proofs.Ytppohfgaegahoaa
