/- Functions that hand back what a cell of their own holds; a store into one cell. They speak of no program. -/
import Derived.Test.YtppohfgaegahoaaTwh
namespace Go.Tw
open Go.RowKit

def finC (P : Program) (t : Nat) (T : TypeId) (R : Value → World → Prop) (ρ : Env) (w : World) : Prop := ∃ p v, ρ t = .pointer (some p) ∧ (loadVar T p).run P w = .ok v w ∧ R v w

theorem finC1 {P : Program} {t b off : Nat} {T : TypeId} {R : Value → World → Prop} {ρ : Env} {w : World} {v : Value} (hp : ev ρ (.tmp t) = .pointer (some ⟨b, off, none⟩)) (hT : ∀ w, (isAgg T).run P w = .ok false w) (hc : w.cell? ⟨b, off, none⟩ = some v) (h : R v w) : finC P t T R ρ w :=
  ⟨_, v, hp, run_loadVar1 hT hc, h⟩
theorem finCK {P : Program} {t b off k : Nat} {T : TypeId} {R : Value → World → Prop} {ρ : Env} {w : World} {cs : List Value} (hp : ev ρ (.tmp t) = .pointer (some ⟨b, off, none⟩)) (hT : ∀ w, (isAgg T).run P w = .ok true w) (hs : ∀ w, (sizeOf T).run P w = .ok k w) (hl : cs.length = k) (hc : Cells w b off cs) (h : R (.agg cs.toArray) w) : finC P t T R ρ w :=
  ⟨_, _, hp, run_loadVarK hT hs hl hc, h⟩

theorem fn_of_WC {P : Program} {f : FuncId} {fn : Func} {c : Code} {args : Array Value} {w : World} {R : Value → World → Prop} {N t : Nat} {T : TypeId}
    (hf : P.funcs[f]? = some fn) (hb : fn.body = some c) (hN : fn.ntmps = N) (hr : fn.results = #[ResultVar.cell t T]) (hs : args.size ≤ N)
    (h : ∀ ρ, (∀ t, ev ρ (.tmp t) = args.getD t undef) → W P N c (finC P t T R) (fun _ _ _ => False) (finC P t T R) ρ w) : Does P f args w R := by
  replace h : W P N c (finC P t T R) (fun _ _ _ => False) (finC P t T R) (fun t => args.getD t undef) w := h _ fun _ => rfl
  refine calls_of_wp hf hb ?_
  have hreal : Real N { tmps := args ++ Array.replicate (fn.ntmps - args.size) undef, defers := [] } (fun t => args.getD t undef) := by
    refine ⟨rfl, by simp; omega, fun t => ?_⟩
    simp only [Array.getD_eq_getD_getElem?]
    rw [Array.getElem?_append]
    split
    · rfl
    · rw [Array.getElem?_replicate, Array.getElem?_eq_none (by omega)]
      split <;> rfl
  refine wp_mono (h _ hreal) ?_
  intro e a w' ⟨ρ', hr', hq⟩
  have hres : finC P t T R ρ' w' → ∃ v, (results fn a.tmps).run P w' = .ok v w' ∧ R v w' := by
    intro ⟨p, v, hp, hl, hR⟩
    refine ⟨v, ?_, hR⟩
    have hs := hr'.slot t
    rw [hp] at hs
    unfold results
    rw [hr]
    have hs2 : a.tmps[t]?.getD undef = .pointer (some p) := by rw [← hs]; simp [Array.getD_eq_getD_getElem?]
    simp [hs2, asAddr, hl]
  cases e <;> simp only [Ends] at hq
  · obtain ⟨v, h1, h2⟩ := hres hq; exact ⟨hr'.defers, _, h1, _, rfl, h2⟩
  · obtain ⟨v, h1, h2⟩ := hres hq; exact ⟨hr'.defers, _, h1, _, rfl, h2⟩

/-- a guarded operation of a drawn region: its test is known -/
theorem gstep_yes {P : Program} {l : List Oper} {ρ : Env} {w : World} {K : Value → World → Prop} {d : Option Nat} {op : Op} {ty : TypeId} {ps : String} {af : Array Edge} {j t : Nat} {want : Bool} (hj : (l[j]?).bind (·.dst) = some t) (hb : ev ρ (.tmp t) = .bool want) (h : Step P ⟨d, op, ty, ps, af, some (j, want)⟩ ρ w K) : GStep P l ⟨d, op, ty, ps, af, some (j, want)⟩ ρ w K :=
  ⟨t, want, hj, hb, by rw [if_pos rfl]; exact h⟩
theorem gstep_no {P : Program} {l : List Oper} {ρ : Env} {w : World} {K : Value → World → Prop} {d : Option Nat} {op : Op} {ty : TypeId} {ps : String} {af : Array Edge} {j t : Nat} {want : Bool} (hj : (l[j]?).bind (·.dst) = some t) (hb : ev ρ (.tmp t) = .bool (!want)) (h : K undef w) : GStep P l ⟨d, op, ty, ps, af, some (j, want)⟩ ρ w K :=
  ⟨t, !want, hj, hb, by rw [if_neg (by cases want <;> simp)]; exact h⟩

theorem take_set {cur : List Value} {off : Nat} {v : Value} (h : off < cur.length) : cur.take off ++ [v] ++ cur.drop (off + 1) = cur.set off v := by
  rw [List.set_eq_take_append_cons_drop, if_pos h]; simp

/-- a store into one cell of a row -/
theorem st_store1 {P : Program} {ρ : Env} {w : World} {K : Value → World → Prop} {d : Option Nat} {ty : TypeId} {ps : String} {af : Array Edge} {gd : Option (Nat × Bool)} {T t : TypeId} {x y : Operand} {b off : Nat} {cur : List Value} {v : Value} (hx : ev ρ x = .pointer (some ⟨b, off, none⟩)) (hy : ev ρ y = v) (hs : ∀ w, (sizeOf T).run P w = .ok 1 w) (hb : Blk w b (.cells cur.toArray t (0, 0))) (hlt : off < cur.length)
    (hc : v.cells = #[v]) (h1 : v.oneCell' = true) (h : ∀ w', Blk w' b (.cells (cur.set off v).toArray t (0, 0)) → Frm (fun i => i = b) w w' → w'.heap.size = w.heap.size → K undef w') :
    Step P ⟨d, .store T x y, ty, ps, af, gd⟩ ρ w K :=
  st_store hx hy hs (by rw [hc]; rfl) hb (by simp; omega) (by rw [hc]; simpa using h1) (by rw [hc, ← take_set hlt]) h

/-- a store over a whole row -/
theorem st_storeAll {P : Program} {ρ : Env} {w : World} {K : Value → World → Prop} {d : Option Nat} {ty : TypeId} {ps : String} {af : Array Edge} {gd : Option (Nat × Bool)} {T t : TypeId} {x y : Operand} {b k : Nat} {cur : Array Value} {cs : List Value} (hx : ev ρ x = .pointer (some ⟨b, 0, none⟩)) (hy : ev ρ y = .agg cs.toArray) (hs : ∀ w, (sizeOf T).run P w = .ok k w) (hb : Blk w b (.cells cur t (0, 0))) (hk : cs.length = k) (hcur : cur.size = k)
    (h1 : ∀ c ∈ cs, c.oneCell' = true) (h : ∀ w', Blk w' b (.cells cs.toArray t (0, 0)) → Frm (fun i => i = b) w w' → w'.heap.size = w.heap.size → K undef w') :
    Step P ⟨d, .store T x y, ty, ps, af, gd⟩ ρ w K :=
  st_store hx hy hs (by simp [Value.cells, hk]) hb (by omega) (by simpa [Value.cells] using h1) (by simp [Value.cells, hcur]) h

section
variable {P : Program} {ρ : Env} {w : World} {K : Value → World → Prop} {d : Option Nat} {ty : TypeId} {ps : String} {af : Array Edge} {gd : Option (Nat × Bool)} {x a1 a2 a3 : Operand} {v1 v2 v3 : Value} {ats : Array TypeId} {f : FuncId}
/-! calls of a function value that holds nothing -/
theorem st_callV1 (he : Ent P f) (hx : ev ρ x = .func (.func f) #[] #[]) (h1 : ev ρ a1 = v1) (hc : Does P f #[v1] w K) : Step P ⟨d, .call { callee := .value x, args := #[a1], argTypes := ats }, ty, ps, af, gd⟩ ρ w K :=
  st_callV hx he (by simp [h1]) hc
theorem st_callV2 (he : Ent P f) (hx : ev ρ x = .func (.func f) #[] #[]) (h1 : ev ρ a1 = v1) (h2 : ev ρ a2 = v2) (hc : Does P f #[v1, v2] w K) : Step P ⟨d, .call { callee := .value x, args := #[a1, a2], argTypes := ats }, ty, ps, af, gd⟩ ρ w K :=
  st_callV hx he (by simp [h1, h2]) hc
theorem st_callV3 (he : Ent P f) (hx : ev ρ x = .func (.func f) #[] #[]) (h1 : ev ρ a1 = v1) (h2 : ev ρ a2 = v2) (h3 : ev ρ a3 = v3) (hc : Does P f #[v1, v2, v3] w K) : Step P ⟨d, .call { callee := .value x, args := #[a1, a2, a3], argTypes := ats }, ty, ps, af, gd⟩ ρ w K :=
  st_callV hx he (by simp [h1, h2, h3]) hc
end
end Go.Tw
