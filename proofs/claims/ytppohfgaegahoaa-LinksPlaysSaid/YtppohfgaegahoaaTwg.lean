/- Rules for slices: what is owned, appended to, cut, cleared; bytes and texts. They speak of no program. -/
import Derived.Test.YtppohfgaegahoaaTwf
import Derived.Laws.AppendOwn
import Derived.Laws.AppendOwnNone
import Derived.Laws.IdiomStrings
import Derived.Laws.BytesArg
namespace Go.Tw
open Go.RowKit

/-- a row of the call's own (the kit's word, its base ahead) -/
def Own (base : Nat) (w : World) (e size : Nat) (v : Value) (n : Nat) (xs : List Value) : Prop := w.ownsRow base e size v n xs

theorem Own.frm {base e size n : Nat} {w w' : World} {v : Value} {xs : List Value} (h : Own base w e size v n xs) {X : Nat → Prop} (e' : Frm X w w') (hx : ∀ b, v.ownBlock = some b → ¬ X b) : Own base w' e size v n xs := by
  obtain ⟨h1, h2⟩ := h
  refine ⟨h1, ?_⟩
  rcases h2 with h2 | ⟨g, cap, cur, hv, hg, hh, r⟩
  · exact .inl h2
  · refine .inr ⟨g, cap, cur, hv, hg, ?_, r⟩
    subst hv
    rw [e'.block g (Array.getElem?_eq_some_iff.1 hh).1 (hx g rfl)]; exact hh
theorem Own.up {base e size n : Nat} {w w' : World} {v : Value} {xs : List Value} (h : Own base w e size v n xs) (e' : Up w w') : Own base w' e size v n xs := h.frm (X := NoB) e'.frm fun _ _ h => h
theorem Own.base {base base' e size n : Nat} {w : World} {v : Value} {xs : List Value} (h : Own base w e size v n xs) (hb : base' ≤ base) : Own base' w e size v n xs := by
  obtain ⟨h1, h2⟩ := h
  refine ⟨h1, ?_⟩
  rcases h2 with h2 | ⟨g, cap, cur, hv, hg, r⟩
  · exact .inl h2
  · exact .inr ⟨g, cap, cur, hv, Nat.le_trans hb hg, r⟩
theorem Own.sl {base e size n : Nat} {w : World} {v : Value} {xs : List Value} (h : Own base w e size v n xs) : SlV (fun b => base ≤ b) w v n size xs := by
  obtain ⟨h1, h2⟩ := h
  rcases h2 with ⟨rfl, rfl⟩ | ⟨g, cap, cur, rfl, hg, hh, hn, hm, hs, ht⟩
  · exact ⟨none, 0, rfl, h1, fun h => absurd h (Nat.lt_irrefl 0)⟩
  · refine ⟨some ⟨g, 0, none⟩, cap, rfl, h1, fun _ => ⟨g, 0, rfl, hg, ?_⟩⟩
    have hb : Blk w g (.cells cur e (0, 0)) := hh
    have := hb.cells.take (n * size)
    rw [ht] at this
    exact this
theorem Own.block {base e size n : Nat} {w : World} {v : Value} {xs : List Value} (h : Own base w e size v n xs) : ∀ b, v.ownBlock = some b → base ≤ b ∧ b < w.heap.size := h.lt

/-- the element type's row of the table -/
def EInfo (P : Program) (e : TypeId) (z : Value) (size bytes : Nat) : Prop := (P.info? e).map (fun i => (i.zero, i.size, i.bytes)) = some (some z, size, bytes)

section
variable {P : Program} {ρ : Env} {w w' : World} {K : Value → World → Prop} {d : Option Nat} {ty : TypeId} {ps : String} {af : Array Edge} {gd : Option (Nat × Bool)}

theorem st_append {s x : Operand} {t e : TypeId} {z : Value} {size bytes base n m : Nat} {v u : Value} {xs news : List Value} {S : Nat → Prop} (hs : ev ρ s = v) (hx : ev ρ x = u) (hT : P.underlying t = some (.slice e)) (hi : EInfo P e z size bytes) (hzs : z.cells.size = size) (hsz : 0 < size)
    (hown : Own base w e size v n xs) (hu : SlV S w u m size news) (h1 : ∀ c ∈ news, c.oneCell' = true) (hb : (n + m) * bytes ≤ 140737488355328) (hm : n + m ≤ 9223372036854775807) (hbase : base ≤ w.heap.size)
    (h : ∀ v' w', Own base w' e size v' (n + m) (xs ++ news) → Frm (fun k => v.ownBlock = some k) w w' → (v' = .slice none 0 0 ↔ v = .slice none 0 0 ∧ m = 0) → (∀ k, v'.ownBlock = some k → v.ownBlock = some k ∨ w.heap.size ≤ k) → K v' w') : Step P ⟨d, .call { callee := .builtin .append, args := #[s, x], argTypes := #[t, t] }, ty, ps, af, gd⟩ ρ w K := by
  obtain ⟨i, hi1, hi2, hi3, hi4⟩ := info_parts hi
  obtain ⟨o, cap, rfl, hl, hc⟩ := hu
  cases o with
  | none =>
    have hm0 : m = 0 := by
      rcases Nat.eq_zero_or_pos m with h | h
      · exact h
      · obtain ⟨b, off, ho, _⟩ := hc h; cases ho
    subst hm0
    have hn : news = [] := List.eq_nil_of_length_eq_zero (by simpa using hl)
    subst hn
    have hrun : (Builtin.append_ #[t, t] ty #[v, .slice none 0 cap]).run P w = .ok v w := by
      have h0 := run_append_owned_none (P := P) (w := w) base t ty e i size hT hi1 v n xs hown
      obtain ⟨_, h2⟩ := hown
      rcases h2 with ⟨rfl, rfl⟩ | ⟨g, cp, cur, rfl, _, _, hle, _⟩
      · simp [Builtin.append_, run_underlying hT, sizeOf, typeInfo, hi1, Builtin.lenOf, Builtin.firstCells]
      · simp [Builtin.append_, run_underlying hT, sizeOf, typeInfo, hi1, Builtin.lenOf, Builtin.firstCells, hle, storeCells]
    refine st_builtin (s := Builtin.append_ #[t, t] ty #[v, .slice none 0 cap]) (w' := w) (fun cs => by simp [builtin, hs, hx]) hrun (h v w (by simpa using hown) (Frm.refl _ _) (by simp) (fun k hk => .inl hk))
  | some a =>
    have hnews : ∀ j c, news[j]? = some c → w.cell? (a.add j) = some c := by
      intro j c hj
      rcases Nat.eq_zero_or_pos m with h | h
      · subst h
        have hn : news = [] := List.eq_nil_of_length_eq_zero (by simpa using hl)
        subst hn; simp at hj
      · obtain ⟨b, off, ho, _, hcs⟩ := hc h
        cases ho
        rw [add_zero_addr]; exact hcs j c hj
    obtain ⟨v', w', hr, h2, h3, h4⟩ := run_append_own (P := P) w base t ty e i z size bytes hT hi1 hi2 hi3 hi4 hzs hsz v n xs hown a m cap news hl hnews h1 (by unfold maxLen; exact hm) hb hbase
    refine st_builtin (s := Builtin.append_ #[t, t] ty #[v, .slice (some a) m cap]) (w' := w') (fun cs => by simp [builtin, hs, hx]) hr (h v' w' h2 ⟨h3.os, h3.tape, h3.output, h3.size, fun k hk hx => h3.block k hk (fun e => hx e.symm)⟩ h4 ?_)
    -- where the new row lies
    intro k hk
    rcases h2.2 with ⟨rfl, _⟩ | ⟨g, cp, cur, rfl, _, hg, _⟩
    · simp [Value.ownBlock] at hk
    · simp [Value.ownBlock] at hk
      subst hk
      rcases hown.2 with ⟨rfl, rfl⟩ | ⟨g0, cp0, cur0, rfl, _, hg0, hn0, _⟩
      · right
        rcases Nat.lt_or_ge g w.heap.size with hlt | hge
        · exfalso
          -- a new row has been laid
          by_cases hm0 : m = 0
          · subst hm0
            have := h4.2 ⟨rfl, rfl⟩
            cases this
          · have hr' := run_append_nil (P := P) w t ty e i z hT hi1 hi2 a m cap news (by rw [hi3]; exact hl) hnews (by omega) (by omega) (by rw [hi4]; exact Nat.le_trans (by simpa using hb) (by omega))
            rw [hr'] at hr
            simp only [Result.ok.injEq, Value.slice.injEq, Option.some.injEq, Addr.mk.injEq] at hr
            omega
        · exact hge
      · by_cases hroom : n + m ≤ cp0
        · left
          have hfit : n * i.size + news.length ≤ cur0.size := by
            obtain ⟨_, h5⟩ := hown
            rcases h5 with ⟨h, _⟩ | ⟨g', c', cur', he', _, hg', _, _, hcs, _⟩
            · cases h
            · cases he'
              rw [show w.heap[g0]? = _ from hg0] at hg'
              cases hg'
              rw [hl, hcs, hi3, ← Nat.add_mul]; exact Nat.mul_le_mul_right _ hroom
          have hr' := run_append_room (P := P) w t ty e i hT hi1 g0 n cp0 cur0 hg0 a m cap news (by rw [hi3]; exact hl) hnews h1 hroom hfit
          rw [hr'] at hr
          cases hr
          rfl
        · right
          have holds : ∀ j u, xs[j]? = some u → w.cell? ((⟨g0, 0, none⟩ : Addr).add j) = some u := World.ownsRow.cells hown (g := g0) rfl
          have hr' := run_append_grow (P := P) w t ty e i z hT hi1 hi2 ⟨g0, 0, none⟩ n cp0 xs (by rw [hi3]; exact hown.1) holds a m cap news (by rw [hi3]; exact hl) hnews (by omega) (by omega) (growslice_fits (by omega) (by rw [hi4]; exact hb))
          rw [hr'] at hr
          cases hr
          exact Nat.le_refl _

theorem run_buildSlice0 {T E : TypeId} {size : Nat} (hT : P.underlying T = some (.slice E)) (hs : ∀ w, (sizeOf E).run P w = .ok size w) : (Instr.buildSlice T 0 #[]).run P w = .ok (.slice (some ⟨w.heap.size, 0, none⟩) 0 0) (w.alloc (.cells #[] E)) := by
  simp [Instr.buildSlice, run_underlying hT, hs, newRow, Instr.fill]
  have : (Array.range 0) = #[] := Array.eq_empty_of_size_eq_zero (by simp)
  rw [this]; simp

/-- '[]T{}' -/
theorem st_empty {T E : TypeId} {size : Nat} (hT : P.underlying T = some (.slice E)) (hs : ∀ w, (sizeOf E).run P w = .ok size w)
    (h : ∀ v w', v.ownBlock = some w.heap.size → v ≠ .slice none 0 0 → Own w.heap.size w' E size v 0 [] → Up w w' → K v w') : Step P ⟨d, .buildSlice T 0 #[], ty, ps, af, gd⟩ ρ w K := by
  have m := made_alloc w (.cells #[] E)
  refine st_val (v := .slice (some ⟨w.heap.size, 0, none⟩) 0 0) (w' := w.alloc (.cells #[] E)) (by simp [execOp, run_buildSlice0 hT hs]) (h _ _ rfl (by simp) ⟨by simp, .inr ⟨w.heap.size, 0, #[], rfl, Nat.le_refl _, m.blk, Nat.le_refl _, by simp [maxLen], by simp, by simp⟩⟩ m.up)

/-- a slice of parts that are written out -/
theorem st_buildSlice {T E : TypeId} {n : Nat} {parts : Array (Nat × Operand)} {cells : Array Value} (hrun : ∀ w, (Instr.buildSlice T n (parts.map fun (i, x) => (i, ev ρ x))).run P w = .ok (.slice (some ⟨w.heap.size, 0, none⟩) n n) (w.alloc (.cells cells E)))
    (h : ∀ b w', Made w w' b (.cells cells E) → K (.slice (some ⟨b, 0, none⟩) n n) w') : Step P ⟨d, .buildSlice T n parts, ty, ps, af, gd⟩ ρ w K :=
  st_val (v := .slice (some ⟨w.heap.size, 0, none⟩) n n) (w' := w.alloc (.cells cells E)) (by simp only [execOp, Sem.run_bind, hrun]; rfl) (h _ _ (made_alloc w _))

theorem made_sl {b n size : Nat} {cells : List Value} {E : TypeId} (m : Made w w' b (.cells cells.toArray E)) (hl : cells.length = n * size) {S : Nat → Prop} (hS : S b) : SlV S w' (.slice (some ⟨b, 0, none⟩) n n) n size cells :=
  ⟨_, _, rfl, hl, fun _ => ⟨b, 0, rfl, hS, m.blk.row⟩⟩

/-! cutting -/
theorem run_slice {T E : TypeId} {o : Option Addr} {n cap size : Nat} {lo hi : Option Value} {l h : Nat} (hT : P.underlying T = some (.slice E)) (hs : ∀ w, (sizeOf E).run P w = .ok size w)
    (hb : (Instr.sliceBounds true n cap lo hi none).run P w = .ok (l, h, cap) w) : (Instr.sliceAt T (.slice o n cap) lo hi none).run P w = .ok (.slice (if cap = l then o else o.map (·.add (l * size))) (h - l) (cap - l)) w := by
  simp [Instr.sliceAt, Instr.slice, run_underlying hT, hb, hs]

/-- what a cut reads as -/
theorem SlV.cut {S : Nat → Prop} {o : Option Addr} {n cap size l h : Nat} {cs : List Value} (hv : SlV S w (.slice o n cap) n size cs) (hl : l ≤ h) (hh : h ≤ n) (hcap : n ≤ cap) : SlV S w (.slice (if cap = l then o else o.map (·.add (l * size))) (h - l) (cap - l)) (h - l) size ((cs.take (h * size)).drop (l * size)) := by
  obtain ⟨o', cap', he, hlen, hc⟩ := hv
  cases he
  refine ⟨_, _, rfl, ?_, fun hp => ?_⟩
  · rw [List.length_drop, List.length_take, hlen, Nat.min_eq_left (Nat.mul_le_mul_right _ hh), Nat.sub_mul]
  · obtain ⟨b, off, ho, hb, hcs⟩ := hc (by omega)
    subst ho
    rw [if_neg (by omega)]
    exact ⟨b, off + l * size, by simp [add_zero_addr], hb, (hcs.take (h * size)).drop (l * size)⟩

theorem st_sliceLH {T E : TypeId} {x lo hi : Operand} {o : Option Addr} {n cap size : Nat} {k j : IntKind} {l h : Int} (hx : ev ρ x = .slice o n cap) (hlo : ev ρ lo = .int k l) (hhi : ev ρ hi = .int j h) (hT : P.underlying T = some (.slice E)) (hs : ∀ w, (sizeOf E).run P w = .ok size w) (h0 : 0 ≤ l) (h1 : l ≤ h) (h2 : h ≤ cap)
    (hk : K (.slice (if cap = l.toNat then o else o.map (·.add (l.toNat * size))) (h.toNat - l.toNat) (cap - l.toNat)) w) : Step P ⟨d, .slice T x (some lo) (some hi) none, ty, ps, af, gd⟩ ρ w K := by
  have hb : (Instr.sliceBounds true n cap (some (.int k l)) (some (.int j h)) none).run P w = .ok (l.toNat, h.toNat, cap) w := by
    have e1 : 0 ≤ h ∧ h ≤ (cap : Int) := ⟨by omega, h2⟩
    have e2 : 0 ≤ l ∧ l ≤ (h.toNat : Int) := ⟨h0, by omega⟩
    simp only [Instr.sliceBounds, Instr.sliceBound, asIntOf, Sem.run_bind, Sem.run_pure, Result.andThen_ok, Sem.run_ite, e1, e2, and_self, if_true]
  exact st_val (w' := w) (by simp only [execOp, hx, hlo, hhi, Option.map_some, Option.map_none, Sem.run_bind, run_slice hT hs hb]; rfl) hk
theorem st_sliceL {T E : TypeId} {x lo : Operand} {o : Option Addr} {n cap size : Nat} {k : IntKind} {l : Int} (hx : ev ρ x = .slice o n cap) (hlo : ev ρ lo = .int k l) (hT : P.underlying T = some (.slice E)) (hs : ∀ w, (sizeOf E).run P w = .ok size w) (h0 : 0 ≤ l) (h1 : l ≤ n)
    (hk : K (.slice (if cap = l.toNat then o else o.map (·.add (l.toNat * size))) (n - l.toNat) (cap - l.toNat)) w) : Step P ⟨d, .slice T x (some lo) none none, ty, ps, af, gd⟩ ρ w K := by
  have hb : (Instr.sliceBounds true n cap (some (.int k l)) none none).run P w = .ok (l.toNat, n, cap) w := by
    simp only [Instr.sliceBounds, Instr.sliceBound, asIntOf, Sem.run_bind, Sem.run_pure, Result.andThen_ok, Sem.run_ite, h0, h1, and_self, if_true]
  exact st_val (w' := w) (by simp only [execOp, hx, hlo, Option.map_some, Option.map_none, Sem.run_bind, run_slice hT hs hb]; rfl) hk
theorem st_sliceH {T E : TypeId} {x hi : Operand} {o : Option Addr} {n cap size : Nat} {k : IntKind} {h : Int} (hx : ev ρ x = .slice o n cap) (hhi : ev ρ hi = .int k h) (hT : P.underlying T = some (.slice E)) (hs : ∀ w, (sizeOf E).run P w = .ok size w) (h0 : 0 ≤ h) (h1 : h ≤ cap)
    (hk : K (.slice o h.toNat cap) w) : Step P ⟨d, .slice T x none (some hi) none, ty, ps, af, gd⟩ ρ w K := by
  have hb : (Instr.sliceBounds true n cap none (some (.int k h)) none).run P w = .ok (0, h.toNat, cap) w := by
    simp only [Instr.sliceBounds, Instr.sliceBound, asIntOf, Sem.run_bind, Sem.run_pure, Result.andThen_ok, Sem.run_ite, h0, h1, and_self, if_true]
  have e : (.slice (if cap = 0 then o else o.map (·.add (0 * size))) (h.toNat - 0) (cap - 0) : Value) = .slice o h.toNat cap := by
    have : o.map (·.add (0 * size)) = o := by cases o <;> simp [Addr.add]
    rw [this]; simp
  exact st_val (w' := w) (v := .slice o h.toNat cap) (by simp only [execOp, hx, hhi, Option.map_some, Option.map_none, Sem.run_bind, run_slice hT hs hb, e]; rfl) hk

theorem Own.slice {base e size n : Nat} {v : Value} {xs : List Value} (h : Own base w e size v n xs) : ∃ o cap, v = .slice o n cap ∧ n ≤ cap ∧ (o = none → cap = 0 ∧ n = 0) := by
  rcases h.2 with ⟨rfl, rfl⟩ | ⟨g, cap, cur, rfl, _, _, hn, _⟩
  · exact ⟨none, 0, rfl, Nat.le_refl _, fun _ => ⟨rfl, rfl⟩⟩
  · exact ⟨_, cap, rfl, hn, fun h => by cases h⟩

/-- its front -/
theorem Own.front {base e size n cap h : Nat} {o : Option Addr} {xs : List Value} (hv : Own base w e size (.slice o n cap) n xs) (hh : h ≤ n) : Own base w e size (.slice o h cap) h (xs.take (h * size)) := by
  obtain ⟨h1, h2⟩ := hv
  refine ⟨by rw [List.length_take, h1, Nat.min_eq_left (Nat.mul_le_mul_right _ hh)], ?_⟩
  rcases h2 with ⟨h, rfl⟩ | ⟨g, cp, cur, hv, hg, hb, hn, hm, hs, ht⟩
  · cases h
    have : h = 0 := by omega
    subst this
    exact .inl ⟨rfl, rfl⟩
  · cases hv
    exact .inr ⟨g, cap, cur, rfl, hg, hb, by omega, hm, hs, by rw [← ht, List.take_take, Nat.min_eq_left (Nat.mul_le_mul_right _ hh)]⟩

/-- what lies behind is cleared -/
theorem st_clear {x : Operand} {T E : TypeId} {z : Value} {base n cap m size : Nat} {o : Option Addr} {xs : List Value} (hown : Own base w E size (.slice o n cap) n xs) (hm : n + m ≤ cap)
    (hx : ev ρ x = .slice (if cap = n then o else o.map (·.add (n * size))) m (cap - n)) (hT : P.underlying T = some (.slice E)) (hz : ∀ w, (zeroValue E).run P w = .ok z w) (hzs : z.cells.size = size) (hz1 : ∀ c ∈ z.cells, c.oneCell' = true)
    (h : ∀ w', Own base w' E size (.slice o n cap) n xs → Frm (fun k => (Value.slice o n cap).ownBlock = some k) w w' → w'.heap.size = w.heap.size → K (.tuple #[]) w') : Step P ⟨d, .call { callee := .builtin .clear, args := #[x], argTypes := #[T] }, ty, ps, af, gd⟩ ρ w K := by
  rcases Nat.eq_zero_or_pos m with hm0 | hm0
  · subst hm0
    refine st_builtin (s := Builtin.clear_ #[T] ty #[.slice (if cap = n then o else o.map (·.add (n * size))) 0 (cap - n)]) (w' := w) (fun cs => by simp [builtin, hx]) ?_ (h w hown (Frm.refl _ _) rfl)
    cases (if cap = n then o else o.map (·.add (n * size))) <;> simp [Builtin.clear_, run_underlying hT]
  · obtain ⟨h1, h2⟩ := hown
    rcases h2 with ⟨he, _⟩ | ⟨g, cp, cur, he, hg, hb, hn, hmx, hs, ht⟩
    · cases he; omega
    · cases he
      rw [if_neg (by omega)] at hx
      simp only [Option.map_some, add_zero_addr, Nat.zero_add] at hx
      have hzl : (Builtin.zeroCells z.cells m).toList.length = m * size := by simp [Builtin.zeroCells, hzs]
      have hz1' : ∀ c ∈ (Builtin.zeroCells z.cells m).toList, c.oneCell' = true := by
        intro c hc
        simp only [Builtin.zeroCells, Array.toList_map, List.mem_map] at hc
        obtain ⟨i, hi, rfl⟩ := hc
        have hpos : 0 < z.cells.size := by
          rcases Nat.eq_zero_or_pos z.cells.size with h | h
          · rw [h] at hi; simp at hi
          · exact h
        have : z.cells[i % z.cells.size]! = z.cells[i % z.cells.size]'(Nat.mod_lt _ hpos) := by simp [Nat.mod_lt _ hpos]
        rw [this]
        exact hz1 _ (Array.getElem_mem _)
      have hfit : n * size + 0 + (Builtin.zeroCells z.cells m).toList.length ≤ cur.size := by rw [hzl, hs, Nat.add_zero, ← Nat.add_mul]; exact Nat.mul_le_mul_right _ hm
      have hst := run_storeCells_at P g (n * size) E (Builtin.zeroCells z.cells m).toList 0 cur w hb hfit hz1'
      refine st_builtin (s := Builtin.clear_ #[T] ty #[.slice (some ⟨g, n * size, none⟩) m (cap - n)]) (fun cs => by simp [builtin, hx]) (v := .tuple #[]) (w' := w.setRow g (cur.toList.take (n * size + 0) ++ (Builtin.zeroCells z.cells m).toList ++ cur.toList.drop (n * size + 0 + (Builtin.zeroCells z.cells m).toList.length)).toArray) ?_ (h _ ⟨h1, .inr ⟨g, cap, _, rfl, hg, setRow_heap w g cur _ E _ hb, hn, hmx, ?_, ?_⟩⟩ ⟨rfl, rfl, rfl, by simp [World.setRow], fun k hk hx => setRow_other w g k _ (fun e => hx (by simp [Value.ownBlock, e]))⟩ (by simp [World.setRow]))
      · cases m with
        | zero => omega
        | succ m => simp [Builtin.clear_, run_underlying hT, hz, hst]
      · simp only [List.size_toArray, List.length_append, List.length_take, List.length_drop, Array.length_toList, hzl]
        have : n * size + m * size ≤ cap * size := by rw [← Nat.add_mul]; exact Nat.mul_le_mul_right _ hm
        omega
      · have hle : n * size ≤ cur.toList.length := by rw [Array.length_toList, hs]; exact Nat.mul_le_mul_right _ hn
        simp only [List.append_assoc, Nat.add_zero]
        rw [List.take_append_of_le_length (by rw [List.length_take]; omega), List.take_take, Nat.min_self, ht]

/-! ### bytes -/
def byteV (b : UInt8) : Value := .int .u8 (b.toNat : Int)

/-- a slice of bytes, in a block of S -/
def RB (S : Nat → Prop) (w : World) (v : Value) (l : List UInt8) : Prop := SlV S w v l.length 1 (l.map byteV)

theorem RB.up {S : Nat → Prop} {v : Value} {l : List UInt8} (h : RB S w v l) (e : Up w w') : RB S w' v l := SlV.up h e
theorem RB.keeps {S : Nat → Prop} {v : Value} {l : List UInt8} (h : RB S w v l) (e : Keeps w w') : RB S w' v l := SlV.keeps h e
theorem RB.frm {S : Nat → Prop} {v : Value} {l : List UInt8} (h : RB S w v l) {X : Nat → Prop} (e : Frm X w w') (hx : ∀ b, S b → ¬ X b) : RB S w' v l := SlV.frm h e hx
theorem RB.mono {S S' : Nat → Prop} {v : Value} {l : List UInt8} (h : RB S w v l) (hs : ∀ b, b < w.heap.size → S b → S' b) : RB S' w v l := SlV.mono h hs (by omega)

theorem byteV_one (l : List UInt8) : ∀ c ∈ l.map byteV, c.oneCell' = true := by
  intro c hc
  obtain ⟨b, _, rfl⟩ := List.mem_map.1 hc
  rfl

theorem st_string {S : Nat → Prop} {A D E : TypeId} {x : Operand} {v : Value} {l : List UInt8} (hx : ev ρ x = v) (hv : RB S w v l) (hA : P.underlying A = some (.slice E)) (hE : P.underlying E = some (.int .u8)) (hD : P.underlying D = some .string)
    (h : K (.string ⟨l.toArray⟩) w) : Step P ⟨d, .convert A D x, ty, ps, af, gd⟩ ρ w K := by
  refine st_val (v := .string ⟨l.toArray⟩) (w' := w) ?_ h
  obtain ⟨o, cap, rfl, hl, hc⟩ := hv
  cases o with
  | none =>
    have hl0 : l = [] := by
      cases l with
      | nil => rfl
      | cons b l => obtain ⟨_, _, ho, _⟩ := hc (by simp); cases ho
    subst hl0
    simp [execOp, hx, run_convert_bytes_nil (P := P) w A E hA hE _ _ D hD]
    rfl
  | some a =>
    have hcell : ∀ j (hj : j < l.length), w.cell? (a.add j) = some (.int .u8 (l[j].toNat : Int)) := by
      intro j hj
      obtain ⟨b, off, ho, _, hcs⟩ := hc (by omega)
      cases ho
      rw [add_zero_addr]
      exact hcs j _ (by simp [hj, byteV])
    simp [execOp, hx, run_convert_bytes_back (P := P) w A D E a cap l hA hE hD hcell]
end
end Go.Tw
