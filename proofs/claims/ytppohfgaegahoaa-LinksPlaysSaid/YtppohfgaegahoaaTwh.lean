/- Stores into blocks of cells; a variable that is laid and filled at once. They speak of no program. -/
import Derived.Test.YtppohfgaegahoaaTwg
import Derived.Great.BuildSlice
namespace Go.Tw
open Go.RowKit

section
variable {P : Program} {N : Nat} {ρ : Env} {w w' : World} {K : Value → World → Prop} {d : Option Nat} {ty : TypeId} {ps : String} {af : Array Edge} {gd : Option (Nat × Bool)}

theorem run_storeVar_cells {T t : TypeId} {b off k : Nat} {cur : Array Value} {v : Value} (hs : ∀ w, (sizeOf T).run P w = .ok k w) (hk : v.cells.size = k) (hb : Blk w b (.cells cur t (0, 0))) (hfit : off + k ≤ cur.size) (h1 : ∀ c ∈ v.cells.toList, c.oneCell' = true) :
    (storeVar T ⟨b, off, none⟩ v).run P w = .ok () (w.setRow b (cur.toList.take off ++ v.cells.toList ++ cur.toList.drop (off + k)).toArray) := by
  have h := run_storeCells_at P b off t v.cells.toList 0 cur w hb (by simpa [hk] using hfit) h1
  have hl : v.cells.toList.length = k := by simpa using hk
  simp only [Nat.add_zero, hl] at h
  simp [storeVar, hs, hk, h]

theorem st_store {T t : TypeId} {x y : Operand} {b off k : Nat} {cur cs : Array Value} {v : Value} (hx : ev ρ x = .pointer (some ⟨b, off, none⟩)) (hy : ev ρ y = v) (hs : ∀ w, (sizeOf T).run P w = .ok k w) (hk : v.cells.size = k) (hb : Blk w b (.cells cur t (0, 0))) (hfit : off + k ≤ cur.size)
    (h1 : ∀ c ∈ v.cells.toList, c.oneCell' = true) (hcs : (cur.toList.take off ++ v.cells.toList ++ cur.toList.drop (off + k)).toArray = cs) (h : ∀ w', Blk w' b (.cells cs t (0, 0)) → Frm (fun i => i = b) w w' → w'.heap.size = w.heap.size → K undef w') :
    Step P ⟨d, .store T x y, ty, ps, af, gd⟩ ρ w K := by
  refine st_runU (s := Instr.storeAt T (.pointer (some ⟨b, off, none⟩)) v) (w' := w.setRow b cs) (by simp only [execOp, hx, hy]) ?_ (h _ (setRow_heap w b cur cs t _ hb) ⟨rfl, rfl, rfl, by simp [World.setRow], fun k _ hx => setRow_other w b k _ hx⟩ (by simp [World.setRow]))
  subst hcs
  simp only [Instr.storeAt, Instr.sureAddr, Sem.run_bind, Sem.run_pure, Result.andThen_ok, run_storeVar_cells hs hk hb hfit h1]

theorem setRow_alloc {o : Array Value} {T : TypeId} {cs : Array Value} : (w.alloc (.cells o T)).setRow w.heap.size cs = w.alloc (.cells cs T) := by
  have e : (w.alloc (.cells o T)).heap = w.heap.push (.cells o T) := rfl
  have e2 : (w.alloc (.cells cs T)) = { w.alloc (.cells o T) with heap := w.heap.push (.cells cs T) } := rfl
  rw [e2]
  unfold World.setRow
  rw [e]
  congr 1
  refine Array.ext_getElem? fun i => ?_
  rw [Array.getElem?_modify, Array.getElem?_push, Array.getElem?_push]
  by_cases h : w.heap.size = i
  · simp [h]
  · simp [h, Ne.symm h]

/-- 'var x T = v' -/
theorem WL.allocStore {ops : Array Oper} {K : Env → World → Prop} {rest : List Oper} {T : TypeId} {dn : Nat} {x : Operand} {z v : Value} {k : Nat} {ty' : TypeId} {ps' : String} {af' : Array Edge} (hd : dstOk N (some dn) = true) (hx : ∀ u, ev (upd ρ (some dn) u) x = v)
    (hz : ∀ w, (zeroValue T).run P w = .ok z w) (hs : ∀ w, (sizeOf T).run P w = .ok k w) (hzk : z.cells.size = k) (hk : v.cells.size = k) (h1 : ∀ c ∈ v.cells.toList, c.oneCell' = true)
    (h : ∀ b w', Made w w' b (.cells v.cells T) → WL P N ops rest K (upd (upd ρ (some dn) (.pointer (some ⟨b, 0, none⟩))) none undef) w') :
    WL P N ops (⟨some dn, .alloc T, ty, ps, af, none⟩ :: ⟨none, .store T (.tmp dn) x, ty', ps', af', none⟩ :: rest) K ρ w := by
  refine WL.cons hd ?_
  refine st_val (v := .pointer (some ⟨w.heap.size, 0, none⟩)) (w' := w.alloc (.cells z.cells T)) (by simp [execOp, Instr.alloc, hz, run_newVar]) ?_
  refine WL.cons rfl ?_
  have m := made_alloc w (.cells z.cells T)
  have hrun := run_storeVar_cells (P := P) (T := T) (off := 0) hs hk m.blk (by omega) h1
  refine st_runU (s := Instr.storeAt T (.pointer (some ⟨w.heap.size, 0, none⟩)) v) (w' := w.alloc (.cells v.cells T)) ?_ ?_ (h _ _ (made_alloc w _))
  · simp only [execOp, hx, us]
  · simp only [Instr.storeAt, Instr.sureAddr, Sem.run_bind, Sem.run_pure, Result.andThen_ok, hrun]
    congr 1
    have e : (List.take 0 z.cells.toList ++ v.cells.toList ++ List.drop (0 + k) z.cells.toList).toArray = v.cells := by
      rw [List.drop_eq_nil_of_le (by simp [hzk])]; simp
    rw [e]
    exact setRow_alloc

theorem st_look {T : TypeId} {x y : Operand} {m k v : Value} {c : Bool} (hx : ev ρ x = m) (hy : ev ρ y = k) (hr : (Instr.lookup T m k c).run P w = .ok v w) (h : K v w) : Step P ⟨d, .lookup T x y c, ty, ps, af, gd⟩ ρ w K :=
  st_val (v := v) (w' := w) (by simp only [execOp, hx, hy, Sem.run_bind, hr]; rfl) h

/-- what is appended fits -/
theorem st_appendRoom {s x : Operand} {t e : TypeId} {z : Value} {size bytes base n m cap : Nat} {o : Option Addr} {u : Value} {xs news : List Value} {S : Nat → Prop} (hs : ev ρ s = .slice o n cap) (hx : ev ρ x = u) (hT : P.underlying t = some (.slice e)) (hi : EInfo P e z size bytes)
    (hown : Own base w e size (.slice o n cap) n xs) (hu : SlV S w u m size news) (h1 : ∀ c ∈ news, c.oneCell' = true) (hroom : n + m ≤ cap)
    (h : ∀ w', Own base w' e size (.slice o (n + m) cap) (n + m) (xs ++ news) → Frm (fun k => (Value.slice o n cap).ownBlock = some k) w w' → w'.heap.size = w.heap.size → K (.slice o (n + m) cap) w') : Step P ⟨d, .call { callee := .builtin .append, args := #[s, x], argTypes := #[t, t] }, ty, ps, af, gd⟩ ρ w K := by
  obtain ⟨i, hi1, hi2, hi3, hi4⟩ := info_parts hi
  obtain ⟨o', cap', rfl, hl, hc⟩ := hu
  by_cases hm : m = 0
  · subst hm
    have hn : news = [] := List.eq_nil_of_length_eq_zero (by simpa using hl)
    subst hn
    refine st_builtin (s := Builtin.append_ #[t, t] ty #[.slice o n cap, .slice o' 0 cap']) (w' := w) (v := .slice o n cap) (fun cs => by simp [builtin, hs, hx]) ?_ (h w (by simpa using hown) (Frm.refl _ _) rfl)
    have hle : n ≤ cap := by omega
    cases o' with
    | none => simp [Builtin.append_, run_underlying hT, sizeOf, typeInfo, hi1, Builtin.lenOf, Builtin.firstCells, hle]; cases o <;> simp [storeCells]
    | some a =>
      have hf := run_firstCells_some (P := P) w i.size 0 a 0 cap' [] (by simp) (by simp)
      simp [Builtin.append_, run_underlying hT, sizeOf, typeInfo, hi1, Builtin.lenOf, hf, hle]; cases o <;> simp [storeCells]
  · obtain ⟨b, off, rfl, _, hcs⟩ := hc (by omega)
    obtain ⟨h0, h2⟩ := hown
    rcases h2 with ⟨he, _⟩ | ⟨g, cp, cur, he, hg, hb, hn, hmx, hsz, ht⟩
    · cases he; omega
    · cases he
      have hnews : ∀ j u, news[j]? = some u → w.cell? ((⟨b, off, none⟩ : Addr).add j) = some u := fun j u hj => by rw [add_zero_addr]; exact hcs j u hj
      have hfit : n * i.size + news.length ≤ cur.size := by rw [hl, hsz, hi3, ← Nat.add_mul]; exact Nat.mul_le_mul_right _ hroom
      have hrun := run_append_room (P := P) (w := w) t ty e i hT hi1 g n cap cur hb ⟨b, off, none⟩ m cap' news (by rw [hi3]; exact hl) hnews h1 hroom hfit
      refine st_builtin (s := Builtin.append_ #[t, t] ty #[.slice (some ⟨g, 0, none⟩) n cap, .slice (some ⟨b, off, none⟩) m cap']) (fun cs => by simp [builtin, hs, hx]) hrun (h _ ⟨by rw [List.length_append, h0, hl, Nat.add_mul], .inr ⟨g, cap, _, rfl, hg, setRow_heap w g cur _ e _ hb, hroom, hmx, ?_, ?_⟩⟩ ⟨rfl, rfl, rfl, by simp [World.setRow], fun k hk hx => setRow_other w g k _ (fun e => hx (by simp [Value.ownBlock, e]))⟩ (by simp [World.setRow]))
      · simp only [List.size_toArray, List.length_append, List.length_take, List.length_drop, Array.length_toList]
        omega
      · have e1 : List.take (n * i.size) cur.toList = xs := by rw [hi3]; exact ht
        simp only [e1]
        rw [List.take_append_of_le_length (by simp [h0, hl, Nat.add_mul]), List.take_of_length_le (by simp [h0, hl, Nat.add_mul])]

theorem st_slice3 {T E : TypeId} {x lo hi mx : Operand} {o : Option Addr} {n cap size : Nat} {k j q : IntKind} {l h m : Int} (hx : ev ρ x = .slice o n cap) (hlo : ev ρ lo = .int k l) (hhi : ev ρ hi = .int j h) (hmx : ev ρ mx = .int q m) (hT : P.underlying T = some (.slice E)) (hs : ∀ w, (sizeOf E).run P w = .ok size w) (h0 : 0 ≤ l) (h1 : l ≤ h) (h2 : h ≤ m) (h3 : m ≤ cap)
    (hk : ∀ v, K v w) : Step P ⟨d, .slice T x (some lo) (some hi) (some mx), ty, ps, af, gd⟩ ρ w K := by
  have hb : (Instr.sliceBounds true n cap (some (.int k l)) (some (.int j h)) (some (.int q m))).run P w = .ok (l.toNat, h.toNat, m.toNat) w := by
    have e0 : 0 ≤ m ∧ m ≤ (cap : Int) := ⟨by omega, h3⟩
    have e1 : 0 ≤ h ∧ h ≤ (m.toNat : Int) := ⟨by omega, by omega⟩
    have e2 : 0 ≤ l ∧ l ≤ (h.toNat : Int) := ⟨h0, by omega⟩
    simp only [Instr.sliceBounds, Instr.sliceBound, asIntOf, Sem.run_bind, Sem.run_pure, Result.andThen_ok, Sem.run_ite, e0, e1, e2, and_self, if_true]
  refine st_val (w' := w) (v := .slice (if m.toNat = l.toNat then o else o.map (·.add (l.toNat * size))) (h.toNat - l.toNat) (m.toNat - l.toNat)) ?_ (hk _)
  simp [execOp, hx, hlo, hhi, hmx, Instr.sliceAt, Instr.slice, run_underlying hT, hb, hs]

/-- '[]T{x}', x of one cell -/
theorem st_build1 {T E : TypeId} {z : Value} {bytes : Nat} {y : Operand} {x : Value} (hy : ev ρ y = x) (hT : P.underlying T = some (.slice E)) (hi : EInfo P E z 1 bytes) (_hz : z.cells.size = 1) (hx : x.oneCell' = true)
    (h : ∀ b w', Made w w' b (.cells #[x] E) → K (.slice (some ⟨b, 0, none⟩) 1 1) w') : Step P ⟨d, .buildSlice T 1 #[(0, y)], ty, ps, af, gd⟩ ρ w K := by
  obtain ⟨i, hi1, hi2, hi3, hi4⟩ := info_parts hi
  have hc : x.cells = #[x] := by cases x <;> first | rfl | cases hx
  have hf : Instr.fill (fun j => some (j * i.size, i.size)) ((Array.range (1 * i.size)).map (z.cells[· % z.cells.size]!)) [(0, x)] = some #[x] := by
    rw [hi3]
    have hr : (Array.range (1 * 1)).map (z.cells[· % z.cells.size]!) = #[z.cells[0 % z.cells.size]!] := Array.ext (by simp) (fun i h1 h2 => by
      have : i = 0 := by simp at h2; omega
      subst this; simp)
    rw [hr]
    simp [Instr.fill, hc]
  refine st_val (v := .slice (some ⟨w.heap.size, 0, none⟩) 1 1) (w' := w.alloc (.cells #[x] E)) ?_ (h _ _ (made_alloc w _))
  have := Go.run_buildSlice (P := P) w T E 1 #[(0, x)] #[x] i z hT hi1 hi2 (by rw [hi3]; decide) (by rw [hi3]; decide) hf
  simp [execOp, hy, this]

/-- rows of two kinds lie apart -/
theorem Own.ne {b1 b2 e1 e2 s1 s2 n1 n2 : Nat} {v1 v2 : Value} {xs1 xs2 : List Value} (h1 : Own b1 w e1 s1 v1 n1 xs1) (h2 : Own b2 w e2 s2 v2 n2 xs2) (he : e1 ≠ e2) : ∀ k, v1.ownBlock = some k → ¬ v2.ownBlock = some k := by
  intro k hk1 hk2
  rcases h1.2 with ⟨rfl, _⟩ | ⟨g, cap, cur, rfl, _, hh, _⟩
  · simp [Value.ownBlock] at hk1
  · rcases h2.2 with ⟨rfl, _⟩ | ⟨g', cap', cur', rfl, _, hh', _⟩
    · simp [Value.ownBlock] at hk2
    · simp [Value.ownBlock] at hk1 hk2
      subst hk1; subst hk2
      rw [hh] at hh'
      cases hh'
      exact he rfl

theorem Own.one {base e size n : Nat} {v : Value} {xs : List Value} (h : Own base w e size v n xs) : v.oneCell' = true := by
  obtain ⟨o, cap, rfl, _⟩ := h.slice; rfl

/-- a literal's bytes, converted to its own type: the row gets a mark behind its last cell -/
theorem st_convId {T E : TypeId} {x : Operand} {b n c : Nat} {C : Array Value} (hx : ev ρ x = .slice (some ⟨b, 0, none⟩) n c) (hT : P.underlying T = some (.slice E)) (hE : P.underlying E = some (.int .u8)) (hb : Blk w b (.cells C E (0, 0)))
    (h : ∀ w', Blk w' b (.cells C E (C.size, C.size + 1)) → Frm (fun k => k = b) w w' → w'.heap.size = w.heap.size → K (.slice (some ⟨b, 0, none⟩) n c) w') : Step P ⟨d, .convert T T x, ty, ps, af, gd⟩ ρ w K := by
  have hsh : w.shape? b = some (E, C.size) := by
    unfold World.shape?
    rw [show w.heap[b]? = _ from hb]
  have hrun : (convert T T (.slice (some ⟨b, 0, none⟩) n c)).run P w = .ok (.slice (some ⟨b, 0, none⟩) n c) (w.freeze ⟨b, C.size, none⟩ 1) := by
    simp [convert, run_underlying hT, run_underlying hE, markStringish, hsh]
  refine st_val (v := .slice (some ⟨b, 0, none⟩) n c) (w' := w.freeze ⟨b, C.size, none⟩ 1) (by simp [execOp, hx, hrun]) (h _ ?_ ⟨by simp [World.freeze], by simp [World.freeze], by simp [World.freeze], by simp [World.freeze], fun k hk hx => ?_⟩ (by simp [World.freeze]))
  · unfold Blk World.freeze
    rw [if_neg (by decide)]
    show (w.heap.modify b _)[b]? = _
    rw [Array.getElem?_modify, if_pos rfl, show w.heap[b]? = _ from hb]
    rfl
  · have : k ≠ b := hx
    simp [World.freeze, Array.getElem?_modify, Ne.symm this]

theorem st_buildP0 {T : TypeId} {v : Value} (hrun : ∀ w, (Instr.build T #[]).run P w = .ok v w) (h : K v w) : Step P ⟨d, .build T #[], ty, ps, af, gd⟩ ρ w K :=
  st_build (fun w => by simpa using hrun w) h
theorem st_buildP1 {T : TypeId} {i0 : Nat} {x0 : Operand} {v0 : Value} {v : Value} (h0 : ev ρ x0 = v0) (hrun : ∀ w, (Instr.build T #[(i0, v0)]).run P w = .ok v w) (h : K v w) : Step P ⟨d, .build T #[(i0, x0)], ty, ps, af, gd⟩ ρ w K :=
  st_build (fun w => by simpa [h0] using hrun w) h
theorem st_buildP2 {T : TypeId} {i0 : Nat} {x0 : Operand} {v0 : Value} {i1 : Nat} {x1 : Operand} {v1 : Value} {v : Value} (h0 : ev ρ x0 = v0) (h1 : ev ρ x1 = v1) (hrun : ∀ w, (Instr.build T #[(i0, v0), (i1, v1)]).run P w = .ok v w) (h : K v w) : Step P ⟨d, .build T #[(i0, x0), (i1, x1)], ty, ps, af, gd⟩ ρ w K :=
  st_build (fun w => by simpa [h0, h1] using hrun w) h
theorem st_buildP3 {T : TypeId} {i0 : Nat} {x0 : Operand} {v0 : Value} {i1 : Nat} {x1 : Operand} {v1 : Value} {i2 : Nat} {x2 : Operand} {v2 : Value} {v : Value} (h0 : ev ρ x0 = v0) (h1 : ev ρ x1 = v1) (h2 : ev ρ x2 = v2) (hrun : ∀ w, (Instr.build T #[(i0, v0), (i1, v1), (i2, v2)]).run P w = .ok v w) (h : K v w) : Step P ⟨d, .build T #[(i0, x0), (i1, x1), (i2, x2)], ty, ps, af, gd⟩ ρ w K :=
  st_build (fun w => by simpa [h0, h1, h2] using hrun w) h
theorem st_buildP4 {T : TypeId} {i0 : Nat} {x0 : Operand} {v0 : Value} {i1 : Nat} {x1 : Operand} {v1 : Value} {i2 : Nat} {x2 : Operand} {v2 : Value} {i3 : Nat} {x3 : Operand} {v3 : Value} {v : Value} (h0 : ev ρ x0 = v0) (h1 : ev ρ x1 = v1) (h2 : ev ρ x2 = v2) (h3 : ev ρ x3 = v3) (hrun : ∀ w, (Instr.build T #[(i0, v0), (i1, v1), (i2, v2), (i3, v3)]).run P w = .ok v w) (h : K v w) : Step P ⟨d, .build T #[(i0, x0), (i1, x1), (i2, x2), (i3, x3)], ty, ps, af, gd⟩ ρ w K :=
  st_build (fun w => by simpa [h0, h1, h2, h3] using hrun w) h

theorem Up.local {w0 : World} {b : Nat} (h : Up w0 w) (e : Frm (fun i => i = b) w w') (hb : w0.heap.size ≤ b) : Up w0 w' :=
  (Frm.trans' (X := NoB) h.frm e fun i hi hib => by subst hib; exact absurd hi (by omega)).up
end

/-! ### going through a map, both ways at once -/
section
variable {κ α : Type} {P : Program} {Ky : TypeId} {ek : κ → Value} {R : Value → α → Prop} {w : World} {b r : Nat} {l : List (κ × α)}
variable {ρ : Env} {w' : World} {K : Value → World → Prop} {d : Option Nat} {ty : TypeId} {ps : String} {af : Array Edge} {gd : Option (Nat × Bool)}

theorem st_nextU {x : Operand} {rem : List κ} (hx : ev ρ x = .pointer (some ⟨r, 0, none⟩)) (hi : Iter w r b ek R l rem) (hinj : ∀ a a', ek a = ek a' → a = a')
    (h : ∀ vs t w', vs[0]? = some (.bool t) → Frm (fun k => k = r) w w' → (t = false → rem = [] ∧ Iter w' r b ek R l rem) →
      (t = true → ∃ a u v rem₁ rem₂, vs = #[.bool true, ek a, v] ∧ rem = rem₁ ++ a :: rem₂ ∧ (a, u) ∈ l ∧ R v u ∧ IterAt w' r b ek R l (rem₁ ++ rem₂) a u) → K (.tuple vs) w') : Step P ⟨d, .next x false, ty, ps, af, gd⟩ ρ w K := by
  refine st_next hx hi hinj (fun h0 w' hu hs hit => ?_) (fun a u v w' rem₁ rem₂ hr hm hv hia hf hk hs => ?_)
  · exact h _ false w' rfl hu.frm (fun _ => ⟨h0, hit⟩) (fun e => by cases e)
  · exact h _ true w' rfl hf (fun e => by cases e) (fun _ => ⟨a, u, v, rem₁, rem₂, rfl, hr, hm, hv, hia⟩)

variable [DecidableEq κ]
theorem st_deleteAt {T E U : TypeId} {x y : Operand} {rem : List κ} {a : κ} {u : α} (hx : ev ρ x = .map (some b)) (hy : ev ρ y = ek a) (K' : KeyOk P Ky ek) (hT : P.underlying T = some (.map Ky E)) (hi : IterAt w r b ek R l rem a u)
    (h : ∀ w', Iter w' r b ek R (adel l a) rem → Frm (fun k => k = b) w w' → w'.heap.size = w.heap.size → K (.tuple #[]) w') : Step P ⟨d, .call { callee := .builtin .delete, args := #[x, y], argTypes := #[T, U] }, ty, ps, af, gd⟩ ρ w K := by
  obtain ⟨w', hr, h1, h2, _, h4⟩ := hi.delete (ty := ty) (U := U) K' hT
  exact st_builtin (s := Builtin.delete_ #[T, U] ty #[.map (some b), ek a]) (w' := w') (fun cs => by simp [builtin, hx, hy]) hr (h w' h1 h2 h4)

theorem adel_filter {l : List (κ × α)} {a : κ} (hn : (akeys l).Nodup) : adel l a = l.filter fun x => !decide (x.1 = a) := by
  induction l with
  | nil => rfl
  | cons p l ih =>
    simp only [akeys, List.map_cons, List.nodup_cons] at hn
    simp only [adel]
    by_cases h : p.1 = a
    · rw [if_pos h, List.filter_cons, if_neg (by simp [h])]
      refine (List.filter_eq_self.2 fun x hx => ?_).symm
      have : x.1 ≠ a := fun e => hn.1 (by rw [h, ← e]; exact List.mem_map.2 ⟨x, hx, rfl⟩)
      simpa using this
    · rw [if_neg h, List.filter_cons, if_pos (by simpa using h), ih hn.2]
end

/-! ### a draw in which the last operation (an 'append') turns what was made before it -/
def FQ (Fe : List (Value → Prop)) (Fs : List (Value → World → Prop)) (i : Nat) (v : Value) (w : World) : Prop :=
  match Fe[i]? with
  | some Q => Q v
  | none => (Fs.getD (i - Fe.length) fun _ _ => True) v w

def Stays (w : World) (Q : Value → World → Prop) : Prop := ∀ v w1 w2, Up w w1 → Q v w1 → Up w1 w2 → Q v w2

theorem stays_eq {w : World} {u : Value} : Stays w (fun v _ => v = u) := fun _ _ _ _ h _ => h

theorem W.drawQ {P : Program} {N : Nat} {l : List Oper} {ρ : Env} {w : World} {id : Nat} {n : Env → World → Prop} {x : Nat → Env → World → Prop} {r : Env → World → Prop} (hm : P.follows .mixedOrders = true) (n0 p : Nat) (Fe : List (Value → Prop)) (Fs : List (Value → World → Prop))
    (hok : (drawOk N n0 l && pivotOk n0 p (fun i => Nat.blt i Fe.length || Nat.beq i p) l) = true) (hn0 : Nat.ble n0 l.length = true) (_hp : Fe.length ≤ p) (hstay : ∀ Q ∈ Fs, Stays w Q)
    (hstep : ∀ i o, (l.take n0)[i]? = some o → i ≠ p → ∀ ρ' w', Up w w' → (∀ t, t ∉ dsts (l.take n0) → ρ' t = ρ t) → (∀ j oj, l[j]? = some oj → pre l i j = true → FQ Fe Fs j (slotOf ρ' oj) w') →
      GStep P l o ρ' w' (fun v w'' => FQ Fe Fs i v w'' ∧ Up w' w''))
    (hpiv : ∀ o, l[p]? = some o → ∀ ρ' w', Up w w' → (∀ t, t ∉ dsts (l.take n0) → ρ' t = ρ t) → (∀ j oj, l[j]? = some oj → pre l p j = true → FQ Fe Fs j (slotOf ρ' oj) w') →
      GStep P l o ρ' w' (fun v w'' => FQ Fe Fs p v w'' ∧ Up w w''))
    (hend : ∀ ρ' w', Up w w' → (∀ t, t ∉ dsts (l.take n0) → ρ' t = ρ t) → (∀ i o, (l.take n0)[i]? = some o → (Nat.blt i Fe.length || Nat.beq i p) = true → FQ Fe Fs i (slotOf ρ' o) w') → WL P N l.toArray (l.drop n0) n ρ' w') :
    W P N (.region id l.toArray true) n x r ρ w := by
  refine W.drawP hm n0 p (fun i => Nat.blt i Fe.length || Nat.beq i p) (FQ Fe Fs) hok (by simpa using hn0) ?_ hstep ?_ hend
  · intro i v w1 w2 hu hf h12
    unfold FQ at hf ⊢
    cases he : Fe[i]? with
    | some Q => rw [he] at hf; exact hf
    | none =>
      rw [he] at hf
      rw [List.getD_eq_getElem?_getD] at hf ⊢
      cases hs : Fs[i - Fe.length]? with
      | none => simp
      | some Q => rw [hs] at hf; exact hstay Q (List.mem_of_getElem? hs) v w1 w2 hu hf h12
  · intro o ho ρ' w' hu hout hF
    have h := hpiv o ho ρ' w' hu hout hF
    have key : ∀ v w'', (FQ Fe Fs p v w'' ∧ Up w w'') → FQ Fe Fs p v w'' ∧ Up w w'' ∧ ∀ i u, (Nat.blt i Fe.length || Nat.beq i p) = true → i ≠ p → FQ Fe Fs i u w' → FQ Fe Fs i u w'' := by
      intro v w'' ⟨h1, h2⟩
      refine ⟨h1, h2, fun i u he hne hf => ?_⟩
      have hlt : i < Fe.length := by
        rw [Bool.or_eq_true] at he
        rcases he with h | h
        · simpa using h
        · exact absurd (Nat.eq_of_beq_eq_true h) hne
      unfold FQ at hf ⊢
      rw [List.getElem?_eq_getElem hlt] at hf ⊢
      exact hf
    unfold GStep at h ⊢
    split <;> rename_i hg
    · rw [hg] at h; exact h.mono key
    · rw [hg] at h
      obtain ⟨t, b, h1, h2, h3⟩ := h
      refine ⟨t, b, h1, h2, ?_⟩
      split <;> rename_i hb
      · rw [if_pos hb] at h3; exact h3.mono key
      · rw [if_neg hb] at h3; exact key _ _ h3
end Go.Tw
