/- Rules for operations on maps and slices. They speak of no program. -/
import Derived.Test.YtppohfgaegahoaaTwe
namespace Go.Tw
open Go.RowKit Go.MapKept

section
variable {κ α : Type} {P : Program} {Ky : TypeId} {ek : κ → Value} {R : Value → α → Prop} {w : World} {b : Nat} {l : List (κ × α)}
variable {ρ : Env} {w' : World} {K : Value → World → Prop} {d : Option Nat} {ty : TypeId} {ps : String} {af : Array Edge} {gd : Option (Nat × Bool)}

theorem st_makeMap {T : TypeId} (h : ∀ b w', Made w w' b (.map #[] 0) → K (.map (some b)) w') : Step P ⟨d, .makeMap T none, ty, ps, af, gd⟩ ρ w K := by
  refine st_val (v := .map (some w.heap.size)) (w' := w.alloc (.map #[] 0)) ?_ (h _ _ (made_alloc w _))
  simp [execOp, Instr.makeMap]

theorem st_lenM {x : Operand} {T E : TypeId} (hx : ev ρ x = .map (some b)) (hT : P.underlying T = some (.map Ky E)) (hm : MapR w b ek R l) (h : K (.int .i64 l.length) w) : Step P ⟨d, .call { callee := .builtin .len, args := #[x], argTypes := #[T] }, ty, ps, af, gd⟩ ρ w K :=
  st_builtin (s := Builtin.len_ #[T] ty #[.map (some b)]) (w' := w) (fun cs => by simp [builtin, hx]) (mapR_len hT hm) h

variable [DecidableEq κ]

theorem st_lookup {T E : TypeId} {x y : Operand} {a : κ} {z : Value} (hx : ev ρ x = .map (some b)) (hy : ev ρ y = ek a) (K' : KeyOk P Ky ek) (hT : P.underlying T = some (.map Ky E)) (hz : ∀ w, (zeroValue E).run P w = .ok z w) (hm : MapR w b ek R l)
    (h0 : aget l a = none → K z w) (h1 : ∀ v x, aget l a = some x → R v x → K v w) : Step P ⟨d, .lookup T x y false, ty, ps, af, gd⟩ ρ w K := by
  rcases mapR_lookup K' hT hz hm a false with ⟨h, hr⟩ | ⟨v, x, h, hr, hrun⟩
  · exact st_val (v := z) (w' := w) (by simp only [execOp, hx, hy, Sem.run_bind]; rw [hr]; rfl) (h0 h)
  · exact st_val (v := v) (w' := w) (by simp only [execOp, hx, hy, Sem.run_bind]; rw [hrun]; rfl) (h1 v x h hr)

theorem st_lookupOk {T E : TypeId} {x y : Operand} {a : κ} {z : Value} (hx : ev ρ x = .map (some b)) (hy : ev ρ y = ek a) (K' : KeyOk P Ky ek) (hT : P.underlying T = some (.map Ky E)) (hz : ∀ w, (zeroValue E).run P w = .ok z w) (hm : MapR w b ek R l)
    (h0 : aget l a = none → K (.tuple #[z, .bool false]) w) (h1 : ∀ v x, aget l a = some x → R v x → K (.tuple #[v, .bool true]) w) : Step P ⟨d, .lookup T x y true, ty, ps, af, gd⟩ ρ w K := by
  rcases mapR_lookup K' hT hz hm a true with ⟨h, hr⟩ | ⟨v, x, h, hr, hrun⟩
  · exact st_val (v := .tuple #[z, .bool false]) (w' := w) (by simp only [execOp, hx, hy, Sem.run_bind]; rw [hr]; rfl) (h0 h)
  · exact st_val (v := .tuple #[v, .bool true]) (w' := w) (by simp only [execOp, hx, hy, Sem.run_bind]; rw [hrun]; rfl) (h1 v x h hr)

theorem st_mapUpdate {T E : TypeId} {x y z : Operand} {a : κ} {v : Value} {u : α} (hx : ev ρ x = .map (some b)) (hy : ev ρ y = ek a) (hz : ev ρ z = v) (K' : KeyOk P Ky ek) (hT : P.underlying T = some (.map Ky E)) (hm : MapR w b ek R l) (hv : R v u)
    (h : ∀ w', MapR w' b ek R (aset l a u) → Frm (fun k => k = b) w w' → Keeps w w' → w'.heap.size = w.heap.size → K undef w') : Step P ⟨d, .mapUpdate T x y z, ty, ps, af, gd⟩ ρ w K := by
  obtain ⟨w', hr, h1, h2, h3, h4⟩ := mapR_update K' hT hm a hv
  exact st_runU (s := Instr.mapUpdate T (.map (some b)) (ek a) v) (by simp only [execOp, hx, hy, hz]) hr (h w' h1 h2 h3 h4)

theorem st_delete {T E U : TypeId} {x y : Operand} {a : κ} (hx : ev ρ x = .map (some b)) (hy : ev ρ y = ek a) (K' : KeyOk P Ky ek) (hT : P.underlying T = some (.map Ky E)) (hm : MapR w b ek R l)
    (h : ∀ w', MapR w' b ek R (adel l a) → Frm (fun k => k = b) w w' → Keeps w w' → w'.heap.size = w.heap.size → K (.tuple #[]) w') : Step P ⟨d, .call { callee := .builtin .delete, args := #[x, y], argTypes := #[T, U] }, ty, ps, af, gd⟩ ρ w K := by
  obtain ⟨w', hr, h1, h2, h3, h4⟩ := mapR_delete (ty := ty) (U := U) K' hT hm a
  exact st_builtin (s := Builtin.delete_ #[T, U] ty #[.map (some b), ek a]) (w' := w') (fun cs => by simp [builtin, hx, hy]) hr (h w' h1 h2 h3 h4)

/-! 'm[k] op= v': the entry is found, or laid, then stored into -/
/-- the entry at key a of block b has this stamp -/
def EntAt (w : World) (b : Nat) (ek : κ → Value) (R : Value → α → Prop) (l : List (κ × α)) (a : κ) (s : Int) : Prop :=
  ∃ es clock, Blk w b (.map es clock) ∧ Stamped es clock ∧ Ents ek R es.toList l ∧ ∃ (j : Nat) (e : MapEntry), es.toList[j]? = some e ∧ e.key = ek a ∧ (e.born : Int) = s

omit [DecidableEq κ] in
theorem EntAt.mapR {a : κ} {s : Int} (h : EntAt w b ek R l a s) : MapR w b ek R l := by obtain ⟨es, c, h1, h2, h3, _⟩ := h; exact ⟨es, c, h1, h2, h3⟩

theorem aset_self {l : List (κ × α)} {a : κ} {v : α} (h : aget l a = some v) : aset l a v = l := by
  induction l with
  | nil => simp [aget] at h
  | cons p l ih =>
    simp only [aget] at h
    simp only [aset]
    split at h
    · rename_i e; cases h; subst e; simp
    · rename_i e; simp [e, ih h]

theorem st_mapEntry {T E : TypeId} {x y : Operand} {a : κ} {z : Value} {zu : α} (hx : ev ρ x = .map (some b)) (hy : ev ρ y = ek a) (K' : KeyOk P Ky ek) (hT : P.underlying T = some (.map Ky E)) (hz : ∀ w, (zeroValue E).run P w = .ok z w) (hR : R z zu) (hm : MapR w b ek R l)
    (h : ∀ v u s w', u = (aget l a).getD zu → R v u → EntAt w' b ek R (aset l a u) a s → Frm (fun k => k = b) w w' → Keeps w w' → w'.heap.size = w.heap.size → K (.tuple #[v, .int .i64 s]) w') : Step P ⟨d, .mapEntry T x y, ty, ps, af, gd⟩ ρ w K := by
  obtain ⟨es, clock, hb, hs, he⟩ := hm
  rcases K'.find es.toList a w he.isKey with ⟨h1, h2⟩ | ⟨j, e, h1, h2, h3⟩
  · have hab := he.absent h2
    refine st_val (v := .tuple #[z, .int .i64 clock]) (w' := World.put w b (.map (es.push { key := ek a, val := z, born := clock }) (clock + 1))) ?_ (h z zu clock _ (by simp [hab]) hR ⟨_, _, put_blk hb, stamped_push hs h2, ?_, es.size, { key := ek a, val := z, born := clock }, ?_, rfl, rfl⟩ (put_frm _) (put_keeps hb) (put_size _))
    · simp [execOp, hx, hy, Instr.mapEntry, run_underlying hT, run_getMap hb, K'.check, h1, hz, run_setMap _ hb, World.put, goInt]
    · rw [Array.toList_push]; exact Ents.push he hab rfl hR
    · simp
  · have hj : es[j]? = some e := by simpa using h2
    obtain ⟨u, hu, hr⟩ := he.present K' hs.2.2 h2 h3
    refine st_val (v := .tuple #[e.val, .int .i64 e.born]) (w' := World.put w b (.map (es.modify j fun e => { e with key := ek a }) clock)) ?_ (h e.val u e.born _ (by simp [hu]) hr ⟨_, _, put_blk hb, stamped_modify hs j _ (fun _ _ => rfl) (fun e' _ h' => ?_), ?_, j, { e with key := ek a }, ?_, rfl, rfl⟩ (put_frm _) (put_keeps hb) (put_size _))
    · simp [execOp, hx, hy, Instr.mapEntry, run_underlying hT, run_getMap hb, K'.check, h1, hj, h3, K'.stays, run_setMap _ hb, World.put, goInt]
    · rw [hj] at h'; cases h'; exact h3.symm
    · rw [Array.toList_modify]
      have hmod : es.toList.modify j (fun e => { e with key := ek a }) = es.toList.modify j (fun e => { e with key := ek a, val := e.val }) := rfl
      rw [hmod]
      exact Ents.set K' he hs.2.2 h2 h3 rfl hr
    · rw [Array.toList_modify, List.getElem?_modify_eq, h2]; rfl

theorem born_idx {es : Array MapEntry} {clock : Nat} (hs : Stamped es clock) {j : Nat} {e : MapEntry} (hj : es.toList[j]? = some e) : es.findIdx? (fun x => (x.born : Int) == (e.born : Int)) = some j := by
  obtain ⟨hlt, he⟩ := List.getElem?_eq_some_iff.1 hj
  rw [Array.findIdx?_eq_some_iff_getElem]
  have hlt' : j < es.size := by simpa using hlt
  have he' : es[j] = e := by simpa using he
  refine ⟨hlt', by simp [he'], fun i hi => ?_⟩
  have hi' : i < es.size := by omega
  have hne := (List.pairwise_iff_getElem.1 hs.2.1) i j (by simpa using hi') (by simpa using hlt') hi
  simp [he'] at hne
  simp
  omega

theorem st_entryStore {T : TypeId} {x y z : Operand} {a : κ} {s : Int} {v : Value} {u : α} (hx : ev ρ x = .map (some b)) (hy : ev ρ y = .int .i64 s) (hz : ev ρ z = v) (K' : KeyOk P Ky ek) (hm : EntAt w b ek R l a s) (hv : R v u)
    (h : ∀ w', MapR w' b ek R (aset l a u) → Frm (fun k => k = b) w w' → Keeps w w' → w'.heap.size = w.heap.size → K undef w') : Step P ⟨d, .entryStore T x y z, ty, ps, af, gd⟩ ρ w K := by
  obtain ⟨es, clock, hb, hs, he, j, e, hj, hk, rfl⟩ := hm
  refine st_runU (s := Instr.entryStore T (.map (some b)) (.int .i64 e.born) v) (w' := World.put w b (.map (es.modify j fun x => { x with val := v }) clock)) (by simp only [execOp, hx, hy, hz]) ?_ (h _ ⟨_, _, put_blk hb, stamped_modify hs j _ (fun _ _ => rfl) (fun _ _ _ => rfl), ?_⟩ (put_frm _) (put_keeps hb) (put_size _))
  · simp [Instr.entryStore, run_getMap hb, asInt, asIntOf, born_idx hs hj, run_setMap _ hb, World.put]
  · rw [Array.toList_modify]; exact Ents.set K' he hs.2.2 hj hk hk hv
end

/-! ### going through a map -/
section
variable {κ α : Type} {P : Program} {Ky : TypeId} {ek : κ → Value} {R : Value → α → Prop} {w : World} {b r : Nat} {l : List (κ × α)}
variable {ρ : Env} {w' : World} {K : Value → World → Prop} {d : Option Nat} {ty : TypeId} {ps : String} {af : Array Edge} {gd : Option (Nat × Bool)}

/-- block r goes through the map in block b, which reads as l; 'rem': the keys that are still to come -/
def Iter (w : World) (r b : Nat) (ek : κ → Value) (R : Value → α → Prop) (l : List (κ × α)) (rem : List κ) : Prop :=
  ∃ es clock seen last, Blk w b (.map es clock) ∧ Stamped es clock ∧ Ents ek R es.toList l ∧ Blk w r (.mapIter (some b) clock seen last) ∧ (seen.isEmpty = true ∨ last = clock) ∧
    (es.toList.filter fun e => !seen.contains e.born).map (·.key) = rem.map ek

/-- .. and the entry that came last is that of key a -/
def IterAt (w : World) (r b : Nat) (ek : κ → Value) (R : Value → α → Prop) (l : List (κ × α)) (rem : List κ) (a : κ) (x : α) : Prop :=
  ∃ es clock seen, Blk w b (.map es clock) ∧ Stamped es clock ∧ Ents ek R es.toList l ∧ Blk w r (.mapIter (some b) clock seen clock) ∧
    (es.toList.filter fun e => !seen.contains e.born).map (·.key) = rem.map ek ∧ ∃ e, e ∈ es.toList ∧ e.key = ek a ∧ R e.val x ∧ seen.back? = some e.born

theorem IterAt.iter {rem : List κ} {a : κ} {x : α} (h : IterAt w r b ek R l rem a x) : Iter w r b ek R l rem := by
  obtain ⟨es, c, seen, h1, h2, h3, h4, h5, _⟩ := h
  exact ⟨es, c, seen, c, h1, h2, h3, h4, .inr rfl, h5⟩

theorem Iter.mapR {rem : List κ} (h : Iter w r b ek R l rem) : MapR w b ek R l := by
  obtain ⟨es, c, seen, last, h1, h2, h3, _⟩ := h; exact ⟨es, c, h1, h2, h3⟩

theorem Iter.frm {rem : List κ} (h : Iter w r b ek R l rem) {X : Nat → Prop} (e : Frm X w w') (hb : ¬ X b) (hr : ¬ X r) {R' : Value → α → Prop} (hR : ∀ v x, R v x → R' v x) : Iter w' r b ek R' l rem := by
  obtain ⟨es, c, seen, last, h1, h2, h3, h4, h5, h6⟩ := h
  exact ⟨es, c, seen, last, h1.frm e hb, h2, All2.imp h3 fun a p _ _ ⟨h1, h2⟩ => ⟨h1, hR _ _ h2⟩, h4.frm e hr, h5, h6⟩
theorem Iter.up {rem : List κ} (h : Iter w r b ek R l rem) (e : Up w w') {R' : Value → α → Prop} (hR : ∀ v x, R v x → R' v x) : Iter w' r b ek R' l rem := h.frm (X := NoB) e.frm (fun h => h) (fun h => h) hR
theorem IterAt.up {rem : List κ} {a : κ} {x : α} (h : IterAt w r b ek R l rem a x) (e : Up w w') {R' : Value → α → Prop} (hR : ∀ v x, R v x → R' v x) : IterAt w' r b ek R' l rem a x := by
  obtain ⟨es, c, seen, h1, h2, h3, h4, h5, e0, h6, h7, h8, h9⟩ := h
  exact ⟨es, c, seen, h1.up e, h2, All2.imp h3 fun a p _ _ ⟨h1, h2⟩ => ⟨h1, hR _ _ h2⟩, h4.up e, h5, e0, h6, h7, hR _ _ h8, h9⟩

theorem st_range {T E : TypeId} {x : Operand} (hx : ev ρ x = .map (some b)) (hT : P.underlying T = some (.map Ky E)) (hm : MapR w b ek R l)
    (h : ∀ r w', r = w.heap.size → Up w w' → w'.heap.size = r + 1 → Iter w' r b ek R l (akeys l) → K (.pointer (some ⟨r, 0, none⟩)) w') : Step P ⟨d, .range T x, ty, ps, af, gd⟩ ρ w K := by
  obtain ⟨es, clock, hb, hs, he⟩ := hm
  have m := made_alloc w (.mapIter (some b) clock #[] clock)
  refine st_val (v := .pointer (some ⟨w.heap.size, 0, none⟩)) (w' := w.alloc (.mapIter (some b) clock #[] clock)) ?_ (h _ _ rfl m.up m.size ⟨es, clock, #[], clock, hb.up m.up, hs, he, m.blk, .inl rfl, ?_⟩)
  · simp [execOp, hx, Instr.range, run_underlying hT, run_getMap hb]
  · rw [List.filter_eq_self.2 (by simp)]; exact he.keys

theorem run_getIter {m : Option Nat} {s c : Nat} {seen : Array Nat} (hb : Blk w r (.mapIter m s seen c)) : (getObj r).run P w = .ok (.mapIter m s seen c) w := by
  simp [getObj, Sem.run, show w.heap[r]? = _ from hb]
theorem run_setIter {m : Option Nat} {s c : Nat} {seen : Array Nat} (o : Obj) (hb : Blk w r (.mapIter m s seen c)) : (setObj r o).run P w = .ok () (World.put w r o) := by
  simp [setObj, Sem.run, show w.heap[r]? = _ from hb, World.put]
theorem put_keepsI {m : Option Nat} {s c : Nat} {seen : Array Nat} {o : Obj} (h : Blk w r (.mapIter m s seen c)) : Keeps w (World.put w r o) := by
  intro k i v hv
  by_cases e : k = r
  · subst e
    simp [World.cell?, show w.heap[k]? = _ from h] at hv
  · exact cell_frm hv (put_frm _) e
theorem put_drew {w0 : World} {o : Obj} : Frm (fun k => k = r) w0 (World.put { w0 with drawn := w0.drawn + 1 } r o) :=
  ⟨rfl, rfl, rfl, by simp [World.put], fun k hk hx => by simp [World.put, Array.getElem?_setIfInBounds_ne (Ne.symm hx)]⟩

/-- the next one: there is none, or one of those that are still to come -/
theorem st_next {x : Operand} {rem : List κ} (hx : ev ρ x = .pointer (some ⟨r, 0, none⟩)) (hi : Iter w r b ek R l rem) (hinj : ∀ a a', ek a = ek a' → a = a')
    (h0 : rem = [] → ∀ w', Up w w' → w'.heap.size = w.heap.size → Iter w' r b ek R l rem → K (.tuple #[.bool false]) w')
    (h1 : ∀ a u v w' rem₁ rem₂, rem = rem₁ ++ a :: rem₂ → (a, u) ∈ l → R v u → IterAt w' r b ek R l (rem₁ ++ rem₂) a u → Frm (fun k => k = r) w w' → Keeps w w' → w'.heap.size = w.heap.size → K (.tuple #[.bool true, ek a, v]) w') : Step P ⟨d, .next x false, ty, ps, af, gd⟩ ρ w K := by
  obtain ⟨es, clock, seen, last, hb, hs, he, hr, hl, hrem⟩ := hi
  have hne : r ≠ b := by
    intro e; subst e
    have : some (Obj.mapIter (some r) clock seen last) = some (Obj.map es clock) := (show w.heap[r]? = _ from hr).symm.trans hb
    cases this
  have hlast : (!seen.isEmpty && !es.isEmpty && es.all (fun x => decide (x.born ≥ last))) = false := by
    rcases hl with h | h
    · simp [h]
    · subst h
      by_cases hemp : es.isEmpty = true
      · simp [hemp]
      · have h0 : es ≠ #[] := by simpa using hemp
        have hsz : 0 < es.size := Array.size_pos_iff.2 h0
        have : es.all (fun x => decide (x.born ≥ last)) = false := by
          rw [Array.all_eq_false]
          refine ⟨0, hsz, ?_⟩
          have := hs.1 es[0] (by simp)
          simp; exact this
        simp [this]
  have hold : ∀ e ∈ es.toList, e.born < clock := hs.1
  have hfo : (es.filter fun e => !seen.contains e.born).filter (fun e => decide (e.born < clock)) = es.filter fun e => !seen.contains e.born := by
    rw [Array.filter_eq_self]
    intro e h
    have := (Array.mem_filter.1 h).1
    simpa using hold e (by simpa using this)
  have hfn : (es.filter fun e => !seen.contains e.born).filter (fun e => decide (e.born ≥ clock)) = #[] := by
    rw [Array.filter_eq_empty_iff]
    intro e h
    have := (Array.mem_filter.1 h).1
    have := hold e (by simpa using this)
    simp; omega
  generalize hleft : (es.filter fun e => !seen.contains e.born) = lf at hfo hfn
  have hlf : lf.toList.map (·.key) = rem.map ek := by rw [← hleft, Array.toList_filter]; exact hrem
  obtain ⟨C, hC⟩ : ∃ C, C = ((if lf.isEmpty then #[none] else #[]) ++ (lf ++ #[]).map some) := ⟨_, rfl⟩
  have hrun : ∀ k (w1 : World), (choose (.mapNext C.size)).run P w = .ok k w1 →
      (execOp (ev ρ) ⟨d, .next x false, ty, ps, af, gd⟩).run P w = (match C[k]? with
        | some (some e) => .ok (.value (.tuple #[.bool true, e.key, e.val])) (World.put w1 r (.mapIter (some b) clock (seen.push e.born) clock))
        | some none => .ok (.value (.tuple #[.bool false])) w1
        | none => .halt (.stuck "Next: no such candidate") w1) := by
    intro k w1 hk
    have hw1 : w1.heap = w.heap := by
      rw [run_choose] at hk
      split at hk <;> (cases hk; rfl)
    have hr1 : Blk w1 r (.mapIter (some b) clock seen last) := by unfold Blk; rw [hw1]; exact hr
    simp only [execOp, hx, Instr.next, Sem.run_bind, run_getIter hr, Result.andThen_ok, run_getMap hb, hlast, Bool.false_eq_true, if_false, hleft, hfo, hfn, ← hC, hk, Sem.run_pure]
    cases hc : C[k]? with
    | none => simp
    | some o =>
      cases o with
      | none => simp
      | some e => simp [run_setIter _ hr1]
  cases hemp : lf.isEmpty with
  | true =>
    have hlf0 : lf = #[] := by simpa using hemp
    subst hlf0
    have hrem0 : rem = [] := by cases rem with | nil => rfl | cons _ _ => simp at hlf
    have hC' : C = #[none] := by rw [hC]; simp
    have hk : (choose (.mapNext C.size)).run P w = .ok 0 w := by rw [run_choose, hC']; simp [Question.forced]
    exact st_val (v := .tuple #[.bool false]) (w' := w) (by rw [hrun 0 w hk, hC']; simp) (h0 hrem0 w (Up.refl w) rfl ⟨es, clock, seen, last, hb, hs, he, hr, hl, hrem⟩)
  | false =>
    have hsz : 0 < lf.size := by
      rcases Nat.eq_zero_or_pos lf.size with h | h
      · have : lf = #[] := Array.size_eq_zero_iff.1 h
        rw [this] at hemp; simp at hemp
      · exact h
    obtain ⟨k, w1, hk, hklt, hw1⟩ : ∃ k w1, (choose (.mapNext C.size)).run P w = .ok k w1 ∧ k < lf.size ∧ (w1 = w ∨ w1 = { w with drawn := w.drawn + 1 }) := by
      rw [run_choose]
      have hsz' : C.size = lf.size := by rw [hC]; simp [hemp]
      rw [hsz']
      split
      · exact ⟨0, w, rfl, hsz, .inl rfl⟩
      · exact ⟨_, _, rfl, by simp only [Question.cut]; exact Nat.mod_lt _ hsz, .inr rfl⟩
    have hget : C[k]? = some (some lf[k]) := by
      rw [hC]; simp [hemp, hklt]
    have hall : ∀ e, e ∈ lf → e ∈ es.toList ∧ (!seen.contains e.born) = true := by
      intro e h
      rw [← hleft] at h
      have := Array.mem_filter.1 h
      simpa using this
    have hmem := hall lf[k] (Array.getElem_mem hklt)
    obtain ⟨i, hi⟩ := List.mem_iff_getElem?.1 hmem.1
    obtain ⟨p, hp, hpk, hpr⟩ := All2.get he hi
    -- where the key stands among those still to come
    have hkr : rem[k]? = some p.1 := by
      have h1 : (lf.toList.map (·.key))[k]? = some lf[k].key := by simp [hklt]
      rw [hlf, List.getElem?_map] at h1
      cases hrk : rem[k]? with
      | none => rw [hrk] at h1; cases h1
      | some a =>
        rw [hrk] at h1
        simp at h1
        rw [hinj _ _ (h1.trans hpk)]
    have hsplit : rem = rem.take k ++ p.1 :: rem.drop (k + 1) := by
      obtain ⟨hlt, he1⟩ := List.getElem?_eq_some_iff.1 hkr
      rw [← he1, ← List.drop_eq_getElem_cons hlt]; exact (List.take_append_drop k rem).symm
    have hfrm : Frm (fun k => k = r) w (World.put w1 r (.mapIter (some b) clock (seen.push lf[k].born) clock)) := by
      rcases hw1 with h | h
      · rw [h]; exact put_frm _
      · rw [h]; exact put_drew
    have hkp : Keeps w (World.put w1 r (.mapIter (some b) clock (seen.push lf[k].born) clock)) := by
      intro k' o v hv
      by_cases e : k' = r
      · subst e
        simp [World.cell?, show w.heap[k']? = _ from hr] at hv
      · exact cell_frm hv hfrm e
    have hsize : (World.put w1 r (.mapIter (some b) clock (seen.push lf[k].born) clock)).heap.size = w.heap.size := by
      rcases hw1 with h | h <;> rw [h] <;> simp [World.put]
    have hr1 : Blk w1 r (.mapIter (some b) clock seen last) := by rcases hw1 with h | h <;> (rw [h]; exact hr)
    refine st_val (v := .tuple #[.bool true, ek p.1, lf[k].val]) (w' := World.put w1 r (.mapIter (some b) clock (seen.push lf[k].born) clock)) (by rw [hrun k w1 hk, hget]; dsimp only; rw [hpk]) (h1 p.1 p.2 lf[k].val _ (rem.take k) (rem.drop (k + 1)) hsplit (List.mem_of_getElem? hp) hpr ?_ hfrm hkp hsize)
    refine ⟨es, clock, seen.push lf[k].born, hb.frm hfrm (Ne.symm hne), hs, he, put_blk hr1, ?_, lf[k], hmem.1, hpk, hpr, by simp⟩
    -- what is left
    have hbn : (lf.toList.map (·.born)).Nodup := by
      rw [← hleft, Array.toList_filter]
      exact hs.2.1.sublist (List.Sublist.map _ (List.filter_sublist))
    have h2 : es.toList.filter (fun e => !(seen.push lf[k].born).contains e.born) = lf.toList.take k ++ lf.toList.drop (k + 1) := by
      have e1 : es.toList.filter (fun e => !(seen.push lf[k].born).contains e.born) = lf.toList.filter (fun e => !(e.born == lf[k].born)) := by
        have e2 : lf.toList = es.toList.filter fun e => !seen.contains e.born := by rw [← hleft, Array.toList_filter]
        rw [e2, List.filter_filter]
        congr 1
        funext e
        rw [Array.contains_push]
        cases seen.contains e.born <;> cases (e.born == lf[k].born) <;> rfl
      rw [e1]
      have key : ∀ (L : List MapEntry) (k : Nat) (e : MapEntry), (L.map (·.born)).Nodup → L[k]? = some e → L.filter (fun x => !(x.born == e.born)) = L.take k ++ L.drop (k + 1) := by
        intro L
        induction L with
        | nil => intro k e _ h; simp at h
        | cons x L ih =>
          intro k e hn h
          rw [List.map_cons, List.nodup_cons] at hn
          cases k with
          | zero =>
            simp at h
            subst h
            simp only [List.filter_cons, beq_self_eq_true, Bool.not_true, Bool.false_eq_true, if_false, List.take_zero, List.nil_append, List.drop_succ_cons, List.drop_zero]
            rw [List.filter_eq_self]
            intro y hy
            simp
            exact fun e => hn.1 (List.mem_map.2 ⟨y, hy, e⟩)
          | succ k =>
            simp at h
            have hne : x.born ≠ e.born := fun e' => hn.1 (List.mem_map.2 ⟨e, List.mem_of_getElem? h, e'.symm⟩)
            simp only [List.filter_cons, List.take_succ_cons, List.drop_succ_cons, List.cons_append]
            rw [if_pos (by simpa using hne), ih k e hn.2 h]
      exact key _ _ _ hbn (by simp [hklt])
    rw [h2, List.map_append, List.map_take, List.map_drop, hlf, List.map_append, List.map_take, List.map_drop]

theorem st_entry {x : Operand} {rem : List κ} {a : κ} {u : α} (hx : ev ρ x = .pointer (some ⟨r, 0, none⟩)) (hi : IterAt w r b ek R l rem a u) (h : ∀ v, R v u → K (.tuple #[ek a, v]) w) : Step P ⟨d, .entry x, ty, ps, af, gd⟩ ρ w K := by
  obtain ⟨es, clock, seen, hb, hs, he, hr, hrem, e, hmem, hk, hv, hback⟩ := hi
  have hfind : es.find? (fun x => x.born == e.born) = some e := by
    obtain ⟨j, hj⟩ := List.mem_iff_getElem?.1 hmem
    have hidx := born_idx hs hj
    rw [← Array.find?_toList, List.find?_eq_some_iff_getElem]
    obtain ⟨hlt, he'⟩ := List.getElem?_eq_some_iff.1 hj
    refine ⟨by simp, j, hlt, he', fun i hi => ?_⟩
    rw [Array.findIdx?_eq_some_iff_getElem] at hidx
    obtain ⟨_, _, h3⟩ := hidx
    have := h3 i hi
    simp at this ⊢
    intro h; exact this (by omega)
  refine st_val (v := .tuple #[ek a, e.val]) (w' := w) ?_ (h _ hv)
  simp [execOp, hx, Instr.entry, run_getIter hr, run_getMap hb, hback, hfind, hk]

variable [DecidableEq κ]
/-- what has come is struck -/
theorem IterAt.delete {T E U : TypeId} {rem : List κ} {a : κ} {u : α} (K' : KeyOk P Ky ek) (hT : P.underlying T = some (.map Ky E)) (h : IterAt w r b ek R l rem a u) :
    ∃ w', (Builtin.delete_ #[T, U] ty #[.map (some b), ek a]).run P w = .ok (.tuple #[]) w' ∧ Iter w' r b ek R (adel l a) rem ∧ Frm (fun k => k = b) w w' ∧ Keeps w w' ∧ w'.heap.size = w.heap.size := by
  obtain ⟨es, clock, seen, hb, hs, he, hr, hrem, e, hmem, hk, hv, hback⟩ := h
  have hne : r ≠ b := by
    intro e; subst e
    have : some (Obj.mapIter (some r) clock seen clock) = some (Obj.map es clock) := (show w.heap[r]? = _ from hr).symm.trans hb
    cases this
  rcases K'.find es.toList a w he.isKey with ⟨h1, h2⟩ | ⟨j, e', h1, h2, h3⟩
  · exact absurd hk (h2 e hmem)
  · have hseen : seen.contains e'.born = true := by
      have e1 : e' = e := by
        obtain ⟨i, hi⟩ := List.mem_iff_getElem?.1 hmem
        have hnk := List.pairwise_iff_getElem.1 hs.2.2
        obtain ⟨hli, hei⟩ := List.getElem?_eq_some_iff.1 hi
        obtain ⟨hlj, hej⟩ := List.getElem?_eq_some_iff.1 h2
        rcases Nat.lt_trichotomy i j with h | h | h
        · have := hnk i j (by simpa using hli) (by simpa using hlj) h
          simp only [List.getElem_map, hei, hej, hk, h3] at this
          exact absurd rfl this
        · subst h; rw [hi] at h2; cases h2; rfl
        · have := hnk j i (by simpa using hlj) (by simpa using hli) h
          simp only [List.getElem_map, hei, hej, hk, h3] at this
          exact absurd rfl this
      rw [e1]
      have := Array.mem_of_back? hback
      simpa using this
    refine ⟨World.put w b (.map (es.eraseIdxIfInBounds j) clock), ?_, ⟨_, clock, seen, clock, put_blk hb, stamped_erase hs j, ?_, hr.frm (put_frm _) hne, .inr rfl, ?_⟩, put_frm _, put_keeps hb, put_size _⟩
    · simp [Builtin.delete_, run_underlying hT, run_getMap hb, K'.check, h1, run_setMap _ hb, World.put]
    · rw [Array.toList_eraseIdxIfInBounds]; exact Ents.del K' he hs.2.2 h2 h3
    · rw [Array.toList_eraseIdxIfInBounds, ← hrem]
      congr 1
      have key : ∀ (L : List MapEntry) (j : Nat), L[j]? = some e' → (L.eraseIdx j).filter (fun e => !seen.contains e.born) = L.filter (fun e => !seen.contains e.born) := by
        intro L
        induction L with
        | nil => intro j h; simp at h
        | cons x L ih =>
          intro j h
          cases j with
          | zero =>
            simp at h; subst h
            rw [List.eraseIdx_cons_zero, List.filter_cons, if_neg (by rw [hseen]; simp)]
          | succ j =>
            simp at h
            simp only [List.eraseIdx_cons_succ, List.filter_cons, ih j h]
      exact key _ _ h2
end
end Go.Tw
