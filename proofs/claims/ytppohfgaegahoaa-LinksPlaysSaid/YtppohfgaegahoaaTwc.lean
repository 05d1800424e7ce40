/- One rule for each form of operation. It speaks of no program. -/
import Derived.Test.YtppohfgaegahoaaTwb
import Derived.WalkKit
namespace Go.Tw
open Go.RowKit

/-! ### worlds -/

/-- Blocks outside X, of those that were there, are as they were. -/
structure Frm (X : Nat → Prop) (w w' : World) : Prop where
  os : w'.os = w.os
  tape : w'.tape = w.tape
  output : w'.output = w.output
  size : w.heap.size ≤ w'.heap.size
  block : ∀ k, k < w.heap.size → ¬ X k → w'.heap[k]? = w.heap[k]?

def NoB : Nat → Prop := fun _ => False

theorem Up.frm {w w' : World} (h : Up w w') {X : Nat → Prop} : Frm X w w' := ⟨h.os, h.tape, h.output, h.size, fun k hk _ => h.block k hk⟩
theorem Frm.up {w w' : World} (h : Frm NoB w w') : Up w w' := ⟨h.os, h.tape, h.output, h.size, fun k hk => h.block k hk (fun e => e)⟩
theorem Frm.refl (X : Nat → Prop) (w : World) : Frm X w w := ⟨rfl, rfl, rfl, Nat.le_refl _, fun _ _ _ => rfl⟩
theorem Frm.trans {X : Nat → Prop} {a b c : World} (h : Frm X a b) (k : Frm X b c) : Frm X a c :=
  ⟨k.os.trans h.os, k.tape.trans h.tape, k.output.trans h.output, Nat.le_trans h.size k.size, fun i hi hx => (k.block i (Nat.lt_of_lt_of_le hi h.size) hx).trans (h.block i hi hx)⟩
theorem Frm.mono {X Y : Nat → Prop} {a b : World} (h : Frm X a b) (hxy : ∀ k, k < a.heap.size → X k → Y k) : Frm Y a b :=
  ⟨h.os, h.tape, h.output, h.size, fun i hi hy => h.block i hi (fun hx => hy (hxy i hi hx))⟩
/-- blocks that are new when the second step begins count as new for both -/
theorem Frm.trans' {X Y : Nat → Prop} {a b c : World} (h : Frm X a b) (k : Frm Y b c) (hy : ∀ i, i < a.heap.size → Y i → X i) : Frm X a c :=
  ⟨k.os.trans h.os, k.tape.trans h.tape, k.output.trans h.output, Nat.le_trans h.size k.size, fun i hi hx => (k.block i (Nat.lt_of_lt_of_le hi h.size) (fun e => hx (hy i hi e))).trans (h.block i hi hx)⟩
theorem Frm.below {X : Nat → Prop} {B : Nat} {w w' : World} (h : Frm X w w') (hB : B ≤ w.heap.size) (hx : ∀ k, k < B → ¬ X k) : Below B w w' :=
  ⟨h.os, h.tape, h.output, h.size, fun k hk => h.block k (Nat.lt_of_lt_of_le hk hB) (hx k hk)⟩
theorem grown_frm {w w' : World} {row : Option Nat} (h : w.grownBy w' row) : Frm (fun k => some k = row) w w' := ⟨h.os, h.tape, h.output, h.size, fun k hk hx => h.block k hk hx⟩

def Blk (w : World) (b : Nat) (o : Obj) : Prop := w.heap[b]? = some o
theorem Blk.lt {w : World} {b : Nat} {o : Obj} (h : Blk w b o) : b < w.heap.size := (Array.getElem?_eq_some_iff.1 h).1
theorem Blk.frm {w w' : World} {b : Nat} {o : Obj} (h : Blk w b o) {X : Nat → Prop} (e : Frm X w w') (hx : ¬ X b) : Blk w' b o := (e.block b h.lt hx).trans h
theorem Blk.up {w w' : World} {b : Nat} {o : Obj} (h : Blk w b o) (e : Up w w') : Blk w' b o := (e.block b h.lt).trans h

/-- cells in a row -/
def Cells (w : World) (b off : Nat) (cs : List Value) : Prop := ∀ i v, cs[i]? = some v → w.cell? ⟨b, off + i, none⟩ = some v

theorem cell_same {w w' : World} {b o : Nat} (h : w'.heap[b]? = w.heap[b]?) : w'.cell? ⟨b, o, none⟩ = w.cell? ⟨b, o, none⟩ := by simp [World.cell?, h]
theorem cell_lt {w : World} {b o : Nat} {v : Value} (h : w.cell? ⟨b, o, none⟩ = some v) : b < w.heap.size := World.block_lt_of_cell? w _ h
theorem cell_frm {w w' : World} {b o : Nat} {v : Value} (h : w.cell? ⟨b, o, none⟩ = some v) {X : Nat → Prop} (e : Frm X w w') (hx : ¬ X b) : w'.cell? ⟨b, o, none⟩ = some v :=
  (cell_same (e.block b (cell_lt h) hx)).trans h
theorem cell_up {w w' : World} {b o : Nat} {v : Value} (h : w.cell? ⟨b, o, none⟩ = some v) (e : Up w w') : w'.cell? ⟨b, o, none⟩ = some v :=
  (cell_same (e.block b (cell_lt h))).trans h
theorem Cells.frm {w w' : World} {b off : Nat} {cs : List Value} (h : Cells w b off cs) {X : Nat → Prop} (e : Frm X w w') (hx : ¬ X b) : Cells w' b off cs := fun i v hv => cell_frm (h i v hv) e hx
theorem Cells.up {w w' : World} {b off : Nat} {cs : List Value} (h : Cells w b off cs) (e : Up w w') : Cells w' b off cs := fun i v hv => cell_up (h i v hv) e
theorem cells0 {w : World} {b off : Nat} : Cells w b off [] := fun i v h => by simp at h
theorem cells_cons {w : World} {b off : Nat} {v : Value} {cs : List Value} (h0 : w.cell? ⟨b, off, none⟩ = some v) (h : Cells w b (off + 1) cs) : Cells w b off (v :: cs) := fun i u hu => by
  cases i with
  | zero => simp at hu; subst hu; exact h0
  | succ i => have := h i u (by simpa using hu); rwa [show off + 1 + i = off + (i + 1) by omega] at this
theorem cells1 {w : World} {b off : Nat} {v0 : Value} (h0 : w.cell? ⟨b, off, none⟩ = some v0) : Cells w b off [v0] := cells_cons h0 cells0
theorem cells2 {w : World} {b off : Nat} {v0 v1 : Value} (h0 : w.cell? ⟨b, off, none⟩ = some v0) (h1 : w.cell? ⟨b, off + 1, none⟩ = some v1) : Cells w b off [v0, v1] := cells_cons h0 (cells1 h1)
theorem cells3 {w : World} {b off : Nat} {v0 v1 v2 : Value} (h0 : w.cell? ⟨b, off, none⟩ = some v0) (h1 : w.cell? ⟨b, off + 1, none⟩ = some v1) (h2 : w.cell? ⟨b, off + 1 + 1, none⟩ = some v2) : Cells w b off [v0, v1, v2] := cells_cons h0 (cells2 h1 h2)
theorem Cells.take {w : World} {b off : Nat} {cs : List Value} (h : Cells w b off cs) (n : Nat) : Cells w b off (cs.take n) := fun i v hv => h i v (by
  rw [List.getElem?_take] at hv; split at hv <;> simp_all)
theorem Cells.drop {w : World} {b off : Nat} {cs : List Value} (h : Cells w b off cs) (n : Nat) : Cells w b (off + n) (cs.drop n) := fun i v hv => by
  rw [Nat.add_assoc]; exact h (n + i) v (by simpa using hv)
theorem Blk.cells {w : World} {b : Nat} {cs : Array Value} {T : TypeId} {fz : Nat × Nat} (h : Blk w b (.cells cs T fz)) : Cells w b 0 cs.toList := fun i v hv => by
  simp only [World.cell?, show w.heap[b]? = _ from h, Nat.zero_add]
  simpa using hv
theorem Blk.row {w : World} {b : Nat} {cs : List Value} {T : TypeId} {fz : Nat × Nat} (h : Blk w b (.cells cs.toArray T fz)) : Cells w b 0 cs := by
  have := h.cells; simpa using this
theorem Blk.cell {w : World} {b : Nat} {cs : Array Value} {T : TypeId} {fz : Nat × Nat} (h : Blk w b (.cells cs T fz)) {o : Nat} {v : Value} (hv : cs[o]? = some v) : w.cell? ⟨b, o, none⟩ = some v := by
  simp only [World.cell?, show w.heap[b]? = _ from h]
  simpa using hv

/-- a new block -/
structure Made (w w' : World) (b : Nat) (o : Obj) : Prop where
  at_ : b = w.heap.size
  blk : Blk w' b o
  up : Up w w'
  size : w'.heap.size = b + 1

theorem made_alloc (w : World) (o : Obj) : Made w (w.alloc o) w.heap.size o :=
  ⟨rfl, MapKept_heap w o, (Below.refl _ _).alloc (Nat.le_refl _) o, by simp⟩
where
  MapKept_heap (w : World) (o : Obj) : Blk (w.alloc o) w.heap.size o := heap_alloc_new w o

/-! ### slices -/

/-- v is a slice of n elements of 'size' cells each, which are cs, in a block of S. -/
def SlV (S : Nat → Prop) (w : World) (v : Value) (n size : Nat) (cs : List Value) : Prop :=
  ∃ o cap, v = .slice o n cap ∧ cs.length = n * size ∧ (0 < n → ∃ b off, o = some ⟨b, off, none⟩ ∧ S b ∧ Cells w b off cs)

def AnyB : Nat → Prop := fun _ => True

theorem SlV.up {S : Nat → Prop} {w w' : World} {v : Value} {n size : Nat} {cs : List Value} (h : SlV S w v n size cs) (e : Up w w') : SlV S w' v n size cs := by
  obtain ⟨o, cap, hv, hl, hc⟩ := h
  exact ⟨o, cap, hv, hl, fun hn => let ⟨b, off, ho, hs, h⟩ := hc hn; ⟨b, off, ho, hs, h.up e⟩⟩
theorem SlV.frm {S : Nat → Prop} {w w' : World} {v : Value} {n size : Nat} {cs : List Value} (h : SlV S w v n size cs) {X : Nat → Prop} (e : Frm X w w') (hx : ∀ b, S b → ¬ X b) : SlV S w' v n size cs := by
  obtain ⟨o, cap, hv, hl, hc⟩ := h
  exact ⟨o, cap, hv, hl, fun hn => let ⟨b, off, ho, hs, h⟩ := hc hn; ⟨b, off, ho, hs, h.frm e (hx b hs)⟩⟩
theorem SlV.mono {S S' : Nat → Prop} {w : World} {v : Value} {n size : Nat} {cs : List Value} (h : SlV S w v n size cs) (hs : ∀ b, b < w.heap.size → S b → S' b) (hz : 0 < size) : SlV S' w v n size cs := by
  obtain ⟨o, cap, hv, hl, hc⟩ := h
  refine ⟨o, cap, hv, hl, fun hn => ?_⟩
  obtain ⟨b, off, ho, hb, h⟩ := hc hn
  refine ⟨b, off, ho, hs b ?_ hb, h⟩
  have hp : 0 < cs.length := by rw [hl]; exact Nat.mul_pos hn hz
  exact cell_lt (h 0 cs[0] (by simp [hp]))

section
variable {P : Program} {ρ : Env} {w w' : World} {K : Value → World → Prop} {d : Option Nat} {ty : TypeId} {ps : String} {af : Array Edge} {gd : Option (Nat × Bool)}

theorem st_val {o : Oper} {v : Value} (hrun : (execOp (ev ρ) o).run P w = .ok (.value v) w') (h : K v w') : Step P o ρ w K := by
  unfold Step; rw [hrun]; exact h

theorem st_move {x : Operand} {v : Value} (hx : ev ρ x = v) (h : K v w) : Step P ⟨d, .move x, ty, ps, af, gd⟩ ρ w K :=
  st_val (v := v) (w' := w) (by simp [execOp, hx]) h
theorem st_assign {x : Operand} {v : Value} (hx : ev ρ x = v) (h : K v w) : Step P ⟨d, .assign x, ty, ps, af, gd⟩ ρ w K :=
  st_val (v := v) (w' := w) (by simp [execOp, hx]) h
theorem st_pick {c x y : Operand} {b : Bool} {v : Value} (hc : ev ρ c = .bool b) (hx : b = true → ev ρ x = v) (hy : b = false → ev ρ y = v) (h : K v w) : Step P ⟨d, .pick c x y, ty, ps, af, gd⟩ ρ w K := by
  refine st_val (v := v) (w' := w) ?_ h
  cases b <;> simp_all [execOp, asBool]
/-- 'a && b' -/
theorem st_and {c x y : Operand} {b1 b2 : Bool} (hc : ev ρ c = .bool b1) (hx : b1 = true → ev ρ x = .bool b2) (hy : ev ρ y = .bool false) (h : K (.bool (b1 && b2)) w) : Step P ⟨d, .pick c x y, ty, ps, af, gd⟩ ρ w K :=
  st_pick hc (fun e => by rw [hx e, e]; rfl) (fun e => by rw [hy, e]; rfl) h
theorem st_or {c x y : Operand} {b1 b2 : Bool} (hc : ev ρ c = .bool b1) (hx : b1 = false → ev ρ y = .bool b2) (hy : ev ρ x = .bool true) (h : K (.bool (b1 || b2)) w) : Step P ⟨d, .pick c x y, ty, ps, af, gd⟩ ρ w K :=
  st_pick hc (fun e => by rw [hy, e]; rfl) (fun e => by rw [hx e, e]; rfl) h

theorem run_newVar (T : TypeId) (v : Value) : (newVar T v).run P w = .ok ⟨w.heap.size, 0, none⟩ (w.alloc (.cells v.cells T)) := by
  simp [newVar, newRow]

theorem st_alloc {T : TypeId} {z : Value} (hz : ∀ w, (zeroValue T).run P w = .ok z w) (h : ∀ b w', Made w w' b (.cells z.cells T) → K (.pointer (some ⟨b, 0, none⟩)) w') : Step P ⟨d, .alloc T, ty, ps, af, gd⟩ ρ w K := by
  refine st_val (v := .pointer (some ⟨w.heap.size, 0, none⟩)) (w' := w.alloc (.cells z.cells T)) ?_ (h _ _ (made_alloc w _))
  simp [execOp, Instr.alloc, hz, run_newVar]

theorem st_box {T : TypeId} {x : Operand} {v : Value} (hx : ev ρ x = v) (h : ∀ b w', Made w w' b (.cells v.cells T) → K (.pointer (some ⟨b, 0, none⟩)) w') : Step P ⟨d, .box T x, ty, ps, af, gd⟩ ρ w K := by
  refine st_val (v := .pointer (some ⟨w.heap.size, 0, none⟩)) (w' := w.alloc (.cells v.cells T)) ?_ (h _ _ (made_alloc w _))
  simp [execOp, Instr.box, hx, run_newVar]

theorem st_build {T : TypeId} {parts : Array (Nat × Operand)} {v : Value} (hrun : ∀ w, (Instr.build T (parts.map fun (i, x) => (i, ev ρ x))).run P w = .ok v w) (h : K v w) : Step P ⟨d, .build T parts, ty, ps, af, gd⟩ ρ w K :=
  st_val (v := v) (w' := w) (by simp only [execOp, Sem.run_bind, hrun]; rfl) h

theorem add_zero_addr (b off i : Nat) : (⟨b, off, none⟩ : Addr).add i = ⟨b, off + i, none⟩ := by
  unfold Addr.add
  split
  · rename_i e; subst e; rfl
  · rfl

theorem run_loadVar1 {T : TypeId} {b off : Nat} {v : Value} (hT : ∀ w, (isAgg T).run P w = .ok false w) (hc : w.cell? ⟨b, off, none⟩ = some v) : (loadVar T ⟨b, off, none⟩).run P w = .ok v w := by
  simp [loadVar, hT, hc]

theorem run_loadVarK {T : TypeId} {b off k : Nat} {cs : List Value} (hT : ∀ w, (isAgg T).run P w = .ok true w) (hs : ∀ w, (sizeOf T).run P w = .ok k w) (hl : cs.length = k) (hc : Cells w b off cs) : (loadVar T ⟨b, off, none⟩).run P w = .ok (.agg cs.toArray) w := by
  have := run_loadCells_list (P := P) w ⟨b, off, none⟩ cs (fun j v hv => by rw [add_zero_addr]; exact hc j v hv)
  simp only [hl] at this
  simp [loadVar, hT, hs, this]

theorem st_load1 {T : TypeId} {x : Operand} {b off : Nat} {v : Value} (hT : ∀ w, (isAgg T).run P w = .ok false w) (hx : ev ρ x = .pointer (some ⟨b, off, none⟩)) (hc : w.cell? ⟨b, off, none⟩ = some v) (h : K v w) : Step P ⟨d, .load T x, ty, ps, af, gd⟩ ρ w K :=
  st_val (v := v) (w' := w) (by simp [execOp, Instr.loadAt, Instr.sureAddr, hx, run_loadVar1 hT hc]) h

theorem st_loadK {T : TypeId} {x : Operand} {b off k : Nat} {cs : List Value} (hT : ∀ w, (isAgg T).run P w = .ok true w) (hs : ∀ w, (sizeOf T).run P w = .ok k w) (hx : ev ρ x = .pointer (some ⟨b, off, none⟩)) (hc : Cells w b off cs) (hl : cs.length = k) (h : K (.agg cs.toArray) w) : Step P ⟨d, .load T x, ty, ps, af, gd⟩ ρ w K :=
  st_val (v := .agg cs.toArray) (w' := w) (by simp [execOp, Instr.loadAt, Instr.sureAddr, hx, run_loadVarK hT hs hl hc]) h

theorem st_nilCheck {x : Operand} {p : Addr} (hx : ev ρ x = .pointer (some p)) (h : K (.pointer (some p)) w) : Step P ⟨d, .nilCheck x, ty, ps, af, gd⟩ ρ w K :=
  st_val (v := .pointer (some p)) (w' := w) (by simp [execOp, hx]) h

theorem st_extract {x : Operand} {vs : Array Value} {i : Nat} {v : Value} (hx : ev ρ x = .tuple vs) (hv : vs[i]? = some v) (h : K v w) : Step P ⟨d, .extract x i, ty, ps, af, gd⟩ ρ w K :=
  st_val (v := v) (w' := w) (by simp [execOp, Instr.extract, hx, hv]) h

theorem run_fieldAt {S f o : Nat} {fs : Array Field} {F : Field} {b off k : Nat} (hS : P.underlying S = some (.struct fs)) (hF : fs[f]? = some F) (ho : F.offset = o) (hs : ∀ w, (sizeOf F.type).run P w = .ok (k + 1) w) :
    (Instr.fieldAt S (.pointer (some ⟨b, off, none⟩)) f).run P w = .ok (.pointer (some ⟨b, off + o, none⟩)) w := by
  simp [Instr.fieldAt, run_underlying hS, hF, Instr.sureAddr, fieldPlace, hs, add_zero_addr, ho]

theorem st_fieldAddr {S f o : Nat} {x : Operand} {fs : Array Field} {F : Field} {b off k : Nat} (hx : ev ρ x = .pointer (some ⟨b, off, none⟩)) (hS : P.underlying S = some (.struct fs)) (hF : fs[f]? = some F) (ho : F.offset = o) (hs : ∀ w, (sizeOf F.type).run P w = .ok (k + 1) w)
    (h : K (.pointer (some ⟨b, off + o, none⟩)) w) : Step P ⟨d, .fieldAddr S x f, ty, ps, af, gd⟩ ρ w K :=
  st_val (v := .pointer (some ⟨b, off + o, none⟩)) (w' := w) (by simp [execOp, hx, run_fieldAt hS hF ho hs]) h

theorem st_indexAddrS {T E : TypeId} {x ix : Operand} {b off n cap k : Nat} {kd : IntKind} {i : Int} (hx : ev ρ x = .slice (some ⟨b, off, none⟩) n cap) (hi : ev ρ ix = .int kd i) (hT : P.underlying T = some (.slice E)) (hs : ∀ w, (sizeOf E).run P w = .ok k w) (h0 : 0 ≤ i) (h1 : i < n)
    (h : K (.pointer (some ⟨b, off + i.toNat * k, none⟩)) w) : Step P ⟨d, .indexAddr T x ix, ty, ps, af, gd⟩ ρ w K :=
  st_val (v := .pointer (some ⟨b, off + i.toNat * k, none⟩)) (w' := w) (by simp [execOp, Instr.indexAt, hx, hi, asIntOf, run_underlying hT, hs, h0, h1, add_zero_addr]) h

theorem st_indexAddrA {T E : TypeId} {x ix : Operand} {b off n k : Nat} {kd : IntKind} {i : Int} (hx : ev ρ x = .pointer (some ⟨b, off, none⟩)) (hi : ev ρ ix = .int kd i) (hT : P.underlying T = some (.array n E)) (hs : ∀ w, (sizeOf E).run P w = .ok k w) (h0 : 0 ≤ i) (h1 : i < n)
    (h : K (.pointer (some ⟨b, off + i.toNat * k, none⟩)) w) : Step P ⟨d, .indexAddr T x ix, ty, ps, af, gd⟩ ρ w K :=
  st_val (v := .pointer (some ⟨b, off + i.toNat * k, none⟩)) (w' := w) (by simp [execOp, Instr.indexAt, Instr.sureAddr, hx, hi, asIntOf, run_underlying hT, hs, h0, h1, add_zero_addr]) h

theorem st_not {x : Operand} {T : TypeId} {b : Bool} (hx : ev ρ x = .bool b) (h : K (.bool (!b)) w) : Step P ⟨d, .unOp .not T x, ty, ps, af, gd⟩ ρ w K :=
  st_val (v := .bool (!b)) (w' := w) (by simp [execOp, Op.unary, hx]) h

/-! whole numbers -/
theorem wr64 {x : Int} (h : -9223372036854775808 ≤ x ∧ x ≤ 9223372036854775807) : IntKind.i64.wrap x = x := by
  simp [IntKind.wrap, IntKind.bits, IntKind.signed]; omega
theorem wru64 {x : Int} (h : 0 ≤ x ∧ x ≤ 18446744073709551615) : IntKind.u64.wrap x = x := by
  simp [IntKind.wrap, IntKind.bits, IntKind.signed]; omega
theorem wru8 {x : Int} (h : 0 ≤ x ∧ x ≤ 255) : IntKind.u8.wrap x = x := by
  simp [IntKind.wrap, IntKind.bits, IntKind.signed]; omega
theorem wru32 {x : Int} (h : 0 ≤ x ∧ x ≤ 4294967295) : IntKind.u32.wrap x = x := by
  simp [IntKind.wrap, IntKind.bits, IntKind.signed]; omega

theorem st_int {op : BinOp} {x y : Operand} {T U : TypeId} {k : IntKind} {a b : Int} {v : Value} (hx : ev ρ x = .int k a) (hy : ev ρ y = .int k b)
    (hr : ∀ w, (binOp op T (.int k a) (.int k b)).run P w = .ok v w) (h : K v w) : Step P ⟨d, .binOp op T x y U, ty, ps, af, gd⟩ ρ w K := by
  refine st_val (v := v) (w' := w) ?_ h
  have hg : (eqGuard op T x y (.int k a) (.int k b)).run P w = .ok () w := by unfold eqGuard; split <;> simp
  simp [execOp, hx, hy, hg, hr]

section
variable {x y : Operand} {T U : TypeId} {k : IntKind} {a b c : Int}
theorem st_add (hx : ev ρ x = .int k a) (hy : ev ρ y = .int k b) (hc : k.wrap (a + b) = c) (h : K (.int k c) w) : Step P ⟨d, .binOp .add T x y U, ty, ps, af, gd⟩ ρ w K :=
  st_int hx hy (fun w => by simp [binOp, Op.intArith, hc]) h
theorem st_sub (hx : ev ρ x = .int k a) (hy : ev ρ y = .int k b) (hc : k.wrap (a - b) = c) (h : K (.int k c) w) : Step P ⟨d, .binOp .sub T x y U, ty, ps, af, gd⟩ ρ w K :=
  st_int hx hy (fun w => by simp [binOp, Op.intArith, hc]) h
theorem st_mul (hx : ev ρ x = .int k a) (hy : ev ρ y = .int k b) (hc : k.wrap (a * b) = c) (h : K (.int k c) w) : Step P ⟨d, .binOp .mul T x y U, ty, ps, af, gd⟩ ρ w K :=
  st_int hx hy (fun w => by simp [binOp, Op.intArith, hc]) h
theorem st_quo (hx : ev ρ x = .int k a) (hy : ev ρ y = .int k b) (hb : b ≠ 0) (hc : k.wrap (a.tdiv b) = c) (h : K (.int k c) w) : Step P ⟨d, .binOp .quo T x y U, ty, ps, af, gd⟩ ρ w K :=
  st_int hx hy (fun w => by simp [binOp, Op.intDiv, hb, hc]) h
theorem st_rem (hx : ev ρ x = .int k a) (hy : ev ρ y = .int k b) (hb : b ≠ 0) (hc : a.tmod b = c) (h : K (.int k c) w) : Step P ⟨d, .binOp .rem T x y U, ty, ps, af, gd⟩ ρ w K :=
  st_int hx hy (fun w => by simp [binOp, Op.intDiv, hb, hc]) h
theorem st_band (hx : ev ρ x = .int k a) (hy : ev ρ y = .int k b) (hc : k.wrap (BitVec.ofInt k.bits a &&& BitVec.ofInt k.bits b).toNat = c) (h : K (.int k c) w) : Step P ⟨d, .binOp .and T x y U, ty, ps, af, gd⟩ ρ w K :=
  st_int hx hy (fun w => by simp only [binOp, Op.intBits, ne_eq, not_true_eq_false, if_false]; rw [hc]; rfl) h
theorem st_bor (hx : ev ρ x = .int k a) (hy : ev ρ y = .int k b) (hc : k.wrap (BitVec.ofInt k.bits a ||| BitVec.ofInt k.bits b).toNat = c) (h : K (.int k c) w) : Step P ⟨d, .binOp .or T x y U, ty, ps, af, gd⟩ ρ w K :=
  st_int hx hy (fun w => by simp only [binOp, Op.intBits, ne_eq, not_true_eq_false, if_false]; rw [hc]; rfl) h
theorem st_bxor (hx : ev ρ x = .int k a) (hy : ev ρ y = .int k b) (hc : k.wrap (BitVec.ofInt k.bits a ^^^ BitVec.ofInt k.bits b).toNat = c) (h : K (.int k c) w) : Step P ⟨d, .binOp .xor T x y U, ty, ps, af, gd⟩ ρ w K :=
  st_int hx hy (fun w => by simp only [binOp, Op.intBits, ne_eq, not_true_eq_false, if_false]; rw [hc]; rfl) h
theorem st_bandn (hx : ev ρ x = .int k a) (hy : ev ρ y = .int k b) (hc : k.wrap (BitVec.ofInt k.bits a &&& ~~~(BitVec.ofInt k.bits b)).toNat = c) (h : K (.int k c) w) : Step P ⟨d, .binOp .andNot T x y U, ty, ps, af, gd⟩ ρ w K :=
  st_int hx hy (fun w => by simp only [binOp, Op.intBits, ne_eq, not_true_eq_false, if_false]; rw [hc]; rfl) h
theorem st_eql (hx : ev ρ x = .int k a) (hy : ev ρ y = .int k b) (h : K (.bool (decide (a = b))) w) : Step P ⟨d, .binOp .eql T x y U, ty, ps, af, gd⟩ ρ w K :=
  st_int hx hy (fun w => by simp only [binOp, Op.intCmp, ne_eq, not_true_eq_false, if_false]; rfl) h
theorem st_neq (hx : ev ρ x = .int k a) (hy : ev ρ y = .int k b) (h : K (.bool (!decide (a = b))) w) : Step P ⟨d, .binOp .neq T x y U, ty, ps, af, gd⟩ ρ w K :=
  st_int hx hy (fun w => by simp only [binOp, Op.intCmp, ne_eq, not_true_eq_false, if_false]; rfl) h
theorem st_lss (hx : ev ρ x = .int k a) (hy : ev ρ y = .int k b) (h : K (.bool (decide (a < b))) w) : Step P ⟨d, .binOp .lss T x y U, ty, ps, af, gd⟩ ρ w K :=
  st_int hx hy (fun w => by simp only [binOp, Op.intCmp, ne_eq, not_true_eq_false, if_false]; rfl) h
theorem st_leq (hx : ev ρ x = .int k a) (hy : ev ρ y = .int k b) (h : K (.bool (decide (a ≤ b))) w) : Step P ⟨d, .binOp .leq T x y U, ty, ps, af, gd⟩ ρ w K :=
  st_int hx hy (fun w => by simp only [binOp, Op.intCmp, ne_eq, not_true_eq_false, if_false]; rfl) h
theorem st_gtr (hx : ev ρ x = .int k a) (hy : ev ρ y = .int k b) (h : K (.bool (decide (b < a))) w) : Step P ⟨d, .binOp .gtr T x y U, ty, ps, af, gd⟩ ρ w K :=
  st_int hx hy (fun w => by simp only [binOp, Op.intCmp, ne_eq, not_true_eq_false, if_false]; rfl) h
theorem st_geq (hx : ev ρ x = .int k a) (hy : ev ρ y = .int k b) (h : K (.bool (decide (b ≤ a))) w) : Step P ⟨d, .binOp .geq T x y U, ty, ps, af, gd⟩ ρ w K :=
  st_int hx hy (fun w => by simp only [binOp, Op.intCmp, ne_eq, not_true_eq_false, if_false]; rfl) h
end

theorem st_shl {x y : Operand} {T U : TypeId} {k j : IntKind} {a b c : Int} (hx : ev ρ x = .int k a) (hy : ev ρ y = .int j b) (hb : 0 ≤ b) (hc : k.wrap (a * 2 ^ min b.toNat k.bits) = c) (h : K (.int k c) w) : Step P ⟨d, .binOp .shl T x y U, ty, ps, af, gd⟩ ρ w K := by
  refine st_val (v := .int k c) (w' := w) ?_ h
  have hg : (eqGuard .shl T x y (.int k a) (.int j b)).run P w = .ok () w := by unfold eqGuard; split <;> simp
  simp [execOp, hx, hy, hg, binOp, Op.shift, show ¬ b < 0 by omega, hc]
theorem st_shr {x y : Operand} {T U : TypeId} {k j : IntKind} {a b c : Int} (hx : ev ρ x = .int k a) (hy : ev ρ y = .int j b) (hb : 0 ≤ b) (hc : a.fdiv (2 ^ min b.toNat k.bits) = c) (h : K (.int k c) w) : Step P ⟨d, .binOp .shr T x y U, ty, ps, af, gd⟩ ρ w K := by
  refine st_val (v := .int k c) (w' := w) ?_ h
  have hg : (eqGuard .shr T x y (.int k a) (.int j b)).run P w = .ok () w := by unfold eqGuard; split <;> simp
  simp [execOp, hx, hy, hg, binOp, Op.shift, show ¬ b < 0 by omega, hc]

/-! other values held against each other -/
theorem st_bin {op : BinOp} {x y : Operand} {T U : TypeId} {u v r : Value} (hx : ev ρ x = u) (hy : ev ρ y = v) (hg : (eqGuard op T x y u v).run P w = .ok () w) (hr : (binOp op T u v).run P w = .ok r w') (h : K r w') : Step P ⟨d, .binOp op T x y U, ty, ps, af, gd⟩ ρ w K :=
  st_val (v := r) (w' := w') (by simp [execOp, hx, hy, hg, hr]) h

theorem st_eqlB {x y : Operand} {T U : TypeId} {a b : Bool} (hx : ev ρ x = .bool a) (hy : ev ρ y = .bool b) (hT : P.underlying T = some .bool) (h : K (.bool (a == b)) w) : Step P ⟨d, .binOp .eql T x y U, ty, ps, af, gd⟩ ρ w K :=
  st_bin hx hy (by simp [eqGuard]) (run_eql_bool w T a b hT) h
theorem st_neqB {x y : Operand} {T U : TypeId} {a b : Bool} (hx : ev ρ x = .bool a) (hy : ev ρ y = .bool b) (hT : P.underlying T = some .bool) (h : K (.bool (!(a == b))) w) : Step P ⟨d, .binOp .neq T x y U, ty, ps, af, gd⟩ ρ w K :=
  st_bin hx hy (by simp [eqGuard]) (run_neq_bool w T a b hT) h
theorem beq_toList (a b : ByteArray) : (a.toList == b.toList) = decide (a = b) := by
  rw [← beq_toListBytes]
  obtain ⟨a⟩ := a
  obtain ⟨b⟩ := b
  have : ((⟨a⟩ : ByteArray) == ⟨b⟩) = (a == b) := rfl
  rw [this]
  exact Bool.eq_iff_iff.2 (by simp)
theorem st_eqlS {x y : Operand} {T U : TypeId} {a b : ByteArray} (hx : ev ρ x = .string a) (hy : ev ρ y = .string b) (h : K (.bool (decide (a = b))) w) : Step P ⟨d, .binOp .eql T x y U, ty, ps, af, gd⟩ ρ w K :=
  st_bin (w' := w) hx hy (by simp [eqGuard]) (by simp only [binOp, Op.stringOp, beq_toList]; rfl) h
theorem st_neqS {x y : Operand} {T U : TypeId} {a b : ByteArray} (hx : ev ρ x = .string a) (hy : ev ρ y = .string b) (h : K (.bool (!decide (a = b))) w) : Step P ⟨d, .binOp .neq T x y U, ty, ps, af, gd⟩ ρ w K :=
  st_bin (w' := w) hx hy (by simp [eqGuard]) (by simp only [binOp, Op.stringOp, beq_toList]; rfl) h
theorem run_ptr0 {T E : TypeId} (hT : P.underlying T = some (.pointer E)) (p : Option Addr) : (binOp .eql T (.pointer p) (.pointer none)).run P w = .ok (.bool p.isNone) w ∧ (binOp .neq T (.pointer p) (.pointer none)).run P w = .ok (.bool p.isSome) w := by
  have h : (Op.equal T (.pointer p) (.pointer none)).run P w = .ok p.isNone w := by
    unfold Op.equal Op.maxDepth
    unfold Op.equalIn
    cases p <;> simp [run_underlying hT]
  constructor
  · simp only [binOp, Sem.run_bind, h, Result.andThen_ok, Sem.run_pure]
  · simp only [binOp, Sem.run_bind, h, Result.andThen_ok, Sem.run_pure]; cases p <;> rfl
theorem run_sl0 {T E : TypeId} (hT : P.underlying T = some (.slice E)) (o : Option Addr) (n cap : Nat) : (binOp .eql T (.slice o n cap) (.slice none 0 0)).run P w = .ok (.bool o.isNone) w := by
  have h : (Op.equal T (.slice o n cap) (.slice none 0 0)).run P w = .ok o.isNone w := by
    unfold Op.equal Op.maxDepth
    unfold Op.equalIn
    cases o <;> simp [run_underlying hT]
  simp only [binOp, Sem.run_bind, h, Result.andThen_ok, Sem.run_pure]
theorem st_eqlP0 {x y : Operand} {T U E : TypeId} {p : Option Addr} (hx : ev ρ x = .pointer p) (hy : ev ρ y = .pointer none) (hT : P.underlying T = some (.pointer E)) (h : K (.bool p.isNone) w) : Step P ⟨d, .binOp .eql T x y U, ty, ps, af, gd⟩ ρ w K :=
  st_bin (w' := w) hx hy (by simp [eqGuard]) (run_ptr0 hT p).1 h
theorem st_neqP0 {x y : Operand} {T U E : TypeId} {p : Option Addr} (hx : ev ρ x = .pointer p) (hy : ev ρ y = .pointer none) (hT : P.underlying T = some (.pointer E)) (h : K (.bool p.isSome) w) : Step P ⟨d, .binOp .neq T x y U, ty, ps, af, gd⟩ ρ w K :=
  st_bin (w' := w) hx hy (by simp [eqGuard]) (run_ptr0 hT p).2 h
theorem st_eqlS0 {x y : Operand} {T U E : TypeId} {o : Option Addr} {n cap : Nat} (hx : ev ρ x = .slice o n cap) (hy : ev ρ y = .slice none 0 0) (hT : P.underlying T = some (.slice E)) (h : K (.bool o.isNone) w) : Step P ⟨d, .binOp .eql T x y U, ty, ps, af, gd⟩ ρ w K :=
  st_bin (w' := w) hx hy (by simp [eqGuard]) (run_sl0 hT o n cap) h

theorem st_conv {x : Operand} {S D : TypeId} {ds : TypeDesc} {k j : IntKind} {a c : Int} (hx : ev ρ x = .int j a) (hS : P.underlying S = some ds) (hD : P.underlying D = some (.int k)) (hc : k.wrap a = c) (h : K (.int k c) w) : Step P ⟨d, .convert S D x, ty, ps, af, gd⟩ ρ w K :=
  st_val (v := .int k c) (w' := w) (by simp [execOp, convert, hx, run_underlying hS, run_underlying hD, Conv.intToInt, hc]) h

theorem st_run {o : Oper} {s : Sem Value} {v : Value} (he : execOp (ev ρ) o = (do pure (.value (← s)) : Sem Next)) (hr : s.run P w = .ok v w') (h : K v w') : Step P o ρ w K :=
  st_val (v := v) (w' := w') (by rw [he]; simp [hr]) h
theorem st_runU {o : Oper} {s : Sem Unit} (he : execOp (ev ρ) o = (do s; pure .skip : Sem Next)) (hr : s.run P w = .ok () w') (h : K undef w') : Step P o ρ w K := by
  unfold Step; rw [he]; simp [hr, StepR]; exact h

/-! builtins -/
theorem st_builtin {b : Builtin} {as : Array Operand} {ats : Array TypeId} {s : Sem Value} {v : Value}
    (hb : ∀ cs, builtin b ats ty cs (as.map (ev ρ)) = (do pure (.value (← s)) : Sem Next)) (hr : s.run P w = .ok v w') (h : K v w') : Step P ⟨d, .call { callee := .builtin b, args := as, argTypes := ats }, ty, ps, af, gd⟩ ρ w K := by
  refine st_val (v := v) (w' := w') ?_ h
  simp only [execOp, resolve, Sem.run_bind, Sem.run_pure, Result.andThen_ok, invoke, hb, hr]

theorem st_lenS {x : Operand} {T E : TypeId} {o : Option Addr} {n cap : Nat} (hx : ev ρ x = .slice o n cap) (hT : P.underlying T = some (.slice E)) (h : K (.int .i64 n) w) : Step P ⟨d, .call { callee := .builtin .len, args := #[x], argTypes := #[T] }, ty, ps, af, gd⟩ ρ w K :=
  st_builtin (s := Builtin.len_ #[T] ty #[.slice o n cap]) (w' := w) (fun cs => by simp [builtin, hx]) (by simp [Builtin.len_, run_underlying hT, goInt]) h
theorem st_lenStr {x : Operand} {T : TypeId} {s : ByteArray} (hx : ev ρ x = .string s) (hT : P.underlying T = some .string) (h : K (.int .i64 s.size) w) : Step P ⟨d, .call { callee := .builtin .len, args := #[x], argTypes := #[T] }, ty, ps, af, gd⟩ ρ w K :=
  st_builtin (s := Builtin.len_ #[T] ty #[.string s]) (w' := w) (fun cs => by simp [builtin, hx]) (by simp [Builtin.len_, run_underlying hT, goInt]) h
theorem st_min {x y : Operand} {T U : TypeId} {k j : IntKind} {a b : Int} (hx : ev ρ x = .int k a) (hy : ev ρ y = .int j b) (h : K (.int k (min a b)) w) : Step P ⟨d, .call { callee := .builtin .min, args := #[x, y], argTypes := #[T, U] }, ty, ps, af, gd⟩ ρ w K :=
  st_builtin (s := Builtin.min_ #[T, U] ty #[.int k a, .int j b]) (w' := w) (fun cs => by simp [builtin, hx, hy]) (by rw [run_min_int2, show (if b < a then b else a) = min a b by omega]) h
theorem st_max {x y : Operand} {T U : TypeId} {k j : IntKind} {a b : Int} (hx : ev ρ x = .int k a) (hy : ev ρ y = .int j b) (h : K (.int k (max a b)) w) : Step P ⟨d, .call { callee := .builtin .max, args := #[x, y], argTypes := #[T, U] }, ty, ps, af, gd⟩ ρ w K :=
  st_builtin (s := Builtin.max_ #[T, U] ty #[.int k a, .int j b]) (w' := w) (fun cs => by simp [builtin, hx, hy]) (by rw [run_max_int2, show (if b > a then b else a) = max a b by omega]) h

/-! calls -/
/-- what a call comes to: it returns, and R holds of what it returned -/
def Does (P : Program) (f : FuncId) (args : Array Value) (w : World) (R : Value → World → Prop) : Prop := Calls P f args w (fun e w' => ∃ v, e = .returned v ∧ R v w')
theorem Does.mono {f : FuncId} {args : Array Value} {R R' : Value → World → Prop} (h : Does P f args w R) (hr : ∀ v w, R v w → R' v w) : Does P f args w R' :=
  Calls.mono h fun _ _ ⟨v, he, hv⟩ => ⟨v, he, hr _ _ hv⟩

def Ent (P : Program) (f : FuncId) : Prop := ∀ args w, (callFunc f args).run P w = .ok (.enter f args) w
theorem ent_of {f : FuncId} {fn : Func} {c : Code} (hf : P.funcs[f]? = some fn) (hname : (fn.name == "runtime.NumGoroutine") = false) (hb : fn.body = some c) : Ent P f := by
  intro args w
  have h1 : fn.name ≠ "runtime.NumGoroutine" := by simpa using hname
  simp [callFunc, hf, h1, hb, mark]

theorem st_call {f : FuncId} {as : Array Operand} {ats : Array TypeId} {vs : Array Value} (he : Ent P f) (ha : as.map (ev ρ) = vs) (hc : Does P f vs w K) : Step P ⟨d, .call { callee := .value (.func f), args := as, argTypes := ats }, ty, ps, af, gd⟩ ρ w K := by
  unfold Step
  simp only [execOp, resolve, Sem.run_bind, Sem.run_pure, Result.andThen_ok, ha, ev, Deferred.ofValue, invoke, Array.append_empty, Array.empty_append, he vs w]
  exact hc
theorem st_call0 {f : FuncId} {ats : Array TypeId} (he : Ent P f) (hc : Does P f #[] w K) : Step P ⟨d, .call { callee := .value (.func f), args := #[], argTypes := ats }, ty, ps, af, gd⟩ ρ w K :=
  st_call (vs := #[]) he (by simp) hc
theorem st_call1 {f : FuncId} {a1 : Operand} {v1 : Value} {ats : Array TypeId} (he : Ent P f) (h1 : ev ρ a1 = v1) (hc : Does P f #[v1] w K) : Step P ⟨d, .call { callee := .value (.func f), args := #[a1], argTypes := ats }, ty, ps, af, gd⟩ ρ w K :=
  st_call he (by simp [h1]) hc
theorem st_call2 {f : FuncId} {a1 a2 : Operand} {v1 v2 : Value} {ats : Array TypeId} (he : Ent P f) (h1 : ev ρ a1 = v1) (h2 : ev ρ a2 = v2) (hc : Does P f #[v1, v2] w K) : Step P ⟨d, .call { callee := .value (.func f), args := #[a1, a2], argTypes := ats }, ty, ps, af, gd⟩ ρ w K :=
  st_call he (by simp [h1, h2]) hc
theorem st_call3 {f : FuncId} {a1 a2 a3 : Operand} {v1 v2 v3 : Value} {ats : Array TypeId} (he : Ent P f) (h1 : ev ρ a1 = v1) (h2 : ev ρ a2 = v2) (h3 : ev ρ a3 = v3) (hc : Does P f #[v1, v2, v3] w K) : Step P ⟨d, .call { callee := .value (.func f), args := #[a1, a2, a3], argTypes := ats }, ty, ps, af, gd⟩ ρ w K :=
  st_call he (by simp [h1, h2, h3]) hc
theorem st_call4 {f : FuncId} {a1 a2 a3 a4 : Operand} {v1 v2 v3 v4 : Value} {ats : Array TypeId} (he : Ent P f) (h1 : ev ρ a1 = v1) (h2 : ev ρ a2 = v2) (h3 : ev ρ a3 = v3) (h4 : ev ρ a4 = v4) (hc : Does P f #[v1, v2, v3, v4] w K) : Step P ⟨d, .call { callee := .value (.func f), args := #[a1, a2, a3, a4], argTypes := ats }, ty, ps, af, gd⟩ ρ w K :=
  st_call he (by simp [h1, h2, h3, h4]) hc
theorem st_callV {x : Operand} {f : FuncId} {first cap : Array Value} {as : Array Operand} {ats : Array TypeId} {vs : Array Value} (hx : ev ρ x = .func (.func f) first cap) (he : Ent P f) (ha : first ++ as.map (ev ρ) ++ cap = vs) (hc : Does P f vs w K) : Step P ⟨d, .call { callee := .value x, args := as, argTypes := ats }, ty, ps, af, gd⟩ ρ w K := by
  unfold Step
  simp only [execOp, resolve, Sem.run_bind, Sem.run_pure, Result.andThen_ok, hx, Deferred.ofValue, invoke, ha, he vs w]
  exact hc
end

/-! ### the ends of a function -/
def resV (rs : List Nat) (ρ : Env) : Value := match rs with | [t] => ρ t | _ => .tuple (rs.map ρ).toArray

def fin (rs : List Nat) (R : Value → World → Prop) (ρ : Env) (w : World) : Prop := R (resV rs ρ) w

theorem fin0 {R : Value → World → Prop} {ρ : Env} {w : World} (h : R (.tuple #[]) w) : fin [] R ρ w := h
theorem fin1 {t : Nat} {R : Value → World → Prop} {ρ : Env} {w : World} {v : Value} (hv : ev ρ (.tmp t) = v) (h : R v w) : fin [t] R ρ w := by
  show R (ρ t) w; rw [show ρ t = v from hv]; exact h
theorem fin2 {t u : Nat} {R : Value → World → Prop} {ρ : Env} {w : World} {v v' : Value} (hv : ev ρ (.tmp t) = v) (hv' : ev ρ (.tmp u) = v') (h : R (.tuple #[v, v']) w) : fin [t, u] R ρ w := by
  show R (.tuple #[ρ t, ρ u]) w; rw [show ρ t = v from hv, show ρ u = v' from hv']; exact h
theorem fin3 {t u s : Nat} {R : Value → World → Prop} {ρ : Env} {w : World} {v v' v'' : Value} (hv : ev ρ (.tmp t) = v) (hv' : ev ρ (.tmp u) = v') (hv'' : ev ρ (.tmp s) = v'') (h : R (.tuple #[v, v', v'']) w) : fin [t, u, s] R ρ w := by
  show R (.tuple #[ρ t, ρ u, ρ s]) w; rw [show ρ t = v from hv, show ρ u = v' from hv', show ρ s = v'' from hv'']; exact h

theorem fn_of_W {P : Program} {f : FuncId} {fn : Func} {c : Code} {args : Array Value} {w : World} {R : Value → World → Prop} {N : Nat} {rs : List Nat}
    (hf : P.funcs[f]? = some fn) (hb : fn.body = some c) (hN : fn.ntmps = N) (hr : fn.results = (rs.map ResultVar.tmp).toArray) (hs : args.size ≤ N)
    (h : ∀ ρ, (∀ t, ev ρ (.tmp t) = args.getD t undef) → W P N c (fin rs R) (fun _ _ _ => False) (fin rs R) ρ w) : Does P f args w R := by
  replace h : W P N c (fin rs R) (fun _ _ _ => False) (fin rs R) (fun t => args.getD t undef) w := h _ fun _ => rfl
  refine calls_of_wp hf hb ?_
  have hreal : Real N { tmps := args ++ Array.replicate (fn.ntmps - args.size) undef, defers := [] } (fun t => args.getD t undef) := by
    refine ⟨rfl, by simp; omega, fun t => ?_⟩
    simp only [Array.getD_eq_getD_getElem?]
    rw [Array.getElem?_append]
    split
    · rfl
    · rw [Array.getElem?_replicate, Array.getElem?_eq_none (by omega)]
      split <;> rfl
  refine wp_mono (h _ hreal) ?_
  intro e a w' ⟨ρ', hr', hq⟩
  have hres : (results fn a.tmps).run P w' = .ok (resV rs ρ') w' := by
    have hs : (fun t => a.tmps.getD t undef) = ρ' := funext hr'.slot
    have key : ∀ (l : List Nat), (l.mapM (m := Sem) fun t => pure (a.tmps.getD t undef)).run P w' = .ok (l.map ρ') w' := by
      intro l
      induction l with
      | nil => rfl
      | cons t l ih => rw [List.mapM_cons]; simp [← hs]
    unfold results
    rw [hr]
    simp only [List.mapM_toArray, Sem.run_bind, Sem.run_map, List.mapM_map]
    have : (fun x : Nat => (match ResultVar.tmp x with | .tmp t => pure (a.tmps.getD t undef) | .cell b t => do loadVar t (← asAddr (a.tmps.getD b undef)) : Sem Value)) = fun t => pure (a.tmps.getD t undef) := rfl
    first
      | rw [this, key]
      | (simp only [Function.comp_def]; rw [key])
    match rs with
    | [] => simp [resV]
    | [t] => simp [resV]
    | t :: u :: r => simp [resV]
  cases e <;> simp only [Ends, fin] at hq
  · exact ⟨hr'.defers, _, hres, _, rfl, hq⟩
  · exact ⟨hr'.defers, _, hres, _, rfl, hq⟩
end Go.Tw
