/- slices.SortFunc at links: its row holds the same links, in order; nothing else turns. -/
import Derived.Test.YtppohfgaegahoaaSort
import Derived.Test.YtppohfgaegahoaaLi
import Derived.Sort.Grow
namespace Go.Proofs.Ytppohfgaegahoaa
open Go.Tw Go.RowKit Go.Sort Go.Shelf Go.Lib

abbrev FL := Fin 32 × Fin 32
def encF (x : FL) : List Value := [.int .i64 (x.1.val : Int), .int .i64 (x.2.val : Int)]
def cfF (x y : FL) : Int := if x.1 = y.1 then (x.2.val : Int) - y.2.val else (x.1.val : Int) - y.1.val

theorem ltF (x y : FL) : ltOf cfF x y = decide (x.1.val < y.1.val ∨ (x.1.val = y.1.val ∧ x.2.val < y.2.val)) := by
  unfold ltOf cfF
  by_cases h : x.1 = y.1
  · rw [if_pos h, h]; simp; omega
  · have : x.1.val ≠ y.1.val := fun e => h (Fin.ext e)
    rw [if_neg h]; simp [this]; omega

theorem swoF : SWO (ltOf cfF) where
  irrefl x := by rw [ltF]; simp
  trans x y z h1 h2 := by rw [ltF] at *; simp at *; omega
  ntrans x y z h1 h2 := by rw [ltF] at *; simp at *; omega

theorem w64 (z : Int) (h : -9223372036854775808 ≤ z ∧ z ≤ 9223372036854775807) : wrap64 z = z := by
  unfold wrap64
  omega

set_option maxHeartbeats 1000000 in
theorem closure38 (x y : FL) (W : World) : Calls Try.prog 38 #[.agg #[.int .i64 (x.1.val : Int), .int .i64 (x.2.val : Int)], .agg #[.int .i64 (y.1.val : Int), .int .i64 (y.2.val : Int)]] W fun e w' => e = .returned (.int .i64 (cfF x y)) ∧ ∃ q os', w' = grow (W.drewN q) os' := by
  obtain ⟨x1, x2⟩ := x
  obtain ⟨y1, y2⟩ := y
  have hx1 := x1.isLt; have hx2 := x2.isLt; have hy1 := y1.isLt; have hy2 := y2.isLt
  by_cases h : x1 = y1
  · have hc : cfF (x1, x2) (y1, y2) = wrap64 ((x2.val : Int) - y2.val) := by
      unfold cfF; rw [if_pos h]; exact (w64 _ (by omega)).symm
    rw [hc]
    have he : ((x1.val : Int) == (y1.val : Int)) = true := by simp [h]
    clear hc h
    generalize (x1.val : Int) = a at *
    generalize (x2.val : Int) = b at *
    generalize (y1.val : Int) = c at *
    generalize (y2.val : Int) = e at *
    go_enter Try.func38, Try.ntmps38
    go_wp2
    go_ret
    exact ⟨rfl, 0, _, by rw [alloc_eq_grow, alloc_eq_grow, grow_grow]; rfl⟩
  · have hc : cfF (x1, x2) (y1, y2) = wrap64 ((x1.val : Int) - y1.val) := by
      unfold cfF; rw [if_neg h]; exact (w64 _ (by omega)).symm
    rw [hc]
    have he : ((x1.val : Int) == (y1.val : Int)) = false := beq_eq_false_iff_ne.2 fun e => h (Fin.ext (by omega))
    clear hc h
    generalize (x1.val : Int) = a at *
    generalize (x2.val : Int) = b at *
    generalize (y1.val : Int) = c at *
    generalize (y2.val : Int) = e at *
    go_enter Try.func38, Try.ntmps38
    go_wp2
    go_ret
    exact ⟨rfl, 0, _, by rw [alloc_eq_grow, alloc_eq_grow, grow_grow]; rfl⟩

theorem cmpLays38 (blk off size : Nat) (w : World) : CmpLays Try.prog 38 #[] encF 2 cfF blk off size w := fun _ _ _ _ x y => closure38 x y _

def lk2 (l : Lk) : List Value := [.int .i64 l.1, .int .i64 l.2]
def lkC (ks : List Lk) : List Value := ks.flatMap lk2
def toL (x : FL) : Lk := ((x.1.val : Int), (x.2.val : Int))

theorem lkC_len (ks : List Lk) : (lkC ks).length = ks.length * 2 := by
  induction ks with
  | nil => rfl
  | cons l ks ih =>
    have : lkC (l :: ks) = lk2 l ++ lkC ks := by simp [lkC]
    rw [this, List.length_append, ih]; simp [lk2]; omega
theorem lkC_get : ∀ (ks : List Lk) (i c : Nat) (h : i < ks.length), c < 2 → (lkC ks)[i * 2 + c]? = (lk2 ks[i])[c]?
  | [], i, c, h, _ => by simp at h
  | l :: ks, 0, c, h, hc => by
    have : lkC (l :: ks) = lk2 l ++ lkC ks := by simp [lkC]
    rw [this, Nat.zero_mul, Nat.zero_add, List.getElem?_append_left (by simp [lk2]; omega)]
    rfl
  | l :: ks, i + 1, c, h, hc => by
    have : lkC (l :: ks) = lk2 l ++ lkC ks := by simp [lkC]
    rw [this, show (i + 1) * 2 + c = 2 + (i * 2 + c) by omega, List.getElem?_append_right (by simp [lk2])]
    have h2 := lkC_get ks i c (by simpa using h) hc
    simp only [lk2, List.length_cons, List.length_nil] at h2 ⊢
    rw [show 2 + (i * 2 + c) - (0 + 1 + 1) = i * 2 + c by omega]
    simpa [lk2] using h2

theorem sort_ok {base g cap : Nat} (w : World) (d : Array FL) (hown : Own base w 29 2 (.slice (some ⟨g, 0, none⟩) d.size cap) d.size (lkC (d.toList.map toL))) (hsz : d.size ≤ 1024) :
    Does Try.prog 37 #[.slice (some ⟨g, 0, none⟩) d.size cap, .func (.func 38) #[] #[]] w (fun v w' => v = .tuple #[] ∧ Frm (fun k => k = g) w w' ∧ ∃ d' : Array FL, SortedIn (ltOf cfF) 0 d.size d' ∧ d'.toList.Perm d.toList ∧ d'.size = d.size ∧ SlV AnyB w' (.slice (some ⟨g, 0, none⟩) d.size cap) d.size 2 (lkC (d'.toList.map toL))) := by
  have eg : ∀ args w, (callFunc 38 args).run Try.prog w = .ok (.enter 38 args) w := enters_of Try.func38 (by kernel_rfl) rfl
  obtain ⟨cur, hheap⟩ : ∃ cur, w.heap[g]? = some (.cells cur 29 (0, 0)) := by
    rcases hown.2 with ⟨h, _⟩ | ⟨g', cp, cur, he, _, hh, _⟩
    · cases h
    · cases he; exact ⟨cur, hh⟩
  have hlt : g < w.heap.size := (Array.getElem?_eq_some_iff.1 hheap).1
  have hcells : d.size ≠ 0 → Cells w g 0 (lkC (d.toList.map toL)) := fun h0 => by
    obtain ⟨o, cp, hv, _, hc⟩ := hown.sl
    cases hv
    obtain ⟨b, off, ho, _, hcs⟩ := hc (by omega)
    cases ho; exact hcs
  have hH : HoldsK encF 2 w g 0 d := by
    intro j hj
    rw [size_flatK] at hj
    refine ⟨?_, ?_⟩
    · rw [get_flatK _ _ _ _ hj]
      have hi : j / 2 < (d.toList.map toL).length := by simp; omega
      have h1 := lkC_get (d.toList.map toL) (j / 2) (j % 2) hi (Nat.mod_lt _ (by omega))
      rw [show j / 2 * 2 + j % 2 = j by omega] at h1
      have hi' : j / 2 < d.size := by omega
      have h2 : (lk2 (d.toList.map toL)[j / 2])[j % 2]? = some ((encF d[j / 2]!)[j % 2]!) := by
        rw [getElem!_pos d (j / 2) hi']
        have : (d.toList.map toL)[j / 2] = toL d[j / 2] := by simp
        rw [this]
        have hm : j % 2 = 0 ∨ j % 2 = 1 := by omega
        rcases hm with hm | hm <;> rw [hm] <;> rfl
      exact hcells (by omega) j _ (h1.trans h2)
    · simp [World.frozen?, hheap]
  have hcon := AnyQ.slices_SortFunc Try.sortL 2 Try.isAgg29 Try.sizeOf29 encF (fun _ => rfl) (fun x v hv => by simp [encF] at hv; rcases hv with rfl | rfl <;> rfl) cfF swoF 38 #[] g 0 cap d w eg (cmpLays38 g 0 d.size w) hH hlt (by omega)
  change Calls Try.prog 37 _ _ _ at hcon
  unfold Does
  refine hcon.mono fun e w' ⟨he, d', n, os, hp, hs, hw⟩ => ⟨_, he, rfl, ?_, d', hs, ?_, hp.1, ?_⟩
  · subst hw
    refine ⟨rfl, rfl, rfl, ?_, fun k hk hx => ?_⟩
    · simp [sortWorldK, putRowK, putRow, mapBlock, grow, Sort.ahead]
    · have hne : g ≠ k := fun e => hx e.symm
      show ((w.heap.modify g _) ++ os)[k]? = w.heap[k]?
      rw [Array.getElem?_append_left (by simpa using hk), Array.getElem?_modify, if_neg hne]
  · have h3 := hp.2.2
    have hps := hp.1
    rw [Array.extract_eq_self_of_le (by omega), Array.extract_eq_self_of_le (by omega)] at h3
    exact h3
  · have hH' : HoldsK encF 2 w' g 0 d' := by rw [hw]; exact holdsK_sortWorldK encF 2 w g 0 n d d' os hlt hH hp.1
    refine ⟨_, cap, rfl, by rw [lkC_len]; simp [hp.1], fun _ => ⟨g, 0, rfl, trivial, fun j v hv => ?_⟩⟩
    have hj : j < (lkC (d'.toList.map toL)).length := (List.getElem?_eq_some_iff.1 hv).1
    rw [lkC_len] at hj
    have hi : j / 2 < (d'.toList.map toL).length := by omega
    have h1 := lkC_get (d'.toList.map toL) (j / 2) (j % 2) hi (Nat.mod_lt _ (by omega))
    rw [show j / 2 * 2 + j % 2 = j by omega, hv] at h1
    have hi' : j / 2 < d'.size := by simpa using hi
    have h2 := (hH'.cell hi' (Nat.mod_lt j (show 0 < 2 by omega))).1
    rw [show 0 + j / 2 * 2 + j % 2 = 0 + j by omega] at h2
    rw [h2]
    have h3 : (lk2 (d'.toList.map toL)[j / 2])[j % 2]? = some ((encF d'[j / 2]!)[j % 2]!) := by
      rw [getElem!_pos d' (j / 2) hi']
      have : (d'.toList.map toL)[j / 2] = toL d'[j / 2] := by simp
      rw [this]
      have hm : j % 2 = 0 ∨ j % 2 = 1 := by omega
      rcases hm with hm | hm <;> rw [hm] <;> rfl
    exact (h1.trans h3).symm
end Go.Proofs.Ytppohfgaegahoaa
