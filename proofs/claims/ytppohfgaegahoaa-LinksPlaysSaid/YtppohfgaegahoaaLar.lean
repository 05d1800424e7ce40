/- What follows from a Net and the document's standing alike: its links, its room, its order. -/
import Derived.Test.YtppohfgaegahoaaLap
namespace Go.Proofs.Ytppohfgaegahoaa
open Go.Tw Go.RowKit Go.Sort Go.Shelf

theorem few_of_counts : ∀ (n : Nat) (xs : List Nat), (∀ x ∈ xs, x < n) → (∀ c, xs.count c ≤ 8) → xs.length ≤ 8 * n
  | 0, [], _, _ => Nat.le_refl _
  | 0, x :: _, h, _ => absurd (h x (by simp)) (by omega)
  | n + 1, xs, h, hc => by
    have h1 := few_of_counts n (xs.filter fun x => x != n) (fun x hx => by
      have h2 := List.mem_filter.1 hx
      have := h x h2.1
      have h3 : x ≠ n := by simpa using h2.2
      omega) fun c => Nat.le_trans (List.Sublist.count_le c List.filter_sublist) (hc c)
    have h2 := hc n
    have h3 : xs.length = xs.count n + (xs.filter fun x => x != n).length := by
      rw [List.count_eq_countP, List.length_eq_countP_add_countP (fun x => x == n), List.countP_eq_length_filter (p := fun a => ¬ (a == n) = true)]
      congr 2
      refine List.filter_congr fun x _ => ?_
      by_cases e : x = n <;> simp [bne, e]
    omega

theorem same_fits {s : NetS} (hk : s.Ok) {x : RefS} (h : Same s x) : ∀ p ∈ x.items, fitsL p.1 = true := by
  intro p hp
  refine q_fits hk (l := p.1) ?_
  rw [h.q]
  intro e
  have : p.2 ∈ qOf x.items p.1 := List.mem_map.2 ⟨p, List.mem_filter.2 ⟨hp, by simp⟩, rfl⟩
  rw [e] at this
  simp at this

theorem same_few {s : NetS} (hk : s.Ok) {x : RefS} (h : Same s x) : x.items.length ≤ 8192 := by
  have hf := same_fits hk h
  have h1 := few_of_counts 1024 (x.items.map fun p => p.1.1.toNat * 32 + p.1.2.toNat) ?_ ?_
  · simpa using h1
  · intro y hy
    obtain ⟨p, hp, rfl⟩ := List.mem_map.1 hy
    have := fits_parts (hf p hp)
    omega
  · intro c
    rw [List.count_eq_countP, List.countP_map]
    refine Nat.le_trans (m := (qOf x.items ((((c / 32 : Nat) : Int)), ((c % 32 : Nat) : Int))).length) ?_ (by rw [← h.q]; exact hk.max _)
    unfold qOf
    rw [List.length_map, ← List.countP_eq_length_filter]
    refine List.countP_mono_left fun p hp he => ?_
    have := fits_parts (hf p hp)
    simp at he ⊢
    exact Prod.ext (by show p.1.1 = _; omega) (by show p.1.2 = _; omega)

/-- the links with messages, in order -/
def busyS (s : NetS) : List Lk := ((List.range 1024).map lkN).filter fun l => decide (0 < (s.q l).length)

theorem same_busy {s : NetS} {x : RefS} (h : Same s x) : busyS s = busyN x 1024 := by
  unfold busyS busyN
  refine List.filter_congr fun l _ => ?_
  rw [h.q]

def codeL (l : Lk) : Nat := l.1.toNat * 32 + l.2.toNat
theorem codeL_N {n : Nat} (h : n < 1024) : codeL (lkN n) = n := by
  unfold codeL lkN; dsimp only; omega
theorem lkN_code {l : Lk} (h : fitsL l = true) : lkN (codeL l) = l ∧ codeL l < 1024 := by
  have := fits_parts h
  unfold codeL lkN
  exact ⟨Prod.ext (by dsimp only; omega) (by dsimp only; omega), by omega⟩

theorem eq_of_codes {xs ys : List Lk} (hx : xs.Pairwise fun a b => codeL a < codeL b) (hy : ys.Pairwise fun a b => codeL a < codeL b) (h : ∀ l, l ∈ xs ↔ l ∈ ys) : xs = ys := by
  have hnx : xs.Nodup := hx.imp fun h e => by rw [e] at h; omega
  have hny : ys.Nodup := hy.imp fun h e => by rw [e] at h; omega
  have hp : xs.Perm ys := (List.perm_ext_iff_of_nodup hnx hny).2 h
  exact hp.eq_of_pairwise (fun a b _ _ h1 h2 => by omega) hx hy

theorem busyS_mem {s : NetS} (hk : s.Ok) {l : Lk} : l ∈ busyS s ↔ s.q l ≠ [] := by
  unfold busyS
  rw [List.mem_filter]
  constructor
  · intro ⟨_, h⟩ e
    rw [e] at h
    simp at h
  · intro h
    obtain ⟨h1, h2⟩ := lkN_code (q_fits hk h)
    exact ⟨List.mem_map.2 ⟨_, by simpa using h2, h1⟩, by simpa using List.length_pos_iff.2 h⟩

theorem busyS_sorted (s : NetS) : (busyS s).Pairwise fun a b => codeL a < codeL b := by
  unfold busyS
  refine List.Pairwise.filter _ ?_
  rw [List.pairwise_map]
  refine (List.pairwise_lt_range (n := 1024)).imp_of_mem fun {a b} ha hb h => ?_
  rw [codeL_N (by simpa using ha), codeL_N (by simpa using hb)]
  exact h

theorem sorted_busy {s : NetS} (hk : s.Ok) {d : Array FL} (hs : SortedIn (ltOf cfF) 0 d.size d) (hp : (d.toList.map toL).Perm (akeys s.of)) : d.toList.map toL = busyS s := by
  refine eq_of_codes ?_ (busyS_sorted s) fun l => ?_
  · have hn : (d.toList.map toL).Nodup := hp.nodup_iff.2 hk.nodup
    rw [List.pairwise_iff_getElem]
    intro i j hi hj hij
    have hi' : i < d.size := by simpa using hi
    have hj' : j < d.size := by simpa using hj
    have h1 := hs i j (Nat.zero_le _) hij hj'
    rw [ltF] at h1
    have h2 : (d.toList.map toL)[i] ≠ (d.toList.map toL)[j] := fun e => by
      have := (List.getElem_inj hn).1 e
      omega
    simp only [List.getElem_map, Array.getElem_toList] at h2 ⊢
    simp only [getElem!_pos d i hi', getElem!_pos d j hj', decide_eq_false_iff_not] at h1
    have h3 : ¬ (d[i].1.val = d[j].1.val ∧ d[i].2.val = d[j].2.val) := fun ⟨e1, e2⟩ => h2 (by unfold toL; rw [e1, e2])
    have := d[i].2.isLt
    have := d[j].2.isLt
    unfold codeL toL
    dsimp only
    omega
  · rw [hp.mem_iff, busyS_mem hk]
    constructor
    · intro h
      cases e : aget s.of l with
      | none => exact absurd h (aget_none.1 e)
      | some q => unfold NetS.q; rw [e]; exact hk.ne l q e
    · intro h
      cases e : aget s.of l with
      | none => exact absurd (by unfold NetS.q; rw [e]; rfl) h
      | some q => exact Classical.byContradiction fun hn => by rw [aget_none.2 hn] at e; cases e
end Go.Proofs.Ytppohfgaegahoaa
