/- Plain laws: what calls keep of a Net; how often a message lies on a link. -/
import Derived.Test.YtppohfgaegahoaaLb
import Derived.Test.YtppohfgaegahoaaTwj
namespace Go.Proofs.Ytppohfgaegahoaa
open Go.Tw Go.RowKit

theorem q_of {s s' : NetS} (h : s'.of = s.of) (l : Lk) : s'.q l = s.q l := by unfold NetS.q; rw [h]
theorem q_aset {s : NetS} {l l' : Lk} {q : List Msg} : ({ s with of := aset s.of l q } : NetS).q l' = if l = l' then q else s.q l' := by
  unfold NetS.q; dsimp only; rw [aget_aset]; split <;> rfl
theorem q_adel {s : NetS} {l l' : Lk} (hn : (akeys s.of).Nodup) : ({ s with of := adel s.of l } : NetS).q l' = if l = l' then [] else s.q l' := by
  unfold NetS.q; dsimp only; rw [aget_adel hn]; split <;> rfl
theorem aget_filter {κ α : Type} [DecidableEq κ] {l : List (κ × α)} {f : κ → Bool} {a : κ} : aget (l.filter fun x => f x.1) a = if f a = true then aget l a else none := by
  induction l with
  | nil => simp [aget]
  | cons p l ih =>
    rw [List.filter_cons]
    by_cases hp : f p.1 = true
    · rw [if_pos hp]
      simp only [aget]
      by_cases e : p.1 = a
      · rw [if_pos e, if_pos e]; rw [e] at hp; rw [if_pos hp]
      · rw [if_neg e, if_neg e, ih]
    · rw [if_neg hp, ih]
      simp only [aget]
      by_cases e : p.1 = a
      · rw [e] at hp; rw [if_neg hp, if_neg hp]
      · rw [if_neg e]

theorem q_cut {s : NetS} (hk : s.Ok) {l l' : Lk} {i : Nat} : (s.cut l i).q l' = if l = l' then (s.q l).eraseIdx i else s.q l' := by
  unfold NetS.cut
  split
  · rename_i he
    rw [q_adel hk.nodup, he]
  · rw [q_aset]
theorem aget_forget {s : NetS} {p : Int} {l : Lk} : aget (s.forget p).of l = if (!hitsL p l) = true then aget s.of l else none := aget_filter (f := fun a => !hitsL p a)
theorem q_forget {s : NetS} {p : Int} {l : Lk} : (s.forget p).q l = if hitsL p l = true then [] else s.q l := by
  unfold NetS.q
  rw [aget_forget]
  cases hitsL p l <;> simp

theorem NetS.Ok.of {s s' : NetS} (hk : s.Ok) (h : s'.of = s.of) : s'.Ok :=
  ⟨by rw [h]; exact hk.nodup, by rw [h]; exact hk.fits, by rw [h]; exact hk.ne, fun l => by rw [q_of h]; exact hk.max l, fun l => by rw [q_of h]; exact hk.short l⟩
theorem NetS.Ok.set {s : NetS} (hk : s.Ok) {l : Lk} {q : List Msg} (hf : fitsL l = true) (hq : q ≠ []) (hl : q.length ≤ 8) (hm : ∀ m ∈ q, m.length ≤ 8192) : ({ s with of := aset s.of l q } : NetS).Ok := by
  refine ⟨nodup_aset hk.nodup, fun l' h => ?_, fun l' q' h => ?_, fun l' => ?_, fun l' m hmm => ?_⟩
  · rw [aget_aset] at h
    split at h
    · rename_i e; rw [← e]; exact hf
    · exact hk.fits l' h
  · rw [aget_aset] at h
    split at h
    · cases h; exact hq
    · exact hk.ne l' q' h
  · rw [q_aset]; split
    · exact hl
    · exact hk.max l'
  · rw [q_aset] at hmm; split at hmm
    · exact hm m hmm
    · exact hk.short l' m hmm
theorem NetS.Ok.cut {s : NetS} (hk : s.Ok) {l : Lk} {i : Nat} (hf : fitsL l = true) : (s.cut l i).Ok := by
  unfold NetS.cut
  split
  · refine ⟨nodup_adel hk.nodup, fun l' h => ?_, fun l' q' h => ?_, fun l' => ?_, fun l' m hmm => ?_⟩
    · rw [aget_adel hk.nodup] at h
      split at h
      · cases h
      · exact hk.fits l' h
    · rw [aget_adel hk.nodup] at h
      split at h
      · cases h
      · exact hk.ne l' q' h
    · rw [q_adel hk.nodup]; split
      · simp
      · exact hk.max l'
    · rw [q_adel hk.nodup] at hmm; split at hmm
      · simp at hmm
      · exact hk.short l' m hmm
  · rename_i he
    refine hk.set hf he (Nat.le_trans (List.length_eraseIdx_le _ _) (hk.max l)) fun m hm => hk.short l m (List.mem_of_mem_eraseIdx hm)
theorem NetS.Ok.forget {s : NetS} (hk : s.Ok) {p : Int} : (s.forget p).Ok := by
  have hsub : ∀ l q, aget (s.forget p).of l = some q → aget s.of l = some q := by
    intro l q h
    rw [aget_forget] at h
    split at h
    · exact h
    · cases h
  refine ⟨hk.nodup.sublist (List.Sublist.map _ List.filter_sublist), fun l h => ?_, fun l q h => hk.ne l q (hsub l q h), fun l => ?_, fun l m hm => ?_⟩
  · obtain ⟨q, hq⟩ := Option.isSome_iff_exists.1 h
    exact hk.fits l (by rw [hsub l q hq]; rfl)
  · rw [q_forget]; split
    · simp
    · exact hk.max l
  · rw [q_forget] at hm; split at hm
    · simp at hm
    · exact hk.short l m hm

theorem able_parts {s : NetS} {l : Lk} {i : Int} (h : s.able l i = true) : fitsL l = true ∧ 0 ≤ i ∧ i < (s.q l).length := by
  have : (fitsL l = true ∧ 0 ≤ i) ∧ i < (s.q l).length := by simpa [NetS.able] using h
  exact ⟨this.1.1, this.1.2, this.2⟩
theorem getD_mem {q : List Msg} {i : Nat} (h : i < q.length) : q.getD i [] ∈ q := by
  rw [show q.getD i [] = q[i] by simp [List.getD, h]]; exact List.getElem_mem _

theorem NetS.Ok.send {s : NetS} (hk : s.Ok) {l : Lk} {b : Msg} : (s.send l b).1.Ok := by
  unfold NetS.send
  by_cases h1 : fitsL l = false
  · rw [if_pos h1]; exact hk
  · rw [if_neg h1]
    by_cases h2 : 8192 < b.length
    · rw [if_pos h2]; exact hk
    · rw [if_neg h2]
      by_cases h3 : 8 ≤ (s.q l).length
      · rw [if_pos h3]; exact hk.of rfl
      · rw [if_neg h3]
        refine hk.set (by simpa using h1) (by simp) (by simp; omega) fun m hm => ?_
        rcases List.mem_append.1 hm with h | h
        · exact hk.short l m h
        · simp at h; subst h; omega
theorem NetS.Ok.double {s : NetS} (hk : s.Ok) {l : Lk} {i : Int} : (s.double l i).1.Ok := by
  unfold NetS.double
  by_cases h1 : s.able l i = false
  · rw [if_pos h1]; exact hk
  · rw [if_neg h1]
    obtain ⟨hf, h0, hi⟩ := able_parts (by simpa using h1)
    by_cases h3 : 8 ≤ (s.q l).length
    · rw [if_pos h3]; exact hk
    · rw [if_neg h3]
      refine hk.set hf (by simp) (by simp; omega) fun m hm => ?_
      rcases List.mem_append.1 hm with h | h
      · exact hk.short l m h
      · simp only [List.mem_singleton] at h; subst h; exact hk.short l _ (getD_mem (by omega))
theorem NetS.Ok.take {s : NetS} (hk : s.Ok) {l : Lk} {i : Int} : (s.take l i).1.Ok := by
  unfold NetS.take
  by_cases h1 : s.able l i = false
  · rw [if_pos h1]; exact hk
  · rw [if_neg h1]; exact hk.cut (able_parts (by simpa using h1)).1
theorem NetS.Ok.lose {s : NetS} (hk : s.Ok) {l : Lk} {i : Int} : (s.lose l i).1.Ok := by
  unfold NetS.lose
  by_cases h1 : s.able l i = false
  · rw [if_pos h1]; exact hk
  · rw [if_neg h1]; exact hk.cut (able_parts (by simpa using h1)).1
theorem NetS.Ok.does {s : NetS} (hk : s.Ok) (k : DoS) : (s.does k).1.Ok := by
  unfold NetS.does
  repeat' split
  · exact hk.take
  · exact hk.lose
  · exact hk.double
  · exact hk.of rfl
  · exact hk.forget
  · exact hk.send
theorem netOk_new : (⟨[], 0, 0⟩ : NetS).Ok := ⟨by simp [akeys], fun l h => by simp [aget] at h, fun l q h => by simp [aget] at h, fun l => by simp [NetS.q, aget], fun l m h => by simp [NetS.q, aget] at h⟩

/-! ### how often -/
def Inv (s : NetS) (c : List ((Lk × Msg) × Int)) (n : Int) : Prop := ∀ l m, ((s.q l).count m : Int) ≤ cg c (l, m) ∧ cg c (l, m) ≤ n

theorem Inv.pos {s : NetS} {c : List ((Lk × Msg) × Int)} {n : Int} (h : Inv s c n) (a : Lk × Msg) : 0 ≤ cg c a ∧ cg c a ≤ n := by
  obtain ⟨a1, a2⟩ := a
  have := h a1 a2
  exact ⟨by omega, this.2⟩
theorem Inv.grow {s s' : NetS} {c : List ((Lk × Msg) × Int)} {n : Int} (h : Inv s c n) {l : Lk} {m : Msg} (hq : ∀ l', s'.q l' = if l = l' then s.q l ++ [m] else s.q l') : Inv s' (aset c (l, m) (cg c (l, m) + 1)) (n + 1) := by
  intro l' m'
  rw [hq, cg_aset]
  have h1 := h l' m'
  have h2 := h l m
  by_cases e : l = l'
  · subst e
    rw [if_pos rfl, List.count_append, List.count_singleton]
    by_cases e2 : m = m'
    · subst e2; rw [if_pos rfl]; simp; omega
    · have hne : ¬ ((l, m) : Lk × Msg) = (l, m') := fun e => e2 (by injection e)
      rw [if_neg (by simpa using e2), if_neg hne]; omega
  · rw [if_neg e, if_neg (by simp [e])]; omega
theorem Inv.less {s s' : NetS} {c : List ((Lk × Msg) × Int)} {n : Int} (h : Inv s c n) (hq : ∀ l m, (s'.q l).count m ≤ (s.q l).count m) : Inv s' c (n + 1) := by
  intro l m
  have h1 := h l m
  have h2 := hq l m
  omega
theorem count_erase : ∀ (q : List Msg) (i : Nat) (m m' : Msg), q[i]? = some m → q.count m' = (q.eraseIdx i).count m' + if m = m' then 1 else 0
  | [], _, _, _, h => by simp at h
  | x :: q, 0, m, m', h => by
    simp at h; subst h
    rw [List.eraseIdx_cons_zero, List.count_cons]
    by_cases e : x = m' <;> simp [e]
  | x :: q, i + 1, m, m', h => by
    have := count_erase q i m m' (by simpa using h)
    rw [List.eraseIdx_cons_succ, List.count_cons, List.count_cons, this]; omega
theorem Inv.drop {s s' : NetS} {c : List ((Lk × Msg) × Int)} {n : Int} (h : Inv s c n) {l : Lk} {m : Msg} {i : Nat} (hm : (s.q l)[i]? = some m) (hq : ∀ l', s'.q l' = if l = l' then (s.q l).eraseIdx i else s.q l') :
    Inv s' (aset c (l, m) (cg c (l, m) - 1)) (n + 1) ∧ 0 ≤ cg c (l, m) - 1 := by
  have h0 := h l m
  have hc0 := count_erase (s.q l) i m m hm
  rw [if_pos rfl] at hc0
  refine ⟨fun l' m' => ?_, by omega⟩
  rw [hq, cg_aset]
  have h1 := h l' m'
  by_cases e : l = l'
  · subst e
    rw [if_pos rfl]
    have hc := count_erase (s.q l) i m m' hm
    by_cases e2 : m = m'
    · subst e2; rw [if_pos rfl]; omega
    · rw [if_neg (by simp [e2])]; rw [if_neg e2] at hc; omega
  · rw [if_neg e, if_neg (by simp [e])]; omega
theorem Inv.cut {s : NetS} (hk : s.Ok) {c : List ((Lk × Msg) × Int)} {n : Int} (h : Inv s c n) {l : Lk} {i : Nat} : Inv (s.cut l i) c (n + 1) := h.less fun l' m => by
  rw [q_cut hk]; split
  · rename_i e; subst e; exact (List.eraseIdx_sublist _ _).count_le _
  · exact Nat.le_refl _
theorem Inv.same {s s' : NetS} {c : List ((Lk × Msg) × Int)} {n : Int} (h : Inv s c n) (hq : s'.of = s.of) : Inv s' c (n + 1) := h.less fun l m => by rw [q_of hq]; exact Nat.le_refl _
theorem Inv.new : Inv ⟨[], 0, 0⟩ [] 0 := fun l m => by simp [NetS.q, aget, cg]

theorem opN_bounds (x : Int) : 0 ≤ opN x ∧ opN x ≤ 8 := by
  unfold opN
  have h0 : 0 ≤ IntKind.u64.wrap x ∧ IntKind.u64.wrap x < 18446744073709551616 := by simp [IntKind.wrap, IntKind.bits, IntKind.signed]; omega
  have h1 : (IntKind.u64.wrap x).tmod 9 = IntKind.u64.wrap x % 9 := Int.tmod_eq_emod_of_nonneg h0.1
  rw [h1, wr64 (by omega)]
  omega

theorem inv_send {s : NetS} {c : List ((Lk × Msg) × Int)} {n : Int} (h : Inv s c n) {k : DoS} (ho : opN k.op < 3) (he : (s.does k).2.2 = 0) : Inv (s.does k).1 (aset c (k.l, k.b) (cg c (k.l, k.b) + 1)) (n + 1) := by
  have hd : s.does k = ((s.send k.l k.b).1, none, (s.send k.l k.b).2) := by
    unfold NetS.does; rw [if_neg (by omega), if_neg (by omega), if_neg (by omega), if_neg (by omega), if_neg (by omega)]
  rw [hd] at he ⊢
  dsimp only at he ⊢
  unfold NetS.send at he ⊢
  by_cases h1 : fitsL k.l = false
  · rw [if_pos h1] at he; simp at he
  · rw [if_neg h1] at he ⊢
    by_cases h2 : 8192 < k.b.length
    · rw [if_pos h2] at he; simp at he
    · rw [if_neg h2] at he ⊢
      by_cases h3 : 8 ≤ (s.q k.l).length
      · rw [if_pos h3] at he; simp at he
      · rw [if_neg h3]; exact h.grow fun l' => q_aset

theorem inv_double {s : NetS} {c : List ((Lk × Msg) × Int)} {n : Int} (h : Inv s c n) {k : DoS} (ho : opN k.op = 6) (he : (s.does k).2.2 = 0) :
    (s.does k).1.able k.l k.i = true ∧ Inv (s.does k).1 (aset c (k.l, ((s.does k).1.q k.l).getD k.i.toNat []) (cg c (k.l, ((s.does k).1.q k.l).getD k.i.toNat []) + 1)) (n + 1) := by
  have hd : s.does k = ((s.double k.l k.i).1, none, (s.double k.l k.i).2) := by
    unfold NetS.does; rw [if_neg (by omega), if_neg (by omega), if_pos ho]
  rw [hd] at he ⊢
  dsimp only at he ⊢
  unfold NetS.double at he ⊢
  by_cases h1 : s.able k.l k.i = false
  · rw [if_pos h1] at he; simp at he
  · rw [if_neg h1] at he ⊢
    obtain ⟨hf, h0, hi⟩ := able_parts (by simpa using h1)
    by_cases h3 : 8 ≤ (s.q k.l).length
    · rw [if_pos h3] at he; simp at he
    · rw [if_neg h3]
      dsimp only
      have hg : (s.q k.l ++ [(s.q k.l).getD k.i.toNat []]).getD k.i.toNat [] = (s.q k.l).getD k.i.toNat [] := by
        simp only [List.getD]
        rw [List.getElem?_append_left (by omega)]
      rw [q_aset, if_pos rfl, hg]
      refine ⟨?_, h.grow fun l' => q_aset⟩
      unfold NetS.able
      rw [q_aset, if_pos rfl]
      simp [hf, h0]; omega

theorem inv_take {s : NetS} (hk : s.Ok) {c : List ((Lk × Msg) × Int)} {n : Int} (h : Inv s c n) {k : DoS} {m : Msg} (hm : (s.does k).2.1 = some m) :
    Inv (s.does k).1 (aset c (k.l, m) (cg c (k.l, m) - 1)) (n + 1) ∧ 0 ≤ cg c (k.l, m) - 1 := by
  by_cases ho : opN k.op = 3 ∨ opN k.op = 4
  · have hd : s.does k = s.take k.l k.i := by unfold NetS.does; rw [if_pos ho]
    rw [hd] at hm ⊢
    unfold NetS.take at hm ⊢
    by_cases h1 : s.able k.l k.i = false
    · rw [if_pos h1] at hm; simp at hm
    · rw [if_neg h1] at hm ⊢
      dsimp only at hm ⊢
      split at hm
      · exact h.drop hm fun l' => q_cut hk
      · cases hm
  · exfalso
    unfold NetS.does at hm
    rw [if_neg ho] at hm
    repeat' split at hm
    all_goals simp at hm

theorem inv_other {s : NetS} (hk : s.Ok) {c : List ((Lk × Msg) × Int)} {n : Int} (h : Inv s c n) {k : DoS} (h1 : ¬ (opN k.op < 3 ∧ (s.does k).2.2 = 0)) (h2 : ¬ (opN k.op = 6 ∧ (s.does k).2.2 = 0)) : Inv (s.does k).1 c (n + 1) := by
  have hb := opN_bounds k.op
  unfold NetS.does at h1 h2 ⊢
  by_cases o3 : opN k.op = 3 ∨ opN k.op = 4
  · rw [if_pos o3]
    unfold NetS.take
    by_cases ha : s.able k.l k.i = false
    · rw [if_pos ha]; exact h.same rfl
    · rw [if_neg ha]; exact h.cut hk
  · rw [if_neg o3] at h1 h2 ⊢
    by_cases o5 : opN k.op = 5
    · rw [if_pos o5]
      unfold NetS.lose
      by_cases ha : s.able k.l k.i = false
      · rw [if_pos ha]; exact h.same rfl
      · rw [if_neg ha]; exact h.cut hk
    · rw [if_neg o5] at h1 h2 ⊢
      by_cases o6 : opN k.op = 6
      · rw [if_pos o6] at h2 ⊢
        replace h2 : ¬ (s.double k.l k.i).2 = 0 := fun e => h2 ⟨o6, e⟩
        unfold NetS.double at h2 ⊢
        by_cases ha : s.able k.l k.i = false
        · rw [if_pos ha]; exact h.same rfl
        · rw [if_neg ha] at h2 ⊢
          by_cases h3 : 8 ≤ (s.q k.l).length
          · rw [if_pos h3]; exact h.same rfl
          · rw [if_neg h3] at h2; exact absurd rfl h2
      · rw [if_neg o6] at h1 ⊢
        by_cases o7 : opN k.op = 7
        · rw [if_pos o7]; exact h.same rfl
        · rw [if_neg o7] at h1 ⊢
          by_cases o8 : opN k.op = 8
          · rw [if_pos o8]
            refine h.less fun l m => ?_
            rw [q_forget]; split
            · simp
            · exact Nat.le_refl _
          · rw [if_neg o8] at h1 ⊢
            replace h1 : ¬ (s.send k.l k.b).2 = 0 := fun e => h1 ⟨by omega, e⟩
            unfold NetS.send at h1 ⊢
            by_cases f1 : fitsL k.l = false
            · rw [if_pos f1]; exact h.same rfl
            · rw [if_neg f1] at h1 ⊢
              by_cases f2 : 8192 < k.b.length
              · rw [if_pos f2]; exact h.same rfl
              · rw [if_neg f2] at h1 ⊢
                by_cases f3 : 8 ≤ (s.q k.l).length
                · rw [if_pos f3]; exact h.same rfl
                · rw [if_neg f3] at h1; exact absurd rfl h1
end Go.Proofs.Ytppohfgaegahoaa
