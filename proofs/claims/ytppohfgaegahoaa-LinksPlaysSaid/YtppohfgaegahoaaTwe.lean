/- Maps of whatever keys: laws on a map's block. They speak of no program. -/
import Derived.Test.YtppohfgaegahoaaTwd
import Derived.MapKept
namespace Go.Tw
open Go.RowKit Go.MapKept

/-! ### lists of pairs as maps -/
section
variable {κ α : Type} [DecidableEq κ]

def aget : List (κ × α) → κ → Option α
  | [], _ => none
  | p :: l, a => if p.1 = a then some p.2 else aget l a

def aset : List (κ × α) → κ → α → List (κ × α)
  | [], a, v => [(a, v)]
  | p :: l, a, v => if p.1 = a then (a, v) :: l else p :: aset l a v

def adel : List (κ × α) → κ → List (κ × α)
  | [], _ => []
  | p :: l, a => if p.1 = a then l else p :: adel l a

def akeys (l : List (κ × α)) : List κ := l.map (·.1)

theorem aget_none {l : List (κ × α)} {a : κ} : aget l a = none ↔ a ∉ akeys l := by
  induction l with
  | nil => simp [aget, akeys]
  | cons p l ih =>
    simp only [aget, akeys, List.map_cons, List.mem_cons]
    split
    · rename_i h; simp [h]
    · rename_i h
      rw [ih]
      simp only [akeys]
      constructor
      · intro h1 h2; rcases h2 with h2 | h2
        · exact h h2.symm
        · exact h1 h2
      · intro h1 h2; exact h1 (.inr h2)

theorem aget_mem {l : List (κ × α)} {a : κ} {v : α} (h : aget l a = some v) : (a, v) ∈ l := by
  induction l with
  | nil => simp [aget] at h
  | cons p l ih =>
    simp only [aget] at h
    split at h
    · rename_i e; cases h; subst e; simp
    · exact List.mem_cons_of_mem _ (ih h)

theorem aget_of_mem {l : List (κ × α)} {a : κ} {v : α} (hn : (akeys l).Nodup) (h : (a, v) ∈ l) : aget l a = some v := by
  induction l with
  | nil => simp at h
  | cons p l ih =>
    simp only [akeys, List.map_cons, List.nodup_cons] at hn
    simp only [aget]
    rcases List.mem_cons.1 h with e | e
    · subst e; simp
    · have hne : p.1 ≠ a := fun e' => hn.1 (by rw [e']; exact List.mem_map.2 ⟨(a, v), e, rfl⟩)
      rw [if_neg hne]; exact ih hn.2 e

theorem aget_aset {l : List (κ × α)} {a b : κ} {v : α} : aget (aset l a v) b = if a = b then some v else aget l b := by
  induction l with
  | nil => simp only [aset, aget]
  | cons p l ih =>
    simp only [aset]
    split
    · rename_i h
      simp only [aget]
      by_cases e : a = b
      · simp [e]
      · simp [e, h]
    · rename_i h
      simp only [aget]
      by_cases e : p.1 = b
      · have : a ≠ b := fun e' => h (e.trans e'.symm)
        simp [e, this]
      · simp [e, ih]

theorem aget_adel {l : List (κ × α)} {a b : κ} (hn : (akeys l).Nodup) : aget (adel l a) b = if a = b then none else aget l b := by
  induction l with
  | nil => simp [adel, aget]
  | cons p l ih =>
    simp only [akeys, List.map_cons, List.nodup_cons] at hn
    simp only [adel]
    split
    · rename_i h
      by_cases e : a = b
      · subst e
        simp only [if_true]
        rw [aget_none, ← h]; exact hn.1
      · simp only [aget, e, if_false]
        rw [if_neg (fun e' => e (h.symm.trans e'))]
    · rename_i h
      simp only [aget]
      by_cases e : p.1 = b
      · have : a ≠ b := fun e' => h (e.trans e'.symm)
        simp [e, this]
      · simp [e, ih hn.2]

theorem akeys_aset {l : List (κ × α)} {a : κ} {v : α} : akeys (aset l a v) = if a ∈ akeys l then akeys l else akeys l ++ [a] := by
  induction l with
  | nil => simp [aset, akeys]
  | cons p l ih =>
    simp only [aset, akeys, List.map_cons, List.mem_cons] at ih ⊢
    split
    · rename_i h; simp [h]
    · rename_i h
      have : a ≠ p.1 := fun e => h e.symm
      simp only [List.map_cons, ih, this, false_or]
      split <;> rename_i hm <;> simp [hm]

theorem nodup_aset {l : List (κ × α)} {a : κ} {v : α} (hn : (akeys l).Nodup) : (akeys (aset l a v)).Nodup := by
  rw [akeys_aset]
  split
  · exact hn
  · rename_i h
    rw [List.nodup_append]
    refine ⟨hn, by simp, ?_⟩
    intro x hx y hy
    simp at hy
    subst hy
    exact fun e => h (e ▸ hx)

theorem akeys_adel {l : List (κ × α)} {a : κ} : akeys (adel l a) = (akeys l).erase a := by
  induction l with
  | nil => simp [adel, akeys]
  | cons p l ih =>
    simp only [adel, akeys, List.map_cons] at ih ⊢
    split
    · rename_i h; simp [h]
    · rename_i h; rw [List.erase_cons_tail (by simpa using h)]; simp [ih]

theorem nodup_adel {l : List (κ × α)} {a : κ} (hn : (akeys l).Nodup) : (akeys (adel l a)).Nodup := by rw [akeys_adel]; exact hn.erase a

theorem mem_adel {l : List (κ × α)} {a : κ} {p : κ × α} (h : p ∈ adel l a) : p ∈ l := by
  induction l with
  | nil => simp [adel] at h
  | cons q l ih =>
    simp only [adel] at h
    split at h
    · exact List.mem_cons_of_mem _ h
    · rcases List.mem_cons.1 h with e | e
      · rw [e]; simp
      · exact List.mem_cons_of_mem _ (ih e)

theorem mem_aset {l : List (κ × α)} {a : κ} {v : α} {p : κ × α} (h : p ∈ aset l a v) : p ∈ l ∨ p = (a, v) := by
  induction l with
  | nil => simp [aset] at h; exact .inr h
  | cons q l ih =>
    simp only [aset] at h
    split at h
    · rcases List.mem_cons.1 h with e | e
      · exact .inr e
      · exact .inl (List.mem_cons_of_mem _ e)
    · rcases List.mem_cons.1 h with e | e
      · exact .inl (by rw [e]; simp)
      · rcases ih e with h | h
        · exact .inl (List.mem_cons_of_mem _ h)
        · exact .inr h
end

/-! ### two lists side by side -/
def All2 {α β : Type} (R : α → β → Prop) : List α → List β → Prop
  | [], [] => True
  | a :: as, b :: bs => R a b ∧ All2 R as bs
  | _, _ => False

section
variable {α β : Type} {R : α → β → Prop}
theorem All2.length : ∀ {as : List α} {bs : List β}, All2 R as bs → as.length = bs.length
  | [], [], _ => rfl
  | _ :: _, _ :: _, h => by simp [All2.length h.2]
  | [], _ :: _, h => h.elim
  | _ :: _, [], h => h.elim
theorem All2.imp {R' : α → β → Prop} : ∀ {as : List α} {bs : List β}, All2 R as bs → (∀ a b, a ∈ as → b ∈ bs → R a b → R' a b) → All2 R' as bs
  | [], [], _, _ => trivial
  | _ :: _, _ :: _, h, f => ⟨f _ _ (by simp) (by simp) h.1, All2.imp h.2 fun x y hx hy => f x y (by simp [hx]) (by simp [hy])⟩
  | [], _ :: _, h, _ => h.elim
  | _ :: _, [], h, _ => h.elim
theorem All2.append : ∀ {as as' : List α} {bs bs' : List β}, All2 R as bs → All2 R as' bs' → All2 R (as ++ as') (bs ++ bs')
  | [], _, [], _, _, h => h
  | _ :: _, _, _ :: _, _, h, h' => ⟨h.1, All2.append h.2 h'⟩
  | [], _, _ :: _, _, h, _ => h.elim
  | _ :: _, _, [], _, h, _ => h.elim
theorem All2.get : ∀ {as : List α} {bs : List β} {i : Nat} {a : α}, All2 R as bs → as[i]? = some a → ∃ b, bs[i]? = some b ∧ R a b
  | [], [], _, _, _, h => by simp at h
  | _ :: _, b :: _, 0, _, h, hi => ⟨b, rfl, by simp at hi; exact hi ▸ h.1⟩
  | _ :: _, _ :: _, i + 1, _, h, hi => by simpa using All2.get h.2 (by simpa using hi)
  | [], _ :: _, _, _, h, _ => h.elim
  | _ :: _, [], _, _, h, _ => h.elim
theorem All2.get' : ∀ {as : List α} {bs : List β} {i : Nat} {b : β}, All2 R as bs → bs[i]? = some b → ∃ a, as[i]? = some a ∧ R a b
  | [], [], _, _, _, h => by simp at h
  | a :: _, _ :: _, 0, _, h, hi => ⟨a, rfl, by simp at hi; exact hi ▸ h.1⟩
  | _ :: _, _ :: _, i + 1, _, h, hi => by simpa using All2.get' h.2 (by simpa using hi)
  | [], _ :: _, _, _, h, _ => h.elim
  | _ :: _, [], _, _, h, _ => h.elim
theorem All2.take : ∀ {as : List α} {bs : List β} (n : Nat), All2 R as bs → All2 R (as.take n) (bs.take n)
  | [], [], _, _ => by simp [All2]
  | _ :: _, _ :: _, 0, _ => by simp [All2]
  | _ :: _, _ :: _, n + 1, h => ⟨h.1, All2.take n h.2⟩
  | [], _ :: _, _, h => h.elim
  | _ :: _, [], _, h => h.elim
theorem All2.drop : ∀ {as : List α} {bs : List β} (n : Nat), All2 R as bs → All2 R (as.drop n) (bs.drop n)
  | [], [], _, _ => by simp [All2]
  | _ :: _, _ :: _, 0, h => h
  | _ :: _, _ :: _, n + 1, h => All2.drop n h.2
  | [], _ :: _, _, h => h.elim
  | _ :: _, [], _, h => h.elim
end

/-! ### keys -/
structure KeyOk (P : Program) (K : TypeId) {κ : Type} (ek : κ → Value) : Prop where
  inj : ∀ a b, ek a = ek b → a = b
  check : ∀ em a w, (Instr.checkKey em 10000 K (ek a)).run P w = .ok () w
  find : ∀ (es : List MapEntry) a w, (∀ e ∈ es, ∃ k, e.key = ek k) → ((Instr.findKey K (ek a) es).run P w = .ok none w ∧ ∀ e ∈ es, e.key ≠ ek a) ∨
    ∃ (j : Nat) (e : MapEntry), (Instr.findKey K (ek a) es).run P w = .ok (some (j, e.val)) w ∧ es[j]? = some e ∧ e.key = ek a
  stays : ∀ a w, (Instr.keyThatStays (ek a) (ek a)).run P w = .ok (ek a) w

/-- keys that are held against each other part by part: structs, arrays -/
theorem KeyOk.ofEq {P : Program} {K : TypeId} {κ : Type} [DecidableEq κ] {ek : κ → Value} {d : TypeDesc} (hd : P.underlying K = some d) (inj : ∀ a b, ek a = ek b → a = b)
    (check : ∀ em a w, (Instr.checkKey em 10000 K (ek a)).run P w = .ok () w) (now : ∀ a b, Instr.sameNow d (ek a) (ek b) = none)
    (eq : ∀ a b w, (Op.equal K (ek a) (ek b)).run P w = .ok (decide (a = b)) w) (stays : ∀ a w, (Instr.keyThatStays (ek a) (ek a)).run P w = .ok (ek a) w) : KeyOk P K ek := by
  refine ⟨inj, check, ?_, stays⟩
  intro es a w hes
  have asking : ∀ (es : List MapEntry) (i : Nat), (∀ e ∈ es, ∃ k, e.key = ek k) → ((Instr.findAsking K (ek a) es i).run P w = .ok none w ∧ ∀ e ∈ es, e.key ≠ ek a) ∨
      ∃ (j : Nat) (e : MapEntry), (Instr.findAsking K (ek a) es i).run P w = .ok (some (i + j, e.val)) w ∧ es[j]? = some e ∧ e.key = ek a := by
    intro es
    induction es with
    | nil => intro i _; exact .inl ⟨by simp [Instr.findAsking], by simp⟩
    | cons e es ih =>
      intro i hall
      obtain ⟨k, hk⟩ := hall e (by simp)
      have hr := eq a k w
      rw [← hk] at hr
      by_cases hak : a = k
      · right
        refine ⟨0, e, ?_, rfl, by rw [hk, hak]⟩
        have hr' : (Op.equal K (ek a) e.key).run P w = .ok true w := by rw [hr]; simp [hak]
        simp [Instr.findAsking, hr']
      · have hr' : (Op.equal K (ek a) e.key).run P w = .ok false w := by rw [hr]; simp [hak]
        have hne : e.key ≠ ek a := fun h => hak (inj _ _ (h.symm.trans hk))
        rcases ih (i + 1) (fun x hx => hall x (by simp [hx])) with ⟨h1, h2⟩ | ⟨j, e', h1, h2, h3⟩
        · left
          refine ⟨by simp [Instr.findAsking, hr', h1], fun x hx => ?_⟩
          rcases List.mem_cons.1 hx with rfl | hx
          · exact hne
          · exact h2 x hx
        · right
          exact ⟨j + 1, e', by simp [Instr.findAsking, hr', h1, Nat.add_assoc, Nat.add_comm 1 j], by simpa using h2, h3⟩
  cases es with
  | nil => exact .inl ⟨by simp [Instr.findKey, run_underlying hd, Instr.findNow], by simp⟩
  | cons e es =>
    obtain ⟨k, hk⟩ := hes e (by simp)
    have hn : Instr.findNow d (ek a) (e :: es) 0 = none := by simp [Instr.findNow, hk, now]
    have e1 : (Instr.findKey K (ek a) (e :: es)).run P w = (Instr.findAsking K (ek a) (e :: es)).run P w := by simp [Instr.findKey, run_underlying hd, hn]
    rw [e1]
    rcases asking (e :: es) 0 hes with h | ⟨j, e', h1, h2, h3⟩
    · exact .inl h
    · exact .inr ⟨j, e', by simpa using h1, h2, h3⟩

/-- whole numbers as keys -/
theorem KeyOk.int {P : Program} {K : TypeId} {k : IntKind} (hd : P.underlying K = some (.int k)) : KeyOk P K (Value.int k) := by
  refine ⟨fun a b h => by cases h; rfl, ?_, ?_, ?_⟩
  · intro em a w
    unfold Instr.checkKey
    simp [run_underlying hd]
  · intro es a w hes
    have now : ∀ (es : List MapEntry) (i : Nat), (∀ e ∈ es, ∃ k', e.key = .int k k') → (Instr.findNow (.int k) (.int k a) es i = some none ∧ ∀ e ∈ es, e.key ≠ .int k a) ∨
        ∃ (j : Nat) (e : MapEntry), Instr.findNow (.int k) (.int k a) es i = some (some (i + j, e.val)) ∧ es[j]? = some e ∧ e.key = .int k a := by
      intro es
      induction es with
      | nil => intro i _; exact .inl ⟨by simp [Instr.findNow], by simp⟩
      | cons e es ih =>
        intro i hall
        obtain ⟨b, hb⟩ := hall e (by simp)
        by_cases hab : a = b
        · exact .inr ⟨0, e, by simp [Instr.findNow, Instr.sameNow, hb, hab], rfl, by rw [hb, hab]⟩
        · have hne : e.key ≠ .int k a := fun h => hab (by rw [hb] at h; cases h; rfl)
          have hs : Instr.sameNow (.int k) (.int k a) e.key = some false := by simp [Instr.sameNow, hb, hab]
          rcases ih (i + 1) (fun x hx => hall x (by simp [hx])) with ⟨h1, h2⟩ | ⟨j, e', h1, h2, h3⟩
          · left
            refine ⟨by simp [Instr.findNow, hs, h1], fun x hx => ?_⟩
            rcases List.mem_cons.1 hx with rfl | hx
            · exact hne
            · exact h2 x hx
          · exact .inr ⟨j + 1, e', by simp [Instr.findNow, hs, h1, Nat.add_assoc, Nat.add_comm 1 j], by simpa using h2, h3⟩
    rcases now es 0 hes with ⟨h1, h2⟩ | ⟨j, e, h1, h2, h3⟩
    · exact .inl ⟨by simp [Instr.findKey, run_underlying hd, h1], h2⟩
    · exact .inr ⟨j, e, by simp [Instr.findKey, run_underlying hd, h1], h2, h3⟩
  · intro a w
    simp [Instr.keyThatStays, Instr.sameBits]

/-! ### a map's block -/
section
variable {κ α : Type} {P : Program} {K : TypeId} {ek : κ → Value} {R : Value → α → Prop} {w : World} {b : Nat} {l : List (κ × α)}

def Ents (ek : κ → Value) (R : Value → α → Prop) (es : List MapEntry) (l : List (κ × α)) : Prop := All2 (fun (e : MapEntry) (p : κ × α) => e.key = ek p.1 ∧ R e.val p.2) es l

def MapR (w : World) (b : Nat) (ek : κ → Value) (R : Value → α → Prop) (l : List (κ × α)) : Prop :=
  ∃ es clock, Blk w b (.map es clock) ∧ Stamped es clock ∧ Ents ek R es.toList l

theorem MapR.lt (h : MapR w b ek R l) : b < w.heap.size := let ⟨_, _, hb, _⟩ := h; hb.lt


theorem Ents.keys {es : List MapEntry} (h : Ents ek R es l) : es.map (·.key) = (akeys l).map ek := by
  induction es generalizing l with
  | nil => cases l with
    | nil => rfl
    | cons _ _ => exact h.elim
  | cons e es ih =>
    cases l with
    | nil => exact h.elim
    | cons p l => simp [akeys, h.1.1]; simpa [akeys] using ih h.2

theorem Ents.nodup {es : List MapEntry} (h : Ents ek R es l) (hn : (es.map (·.key)).Nodup) : (akeys l).Nodup := by
  rw [h.keys] at hn
  exact (List.pairwise_map.1 hn).imp fun h e => h (congrArg ek e)

theorem MapR.nodup (h : MapR w b ek R l) : (akeys l).Nodup := by
  obtain ⟨es, clock, _, hs, he⟩ := h
  exact he.nodup hs.2.2

theorem Ents.isKey {es : List MapEntry} (h : Ents ek R es l) : ∀ e ∈ es, ∃ k, e.key = ek k := by
  intro e he
  obtain ⟨i, hi⟩ := List.mem_iff_getElem?.1 he
  obtain ⟨p, _, hp⟩ := All2.get h hi
  exact ⟨p.1, hp.1⟩

theorem run_getMap {es : Array MapEntry} {clock : Nat} (hb : Blk w b (.map es clock)) : (getObj b).run P w = .ok (.map es clock) w := by
  simp [getObj, Sem.run, show w.heap[b]? = _ from hb]
theorem run_setMap {es : Array MapEntry} {clock : Nat} (o : Obj) (hb : Blk w b (.map es clock)) : (setObj b o).run P w = .ok () { w with heap := w.heap.setIfInBounds b o } := by
  simp [setObj, Sem.run, show w.heap[b]? = _ from hb]

/-- the world in which block b holds another object -/
def World.put (w : World) (b : Nat) (o : Obj) : World := { w with heap := w.heap.setIfInBounds b o }

theorem put_blk {o o' : Obj} (h : Blk w b o) : Blk (World.put w b o') b o' := by
  have := h.lt
  simp [Blk, World.put, this]
theorem put_frm (o' : Obj) : Frm (fun k => k = b) w (World.put w b o') :=
  ⟨rfl, rfl, rfl, by simp [World.put], fun k hk hx => by simp [World.put, Array.getElem?_setIfInBounds_ne (Ne.symm hx)]⟩
theorem put_size (o' : Obj) : (World.put w b o').heap.size = w.heap.size := by simp [World.put]
theorem put_put {o o' : Obj} : World.put (World.put w b o) b o' = World.put w b o' := by simp [World.put]

/-- of the cells nothing turns where a map's block is written -/
def Keeps (w w' : World) : Prop := ∀ k o v, w.cell? ⟨k, o, none⟩ = some v → w'.cell? ⟨k, o, none⟩ = some v
theorem Keeps.refl (w : World) : Keeps w w := fun _ _ _ h => h
theorem Keeps.trans {a b c : World} (h : Keeps a b) (k : Keeps b c) : Keeps a c := fun _ _ _ hv => k _ _ _ (h _ _ _ hv)
theorem Up.keeps {w w' : World} (h : Up w w') : Keeps w w' := fun _ _ _ hv => cell_up hv h
theorem put_keeps {es es' : Array MapEntry} {c c' : Nat} (h : Blk w b (.map es c)) : Keeps w (World.put w b (.map es' c')) := by
  intro k o v hv
  by_cases e : k = b
  · subst e
    simp [World.cell?, show w.heap[k]? = _ from h] at hv
  · exact cell_frm hv (put_frm _) e
theorem SlV.keeps {S : Nat → Prop} {w w' : World} {v : Value} {n size : Nat} {cs : List Value} (h : SlV S w v n size cs) (e : Keeps w w') : SlV S w' v n size cs := by
  obtain ⟨o, cap, hv, hl, hc⟩ := h
  exact ⟨o, cap, hv, hl, fun hn => let ⟨b, off, ho, hs, h⟩ := hc hn; ⟨b, off, ho, hs, fun i v hv => e _ _ _ (h i v hv)⟩⟩

theorem MapR.frm {w' : World} (h : MapR w b ek R l) {X : Nat → Prop} (e : Frm X w w') (hx : ¬ X b) {R' : Value → α → Prop} (hR : ∀ v x, R v x → R' v x) : MapR w' b ek R' l := by
  obtain ⟨es, clock, hb, hs, he⟩ := h
  exact ⟨es, clock, hb.frm e hx, hs, All2.imp he fun a p _ _ ⟨h1, h2⟩ => ⟨h1, hR _ _ h2⟩⟩
theorem MapR.up {w' : World} (h : MapR w b ek R l) (e : Up w w') {R' : Value → α → Prop} (hR : ∀ v x, R v x → R' v x) : MapR w' b ek R' l := h.frm (X := NoB) e.frm (fun h => h) hR

theorem MapR.made {w' : World} (h : Blk w' b (.map #[] 0)) : MapR w' b ek R ([] : List (κ × α)) := ⟨#[], 0, h, stamped_empty 0, trivial⟩


variable [DecidableEq κ]
theorem Ents.absent {es : List MapEntry} (h : Ents ek R es l) {a : κ} (hn : ∀ e ∈ es, e.key ≠ ek a) : aget l a = none := by
  rw [aget_none]
  intro hm
  obtain ⟨p, hp, rfl⟩ := List.mem_map.1 hm
  obtain ⟨i, hi⟩ := List.mem_iff_getElem?.1 hp
  obtain ⟨e, he, hr⟩ := All2.get' h hi
  exact hn e (List.mem_of_getElem? he) hr.1

theorem Ents.present (K' : KeyOk P K ek) {es : List MapEntry} (h : Ents ek R es l) (hnd : (es.map (·.key)).Nodup) {a : κ} {j : Nat} {e : MapEntry} (hj : es[j]? = some e) (hk : e.key = ek a) : ∃ v, aget l a = some v ∧ R e.val v := by
  obtain ⟨p, hp, hr⟩ := All2.get h hj
  have e1 : p.1 = a := K'.inj _ _ (hr.1.symm.trans hk)
  refine ⟨p.2, aget_of_mem (h.nodup hnd) ?_, hr.2⟩
  rw [← e1]
  exact List.mem_of_getElem? hp

theorem Ents.set (K' : KeyOk P K ek) {a : κ} {v : α} {f : MapEntry → MapEntry} : ∀ {es : List MapEntry} {l : List (κ × α)} {j : Nat} {e : MapEntry}, Ents ek R es l → (es.map (·.key)).Nodup → es[j]? = some e → e.key = ek a → (f e).key = ek a → R (f e).val v → Ents ek R (es.modify j f) (aset l a v)
  | [], _, _, _, _, _, hj, _, _, _ => by simp at hj
  | _ :: _, [], _, _, h, _, _, _, _, _ => h.elim
  | x :: es, p :: l, 0, e, h, hn, hj, hk, hfk, hfv => by
    simp at hj
    subst hj
    have e1 : p.1 = a := K'.inj _ _ (h.1.1.symm.trans hk)
    simp only [aset, e1, if_true, List.modify_zero_cons]
    exact ⟨⟨hfk, hfv⟩, h.2⟩
  | x :: es, p :: l, j + 1, e, h, hn, hj, hk, hfk, hfv => by
    simp at hj
    have hne : p.1 ≠ a := by
      intro e1
      rw [List.map_cons, List.nodup_cons] at hn
      refine hn.1 (List.mem_map.2 ⟨e, List.mem_of_getElem? hj, ?_⟩)
      rw [hk, h.1.1, e1]
    simp only [aset, hne, if_false, List.modify_succ_cons]
    rw [List.map_cons, List.nodup_cons] at hn
    exact ⟨h.1, Ents.set K' h.2 hn.2 hj hk hfk hfv⟩

theorem Ents.push {a : κ} {v : α} {x : MapEntry} : ∀ {es : List MapEntry} {l : List (κ × α)}, Ents ek R es l → aget l a = none → x.key = ek a → R x.val v → Ents ek R (es ++ [x]) (aset l a v)
  | [], [], _, _, hk, hv => ⟨⟨hk, hv⟩, trivial⟩
  | [], _ :: _, h, _, _, _ => h.elim
  | _ :: _, [], h, _, _, _ => h.elim
  | e :: es, p :: l, h, hn, hk, hv => by
    simp only [aget] at hn
    split at hn
    · cases hn
    · rename_i hne
      simp only [aset, hne, if_false, List.cons_append]
      exact ⟨h.1, Ents.push h.2 hn hk hv⟩

theorem Ents.del (K' : KeyOk P K ek) {a : κ} : ∀ {es : List MapEntry} {l : List (κ × α)} {j : Nat} {e : MapEntry}, Ents ek R es l → (es.map (·.key)).Nodup → es[j]? = some e → e.key = ek a → Ents ek R (es.eraseIdx j) (adel l a)
  | [], _, _, _, _, _, hj, _ => by simp at hj
  | _ :: _, [], _, _, h, _, _, _ => h.elim
  | x :: es, p :: l, 0, e, h, hn, hj, hk => by
    simp at hj
    subst hj
    have e1 : p.1 = a := K'.inj _ _ (h.1.1.symm.trans hk)
    simp only [adel, e1, if_true, List.eraseIdx_cons_zero]
    exact h.2
  | x :: es, p :: l, j + 1, e, h, hn, hj, hk => by
    simp at hj
    have hne : p.1 ≠ a := by
      intro e1
      rw [List.map_cons, List.nodup_cons] at hn
      refine hn.1 (List.mem_map.2 ⟨e, List.mem_of_getElem? hj, ?_⟩)
      rw [hk, h.1.1, e1]
    simp only [adel, hne, if_false, List.eraseIdx_cons_succ]
    rw [List.map_cons, List.nodup_cons] at hn
    exact ⟨h.1, Ents.del K' h.2 hn.2 hj hk⟩

theorem adel_absent {l : List (κ × α)} {a : κ} (h : aget l a = none) : adel l a = l := by
  induction l with
  | nil => rfl
  | cons p l ih =>
    simp only [aget] at h
    split at h
    · cases h
    · rename_i hne; simp [adel, hne, ih h]

theorem mapR_lookup {T E : TypeId} (K' : KeyOk P K ek) (hT : P.underlying T = some (.map K E)) {z : Value} (hz : ∀ w, (zeroValue E).run P w = .ok z w) (h : MapR w b ek R l) (a : κ) (ok : Bool) :
    (aget l a = none ∧ (Instr.lookup T (.map (some b)) (ek a) ok).run P w = .ok (if ok then .tuple #[z, .bool false] else z) w) ∨
    ∃ v x, aget l a = some x ∧ R v x ∧ (Instr.lookup T (.map (some b)) (ek a) ok).run P w = .ok (if ok then .tuple #[v, .bool true] else v) w := by
  obtain ⟨es, clock, hb, hs, he⟩ := h
  rcases K'.find es.toList a w he.isKey with ⟨h1, h2⟩ | ⟨j, e, h1, h2, h3⟩
  · left
    refine ⟨he.absent h2, ?_⟩
    simp [Instr.lookup, run_underlying hT, run_getMap hb, K'.check, h1, hz]
  · right
    obtain ⟨x, hx, hr⟩ := he.present K' hs.2.2 h2 h3
    refine ⟨e.val, x, hx, hr, ?_⟩
    simp [Instr.lookup, run_underlying hT, run_getMap hb, K'.check, h1]

theorem mapR_update {T E : TypeId} (K' : KeyOk P K ek) (hT : P.underlying T = some (.map K E)) (h : MapR w b ek R l) (a : κ) {v : Value} {x : α} (hv : R v x) :
    ∃ w', (Instr.mapUpdate T (.map (some b)) (ek a) v).run P w = .ok () w' ∧ MapR w' b ek R (aset l a x) ∧ Frm (fun k => k = b) w w' ∧ Keeps w w' ∧ w'.heap.size = w.heap.size := by
  obtain ⟨es, clock, hb, hs, he⟩ := h
  rcases K'.find es.toList a w he.isKey with ⟨h1, h2⟩ | ⟨j, e, h1, h2, h3⟩
  · refine ⟨World.put w b (.map (es.push { key := ek a, val := v, born := clock }) (clock + 1)), ?_, ⟨_, _, put_blk hb, stamped_push hs h2, ?_⟩, put_frm _, put_keeps hb, put_size _⟩
    · simp [Instr.mapUpdate, run_underlying hT, run_getMap hb, K'.check, h1, run_setMap _ hb, World.put]
    · rw [Array.toList_push]; exact Ents.push he (he.absent h2) rfl hv
  · have hj : es[j]? = some e := by simpa using h2
    refine ⟨World.put w b (.map (es.modify j fun e => { e with key := ek a, val := v }) clock), ?_, ⟨_, _, put_blk hb, stamped_modify hs j _ (fun _ _ => rfl) (fun e' _ h' => ?_), ?_⟩, put_frm _, put_keeps hb, put_size _⟩
    · simp [Instr.mapUpdate, run_underlying hT, run_getMap hb, K'.check, h1, hj, h3, K'.stays, run_setMap _ hb, World.put]
    · rw [hj] at h'; cases h'; exact h3.symm
    · rw [Array.toList_modify]; exact Ents.set K' he hs.2.2 h2 h3 rfl hv

theorem mapR_delete {T E ty : TypeId} {U : TypeId} (K' : KeyOk P K ek) (hT : P.underlying T = some (.map K E)) (h : MapR w b ek R l) (a : κ) :
    ∃ w', (Builtin.delete_ #[T, U] ty #[.map (some b), ek a]).run P w = .ok (.tuple #[]) w' ∧ MapR w' b ek R (adel l a) ∧ Frm (fun k => k = b) w w' ∧ Keeps w w' ∧ w'.heap.size = w.heap.size := by
  obtain ⟨es, clock, hb, hs, he⟩ := h
  rcases K'.find es.toList a w he.isKey with ⟨h1, h2⟩ | ⟨j, e, h1, h2, h3⟩
  · refine ⟨World.put w b (.map es clock), ?_, ⟨_, _, put_blk hb, hs, ?_⟩, put_frm _, put_keeps hb, put_size _⟩
    · simp [Builtin.delete_, run_underlying hT, run_getMap hb, K'.check, h1, run_setMap _ hb, World.put]
    · rw [adel_absent (he.absent h2)]; exact he
  · refine ⟨World.put w b (.map (es.eraseIdxIfInBounds j) clock), ?_, ⟨_, _, put_blk hb, stamped_erase hs j, ?_⟩, put_frm _, put_keeps hb, put_size _⟩
    · simp [Builtin.delete_, run_underlying hT, run_getMap hb, K'.check, h1, run_setMap _ hb, World.put]
    · rw [Array.toList_eraseIdxIfInBounds]; exact Ents.del K' he hs.2.2 h2 h3

omit [DecidableEq κ] in
theorem mapR_len {T E ty : TypeId} (hT : P.underlying T = some (.map K E)) (h : MapR w b ek R l) : (Builtin.len_ #[T] ty #[.map (some b)]).run P w = .ok (.int .i64 l.length) w := by
  obtain ⟨es, clock, hb, hs, he⟩ := h
  have : es.size = l.length := by simpa using All2.length he
  simp [Builtin.len_, run_underlying hT, run_getMap hb, goInt, this]
end
end Go.Tw
