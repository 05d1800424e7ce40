/- A drawn region whose operations may turn old blocks, as a relation T says; look-ups of a map's value in every grown world. It speaks of no program. -/
import Derived.Test.YtppohfgaegahoaaTwh
namespace Go.Tw
open Go.RowKit Go.MapKept

/-- what one operation of a region may do to the world -/
structure Turns (T : World → World → Prop) : Prop where
  refl : ∀ w, T w w
  trans : ∀ {a b c}, T a b → T b c → T a c
  drew : ∀ w, T w { w with drawn := w.drawn + 1 }

section
variable {P : Program} {N n0 : Nat} {l : List Oper} {K : Env → World → Prop} {ρ : Env} {w : World} {F : Nat → Value → World → Prop}

structure DInvT (T : World → World → Prop) (N n0 : Nat) (l : List Oper) (F : Nat → Value → World → Prop) (ρ : Env) (w : World) (listed : Array Bool) (a : Act) (w' : World) : Prop where
  size : listed.size = l.length
  closed : ∀ i o, l[i]? = some o → listed.getD i false = true → ∀ e ∈ o.after, Region.binds .any e = true → listed.getD e.on false = true
  tail : ∀ k, n0 ≤ k → listed.getD k false = false
  up : T w w'
  env : ∃ ρ', Real N a ρ' ∧ (∀ t, t ∉ dsts (l.take n0) → ρ' t = ρ t) ∧ ∀ i o, l[i]? = some o → listed.getD i false = true → F i (slotOf ρ' o) w'


theorem W.drawT {id : Nat} {n : Env → World → Prop} {x : Nat → Env → World → Prop} {r : Env → World → Prop} {T : World → World → Prop} (hT : Turns T) (hm : P.follows .mixedOrders = true) (n0 : Nat) (F : Nat → Value → World → Prop) (hok : drawOk N n0 l = true) (hn0 : n0 ≤ l.length)
    (hstay : ∀ i v w1 w2, T w w1 → F i v w1 → T w1 w2 → F i v w2)
    (hstep : ∀ i o, (l.take n0)[i]? = some o → ∀ ρ' w', T w w' → (∀ t, t ∉ dsts (l.take n0) → ρ' t = ρ t) → (∀ j oj, l[j]? = some oj → pre l i j = true → F j (slotOf ρ' oj) w') →
      GStep P l o ρ' w' (fun v w'' => F i v w'' ∧ T w' w''))
    (hend : ∀ ρ' w', T w w' → (∀ t, t ∉ dsts (l.take n0) → ρ' t = ρ t) → (∀ i o, (l.take n0)[i]? = some o → F i (slotOf ρ' o) w') → WL P N l.toArray (l.drop n0) n ρ' w') :
    W P N (.region id l.toArray true) n x r ρ w := by
  unfold drawOk at hok
  simp only [Bool.and_eq_true] at hok
  obtain ⟨⟨⟨c1, c2⟩, c3⟩, c4⟩ := hok
  have hb : ∀ i o, l[i]? = some o → ∀ e ∈ o.after, Region.binds .any e = true → e.on < i := by
    intro i o ho e he hbe
    rw [List.all_eq_true] at c1
    have := c1 (o, i) (by rw [List.mem_zipIdx_iff_getElem?]; exact ho)
    rw [List.all_eq_true] at this
    have := this e (by simpa using he)
    simpa [hbe] using this
  have hpre : ∀ k, k < l.length → n0 ≤ k → ∀ j, j < k → pre l k j = true := by
    intro k hk hn j hj
    rw [List.all_eq_true] at c4
    have := c4 k (List.mem_range.2 hk)
    rw [Bool.or_eq_true] at this
    rcases this with h | h
    · simp at h; omega
    · rw [List.all_eq_true] at h; exact h j (List.mem_range.2 hj)
  have hnd : (dsts (l.take n0)).Nodup := by simpa using c3
  have htk : ∀ i o, l[i]? = some o → i < n0 → (l.take n0)[i]? = some o := fun i o ho hi => by rw [List.getElem?_take_of_lt hi]; exact ho
  intro a ha
  refine wp_region_any hm ?_
  generalize hQ : (fun e a' w' => ∃ ρ', Real N a' ρ' ∧ Ends n x r e ρ' w') = Q'
  have key : ∀ (m : Nat) (listed : Array Bool) (a : Act) (w' : World), left n0 listed = m → DInvT T N n0 l F ρ w listed a w' → wpAny P .any l.toArray Q' (m + (l.length - n0)) listed a w' := by
    intro m
    induction m with
    | zero =>
      intro listed a w' hm inv
      have hall := left_zero hm
      obtain ⟨ρ', hr, hag, hF⟩ := inv.env
      refine tail_any rfl hpre hb (0 + (l.length - n0)) n0 listed a w' (Nat.le_refl _) (by omega) inv.size (fun j => ?_) ?_
      · by_cases hj : j < n0
        · simp [hall j hj, hj]
        · simp [inv.tail j (by omega), hj]
      · have := hend ρ' w' inv.up hag (fun i o ho => by
          have hi : i < n0 := by have := (List.getElem?_eq_some_iff.1 ho).1; simp at this; omega
          rw [List.getElem?_take_of_lt hi] at ho
          exact hF i o ho (hall i hi))
        exact this a hr Q' fun a' ρ'' w'' hr' hk => by subst hQ; exact ⟨ρ'', hr', hk⟩
    | succ m ih =>
      intro listed a w' hm inv
      rw [show m + 1 + (l.length - n0) = (m + (l.length - n0)) + 1 by omega]
      -- some operation is still to come, the first of them is ready
      have hex : ∃ i, i < n0 ∧ listed.getD i false = false := by
        apply Classical.byContradiction
        intro hno
        have h0 : left n0 listed = 0 := by
          unfold left
          rw [List.filter_eq_nil_iff.2]
          · rfl
          · intro i hi
            have := List.mem_range.1 hi
            cases hc : listed.getD i false with
            | true => simp
            | false => exact absurd ⟨i, this, hc⟩ hno
        omega
      have hready : Region.ready .any l.toArray listed ≠ [] := by
        have hmin : ∀ i, i < n0 → listed.getD i false = false → ∃ k, k ∈ Region.ready .any l.toArray listed := by
          intro i
          induction i using Nat.strongRecOn with
          | _ i ihi =>
            intro hi hu
            have hil : i < l.length := by omega
            by_cases hall : ∀ e ∈ l[i].after, Region.binds .any e = true → listed.getD e.on false = true
            · exact ⟨i, mem_ready.2 ⟨by rw [getD_ft (by have := inv.size; omega)]; exact hu, l[i], by simp [hil], hall⟩⟩
            · have : ∃ e, e ∈ l[i].after ∧ Region.binds .any e = true ∧ listed.getD e.on false = false := by
                apply Classical.byContradiction
                intro hno
                refine hall fun e he hbe => ?_
                cases hc : listed.getD e.on false with
                | true => rfl
                | false => exact absurd ⟨e, he, hbe, hc⟩ hno
              obtain ⟨e, he, hbe, hc⟩ := this
              have hlt := hb i l[i] (by simp [hil]) e he hbe
              exact ihi e.on hlt (by omega) hc
        obtain ⟨i, hi, hu⟩ := hex
        obtain ⟨k, hk⟩ := hmin i hi hu
        intro h0
        rw [h0] at hk
        simp at hk
      refine ⟨fun h0 => absurd h0 hready, fun i hi => ?_⟩
      obtain ⟨hun, o, ho, hall⟩ := mem_ready.1 hi
      have ho' : l[i]? = some o := by simpa using ho
      have hil : i < l.length := (List.getElem?_eq_some_iff.1 ho').1
      have hprl := pre_listed hb inv.closed i o ho' hall
      have hin : i < n0 := by
        apply Classical.byContradiction
        intro hge
        obtain ⟨k, hk, hu⟩ := hex
        have := hprl k (hpre i hil (by omega) k (by omega))
        rw [hu] at this
        cases this
      have hun' : listed.getD i false = false := by rw [← getD_ft (by have := inv.size; omega)]; exact hun
      obtain ⟨ρ', hr, hag, hF⟩ := inv.env
      have hs := hstep i o (htk i o ho' hin) ρ' w' inv.up hag (fun j oj hj hp => hF j oj hj (hprl j hp))
      have hd : dstOk N o.dst = true := by
        rw [List.all_eq_true] at c2
        have := c2 o (List.mem_of_getElem? (htk i o ho' hin))
        cases hdd : o.dst with
        | none => rfl
        | some d => simpa [dstOk, hdd] using this
      have hlm : left n0 (listed.setIfInBounds i true) = m := by
        have := left_set hin (by have := inv.size; omega) hun'
        omega
      -- what holds behind it
      have hnext : ∀ v w'', (F i v w'' ∧ T w' w'') → DInvT T N n0 l F ρ w (listed.setIfInBounds i true) (a.put o.dst v) w'' := by
        intro v w'' ⟨hf, hu⟩
        refine ⟨by simpa using inv.size, fun k ok hk hkl e he hbe => ?_, fun k hk => ?_, hT.trans inv.up hu, upd ρ' o.dst v, hr.put hd v, fun t ht => ?_, fun k ok hk hkl => ?_⟩
        · by_cases hki : k = i
          · subst hki
            rw [ho'] at hk
            cases hk
            exact getD_set_true (hall e he hbe)
          · rw [getD_set_ne false (Ne.symm hki)] at hkl
            exact getD_set_true (inv.closed k ok hk hkl e he hbe)
        · rw [getD_set_ne false (by omega)]; exact inv.tail k hk
        · cases hdd : o.dst with
          | none => exact hag t ht
          | some d =>
            have hne : t ≠ d := fun e => ht (by subst e; exact List.mem_filterMap.2 ⟨o, List.mem_of_getElem? (htk i o ho' hin), hdd⟩)
            have hbq : Nat.beq t d = false := by
              cases h : Nat.beq t d with
              | false => rfl
              | true => exact absurd (Nat.eq_of_beq_eq_true h) hne
            simp only [upd, hbq, cond_false]
            exact hag t ht
        · by_cases hki : k = i
          · subst hki
            rw [ho'] at hk
            cases hk
            have hsl : slotOf (upd ρ' o.dst v) o = v := by
              have hds := List.all_eq_true.1 c2 o (List.mem_of_getElem? (htk k o ho' hin))
              cases hdd : o.dst with
              | none => simp [hdd] at hds
              | some d => simp [slotOf, hdd, upd, ev]
            rw [hsl]; exact hf
          · rw [getD_set_ne false (Ne.symm hki)] at hkl
            have hkn : k < n0 := by
              apply Classical.byContradiction
              intro hge
              have := inv.tail k (by omega)
              rw [this] at hkl
              cases hkl
            have hsl : slotOf (upd ρ' o.dst v) ok = slotOf ρ' ok := by
              cases hdk : ok.dst with
              | none => simp [slotOf, hdk]
              | some dk =>
                cases hdd : o.dst with
                | none => rfl
                | some d =>
                  have hne : dk ≠ d := fun e => hki (nodup_at hnd (htk k ok hk hkn) (htk i o ho' hin) hdk (by rw [hdd, e]))
                  have hbq : Nat.beq dk d = false := by
                    cases h : Nat.beq dk d with
                    | false => rfl
                    | true => exact absurd (Nat.eq_of_beq_eq_true h) hne
                  simp only [slotOf, hdk, upd, ev, hbq, cond_false]
            rw [hsl]
            exact hstay k _ w' w'' inv.up (hF k ok hk hkl) hu
      unfold wpOp
      rw [ho]
      unfold GStep at hs
      cases hg : o.guard with
      | none =>
        rw [hg] at hs
        simp only [Region.wanted, hg, if_true]
        exact .inl (hs.wp hr fun v w'' hv => ih _ _ _ hlm (hnext v w'' hv))
      | some jw =>
        obtain ⟨j, want⟩ := jw
        rw [hg] at hs
        obtain ⟨t, b, hj, hbt, hs⟩ := hs
        have hy : yielded l.toArray a.tmps j = some b := yielded_slot hr (by simpa using hj) hbt
        have hw : Region.wanted o (yielded l.toArray a.tmps) = decide (b = want) := by
          simp only [Region.wanted, hg, hy]
          cases b <;> cases want <;> decide
        simp only [hw]
        by_cases e : b = want
        · simp only [e, decide_true, if_true] at hs ⊢
          exact .inl (hs.wp hr fun v w'' hv => ih _ _ _ hlm (hnext v w'' hv))
        · simp only [e, decide_false, if_false, Bool.false_eq_true] at hs ⊢
          exact ih _ _ _ hlm (hnext undef w' hs)
  have hrep : ∀ i, (Array.replicate l.toArray.size false).getD i false = false := by
    intro i
    rw [Array.getD_eq_getD_getElem?, Array.getElem?_replicate]
    split <;> rfl
  have h0 : DInvT T N n0 l F ρ w (Array.replicate l.toArray.size false) a { w with drawn := w.drawn + 1 } :=
    ⟨by simp, fun i o ho hi => by rw [hrep] at hi; exact absurd hi Bool.false_ne_true, fun k hk => hrep k, hT.drew _, ρ, ha, fun _ _ => rfl, fun i o ho hi => by rw [hrep] at hi; exact absurd hi Bool.false_ne_true⟩
  have := key n0 _ a _ (left_none n0 l.toArray.size (by simpa using hn0)) h0
  rw [show n0 + (l.length - n0) = l.toArray.size by simp; omega] at this
  exact this


end

/-- .. its facts as a list -/
theorem W.drawR {P : Program} {N : Nat} {l : List Oper} {ρ : Env} {w : World} {id : Nat} {n : Env → World → Prop} {x : Nat → Env → World → Prop} {r : Env → World → Prop} {T : World → World → Prop} (hT : Turns T) (hm : P.follows .mixedOrders = true) (n0 : Nat) (Fs : List (Value → World → Prop))
    (hok : drawOk N n0 l = true) (hn0 : Nat.ble n0 l.length = true) (hstay : ∀ Q ∈ Fs, ∀ v w1 w2, T w w1 → Q v w1 → T w1 w2 → Q v w2)
    (hstep : ∀ i o, (l.take n0)[i]? = some o → ∀ ρ' w', T w w' → (∀ t, t ∉ dsts (l.take n0) → ρ' t = ρ t) → (∀ j oj, l[j]? = some oj → pre l i j = true → (Fs.getD j fun _ _ => True) (slotOf ρ' oj) w') →
      GStep P l o ρ' w' (fun v w'' => (Fs.getD i fun _ _ => True) v w'' ∧ T w' w''))
    (hend : ∀ ρ' w', T w w' → (∀ t, t ∉ dsts (l.take n0) → ρ' t = ρ t) → (∀ i o, (l.take n0)[i]? = some o → (Fs.getD i fun _ _ => True) (slotOf ρ' o) w') → WL P N l.toArray (l.drop n0) n ρ' w') :
    W P N (.region id l.toArray true) n x r ρ w := by
  refine W.drawT hT hm n0 (fun i => Fs.getD i fun _ _ => True) hok (by simpa using hn0) ?_ hstep hend
  intro i v w1 w2 h1 hf h2
  rw [List.getD_eq_getElem?_getD] at hf ⊢
  cases hs : Fs[i]? with
  | none => simp
  | some Q => rw [hs] at hf; exact hstay Q (List.mem_of_getElem? hs) v w1 w2 h1 hf h2

section
variable {κ α : Type} {P : Program} {Ky : TypeId} {ek : κ → Value} {R : Value → α → Prop} {w : World} {b : Nat} {l : List (κ × α)}
variable [DecidableEq κ]
theorem MapR.look {T E : TypeId} {z : Value} (K' : KeyOk P Ky ek) (hT : P.underlying T = some (.map Ky E)) (hz : ∀ w, (zeroValue E).run P w = .ok z w) (hm : MapR w b ek R l) (a : κ) :
    ∃ v, (aget l a = none → v = z) ∧ (∀ x, aget l a = some x → R v x) ∧ (Instr.lookup T (.map (some b)) (ek a) false).run P w = .ok v w := by
  rcases mapR_lookup K' hT hz hm a false with ⟨h, hr⟩ | ⟨v, x, h, hr, hrun⟩
  · exact ⟨z, fun _ => rfl, fun x (hx : aget l a = some x) => by (rw [h] at hx; cases hx), hr⟩
  · exact ⟨v, fun hn => by (rw [h] at hn; cases hn), fun y (hy : aget l a = some y) => by (rw [h] at hy; cases hy; exact hr), hrun⟩
end

/-- whole numbers, as a map holds them -/
def RI (v : Value) (n : Int) : Prop := v = .int .i64 n
def cg {κ : Type} [DecidableEq κ] (c : List (κ × Int)) (a : κ) : Int := (aget c a).getD 0

/-- 'm[k] += n' while it is under way: the map as it was, or with the entry laid -/
def Half {κ : Type} [DecidableEq κ] (ek : κ → Value) (b : Nat) (c : List (κ × Int)) (a : κ) (w : World) : Prop := MapR w b ek RI c ∨ ∃ s, EntAt w b ek RI (aset c a (cg c a)) a s
def HalfT {κ : Type} [DecidableEq κ] (ek : κ → Value) (b : Nat) (c : List (κ × Int)) (a : κ) (w w' : World) : Prop :=
  Frm (fun k => k = b) w w' ∧ (Half ek b c a w → Half ek b c a w') ∧ ∀ s, EntAt w b ek RI (aset c a (cg c a)) a s → EntAt w' b ek RI (aset c a (cg c a)) a s

theorem EntAt.up0 {κ : Type} {ek : κ → Value} {b : Nat} {c : List (κ × Int)} {a : κ} {s : Int} {w w' : World} (h : EntAt w b ek RI c a s) (e : Up w w') : EntAt w' b ek RI c a s := by
  obtain ⟨es, k, h1, h2⟩ := h
  exact ⟨es, k, h1.up e, h2⟩

section
variable {κ : Type} [DecidableEq κ] {P : Program} {Ky : TypeId} {ek : κ → Value} {b : Nat} {c : List (κ × Int)} {a : κ} {w w' : World}
variable {ρ : Env} {K : Value → World → Prop} {d : Option Nat} {ty : TypeId} {ps : String} {af : Array Edge} {gd : Option (Nat × Bool)}

theorem HalfT.up (e : Up w w') : HalfT ek b c a w w' := ⟨e.frm, fun h => h.imp (fun h => h.up e fun _ _ h => h) fun ⟨s, h⟩ => ⟨s, h.up0 e⟩, fun _ h => h.up0 e⟩

theorem cg_aset {x : κ} {n : Int} : cg (aset c a n) x = if a = x then n else cg c x := by
  unfold cg; rw [aget_aset]; split <;> rfl

/-- the look-up -/
theorem st_lookHalf {T E : TypeId} {x y : Operand} (hx : ev ρ x = .map (some b)) (hy : ev ρ y = ek a) (K' : KeyOk P Ky ek) (hT : P.underlying T = some (.map Ky E)) (hz : ∀ w, (zeroValue E).run P w = .ok (.int .i64 0) w) (hm : Half ek b c a w)
    (h : K (.int .i64 (cg c a)) w) : Step P ⟨d, .lookup T x y false, ty, ps, af, gd⟩ ρ w K := by
  have key : ∀ l, MapR w b ek RI l → cg l a = cg c a → Step P ⟨d, .lookup T x y false, ty, ps, af, gd⟩ ρ w K := by
    intro l hl he
    refine st_lookup hx hy K' hT hz hl (fun hn => ?_) fun v u hu hv => ?_
    · have : cg c a = 0 := by rw [← he]; unfold cg; rw [hn]; rfl
      rw [this] at h; exact h
    · have : cg c a = u := by rw [← he]; unfold cg; rw [hu]; rfl
      rw [this] at h; cases hv; exact h
  rcases hm with hm | ⟨s, hm⟩
  · exact key c hm rfl
  · exact key _ hm.mapR (by rw [cg_aset]; simp)

/-- the entry is found, or laid -/
theorem st_entryHalf {T E : TypeId} {x y : Operand} (hx : ev ρ x = .map (some b)) (hy : ev ρ y = ek a) (K' : KeyOk P Ky ek) (hT : P.underlying T = some (.map Ky E)) (hz : ∀ w, (zeroValue E).run P w = .ok (.int .i64 0) w) (hm : Half ek b c a w)
    (h : ∀ v s w', EntAt w' b ek RI (aset c a (cg c a)) a s → HalfT ek b c a w w' → K (.tuple #[v, .int .i64 s]) w') : Step P ⟨d, .mapEntry T x y, ty, ps, af, gd⟩ ρ w K := by
  obtain ⟨L, hL, hcg, has⟩ : ∃ L, MapR w b ek RI L ∧ cg L a = cg c a ∧ aset L a (cg c a) = aset c a (cg c a) := by
    rcases hm with hm | ⟨s, hm⟩
    · exact ⟨c, hm, rfl, rfl⟩
    · exact ⟨_, hm.mapR, by rw [cg_aset]; simp, aset_self (by rw [aget_aset]; simp)⟩
  obtain ⟨es, clock, hb, hs, he⟩ := hL
  have same : ∀ {es' : Array MapEntry} {k' : Nat}, Blk w b (.map es' k') → es' = es := fun h => by
    have := (show w.heap[b]? = _ from h).symm.trans hb
    cases this; rfl
  rcases K'.find es.toList a w he.isKey with ⟨h1, h2⟩ | ⟨j, e, h1, h2, h3⟩
  · have hab := he.absent h2
    have hc0 : cg c a = 0 := by rw [← hcg]; unfold cg; rw [hab]; rfl
    have hEnt : EntAt (World.put w b (.map (es.push { key := ek a, val := .int .i64 0, born := clock }) (clock + 1))) b ek RI (aset c a (cg c a)) a (clock : Nat) := by
      refine ⟨_, _, put_blk hb, stamped_push hs h2, ?_, es.size, { key := ek a, val := .int .i64 0, born := clock }, by simp, rfl, rfl⟩
      rw [Array.toList_push, ← has]
      exact Ents.push he hab rfl (by rw [hc0]; rfl)
    refine st_val (v := .tuple #[.int .i64 0, .int .i64 clock]) (w' := World.put w b (.map (es.push { key := ek a, val := .int .i64 0, born := clock }) (clock + 1))) ?_ (h _ _ _ hEnt ⟨put_frm _, fun _ => .inr ⟨_, hEnt⟩, fun s0 h0 => ?_⟩)
    · simp [execOp, hx, hy, Instr.mapEntry, run_underlying hT, run_getMap hb, K'.check, h1, hz, run_setMap _ hb, World.put, goInt]
    · obtain ⟨es0, k0, hb0, _, _, j0, e0, hj0, hk0, _⟩ := h0
      rw [same hb0] at hj0
      exact absurd hk0 (h2 e0 (List.mem_of_getElem? hj0))
  · have hj : es[j]? = some e := by simpa using h2
    obtain ⟨u, hu, hr⟩ := he.present K' hs.2.2 h2 h3
    have hcu : cg c a = u := by rw [← hcg]; unfold cg; rw [hu]; rfl
    have hEnt : EntAt (World.put w b (.map (es.modify j fun e => { e with key := ek a }) clock)) b ek RI (aset c a (cg c a)) a (e.born : Nat) := by
      refine ⟨_, _, put_blk hb, stamped_modify hs j _ (fun _ _ => rfl) (fun e' _ h' => ?_), ?_, j, { e with key := ek a }, ?_, rfl, rfl⟩
      · rw [hj] at h'; cases h'; exact h3.symm
      · rw [Array.toList_modify, ← has, hcu]
        have hmod : es.toList.modify j (fun e => { e with key := ek a }) = es.toList.modify j (fun e => { e with key := ek a, val := e.val }) := rfl
        rw [hmod]
        exact Ents.set K' he hs.2.2 h2 h3 rfl hr
      · rw [Array.toList_modify, List.getElem?_modify_eq, h2]; rfl
    refine st_val (v := .tuple #[e.val, .int .i64 e.born]) (w' := World.put w b (.map (es.modify j fun e => { e with key := ek a }) clock)) ?_ (h _ _ _ hEnt ⟨put_frm _, fun _ => .inr ⟨_, hEnt⟩, fun s0 h0 => ?_⟩)
    · simp [execOp, hx, hy, Instr.mapEntry, run_underlying hT, run_getMap hb, K'.check, h1, hj, h3, K'.stays, run_setMap _ hb, World.put, goInt]
    · obtain ⟨es0, k0, hb0, _, _, j0, e0, hj0, hk0, hs0⟩ := h0
      rw [same hb0] at hj0
      have hjj : e0 = e := by
        have hnk := List.pairwise_iff_getElem.1 hs.2.2
        obtain ⟨hli, hei⟩ := List.getElem?_eq_some_iff.1 h2
        obtain ⟨hlj, hej⟩ := List.getElem?_eq_some_iff.1 hj0
        rcases Nat.lt_trichotomy j j0 with hlt | hlt | hlt
        · have := hnk j j0 (by simpa using hli) (by simpa using hlj) hlt
          simp only [List.getElem_map, hei, hej, h3, hk0] at this
          exact absurd rfl this
        · subst hlt; rw [h2] at hj0; cases hj0; rfl
        · have := hnk j0 j (by simpa using hlj) (by simpa using hli) hlt
          simp only [List.getElem_map, hei, hej, h3, hk0] at this
          exact absurd rfl this
      rw [← hs0, hjj]; exact hEnt
end

theorem turns_half {κ : Type} [DecidableEq κ] {ek : κ → Value} {b : Nat} {c : List (κ × Int)} {a : κ} : Turns (HalfT ek b c a) where
  refl _ := ⟨Frm.refl _ _, id, fun _ h => h⟩
  trans h k := ⟨h.1.trans k.1, fun x => k.2.1 (h.2.1 x), fun s x => k.2.2 s (h.2.2 s x)⟩
  drew _ := HalfT.up Up.drew
end Go.Tw
