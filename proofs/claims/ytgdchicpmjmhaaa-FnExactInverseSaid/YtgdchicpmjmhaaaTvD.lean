/-
  One step of a call's frame: what is touched, what stays. Conditions: none; plain definitions and lemmas.
-/
import Derived.Test.YtgdchicpmjmhaaaTvC
import Derived.RangeFuncRecord
namespace Go.Tv
set_option linter.unusedVariables false
set_option linter.unusedSimpArgs false
variable {P : Program}

/-! ### Layout by fields alone -/
theorem locAt_shp : ∀ (p : List Step) (a b : Ty) (w w' : World) (g o : Nat), fldOnly p = true → a.shp = b.shp → locAt a w g o p = locAt b w' g o p := by
  intro p
  induction p with
  | nil => intro a b w w' g o hp h; simp [locAt]
  | cons s p ih =>
    cases s with
    | idx i => intro a b w w' g o hp h; simp [fldOnly] at hp
    | fld k =>
      induction k with
      | zero =>
        intro a b w w' g o hp h
        cases a <;> cases b <;> simp only [Ty.shp, Ty.prod.injEq, reduceCtorEq] at h <;> first | (simp only [locAt]; done) | skip
        rename_i a1 a2 b1 b2
        simp only [locAt]
        exact ih a1 b1 w w' g o (by simpa [fldOnly] using hp) h.1
      | succ k ihk =>
        intro a b w w' g o hp h
        cases a <;> cases b <;> simp only [Ty.shp, Ty.prod.injEq, reduceCtorEq] at h <;> first | (simp only [locAt]; done) | skip
        rename_i a1 a2 b1 b2
        simp only [locAt]
        have hs : a1.sz = b1.sz := by rw [← Ty.shp_sz a1, ← Ty.shp_sz b1, h.1]
        rw [hs]
        exact ihk a2 b2 w w' g _ (by simpa [fldOnly] using hp) h.2

theorem inR_shp : ∀ (p : List Step) (a b : Ty) (x : a.den) (y : b.den), fldOnly p = true → a.shp = b.shp → inR a x p → inR b y p := by
  intro p
  induction p with
  | nil => intro a b x y hp h hi; simp [inR]
  | cons s p ih =>
    cases s with
    | idx i => intro a b x y hp h hi; simp [fldOnly] at hp
    | fld k =>
      induction k with
      | zero =>
        intro a b x y hp h hi
        cases a <;> cases b <;> simp only [Ty.shp, Ty.prod.injEq, reduceCtorEq] at h <;> first | (simp only [inR] at hi; done) | skip
        rename_i a1 a2 b1 b2
        simp only [inR] at hi ⊢
        exact ih a1 b1 x.1 y.1 (by simpa [fldOnly] using hp) h.1 hi
      | succ k ihk =>
        intro a b x y hp h hi
        cases a <;> cases b <;> simp only [Ty.shp, Ty.prod.injEq, reduceCtorEq] at h <;> first | (simp only [inR] at hi; done) | skip
        rename_i a1 a2 b1 b2
        simp only [inR] at hi ⊢
        exact ihk a2 b2 x.2 y.2 (by simpa [fldOnly] using hp) h.2 hi

theorem free_fldOnly : ∀ (p : List Step) (t : Ty) (x : t.den), t.free = true → inR t x p → fldOnly p = true := by
  intro p
  induction p with
  | nil => intro t x hf hi; rfl
  | cons s p ih =>
    cases s with
    | idx i => intro t x hf hi; cases t <;> first | (simp [inR] at hi; done) | (simp [Ty.free] at hf; done)
    | fld k =>
      induction k with
      | zero =>
        intro t x hf hi
        cases t <;> first | (simp [inR] at hi; done) | skip
        simp only [Ty.free, Bool.and_eq_true] at hf
        simp only [inR] at hi
        exact ih _ _ hf.1 hi
      | succ k ihk =>
        intro t x hf hi
        cases t <;> first | (simp [inR] at hi; done) | skip
        simp only [Ty.free, Bool.and_eq_true] at hf
        simp only [inR] at hi
        exact ihk _ _ hf.2 hi

theorem free_getAt : ∀ (p : List Step) (t : Ty) (x : t.den) (v : V), t.free = true → getAt t x p = some v → v.t.free = true := by
  intro p
  induction p with
  | nil => intro t x v hf hv; simp only [getAt, Option.some.injEq] at hv; subst hv; exact hf
  | cons s p ih =>
    cases s with
    | idx i => intro t x v hf hv; cases t <;> first | (simp [getAt] at hv; done) | (simp [Ty.free] at hf; done)
    | fld k =>
      induction k with
      | zero =>
        intro t x v hf hv
        cases t <;> first | (simp [getAt] at hv; done) | skip
        simp only [Ty.free, Bool.and_eq_true] at hf
        simp only [getAt] at hv
        exact ih _ _ _ hf.1 hv
      | succ k ihk =>
        intro t x v hf hv
        cases t <;> first | (simp [getAt] at hv; done) | skip
        simp only [Ty.free, Bool.and_eq_true] at hf
        simp only [getAt] at hv
        exact ihk _ _ _ hf.2 hv

/-! ### One step -/
/-- How a touched slot's word may turn, so that what leads to it is either out of date or still right. -/
def Turn (old new : Ent) (rv rv' : Value) : Prop :=
  old.2.1 < new.2.1 ∨
  (new.2.1 = old.2.1 ∧ old.2.2 < new.2.2 ∧ rv' = rv ∧ ∃ v v', old.1 = .box v ∧ new.1 = .box v' ∧ v.t.shp = v'.t.shp) ∨
  (new.2 = old.2 ∧ rv' = rv ∧ ∃ (e : TypeId) (t : Ty) (x y : List t.den), old.1 = .val ⟨.own e t, x⟩ ∧ new.1 = .val ⟨.own e t, y⟩ ∧ x.length = y.length ∧ t.free = true)

theorem srep_turn {w w' : World} {S S' F : BS} {get get' : Rd} {tmps tmps' : Array Value} {s : Slot} {u : Value} (h : SRep P w S F get tmps s u) (hS : KeepS S w w') (hSS : S.sub S') (hF : KeepS F w w')
    (hroot : ∀ j, Turn (get j) (get' j) (tmps.getD j undef) (tmps'.getD j undef) ∨ (get' j = get j ∧ tmps'.getD j undef = tmps.getD j undef ∧ ∃ Fj, SRep P w S Fj get tmps (get j).1 (tmps.getD j undef) ∧ KeepS Fj w w')) :
    SRep P w' S' F get' tmps' s u := by
  cases s with
  | undef => trivial
  | val v => obtain ⟨cs, rfl, hr⟩ := h; exact ⟨cs, rfl, rep_mono _ (rep_keep _ hr hS hF) hSS (BS.sub_refl _)⟩
  | box v =>
    obtain ⟨g, cs, e, F', rfl, hh, hg, hr, hs, hn⟩ := h
    exact ⟨g, cs, e, F', rfl, (hF g hg).trans hh, hg, rep_mono _ (rep_keep _ hr hS (hF.mono hs)) hSS (BS.sub_refl _), hs, hn⟩
  | tup vs => obtain ⟨us, rfl, hr⟩ := h; exact ⟨us, rfl, repT_mono vs (repT_keep vs hr hS hF) hSS (BS.sub_refl _)⟩
  | nil => exact h
  | skip => exact h
  | ref j p n m =>
    obtain ⟨h1, h2⟩ := h
    rcases hroot j with (ht | ⟨t1, t2, t3, v, v', e1, e2, e3⟩ | ⟨t1, t2, e, t, x, y, e1, e2, e3, e4⟩) | ⟨e1, e2, Fj, hj, hk⟩
    · exact ⟨by omega, fun hn => by omega⟩
    · refine ⟨by omega, fun hn => ⟨by have := (h2 (by omega)).1; omega, fun hm => ?_⟩⟩
      have hm1 := (h2 (by omega)).1
      have hf : fldOnly p = true := hm.resolve_right (by omega)
      obtain ⟨hi, g, o, hl, hu⟩ := (h2 (by omega)).2 (.inl hf)
      rw [e1] at hi hl
      rw [t3, e2]
      refine ⟨inR_shp p v.t v'.t v.x v'.x hf e3 hi, g, o, ?_, hu⟩
      generalize tmps.getD j undef = rv at hl ⊢
      cases rv with
      | pointer a =>
        cases a with
        | none => simp [Slot.rloc] at hl
        | some a =>
          simp only [Slot.rloc] at hl ⊢
          exact (locAt_shp p v.t v'.t w w' _ _ hf e3).symm.trans hl
      | _ => simp [Slot.rloc] at hl
    · show n ≤ (get' j).2.1 ∧ ((get' j).2.1 = n → m ≤ (get' j).2.2 ∧ (fldOnly p = true ∨ (get' j).2.2 = m → RefOk w' (get' j).1 (tmps'.getD j undef) p u))
      rw [show (get' j).2.1 = (get j).2.1 from by rw [t1], show (get' j).2.2 = (get j).2.2 from by rw [t1]]
      refine ⟨h1, fun hn => ⟨(h2 hn).1, fun hm => ?_⟩⟩
      obtain ⟨hi, g, o, hl, hu⟩ := (h2 hn).2 hm
      rw [e1] at hi hl
      rw [t2, e2]
      cases p with
      | nil => generalize tmps.getD j undef = rv at hl; cases rv <;> (try rename_i q _ _; cases q) <;> simp [Slot.rloc] at hl
      | cons s p =>
        cases s with
        | fld k => cases k <;> simp [Slot.rin, inR] at hi
        | idx i =>
          simp only [Slot.rin, inR] at hi
          have hfo := free_fldOnly p t _ e4 hi.2
          refine ⟨⟨by rw [← e3]; exact hi.1, inR_shp p t t _ _ hfo rfl hi.2⟩, g, o, ?_, hu⟩
          generalize tmps.getD j undef = rv at hl ⊢
          cases rv with
          | slice a len cap =>
            cases a with
            | none => simp [Slot.rloc] at hl
            | some a => exact (locAt_shp p t t w w' _ _ hfo rfl).symm.trans hl
          | _ => simp [Slot.rloc] at hl
    · show n ≤ (get' j).2.1 ∧ ((get' j).2.1 = n → m ≤ (get' j).2.2 ∧ (fldOnly p = true ∨ (get' j).2.2 = m → RefOk w' (get' j).1 (tmps'.getD j undef) p u))
      rw [e1, e2]
      refine ⟨h1, fun hn => ⟨(h2 hn).1, fun hm => ?_⟩⟩
      obtain ⟨hi, g, o, hl, hu⟩ := (h2 hn).2 hm
      exact ⟨hi, g, o, (rloc_keep hj hk hi).trans hl, hu⟩
  | ali j p n m =>
    obtain ⟨h1, h2⟩ := h
    rcases hroot j with (ht | ⟨t1, t2, t3, v, v', e1, e2, e3⟩ | ⟨t1, t2, e, t, x, y, e1, e2, e3, e4⟩) | ⟨e1, e2, Fj, hj, hk⟩
    · exact ⟨by omega, fun hn => by omega⟩
    · refine ⟨by omega, fun hn => ⟨by have := (h2 (by omega)).1; omega, fun hm => ?_⟩⟩
      have hm1 := (h2 (by omega)).1
      omega
    · show n ≤ (get' j).2.1 ∧ ((get' j).2.1 = n → m ≤ (get' j).2.2 ∧ ((get' j).2.2 = m → AliOk w' (get' j).1 (tmps'.getD j undef) p u))
      rw [show (get' j).2.1 = (get j).2.1 from by rw [t1], show (get' j).2.2 = (get j).2.2 from by rw [t1]]
      refine ⟨h1, fun hn => ⟨(h2 hn).1, fun hm => ?_⟩⟩
      rcases (h2 hn).2 hm with ⟨q1, q2, q3⟩ | ⟨hi, g, o, v, cs, hl, hv, hfr, hc, hlen, hu⟩
      · exact .inl ⟨q1, ⟨_, e2⟩, by rw [t2]; exact q3⟩
      · exfalso
        rw [e1] at hi hv
        cases p with
        | nil =>
          rw [e1] at hl
          generalize tmps.getD j undef = rv at hl; cases rv <;> (try rename_i q _ _; cases q) <;> simp [Slot.rloc] at hl
        | cons s p =>
          cases s with
          | fld k => cases k <;> simp [Slot.rin, inR] at hi
          | idx i =>
            simp only [Slot.rget, getAt] at hv
            rw [free_getAt p t _ v e4 hv] at hfr
            cases hfr
    · show n ≤ (get' j).2.1 ∧ ((get' j).2.1 = n → m ≤ (get' j).2.2 ∧ ((get' j).2.2 = m → AliOk w' (get' j).1 (tmps'.getD j undef) p u))
      rw [e1, e2]
      refine ⟨h1, fun hn => ⟨(h2 hn).1, fun hm => ?_⟩⟩
      rcases (h2 hn).2 hm with h | ⟨hi, g, o, v, cs, hl, hv, hfr, hc, hlen, hu⟩
      · exact .inl h
      · exact .inr ⟨hi, g, o, v, cs, (rloc_keep hj hk hi).trans hl, hv, hfr, hc.keep (hk g (rloc_in hj hi hl)), hlen, hu⟩

open Classical in
/-- THE STEP: the slots of T are touched; what they own lies in what T's owned before or is new; the rest stays. -/
theorem sim_gen {n : Sz} {w0 : World} {S0 F0 : BS} {get get' : Rd} {a a' : Act} {w w' : World} {S : BS} {fp : Tmp → BS} (h : SimX P n w0 S0 F0 get a w S fp)
    (T : Tmp → Prop) (G : Tmp → BS) (Sx : BS) (hdef : a'.defers = n.dfs) (hsize : a'.tmps.size = n.sz) (hkp : Kp (fun g => ∃ t, T t ∧ fp t g) w w')
    (hG : ∀ t, T t → ∀ g, G t g → (∃ u, T u ∧ fp u g) ∨ (w.heap.size ≤ g ∧ g < w'.heap.size))
    (hGd : ∀ t u, T t → T u → t ≠ u → BS.dis (G t) (G u))
    (hSx : ∀ g, Sx g → (∃ u, T u ∧ fp u g) ∨ (w.heap.size ≤ g ∧ g < w'.heap.size))
    (hSd : ∀ t, T t → BS.dis Sx (G t))
    (hun : ∀ t, ¬ T t → get' t = get t ∧ a'.tmps.getD t undef = a.tmps.getD t undef)
    (hturn : ∀ t, T t → Turn (get t) (get' t) (a.tmps.getD t undef) (a'.tmps.getD t undef))
    (hnew : ∀ t, T t → SRep P w' (BS.un S Sx) (G t) get' a'.tmps (get' t).1 (a'.tmps.getD t undef)) :
    SimX P n w0 S0 F0 get' a' w' (BS.un S Sx) (fun t => if T t then G t else fp t) := by
  have hbound : ∀ g, ((∃ u, T u ∧ fp u g) ∨ (w.heap.size ≤ g ∧ g < w'.heap.size)) → (F0 g ∨ w0.heap.size ≤ g) ∧ g < w'.heap.size := by
    rintro g (⟨u, _, hu⟩ | ⟨h1, h2⟩)
    · exact ⟨(h.fpb u g hu).1, Nat.lt_of_lt_of_le (h.fpb u g hu).2 hkp.size⟩
    · exact ⟨.inr (Nat.le_trans h.kp.size h1), h2⟩
  have hout : ∀ u, ¬ T u → ∀ g, fp u g → ¬ ((∃ t, T t ∧ fp t g) ∨ (w.heap.size ≤ g ∧ g < w'.heap.size)) := by
    rintro u hu g hg (⟨t, ht, hf⟩ | ⟨h1, _⟩)
    · exact h.apart t u (fun e => hu (e ▸ ht)) g hf hg
    · have := (h.fpb u g hg).2; omega
  have hSout : ∀ g, S g → ¬ ((∃ t, T t ∧ fp t g) ∨ (w.heap.size ≤ g ∧ g < w'.heap.size)) := by
    rintro g hg (⟨t, ht, hf⟩ | ⟨h1, _⟩)
    · exact h.sapart t g hg hf
    · have := (h.sb g hg).2; omega
  have hkS : KeepS S w w' := fun g hg => hkp.block g (h.sb g hg).2 (fun hx => hSout g hg (.inl hx))
  have hkU : ∀ u, ¬ T u → KeepS (fp u) w w' := fun u hu g hg => hkp.block g (h.fpb u g hg).2 (fun hx => hout u hu g hg (.inl hx))
  refine ⟨hdef, hsize, ?_, ?_, ?_, ?_, ?_, ?_, ⟨h.marks.1, fun D hD => ?_⟩⟩
  · intro t
    by_cases ht : T t
    · rw [if_pos ht]; exact hnew t ht
    · rw [if_neg ht, (hun t ht).1, (hun t ht).2]
      refine srep_turn (h.slot t) hkS (fun g hg => .inl hg) (hkU t ht) (fun j => ?_)
      by_cases hj : T j
      · exact .inl (hturn j hj)
      · exact .inr ⟨(hun j hj).1, (hun j hj).2, fp j, h.slot j, hkU j hj⟩
  · intro t u htu g h1 h2
    by_cases ht : T t
    · rw [if_pos ht] at h1
      by_cases hu : T u
      · rw [if_pos hu] at h2; exact hGd t u ht hu htu g h1 h2
      · rw [if_neg hu] at h2; exact hout u hu g h2 (hG t ht g h1)
    · rw [if_neg ht] at h1
      by_cases hu : T u
      · rw [if_pos hu] at h2; exact hout t ht g h1 (hG u hu g h2)
      · rw [if_neg hu] at h2; exact h.apart t u htu g h1 h2
  · intro t g h1 h2
    by_cases ht : T t
    · rw [if_pos ht] at h2
      rcases h1 with h1 | h1
      · exact hSout g h1 (hG t ht g h2)
      · exact hSd t ht g h1 h2
    · rw [if_neg ht] at h2
      rcases h1 with h1 | h1
      · exact h.sapart t g h1 h2
      · exact hout t ht g h2 (hSx g h1)
  · intro t g hg
    by_cases ht : T t
    · rw [if_pos ht] at hg; exact hbound g (hG t ht g hg)
    · rw [if_neg ht] at hg
      exact ⟨(h.fpb t g hg).1, Nat.lt_of_lt_of_le (h.fpb t g hg).2 hkp.size⟩
  · intro g hg
    rcases hg with hg | hg
    · exact ⟨(h.sb g hg).1, Nat.lt_of_lt_of_le (h.sb g hg).2 hkp.size⟩
    · have := hbound g (hSx g hg)
      exact ⟨.inr this.1, this.2⟩
  · exact h.kp.trans hkp (fun g hlt ⟨t, _, hf⟩ => ((h.fpb t g hf).1).resolve_right (by omega))
  · obtain ⟨hD1, hD2, hD3, hD4⟩ := h.marks.2 D hD
    have hlt : D < w.heap.size := (Array.getElem?_eq_some_iff.1 hD1).1
    have hno : ¬ ((∃ t, T t ∧ fp t D) ∨ (w.heap.size ≤ D ∧ D < w'.heap.size)) := by
      rintro (⟨t, _, hf⟩ | ⟨h1, _⟩)
      · exact hD4 t hf
      · omega
    refine ⟨(hkp.block D hlt (fun hx => hno (.inl hx))).trans hD1, hD2, ?_, fun t hf => ?_⟩
    · rintro (hg | hg)
      · exact hD3 hg
      · exact hno (hSx D hg)
    · by_cases ht : T t
      · rw [if_pos ht] at hf; exact hno (hG t ht D hf)
      · rw [if_neg ht] at hf; exact hD4 t hf

/-- a mark is taken off -/
theorem sim_close {m : Nat} {D : Nat} {mks : List Nat} {w0 : World} {S0 F0 : BS} {get : Rd} {a : Act} {w : World} {S : BS} {fp : Tmp → BS} (h : SimX P ⟨m, D :: mks⟩ w0 S0 F0 get a w S fp) (a' : Act) (ht : a'.tmps = a.tmps) (hd : a'.defers = (Sz.mk m mks).dfs) :
    SimX P ⟨m, mks⟩ w0 S0 F0 get a' (w.putObj D (.deferred none)) S fp := by
  obtain ⟨hD1, hD2, hD3, hD4⟩ := h.marks.2 D List.mem_cons_self
  have hnd := List.nodup_cons.1 h.marks.1
  have hk : Kp (fun g => g = D) w (w.putObj D (.deferred none)) := ⟨rfl, rfl, rfl, by simp, fun g _ hg => World.putObj_heap_other hg⟩
  have hS : KeepS S w (w.putObj D (.deferred none)) := fun g hg => World.putObj_heap_other (fun e => hD3 (e ▸ hg))
  have hF : ∀ t, KeepS (fp t) w (w.putObj D (.deferred none)) := fun t g hg => World.putObj_heap_other (fun e => hD4 t (e ▸ hg))
  have hsz : (w.putObj D (.deferred none)).heap.size = w.heap.size := by simp
  refine ⟨hd, by rw [ht]; exact h.size, fun t => ?_, h.apart, h.sapart, fun t g hg => ?_, fun g hg => ?_, ?_, hnd.2, fun D' hD' => ?_⟩
  · rw [ht]; exact srep_keep (h.slot t) hS (hF t) (fun j => ⟨fp j, h.slot j, hF j⟩)
  · rw [hsz]; exact h.fpb t g hg
  · rw [hsz]; exact h.sb g hg
  · exact h.kp.trans hk (fun g hlt e => by omega)
  · obtain ⟨q1, q2, q3, q4⟩ := h.marks.2 D' (List.mem_cons_of_mem _ hD')
    have hne : D' ≠ D := fun e => hnd.1 (e ▸ hD')
    exact ⟨(World.putObj_heap_other hne).trans q1, q2, q3, q4⟩
end Go.Tv
