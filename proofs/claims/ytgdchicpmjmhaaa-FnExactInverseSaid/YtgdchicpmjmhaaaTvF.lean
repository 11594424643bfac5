/-
  Taking, sharing and looking at what a slot holds. Conditions: none; plain definitions and lemmas.
-/
import Derived.Test.YtgdchicpmjmhaaaTvE
namespace Go.Tv
set_option linter.unusedVariables false
set_option linter.unusedSimpArgs false
variable {P : Program}

theorem locAt_fld : ∀ (p : List Step) (t : Ty) (w : World) (g o g' o' : Nat), fldOnly p = true → locAt t w g o p = some (g', o') → g' = g := by
  intro p
  induction p with
  | nil => intro t w g o g' o' hp h; simp only [locAt, Option.some.injEq, Prod.mk.injEq] at h; exact h.1.symm
  | cons s p ih =>
    cases s with
    | idx i => intro t w g o g' o' hp h; simp [fldOnly] at hp
    | fld k =>
      induction k with
      | zero =>
        intro t w g o g' o' hp h
        cases t <;> first | (simp [locAt] at h; done) | skip
        simp only [locAt] at h
        exact ih _ w g o g' o' (by simpa [fldOnly] using hp) h
      | succ k ihk =>
        intro t w g o g' o' hp h
        cases t <;> first | (simp [locAt] at h; done) | skip
        simp only [locAt] at h
        exact ihk _ w g _ g' o' (by simpa [fldOnly] using hp) h

theorem inR_fld : ∀ (p : List Step) (t : Ty) (x : t.den) (v : V), fldOnly p = true → getAt t x p = some v → inR t x p := by
  intro p
  induction p with
  | nil => intro t x v hp h; simp [inR]
  | cons s p ih =>
    cases s with
    | idx i => intro t x v hp h; simp [fldOnly] at hp
    | fld k =>
      induction k with
      | zero =>
        intro t x v hp h
        cases t <;> first | (simp [getAt] at h; done) | skip
        simp only [getAt] at h
        simp only [inR]
        exact ih _ _ v (by simpa [fldOnly] using hp) h
      | succ k ihk =>
        intro t x v hp h
        cases t <;> first | (simp [getAt] at h; done) | skip
        simp only [getAt] at h
        simp only [inR]
        exact ihk _ _ v (by simpa [fldOnly] using hp) h

theorem setAt_shp : ∀ (p : List Step) (t : Ty) (x : t.den) (u v v' : V), getAt t x p = some u → u.t.shp = v.t.shp → setAt t x p v = some v' → v'.t.shp = t.shp := by
  intro p
  induction p with
  | nil =>
    intro t x u v v' hg hs h
    simp only [getAt, Option.some.injEq] at hg
    simp only [setAt, Option.some.injEq] at h
    subst hg; subst h
    exact hs.symm
  | cons s p ih =>
    cases s with
    | idx i =>
      intro t x u v v' hg hs h
      cases t <;> first | (simp [getAt] at hg; done) | skip
      simp only [setAt, Option.bind_eq_some_iff] at h
      obtain ⟨q, hq, h⟩ := h
      simp only [Option.map_eq_some_iff] at h
      obtain ⟨y, _, rfl⟩ := h
      rfl
    | fld k =>
      induction k with
      | zero =>
        intro t x u v v' hg hs h
        cases t <;> first | (simp [getAt] at hg; done) | skip
        simp only [getAt] at hg
        simp only [setAt, Option.map_eq_some_iff] at h
        obtain ⟨q, hq, rfl⟩ := h
        simp only [Ty.shp, ih _ _ u v q hg hs hq]
      | succ k ihk =>
        intro t x u v v' hg hs h
        cases t <;> first | (simp [getAt] at hg; done) | skip
        simp only [getAt] at hg
        simp only [setAt, Option.map_eq_some_iff] at h
        obtain ⟨q, hq, rfl⟩ := h
        simp only [Ty.shp, ihk _ _ u v q hg hs hq]

theorem seg_self {cur : List Value} {o n : Nat} (h : o + n ≤ cur.length) : seg cur o ((cur.drop o).take n) = cur := by
  unfold seg
  have hl : ((cur.drop o).take n).length = n := by simp; omega
  rw [hl, List.append_assoc]
  have : (cur.drop o).take n ++ cur.drop (o + n) = cur.drop o := by
    rw [← List.drop_drop]; exact List.take_append_drop n _
  rw [this, List.take_append_drop]

/-- A place of a box, by fields alone: what is there, and what else may be seen there. -/
theorem box_view {w : World} {S F : BS} {v u : V} {cs : List Value} {g : Nat} {e : TypeId} {p : List Step} (hh : w.heap[g]? = some (.cells cs.toArray e (0, 0))) (hr : Rep P v.t w S F v.x cs) (hn : ¬ F g)
    (hp : fldOnly p = true) (hu : getAt v.t v.x p = some u) :
    ∃ o cu Fv Fr, locAt v.t w g 0 p = some (g, o) ∧ CellsAt w g o cu ∧ Rep P u.t w S Fv u.x cu ∧ BS.dis Fv Fr ∧ BS.sub Fv F ∧ BS.sub Fr F ∧
      ∀ (u' v' : V) (S' Fu : BS), S.sub S' → Rep P u'.t w S' Fu u'.x cu → BS.dis Fu Fr → BS.sub Fu F → setAt v.t v.x p u' = some v' → Rep P v'.t w S' (BS.un Fr Fu) v'.x cs := by
  have hl := rep_len _ hr
  have hcs : (cs.toArray.toList.drop 0).take v.t.sz = cs := by rw [← hl]; simp
  obtain ⟨g', o', cur', e', Fv, Fr, L⟩ := lens p v.t w S F g 0 cs.toArray e v.x u hh (by simp [hl]) (by rw [hcs]; exact hr) hn (inR_fld p v.t v.x u hp hu) hu
  obtain rfl := locAt_fld p v.t w g 0 g' o' hp L.loc
  rcases L.place with ⟨_, q2, q3, _, q5⟩ | ⟨q1, _⟩
  case inr => exact absurd rfl q1
  subst q2; subst q3
  refine ⟨o', _, Fv, Fr, L.loc, cellsAt_row L.heap, L.rep, L.dis, L.subv, L.subr, ?_⟩
  intro u' v' S' Fu hSS hu' hd hsub hs
  have hlen : ((cs.toArray.toList.drop o').take u.t.sz).length = u.t.sz := rep_len _ L.rep
  obtain ⟨hz, hq⟩ := L.back S' u' v' Fu w _ cs.toArray hSS hlen hu' hd (fun h => hn (hsub _ h)) (fun h => hn (hsub _ h)) (KeepS.refl _ _) (fun _ _ _ => rfl)
    (by rw [seg_self (by simpa using L.fits)]; simpa using L.heap) (fun h => absurd rfl h) (fun _ => by rw [seg_self (by simpa using L.fits)]) hs
  rw [hcs] at hq
  exact hq

/-! ### Getting a value out of an operand -/
def nilV : Option Ty → Option V
  | some (.own e t) => some ⟨.own e t, ([] : List t.den)⟩
  | some (.slice t) => some ⟨.slice t, ([] : List t.den)⟩
  | _ => none

/-- with what it owns: the source is left without -/
def takeV (rd : Rd) (hint : Option Ty) (x : Operand) : Option (V × Patch) :=
  match rdO rd x with
  | (.val v, _, _) => if v.t.free then some (v, []) else match x with | .tmp j => some (v, [(j, .undef, .new)]) | _ => none
  | (.ali j p n m, _, _) =>
    if (rd j).2 = (n, m) then
      match (rd j).1 with
      | .val v => if p.isEmpty then some (v, [(j, .undef, .new)]) else none
      | .box v => if p.isEmpty && v.t.isAg then some (v, [(j, .undef, .new)]) else
          if fldOnly p then (getAt v.t v.x p).bind fun u => if u.t.isAg then none else (setAt v.t v.x p ⟨.hole, ()⟩).map fun v' => (u, [(j, .box v', .hdr)])
          else none
      | _ => none
    else none
  | (.nil, _, _) => (nilV hint).map fun v => (v, [])
  | _ => none

/-- to be read by whoever likes, and written by nobody any more -/
def shareV (rd : Rd) (hint : Option Ty) (x : Operand) : Option (V × Patch) :=
  match rdO rd x with
  | (.val v, _, _) => if v.t.free then some (v, []) else match x with | .tmp j => some (v.frz, [(j, .val v.frz, .new)]) | _ => none
  | (.ali j p n m, _, _) =>
    if (rd j).2 = (n, m) then
      match (rd j).1 with
      | .val v => if p.isEmpty then some (v.frz, [(j, .val v.frz, .new)]) else none
      | .box v => if fldOnly p then (getAt v.t v.x p).bind fun u => (setAt v.t v.x p u.frz).map fun v' => (u.frz, [(j, .box v', .hdr)]) else none
      | _ => none
    else none
  | (.nil, _, _) => (nilV hint).map fun v => (v.frz, [])
  | (.box v, _, _) => match x with | .tmp j => if v.t.free then some (⟨.cellp v.t, v.x⟩, [(j, .val ⟨.cellp v.t, v.x⟩, .new)]) else some (⟨.cellp v.t.frz, v.frz.x⟩, [(j, .val ⟨.cellp v.t.frz, v.frz.x⟩, .new)]) | _ => none
  | _ => none

/-- looked at, for this moment -/
def peekV (rd : Rd) (hint : Option Ty) (x : Operand) : Option V :=
  match rdO rd x with
  | (.val v, _, _) => some (if v.t.free then v else v.frz)
  | (.ali j p n m, _, _) => if (rd j).2 = (n, m) then ((rd j).1.rget p).map V.frz else none
  | (.nil, _, _) => (nilV hint).map V.frz
  | _ => none

/-- a slot that leads to no other -/
def Slot.solo : Slot → Bool
  | .ref _ _ _ _ => false
  | .ali _ _ _ _ => false
  | _ => true
theorem srep_solo {w w' : World} {S F : BS} {get get' : Rd} {tmps tmps' : Array Value} {s : Slot} {u : Value} (hs : s.solo = true) (h : SRep P w S F get tmps s u) (hS : KeepS S w w') (hF : KeepS F w w') : SRep P w' S F get' tmps' s u := by
  cases s with
  | undef => trivial
  | val v => obtain ⟨cs, rfl, hr⟩ := h; exact ⟨cs, rfl, rep_keep _ hr hS hF⟩
  | box v =>
    obtain ⟨g, cs, e, F', rfl, hh, hg, hr, hs, hn⟩ := h
    exact ⟨g, cs, e, F', rfl, (hF g hg).trans hh, hg, rep_keep _ hr hS (hF.mono hs), hs, hn⟩
  | ref j p n m => simp [Slot.solo] at hs
  | ali j p n m => simp [Slot.solo] at hs
  | tup vs => obtain ⟨us, rfl, hr⟩ := h; exact ⟨us, rfl, repT_keep vs hr hS hF⟩
  | nil => exact h
  | skip => exact h

section
variable {n : Sz} {w0 : World} {S0 F0 : BS} {get rd : Rd} {a : Act} {w : World} {S : BS} {fp : Tmp → BS}

/-- What was got of an operand's value u: the datum v, owning Fv; what became shared: Sx; how the source is left: pt. -/
def Got (P : Program) (get : Rd) (a : Act) (w : World) (S : BS) (fp : Tmp → BS) (u : Value) (v : V) (pt : Patch) (Fv Sx : BS) : Prop :=
  ∃ cs, u = v.t.toV cs ∧ Rep P v.t w (BS.un S Sx) Fv v.x cs ∧
    ((pt = [] ∧ Fv = BS.bot ∧ Sx = BS.bot) ∨
     ∃ j s b Fr, pt = [(j, s, b)] ∧ BS.dis Fv Fr ∧ BS.dis Sx Fr ∧ BS.dis Sx Fv ∧ BS.sub Fv (fp j) ∧ BS.sub Fr (fp j) ∧ BS.sub Sx (fp j) ∧
       s.solo = true ∧ SRep P w (BS.un S Sx) Fr get a.tmps s (a.tmps.getD j undef) ∧ Turn (get j) (s, bump (get j).2 b) (a.tmps.getD j undef) (a.tmps.getD j undef))

theorem turn_new {e : Ent} {s : Slot} {u u' : Value} : Turn e (s, bump e.2 .new) u u' := .inl (by simp [bump])
theorem turn_box {v v' : V} {k : Nat × Nat} {u : Value} (h : v.t.shp = v'.t.shp) : Turn (.box v, k) (.box v', bump k .hdr) u u := .inr (.inl ⟨rfl, by simp [bump], rfl, v, v', rfl, rfl, h⟩)

theorem nilV_rep {hint : Option Ty} {v : V} (h : nilV hint = some v) (w : World) (S : BS) : ∃ cs, (Value.slice none 0 0) = v.t.toV cs ∧ Rep P v.t w S BS.bot v.x cs := by
  unfold nilV at h
  split at h
  · simp only [Option.some.injEq] at h; subst h; exact ⟨[.slice none 0 0], rfl, .inl ⟨rfl, rfl⟩⟩
  · simp only [Option.some.injEq] at h; subst h; exact ⟨[.slice none 0 0], rfl, none, 0, rfl, Nat.le_refl _, Nat.zero_le _, fun hn => absurd rfl hn⟩
  · cases h

theorem un_bot {S : BS} : S.sub (BS.un S BS.bot) := fun _ h => .inl h

theorem take_got (h : SimX P n w0 S0 F0 get a w S fp) (hb : Below rd get) {hint : Option Ty} {x : Operand} {v : V} {pt : Patch} (ht : takeV rd hint x = some (v, pt)) : ∃ Fv, Got P get a w S fp (a.eval x) v pt Fv BS.bot := by
  unfold takeV at ht
  split at ht
  · rename_i v1 n1 m1 hx
    have hr := rdO_rep h hb hx (by simp)
    by_cases hf : v1.t.free = true
    · simp only [hf, if_true, Option.some.injEq, Prod.mk.injEq] at ht
      obtain ⟨rfl, rfl⟩ := ht
      obtain ⟨cs, hu, hr⟩ := hr
      exact ⟨BS.bot, cs, hu, rep_mono _ (rep_free _ hf hr) un_bot (BS.sub_refl _), .inl ⟨rfl, rfl, rfl⟩⟩
    · simp only [hf, Bool.false_eq_true, if_false] at ht
      split at ht
      · rename_i j
        simp only [Option.some.injEq, Prod.mk.injEq] at ht
        obtain ⟨rfl, rfl⟩ := ht
        obtain ⟨cs, hu, hr⟩ := hr
        exact ⟨fp j, cs, hu, rep_mono _ hr un_bot (BS.sub_refl _), .inr ⟨j, .undef, .new, BS.bot, rfl, BS.dis_bot _, BS.bot_dis _, BS.bot_dis _, BS.sub_refl _, BS.bot_sub _, BS.bot_sub _, rfl, trivial, turn_new⟩⟩
      · cases ht
  · rename_i j p n1 m1 e1 e2 hx
    have hr := rdO_rep h hb hx (by simp)
    by_cases hv : (rd j).2 = (n1, m1)
    · rw [if_pos hv] at ht
      cases hroot : (rd j).1 with
      | val v1 =>
        simp only [hroot] at ht
        by_cases hp : p.isEmpty = true
        · simp only [hp, if_true, Option.some.injEq, Prod.mk.injEq] at ht
          obtain ⟨rfl, rfl⟩ := ht
          have hp0 : p = [] := List.isEmpty_iff.1 hp
          subst hp0
          have hg := hb.eq (t := j) (s := .val v1) (n := (n1, m1)) (by rw [← hroot, ← hv]) (by simp)
          have hj := h.slot j
          rw [hg] at hj
          obtain ⟨cs, hu, hj⟩ := hj
          obtain ⟨_, hr⟩ := hr
          rw [hg] at hr
          have hali := (hr rfl).2 rfl
          have hval : a.eval x = a.tmps.getD j undef := by
            rcases hali with ⟨_, _, h3⟩ | ⟨_, g, o, _, _, hl, _⟩
            · exact h3
            · exfalso
              cases v1 with
              | mk t1 x1 =>
                revert hl
                generalize a.tmps.getD j undef = rv
                cases t1 <;> cases rv <;> (try rename_i q _ _; cases q) <;> simp [Slot.rloc]
          exact ⟨fp j, cs, hval.trans hu, rep_mono _ hj un_bot (BS.sub_refl _), .inr ⟨j, .undef, .new, BS.bot, rfl, BS.dis_bot _, BS.bot_dis _, BS.bot_dis _, BS.sub_refl _, BS.bot_sub _, BS.bot_sub _, rfl, trivial, turn_new⟩⟩
        · simp only [hp, Bool.false_eq_true, if_false] at ht
          cases ht
      | box v1 =>
        simp only [hroot] at ht
        have hg := hb.eq (t := j) (s := .box v1) (n := (n1, m1)) (by rw [← hroot, ← hv]) (by simp)
        have hj := h.slot j
        rw [hg] at hj
        obtain ⟨g, cs, e, F', hu, hh, hgf, hj, hs, hn⟩ := hj
        obtain ⟨_, hr⟩ := hr
        rw [hg] at hr
        have hali := (hr rfl).2 rfl
        rcases hali with ⟨_, ⟨_, h3⟩, _⟩ | ⟨hi, g1, o1, v2, cs2, hl, hv2, hfr, hc2, hlen2, hu2⟩
        · cases h3
        rw [hu] at hl
        simp only [Slot.rloc] at hl
        simp only [Slot.rget] at hv2
        by_cases hp : (p.isEmpty && v1.t.isAg) = true
        · simp only [hp, if_true, Option.some.injEq, Prod.mk.injEq] at ht
          obtain ⟨rfl, rfl⟩ := ht
          have hp0 : p = [] := List.isEmpty_iff.1 (by simp only [Bool.and_eq_true] at hp; exact hp.1)
          subst hp0
          simp only [locAt, Option.some.injEq, Prod.mk.injEq] at hl
          obtain ⟨rfl, rfl⟩ := hl
          simp only [getAt, Option.some.injEq] at hv2
          subst hv2
          have hcs : cs2 = cs := by
            apply List.ext_getElem?
            intro k
            have hl1 := rep_len _ hj
            have hlen3 : cs2.length = v1.t.sz := hlen2
            rcases Nat.lt_or_ge k cs.length with hk | hk
            · have := hc2 k cs2[k] (List.getElem?_eq_getElem (by omega))
              rw [cell_cur hh, Nat.zero_add] at this
              rw [List.getElem?_eq_getElem (by omega : k < cs2.length)]
              simpa using this.symm
            · rw [List.getElem?_eq_none (by omega), List.getElem?_eq_none (by omega)]
          subst hcs
          exact ⟨F', cs2, hu2, rep_mono _ hj un_bot (BS.sub_refl _), .inr ⟨j, .undef, .new, BS.bot, rfl, BS.dis_bot _, BS.bot_dis _, BS.bot_dis _, hs, BS.bot_sub _, BS.bot_sub _, rfl, trivial, turn_new⟩⟩
        · simp only [hp, Bool.false_eq_true, if_false] at ht
          by_cases hf : fldOnly p = true
          · simp only [hf, if_true, Option.bind_eq_some_iff] at ht
            obtain ⟨u, hgu, ht⟩ := ht
            by_cases hag : u.t.isAg = true
            · simp [hag] at ht
            · simp only [hag, Bool.false_eq_true, if_false, Option.map_eq_some_iff, Prod.mk.injEq] at ht
              obtain ⟨v', hset, rfl, rfl⟩ := ht
              obtain ⟨o, cu, Fv, Fr, q1, q2, q3, q4, q5, q6, q7⟩ := box_view hh hj hn hf hgu
              rw [hgu] at hv2
              simp only [Option.some.injEq] at hv2
              subst hv2
              rw [q1] at hl
              simp only [Option.some.injEq, Prod.mk.injEq] at hl
              obtain ⟨rfl, rfl⟩ := hl
              have hlu := rep_len _ q3
              have hcs : cs2 = cu := by
                apply List.ext_getElem?
                intro k
                rcases Nat.lt_or_ge k cu.length with hk | hk
                · have e1 := hc2 k cs2[k] (List.getElem?_eq_getElem (by omega))
                  have e2 := q2 k cu[k] (List.getElem?_eq_getElem hk)
                  rw [e1] at e2
                  rw [List.getElem?_eq_getElem (by omega : k < cs2.length), List.getElem?_eq_getElem hk]
                  exact e2
                · rw [List.getElem?_eq_none (by omega), List.getElem?_eq_none (by omega)]
              subst hcs
              have hsz : u.t.sz = 1 := by cases hut : u.t <;> simp_all [Ty.isAg, Ty.sz]
              have hone : ∃ z : Value, cs2 = [z] ∧ z.oneCell' = true := by
                obtain ⟨z, rfl⟩ := List.length_eq_one_iff.1 (by omega : cs2.length = 1)
                exact ⟨z, rfl, rep_one _ q3 z (List.mem_singleton.2 rfl)⟩
              have hhole := q7 ⟨.hole, ()⟩ v' S BS.bot (BS.sub_refl _) hone (BS.bot_dis _) (BS.bot_sub _) hset
              have hshp := setAt_shp p v1.t v1.x u ⟨.hole, ()⟩ v' hgu (by cases hut : u.t <;> simp_all [Ty.isAg, Ty.shp]) hset
              refine ⟨Fv, cs2, hu2, rep_mono _ q3 un_bot (BS.sub_refl _), .inr ⟨j, .box v', .hdr, fun b => b = g ∨ Fr b, rfl, ?_, BS.bot_dis _, BS.bot_dis _, q5.trans hs, ?_, BS.bot_sub _, rfl, ?_, ?_⟩⟩
              · rintro b hb (rfl | hb2)
                · exact hn (q5 _ hb)
                · exact q4 b hb hb2
              · rintro b (rfl | hb2)
                · exact hgf
                · exact hs b (q6 b hb2)
              · refine ⟨g, cs, e, Fr, hu, hh, .inl rfl, rep_mono _ hhole un_bot (fun b hb => hb.resolve_right (fun x => x)), fun b hb => .inr hb, fun hb => hn (q6 _ hb)⟩
              · rw [hg]; exact turn_box hshp.symm
          · simp only [hf, Bool.false_eq_true, if_false] at ht
            cases ht
      | _ => simp [hroot] at ht
    · rw [if_neg hv] at ht
      cases ht
  · rename_i n1 m1 hx
    have hr := rdO_rep h hb hx (by simp)
    simp only [Option.map_eq_some_iff, Prod.mk.injEq] at ht
    obtain ⟨v1, hv, rfl, rfl⟩ := ht
    obtain ⟨cs, hu, hrr⟩ := nilV_rep (P := P) hv w (BS.un S BS.bot)
    exact ⟨BS.bot, cs, (show a.eval x = _ from hr).trans hu, hrr, .inl ⟨rfl, rfl, rfl⟩⟩
  · cases ht

theorem cells_eq {w : World} {g o : Nat} {c1 c2 : List Value} (h1 : CellsAt w g o c1) (h2 : CellsAt w g o c2) (hl : c1.length = c2.length) : c1 = c2 := by
  apply List.ext_getElem?
  intro k
  rcases Nat.lt_or_ge k c1.length with hk | hk
  · have e1 := h1 k c1[k] (List.getElem?_eq_getElem hk)
    have e2 := h2 k c2[k] (List.getElem?_eq_getElem (by omega))
    rw [e1] at e2
    rw [List.getElem?_eq_getElem hk, List.getElem?_eq_getElem (by omega : k < c2.length)]
    exact e2
  · rw [List.getElem?_eq_none hk, List.getElem?_eq_none (by omega)]

theorem frz_rep {v : V} {w : World} {S F : BS} {cs : List Value} (h : Rep P v.t w S F v.x cs) : Rep P v.frz.t w (BS.un S F) BS.bot v.frz.x cs := rep_frz v.t h
theorem frz_toV (v : V) (cs : List Value) : v.frz.t.toV cs = v.t.toV cs := Ty.frz_toV v.t cs

theorem share_got (h : SimX P n w0 S0 F0 get a w S fp) (hb : Below rd get) {hint : Option Ty} {x : Operand} {v : V} {pt : Patch} (ht : shareV rd hint x = some (v, pt)) : ∃ Sx, Got P get a w S fp (a.eval x) v pt BS.bot Sx := by
  unfold shareV at ht
  split at ht
  · rename_i v1 n1 m1 hx
    have hr := rdO_rep h hb hx (by simp)
    by_cases hf : v1.t.free = true
    · simp only [hf, if_true, Option.some.injEq, Prod.mk.injEq] at ht
      obtain ⟨rfl, rfl⟩ := ht
      obtain ⟨cs, hu, hr⟩ := hr
      exact ⟨BS.bot, cs, hu, rep_mono _ (rep_free _ hf hr) un_bot (BS.sub_refl _), .inl ⟨rfl, rfl, rfl⟩⟩
    · simp only [hf, Bool.false_eq_true, if_false] at ht
      split at ht
      · rename_i j
        simp only [Option.some.injEq, Prod.mk.injEq] at ht
        obtain ⟨rfl, rfl⟩ := ht
        obtain ⟨cs, hu, hr⟩ := hr
        exact ⟨fp j, cs, by rw [frz_toV]; exact hu, frz_rep hr, .inr ⟨j, .val v1.frz, .new, BS.bot, rfl, BS.dis_bot _, BS.dis_bot _, BS.dis_bot _, BS.bot_sub _, BS.bot_sub _, BS.sub_refl _, rfl, ⟨cs, by rw [frz_toV]; exact hu, frz_rep hr⟩, turn_new⟩⟩
      · cases ht
  · rename_i j p n1 m1 e1 e2 hx
    have hr := rdO_rep h hb hx (by simp)
    by_cases hv : (rd j).2 = (n1, m1)
    · rw [if_pos hv] at ht
      cases hroot : (rd j).1 with
      | val v1 =>
        simp only [hroot] at ht
        by_cases hp : p.isEmpty = true
        · simp only [hp, if_true, Option.some.injEq, Prod.mk.injEq] at ht
          obtain ⟨rfl, rfl⟩ := ht
          have hp0 : p = [] := List.isEmpty_iff.1 hp
          subst hp0
          have hg := hb.eq (t := j) (s := .val v1) (n := (n1, m1)) (by rw [← hroot, ← hv]) (by simp)
          have hj := h.slot j
          rw [hg] at hj
          obtain ⟨cs, hu, hj⟩ := hj
          obtain ⟨_, hr⟩ := hr
          rw [hg] at hr
          have hali := (hr rfl).2 rfl
          have hval : a.eval x = a.tmps.getD j undef := by
            rcases hali with ⟨_, _, h3⟩ | ⟨_, g, o, _, _, hl, _⟩
            · exact h3
            · exfalso
              cases v1 with
              | mk t1 x1 =>
                revert hl
                generalize a.tmps.getD j undef = rv
                cases t1 <;> cases rv <;> (try rename_i q _ _; cases q) <;> simp [Slot.rloc]
          exact ⟨fp j, cs, by rw [frz_toV]; exact hval.trans hu, frz_rep hj, .inr ⟨j, .val v1.frz, .new, BS.bot, rfl, BS.dis_bot _, BS.dis_bot _, BS.dis_bot _, BS.bot_sub _, BS.bot_sub _, BS.sub_refl _, rfl, ⟨cs, by rw [frz_toV]; exact hu, frz_rep hj⟩, turn_new⟩⟩
        · simp only [hp, Bool.false_eq_true, if_false] at ht
          cases ht
      | box v1 =>
        simp only [hroot] at ht
        have hg := hb.eq (t := j) (s := .box v1) (n := (n1, m1)) (by rw [← hroot, ← hv]) (by simp)
        have hj := h.slot j
        rw [hg] at hj
        obtain ⟨g, cs, e, F', hu, hh, hgf, hj, hs, hn⟩ := hj
        obtain ⟨_, hr⟩ := hr
        rw [hg] at hr
        have hali := (hr rfl).2 rfl
        rcases hali with ⟨_, ⟨_, h3⟩, _⟩ | ⟨hi, g1, o1, v2, cs2, hl, hv2, hfr, hc2, hlen2, hu2⟩
        · cases h3
        rw [hu] at hl
        simp only [Slot.rloc] at hl
        simp only [Slot.rget] at hv2
        by_cases hf : fldOnly p = true
        · simp only [hf, if_true, Option.bind_eq_some_iff, Option.map_eq_some_iff, Prod.mk.injEq] at ht
          obtain ⟨u, hgu, v', hset, rfl, rfl⟩ := ht
          obtain ⟨o, cu, Fv, Fr, q1, q2, q3, q4, q5, q6, q7⟩ := box_view hh hj hn hf hgu
          rw [hgu] at hv2
          simp only [Option.some.injEq] at hv2
          subst hv2
          rw [q1] at hl
          simp only [Option.some.injEq, Prod.mk.injEq] at hl
          obtain ⟨rfl, rfl⟩ := hl
          have hlu := rep_len _ q3
          obtain rfl := cells_eq hc2 q2 (by omega)
          have hback := q7 u.frz v' (BS.un S Fv) BS.bot (fun _ hx => .inl hx) (frz_rep q3) (BS.bot_dis _) (BS.bot_sub _) hset
          have hshp := setAt_shp p v1.t v1.x u u.frz v' hgu (Ty.shp_frz u.t).symm hset
          refine ⟨Fv, cs2, by rw [frz_toV]; exact hu2, frz_rep q3, .inr ⟨j, .box v', .hdr, fun b => b = g ∨ Fr b, rfl, BS.bot_dis _, ?_, BS.dis_bot _, BS.bot_sub _, ?_, q5.trans hs, rfl, ?_, ?_⟩⟩
          · rintro b hb (rfl | hb2)
            · exact hn (q5 _ hb)
            · exact q4 b hb hb2
          · rintro b (rfl | hb2)
            · exact hgf
            · exact hs b (q6 b hb2)
          · exact ⟨g, cs, e, Fr, hu, hh, .inl rfl, rep_mono _ hback (BS.sub_refl _) (fun b hb => hb.resolve_right (fun x => x)), fun b hb => .inr hb, fun hb => hn (q6 _ hb)⟩
          · rw [hg]; exact turn_box hshp.symm
        · simp only [hf, Bool.false_eq_true, if_false] at ht
          cases ht
      | _ => simp [hroot] at ht
    · rw [if_neg hv] at ht
      cases ht
  · rename_i n1 m1 hx
    have hr := rdO_rep h hb hx (by simp)
    simp only [Option.map_eq_some_iff, Prod.mk.injEq] at ht
    obtain ⟨v1, hv, rfl, rfl⟩ := ht
    obtain ⟨cs, hu, hrr⟩ := nilV_rep (P := P) hv w (BS.un S BS.bot)
    exact ⟨BS.bot, cs, by rw [frz_toV]; exact (show a.eval x = _ from hr).trans hu, rep_mono _ (frz_rep hrr) (fun b hb => hb.elim id (fun x => x.elim)) (BS.sub_refl _), .inl ⟨rfl, rfl, rfl⟩⟩
  · rename_i v1 n1 m1 hx
    have hr := rdO_rep h hb hx (by simp)
    split at ht
    · rename_i j
      obtain ⟨g, cs, e, F', hu, hh, hgf, hrr, hs, hn⟩ := hr
      have hc : CellsAt w g 0 cs := by have := cellsAt_row (a := 0) (n := cs.length) hh; simpa using this
      by_cases hfree : v1.t.free = true
      · simp only [hfree, if_true, Option.some.injEq, Prod.mk.injEq] at ht
        obtain ⟨rfl, rfl⟩ := ht
        have hrep : Rep P (.cellp v1.t) w (BS.un S (fp j)) BS.bot v1.x [.pointer (some ⟨g, 0, none⟩)] :=
          ⟨g, 0, cs, rfl, .inr hgf, rep_mono _ (rep_free _ hfree hrr) (fun b hb => .inl hb) (BS.sub_refl _), hc⟩
        exact ⟨fp j, [.pointer (some ⟨g, 0, none⟩)], hu, hrep, .inr ⟨j, .val ⟨.cellp v1.t, v1.x⟩, .new, BS.bot, rfl, BS.dis_bot _, BS.dis_bot _, BS.dis_bot _, BS.bot_sub _, BS.bot_sub _, BS.sub_refl _, rfl, ⟨[.pointer (some ⟨g, 0, none⟩)], hu, hrep⟩, turn_new⟩⟩
      simp only [hfree, Bool.false_eq_true, if_false, Option.some.injEq, Prod.mk.injEq] at ht
      obtain ⟨rfl, rfl⟩ := ht
      have hrep : Rep P (.cellp v1.t.frz) w (BS.un S (fp j)) BS.bot v1.frz.x [.pointer (some ⟨g, 0, none⟩)] :=
        ⟨g, 0, cs, rfl, .inr hgf, rep_mono _ (frz_rep hrr) (fun b hb => hb.imp id (hs b)) (BS.sub_refl _), hc⟩
      exact ⟨fp j, [.pointer (some ⟨g, 0, none⟩)], hu, hrep, .inr ⟨j, .val ⟨.cellp v1.t.frz, v1.frz.x⟩, .new, BS.bot, rfl, BS.dis_bot _, BS.dis_bot _, BS.dis_bot _, BS.bot_sub _, BS.bot_sub _, BS.sub_refl _, rfl, ⟨[.pointer (some ⟨g, 0, none⟩)], hu, hrep⟩, turn_new⟩⟩
    · cases ht
  · cases ht

/-- all that the frame's slots own -/
def fpAll (fp : Tmp → BS) : BS := fun g => ∃ t, fp t g
theorem peek_rep (h : SimX P n w0 S0 F0 get a w S fp) (hb : Below rd get) {hint : Option Ty} {x : Operand} {v : V} (ht : peekV rd hint x = some v) : ∃ cs, a.eval x = v.t.toV cs ∧ Rep P v.t w (BS.un S (fpAll fp)) BS.bot v.x cs := by
  unfold peekV at ht
  split at ht
  · rename_i v1 n1 m1 hx
    have hr := rdO_rep h hb hx (by simp)
    obtain ⟨cs, hu, hr⟩ := hr
    simp only [Option.some.injEq] at ht
    have hsub : ∀ y : Operand, BS.sub (BS.un S (fpO fp y)) (BS.un S (fpAll fp)) := fun y g hg => hg.imp id (fun hg => by cases y <;> first | exact ⟨_, hg⟩ | exact hg.elim)
    by_cases hf : v1.t.free = true
    · simp only [hf, if_true] at ht
      subst ht
      exact ⟨cs, hu, rep_mono _ (rep_free _ hf hr) (fun _ hx => .inl hx) (BS.sub_refl _)⟩
    · simp only [hf, Bool.false_eq_true, if_false] at ht
      subst ht
      exact ⟨cs, by rw [frz_toV]; exact hu, rep_mono _ (frz_rep hr) (hsub x) (BS.sub_refl _)⟩
  · rename_i j p n1 m1 e1 e2 hx
    have hr := rdO_rep h hb hx (by simp)
    by_cases hv : (rd j).2 = (n1, m1)
    · rw [if_pos hv] at ht
      simp only [Option.map_eq_some_iff] at ht
      obtain ⟨u, hgu, rfl⟩ := ht
      have hnu : (rd j).1 ≠ .undef := fun he => by rw [he] at hgu; simp [Slot.rget] at hgu
      have hg : get j = rd j := (hb j).elim Eq.symm (fun he => absurd he hnu)
      have hj := h.slot j
      obtain ⟨_, hr⟩ := hr
      rw [hg, hv] at hr
      have hali := (hr rfl).2 rfl
      rw [hg] at hj
      rcases hali with ⟨hp0, ⟨v1, hv1⟩, h3⟩ | ⟨hi, g1, o1, v2, cs2, hl, hv2, hfr, hc2, hlen2, hu2⟩
      · subst hp0
        rw [hv1] at hgu hj
        simp only [Slot.rget, getAt, Option.some.injEq] at hgu
        subst hgu
        obtain ⟨cs, hu, hj⟩ := hj
        exact ⟨cs, by rw [frz_toV]; exact h3.trans hu, rep_mono _ (frz_rep hj) (fun g hg => hg.imp id (fun hg => ⟨j, hg⟩)) (BS.sub_refl _)⟩
      · rw [hgu] at hv2
        simp only [Option.some.injEq] at hv2
        subst hv2
        cases hroot : (rd j).1 with
        | box v1 =>
          rw [hroot] at hj hi hl hgu
          obtain ⟨g, cs, e, F', hu, hh, hgf, hj, hs, hn⟩ := hj
          rw [hu] at hl
          have hlv := rep_len _ hj
          obtain ⟨g', o', cur', e', Fv, Fr, L⟩ := lens p v1.t w S F' g 0 cs.toArray e v1.x u hh (by simp [hlv]) (by rw [← hlv]; simpa using hj) hn hi hgu
          rw [show (Slot.box v1).rloc w (.pointer (some ⟨g, 0, none⟩)) p = locAt v1.t w g 0 p from rfl, L.loc] at hl
          simp only [Option.some.injEq, Prod.mk.injEq] at hl
          obtain ⟨rfl, rfl⟩ := hl
          have hlu := rep_len _ L.rep
          obtain rfl := cells_eq hc2 (cellsAt_row (n := u.t.sz) L.heap) (by omega)
          exact ⟨_, by rw [frz_toV]; exact hu2, rep_mono _ (frz_rep L.rep) (fun b hb => hb.imp id (fun hb => ⟨j, hs b (L.subv b hb)⟩)) (BS.sub_refl _)⟩
        | val v1 =>
          rw [hroot] at hj hi hl hgu
          obtain ⟨t1, x1⟩ := v1
          obtain ⟨cs, hu, hj⟩ := hj
          cases t1 with
          | own el t =>
            rcases hj with ⟨rfl, hx0⟩ | ⟨gi, cap, cur, rfl, hgi, hh, h1, h2, h3, Fs, hFs, hng, hdd, he⟩
            · rw [hu] at hl; simp [Slot.rloc, Ty.toV] at hl
            · cases p with
              | nil => rw [hu] at hl; simp [Slot.rloc, Ty.toV] at hl
              | cons s p =>
                cases s with
                | fld k => cases k <;> simp [Slot.rin, inR] at hi
                | idx i =>
                  simp only [Slot.rin, inR] at hi
                  obtain ⟨hlt, hi⟩ := hi
                  have hgetD : (x1 : List t.den).getD i t.dflt = (x1 : List t.den)[i] := by simp [List.getD_eq_getElem?_getD, hlt]
                  simp only [Slot.rget, getAt] at hgu
                  rw [hgetD] at hi hgu
                  have h1' : (x1 : List t.den).length ≤ cap := h1
                  have hmul : (i + 1) * t.sz ≤ cap * t.sz := Nat.mul_le_mul_right _ (by omega)
                  rw [Nat.add_mul, Nat.one_mul] at hmul
                  obtain ⟨g', o', cur', e', Fv, Fr, L⟩ := lens p t w S (Fs i) gi (i * t.sz) cur el (x1 : List t.den)[i] u hh (by omega) (he i hlt) (hng i) hi hgu
                  rw [hu] at hl
                  have hl' : locAt t w gi (i * t.sz) p = some (g1, o1) := hl
                  rw [L.loc] at hl'
                  simp only [Option.some.injEq, Prod.mk.injEq] at hl'
                  obtain ⟨rfl, rfl⟩ := hl'
                  have hlu := rep_len _ L.rep
                  obtain rfl := cells_eq hc2 (cellsAt_row (n := u.t.sz) L.heap) (by omega)
                  exact ⟨_, by rw [frz_toV]; exact hu2, rep_mono _ (frz_rep L.rep) (fun b hb => hb.imp id (fun hb => ⟨j, hFs i b (L.subv b hb)⟩)) (BS.sub_refl _)⟩
          | _ => rw [hu] at hl; simp [Slot.rloc] at hl
        | _ => rw [hroot] at hi; simp [Slot.rin] at hi
    · rw [if_neg hv] at ht
      cases ht
  · rename_i n1 m1 hx
    have hr := rdO_rep h hb hx (by simp)
    simp only [Option.map_eq_some_iff] at ht
    obtain ⟨v1, hv, rfl⟩ := ht
    obtain ⟨cs, hu, hrr⟩ := nilV_rep (P := P) hv w S
    exact ⟨cs, by rw [frz_toV]; exact (show a.eval x = _ from hr).trans hu, rep_mono _ (frz_rep hrr) (fun b hb => .inl (hb.elim id (fun x => x.elim))) (BS.sub_refl _)⟩
  · cases ht

/-- A slot is set out of what was got; memory may have grown. -/
theorem sim_got (h : SimX P n w0 S0 F0 get a w S fp) {u0 : Value} {v : V} {pt : Patch} {Fv Sx : BS} (hgot : Got P get a w S fp u0 v pt Fv Sx) (d : Tmp) (hd : d < n.sz) (hdj : ∀ j s b, pt = [(j, s, b)] → j ≠ d) (u : Value) (s : Slot) (G : BS) (w' : World) (hkp : Kp BS.bot w w')
    (hG : ∀ g, G g → Fv g ∨ (w.heap.size ≤ g ∧ g < w'.heap.size))
    (hs : SRep P w' (BS.un S Sx) G (app1 (appP pt get) (d, s, .new)) (a.put (some d) u).tmps s u) :
    Sim P n w0 S0 F0 (app1 (appP pt get) (d, s, .new)) (a.put (some d) u) w' := by
  have hds : d < a.tmps.size := by rw [h.size]; exact hd
  obtain ⟨cs, _, _, ⟨rfl, rfl, rfl⟩ | ⟨j, s1, b, Fr, rfl, hd1, hd2, hd3, hs1, hs2, hs3, hso, hsr, htn⟩⟩ := hgot
  · exact sim_dst h d hd u s G BS.bot w' hkp (fun g hg => (hG g hg).resolve_left (fun x => x)) (fun _ hg => hg.elim) (BS.bot_dis _) hs
  · have hjd := hdj j s1 b rfl
    have hkS : KeepS S w w' := hkp.keepS (BS.dis_bot _) (fun g hg => (h.sb g hg).2)
    have hkj : KeepS (fp j) w w' := hkp.keepS (BS.dis_bot _) (fun g hg => (h.fpb j g hg).2)
    refine ⟨_, _, sim_gen h (fun t => t = d ∨ t = j) (fun t => if t = d then G else Fr) Sx (by rw [put_defers]; exact h.defers) (by rw [put_size]; exact h.size) (hkp.mono (BS.bot_sub _)) ?_ ?_ ?_ ?_ ?_ ?_ ?_⟩
    · rintro t ht g hg
      by_cases htd : t = d
      · rw [if_pos htd] at hg
        exact (hG g hg).imp (fun hx => ⟨j, .inr rfl, hs1 g hx⟩) id
      · rw [if_neg htd] at hg
        exact .inl ⟨j, .inr rfl, hs2 g hg⟩
    · intro t u' ht hu hne g hg1 hg2
      have key : ∀ g, G g → Fr g → False := fun g h1 h2 => by
        rcases hG g h1 with h1 | ⟨h1, _⟩
        · exact hd1 g h1 h2
        · have := (h.fpb j g (hs2 g h2)).2; omega
      by_cases htd : t = d
      · by_cases hud : u' = d
        · exact hne (htd.trans hud.symm)
        · rw [if_pos htd] at hg1; rw [if_neg hud] at hg2; exact key g hg1 hg2
      · by_cases hud : u' = d
        · rw [if_neg htd] at hg1; rw [if_pos hud] at hg2; exact key g hg2 hg1
        · exact hne ((ht.resolve_left htd).trans (hu.resolve_left hud).symm)
    · exact fun g hg => .inl ⟨j, .inr rfl, hs3 g hg⟩
    · intro t ht g hg1 hg2
      by_cases htd : t = d
      · rw [if_pos htd] at hg2
        rcases hG g hg2 with h1 | ⟨h1, _⟩
        · exact hd3 g hg1 h1
        · have := (h.fpb j g (hs3 g hg1)).2; omega
      · rw [if_neg htd] at hg2; exact hd2 g hg1 hg2
    · intro t ht
      have h1 : t ≠ d := fun e => ht (.inl e)
      have h2 : t ≠ j := fun e => ht (.inr e)
      exact ⟨by simp [app1, appP, h1, h2], put_other a d t u h1⟩
    · rintro t (rfl | rfl)
      · exact .inl (by simp [app1, appP, bump, Ne.symm hjd])
      · have : app1 (appP [(t, s1, b)] get) (d, s, .new) t = (s1, bump (get t).2 b) := by simp [app1, appP, hjd]
        rw [this, put_other a d t u hjd]
        exact htn
    · rintro t (rfl | rfl)
      · rw [put_same a t u hds, if_pos rfl]
        simpa [app1] using hs
      · have : (app1 (appP [(t, s1, b)] get) (d, s, .new) t).1 = s1 := by simp [app1, appP, hjd]
        rw [this, put_other a d t u hjd, if_neg hjd]
        exact srep_solo hso hsr (fun g hg => hg.elim (hkS g) (fun hx => hkj g (hs3 g hx))) (hkj.mono hs2)
end
end Go.Tv
