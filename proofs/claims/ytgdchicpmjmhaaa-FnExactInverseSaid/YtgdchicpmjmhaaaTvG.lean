/-
  Parts of what a slot owns: reading, writing. Conditions: none; plain lemmas.
-/
import Derived.Test.YtgdchicpmjmhaaaTvF
namespace Go.Tv
set_option linter.unusedVariables false
set_option linter.unusedSimpArgs false
variable {P : Program}

/-- The lens through an owned row that lies in no block but in a slot. -/
theorem lens_own (p : List Step) (el : TypeId) (t : Ty) (i : Nat) (w : World) (S F : BS) (x : List t.den) (v : V) (cs : List Value)
    (hr : Rep P (.own el t) w S F x cs) (hlt : i < x.length) (hi : inR t (x.getD i t.dflt) p) (hv : getAt t (x.getD i t.dflt) p = some v) :
    ∃ gi cap g' o' cur' e' Fv Fr, cs = [.slice (some ⟨gi, 0, none⟩) x.length cap] ∧ locAt t w gi (i * t.sz) p = some (g', o') ∧ w.heap[g']? = some (.cells cur' e' (0, 0)) ∧ o' + v.t.sz ≤ cur'.size ∧
      Rep P v.t w S Fv v.x ((cur'.toList.drop o').take v.t.sz) ∧ BS.dis Fv Fr ∧ BS.sub Fv F ∧ BS.sub Fr F ∧ ¬ Fv g' ∧ Fr g' ∧
      ∀ (S' : BS) (v' v'' : V) (Fv' : BS) (w' : World) (cs' : List Value), S.sub S' → cs'.length = v.t.sz → Rep P v'.t w' S' Fv' v'.x cs' → BS.dis Fv' Fr → ¬ Fv' g' →
        KeepS S w w' → (∀ b, Fr b → b ≠ g' → w'.heap[b]? = w.heap[b]?) → w'.heap[g']? = some (.cells (seg cur'.toList o' cs').toArray e' (0, 0)) →
        setAt (.own el t) x (.idx i :: p) v' = some v'' → v''.t = .own el t ∧ Rep P v''.t w' S' (BS.un Fr Fv') v''.x cs := by
  rcases hr with ⟨hc, hx⟩ | ⟨gi, cap, curi, hc, hFg, hgi, h1, h2, h3, Fs, hFs, hng, hdd, he⟩
  · rw [hx] at hlt; exact absurd hlt (by simp)
  · have hgetD : x.getD i t.dflt = x[i] := by simp [List.getD_eq_getElem?_getD, hlt]
    rw [hgetD] at hi hv
    have h1' : x.length ≤ cap := h1
    have hmul : (i + 1) * t.sz ≤ cap * t.sz := Nat.mul_le_mul_right _ (by omega)
    have hmul2 : (i + 1) * t.sz = i * t.sz + t.sz := by rw [Nat.add_mul, Nat.one_mul]
    obtain ⟨g', o', cur', e', Fv, Fr, L⟩ := lens p t w S (Fs i) gi (i * t.sz) curi el x[i] v hgi (by omega) (he i hlt) (hng i) hi hv
    refine ⟨gi, cap, g', o', cur', e', Fv, fun b => b = gi ∨ Fr b ∨ ∃ j, j ≠ i ∧ Fs j b, hc, L.loc, L.heap, L.fits, L.rep, ?_, L.subv.trans (hFs i), ?_, L.nv, ?_, ?_⟩
    · rintro b hv (rfl | hb | ⟨j, hj, hb⟩)
      · exact hng i (L.subv _ hv)
      · exact L.dis b hv hb
      · exact hdd i j (Ne.symm hj) b (L.subv b hv) hb
    · rintro b (rfl | hb | ⟨j, hj, hb⟩)
      · exact hFg
      · exact hFs i b (L.subr b hb)
      · exact hFs j b hb
    · rcases L.place with ⟨q1, _⟩ | ⟨_, q2⟩
      · exact .inl q1
      · exact .inr (.inl q2)
    · intro S' v' v'' Fv' w' cs' hSS hl hr' hdis hng' hS hFr hg' hs
      simp only [setAt, Option.bind_eq_some_iff] at hs
      obtain ⟨u, hu, hs⟩ := hs
      rw [hgetD] at hu
      obtain ⟨ut, ux⟩ := u
      simp only [Option.map_eq_some_iff] at hs
      obtain ⟨y, hy, rfl⟩ := hs
      obtain ⟨rfl, rfl⟩ := coe_some hy
      have hgi' : ∃ curi', w'.heap[gi]? = some (.cells curi' el (0, 0)) ∧ (g' ≠ gi → curi' = curi) ∧ (g' = gi → curi' = (seg curi.toList o' cs').toArray) := by
        by_cases hgg : g' = gi
        · subst hgg
          rcases L.place with ⟨_, q2, q3, _⟩ | ⟨q1, _⟩
          · subst q2; subst q3; exact ⟨_, hg', fun h => absurd rfl h, fun _ => rfl⟩
          · exact absurd rfl q1
        · exact ⟨curi, (hFr gi (.inl rfl) (fun h => hgg h.symm)).trans hgi, fun _ => rfl, fun h => absurd h hgg⟩
      obtain ⟨curi', hgi', hci1, hci2⟩ := hgi'
      obtain ⟨q1, q2⟩ := L.back S' v' ⟨ut, y⟩ Fv' w' cs' curi' hSS hl hr' (fun b h1 h2 => hdis b h1 (.inr (.inl h2))) (fun h => hdis gi h (.inl rfl)) hng' hS (fun b hb hne => hFr b (.inr (.inl hb)) hne) hg' hci1 hci2 hu
      have hsz : curi'.size = curi.size := by
        by_cases hgg : g' = gi
        · rw [hci2 hgg]
          have hft := L.fits
          rcases L.place with ⟨_, p2, _, _, _⟩ | ⟨p1, _⟩
          · subst p2
            simp only [List.size_toArray]
            rw [seg_length (by simpa [hl] using hft)]
            simp
          · exact absurd hgg p1
        · rw [hci1 hgg]
      refine ⟨rfl, ?_⟩
      rw [hc]
      refine .inr ⟨gi, cap, curi', by simp, .inl (.inl rfl), hgi', by simpa using h1, h2, by rw [hsz]; exact h3, fun j => if j = i then BS.un Fr Fv' else Fs j, ?_, ?_, ?_, ?_⟩
      · intro j b hb
        by_cases hj : j = i
        · simp only [hj, if_true] at hb
          rcases hb with hb | hb
          · exact .inl (.inr (.inl hb))
          · exact .inr hb
        · simp only [hj, if_false] at hb
          exact .inl (.inr (.inr ⟨j, hj, hb⟩))
      · intro j hb
        by_cases hj : j = i
        · simp only [hj, if_true] at hb
          rcases hb with hb | hb
          · exact hng i (L.subr _ hb)
          · exact hdis gi hb (.inl rfl)
        · simp only [hj, if_false] at hb
          exact hng j hb
      · intro j k hjk b hb hb2
        by_cases hj : j = i
        · have hk : ¬ k = i := fun h => hjk (hj.trans h.symm)
          simp only [hj, if_true] at hb
          simp only [hk, if_false] at hb2
          rcases hb with hb | hb
          · exact hdd i k (Ne.symm hk) b (L.subr b hb) hb2
          · exact hdis b hb (.inr (.inr ⟨k, hk, hb2⟩))
        · simp only [hj, if_false] at hb
          by_cases hk : k = i
          · simp only [hk, if_true] at hb2
            rcases hb2 with hb2 | hb2
            · exact hdd i j (Ne.symm hj) b (L.subr b hb2) hb
            · exact hdis b hb2 (.inr (.inr ⟨j, hj, hb⟩))
          · simp only [hk, if_false] at hb2
            exact hdd j k hjk b hb hb2
      · intro j hj
        have hjl : j < (x : List ut.den).length := by simpa using hj
        by_cases hji : j = i
        · subst hji
          simp only [if_true, List.getElem_set_self]
          exact q2
        · simp only [hji, if_false]
          rw [List.getElem_set_ne (fun h => hji h.symm)]
          have hcells : (curi'.toList.drop (j * ut.sz)).take ut.sz = (curi.toList.drop (j * ut.sz)).take ut.sz := by
            by_cases hgg : g' = gi
            · rw [hci2 hgg]
              have hft := L.fits
              rcases L.place with ⟨_, p2, _, p4, p5⟩ | ⟨p1, _⟩
              · subst p2
                simp only [List.toList_toArray]
                refine seg_other (by simpa [hl] using hft) ?_
                rcases Nat.lt_or_gt_of_ne hji with hlt' | hgt
                · left
                  have : (j + 1) * ut.sz ≤ i * ut.sz := Nat.mul_le_mul_right _ (by omega)
                  rw [Nat.add_mul, Nat.one_mul] at this
                  omega
                · right
                  have : (i + 1) * ut.sz ≤ j * ut.sz := Nat.mul_le_mul_right _ (by omega)
                  rw [Nat.add_mul, Nat.one_mul] at this
                  omega
              · exact absurd hgg p1
            · rw [hci1 hgg]
          rw [hcells]
          refine rep_mono _ (rep_keep _ (he j hjl) hS (fun b hb => ?_)) hSS (BS.sub_refl _)
          refine hFr b (.inr (.inr ⟨j, hji, hb⟩)) (fun hbg => ?_)
          subst hbg
          rcases L.place with ⟨p1, _⟩ | ⟨_, p2⟩
          · exact hng j (p1 ▸ hb)
          · exact hdd i j (Ne.symm hji) _ (L.subr _ p2) hb

theorem getD_lt {α : Type} (l : List α) (i : Nat) (d : α) (h : i < l.length) : l.getD i d = l[i] := by simp [List.getD_eq_getElem?_getD, h]

/-- What lies at a part of a slot's. -/
theorem root_rep {w : World} {S F : BS} {get : Rd} {tmps : Array Value} {root : Slot} {rv : Value} (hroot : SRep P w S F get tmps root rv) {p : List Step} {u : V} {g o : Nat} (hi : root.rin p) (hu : root.rget p = some u) (hl : root.rloc w rv p = some (g, o)) :
    ∃ cs Fv, CellsAt w g o cs ∧ Rep P u.t w S Fv u.x cs ∧ BS.sub Fv F := by
  cases root with
  | box v =>
    obtain ⟨gb, cs, e, F', rfl, hh, hgf, hj, hs, hn⟩ := hroot
    have hlv := rep_len _ hj
    obtain ⟨g', o', cur', e', Fv, Fr, L⟩ := lens p v.t w S F' gb 0 cs.toArray e v.x u hh (by simp [hlv]) (by rw [← hlv]; simpa using hj) hn hi hu
    rw [show (Slot.box v).rloc w (.pointer (some ⟨gb, 0, none⟩)) p = locAt v.t w gb 0 p from rfl, L.loc] at hl
    simp only [Option.some.injEq, Prod.mk.injEq] at hl
    obtain ⟨rfl, rfl⟩ := hl
    exact ⟨_, Fv, cellsAt_row L.heap, L.rep, L.subv.trans hs⟩
  | val v =>
    obtain ⟨t1, x1⟩ := v
    obtain ⟨cs, rfl, hj⟩ := hroot
    cases t1 with
    | own el t =>
      cases p with
      | nil => generalize Ty.toV (V.mk (Ty.own el t) x1).t cs = rv at hl; cases rv <;> (try rename_i q _ _; cases q) <;> simp [Slot.rloc] at hl
      | cons s p =>
        cases s with
        | fld k => cases k <;> simp [Slot.rin, inR] at hi
        | idx i =>
          simp only [Slot.rin, inR] at hi
          simp only [Slot.rget, getAt] at hu
          obtain ⟨gi, cap, g', o', cur', e', Fv, Fr, hc, q1, q2, q3, q4, q5, q6, q7, q8, q9, _⟩ := lens_own p el t i w S F x1 u cs hj hi.1 hi.2 hu
          subst hc
          have hl' : locAt t w gi (i * t.sz) p = some (g, o) := hl
          rw [q1] at hl'
          simp only [Option.some.injEq, Prod.mk.injEq] at hl'
          obtain ⟨rfl, rfl⟩ := hl'
          exact ⟨_, Fv, cellsAt_row q2, q4, q6⟩
    | _ => simp [Slot.rloc] at hl
  | _ => simp [Slot.rin] at hi

def Slot.rset : Slot → List Step → V → Option Slot
  | .box v, p, u => (setAt v.t v.x p u).map .box
  | .val v, p, u => (setAt v.t v.x p u).map .val
  | _, _, _ => none

/-- Writing at a part of a slot's. -/
theorem root_write {w : World} {S F : BS} {get : Rd} {tmps : Array Value} {root : Slot} {rv : Value} (hroot : SRep P w S F get tmps root rv) (hSF : BS.dis S F) {p : List Step} {u : V} {g o : Nat} (hi : root.rin p) (hu : root.rget p = some u) (hl : root.rloc w rv p = some (g, o)) :
    ∃ cur e, w.heap[g]? = some (.cells cur e (0, 0)) ∧ o + u.t.sz ≤ cur.size ∧ F g ∧
      ∀ (S' : BS) (v' : V) (Fv' : BS) (w' : World) (cs' : List Value) (root' : Slot) (get' : Rd) (tmps' : Array Value), S.sub S' → cs'.length = u.t.sz → Rep P v'.t w' S' Fv' v'.x cs' → BS.dis Fv' F → KeepS S w w' →
        (∀ b, F b → b ≠ g → w'.heap[b]? = w.heap[b]?) → w'.heap[g]? = some (.cells (seg cur.toList o cs').toArray e (0, 0)) → root.rset p v' = some root' →
        root'.solo = true ∧ SRep P w' S' (BS.un F Fv') get' tmps' root' rv := by
  cases root with
  | box v =>
    obtain ⟨gb, cs, e, F', rfl, hh, hgf, hj, hs, hn⟩ := hroot
    have hlv := rep_len _ hj
    obtain ⟨g', o', cur', e', Fv, Fr, L⟩ := lens p v.t w S F' gb 0 cs.toArray e v.x u hh (by simp [hlv]) (by rw [← hlv]; simpa using hj) hn hi hu
    rw [show (Slot.box v).rloc w (.pointer (some ⟨gb, 0, none⟩)) p = locAt v.t w gb 0 p from rfl, L.loc] at hl
    simp only [Option.some.injEq, Prod.mk.injEq] at hl
    obtain ⟨rfl, rfl⟩ := hl
    have hgF : F g' := by
      rcases L.place with ⟨q1, _⟩ | ⟨_, q2⟩
      · rw [q1]; exact hgf
      · exact hs _ (L.subr _ q2)
    refine ⟨cur', e', L.heap, L.fits, hgF, ?_⟩
    intro S' v' Fv' w' cs' root' get' tmps' hSS hlen hr' hdis hS hFr hg' hset
    simp only [Slot.rset, Option.map_eq_some_iff] at hset
    obtain ⟨v'', hset, rfl⟩ := hset
    refine ⟨rfl, ?_⟩
    by_cases hgg : g' = gb
    · subst hgg
      rcases L.place with ⟨_, q2, q3, _, _⟩ | ⟨q1, _⟩
      case inr => exact absurd rfl q1
      subst q2; subst q3
      have hcl : (seg cs o' cs').length = cs.length := seg_length (by rw [hlen]; simpa using L.fits)
      obtain ⟨hz, hq⟩ := L.back S' v' v'' Fv' w' cs' (seg cs.toArray.toList o' cs').toArray hSS hlen hr' (fun b h1 h2 => hdis b h1 (hs b (L.subr b h2))) (fun h => hdis _ h hgf) (fun h => hdis _ h hgF) hS (fun b hb hne => hFr b (hs b (L.subr b hb)) hne) hg' (fun h => absurd rfl h) (fun _ => rfl) hset
      refine ⟨g', seg cs o' cs', e', BS.un Fr Fv', rfl, by simpa using hg', .inl hgf, ?_, ?_, ?_⟩
      · have : ((seg cs.toArray.toList o' cs').toArray.toList.drop 0).take v.t.sz = seg cs o' cs' := by
          rw [← hlv]
          simp only [List.toList_toArray, List.drop_zero]
          rw [← hcl]
          exact List.take_length
        rw [this] at hq
        exact hq
      · exact fun b hb => hb.imp (fun h => hs b (L.subr b h)) id
      · rintro (hb | hb)
        · exact hn (L.subr _ hb)
        · exact hdis _ hb hgf
    · obtain ⟨hz, hq⟩ := L.back S' v' v'' Fv' w' cs' cs.toArray hSS hlen hr' (fun b h1 h2 => hdis b h1 (hs b (L.subr b h2))) (fun h => hdis _ h hgf) (fun h => hdis _ h hgF) hS (fun b hb hne => hFr b (hs b (L.subr b hb)) hne) hg' (fun _ => rfl) (fun h => absurd h hgg) hset
      refine ⟨gb, cs, e, BS.un Fr Fv', rfl, (hFr gb hgf (fun h => hgg h.symm)).trans hh, .inl hgf, ?_, ?_, ?_⟩
      · rw [← hlv] at hq; simpa using hq
      · exact fun b hb => hb.imp (fun h => hs b (L.subr b h)) id
      · rintro (hb | hb)
        · exact hn (L.subr _ hb)
        · exact hdis _ hb hgf
  | val v =>
    obtain ⟨t1, x1⟩ := v
    obtain ⟨cs, rfl, hj⟩ := hroot
    cases t1 with
    | own el t =>
      cases p with
      | nil => generalize Ty.toV (V.mk (Ty.own el t) x1).t cs = rv at hl; cases rv <;> (try rename_i q _ _; cases q) <;> simp [Slot.rloc] at hl
      | cons s p =>
        cases s with
        | fld k => cases k <;> simp [Slot.rin, inR] at hi
        | idx i =>
          simp only [Slot.rin, inR] at hi
          simp only [Slot.rget, getAt] at hu
          obtain ⟨gi, cap, g', o', cur', e', Fv, Fr, hc, q1, q2, q3, q4, q5, q6, q7, q8, q9, q10⟩ := lens_own p el t i w S F x1 u cs hj hi.1 hi.2 hu
          subst hc
          have hl' : locAt t w gi (i * t.sz) p = some (g, o) := hl
          rw [q1] at hl'
          simp only [Option.some.injEq, Prod.mk.injEq] at hl'
          obtain ⟨rfl, rfl⟩ := hl'
          refine ⟨cur', e', q2, q3, q7 _ q9, ?_⟩
          intro S' v' Fv' w' cs' root' get' tmps' hSS hlen hr' hdis hS hFr hg' hset
          simp only [Slot.rset, Option.map_eq_some_iff] at hset
          obtain ⟨v'', hset, rfl⟩ := hset
          obtain ⟨hz, hq⟩ := q10 S' v' v'' Fv' w' cs' hSS hlen hr' (fun b h1 h2 => hdis b h1 (q7 b h2)) (fun h => hdis _ h (q7 _ q9)) hS (fun b hb hne => hFr b (q7 b hb) hne) hg' hset
          refine ⟨rfl, _, ?_, rep_mono _ hq (BS.sub_refl _) (fun b hb => hb.imp (q7 b) id)⟩
          rw [hz]
    | _ => simp [Slot.rloc] at hl
  | _ => simp [Slot.rin] at hi

/-! ### One step more on a path -/
def offT : Ty → Nat → Option Nat
  | .prod _ _, 0 => some 0
  | .prod a b, k + 1 => (offT b k).map (a.sz + ·)
  | _, _ => none

theorem getAt_snoc : ∀ (p : List Step) (t : Ty) (x : t.den) (u : V) (s : Step), getAt t x p = some u → getAt t x (p ++ [s]) = getAt u.t u.x [s] := by
  intro p
  induction p with
  | nil => intro t x u s h; simp only [getAt, Option.some.injEq] at h; subst h; rfl
  | cons q p ih =>
    intro t x u s h
    cases q with
    | idx i =>
      cases t <;> first | (simp [getAt] at h; done) | skip
      simp only [getAt] at h
      simp only [List.cons_append, getAt]
      exact ih _ _ u s h
    | fld k =>
      induction k generalizing t with
      | zero =>
        cases t <;> first | (simp [getAt] at h; done) | skip
        simp only [getAt] at h
        simp only [List.cons_append, getAt]
        exact ih _ _ u s h
      | succ k ihk =>
        cases t <;> first | (simp [getAt] at h; done) | skip
        simp only [getAt] at h
        simp only [List.cons_append, getAt]
        exact ihk _ _ h
theorem inR_snoc : ∀ (p : List Step) (t : Ty) (x : t.den) (u : V) (s : Step), getAt t x p = some u → inR t x p → inR u.t u.x [s] → inR t x (p ++ [s]) := by
  intro p
  induction p with
  | nil => intro t x u s h hi hs; simp only [getAt, Option.some.injEq] at h; subst h; exact hs
  | cons q p ih =>
    intro t x u s h hi hs
    cases q with
    | idx i =>
      cases t <;> first | (simp [getAt] at h; done) | skip
      simp only [getAt] at h
      simp only [inR] at hi
      simp only [List.cons_append, inR]
      exact ⟨hi.1, ih _ _ u s h hi.2 hs⟩
    | fld k =>
      induction k generalizing t with
      | zero =>
        cases t <;> first | (simp [getAt] at h; done) | skip
        simp only [getAt] at h
        simp only [inR] at hi
        simp only [List.cons_append, inR]
        exact ih _ _ u s h hi hs
      | succ k ihk =>
        cases t <;> first | (simp [getAt] at h; done) | skip
        simp only [getAt] at h
        simp only [inR] at hi
        simp only [List.cons_append, inR]
        exact ihk _ _ h hi
theorem locAt_snoc : ∀ (p : List Step) (t : Ty) (x : t.den) (w : World) (g o g' o' : Nat) (u : V) (s : Step), getAt t x p = some u → locAt t w g o p = some (g', o') → locAt t w g o (p ++ [s]) = locAt u.t w g' o' [s] := by
  intro p
  induction p with
  | nil =>
    intro t x w g o g' o' u s h hl
    simp only [getAt, Option.some.injEq] at h
    simp only [locAt, Option.some.injEq, Prod.mk.injEq] at hl
    obtain ⟨rfl, rfl⟩ := hl
    subst h; rfl
  | cons q p ih =>
    intro t x w g o g' o' u s h hl
    cases q with
    | idx i =>
      cases t <;> first | (simp [getAt] at h; done) | skip
      simp only [getAt] at h
      simp only [locAt] at hl
      simp only [List.cons_append, locAt]
      split at hl
      · exact ih _ _ w _ _ _ _ u s h hl
      · cases hl
    | fld k =>
      induction k generalizing t o with
      | zero =>
        cases t <;> first | (simp [getAt] at h; done) | skip
        simp only [getAt] at h
        simp only [locAt] at hl
        simp only [List.cons_append, locAt]
        exact ih _ _ w _ _ _ _ u s h hl
      | succ k ihk =>
        cases t <;> first | (simp [getAt] at h; done) | skip
        simp only [getAt] at h
        simp only [locAt] at hl
        simp only [List.cons_append, locAt]
        exact ihk _ _ _ h hl
theorem locAt_one : ∀ (k : Nat) (t : Ty) (w : World) (g o off : Nat), offT t k = some off → locAt t w g o [.fld k] = some (g, o + off) := by
  intro k
  induction k with
  | zero => intro t w g o off h; cases t <;> simp_all [offT, locAt]
  | succ k ih =>
    intro t w g o off h
    cases t <;> first | (simp [offT] at h; done) | skip
    rename_i a b
    simp only [offT, Option.map_eq_some_iff] at h
    obtain ⟨q, hq, rfl⟩ := h
    simp only [locAt]
    rw [ih b w g (o + a.sz) q hq, Nat.add_assoc]
theorem getAt_one : ∀ (k : Nat) (t : Ty) (x : t.den) (off : Nat), offT t k = some off → ∃ u, getAt t x [.fld k] = some u ∧ inR t x [.fld k] ∧ off + u.t.sz ≤ t.sz := by
  intro k
  induction k with
  | zero =>
    intro t x off h
    cases t <;> first | (simp [offT] at h; done) | skip
    simp only [offT, Option.some.injEq] at h
    subst h
    rename_i a b
    exact ⟨⟨a, x.1⟩, by simp only [getAt], by simp only [inR], by simp only [Ty.sz]; omega⟩
  | succ k ih =>
    intro t x off h
    cases t <;> first | (simp [offT] at h; done) | skip
    rename_i a b
    simp only [offT, Option.map_eq_some_iff] at h
    obtain ⟨q, hq, rfl⟩ := h
    obtain ⟨u, h1, h2, h3⟩ := ih b x.2 q hq
    exact ⟨u, by simpa only [getAt] using h1, by simpa only [inR] using h2, by simp only [Ty.sz]; omega⟩
/-- a field of cells -/
theorem rep_fld : ∀ (k : Nat) (t : Ty) {w : World} {S F : BS} (x : t.den) {cs : List Value} (off : Nat) (u : V), Rep P t w S F x cs → offT t k = some off → getAt t x [.fld k] = some u → Rep P u.t w S F u.x ((cs.drop off).take u.t.sz) := by
  intro k
  induction k with
  | zero =>
    intro t w S F x cs off u h ho hu
    cases t <;> first | (simp [offT] at ho; done) | skip
    rename_i a b
    simp only [offT, Option.some.injEq] at ho
    subst ho
    simp only [getAt, Option.some.injEq] at hu
    subst hu
    obtain ⟨c1, c2, F1, F2, rfl, h1, h2, hd, hF1, hF2⟩ := h
    have hl := rep_len _ h1
    simp only [List.drop_zero]
    rw [← hl, List.take_left]
    exact rep_mono _ h1 (BS.sub_refl _) hF1
  | succ k ih =>
    intro t w S F x cs off u h ho hu
    cases t <;> first | (simp [offT] at ho; done) | skip
    rename_i a b
    simp only [offT, Option.map_eq_some_iff] at ho
    obtain ⟨q, hq, rfl⟩ := ho
    simp only [getAt] at hu
    obtain ⟨c1, c2, F1, F2, rfl, h1, h2, hd, hF1, hF2⟩ := h
    have hl := rep_len _ h1
    have := ih b x.2 q u h2 hq hu
    rw [← List.drop_drop, ← hl, List.drop_left]
    exact rep_mono _ this (BS.sub_refl _) hF2
end Go.Tv
