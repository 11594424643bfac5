/-
  Places inside typed values: reading and writing a part of what a block holds. Conditions: none; plain definitions and lemmas.
-/
import Derived.Test.YtgdchicpmjmhaaaTvA
namespace Go.Tv
set_option linter.unusedVariables false
set_option linter.unusedSimpArgs false

structure V where
  t : Ty
  x : t.den

/-- One step from a datum to a part of it: a field, an element of an owned row. -/
inductive Step where
  | fld (k : Nat)
  | idx (i : Nat)
  deriving DecidableEq

def Ty.dflt : (t : Ty) → t.den
  | .int _ => (0 : Int)
  | .bool => false
  | .str => ([] : List UInt8)
  | .unit => ()
  | .err => true
  | .prod a b => (a.dflt, b.dflt)
  | .slice _ => ([] : List _)
  | .own _ _ => ([] : List _)
  | .cellp t => t.dflt
  | .arr n t => (List.replicate n t.dflt : List _)
  | .fn _ r => (fun _ => False, fun _ => r.dflt)
  | .iter _ _ => ([] : List _)
  | .stat _ => ()
  | .hole => ()

def getAt : (t : Ty) → t.den → List Step → Option V
  | t, x, [] => some ⟨t, x⟩
  | .prod a _, x, .fld 0 :: p => getAt a x.1 p
  | .prod _ b, x, .fld (k + 1) :: p => getAt b x.2 (.fld k :: p)
  | .own _ t, x, .idx i :: p => getAt t ((x : List t.den).getD i t.dflt) p
  | _, _, _ => none

def inR : (t : Ty) → t.den → List Step → Prop
  | _, _, [] => True
  | .prod a _, x, .fld 0 :: p => inR a x.1 p
  | .prod _ b, x, .fld (k + 1) :: p => inR b x.2 (.fld k :: p)
  | .own _ t, x, .idx i :: p => i < (x : List t.den).length ∧ inR t ((x : List t.den).getD i t.dflt) p
  | _, _, _ => False

/-- the same datum at the same kind -/
def coe (a b : Ty) (x : a.den) : Option b.den := if h : a = b then some (h ▸ x) else none
theorem coe_self (a : Ty) (x : a.den) : coe a a x = some x := by simp [coe]
theorem coe_some {a b : Ty} {x : a.den} {y : b.den} (h : coe a b x = some y) : ∃ e : a = b, y = e ▸ x := by
  unfold coe at h
  split at h
  · rename_i e; simp only [Option.some.injEq] at h; exact ⟨e, h.symm⟩
  · cases h

def setAt : (t : Ty) → t.den → List Step → V → Option V
  | _, _, [], v => some v
  | .prod a b, x, .fld 0 :: p, v => (setAt a x.1 p v).map fun u => ⟨.prod u.t b, (u.x, x.2)⟩
  | .prod a b, x, .fld (k + 1) :: p, v => (setAt b x.2 (.fld k :: p) v).map fun u => ⟨.prod a u.t, (x.1, u.x)⟩
  | .own e t, x, .idx i :: p, v => (setAt t ((x : List t.den).getD i t.dflt) p v).bind fun u => (coe u.t t u.x).map fun y => ⟨.own e t, ((x : List t.den).set i y : List t.den)⟩
  | _, _, _, _ => none

/-- Where the part lies: block and offset. -/
def locAt : (t : Ty) → World → Nat → Nat → List Step → Option (Nat × Nat)
  | _, _, g, o, [] => some (g, o)
  | .prod a _, w, g, o, .fld 0 :: p => locAt a w g o p
  | .prod a b, w, g, o, .fld (k + 1) :: p => locAt b w g (o + a.sz) (.fld k :: p)
  | .own _ t, w, g, o, .idx i :: p =>
    match w.cell? ⟨g, o, none⟩ with
    | some (.slice (some a) _ _) => locAt t w a.block (i * t.sz) p
    | _ => none
  | _, _, _, _, _ => none

/-- The cells cs laid over those from o on. -/
def seg (cur : List Value) (o : Nat) (cs : List Value) : List Value := cur.take o ++ cs ++ cur.drop (o + cs.length)
theorem seg_length {cur cs : List Value} {o : Nat} (h : o + cs.length ≤ cur.length) : (seg cur o cs).length = cur.length := by
  unfold seg; simp; omega
theorem seg_same {cur cs : List Value} {o : Nat} (h : o + cs.length ≤ cur.length) : ((seg cur o cs).drop o).take cs.length = cs := by
  unfold seg
  rw [List.append_assoc, List.drop_append]
  have : (cur.take o).length = o := by simp; omega
  simp [this]
theorem seg_other {cur cs : List Value} {o a n : Nat} (h : o + cs.length ≤ cur.length) (hd : a + n ≤ o ∨ o + cs.length ≤ a) : ((seg cur o cs).drop a).take n = (cur.drop a).take n := by
  apply List.ext_getElem?
  intro k
  simp only [List.getElem?_take, List.getElem?_drop]
  split
  · rename_i hk
    unfold seg
    have hl : (cur.take o).length = o := by simp; omega
    rcases hd with hd | hd
    · rw [List.append_assoc, List.getElem?_append_left (by omega), List.getElem?_take_of_lt (by omega)]
    · rw [List.getElem?_append_right (by simp; omega), List.getElem?_drop]
      congr 1
      simp
      omega
  · rfl

variable {P : Program}

theorem rep_prod_cut {a b : Ty} {c1 c2 cur : List Value} {o : Nat} (ha : c1.length = a.sz) (hb : c2.length = b.sz) (h : (cur.drop o).take (a.sz + b.sz) = c1 ++ c2) :
    (cur.drop o).take a.sz = c1 ∧ (cur.drop (o + a.sz)).take b.sz = c2 := by
  constructor
  · have e : (cur.drop o).take a.sz = ((cur.drop o).take (a.sz + b.sz)).take a.sz := by rw [List.take_take, Nat.min_eq_left (by omega)]
    rw [e, h, ← ha, List.take_left]
  · have e : (cur.drop (o + a.sz)).take b.sz = ((cur.drop o).take (a.sz + b.sz)).drop a.sz := by rw [List.drop_take, List.drop_drop, Nat.add_sub_cancel_left]
    rw [e, h, ← ha, List.drop_left]
theorem take_add' (l : List Value) (m n : Nat) : l.take (m + n) = l.take m ++ (l.drop m).take n := by
  rw [List.take_add]

theorem cell_cur {w : World} {g o : Nat} {cur : Array Value} {e : TypeId} (hg : w.heap[g]? = some (.cells cur e (0, 0))) : w.cell? ⟨g, o, none⟩ = cur.toList[o]? := by
  simp [World.cell?, hg]

/-- What is written at a part, and what it leaves: the lens. -/
structure Lens (P : Program) (w : World) (S : BS) (g o : Nat) (cur : Array Value) (e : TypeId) (t : Ty) (F : BS) (x : t.den) (p : List Step) (v : V) (g' o' : Nat) (cur' : Array Value) (e' : TypeId) (Fv Fr : BS) : Prop where
  loc : locAt t w g o p = some (g', o')
  heap : w.heap[g']? = some (.cells cur' e' (0, 0))
  fits : o' + v.t.sz ≤ cur'.size
  rep : Rep P v.t w S Fv v.x ((cur'.toList.drop o').take v.t.sz)
  dis : BS.dis Fv Fr
  subv : BS.sub Fv F
  subr : BS.sub Fr F
  nv : ¬ Fv g'
  place : (g' = g ∧ cur' = cur ∧ e' = e ∧ o ≤ o' ∧ o' + v.t.sz ≤ o + t.sz) ∨ (g' ≠ g ∧ Fr g')
  back : ∀ (S' : BS) (v' v'' : V) (Fv' : BS) (w' : World) (cs' : List Value) (curg : Array Value), S.sub S' → cs'.length = v.t.sz → Rep P v'.t w' S' Fv' v'.x cs' → BS.dis Fv' Fr → ¬ Fv' g → ¬ Fv' g' →
    KeepS S w w' → (∀ b, Fr b → b ≠ g' → w'.heap[b]? = w.heap[b]?) → w'.heap[g']? = some (.cells (seg cur'.toList o' cs').toArray e' (0, 0)) →
    (g' ≠ g → curg = cur) → (g' = g → curg = (seg cur.toList o' cs').toArray) → setAt t x p v' = some v'' →
    v''.t.sz = t.sz ∧ Rep P v''.t w' S' (BS.un Fr Fv') v''.x ((curg.toList.drop o).take t.sz)

theorem lens : ∀ (p : List Step) (t : Ty) (w : World) (S F : BS) (g o : Nat) (cur : Array Value) (e : TypeId) (x : t.den) (v : V),
    w.heap[g]? = some (.cells cur e (0, 0)) → o + t.sz ≤ cur.size → Rep P t w S F x ((cur.toList.drop o).take t.sz) → ¬ F g → inR t x p → getAt t x p = some v →
    ∃ g' o' cur' e' Fv Fr, Lens P w S g o cur e t F x p v g' o' cur' e' Fv Fr := by
  intro p
  induction p with
  | nil =>
    intro t w S F g o cur e x v hg hf hr hn hi hv
    simp only [getAt, Option.some.injEq] at hv
    subst hv
    refine ⟨g, o, cur, e, F, BS.bot, by simp [locAt], hg, hf, hr, BS.dis_bot _, BS.sub_refl _, BS.bot_sub _, hn, .inl ⟨rfl, rfl, rfl, Nat.le_refl _, Nat.le_refl _⟩, ?_⟩
    intro S' v' v'' Fv' w' cs' curg hSS hl hr' _ _ _ _ _ hg' _ hcg hs
    simp only [setAt, Option.some.injEq] at hs
    subst hs
    have hlen := rep_len _ hr'
    have hsz : v'.t.sz = t.sz := by simp only at hl; omega
    refine ⟨hsz, ?_⟩
    rw [hcg rfl]
    have := seg_same (cur := cur.toList) (cs := cs') (o := o) (by simp only at hl; rw [hl]; simpa using hf)
    simp only at hl
    rw [hl] at this
    simp only [List.toList_toArray] at this ⊢
    rw [this]
    exact rep_mono _ hr' (BS.sub_refl _) (fun b hb => .inr hb)
  | cons s p ih =>
    intro t
    cases t with
    | prod a b =>
      cases s with
      | idx i => intro w S F g o cur e x v hg hf hr hn hi hv; exact absurd hi (by simp [inR])
      | fld k =>
        induction k generalizing a b with
        | zero =>
          intro w S F g o cur e x v hg hf hr hn hi hv
          obtain ⟨c1, c2, F1, F2, hc, h1, h2, hd, hF1, hF2⟩ := hr
          have hl1 := rep_len _ h1
          have hl2 := rep_len _ h2
          obtain ⟨e1, e2⟩ := rep_prod_cut (a := a) (b := b) hl1 hl2 hc
          simp only [Ty.sz] at hf
          simp only [inR] at hi
          simp only [getAt] at hv
          obtain ⟨g', o', cur', e', Fv, Fr, L⟩ := ih a w S F1 g o cur e x.1 v hg (by omega) (by rw [e1]; exact h1) (fun h => hn (hF1 g h)) hi hv
          refine ⟨g', o', cur', e', Fv, BS.un Fr F2, by simp only [locAt]; exact L.loc, L.heap, L.fits, L.rep, ?_, L.subv.trans hF1, ?_, L.nv, ?_, ?_⟩
          · intro b hv hb
            rcases hb with hb | hb
            · exact L.dis b hv hb
            · exact hd b (L.subv b hv) hb
          · intro b hb
            rcases hb with hb | hb
            · exact hF1 b (L.subr b hb)
            · exact hF2 b hb
          · rcases L.place with ⟨q1, q2, q3, q4, q5⟩ | ⟨q1, q2⟩
            · exact .inl ⟨q1, q2, q3, q4, by simp only [Ty.sz]; omega⟩
            · exact .inr ⟨q1, .inl q2⟩
          · intro S' v' v'' Fv' w' cs' curg hSS hl hr' hdis hng hng' hS hFr hg' hc1 hc2 hs
            simp only [setAt, Option.map_eq_some_iff] at hs
            obtain ⟨u, hu, rfl⟩ := hs
            obtain ⟨q1, q2⟩ := L.back S' v' u Fv' w' cs' curg hSS hl hr' (fun b h1 h2 => hdis b h1 (.inl h2)) hng hng' hS (fun b hb hne => hFr b (.inl hb) hne) hg' hc1 hc2 hu
            refine ⟨by simp only [Ty.sz]; omega, ?_⟩
            have hcell : (curg.toList.drop (o + a.sz)).take b.sz = c2 := by
              rcases L.place with ⟨p1, p2, p3, p4, p5⟩ | ⟨p1, p2⟩
              · subst p2
                have hft := L.fits
                rw [hc2 p1]
                simp only [List.toList_toArray]
                rw [seg_other (by simpa [hl] using hft) (.inr (by omega)), e2]
              · rw [hc1 p1, e2]
            refine ⟨(curg.toList.drop o).take a.sz, c2, BS.un Fr Fv', F2, ?_, q2, ?_, ?_, ?_, ?_⟩
            · simp only [Ty.sz]
              rw [take_add', List.drop_drop, hcell]
            · refine rep_mono _ (rep_keep _ h2 hS (fun b' hb' => ?_)) hSS (BS.sub_refl _)
              by_cases hbg : b' = g'
              · subst hbg
                rcases L.place with ⟨p1, p2, p3, p4, p5⟩ | ⟨p1, p2⟩
                · exact absurd (p1 ▸ hF2 _ hb') hn
                · exact (hd _ (L.subr _ p2) hb').elim
              · exact hFr b' (.inr hb') hbg
            · intro b hb hb2
              rcases hb with hb | hb
              · exact hd b (L.subr b hb) hb2
              · exact hdis b hb (.inr hb2)
            · intro b hb
              rcases hb with hb | hb
              · exact .inl (.inl hb)
              · exact .inr hb
            · exact fun b hb => .inl (.inr hb)
        | succ k ihk =>
          intro w S F g o cur e x v hg hf hr hn hi hv
          obtain ⟨c1, c2, F1, F2, hc, h1, h2, hd, hF1, hF2⟩ := hr
          have hl1 := rep_len _ h1
          have hl2 := rep_len _ h2
          obtain ⟨e1, e2⟩ := rep_prod_cut (a := a) (b := b) hl1 hl2 hc
          simp only [Ty.sz] at hf
          simp only [inR] at hi
          simp only [getAt] at hv
          have key : ∃ g' o' cur' e' Fv Fr, Lens P w S g (o + a.sz) cur e b F2 x.2 (.fld k :: p) v g' o' cur' e' Fv Fr := by
            cases b with
            | prod b1 b2 => exact ihk b1 b2 w S F2 g (o + a.sz) cur e x.2 v hg (by omega) (by rw [e2]; exact h2) (fun h => hn (hF2 g h)) hi hv
            | _ => simp [inR] at hi
          obtain ⟨g', o', cur', e', Fv, Fr, L⟩ := key
          refine ⟨g', o', cur', e', Fv, BS.un Fr F1, by simp only [locAt]; exact L.loc, L.heap, L.fits, L.rep, ?_, L.subv.trans hF2, ?_, L.nv, ?_, ?_⟩
          · intro b hv hb
            rcases hb with hb | hb
            · exact L.dis b hv hb
            · exact hd b hb (L.subv b hv)
          · intro b hb
            rcases hb with hb | hb
            · exact hF2 b (L.subr b hb)
            · exact hF1 b hb
          · rcases L.place with ⟨q1, q2, q3, q4, q5⟩ | ⟨q1, q2⟩
            · exact .inl ⟨q1, q2, q3, by omega, by simp only [Ty.sz]; omega⟩
            · exact .inr ⟨q1, .inl q2⟩
          · intro S' v' v'' Fv' w' cs' curg hSS hl hr' hdis hng hng' hS hFr hg' hc1 hc2 hs
            simp only [setAt, Option.map_eq_some_iff] at hs
            obtain ⟨u, hu, rfl⟩ := hs
            obtain ⟨q1, q2⟩ := L.back S' v' u Fv' w' cs' curg hSS hl hr' (fun b h1 h2 => hdis b h1 (.inl h2)) hng hng' hS (fun b hb hne => hFr b (.inl hb) hne) hg' hc1 hc2 hu
            refine ⟨by simp only [Ty.sz]; omega, ?_⟩
            have hcell : (curg.toList.drop o).take a.sz = c1 := by
              rcases L.place with ⟨p1, p2, p3, p4, p5⟩ | ⟨p1, p2⟩
              · subst p2
                have hft := L.fits
                rw [hc2 p1]
                simp only [List.toList_toArray]
                rw [seg_other (by simpa [hl] using hft) (.inl (by omega)), e1]
              · rw [hc1 p1, e1]
            refine ⟨c1, (curg.toList.drop (o + a.sz)).take b.sz, F1, BS.un Fr Fv', ?_, ?_, q2, ?_, ?_, ?_⟩
            · simp only [Ty.sz]
              rw [take_add', List.drop_drop, hcell]
            · refine rep_mono _ (rep_keep _ h1 hS (fun b' hb' => ?_)) hSS (BS.sub_refl _)
              by_cases hbg : b' = g'
              · subst hbg
                rcases L.place with ⟨p1, p2, p3, p4, p5⟩ | ⟨p1, p2⟩
                · exact absurd (p1 ▸ hF1 _ hb') hn
                · exact (hd _ hb' (L.subr _ p2)).elim
              · exact hFr b' (.inr hb') hbg
            · intro b hb2 hb
              rcases hb with hb | hb
              · exact hd b hb2 (L.subr b hb)
              · exact hdis b hb (.inr hb2)
            · exact fun b hb => .inl (.inr hb)
            · intro b hb
              rcases hb with hb | hb
              · exact .inl (.inl hb)
              · exact .inr hb
    | own el t =>
      cases s with
      | fld k => intro w S F g o cur e x v hg hf hr hn hi hv; exact absurd hi (by cases k <;> simp [inR])
      | idx i =>
        intro w S F g o cur e x v hg hf hr hn hi hv
        simp only [inR] at hi
        obtain ⟨hlt, hi⟩ := hi
        simp only [getAt] at hv
        rcases hr with ⟨hc, hx⟩ | ⟨gi, cap, curi, hc, hFg, hgi, h1, h2, h3, Fs, hFs, hng, hdd, he⟩
        · rw [hx] at hlt; exact absurd hlt (by simp)
        · have hne : gi ≠ g := fun h => hn (h ▸ hFg)
          have hgetD : (x : List t.den).getD i t.dflt = (x : List t.den)[i] := by simp [List.getD_eq_getElem?_getD, hlt]
          rw [hgetD] at hi hv
          have hmul : (i + 1) * t.sz ≤ cap * t.sz := Nat.mul_le_mul_right _ (by omega)
          have hmul2 : (i + 1) * t.sz = i * t.sz + t.sz := by rw [Nat.add_mul, Nat.one_mul]
          obtain ⟨g', o', cur', e', Fv, Fr, L⟩ := ih t w S (Fs i) gi (i * t.sz) curi el (x : List t.den)[i] v hgi (by omega) (he i hlt) (hng i) hi hv
          have hcell : w.cell? ⟨g, o, none⟩ = some (.slice (some ⟨gi, 0, none⟩) (x : List t.den).length cap) := by
            rw [cell_cur hg]
            have := congrArg (fun l : List Value => l[0]?) hc
            simpa [List.getElem?_take, List.getElem?_drop] using this
          have hg'g : g' ≠ g := by
            rcases L.place with ⟨q1, _⟩ | ⟨_, q2⟩
            · rw [q1]; exact hne
            · exact fun h => hn (h ▸ hFs i _ (L.subr _ q2))
          refine ⟨g', o', cur', e', Fv, fun b => b = gi ∨ Fr b ∨ ∃ j, j ≠ i ∧ Fs j b, by simp only [locAt, hcell]; exact L.loc, L.heap, L.fits, L.rep, ?_, L.subv.trans (hFs i), ?_, L.nv, ?_, ?_⟩
          · rintro b hv (rfl | hb | ⟨j, hj, hb⟩)
            · exact hng i (L.subv _ hv)
            · exact L.dis b hv hb
            · exact hdd i j (Ne.symm hj) b (L.subv b hv) hb
          · rintro b (rfl | hb | ⟨j, hj, hb⟩)
            · exact hFg
            · exact hFs i b (L.subr b hb)
            · exact hFs j b hb
          · refine .inr ⟨hg'g, ?_⟩
            rcases L.place with ⟨q1, _⟩ | ⟨_, q2⟩
            · exact .inl q1
            · exact .inr (.inl q2)
          · intro S' v' v'' Fv' w' cs' curg hSS hl hr' hdis hngg hng' hS hFr hg' hc1 hc2 hs
            simp only [setAt, Option.bind_eq_some_iff] at hs
            obtain ⟨u, hu, hs⟩ := hs
            rw [hgetD] at hu
            obtain ⟨ut, ux⟩ := u
            simp only [Option.map_eq_some_iff] at hs
            obtain ⟨y, hy, rfl⟩ := hs
            obtain ⟨rfl, rfl⟩ := coe_some hy
            have hgi' : ∃ curi', w'.heap[gi]? = some (.cells curi' el (0, 0)) ∧ (g' ≠ gi → curi' = curi) ∧ (g' = gi → curi' = (seg curi.toList o' cs').toArray) := by
              by_cases hgg : g' = gi
              · subst hgg
                rcases L.place with ⟨_, q2, q3, _⟩ | ⟨q1, _⟩
                · subst q2; subst q3; exact ⟨_, hg', fun h => absurd rfl h, fun _ => rfl⟩
                · exact absurd rfl q1
              · exact ⟨curi, (hFr gi (.inl rfl) (fun h => hgg h.symm)).trans hgi, fun _ => rfl, fun h => absurd h hgg⟩
            obtain ⟨curi', hgi', hci1, hci2⟩ := hgi'
            obtain ⟨q1, q2⟩ := L.back S' v' ⟨ut, y⟩ Fv' w' cs' curi' hSS hl hr' (fun b h1 h2 => hdis b h1 (.inr (.inl h2))) (fun h => hdis gi h (.inl rfl)) hng' hS (fun b hb hne => hFr b (.inr (.inl hb)) hne) hg' hci1 hci2 hu
            have hsz : curi'.size = curi.size := by
              by_cases hgg : g' = gi
              · rw [hci2 hgg]
                have hft := L.fits
                rcases L.place with ⟨_, p2, _, _, _⟩ | ⟨p1, _⟩
                · subst p2
                  simp only [List.size_toArray]
                  rw [seg_length (by simpa [hl] using hft)]
                  simp
                · exact absurd hgg p1
              · rw [hci1 hgg]
            refine ⟨rfl, ?_⟩
            rw [hc1 hg'g, hc]
            refine .inr ⟨gi, cap, curi', by simp, .inl (.inl rfl), hgi', by simpa using h1, h2, by rw [hsz]; exact h3, fun j => if j = i then BS.un Fr Fv' else Fs j, ?_, ?_, ?_, ?_⟩
            · intro j b hb
              by_cases hj : j = i
              · simp only [hj, if_true] at hb
                rcases hb with hb | hb
                · exact .inl (.inr (.inl hb))
                · exact .inr hb
              · simp only [hj, if_false] at hb
                exact .inl (.inr (.inr ⟨j, hj, hb⟩))
            · intro j hb
              by_cases hj : j = i
              · simp only [hj, if_true] at hb
                rcases hb with hb | hb
                · exact hng i (L.subr _ hb)
                · exact hdis gi hb (.inl rfl)
              · simp only [hj, if_false] at hb
                exact hng j hb
            · intro j k hjk b hb hb2
              by_cases hj : j = i
              · have hk : ¬ k = i := fun h => hjk (hj.trans h.symm)
                simp only [hj, if_true] at hb
                simp only [hk, if_false] at hb2
                rcases hb with hb | hb
                · exact hdd i k (Ne.symm hk) b (L.subr b hb) hb2
                · exact hdis b hb (.inr (.inr ⟨k, hk, hb2⟩))
              · simp only [hj, if_false] at hb
                by_cases hk : k = i
                · simp only [hk, if_true] at hb2
                  rcases hb2 with hb2 | hb2
                  · exact hdd i j (Ne.symm hj) b (L.subr b hb2) hb
                  · exact hdis b hb2 (.inr (.inr ⟨j, hj, hb⟩))
                · simp only [hk, if_false] at hb2
                  exact hdd j k hjk b hb hb2
            · intro j hj
              have hjl : j < (x : List ut.den).length := by simpa using hj
              by_cases hji : j = i
              · subst hji
                simp only [if_true, List.getElem_set_self]
                exact q2
              · simp only [hji, if_false]
                rw [List.getElem_set_ne (fun h => hji h.symm)]
                have hcells : (curi'.toList.drop (j * ut.sz)).take ut.sz = (curi.toList.drop (j * ut.sz)).take ut.sz := by
                  by_cases hgg : g' = gi
                  · rw [hci2 hgg]
                    have hft := L.fits
                    rcases L.place with ⟨_, p2, _, p4, p5⟩ | ⟨p1, _⟩
                    · subst p2
                      simp only [List.toList_toArray]
                      refine seg_other (by simpa [hl] using hft) ?_
                      rcases Nat.lt_or_gt_of_ne hji with hlt' | hgt
                      · left
                        have : (j + 1) * ut.sz ≤ i * ut.sz := Nat.mul_le_mul_right _ (by omega)
                        rw [Nat.add_mul, Nat.one_mul] at this
                        omega
                      · right
                        have : (i + 1) * ut.sz ≤ j * ut.sz := Nat.mul_le_mul_right _ (by omega)
                        rw [Nat.add_mul, Nat.one_mul] at this
                        omega
                    · exact absurd hgg p1
                  · rw [hci1 hgg]
                rw [hcells]
                refine rep_mono _ (rep_keep _ (he j hjl) hS (fun b hb => ?_)) hSS (BS.sub_refl _)
                refine hFr b (.inr (.inr ⟨j, hji, hb⟩)) (fun hbg => ?_)
                subst hbg
                rcases L.place with ⟨p1, _⟩ | ⟨_, p2⟩
                · exact hng j (p1 ▸ hb)
                · exact hdd i j (Ne.symm hji) _ (L.subr _ p2) hb
    | _ => intro w S F g o cur e x v hg hf hr hn hi hv; exact absurd hi (by cases s <;> (try rename_i k; cases k) <;> simp [inR])
end Go.Tv
