/-
  What the slots of a call hold, and what that says of the machine's frame and memory. Conditions: none; plain definitions and lemmas.
-/
import Derived.Test.YtgdchicpmjmhaaaTvB
namespace Go.Tv
set_option linter.unusedVariables false
set_option linter.unusedSimpArgs false

@[reducible] def Ty.free : Ty → Bool
  | .own _ _ => false
  | .prod a b => a.free && b.free
  | .arr _ t => t.free
  | .iter lv _ => !lv
  | _ => true

@[reducible] def Ty.frz : Ty → Ty
  | .own _ t => .slice t.frz
  | .prod a b => .prod a.frz b.frz
  | .arr n t => .arr n t.frz
  | .iter _ t => .iter false t
  | t => t

/-- The layout alone: what is one cell is alike. -/
@[reducible] def Ty.shp : Ty → Ty
  | .prod a b => .prod a.shp b.shp
  | .arr n t => .arr n t.shp
  | .unit => .unit
  | _ => .bool
theorem Ty.shp_sz : ∀ t : Ty, t.shp.sz = t.sz
  | .prod a b => by simp [Ty.shp, Ty.sz, Ty.shp_sz a, Ty.shp_sz b]
  | .arr n t => by simp [Ty.shp, Ty.sz, Ty.shp_sz t]
  | .own _ _ | .int _ | .bool | .str | .unit | .err | .slice _ | .cellp _ | .fn _ _ | .iter _ _ | .stat _ | .hole => rfl
theorem Ty.shp_frz : ∀ t : Ty, t.frz.shp = t.shp
  | .prod a b => by simp [Ty.shp, Ty.frz, Ty.shp_frz a, Ty.shp_frz b]
  | .arr n t => by simp [Ty.shp, Ty.frz, Ty.shp_frz t]
  | .own _ _ | .int _ | .bool | .str | .unit | .err | .slice _ | .cellp _ | .fn _ _ | .iter _ _ | .stat _ | .hole => rfl
theorem Ty.frz_sz : ∀ t : Ty, t.frz.sz = t.sz
  | .own _ _ => rfl
  | .prod a b => by simp [Ty.frz, Ty.sz, Ty.frz_sz a, Ty.frz_sz b]
  | .arr n t => by simp [Ty.frz, Ty.sz, Ty.frz_sz t]
  | .int _ | .bool | .str | .unit | .err | .slice _ | .cellp _ | .fn _ _ | .iter _ _ | .stat _ | .hole => rfl
theorem Ty.frz_isAg : ∀ t : Ty, t.frz.isAg = t.isAg
  | .own _ _ => rfl
  | .prod a b => rfl
  | .arr n t => rfl
  | .int _ | .bool | .str | .unit | .err | .slice _ | .cellp _ | .fn _ _ | .iter _ _ | .stat _ | .hole => rfl
theorem Ty.frz_den : ∀ t : Ty, t.frz.den = t.den
  | .own _ t => by simp only [Ty.frz, Ty.den, Ty.frz_den t]
  | .prod a b => by simp only [Ty.frz, Ty.den, Ty.frz_den a, Ty.frz_den b]
  | .arr n t => by simp only [Ty.frz, Ty.den, Ty.frz_den t]
  | .int _ | .bool | .str | .unit | .err | .slice _ | .cellp _ | .fn _ _ | .iter _ _ | .stat _ | .hole => rfl
theorem Ty.frz_toV (t : Ty) (cs : List Value) : t.frz.toV cs = t.toV cs := by unfold Ty.toV; rw [Ty.frz_isAg]

def V.frz (v : V) : V := ⟨v.t.frz, cast v.t.frz_den.symm v.x⟩

variable {P : Program}

theorem cast_prod {A B A' B' : Type} (ha : A = A') (hb : B = B') (h : (A × B) = (A' × B')) (x : A × B) : cast h x = (cast ha x.1, cast hb x.2) := by
  subst ha; subst hb; rfl
theorem cast_list {A A' : Type} (ha : A = A') (h : List A = List A') (x : List A) : (cast h x).length = x.length ∧ ∀ i (h1 : i < (cast h x).length) (h2 : i < x.length), (cast h x)[i] = cast ha x[i] := by
  subst ha; exact ⟨rfl, fun _ _ _ => rfl⟩
theorem cast_list_nil {A A' : Type} (ha : A = A') (h : List A = List A') (x : List A) : cast h x = [] ↔ x = [] := by
  subst ha; exact Iff.rfl

theorem rep_free : ∀ (t : Ty) {w : World} {S F : BS} {x : t.den} {cs : List Value}, t.free = true → Rep P t w S F x cs → Rep P t w S BS.bot x cs := by
  intro t
  induction t with
  | prod a b iha ihb =>
    intro w S F x cs hf h
    simp only [Ty.free, Bool.and_eq_true] at hf
    obtain ⟨c1, c2, F1, F2, rfl, h1, h2, hd, hF1, hF2⟩ := h
    exact ⟨c1, c2, BS.bot, BS.bot, rfl, iha hf.1 h1, ihb hf.2 h2, BS.dis_bot _, BS.sub_refl _, BS.sub_refl _⟩
  | arr n t ih =>
    intro w S F x cs hf h
    obtain ⟨h1, h2, Fs, hFs, hdd, he⟩ := h
    exact ⟨h1, h2, fun _ => BS.bot, fun _ => BS.sub_refl _, fun _ _ _ => BS.dis_bot _, fun i hi => ih hf (he i hi)⟩
  | own e t ih => intro w S F x cs hf h; simp [Ty.free] at hf
  | int k => intro w S F x cs hf h; exact h
  | bool => intro w S F x cs hf h; exact h
  | str => intro w S F x cs hf h; exact h
  | unit => intro w S F x cs hf h; exact h
  | hole => intro w S F x cs hf h; exact h
  | stat f => intro w S F x cs hf h; exact h
  | err => intro w S F x cs hf h; exact h
  | slice t ih => intro w S F x cs hf h; exact h
  | cellp t ih => intro w S F x cs hf h; exact h
  | fn a r _ _ => intro w S F x cs hf h; exact h
  | iter lv t _ =>
    intro w S F x cs hf h
    cases lv with
    | false => exact h
    | true => simp [Ty.free] at hf

theorem cellsAt_row {w : World} {g : Nat} {cur : Array Value} {e : TypeId} {a n : Nat} (hg : w.heap[g]? = some (.cells cur e (0, 0))) : CellsAt w g a ((cur.toList.drop a).take n) := by
  intro k v hk
  rw [cell_cur hg]
  rw [List.getElem?_take] at hk
  split at hk
  · rwa [List.getElem?_drop] at hk
  · cases hk

theorem rep_frz : ∀ (t : Ty) {w : World} {S F : BS} {x : t.den} {cs : List Value}, Rep P t w S F x cs → Rep P t.frz w (BS.un S F) BS.bot (cast t.frz_den.symm x) cs := by
  intro t
  induction t with
  | prod a b iha ihb =>
    intro w S F x cs h
    obtain ⟨c1, c2, F1, F2, rfl, h1, h2, hd, hF1, hF2⟩ := h
    have hc := cast_prod a.frz_den.symm b.frz_den.symm (Ty.prod a b).frz_den.symm x
    refine ⟨c1, c2, BS.bot, BS.bot, rfl, ?_, ?_, BS.dis_bot _, BS.sub_refl _, BS.sub_refl _⟩
    · rw [hc]
      exact rep_mono _ (iha h1) (fun g hg => hg.imp id (hF1 g)) (BS.sub_refl _)
    · rw [hc]
      exact rep_mono _ (ihb h2) (fun g hg => hg.imp id (hF2 g)) (BS.sub_refl _)
  | arr n t ih =>
    intro w S F x cs h
    obtain ⟨h1, h2, Fs, hFs, hdd, he⟩ := h
    obtain ⟨hl, hi⟩ := cast_list t.frz_den.symm (Ty.arr n t).frz_den.symm x
    refine ⟨hl.trans h1, by rw [Ty.frz_sz]; exact h2, fun _ => BS.bot, fun _ => BS.sub_refl _, fun _ _ _ => BS.dis_bot _, fun i hlt => ?_⟩
    rw [hi i hlt (by rw [← hl]; exact hlt), Ty.frz_sz]
    exact rep_mono _ (ih (he i (by rw [← hl]; exact hlt))) (fun g hg => hg.imp id (hFs i g)) (BS.sub_refl _)
  | own e t ih =>
    intro w S F x cs h
    obtain ⟨hl, hi⟩ := cast_list t.frz_den.symm (Ty.own e t).frz_den.symm x
    rcases h with ⟨rfl, hx⟩ | ⟨g, cap, cur, rfl, hg, hh, h1, h2, h3, Fs, hFs, hng, hdd, he⟩
    · have hx' := (cast_list_nil t.frz_den.symm (Ty.own e t).frz_den.symm x).2 hx
      refine ⟨none, 0, ?_, ?_, Nat.zero_le _, fun hn => absurd hx' hn⟩
      · rw [hx']; rfl
      · rw [hx']; exact Nat.le_refl _
    · refine ⟨some ⟨g, 0, none⟩, cap, ?_, ?_, h2, fun _ => ⟨g, 0, rfl, .inr hg, fun i hlt => ?_⟩⟩
      · rw [hl]
      · rw [hl]; exact h1
      · have hlt' : i < (x : List t.den).length := by rw [← hl]; exact hlt
        refine ⟨(cur.toList.drop (i * t.sz)).take t.sz, ?_, ?_⟩
        · rw [hi i hlt hlt']
          exact rep_mono _ (ih (he i hlt')) (fun g hg => hg.imp id (hFs i g)) (BS.sub_refl _)
        · rw [Ty.frz_sz, Nat.zero_add]
          exact cellsAt_row hh
  | int k => intro w S F x cs h; exact h
  | bool => intro w S F x cs h; exact h
  | str => intro w S F x cs h; exact h
  | unit => intro w S F x cs h; exact h
  | hole => intro w S F x cs h; exact h
  | stat f => intro w S F x cs h; exact h
  | err => intro w S F x cs h; exact h
  | slice t ih => intro w S F x cs h; exact rep_mono (.slice t) (F := BS.bot) (show Rep P (.slice t) w S BS.bot x cs from h) (fun g hg => .inl hg) (BS.sub_refl _)
  | cellp t ih => intro w S F x cs h; exact rep_mono (.cellp t) (F := BS.bot) (show Rep P (.cellp t) w S BS.bot x cs from h) (fun g hg => .inl hg) (BS.sub_refl _)
  | fn a r _ _ => intro w S F x cs h; exact rep_mono (.fn a r) (F := BS.bot) (show Rep P (.fn a r) w S BS.bot x cs from h) (fun g hg => .inl hg) (BS.sub_refl _)
  | iter lv t _ =>
    intro w S F x cs h
    cases lv with
    | false => exact h
    | true => obtain ⟨f, caps, rfl, _⟩ := h; exact ⟨_, rfl, rfl⟩

/-! ### Slots -/
inductive Slot where
  | undef
  | val (v : V)
  | box (v : V)
  | ref (j : Tmp) (p : List Step) (n m : Nat)
  | ali (j : Tmp) (p : List Step) (n m : Nat)
  | tup (vs : List (Option V))
  | nil
  | skip

abbrev Ent := Slot × Nat × Nat
abbrev Rd := Tmp → Ent

def fldOnly : List Step → Bool
  | [] => true
  | .fld _ :: p => fldOnly p
  | .idx _ :: _ => false

def Slot.rget : Slot → List Step → Option V
  | .box v, p => getAt v.t v.x p
  | .val v, p => getAt v.t v.x p
  | _, _ => none
def Slot.rin : Slot → List Step → Prop
  | .box v, p => inR v.t v.x p
  | .val v, p => inR v.t v.x p
  | _, _ => False
/-- where the part p of what the slot holds lies; u: the slot's value -/
def Slot.rloc (w : World) (s : Slot) (u : Value) (p : List Step) : Option (Nat × Nat) :=
  match s, u, p with
  | .box v, .pointer (some a), p => locAt v.t w a.block 0 p
  | .val ⟨.own _ t, _⟩, .slice (some a) _ _, .idx i :: p => locAt t w a.block (i * t.sz) p
  | _, _, _ => none

def RepL (P : Program) (w : World) (S : BS) : BS → List V → List Value → Prop
  | _, [], us => us = []
  | F, v :: vs, us => ∃ u us' cs F1 F2, us = u :: us' ∧ u = v.t.toV cs ∧ Rep P v.t w S F1 v.x cs ∧ RepL P w S F2 vs us' ∧ BS.dis F1 F2 ∧ BS.sub F1 F ∧ BS.sub F2 F

/-- a tuple's parts; of some nothing is said any more -/
def RepT (P : Program) (w : World) (S : BS) : BS → List (Option V) → List Value → Prop
  | _, [], us => us = []
  | F, none :: vs, us => ∃ u us', us = u :: us' ∧ RepT P w S F vs us'
  | F, some v :: vs, us => ∃ u us' cs F1 F2, us = u :: us' ∧ u = v.t.toV cs ∧ Rep P v.t w S F1 v.x cs ∧ RepT P w S F2 vs us' ∧ BS.dis F1 F2 ∧ BS.sub F1 F ∧ BS.sub F2 F

def RefOk (w : World) (root : Slot) (rv : Value) (p : List Step) (u : Value) : Prop :=
  root.rin p ∧ ∃ g o, root.rloc w rv p = some (g, o) ∧ u = .pointer (some ⟨g, o, none⟩)
def AliOk (w : World) (root : Slot) (rv : Value) (p : List Step) (u : Value) : Prop :=
  (p = [] ∧ (∃ v, root = .val v) ∧ u = rv) ∨
  (root.rin p ∧ ∃ g o v cs, root.rloc w rv p = some (g, o) ∧ root.rget p = some v ∧ v.t.free = false ∧ CellsAt w g o cs ∧ cs.length = v.t.sz ∧ u = v.t.toV cs)

def SRep (P : Program) (w : World) (S F : BS) (get : Rd) (tmps : Array Value) : Slot → Value → Prop
  | .undef, _ => True
  | .val v, u => ∃ cs, u = v.t.toV cs ∧ Rep P v.t w S F v.x cs
  | .box v, u => ∃ g cs e F', u = .pointer (some ⟨g, 0, none⟩) ∧ w.heap[g]? = some (.cells cs.toArray e (0, 0)) ∧ F g ∧ Rep P v.t w S F' v.x cs ∧ BS.sub F' F ∧ ¬ F' g
  | .ref j p n m, u => n ≤ (get j).2.1 ∧ ((get j).2.1 = n → m ≤ (get j).2.2 ∧ (fldOnly p = true ∨ (get j).2.2 = m → RefOk w (get j).1 (tmps.getD j undef) p u))
  | .ali j p n m, u => n ≤ (get j).2.1 ∧ ((get j).2.1 = n → m ≤ (get j).2.2 ∧ ((get j).2.2 = m → AliOk w (get j).1 (tmps.getD j undef) p u))
  | .tup vs, u => ∃ us, u = .tuple us.toArray ∧ RepT P w S F vs us
  | .nil, u => u = .slice none 0 0
  | .skip, u => u = undef

/-- How many slots a call has, and which deferred calls stand. -/
structure Sz where
  sz : Nat
  mks : List Nat
/-- the marks of loops over functions that are behind -/
def Sz.dfs (n : Sz) : List Deferred := n.mks.map fun D => { target := .collected D, args := #[] }

/-- The call's frame: what it was called with (memory w0, shared blocks S0, owned ones F0), what its slots hold now. -/
structure SimX (P : Program) (n : Sz) (w0 : World) (S0 F0 : BS) (get : Rd) (a : Act) (w : World) (S : BS) (fp : Tmp → BS) : Prop where
  defers : a.defers = n.dfs
  size : a.tmps.size = n.sz
  slot : ∀ t, SRep P w S (fp t) get a.tmps (get t).1 (a.tmps.getD t undef)
  apart : ∀ t u, t ≠ u → BS.dis (fp t) (fp u)
  sapart : ∀ t, BS.dis S (fp t)
  fpb : ∀ t g, fp t g → (F0 g ∨ w0.heap.size ≤ g) ∧ g < w.heap.size
  sb : ∀ g, S g → (S0 g ∨ F0 g ∨ w0.heap.size ≤ g) ∧ g < w.heap.size
  kp : Kp F0 w0 w
  marks : n.mks.Nodup ∧ ∀ D ∈ n.mks, w.heap[D]? = some (.deferred (some [])) ∧ w0.heap.size ≤ D ∧ ¬ S D ∧ ∀ t, ¬ fp t D

def Sim (P : Program) (n : Sz) (w0 : World) (S0 F0 : BS) (get : Rd) (a : Act) (w : World) : Prop := ∃ S fp, SimX P n w0 S0 F0 get a w S fp

/-! ### What slots say is kept -/
theorem locAt_keep : ∀ (p : List Step) (t : Ty) {w w' : World} {S F : BS} {x : t.den} {cs : List Value} {g o : Nat}, Rep P t w S F x cs → CellsAt w g o cs → CellsAt w' g o cs → inR t x p → KeepS F w w' →
    locAt t w' g o p = locAt t w g o p := by
  intro p
  induction p with
  | nil => intro t w w' S F x cs g o h hc hc' hi hF; simp [locAt]
  | cons s p ih =>
    intro t
    cases t with
    | prod a b =>
      cases s with
      | idx i => intro w w' S F x cs g o h hc hc' hi hF; simp [inR] at hi
      | fld k =>
        induction k generalizing a b with
        | zero =>
          intro w w' S F x cs g o h hc hc' hi hF
          obtain ⟨c1, c2, F1, F2, rfl, h1, h2, hd, hF1, hF2⟩ := h
          simp only [locAt]
          exact ih a h1 (fun k v hk => hc k v (by rw [List.getElem?_append_left (by have := (List.getElem?_eq_some_iff.1 hk).1; omega)]; exact hk))
            (fun k v hk => hc' k v (by rw [List.getElem?_append_left (by have := (List.getElem?_eq_some_iff.1 hk).1; omega)]; exact hk)) hi (hF.mono hF1)
        | succ k ihk =>
          intro w w' S F x cs g o h hc hc' hi hF
          obtain ⟨c1, c2, F1, F2, rfl, h1, h2, hd, hF1, hF2⟩ := h
          have hl := rep_len _ h1
          simp only [locAt]
          have q : ∀ {w : World}, CellsAt w g o (c1 ++ c2) → CellsAt w g (o + a.sz) c2 := fun hc k v hk => by
            have := hc (a.sz + k) v (by rw [List.getElem?_append_right (by omega), hl, Nat.add_sub_cancel_left]; exact hk)
            rwa [← Nat.add_assoc] at this
          simp only [inR] at hi
          cases b with
          | prod b1 b2 => exact ihk b1 b2 h2 (q hc) (q hc') hi (hF.mono hF2)
          | _ => simp [inR] at hi
    | own e t =>
      cases s with
      | fld k => intro w w' S F x cs g o h hc hc' hi hF; cases k <;> simp [inR] at hi
      | idx i =>
        intro w w' S F x cs g o h hc hc' hi hF
        simp only [inR] at hi
        obtain ⟨hlt, hi⟩ := hi
        rcases h with ⟨_, hx⟩ | ⟨gi, cap, cur, rfl, hg, hh, h1, h2, h3, Fs, hFs, hng, hdd, he⟩
        · rw [hx] at hlt; exact absurd hlt (by simp)
        · have e1 := hc 0 _ rfl
          have e2 := hc' 0 _ rfl
          simp only [Nat.add_zero] at e1 e2
          simp only [locAt, e1, e2]
          have hgetD : (x : List t.den).getD i t.dflt = (x : List t.den)[i] := by simp [List.getD_eq_getElem?_getD, hlt]
          rw [hgetD] at hi
          exact ih t (he i hlt) (cellsAt_row hh) (cellsAt_row ((hF gi hg).trans hh)) hi (hF.mono (hFs i))
    | _ => intro w w' S F x cs g o h hc hc' hi hF; exact absurd hi (by cases s <;> (try rename_i k; cases k) <;> simp [inR])

theorem repL_keep : ∀ (vs : List V) {w w' : World} {S F : BS} {us : List Value}, RepL P w S F vs us → KeepS S w w' → KeepS F w w' → RepL P w' S F vs us
  | [], w, w', S, F, us, h, hs, hf => h
  | v :: vs, w, w', S, F, us, h, hs, hf => by
    obtain ⟨u, us', cs, F1, F2, rfl, rfl, h1, h2, hd, hF1, hF2⟩ := h
    exact ⟨_, us', cs, F1, F2, rfl, rfl, rep_keep _ h1 hs (hf.mono hF1), repL_keep vs h2 hs (hf.mono hF2), hd, hF1, hF2⟩
theorem repL_mono : ∀ (vs : List V) {w : World} {S S' F F' : BS} {us : List Value}, RepL P w S F vs us → S.sub S' → F.sub F' → RepL P w S' F' vs us
  | [], w, S, S', F, F', us, h, hs, hf => h
  | v :: vs, w, S, S', F, F', us, h, hs, hf => by
    obtain ⟨u, us', cs, F1, F2, rfl, rfl, h1, h2, hd, hF1, hF2⟩ := h
    exact ⟨_, us', cs, F1, F2, rfl, rfl, rep_mono _ h1 hs (BS.sub_refl _), repL_mono vs h2 hs (BS.sub_refl _), hd, hF1.trans hf, hF2.trans hf⟩

theorem repT_keep : ∀ (vs : List (Option V)) {w w' : World} {S F : BS} {us : List Value}, RepT P w S F vs us → KeepS S w w' → KeepS F w w' → RepT P w' S F vs us
  | [], w, w', S, F, us, h, hs, hf => h
  | none :: vs, w, w', S, F, us, h, hs, hf => by
    obtain ⟨u, us', rfl, h2⟩ := h
    exact ⟨u, us', rfl, repT_keep vs h2 hs hf⟩
  | some v :: vs, w, w', S, F, us, h, hs, hf => by
    obtain ⟨u, us', cs, F1, F2, rfl, rfl, h1, h2, hd, hF1, hF2⟩ := h
    exact ⟨_, us', cs, F1, F2, rfl, rfl, rep_keep _ h1 hs (hf.mono hF1), repT_keep vs h2 hs (hf.mono hF2), hd, hF1, hF2⟩
theorem repT_mono : ∀ (vs : List (Option V)) {w : World} {S S' F F' : BS} {us : List Value}, RepT P w S F vs us → S.sub S' → F.sub F' → RepT P w S' F' vs us
  | [], w, S, S', F, F', us, h, hs, hf => h
  | none :: vs, w, S, S', F, F', us, h, hs, hf => by
    obtain ⟨u, us', rfl, h2⟩ := h
    exact ⟨u, us', rfl, repT_mono vs h2 hs hf⟩
  | some v :: vs, w, S, S', F, F', us, h, hs, hf => by
    obtain ⟨u, us', cs, F1, F2, rfl, rfl, h1, h2, hd, hF1, hF2⟩ := h
    exact ⟨_, us', cs, F1, F2, rfl, rfl, rep_mono _ h1 hs (BS.sub_refl _), repT_mono vs h2 hs (BS.sub_refl _), hd, hF1.trans hf, hF2.trans hf⟩

theorem rloc_keep {w w' : World} {S F : BS} {get : Rd} {tmps : Array Value} {root : Slot} {rv : Value} (hroot : SRep P w S F get tmps root rv) (hF : KeepS F w w') {p : List Step} (hi : root.rin p) :
    root.rloc w' rv p = root.rloc w rv p := by
  cases root with
  | box v =>
    obtain ⟨g, cs, e, F', rfl, hh, hg, hr, hs, hn⟩ := hroot
    simp only [Slot.rloc]
    have hc : CellsAt w g 0 cs := by have := cellsAt_row (a := 0) (n := cs.length) hh; simpa using this
    have hc' : CellsAt w' g 0 cs := hc.keep (hF g hg)
    exact locAt_keep p v.t hr hc hc' hi (hF.mono hs)
  | val v =>
    obtain ⟨t, x⟩ := v
    obtain ⟨cs, rfl, hr⟩ := hroot
    cases t with
    | own e t =>
      rcases hr with ⟨rfl, hx⟩ | ⟨gi, cap, cur, rfl, hg, hh, h1, h2, h3, Fs, hFs, hng, hdd, he⟩
      · rfl
      · cases p with
        | nil => rfl
        | cons s p =>
          cases s with
          | fld k => rfl
          | idx i =>
            simp only [Slot.rin, inR] at hi
            obtain ⟨hlt, hi⟩ := hi
            have hgetD : (x : List t.den).getD i t.dflt = (x : List t.den)[i] := by simp [List.getD_eq_getElem?_getD, hlt]
            rw [hgetD] at hi
            show locAt t w' gi (i * t.sz) p = locAt t w gi (i * t.sz) p
            exact locAt_keep p t (he i hlt) (cellsAt_row hh) (cellsAt_row ((hF gi hg).trans hh)) hi (hF.mono (hFs i))
    | _ => simp only [Slot.rloc]
  | _ => simp [Slot.rin] at hi

/-- the block of a part is one of the slot's own -/
theorem locAt_in : ∀ (p : List Step) (t : Ty) {w : World} {S F : BS} {x : t.den} {cs : List Value} {g o g' o' : Nat}, Rep P t w S F x cs → CellsAt w g o cs → inR t x p → locAt t w g o p = some (g', o') → g' = g ∨ F g' := by
  intro p
  induction p with
  | nil => intro t w S F x cs g o g' o' h hc hi hl; simp only [locAt, Option.some.injEq, Prod.mk.injEq] at hl; exact .inl hl.1.symm
  | cons s p ih =>
    intro t
    cases t with
    | prod a b =>
      cases s with
      | idx i => intro w S F x cs g o g' o' h hc hi hl; simp [inR] at hi
      | fld k =>
        induction k generalizing a b with
        | zero =>
          intro w S F x cs g o g' o' h hc hi hl
          obtain ⟨c1, c2, F1, F2, rfl, h1, h2, hd, hF1, hF2⟩ := h
          simp only [locAt] at hl
          exact (ih a h1 (fun k v hk => hc k v (by rw [List.getElem?_append_left (by have := (List.getElem?_eq_some_iff.1 hk).1; omega)]; exact hk)) hi hl).imp id (hF1 _)
        | succ k ihk =>
          intro w S F x cs g o g' o' h hc hi hl
          obtain ⟨c1, c2, F1, F2, rfl, h1, h2, hd, hF1, hF2⟩ := h
          have hll := rep_len _ h1
          simp only [locAt] at hl
          simp only [inR] at hi
          have q : CellsAt w g (o + a.sz) c2 := fun k v hk => by
            have := hc (a.sz + k) v (by rw [List.getElem?_append_right (by omega), hll, Nat.add_sub_cancel_left]; exact hk)
            rwa [← Nat.add_assoc] at this
          cases b with
          | prod b1 b2 => exact (ihk b1 b2 h2 q hi hl).imp id (hF2 _)
          | _ => simp [inR] at hi
    | own e t =>
      cases s with
      | fld k => intro w S F x cs g o g' o' h hc hi hl; cases k <;> simp [inR] at hi
      | idx i =>
        intro w S F x cs g o g' o' h hc hi hl
        simp only [inR] at hi
        obtain ⟨hlt, hi⟩ := hi
        rcases h with ⟨_, hx⟩ | ⟨gi, cap, cur, rfl, hg, hh, h1, h2, h3, Fs, hFs, hng, hdd, he⟩
        · rw [hx] at hlt; exact absurd hlt (by simp)
        · have e1 := hc 0 _ rfl
          simp only [Nat.add_zero] at e1
          simp only [locAt, e1] at hl
          have hgetD : (x : List t.den).getD i t.dflt = (x : List t.den)[i] := by simp [List.getD_eq_getElem?_getD, hlt]
          rw [hgetD] at hi
          rcases ih t (he i hlt) (cellsAt_row hh) hi hl with h | h
          · exact .inr (h ▸ hg)
          · exact .inr (hFs i _ h)
    | _ => intro w S F x cs g o g' o' h hc hi hl; exact absurd hi (by cases s <;> (try rename_i k; cases k) <;> simp [inR])

theorem rloc_in {w : World} {S F : BS} {get : Rd} {tmps : Array Value} {root : Slot} {rv : Value} (hroot : SRep P w S F get tmps root rv) {p : List Step} (hi : root.rin p) {g o : Nat} (hl : root.rloc w rv p = some (g, o)) : F g := by
  cases root with
  | box v =>
    obtain ⟨gb, cs, e, F', rfl, hh, hg, hr, hs, hn⟩ := hroot
    simp only [Slot.rloc] at hl
    have hc : CellsAt w gb 0 cs := by have := cellsAt_row (a := 0) (n := cs.length) hh; simpa using this
    rcases locAt_in p v.t hr hc hi hl with h | h
    · exact h ▸ hg
    · exact hs _ h
  | val v =>
    obtain ⟨t, x⟩ := v
    obtain ⟨cs, rfl, hr⟩ := hroot
    cases t with
    | own e t =>
      rcases hr with ⟨rfl, hx⟩ | ⟨gi, cap, cur, rfl, hg, hh, h1, h2, h3, Fs, hFs, hng, hdd, he⟩
      · simp [Slot.rloc, Ty.toV] at hl
      · cases p with
        | nil => simp [Slot.rloc, Ty.toV] at hl
        | cons s p =>
          cases s with
          | fld k => simp [Slot.rloc, Ty.toV] at hl
          | idx i =>
            simp only [Slot.rin, inR] at hi
            obtain ⟨hlt, hi⟩ := hi
            have hgetD : (x : List t.den).getD i t.dflt = (x : List t.den)[i] := by simp [List.getD_eq_getElem?_getD, hlt]
            rw [hgetD] at hi
            have hl' : locAt t w gi (i * t.sz) p = some (g, o) := hl
            rcases locAt_in p t (he i hlt) (cellsAt_row hh) hi hl' with h | h
            · exact h ▸ hg
            · exact hFs i _ h
    | _ => simp [Slot.rloc] at hl
  | _ => simp [Slot.rin] at hi

/-- A slot's word survives whatever leaves its own blocks, the shared ones and its root's as they were. -/
theorem srep_keep {w w' : World} {S F : BS} {get : Rd} {tmps : Array Value} {s : Slot} {u : Value} (h : SRep P w S F get tmps s u) (hS : KeepS S w w') (hF : KeepS F w w')
    (hroot : ∀ j, ∃ Fj, SRep P w S Fj get tmps (get j).1 (tmps.getD j undef) ∧ KeepS Fj w w') : SRep P w' S F get tmps s u := by
  cases s with
  | undef => trivial
  | val v => obtain ⟨cs, rfl, hr⟩ := h; exact ⟨cs, rfl, rep_keep _ hr hS hF⟩
  | box v =>
    obtain ⟨g, cs, e, F', rfl, hh, hg, hr, hs, hn⟩ := h
    exact ⟨g, cs, e, F', rfl, (hF g hg).trans hh, hg, rep_keep _ hr hS (hF.mono hs), hs, hn⟩
  | ref j p n m =>
    obtain ⟨h1, h2⟩ := h
    refine ⟨h1, fun hn => ⟨(h2 hn).1, fun hm => ?_⟩⟩
    obtain ⟨hi, g, o, hl, hu⟩ := (h2 hn).2 hm
    obtain ⟨Fj, hj, hk⟩ := hroot j
    exact ⟨hi, g, o, (rloc_keep hj hk hi).trans hl, hu⟩
  | ali j p n m =>
    obtain ⟨h1, h2⟩ := h
    refine ⟨h1, fun hn => ⟨(h2 hn).1, fun hm => ?_⟩⟩
    rcases (h2 hn).2 hm with h | ⟨hi, g, o, v, cs, hl, hv, hfr, hc, hlen, hu⟩
    · exact .inl h
    · obtain ⟨Fj, hj, hk⟩ := hroot j
      exact .inr ⟨hi, g, o, v, cs, (rloc_keep hj hk hi).trans hl, hv, hfr, hc.keep (hk g (rloc_in hj hi hl)), hlen, hu⟩
  | tup vs => obtain ⟨us, rfl, hr⟩ := h; exact ⟨us, rfl, repT_keep vs hr hS hF⟩
  | nil => exact h
  | skip => exact h

theorem srep_mono {w : World} {S S' F F' : BS} {get : Rd} {tmps : Array Value} {s : Slot} {u : Value} (h : SRep P w S F get tmps s u) (hS : S.sub S') (hF : F.sub F') : SRep P w S' F' get tmps s u := by
  cases s with
  | undef => trivial
  | val v => obtain ⟨cs, rfl, hr⟩ := h; exact ⟨cs, rfl, rep_mono _ hr hS hF⟩
  | box v =>
    obtain ⟨g, cs, e, F', rfl, hh, hg, hr, hs, hn⟩ := h
    exact ⟨g, cs, e, F', rfl, hh, hF g hg, rep_mono _ hr hS (BS.sub_refl _), hs.trans hF, hn⟩
  | ref j p n m => exact h
  | ali j p n m => exact h
  | tup vs => obtain ⟨us, rfl, hr⟩ := h; exact ⟨us, rfl, repT_mono vs hr hS hF⟩
  | nil => exact h
  | skip => exact h
end Go.Tv
