/-
  The operations on slots: stores, elements, lengths, arithmetic. Conditions: none; plain definitions and lemmas.
-/
import Derived.Test.YtgdchicpmjmhaaaTvH
import Derived.Laws.StructEq
import Derived.WalkSpells
namespace Go.Tv
set_option linter.unusedVariables false
set_option linter.unusedSimpArgs false
variable {P : Program}
section
variable {n : Sz} {w0 : World} {S0 F0 : BS} {get rd : Rd} {a : Act} {w : World} {S : BS} {fp : Tmp → BS}

/-! #### stores -/
def Slot.bumpOf : Slot → Bump
  | .box _ => .hdr
  | .val ⟨.own _ t, _⟩ => if t.free then .stay else .new
  | _ => .new

def pStore (P : Program) (rd : Rd) (t : TypeId) (ax vx : Operand) (K : Patch → Prop) : Prop :=
  match refOf rd ax with
  | some (j, p) => match (rd j).1.rget p with
    | some u => match (takeV rd (some u.t) vx).bind (fun q => ((rd j).1.rset p q.1).map fun r => (q, r)) with
      | some ((v, pt), root') => noKey j pt = true ∧ v.t.shp = u.t.shp ∧ pSize P t = some v.t.sz ∧ K (pt ++ [(j, root', (rd j).1.bumpOf)])
      | none => match (shareV rd (some u.t) vx).bind (fun q => ((rd j).1.rset p q.1).map fun r => (q, r)) with
        | some ((v, pt), root') => noKey j pt = true ∧ v.t.shp = u.t.shp ∧ pSize P t = some v.t.sz ∧ K (pt ++ [(j, root', (rd j).1.bumpOf)])
        | none => False
    | none => False
  | none => False

theorem turn_set {root root' : Slot} {k : Nat × Nat} {p : List Step} {u v : V} {rv : Value} (hu : root.rget p = some u) (hshp : v.t.shp = u.t.shp) (hset : root.rset p v = some root') (hroot : ∀ {v0 : V}, root = .val v0 → p ≠ []) :
    Turn (root, k) (root', bump k root.bumpOf) rv rv := by
  cases root with
  | box v0 =>
    simp only [Slot.rset, Option.map_eq_some_iff] at hset
    obtain ⟨v', hset, rfl⟩ := hset
    exact turn_box (setAt_shp p v0.t v0.x u v v' hu hshp.symm hset).symm
  | val v0 =>
    obtain ⟨t0, x0⟩ := v0
    cases t0 with
    | own e t =>
      simp only [Slot.bumpOf]
      by_cases hf : t.free = true
      · rw [if_pos hf]
        simp only [Slot.rset, Option.map_eq_some_iff] at hset
        obtain ⟨v', hset, rfl⟩ := hset
        cases p with
        | nil => exact absurd rfl (hroot rfl)
        | cons s p =>
          cases s with
          | fld q => cases q <;> simp [setAt] at hset
          | idx i =>
            simp only [setAt, Option.bind_eq_some_iff] at hset
            obtain ⟨q, _, hset⟩ := hset
            simp only [Option.map_eq_some_iff] at hset
            obtain ⟨y, _, rfl⟩ := hset
            exact .inr (.inr ⟨rfl, rfl, e, t, x0, _, rfl, rfl, by simp, hf⟩)
      · simp only [hf, Bool.false_eq_true, if_false]
        exact .inl (by simp [bump])
    | _ => exact .inl (by simp [Slot.bumpOf, bump])
  | _ => simp [Slot.rset] at hset

theorem rget_val_nil {v : V} {w : World} {rv : Value} {g o : Nat} (hl : (Slot.val v).rloc w rv [] = some (g, o)) : False := by
  obtain ⟨t, x⟩ := v
  cases t <;> cases rv <;> (try rename_i q _ _; cases q) <;> simp [Slot.rloc] at hl

theorem store_core (h : SimX P n w0 S0 F0 get a w S fp) {u0 : Value} {v : V} {pt : Patch} {Fv Sx : BS} (hgot : Got P get a w S fp u0 v pt Fv Sx) {j : Tmp} {p : List Step} {u : V} {root' : Slot} {t : TypeId} {ax : Value}
    (hu : (get j).1.rget p = some u) (hok : RefOk w (get j).1 (a.tmps.getD j undef) p ax) (hnk : noKey j pt = true) (hshp : v.t.shp = u.t.shp) (hset : (get j).1.rset p v = some root') (hsz : pSize P t = some v.t.sz) :
    ∃ w', (Instr.storeAt t ax u0).run P w = .ok () w' ∧ Sim P n w0 S0 F0 (appP (pt ++ [(j, root', (get j).1.bumpOf)]) get) a w' := by
  obtain ⟨hi, g, og, hl, rfl⟩ := hok
  obtain ⟨cs, hu0, hrep, hc⟩ := hgot
  obtain ⟨cur, e, hg, hfit, hFg, hback⟩ := root_write (h.slot j) (h.sapart j) hi hu hl
  have hlen : cs.length = u.t.sz := by
    have h1 := rep_len _ hrep
    rw [h1, ← Ty.shp_sz v.t, hshp, Ty.shp_sz]
  have hlen2 : cs.length = v.t.sz := rep_len _ hrep
  refine ⟨w.setRow g (seg cur.toList og cs).toArray, ?_, ?_⟩
  · exact run_storeAt' hg (by omega) (by rw [hu0]; exact toV_cells hrep) (by rw [hlen2]; exact hsz) (rep_one _ hrep)
  · have hkp := kp_setRow w g (seg cur.toList og cs).toArray
    have hSg : ¬ S g := fun hx => h.sapart j g hx hFg
    have hkS : KeepS S w (w.setRow g (seg cur.toList og cs).toArray) := fun b hb => setRow_other w g b _ (fun hx => hSg (hx ▸ hb))
    have hgb := (h.fpb j g hFg).2
    have hsrc : ∀ i, i ≠ j → KeepS (fp i) w (w.setRow g (seg cur.toList og cs).toArray) := fun i hij b hb => setRow_other w g b _ (fun hx => h.apart i j hij b hb (hx ▸ hFg))
    rw [appP_snoc]
    have hpne : ∀ {v0 : V}, (get j).1 = .val v0 → p ≠ [] := by
      rintro v0 hv0 rfl
      rw [hv0] at hl
      exact rget_val_nil hl
    have hturnj : Turn (get j) (root', bump (get j).2 (get j).1.bumpOf) (a.tmps.getD j undef) (a.tmps.getD j undef) := turn_set (root := (get j).1) (k := (get j).2) hu hshp hset hpne
    rcases hc with ⟨rfl, rfl, rfl⟩ | ⟨i, s1, b1, Fr, rfl, hd1, hd2, hd3, hs1, hs2, hs3, hso, hsr, htn⟩
    · obtain ⟨hso', hsr'⟩ := hback (BS.un S BS.bot) v BS.bot _ cs root' (app1 get (j, root', (get j).1.bumpOf)) a.tmps un_bot hlen (rep_keep _ hrep (fun b hb => hb.elim (hkS b) (fun x => x.elim)) (fun _ hb => hb.elim)) (BS.bot_dis _) hkS (fun b hb hne => setRow_other w g b _ hne) (setRow_heap w g _ _ _ _ hg) hset
      refine ⟨_, _, sim_gen h (fun t => t = j) (fun _ => fp j) BS.bot h.defers h.size (hkp.mono (fun b hb => ⟨j, rfl, hb ▸ hFg⟩)) (fun t ht b hb => .inl ⟨j, rfl, hb⟩) (fun t u' ht hu' hne => absurd (ht.trans hu'.symm) hne) (fun _ hb => hb.elim) (fun _ _ => BS.bot_dis _) ?_ ?_ ?_⟩
      · intro t ht; exact ⟨by simp [appP, app1, ht], rfl⟩
      · rintro t rfl
        have : app1 (appP [] get) (t, root', (get t).1.bumpOf) t = (root', bump (get t).2 (get t).1.bumpOf) := by simp [appP, app1]
        rw [this]; exact hturnj
      · rintro t rfl
        have : (app1 (appP [] get) (t, root', (get t).1.bumpOf) t).1 = root' := by simp [appP, app1]
        rw [this]
        exact srep_mono (srep_solo hso' hsr' (KeepS.refl _ _) (KeepS.refl _ _)) (BS.sub_refl _) (fun b hb => hb.elim id (fun x => x.elim))
    · have hij : i ≠ j := noKey_ne hnk i s1 b1 rfl
      have hkSx : KeepS (BS.un S Sx) w (w.setRow g (seg cur.toList og cs).toArray) := fun b hb => hb.elim (hkS b) (fun hx => hsrc i hij b (hs3 b hx))
      obtain ⟨hso', hsr'⟩ := hback (BS.un S Sx) v Fv _ cs root' (app1 (appP [(i, s1, b1)] get) (j, root', (get j).1.bumpOf)) a.tmps (fun _ hb => .inl hb) hlen (rep_keep _ hrep hkSx ((hsrc i hij).mono hs1)) (fun b h1 h2 => h.apart i j hij b (hs1 b h1) h2) hkS (fun b hb hne => setRow_other w g b _ hne) (setRow_heap w g _ _ _ _ hg) hset
      have ej : app1 (appP [(i, s1, b1)] get) (j, root', (get j).1.bumpOf) j = (root', bump (get j).2 (get j).1.bumpOf) := by simp [appP, app1, Ne.symm hij]
      have ei : app1 (appP [(i, s1, b1)] get) (j, root', (get j).1.bumpOf) i = (s1, bump (get i).2 b1) := by simp [appP, app1, hij]
      refine ⟨_, _, sim_gen h (fun t => t = j ∨ t = i) (fun t => if t = j then BS.un (fp j) Fv else Fr) Sx h.defers h.size (hkp.mono (fun b hb => ⟨j, .inl rfl, hb ▸ hFg⟩)) ?_ ?_ ?_ ?_ ?_ ?_ ?_⟩
      · rintro t ht b hb
        by_cases htj : t = j
        · rw [if_pos htj] at hb
          rcases hb with hb | hb
          · exact .inl ⟨j, .inl rfl, hb⟩
          · exact .inl ⟨i, .inr rfl, hs1 b hb⟩
        · rw [if_neg htj] at hb; exact .inl ⟨i, .inr rfl, hs2 b hb⟩
      · intro t u' ht hu' hne b hb1 hb2
        have key : ∀ b, BS.un (fp j) Fv b → Fr b → False := by
          rintro b (h1 | h1) h2
          · exact h.apart i j hij b (hs2 b h2) h1
          · exact hd1 b h1 h2
        by_cases htj : t = j
        · by_cases huj : u' = j
          · exact hne (htj.trans huj.symm)
          · rw [if_pos htj] at hb1; rw [if_neg huj] at hb2; exact key b hb1 hb2
        · by_cases huj : u' = j
          · rw [if_neg htj] at hb1; rw [if_pos huj] at hb2; exact key b hb2 hb1
          · exact hne ((ht.resolve_left htj).trans (hu'.resolve_left huj).symm)
      · exact fun b hb => .inl ⟨i, .inr rfl, hs3 b hb⟩
      · intro t ht b hb1 hb2
        by_cases htj : t = j
        · rw [if_pos htj] at hb2
          rcases hb2 with hb2 | hb2
          · exact h.apart i j hij b (hs3 b hb1) hb2
          · exact hd3 b hb1 hb2
        · rw [if_neg htj] at hb2; exact hd2 b hb1 hb2
      · intro t ht
        have h1 : t ≠ j := fun e => ht (.inl e)
        have h2 : t ≠ i := fun e => ht (.inr e)
        exact ⟨by simp [appP, app1, h1, h2], rfl⟩
      · rintro t (rfl | rfl)
        · rw [ej]; exact hturnj
        · rw [ei]; exact htn
      · rintro t (rfl | rfl)
        · rw [ej, if_pos rfl]
          exact srep_solo hso' hsr' (KeepS.refl _ _) (KeepS.refl _ _)
        · rw [ei, if_neg hij]
          exact srep_solo hso hsr hkSx ((hsrc t hij).mono hs2)

theorem store_sim (h : SimX P n w0 S0 F0 get a w S fp) (hb : Below rd get) {t : TypeId} {ax vx : Operand} {o : Oper} (ho : o.op = .store t ax vx) (hod : o.dst = none) {K : Patch → Prop} {Q : Exit → Act → World → Prop} (hp : pStore P rd t ax vx K) : o.wp P a w (Nx P n w0 S0 F0 get K) Q := by
  unfold pStore at hp
  have fin : ∀ {w'}, (Instr.storeAt t (a.eval ax) (a.eval vx)).run P w = .ok () w' → (∃ pt, K pt ∧ Sim P n w0 S0 F0 (appP pt get) a w') → o.wp P a w (Nx P n w0 S0 F0 get K) Q := by
    intro w' hr hk
    refine wp_skip' (w' := w') ?_ (by rw [hod]; exact hk)
    unfold execOp
    simp [ho, hr]
  split at hp
  · rename_i j p hx
    split at hp
    · rename_i u hu
      obtain ⟨hg, hok⟩ := refOf_ok h hb hx hu
      split at hp
      · rename_i v pt root' hq
        simp only [Option.bind_eq_some_iff, Option.map_eq_some_iff, Prod.mk.injEq] at hq
        obtain ⟨⟨v1, pt1⟩, ht, r, hset, ⟨rfl, rfl⟩, rfl⟩ := hq
        obtain ⟨hnk, hshp, hsz, hK⟩ := hp
        obtain ⟨Fv, hgot⟩ := take_got h hb ht
        rw [← hg] at hu hok hset hK
        obtain ⟨w', hr, hsim⟩ := store_core h hgot hu hok hnk hshp hset hsz
        exact fin hr ⟨_, hK, hsim⟩
      · split at hp
        · rename_i v pt root' hq
          simp only [Option.bind_eq_some_iff, Option.map_eq_some_iff, Prod.mk.injEq] at hq
          obtain ⟨⟨v1, pt1⟩, ht, r, hset, ⟨rfl, rfl⟩, rfl⟩ := hq
          obtain ⟨hnk, hshp, hsz, hK⟩ := hp
          obtain ⟨Sx, hgot⟩ := share_got h hb ht
          rw [← hg] at hu hok hset hK
          obtain ⟨w', hr, hsim⟩ := store_core h hgot hu hok hnk hshp hset hsz
          exact fin hr ⟨_, hK, hsim⟩
        · exact hp.elim
    · exact hp.elim
  · exact hp.elim

/-! #### elements -/
def pElSz (P : Program) (t : TypeId) : Option Nat := (pElem P t).bind (pSize P)

/-- a list of data of a kind -/
structure Row where
  t : Ty
  xs : List t.den
def intS : Slot → Option (IntKind × Int)
  | .val ⟨.int k, q⟩ => some (k, q)
  | _ => none
def sliS : Slot → Option Row
  | .val ⟨.slice t, xs⟩ => some ⟨t, xs⟩
  | _ => none
def ownV : V → Option Row
  | ⟨.own _ t, xs⟩ => some ⟨t, xs⟩
  | _ => none
def ownS : Slot → Option Row
  | .val v => ownV v
  | _ => none
theorem intS_some {s : Slot} {k : IntKind} {q : Int} (h : intS s = some (k, q)) : s = .val ⟨.int k, q⟩ := by
  unfold intS at h
  split at h
  · simp only [Option.some.injEq, Prod.mk.injEq] at h; obtain ⟨rfl, rfl⟩ := h; rfl
  · cases h
theorem sliS_some {s : Slot} {r : Row} (h : sliS s = some r) : s = .val ⟨.slice r.t, r.xs⟩ := by
  unfold sliS at h
  split at h
  · simp only [Option.some.injEq] at h; subst h; rfl
  · cases h
theorem ownV_some {v : V} {r : Row} (h : ownV v = some r) : ∃ e, v = ⟨.own e r.t, r.xs⟩ := by
  unfold ownV at h
  split at h
  · simp only [Option.some.injEq] at h; subst h; exact ⟨_, rfl⟩
  · cases h
theorem ownS_some {s : Slot} {r : Row} (h : ownS s = some r) : ∃ e, s = .val ⟨.own e r.t, r.xs⟩ := by
  unfold ownS at h
  split at h
  · obtain ⟨e, rfl⟩ := ownV_some h; exact ⟨e, rfl⟩
  · cases h

def tmpO : Operand → Option Tmp
  | .tmp j => some j
  | _ => none
theorem tmpO_some {x : Operand} {j : Tmp} (h : tmpO x = some j) : x = .tmp j := by
  cases x <;> simp_all [tmpO]

/-- The row that an operand leads to: held (of which slot), or shared. -/
inductive RowAt where
  | shared (r : Row)
  | held (j : Tmp) (p : List Step) (k m : Nat) (r : Row)
def rowAt (rd : Rd) (x : Operand) : Option RowAt :=
  match rdO rd x with
  | (.ali j p k m, _, _) => if (rd j).2 = (k, m) then ((rd j).1.rget p).bind fun v => (ownV v).map fun r => .held j p k m r else none
  | (s, k, m) => match sliS s with
    | some r => some (.shared r)
    | none => (ownS s).bind fun r => (tmpO x).map fun j => .held j [] k m r

def pIndexAddr (P : Program) (rd : Rd) (d : Tmp) (T : TypeId) (x i : Operand) (K : Patch → Prop) : Prop :=
  match intS (rdO rd i).1, rowAt rd x with
  | some (_, q), some (.shared r) => pElSz P T = some r.t.sz ∧ (0 ≤ q ∧ q < r.xs.length) ∧ K [(d, .val ⟨.cellp r.t, r.xs.getD q.toNat r.t.dflt⟩, .new)]
  | some (_, q), some (.held j p k m r) => pElSz P T = some r.t.sz ∧ (0 ≤ q ∧ q < r.xs.length) ∧ j ≠ d ∧ K [(d, .ref j (p ++ [.idx q.toNat]) k m, .new)]
  | _, _ => False

theorem locAt_idx' {t : Ty} {e : TypeId} {w : World} {g o gi len cap i : Nat} (hc : w.cell? ⟨g, o, none⟩ = some (.slice (some ⟨gi, 0, none⟩) len cap)) : locAt (.own e t) w g o [.idx i] = some (gi, i * t.sz) := by
  simp only [locAt, hc]

/-- What the machine holds where a row is held. -/
theorem rowAt_held (h : SimX P n w0 S0 F0 get a w S fp) (hb : Below rd get) {x : Operand} {j : Tmp} {p : List Step} {k m : Nat} {r : Row} (hx : rowAt rd x = some (.held j p k m r)) :
    ∃ e, get j = rd j ∧ (rd j).2 = (k, m) ∧ (rd j).1.rget p = some ⟨.own e r.t, r.xs⟩ ∧ (p = [] ∨ (rd j).1.rin p) ∧
      ∃ cs Fv, a.eval x = (Ty.own e r.t).toV cs ∧ Rep P (.own e r.t) w S Fv r.xs cs ∧ BS.sub Fv (fp j) ∧
        ∀ i, i < r.xs.length → ∃ gi cap, cs = [.slice (some ⟨gi, 0, none⟩) r.xs.length cap] ∧ (rd j).1.rin (p ++ [.idx i]) ∧ (rd j).1.rloc w (a.tmps.getD j undef) (p ++ [.idx i]) = some (gi, i * r.t.sz) := by
  unfold rowAt at hx
  split at hx
  · rename_i j' p' k' m' e1 e2 hx'
    split at hx
    · rename_i hv
      simp only [Option.bind_eq_some_iff, Option.map_eq_some_iff, RowAt.held.injEq] at hx
      obtain ⟨v, hu, r', hr', rfl, rfl, rfl, rfl, rfl⟩ := hx
      obtain ⟨e, rfl⟩ := ownV_some hr'
      have hg : get j' = rd j' := (hb j').elim Eq.symm (fun he => by rw [he] at hu; simp [Slot.rget] at hu)
      obtain ⟨_, hr⟩ := rdO_rep h hb hx' (by simp)
      rw [hg, hv] at hr
      have hali := (hr rfl).2 rfl
      have hj := h.slot j'
      rw [hg] at hj
      refine ⟨e, hg, hv, hu, ?_⟩
      rcases hali with ⟨rfl, ⟨v0, hv0⟩, hxv⟩ | ⟨hrin, g, og, v, cs, hl, hv', hfr, hc, hlen, hxv⟩
      · refine ⟨.inl rfl, ?_⟩
        rw [hv0] at hu hj ⊢
        have hv0e : v0 = ⟨.own e r'.t, r'.xs⟩ := by
          have : some (V.mk v0.t v0.x) = some ⟨.own e r'.t, r'.xs⟩ := by simpa only [Slot.rget, getAt] using hu
          exact Option.some.inj this
        subst hv0e
        obtain ⟨cx, hxv2, hrep⟩ := hj
        refine ⟨cx, _, hxv.trans hxv2, hrep, BS.sub_refl _, fun i hlt => ?_⟩
        rcases hrep with ⟨_, hx0⟩ | ⟨gi, cap, cur, rfl, hFg, hgi, q1, q2, q3, Fs, hFs, hng, hdd, he⟩
        · have hx0' : r'.xs = [] := hx0
          rw [hx0'] at hlt; exact absurd hlt (by simp)
        · refine ⟨gi, cap, rfl, ⟨hlt, by simp [inR]⟩, ?_⟩
          rw [hxv2]
          show locAt r'.t w gi (i * r'.t.sz) [] = _
          simp [locAt]
      · refine ⟨.inr hrin, ?_⟩
        rw [hu] at hv'
        simp only [Option.some.injEq] at hv'
        subst hv'
        obtain ⟨cs', Fv, hc', hrep, hsub⟩ := root_rep hj hrin hu hl
        obtain rfl := cells_eq hc hc' (by rw [hlen, rep_len _ hrep])
        refine ⟨cs, Fv, hxv, hrep, hsub, fun i hlt => ?_⟩
        rcases hrep with ⟨_, hx0⟩ | ⟨gi, cap, cur, rfl, hFg, hgi, q1, q2, q3, Fs, hFs, hng, hdd, he⟩
        · have hx0' : r'.xs = [] := hx0
          rw [hx0'] at hlt; exact absurd hlt (by simp)
        · have hcell : w.cell? ⟨g, og, none⟩ = some (.slice (some ⟨gi, 0, none⟩) r'.xs.length cap) := hc 0 _ rfl
          obtain ⟨q4, q5, q6⟩ := rloc_snoc (.idx i) hrin hu hl ⟨hlt, by simp [inR]⟩
          exact ⟨gi, cap, rfl, q4, q6.trans (locAt_idx' hcell)⟩
    · cases hx
  · rename_i s k' m' hne hx'
    split at hx
    · cases hx
    · simp only [Option.bind_eq_some_iff, Option.map_eq_some_iff, RowAt.held.injEq] at hx
      obtain ⟨r', hr', j', hj', rfl, rfl, rfl, rfl, rfl⟩ := hx
      obtain ⟨e, rfl⟩ := ownS_some hr'
      obtain rfl := tmpO_some hj'
      have hrd : rd j' = (.val ⟨.own e r'.t, r'.xs⟩, k', m') := hx'
      have hg := hb.eq hrd (by simp)
      obtain ⟨cx, hxv, hrep⟩ := rdO_rep h hb hx' (by simp)
      have hxv' : a.tmps.getD j' undef = (Ty.own e r'.t).toV cx := hxv
      refine ⟨e, hg.trans hrd.symm, by rw [hrd], by rw [hrd]; rfl, .inl rfl, cx, _, hxv, hrep, BS.sub_refl _, fun i hlt => ?_⟩
      rcases hrep with ⟨_, hx0⟩ | ⟨gi, cap, cur, rfl, hFg, hgi, q1, q2, q3, Fs, hFs, hng, hdd, he⟩
      · have hx0' : r'.xs = [] := hx0
        rw [hx0'] at hlt; exact absurd hlt (by simp)
      · refine ⟨gi, cap, rfl, by rw [hrd]; exact ⟨hlt, by simp [inR]⟩, ?_⟩
        rw [hrd, hxv']
        show locAt r'.t w gi (i * r'.t.sz) [] = _
        simp [locAt]

theorem rowAt_shared (h : SimX P n w0 S0 F0 get a w S fp) (hb : Below rd get) {x : Operand} {r : Row} (hx : rowAt rd x = some (.shared r)) : ∃ cs, a.eval x = (Ty.slice r.t).toV cs ∧ Rep P (.slice r.t) w S BS.bot r.xs cs := by
  unfold rowAt at hx
  split at hx
  · split at hx
    · simp only [Option.bind_eq_some_iff, Option.map_eq_some_iff, reduceCtorEq, and_false, exists_false] at hx
    · cases hx
  · rename_i s k' m' hne hx'
    split at hx
    · rename_i r' hr'
      simp only [Option.some.injEq, RowAt.shared.injEq] at hx
      subst hx
      have := sliS_some hr'
      subst this
      obtain ⟨cx, hxv, hrep⟩ := rdO_rep h hb hx' (by simp)
      exact ⟨cx, hxv, hrep⟩
    · simp only [Option.bind_eq_some_iff, Option.map_eq_some_iff, reduceCtorEq, and_false, exists_false] at hx

theorem run_indexAt' {T : TypeId} {sz : Nat} (h : pElSz P T = some sz) (w : World) (g o len cap : Nat) (k : IntKind) (q : Int) (h0 : 0 ≤ q) (h1 : q < len) :
    (Instr.indexAt T (.slice (some ⟨g, o, none⟩) len cap) (.int k q)).run P w = .ok (.pointer (some ⟨g, o + q.toNat * sz, none⟩)) w := by
  unfold pElSz at h
  obtain ⟨e, he, hs⟩ := Option.bind_eq_some_iff.1 h
  have hu := pElem_some he
  have hadd := Addr.add_mid g o (q.toNat * sz)
  simp [Instr.indexAt, asIntOf, run_underlying hu, h0, h1, run_sizeOf' hs, hadd]

theorem indexAddr_sim (h : SimX P n w0 S0 F0 get a w S fp) (hb : Below rd get) {d : Tmp} (hd : d < n.sz) {T : TypeId} {x i : Operand} {o : Oper} (ho : o.op = .indexAddr T x i) (hod : o.dst = some d) {K : Patch → Prop} {Q : Exit → Act → World → Prop} (hp : pIndexAddr P rd d T x i K) : o.wp P a w (Nx P n w0 S0 F0 get K) Q := by
  unfold pIndexAddr at hp
  have hexec : ∀ v, (Instr.indexAt T (a.eval x) (a.eval i)).run P w = .ok v w → (execOp a.eval o).run P w = .ok (.value v) w := by
    intro v hv
    unfold execOp
    simp [ho, hv]
  split at hp
  · rename_i ki q r hi hx
    obtain ⟨hsz, ⟨h0, h1⟩, hK⟩ := hp
    have hi' := intS_some hi
    obtain ⟨ci, hiv, hir⟩ := rdO_rep (s := .val ⟨.int ki, q⟩) (nm := (rdO rd i).2) h hb (by rw [← hi']) (by simp)
    have hev : a.eval i = .int ki q := by rw [hiv, hir.1]; rfl
    obtain ⟨cx, hxv, A, c, rfl, hle, hcm, hne⟩ := rowAt_shared h hb hx
    have hlt : q.toNat < r.xs.length := by omega
    obtain ⟨g, og, rfl, hSg, hel⟩ := hne (by intro he; rw [he] at hlt; simp at hlt)
    have hrun := hexec _ (by rw [hev, hxv]; exact run_indexAt' hsz w g og _ c ki q h0 h1)
    refine wp_value hrun ⟨_, hK, ?_⟩
    rw [hod]
    obtain ⟨ce, hce, hcc⟩ := hel _ hlt
    refine sim_val h d hd _ _ ⟨[_], rfl, g, _, ce, rfl, hSg, ?_, hcc⟩
    rw [getD_lt _ _ _ hlt]
    exact hce
  · rename_i ki q j p k m r hi hx
    obtain ⟨hsz, ⟨h0, h1⟩, hjd, hK⟩ := hp
    have hi' := intS_some hi
    obtain ⟨ci, hiv, hir⟩ := rdO_rep (s := .val ⟨.int ki, q⟩) (nm := (rdO rd i).2) h hb (by rw [← hi']) (by simp)
    have hev : a.eval i = .int ki q := by rw [hiv, hir.1]; rfl
    have hlt : q.toNat < r.xs.length := by omega
    obtain ⟨e, hg, hv, hu, _, cs, Fv, hxv, hrep, hsub, hel⟩ := rowAt_held h hb hx
    obtain ⟨gi, cap, rfl, hrin, hrl⟩ := hel _ hlt
    have hrun := hexec _ (by rw [hev, hxv]; exact run_indexAt' hsz w gi 0 _ cap ki q h0 h1)
    rw [Nat.zero_add] at hrun
    refine wp_value hrun ⟨_, hK, ?_⟩
    rw [hod]
    refine sim_val h d hd _ _ (srep_ref_put (F := BS.bot) (S := S) hjd ?_)
    refine ⟨by rw [hg, hv]; exact Nat.le_refl _, fun _ => ⟨by rw [hg, hv]; exact Nat.le_refl _, fun _ => ?_⟩⟩
    rw [hg]
    exact ⟨hrin, gi, _, hrl, rfl⟩
  · exact hp.elim

/-! #### scalars -/
/-- A plain result: the world stands, a value without memory goes into the slot. -/
theorem sim_scalar (h : SimX P n w0 S0 F0 get a w S fp) {d : Tmp} (hd : d < n.sz) {o : Oper} (hod : o.dst = some d) {v : V} {cs : List Value} {K : Patch → Prop} {Q : Exit → Act → World → Prop}
    (hrun : (execOp a.eval o).run P w = .ok (.value (v.t.toV cs)) w) (hr : Rep P v.t w S BS.bot v.x cs) (hK : K [(d, .val v, .new)]) : o.wp P a w (Nx P n w0 S0 F0 get K) Q := by
  refine wp_value hrun ⟨_, hK, ?_⟩
  rw [hod]
  exact sim_val h d hd _ _ ⟨cs, rfl, hr⟩

theorem int_eval (h : SimX P n w0 S0 F0 get a w S fp) (hb : Below rd get) {x : Operand} {k : IntKind} {q : Int} (hx : intS (rdO rd x).1 = some (k, q)) : a.eval x = .int k q ∧ k.wrap q = q := by
  have hi' := intS_some hx
  obtain ⟨ci, hiv, hir⟩ := rdO_rep (s := .val ⟨.int k, q⟩) (nm := (rdO rd x).2) h hb (by rw [← hi']) (by simp)
  exact ⟨by rw [hiv, hir.1]; rfl, hir.2⟩

def boolS : Slot → Option Bool
  | .val ⟨.bool, b⟩ => some b
  | _ => none
def strS : Slot → Option (List UInt8)
  | .val ⟨.str, s⟩ => some s
  | _ => none
theorem boolS_some {s : Slot} {b : Bool} (h : boolS s = some b) : s = .val ⟨.bool, b⟩ := by
  unfold boolS at h
  split at h
  · simp only [Option.some.injEq] at h; subst h; rfl
  · cases h
theorem strS_some {s : Slot} {b : List UInt8} (h : strS s = some b) : s = .val ⟨.str, b⟩ := by
  unfold strS at h
  split at h
  · simp only [Option.some.injEq] at h; subst h; rfl
  · cases h
theorem bool_eval (h : SimX P n w0 S0 F0 get a w S fp) (hb : Below rd get) {x : Operand} {q : Bool} (hx : boolS (rdO rd x).1 = some q) : a.eval x = .bool q := by
  have hi' := boolS_some hx
  obtain ⟨ci, hiv, hir⟩ := rdO_rep (s := .val ⟨.bool, q⟩) (nm := (rdO rd x).2) h hb (by rw [← hi']) (by simp)
  rw [hiv, show ci = _ from hir]; rfl
theorem str_eval (h : SimX P n w0 S0 F0 get a w S fp) (hb : Below rd get) {x : Operand} {q : List UInt8} (hx : strS (rdO rd x).1 = some q) : a.eval x = .string ⟨q.toArray⟩ ∧ q.length ≤ maxLen := by
  have hi' := strS_some hx
  obtain ⟨ci, hiv, hir⟩ := rdO_rep (s := .val ⟨.str, q⟩) (nm := (rdO rd x).2) h hb (by rw [← hi']) (by simp)
  exact ⟨by rw [hiv, hir.1]; rfl, hir.2⟩

theorem wrap_idem (k : IntKind) (q : Int) : k.wrap (k.wrap q) = k.wrap q := by
  cases k <;> simp [IntKind.wrap, IntKind.bits, IntKind.signed] <;> omega
theorem wrap_tmod (k : IntKind) (x y : Int) (h : k.wrap x = x) : k.wrap (x.tmod y) = x.tmod y := by
  have h1 := Int.natAbs_tmod x y
  have h2 : x.natAbs % y.natAbs ≤ x.natAbs := Nat.mod_le _ _
  have h3 : 0 ≤ x → 0 ≤ x.tmod y := Int.tmod_nonneg y
  have h4 : x ≤ 0 → x.tmod y ≤ 0 := fun h => by have := Int.tmod_nonneg (a := -x) y (by omega); rw [Int.neg_tmod] at this; omega
  revert h h1 h3 h4
  generalize x.tmod y = z
  cases k <;> simp [IntKind.wrap, IntKind.bits, IntKind.signed] <;> omega

/-- two whole numbers of one kind -/
def iBin (op : BinOp) (k : IntKind) (x y : Int) : Option V :=
  match op with
  | .add => some ⟨.int k, k.wrap (x + y)⟩
  | .sub => some ⟨.int k, k.wrap (x - y)⟩
  | .mul => some ⟨.int k, k.wrap (x * y)⟩
  | .eql => some ⟨.bool, x == y⟩
  | .neq => some ⟨.bool, x != y⟩
  | .lss => some ⟨.bool, decide (x < y)⟩
  | .leq => some ⟨.bool, decide (x ≤ y)⟩
  | .gtr => some ⟨.bool, decide (x > y)⟩
  | .geq => some ⟨.bool, decide (x ≥ y)⟩
  | .and => some ⟨.int k, k.wrap ((BitVec.ofInt k.bits x &&& BitVec.ofInt k.bits y).toNat : Int)⟩
  | .or => some ⟨.int k, k.wrap ((BitVec.ofInt k.bits x ||| BitVec.ofInt k.bits y).toNat : Int)⟩
  | .xor => some ⟨.int k, k.wrap ((BitVec.ofInt k.bits x ^^^ BitVec.ofInt k.bits y).toNat : Int)⟩
  | _ => none
/-- two texts -/
def sCmp (op : BinOp) (x y : List UInt8) : Option Bool :=
  match op with
  | .eql => some (x == y)
  | .neq => some (!(x == y))
  | .lss => some (Op.bytesLess x y)
  | .leq => some (Op.bytesLess x y || x == y)
  | .gtr => some (!(Op.bytesLess x y || x == y))
  | .geq => some (!Op.bytesLess x y)
  | _ => none

def pBin (rd : Rd) (d : Tmp) (op : BinOp) (x y : Operand) (K : Patch → Prop) : Prop :=
  match intS (rdO rd x).1, intS (rdO rd y).1 with
  | some (k, a), some (k', b) =>
    match op with
    | .shl => 0 ≤ b ∧ K [(d, .val ⟨.int k, k.wrap (a * 2 ^ (min b.toNat k.bits))⟩, .new)]
    | .shr => 0 ≤ b ∧ k.wrap (a.fdiv (2 ^ (min b.toNat k.bits))) = a.fdiv (2 ^ (min b.toNat k.bits)) ∧ K [(d, .val ⟨.int k, a.fdiv (2 ^ (min b.toNat k.bits))⟩, .new)]
    | .quo => k = k' ∧ b ≠ 0 ∧ K [(d, .val ⟨.int k, k.wrap (a.tdiv b)⟩, .new)]
    | .rem => k = k' ∧ b ≠ 0 ∧ K [(d, .val ⟨.int k, a.tmod b⟩, .new)]
    | _ => k = k' ∧ match iBin op k a b with | some v => K [(d, .val v, .new)] | none => False
  | _, _ => match strS (rdO rd x).1, strS (rdO rd y).1 with
    | some s, some t => match op with
      | .add => s.length + t.length ≤ maxLen ∧ K [(d, .val ⟨.str, s ++ t⟩, .new)]
      | _ => match sCmp op s t with | some b => K [(d, .val ⟨.bool, b⟩, .new)] | none => False
    | _, _ => False

theorem iBin_ok {op : BinOp} {k : IntKind} {x y : Int} {v : V} (h : iBin op k x y = some v) (xt : TypeId) (w : World) (S : BS) :
    ∃ cs, (binOp op xt (.int k x) (.int k y)).run P w = .ok (v.t.toV cs) w ∧ Rep P v.t w S BS.bot v.x cs := by
  cases op <;> simp only [iBin, Option.some.injEq, reduceCtorEq] at h
  all_goals subst h
  all_goals first
    | exact ⟨[.int k _], by simp [binOp, Op.intArith, Op.intBits, Op.intCmp, Ty.toV, Ty.isAg], rfl, wrap_idem k _⟩
    | exact ⟨[.bool _], by simp [binOp, Op.intArith, Op.intBits, Op.intCmp, Ty.toV, Ty.isAg], rfl⟩

theorem sCmp_ok {op : BinOp} {x y : List UInt8} {b : Bool} (h : sCmp op x y = some b) (xt : TypeId) (w : World) : (binOp op xt (.string ⟨x.toArray⟩) (.string ⟨y.toArray⟩)).run P w = .ok (.bool b) w := by
  cases op <;> simp only [sCmp, Option.some.injEq, reduceCtorEq] at h
  all_goals subst h
  all_goals simp [binOp, Op.stringOp, ByteArray.toList_eq]

theorem guard_int (op : BinOp) (t : TypeId) (x y : Operand) (k k' : IntKind) (p q : Int) (w : World) : (eqGuard op t x y (.int k p) (.int k' q)).run P w = .ok () w := by
  cases op <;> simp [eqGuard]
theorem guard_str (op : BinOp) (t : TypeId) (x y : Operand) (p q : ByteArray) (w : World) : (eqGuard op t x y (.string p) (.string q)).run P w = .ok () w := by
  cases op <;> simp [eqGuard]
theorem guard_bool (op : BinOp) (t : TypeId) (x y : Operand) (p q : Bool) (w : World) : (eqGuard op t x y (.bool p) (.bool q)).run P w = .ok () w := by
  cases op <;> simp [eqGuard]

theorem bin_sim (h : SimX P n w0 S0 F0 get a w S fp) (hb : Below rd get) {d : Tmp} (hd : d < n.sz) {op : BinOp} {xt yt : TypeId} {x y : Operand} {o : Oper} (ho : o.op = .binOp op xt x y yt) (hod : o.dst = some d) {K : Patch → Prop} {Q : Exit → Act → World → Prop} (hp : pBin rd d op x y K) : o.wp P a w (Nx P n w0 S0 F0 get K) Q := by
  unfold pBin at hp
  split at hp
  · rename_i k p k' q hx hy
    obtain ⟨hxe, hxw⟩ := int_eval h hb hx
    obtain ⟨hye, hyw⟩ := int_eval h hb hy
    have hexec : ∀ v, (binOp op xt (.int k p) (.int k' q)).run P w = .ok v w → (execOp a.eval o).run P w = .ok (.value v) w := by
      intro v hv
      unfold execOp
      simp [ho, hxe, hye, guard_int, hv]
    split at hp
    · obtain ⟨h0, hK⟩ := hp
      refine sim_scalar (v := V.mk (.int k) (k.wrap (p * 2 ^ (min q.toNat k.bits)))) (cs := [.int k (k.wrap (p * 2 ^ (min q.toNat k.bits)))]) h hd hod (hexec _ ?_) ⟨rfl, wrap_idem k _⟩ hK
      simp [binOp, Op.shift, Int.not_lt.2 h0, Ty.toV, Ty.isAg]
    · obtain ⟨h0, hwr, hK⟩ := hp
      refine sim_scalar (v := V.mk (.int k) (p.fdiv (2 ^ (min q.toNat k.bits)))) (cs := [.int k (p.fdiv (2 ^ (min q.toNat k.bits)))]) h hd hod (hexec _ ?_) ⟨rfl, hwr⟩ hK
      simp [binOp, Op.shift, Int.not_lt.2 h0, Ty.toV, Ty.isAg]
    · obtain ⟨rfl, h0, hK⟩ := hp
      refine sim_scalar (v := V.mk (.int k) (k.wrap (p.tdiv q))) (cs := [.int k (k.wrap (p.tdiv q))]) h hd hod (hexec _ ?_) ⟨rfl, wrap_idem k _⟩ hK
      simp [binOp, Op.intDiv, h0, Ty.toV, Ty.isAg]
    · obtain ⟨rfl, h0, hK⟩ := hp
      refine sim_scalar (v := V.mk (.int k) (p.tmod q)) (cs := [.int k (p.tmod q)]) h hd hod (hexec _ ?_) ⟨rfl, wrap_tmod k _ _ hxw⟩ hK
      simp [binOp, Op.intDiv, h0, Ty.toV, Ty.isAg]
    · obtain ⟨rfl, hp⟩ := hp
      split at hp
      · rename_i v hv
        obtain ⟨cs, hr, hrep⟩ := iBin_ok (P := P) hv xt w S
        exact sim_scalar h hd hod (hexec _ hr) hrep hp
      · exact hp.elim
  · split at hp
    · rename_i s t hx hy
      obtain ⟨hxe, hxw⟩ := str_eval h hb hx
      obtain ⟨hye, hyw⟩ := str_eval h hb hy
      have hexec : ∀ v, (binOp op xt (.string ⟨s.toArray⟩) (.string ⟨t.toArray⟩)).run P w = .ok v w → (execOp a.eval o).run P w = .ok (.value v) w := by
        intro v hv
        unfold execOp
        simp [ho, hxe, hye, guard_str, hv]
      split at hp
      · obtain ⟨hl, hK⟩ := hp
        refine sim_scalar (v := V.mk .str (s ++ t)) (cs := [.string ⟨(s ++ t).toArray⟩]) h hd hod (hexec _ ?_) ⟨rfl, by rw [List.length_append]; exact hl⟩ hK
        have hmax : ¬ ((s.length : Int) + t.length > IntKind.i64.max) := by
          simp only [maxLen] at hl
          simp only [IntKind.max, IntKind.signed, IntKind.bits, if_true]
          omega
        have happ : (⟨s.toArray⟩ : ByteArray) ++ ⟨t.toArray⟩ = ⟨(s ++ t).toArray⟩ := by
          apply ByteArray.ext
          simp
        simp [binOp, Op.stringOp, Ty.toV, Ty.isAg, happ]
        have hs : (⟨s.toArray⟩ : ByteArray).size = s.length := by simp [ByteArray.size]
        have ht : (⟨t.toArray⟩ : ByteArray).size = t.length := by simp [ByteArray.size]
        rw [hs, ht]
        simp [hmax]
        simp only [maxLen] at hl
        omega
      · split at hp
        · rename_i b hbb
          exact sim_scalar (v := V.mk .bool b) (cs := [.bool b]) h hd hod (hexec _ (sCmp_ok hbb xt w)) rfl hp
        · exact hp.elim
    · exact hp.elim
end
end Go.Tv
