/-
  Composite values: structs, rows, append. Conditions: none; plain definitions and lemmas.
-/
import Derived.Test.YtgdchicpmjmhaaaTvK
namespace Go.Tv
set_option linter.unusedVariables false
set_option linter.unusedSimpArgs false
variable {P : Program}

/-! ### structs -/
def plT : Ty → Nat → List (Nat × Nat)
  | .prod a b, o => (o, a.sz) :: plT b (o + a.sz)
  | _, _ => []
def pPlaces (P : Program) (t : TypeId) : Option (List (Nat × Nat)) :=
  match P.underlying t with
  | some (.struct fs) => fs.toList.mapM fun f => (P.info? f.type).map fun i => (f.offset, i.size)
  | _ => none

theorem offT_shp : ∀ (k : Nat) (a b : Ty), a.shp = b.shp → offT a k = offT b k := by
  intro k
  induction k with
  | zero => intro a b h; cases a <;> cases b <;> simp_all [Ty.shp, offT]
  | succ k ih =>
    intro a b h
    cases a <;> cases b <;> simp only [Ty.shp, Ty.prod.injEq, reduceCtorEq] at h <;> first | (simp only [offT]; done) | skip
    rename_i a1 a2 b1 b2
    simp only [offT]
    rw [ih a2 b2 h.2]
    have : a1.sz = b1.sz := by rw [← Ty.shp_sz a1, ← Ty.shp_sz b1, h.1]
    rw [this]
theorem plT_get : ∀ (k : Nat) (t : Ty) (o off : Nat) (x : t.den) (u : V), offT t k = some off → getAt t x [.fld k] = some u → (plT t o)[k]? = some (o + off, u.t.sz) := by
  intro k
  induction k with
  | zero =>
    intro t o off x u h hu
    cases t <;> first | (simp [offT] at h; done) | skip
    simp only [offT, Option.some.injEq] at h
    simp only [getAt, Option.some.injEq] at hu
    subst h; subst hu
    simp [plT]
  | succ k ih =>
    intro t o off x u h hu
    cases t <;> first | (simp [offT] at h; done) | skip
    simp only [offT, Option.map_eq_some_iff] at h
    obtain ⟨q, hq, rfl⟩ := h
    simp only [getAt] at hu
    simp only [plT, List.getElem?_cons_succ]
    rw [ih _ _ q _ u hq hu, Nat.add_assoc]
theorem getAt_shp : ∀ (k : Nat) (a b : Ty) (x : a.den) (y : b.den) (u : V), a.shp = b.shp → getAt a x [.fld k] = some u → ∃ u', getAt b y [.fld k] = some u' ∧ u'.t.shp = u.t.shp := by
  intro k
  induction k with
  | zero =>
    intro a b x y u h hu
    cases a <;> cases b <;> simp only [Ty.shp, Ty.prod.injEq, reduceCtorEq] at h <;> first | (simp [getAt] at hu; done) | skip
    simp only [getAt, Option.some.injEq] at hu ⊢
    subst hu
    exact ⟨_, rfl, h.1.symm⟩
  | succ k ih =>
    intro a b x y u h hu
    cases a <;> cases b <;> simp only [Ty.shp, Ty.prod.injEq, reduceCtorEq] at h <;> first | (simp [getAt] at hu; done) | skip
    simp only [getAt] at hu ⊢
    exact ih _ _ _ _ u h.2 hu

theorem seg_append {c1 c2 c : List Value} {o n : Nat} (h1 : c1.length = n) (h : n ≤ o) : seg (c1 ++ c2) o c = c1 ++ seg c2 (o - n) c := by
  subst h1
  unfold seg
  rw [List.take_append, List.drop_append]
  have e1 : c1.take o = c1 := List.take_of_length_le h
  have e2 : c1.drop (o + c.length) = [] := List.drop_of_length_le (by omega)
  rw [e1, e2, show o + c.length - c1.length = o - c1.length + c.length from by omega]
  simp
theorem seg_left {c1 c2 c : List Value} (h : c.length = c1.length) : seg (c1 ++ c2) 0 c = c ++ c2 := by
  unfold seg
  simp [h]

/-- a field of cells replaced -/
theorem rep_setFld : ∀ (k : Nat) (t : Ty) {w : World} {S F Fv : BS} (x : t.den) {cs c' : List Value} (off : Nat) (u v' v'' : V), Rep P t w S F x cs → offT t k = some off → getAt t x [.fld k] = some u →
    Rep P v'.t w S Fv v'.x c' → c'.length = u.t.sz → BS.dis Fv F → setAt t x [.fld k] v' = some v'' → Rep P v''.t w S (BS.un F Fv) v''.x (seg cs off c') := by
  intro k
  induction k with
  | zero =>
    intro t w S F Fv x cs c' off u v' v'' h ho hu hr hl hd hs
    cases t <;> first | (simp [offT] at ho; done) | skip
    rename_i a b
    simp only [offT, Option.some.injEq] at ho
    simp only [getAt, Option.some.injEq] at hu
    simp only [setAt, Option.map_some, Option.some.injEq] at hs
    subst ho; subst hu; subst hs
    obtain ⟨c1, c2, F1, F2, rfl, h1, h2, hdd, hF1, hF2⟩ := h
    have hl1 := rep_len _ h1
    rw [seg_left (by simp only at hl; omega)]
    exact ⟨c', c2, Fv, F2, rfl, hr, h2, fun g p q => hd g p (hF2 g q), fun g hg => .inr hg, fun g hg => .inl (hF2 g hg)⟩
  | succ k ih =>
    intro t w S F Fv x cs c' off u v' v'' h ho hu hr hl hd hs
    cases t <;> first | (simp [offT] at ho; done) | skip
    rename_i a b
    simp only [offT, Option.map_eq_some_iff] at ho
    obtain ⟨q, hq, rfl⟩ := ho
    simp only [getAt] at hu
    simp only [setAt, Option.map_eq_some_iff] at hs
    obtain ⟨z, hz, rfl⟩ := hs
    obtain ⟨c1, c2, F1, F2, rfl, h1, h2, hdd, hF1, hF2⟩ := h
    have hl1 := rep_len _ h1
    have := ih b x.2 q u v' z h2 hq hu hr hl (fun g p q => hd g p (hF2 g q)) hz
    rw [seg_append hl1 (by omega), Nat.add_sub_cancel_left]
    refine ⟨c1, _, F1, BS.un F2 Fv, rfl, h1, this, ?_, fun g hg => .inl (hF1 g hg), fun g hg => hg.imp (hF2 g) id⟩
    rintro g p (q | q)
    · exact hdd g p q
    · exact hd g q (hF1 g p)

theorem fold_seg : ∀ (c : List Value) (off k : Nat) (cells : Array Value), off + k + c.length ≤ cells.size →
    ((c.zipIdx k).foldl (fun cs (x : Value × Nat) => cs.setIfInBounds (off + x.2) x.1) cells).toList = seg cells.toList (off + k) c
  | [], off, k, cells, h => by unfold seg; simp
  | v :: c, off, k, cells, h => by
    simp only [List.zipIdx_cons, List.foldl_cons]
    rw [fold_seg c off (k + 1) _ (by simp at h ⊢; omega)]
    have e := list_seg_step cells.toList (off + k) v c (by simp at h ⊢; omega)
    simp only [Array.toList_setIfInBounds, seg] at e ⊢
    rw [← Nat.add_assoc]
    simpa [Nat.add_assoc, Nat.add_comm 1] using e

def putAll (acc : V) : List (Nat × V) → Option V
  | [] => some acc
  | (k, v) :: r => (getAt acc.t acc.x [.fld k]).bind fun u => if u.t.shp = v.t.shp then (setAt acc.t acc.x [.fld k] v).bind fun acc' => putAll acc' r else none

theorem fill_ok (τ : Ty) : ∀ (l : List (Nat × V)) (us : List Value) (acc v : V) (cells : Array Value) (w : World) (S F : BS) (Fv : Nat → BS), acc.t.shp = τ.shp → Rep P acc.t w S F acc.x cells.toList → us.length = l.length →
    (∀ i (h : i < l.length), ∃ cs, us[i]? = some (l[i].2.t.toV cs) ∧ Rep P l[i].2.t w S (Fv i) l[i].2.x cs) → (∀ i j, i ≠ j → BS.dis (Fv i) (Fv j)) → (∀ i, BS.dis (Fv i) F) → putAll acc l = some v →
    ∃ cells' : Array Value, Instr.fill ((plT τ 0).toArray[·]?) cells ((l.map (·.1)).zip us) = some cells' ∧ v.t.shp = τ.shp ∧ Rep P v.t w S (fun g => F g ∨ ∃ i, Fv i g) v.x cells'.toList
  | [], us, acc, v, cells, w, S, F, Fv, hs, hr, hl, hrep, hdd, hdF, hp => by
    simp only [putAll, Option.some.injEq] at hp
    subst hp
    exact ⟨cells, by simp [Instr.fill], hs, rep_mono _ hr (BS.sub_refl _) (fun g hg => .inl hg)⟩
  | (k, vk) :: l, us, acc, v, cells, w, S, F, Fv, hs, hr, hl, hrep, hdd, hdF, hp => by
    simp only [putAll, Option.bind_eq_some_iff] at hp
    obtain ⟨u, hu, hp⟩ := hp
    by_cases hshp : u.t.shp = vk.t.shp
    · rw [if_pos hshp] at hp
      simp only [Option.bind_eq_some_iff] at hp
      obtain ⟨acc', hset, hp⟩ := hp
      cases us with
      | nil => simp at hl
      | cons u0 us =>
        obtain ⟨cs, hu0, hr0⟩ := hrep 0 (by simp)
        simp only [List.getElem?_cons_zero, Option.some.injEq, List.getElem_cons_zero] at hu0 hr0
        have hszu : u.t.sz = vk.t.sz := by rw [← Ty.shp_sz u.t, hshp, Ty.shp_sz]
        have hcl : cs.length = u.t.sz := by rw [rep_len _ hr0, hszu]
        -- the place
        have hoff : ∃ off, offT acc.t k = some off := by
          have : ∀ (k : Nat) (t : Ty) (x : t.den) (u : V), getAt t x [.fld k] = some u → ∃ off, offT t k = some off := by
            intro k
            induction k with
            | zero => intro t x u h; cases t <;> first | (simp [getAt] at h; done) | exact ⟨_, rfl⟩
            | succ k ih =>
              intro t x u h
              cases t <;> first | (simp [getAt] at h; done) | skip
              simp only [getAt] at h
              obtain ⟨off, ho⟩ := ih _ _ u h
              exact ⟨_, by simp only [offT, ho, Option.map_some]; rfl⟩
          exact this k _ _ u hu
        obtain ⟨off, hoff⟩ := hoff
        obtain ⟨u', hu', hsh'⟩ := getAt_shp k acc.t τ acc.x τ.dflt u hs hu
        have hpl := plT_get k τ 0 off τ.dflt u' (by rw [← offT_shp k acc.t τ hs]; exact hoff) hu'
        have hsz' : u'.t.sz = u.t.sz := by rw [← Ty.shp_sz u'.t, hsh', Ty.shp_sz]
        rw [Nat.zero_add, hsz'] at hpl
        obtain ⟨u2, hu2, _, hfit⟩ := getAt_one k acc.t acc.x off hoff
        rw [hu] at hu2
        simp only [Option.some.injEq] at hu2
        subst hu2
        have hclen : cells.size = acc.t.sz := by rw [← Array.length_toList]; exact rep_len _ hr
        have hcells0 : u0.cells = cs.toArray := by rw [hu0]; exact toV_cells hr0
        have hfold := fold_seg cs off 0 cells (by simp; omega)
        have hrep' := rep_setFld k acc.t acc.x off u vk acc' hr hoff hu hr0 hcl (hdF 0) hset
        have hs' : acc'.t.shp = τ.shp := (setAt_shp [.fld k] acc.t acc.x u vk acc' hu hshp hset).trans hs
        obtain ⟨cells', q1, q2, q3⟩ := fill_ok τ l us acc' v ((cs.zipIdx 0).foldl (fun cs (x : Value × Nat) => cs.setIfInBounds (off + x.2) x.1) cells) w S (BS.un F (Fv 0)) (fun i => Fv (i + 1)) hs' (by rw [hfold, Nat.add_zero]; exact hrep') (by simpa using hl)
          (fun i hi => by
            obtain ⟨cs', h1, h2⟩ := hrep (i + 1) (by simpa using hi)
            exact ⟨cs', by simpa using h1, by simpa using h2⟩) (fun i j hij => hdd (i + 1) (j + 1) (by omega)) (fun i g h1 h2 => h2.elim (hdF (i + 1) g h1) (hdd (i + 1) 0 (by omega) g h1)) hp
        refine ⟨cells', ?_, q2, rep_mono _ q3 (BS.sub_refl _) ?_⟩
        · simp only [List.map_cons, List.zip_cons_cons, Instr.fill]
          have hpl' : ((plT τ 0).toArray[k]?) = some (off, u.t.sz) := by simpa using hpl
          rw [hpl']
          simp only [hcells0, List.size_toArray, hcl]
          rw [if_neg (by simp; omega)]
          have hz : (cs.toArray.zipIdx.foldl (fun cs (x : Value × Nat) => cs.setIfInBounds (off + x.2) x.1) cells) = (cs.zipIdx 0).foldl (fun cs (x : Value × Nat) => cs.setIfInBounds (off + x.2) x.1) cells := by
            rw [← Array.foldl_toList]
            congr 1
            simp
          rw [← q1]
          congr 1
        · rintro g ((hg | hg) | ⟨i, hg⟩)
          · exact .inl hg
          · exact .inr ⟨0, hg⟩
          · exact .inr ⟨i + 1, hg⟩
    · rw [if_neg hshp] at hp
      cases hp

section
variable {n : Sz} {w0 : World} {S0 F0 : BS} {get rd : Rd} {a : Act} {w : World} {S : BS} {fp : Tmp → BS}

def pBuild (P : Program) (T : TypeId → Option Ty) (rd : Rd) (d : Tmp) (t : TypeId) (parts : List (Nat × Operand)) (K : Patch → Prop) : Prop :=
  match T t with
  | some τ => match manyV rd (parts.map fun q => (true, (getAt τ τ.dflt [.fld q.1]).map (·.t), q.2)) with
    | some (vs, pt) => match putAll ⟨τ, τ.dflt⟩ ((parts.map (·.1)).zip vs) with
      | some v => τ.zOk = true ∧ pZero P t = some (.agg τ.zeroC.toArray) ∧ pPlaces P t = some (plT τ 0) ∧ τ.isAg = true ∧ noKey d pt = true ∧ K (pt ++ [(d, .val v, .new)])
      | none => False
    | none => False
  | none => False

theorem shp_isAg {a b : Ty} (h : a.shp = b.shp) : a.isAg = b.isAg := by
  cases a <;> cases b <;> simp_all [Ty.shp, Ty.isAg]

theorem build_sim (h : SimX P n w0 S0 F0 get a w S fp) (hb : Below rd get) {T : TypeId → Option Ty} {d : Tmp} (hd : d < n.sz) {t : TypeId} {parts : Array (Nat × Operand)} {o : Oper} (ho : o.op = .build t parts) (hod : o.dst = some d) {K : Patch → Prop} {Q : Exit → Act → World → Prop} (hp : pBuild P T rd d t parts.toList K) : o.wp P a w (Nx P n w0 S0 F0 get K) Q := by
  unfold pBuild at hp
  split at hp
  · rename_i τ hT
    split at hp
    · rename_i vs pt hm
      split at hp
      · rename_i v hv
        obtain ⟨hz, hzero, hpl, hag, hnk, hK⟩ := hp
        obtain ⟨Sx, Fv, hmany⟩ := many_got h hb hm
        have hlen : vs.length = parts.toList.length := by
          have := hmany.len; simp at this; simp [← this]
        have hus : ((parts.toList.map fun q => (true, (getAt τ τ.dflt [.fld q.1]).map (·.t), q.2)).map fun q => a.eval q.2.2) = parts.toList.map fun q => a.eval q.2 := by simp
        have hz2 : (((parts.toList.map (·.1)).zip vs).map (·.1)).zip (parts.toList.map fun q => a.eval q.2) = (parts.map fun (i, x) => (i, a.eval x)).toList := by
          rw [List.map_fst_zip (by simp [hlen]), List.zip_map', Array.toList_map]
        obtain ⟨cells', q1, q2, q3⟩ := fill_ok (P := P) τ ((parts.toList.map (·.1)).zip vs) (parts.toList.map fun q => a.eval q.2) ⟨τ, τ.dflt⟩ v τ.zeroC.toArray w (BS.un S Sx) BS.bot Fv rfl (by simpa using zero_rep τ w _ hz) (by simp [hlen])
          (fun i hi => by
            have hi' : i < vs.length := by simp at hi; omega
            obtain ⟨cs, e1, e2⟩ := hmany.rep i hi'
            rw [hus] at e1
            have hzi : ((parts.toList.map (·.1)).zip vs)[i].2 = vs[i] := by simp
            rw [hzi]
            exact ⟨cs, e1, e2⟩) hmany.fvd (fun i => BS.dis_bot _) hv
        rw [hz2] at q1
        have hbuilt : P.built t (parts.map fun (i, x) => (i, a.eval x)).toList = some cells' := by
          unfold pPlaces at hpl
          unfold pZero at hzero
          obtain ⟨it, hit, hiz⟩ := Option.bind_eq_some_iff.1 hzero
          cases hu : P.underlying t with
          | none => rw [hu] at hpl; cases hpl
          | some ds =>
            rw [hu] at hpl
            cases ds with
            | struct fs =>
              simp only at hpl
              unfold Program.built
              simp only [hit, hu, hiz, hpl]
              simpa [Value.cells] using q1
            | _ => cases hpl
        have hrun : (execOp a.eval o).run P w = .ok (.value (.agg cells')) w := by
          unfold execOp
          simp only [ho, Sem.run_bind, run_build w t _ cells' hbuilt, Result.andThen_ok]
          rfl
        refine wp_value hrun ⟨_, hK, ?_⟩
        rw [hod]
        have hvag : v.t.isAg = true := (shp_isAg q2).trans hag
        refine sim_many h hmany d hd hnk _ _ (fun g => ∃ i, Fv i g) BS.bot w BS.bot (Kp.refl _ _) (fun _ hg => hg.elim) (fun g hg => .inl hg) (fun _ hg => hg.elim) (BS.bot_dis _) ⟨cells'.toList, ?_, rep_mono _ q3 (fun g hg => hg.imp id .inl) (fun g hg => hg.elim (fun x => x.elim) id)⟩
        unfold Ty.toV
        simp [hvag]
      · exact hp.elim
    · exact hp.elim
  · exact hp.elim
end
end Go.Tv
