/-
  Going through a function's code on slots is sound. Conditions: none; plain definitions and lemmas.
-/
import Derived.Test.YtgdchicpmjmhaaaTvV
namespace Go.Tv
set_option linter.unusedVariables false
set_option linter.unusedSimpArgs false
variable {P : Program}

theorem below_refl (get : Rd) : Below get get := fun _ => .inl rfl

theorem sim_world {ro : Option Nat} {n : Nat} {w0 : World} {S0 F0 : BS} {get : Rd} {a : Act} {w w' : World} (h : SimE P ro n w0 S0 F0 get a w) (hk : Kp BS.bot w w') : SimE P ro n w0 S0 F0 get a w' := by
  obtain ⟨mks, hmk, S, fp, h⟩ := h
  exact ⟨mks, hmk, _, _, sim_gen h (fun _ => False) (fun _ => BS.bot) BS.bot h.defers h.size (hk.mono (BS.bot_sub _)) (fun t ht => ht.elim) (fun t _ ht => ht.elim) (fun g hg => hg.elim) (fun t ht => ht.elim) (fun t _ => ⟨rfl, rfl⟩) (fun t ht => ht.elim) (fun t ht => ht.elim)⟩

/-! ### one operation, in its place -/
theorem wp_put {o : Oper} {a : Act} {w : World} {K : Act → World → Prop} {Q : Exit → Act → World → Prop} (h : o.wp P a w K Q) : o.wp P a w (fun a' w' => K a' w' ∧ ∀ t, o.dst ≠ some t → a'.tmps.getD t undef = a.tmps.getD t undef) Q := by
  have hput : ∀ (b : Act), b.tmps = a.tmps → ∀ v t, o.dst ≠ some t → (b.put o.dst v).tmps.getD t undef = a.tmps.getD t undef := by
    intro b hb v t ht
    cases hd : o.dst with
    | none => simp [Act.put, hb]
    | some d =>
      have : t ≠ d := fun e => ht (by rw [hd, e])
      rw [put_other b d t v this, hb]
  unfold Oper.wp at *
  generalize (execOp a.eval o).run P w = r at *
  cases r with
  | ok n w' =>
    cases n <;> simp only [Oper.upon] at h ⊢ <;>
      first
        | exact ⟨h, hput a rfl _⟩
        | (refine ⟨h, hput _ ?_ undef⟩; rfl)
        | exact Calls.mono h (fun e w'' he => by cases e <;> first | exact ⟨he, hput a rfl _⟩ | exact he)
        | exact Rows.mono h (fun _ _ he => ⟨he, hput a rfl _⟩)
        | exact h
  | halt x w' => cases x <;> simp only [Oper.upon] at h ⊢ <;> exact h

theorem pin_put {pins : List (Tmp × Value)} {a a' : Act} {d : Option Tmp} (h : PinOk pins a) (hp : ∀ t, d = some t → ∀ q ∈ pins, q.1 ≠ t) (ha : ∀ t, d ≠ some t → a'.tmps.getD t undef = a.tmps.getD t undef) : PinOk pins a' := fun q hq => by
  rw [ha q.1 (fun e => hp q.1 e q hq rfl)]
  exact h q hq

/-- the slots that may be written -/
def DstOk (cx : Cx P) (d : Option Tmp) : Prop := ∀ t, d = some t → t < cx.n ∧ ∀ q ∈ cx.pins, q.1 ≠ t

theorem pOper_nodefer {E : Env} {rd : Rd} {op : Op} {dst : Option Tmp} {ty : TypeId} {K : Patch → Prop} (h : pOper P E rd op dst ty K) : ∀ c, op ≠ .defer c := by
  rintro c rfl
  cases dst with
  | none => exact h
  | some d => exact h
theorem pOperT_nodefer {E : Env} {rd : Rd} {op : Op} {dst : Option Tmp} {ty : TypeId} {K : Patch → Prop} (h : pOperT P E rd op dst ty K) : ∀ c, op ≠ .defer c := by
  rintro c rfl
  cases dst with
  | none => exact h
  | some d => exact h

theorem oper_st {cx : Cx P} (hE : cx.E.Ok P) {get rd : Rd} {a : Act} {w : World} (h : St cx get a w) (hb : Below rd get) {o : Oper} (hd : DstOk cx o.dst) {K : Patch → Prop} {Q : Exit → Act → World → Prop} (hp : pOper P cx.E rd o.op o.dst o.type K) :
    o.wp P a w (fun a' w' => ∃ pt, K pt ∧ St cx (appP pt get) a' w') Q := by
  obtain ⟨⟨mks, hmk, S, fp, hs⟩, hpin⟩ := h
  refine Oper.wp_mono ?_ (wp_put (oper_sim hE hs hb (fun t ht => (hd t ht).1) hp (Q := Q)))
  rintro a' w' ⟨⟨pt, hK, hsim⟩, hput⟩
  exact ⟨pt, hK, ⟨mks, hmk, hsim⟩, pin_put hpin (fun t ht => (hd t ht).2) hput⟩

theorem nil_st {cx : Cx P} {get rd : Rd} {a : Act} {w : World} (h : St cx get a w) (hb : Below rd get) {o : Oper} {d : Tmp} (hod : o.dst = some d) (hd : DstOk cx o.dst) {t yt : TypeId} {x : Operand} (ho : o.op = .binOp .eql t x (.const (.slice none 0 0)) yt) {K : Patch → Prop} {Q : Exit → Act → World → Prop} (hp : pNil P rd d t x K) :
    o.wp P a w (fun a' w' => ∃ pt, K pt ∧ St cx (appP pt get) a' w') Q := by
  obtain ⟨⟨mks, hmk, S, fp, hs⟩, hpin⟩ := h
  have hdd := hd d hod
  unfold pNil at hp
  split at hp
  · rename_i m hm
    obtain ⟨hel, hz, hnz⟩ := hp
    obtain ⟨e, he⟩ := Option.isSome_iff_exists.1 hel
    have hu := pElem_some he
    -- the address is there if the row is not empty
    have hrow : ∃ A c, a.eval x = .slice A m c ∧ (m ≠ 0 → A.isNone = false) := by
      unfold rowLen at hm
      split at hm
      · rename_i r hr
        simp only [Option.some.injEq] at hm
        subst hm
        obtain ⟨cs, hev, A, c, rfl, h1, h2, h3⟩ := rowAt_shared hs hb hr
        refine ⟨A, c, hev, fun hne => ?_⟩
        obtain ⟨g, og, rfl, _⟩ := h3 (fun he => hne (by rw [he]; rfl))
        rfl
      · rename_i j p k m' r hr
        simp only [Option.some.injEq] at hm
        subst hm
        obtain ⟨e', hg, hv, hu', _, cs, Fv, hxv, hrep, hsub, hel'⟩ := rowAt_held hs hb hr
        rcases hrep with ⟨rfl, hx0⟩ | ⟨gi, cap, cur, rfl, hFg, hgi, q1, q2, q3, _⟩
        · have hx0' : r.xs = [] := hx0
          rw [hx0']
          exact ⟨none, 0, hxv, fun h => absurd rfl h⟩
        · exact ⟨_, cap, hxv, fun _ => rfl⟩
      · split at hm
        · rename_i hn
          simp only [Option.some.injEq] at hm
          subst hm
          have := rdO_rep (s := .nil) (nm := (rdO rd x).2) hs hb (by rw [← hn]) (by simp)
          exact ⟨none, 0, this, fun h => absurd rfl h⟩
        · cases hm
    obtain ⟨A, c, hev, hA⟩ := hrow
    have hrun : (execOp a.eval o).run P w = .ok (.value (.bool A.isNone)) w := by
      unfold execOp
      have hg : (eqGuard .eql t x (.const (.slice none 0 0)) (.slice A m c) (.slice none 0 0)).run P w = .ok () w := by
        simp [eqGuard]
      have hr := Lib.run_eql_slice_nil (P := P) w t e A m c 0 0 hu
      have hc : a.eval (.const (.slice none 0 0)) = .slice none 0 0 := rfl
      simp only [ho, hev, hc, Sem.run_bind, hg, hr, Result.andThen_ok]
      rfl
    refine wp_value hrun ⟨[(d, .val ⟨.bool, A.isNone⟩, .new)], ?_, ⟨mks, hmk, ?_⟩, ?_⟩
    · by_cases h0 : m = 0
      · exact hz h0 _
      · rw [hA h0]; exact hnz h0
    · rw [hod]; exact sim_val hs d hdd.1 _ _ ⟨[.bool A.isNone], rfl, rfl⟩
    · refine pin_put (d := o.dst) hpin (fun t ht => (hd t ht).2) (fun t ht => ?_)
      rw [hod] at ht ⊢
      exact put_other a d t _ (fun e => ht (by rw [e]))
  · exact hp.elim

theorem operT_st {cx : Cx P} (hE : cx.E.Ok P) {get rd : Rd} {a : Act} {w : World} (h : St cx get a w) (hb : Below rd get) {o : Oper} (hd : DstOk cx o.dst) {K : Patch → Prop} {Q : Exit → Act → World → Prop} (hp : pOperT P cx.E rd o.op o.dst o.type K) :
    o.wp P a w (fun a' w' => ∃ pt, K pt ∧ St cx (appP pt get) a' w') Q := by
  unfold pOperT at hp
  split at hp
  · rename_i t x yt d ho hod
    exact nil_st h hb hod hd ho hp
  · exact oper_st hE h hb hd hp

theorem undef_nobool (b : Bool) : (undef : Value) ≠ .bool b := by intro h; cases h

theorem want_sem {cx : Cx P} {get rd : Rd} {a : Act} {w : World} (h : St cx get a w) (hb : Below rd get) {all : List Oper} {o : Oper} {c : Bool} (hw : wantOk rd all o.guard = some c) : Region.wanted o (yielded all.toArray a.tmps) = c := by
  obtain ⟨⟨mks, _, S, fp, hs⟩, _⟩ := h
  unfold Region.wanted
  unfold wantOk at hw
  cases hg : o.guard with
  | none => rw [hg] at hw; simp only [Option.some.injEq] at hw; rw [← hw]
  | some gb =>
    obtain ⟨g, b⟩ := gb
    rw [hg] at hw
    simp only at hw ⊢
    cases ht : slotOf all g with
    | none => rw [ht] at hw; cases hw
    | some t =>
      rw [ht] at hw
      have hy : yielded all.toArray a.tmps g = match a.tmps[t]? with | some (.bool b) => some b | _ => none := by
        unfold slotOf at ht
        unfold yielded
        have : ((all.toArray[g]?).bind (·.dst)) = some t := by simpa using ht
        rw [this]; rfl
      rw [hy]
      have hgetD : ∀ v, a.tmps.getD t undef = v → v ≠ undef → a.tmps[t]? = some v := by
        intro v hv hne
        rw [Array.getD_eq_getD_getElem?] at hv
        cases he : a.tmps[t]? with
        | none => rw [he] at hv; exact absurd hv.symm hne
        | some u => rw [he] at hv; simpa using hv
      simp only at hw
      split at hw
      · rename_i v hv
        simp only [Option.some.injEq] at hw
        have hgt := hb.eq (t := t) (s := .val ⟨.bool, v⟩) (n := (rd t).2) (by rw [← hv]) (by simp)
        have hsl := hs.slot t
        rw [hgt] at hsl
        obtain ⟨cs, hu, hr⟩ := hsl
        have hu' : a.tmps.getD t undef = .bool v := by rw [hu, show cs = _ from hr]; rfl
        rw [hgetD _ hu' (fun e => undef_nobool v e.symm), ← hw]
        simp
      · rename_i hv
        simp only [Option.some.injEq] at hw
        have hgt := hb.eq (t := t) (s := .skip) (n := (rd t).2) (by rw [← hv]) (by simp)
        have hsl := hs.slot t
        rw [hgt] at hsl
        have hu : a.tmps.getD t undef = undef := hsl
        rw [← hw]
        have : (match a.tmps[t]? with | some (.bool b) => some b | _ => none : Option Bool) = none := by
          rw [Array.getD_eq_getD_getElem?] at hu
          cases he : a.tmps[t]? with
          | none => rfl
          | some u =>
            rw [he] at hu
            have hu' : u = undef := hu
            rw [hu']; rfl
        rw [this]; rfl
      · cases hw

theorem skip_st {cx : Cx P} {get : Rd} {a : Act} {w : World} (h : St cx get a w) {d : Option Tmp} (hd : DstOk cx d) : St cx (appP (skipP d) get) (a.put d undef) w := by
  obtain ⟨⟨mks, hmk, S, fp, hs⟩, hpin⟩ := h
  cases d with
  | none => exact ⟨⟨mks, hmk, S, fp, hs⟩, hpin⟩
  | some d =>
    refine ⟨⟨mks, hmk, sim_val hs d (hd d rfl).1 _ _ rfl⟩, pin_put (d := some d) hpin (fun t ht => (hd t ht).2) (fun t ht => put_other a d t _ (fun e => ht (by rw [e])))⟩

/-! ### a region in the order of the text -/
theorem ops_sound {cx : Cx P} (hE : cx.E.Ok P) (all : List Oper) (ks : List It) (hks : ∀ σ, pI cx ks σ → Sem' cx ks σ) : ∀ (l : List Oper) (σ : Fr), (∀ o ∈ l, DstOk cx o.dst) → pI cx (.ops all l :: ks) σ → ∀ a w, St cx σ.get a w → wpListIn (fen cx.ro) 0 P all.toArray (Wk cx ks) l a w
  | [], σ, _, h, a, w, hst => by
    rw [pI] at h
    exact hks σ h a w hst
  | o :: l, σ, hd, h, a, w, hst => by
    rw [pI] at h
    split at h
    · rename_i v hv
      have hw := want_sem hst (below_refl _) hv
      have hd' : ∀ o ∈ l, DstOk cx o.dst := fun o ho => hd o (List.mem_cons_of_mem _ ho)
      show (if Region.wanted o (yielded all.toArray a.tmps) then _ else _)
      rw [hw]
      cases v with
      | true =>
        rw [if_pos rfl]
        refine wpIn_of_wp (pOperT_nodefer (h.1 rfl)) (Oper.wp_mono ?_ (operT_st hE hst (below_refl _) (hd o List.mem_cons_self) (h.1 rfl) (Q := Wk cx ks)))
        rintro a' w' ⟨pt, hp, hst'⟩
        rw [← Fr.get_app] at hst'
        exact ops_sound hE all ks hks l _ hd' hp a' w' hst'
      | false =>
        rw [if_neg (by simp)]
        have hst' := skip_st hst (hd o List.mem_cons_self)
        rw [← Fr.get_app] at hst'
        exact ⟨fun f _ => trivial, ops_sound hE all ks hks l _ hd' (h.2 rfl) _ w hst'⟩
    · exact h.elim

/-! ### a region whose order is drawn -/
def DStep (cx : Cx P) (all : List Oper) (o : Oper) (σ : Fr) (R : List Tmp) (pt : Patch) : Prop :=
  (wantOk (σ.only R) all o.guard = some true ∧ pOper P cx.E (σ.only R) o.op o.dst o.type (fun q => q = pt)) ∨ (wantOk (σ.only R) all o.guard = some false ∧ pt = skipP o.dst)
def Trace (cx : Cx P) (all : List Oper) : List Oper → List (List Tmp × Patch) → Fr → Prop
  | [], [], _ => True
  | o :: l, (R, pt) :: s, σ => DStep cx all o σ R pt ∧ Trace cx all l s (σ.app pt)
  | _, _, _ => False
def finalF (σ : Fr) : List (List Tmp × Patch) → Fr
  | [] => σ
  | (_, pt) :: s => finalF (σ.app pt) s

theorem want_only {σ : Fr} {all : List Oper} {g : Option (Nat × Bool)} {R : List Tmp} (hR : ∀ t ∈ readsG all g, t ∈ R) : wantOk (σ.only R) all g = wantOk σ.get all g := by
  cases g with
  | none => rfl
  | some gb =>
    obtain ⟨g, b⟩ := gb
    unfold wantOk
    simp only
    cases ht : slotOf all g with
    | none => rfl
    | some t =>
      have : t ∈ R := hR t (by simp [readsG, ht])
      simp only [Fr.only, if_pos this]

theorem opsD_trace {cx : Cx P} (all : List Oper) (ks : List It) : ∀ (l : List Oper) (σ : Fr) (acc : List (List Tmp × List Tmp)), pI cx (.opsD all l acc :: ks) σ →
    ∃ s, s.length = l.length ∧ Trace cx all l s σ ∧ regCheck all (acc ++ s.map fun q => (q.1, q.2.map (·.1))) = true ∧ pI cx ks (finalF σ s)
  | [], σ, acc, h => by
    rw [pI] at h
    exact ⟨[], rfl, trivial, by simpa using h.1, h.2⟩
  | o :: l, σ, acc, h => by
    rw [pI] at h
    split at h
    · rename_i v hv
      have hR : ∀ t ∈ readsG all o.guard, t ∈ readsL σ o.op.operands.toList ++ readsG all o.guard := fun t ht => List.mem_append_right _ ht
      rw [← want_only hR] at hv
      cases v with
      | true =>
        obtain ⟨pt, hp1, hp2⟩ := ex_oper (h.1 rfl)
        obtain ⟨s, q1, q2, q3, q4⟩ := opsD_trace all ks l _ _ hp2
        exact ⟨(readsL σ o.op.operands.toList ++ readsG all o.guard, pt) :: s, by simp [q1], ⟨.inl ⟨hv, hp1⟩, q2⟩, by simpa using q3, q4⟩
      | false =>
        obtain ⟨s, q1, q2, q3, q4⟩ := opsD_trace all ks l _ _ (h.2 rfl)
        exact ⟨(readsL σ o.op.operands.toList ++ readsG all o.guard, skipP o.dst) :: s, by simp [q1], ⟨.inr ⟨hv, rfl⟩, q2⟩, by simpa using q3, q4⟩
    · exact h.elim

theorem trace_at {cx : Cx P} (all : List Oper) : ∀ (l : List Oper) (s : List (List Tmp × Patch)) (σ : Fr), Trace cx all l s σ → ∀ i (hi : i < l.length) (hs : i < s.length), DStep cx all l[i] (finalF σ (s.take i)) s[i].1 s[i].2
  | [], s, σ, h, i, hi, hs => absurd hi (Nat.not_lt_zero _)
  | o :: l, [], σ, h, i, hi, hs => absurd hs (Nat.not_lt_zero _)
  | o :: l, (R, pt) :: s, σ, h, i, hi, hs => by
    cases i with
    | zero => exact h.1
    | succ i => exact trace_at all l s _ h.2 i (by simpa using hi) (by simpa using hs)

theorem finalF_snoc : ∀ (s : List (List Tmp × Patch)) (σ : Fr) (q : List Tmp × Patch), finalF σ (s ++ [q]) = (finalF σ s).app q.2
  | [], σ, q => rfl
  | (R, pt) :: s, σ, q => finalF_snoc s _ q

theorem GL_text (s : List (List Tmp × Patch)) (σ : Fr) : ∀ i, i ≤ s.length → GL s.length (fun j => (s.getD j ([], [])).2) (fun j => decide (j < i)) σ.get = (finalF σ (s.take i)).get := by
  intro i
  induction i with
  | zero =>
    intro _
    funext t
    unfold GL
    rw [foldl_id _ _ (fun j hj e => by simp)]
    rfl
  | succ i ih =>
    intro hi
    have hlt : i < s.length := hi
    have hstep := GL_step (N := s.length) (pts := fun j => (s.getD j ([], [])).2) (L := fun j => decide (j < i)) (get0 := σ.get) hlt (by simp) (fun j hij hj hl => by simp at hl; omega)
    have hfun : (fun j => if j = i then true else decide (j < i)) = fun j => decide (j < i + 1) := by
      funext j
      by_cases hji : j = i
      · subst hji; simp
      · rw [if_neg hji]
        have : (j < i) = (j < i + 1) := by apply propext; constructor <;> intro h <;> omega
        simp only [this]
    rw [hfun] at hstep
    rw [hstep, ih (by omega), ← Fr.get_app]
    have htake : s.take (i + 1) = s.take i ++ [s[i]] := (List.take_append_getElem hlt).symm
    rw [htake, finalF_snoc]
    congr 3
    simp [List.getD_eq_getElem?_getD, hlt]

theorem apartL_iff {x y : List Tmp} (h : apartL x y = true) : ∀ t ∈ x, t ∉ y := fun t ht hy => by
  have := List.all_eq_true.1 h t ht
  simp [List.contains_iff_mem, hy] at this

theorem region_draw_sound {cx : Cx P} (hE : cx.E.Ok P) (hm : P.follows .mixedOrders = true) (id : Nat) (ops : Array Oper) (ks : List It) (hks : ∀ σ, pI cx ks σ → Sem' cx ks σ) (σ : Fr) (hd : ∀ o ∈ ops.toList, DstOk cx o.dst) (h : pI cx (.opsD ops.toList ops.toList [] :: ks) σ) :
    ∀ a w, St cx σ.get a w → (Code.region id ops true).wpIn (fen cx.ro) 0 P (Wk cx ks) a w := by
  intro a w hst
  obtain ⟨s, hs, htr, hchk, hfin⟩ := opsD_trace ops.toList ks ops.toList σ [] h
  have hsz : s.length = ops.size := by simpa using hs
  simp only [List.nil_append] at hchk
  unfold regCheck at hchk
  simp only [Bool.and_eq_true] at hchk
  obtain ⟨⟨c1, c2⟩, c3⟩ := hchk
  have hat : ops.toList.toArray = ops := by simp
  rw [hat] at c1 c2
  have hlen : ops.toList.length = ops.size := by simp
  rw [hlen] at c1 c2 c3
  have hget : ∀ i, i < ops.size → (s.map fun q => (q.1, q.2.map (·.1))).getD i ([], []) = ((s.getD i ([], [])).1, (s.getD i ([], [])).2.map (·.1)) := fun i hi => by
    have : i < s.length := by omega
    simp [List.getD_eq_getElem?_getD, this]
  refine wpIn_region_any hm ?_
  have hst0 : St cx σ.get a { w with drawn := w.drawn + 1 } := by
    have hk : Kp BS.bot w { w with drawn := w.drawn + 1 } := ⟨rfl, rfl, rfl, Nat.le_refl _, fun _ _ _ => rfl⟩
    exact ⟨sim_world hst.1 hk, hst.2⟩
  have hgl0 : GL ops.size (fun j => (s.getD j ([], [])).2) (fun j => (Array.replicate ops.size false).getD j false) σ.get = σ.get := by
    funext t
    unfold GL
    exact foldl_id _ _ (fun j hj e => by simp [Array.getD_eq_getD_getElem?, Array.getElem?_replicate]; intro h; split at h <;> simp at h)
  refine wpAny_of (P := P) (ops := ops) (Q := Wk cx ks) (St cx) σ.get (fun j => (s.getD j ([], [])).2) (fun j => (s.getD j ([], [])).1) (fun j => (ancsOf ops.toList []).getD j []) ?_ ?_ ?_ ?_ ?_ ops.size _ a _ (by simp) ?_ ?_ (by rw [hgl0]; exact hst0)
  · intro i hi k hk
    have := List.all_eq_true.1 (List.all_eq_true.1 c1 i (List.mem_range.2 hi)) k hk
    simpa using this
  · intro i hi k hk
    have := List.all_eq_true.1 (List.all_eq_true.1 c2 i (List.mem_range.2 hi)) k hk
    obtain ⟨m, hm1, hm2⟩ := List.any_eq_true.1 this
    refine ⟨m, hm1, ?_⟩
    simp only [Bool.or_eq_true, beq_iff_eq, List.contains_iff_mem] at hm2
    exact hm2
  · intro i j hij hj
    have := List.all_eq_true.1 (List.all_eq_true.1 c3 j (List.mem_range.2 hj)) i (List.mem_range.2 hij)
    simp only [Bool.or_eq_true, Bool.and_eq_true, List.contains_iff_mem] at this
    rw [hget i (by omega), hget j hj] at this
    rcases this with h1 | ⟨⟨h1, h2⟩, h3⟩
    · exact .inl h1
    · exact .inr ⟨apartL_iff h1, apartL_iff h2, apartL_iff h3⟩
  · intro i hi get a' w' hag hst' K hK
    have hi' : i < s.length := by omega
    have hstep := trace_at (cx := cx) ops.toList ops.toList s σ htr i (by simpa using hi) hi'
    rw [← hsz, GL_text s σ i (by omega)] at hag
    have hsi : s.getD i ([], []) = s[i] := by simp [List.getD_eq_getElem?_getD, hi']
    rw [hsi] at hag
    simp only [hsi] at hK ⊢
    have hb : Below ((finalF σ (s.take i)).only s[i].1) get := fun t => by
      by_cases ht : t ∈ s[i].1
      · left; simp only [Fr.only, if_pos ht]; exact (hag t ht).symm
      · right; simp only [Fr.only, if_neg ht]
    have ho : ops[i]? = some ops.toList[i] := by simp [hi]
    unfold wpOpIn
    rw [ho]
    simp only
    have hmem : ops.toList[i] ∈ ops.toList := List.getElem_mem _
    rcases hstep with ⟨hw, hp⟩ | ⟨hw, hp⟩
    · have hw' := want_sem hst' hb hw
      rw [hat] at hw'
      rw [hw', if_pos rfl]
      refine wpIn_of_wp (pOper_nodefer hp) (Oper.wp_mono ?_ (oper_st hE hst' hb (hd _ hmem) hp (Q := Wk cx ks)))
      rintro a'' w'' ⟨pt, rfl, hst''⟩
      exact hK a'' w'' hst''
    · have hw' := want_sem hst' hb hw
      rw [hat] at hw'
      rw [hw', if_neg (by simp)]
      refine ⟨fun f _ => trivial, hK _ _ ?_⟩
      rw [hp]
      exact skip_st hst' (hd _ hmem)
  · intro a' w' hst'
    have : GL ops.size (fun j => (s.getD j ([], [])).2) (fun _ => true) σ.get = (finalF σ s).get := by
      have h1 := GL_text s σ s.length (Nat.le_refl _)
      rw [List.take_length, hsz] at h1
      rw [← h1]
      funext t
      exact GL_agree (fun j hj hne => absurd hj (by intro hj; simp [hj] at hne))
    rw [this] at hst'
    exact hks _ hfin a' w' hst'
  · unfold left
    rw [List.filter_eq_self.2 (fun i hi => by
      have := List.mem_range.1 hi
      simp [Array.getD_eq_getD_getElem?, Array.getElem?_replicate, this])]
    simp
  · intro i hi hl
    simp [Array.getD_eq_getD_getElem?, Array.getElem?_replicate, hi] at hl
end Go.Tv
