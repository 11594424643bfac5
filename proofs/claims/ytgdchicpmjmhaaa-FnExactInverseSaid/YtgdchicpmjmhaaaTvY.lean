/-
  A function's contract from its code; loops. Conditions: none; plain definitions and lemmas.
-/
import Derived.Test.YtgdchicpmjmhaaaTvW
namespace Go.Tv
set_option linter.unusedVariables false
set_option linter.unusedSimpArgs false
variable {P : Program}

/-! ### which slots the code writes -/
def okD (p : Tmp → Bool) : Code → Bool
  | .region _ ops _ => ops.toList.all fun o => match o.dst with | some d => p d | none => true
  | .seq a b => okD p a && okD p b
  | .cond _ a b => okD p a && okD p b
  | .block _ a => okD p a
  | .loop a => okD p a
  | _ => true
def okL (p : Tmp → Bool) (l : List Oper) : Bool := l.all fun o => match o.dst with | some d => p d | none => true
def okI (p : Tmp → Bool) : It → Bool
  | .code c => okD p c
  | .ops _ r => okL p r
  | .opsD all r _ => okL p r
  | _ => true
def okIs (p : Tmp → Bool) (ks : List It) : Bool := ks.all (okI p)

/-- what holds of a way through a function's code all along -/
structure CxOk (cx : Cx P) (p : Tmp → Bool) : Prop where
  env : cx.E.Ok P
  mix : P.follows .mixedOrders = true
  dst : ∀ d, p d = true → d < cx.n ∧ ∀ q ∈ cx.pins, q.1 ≠ d

theorem okL_dst {cx : Cx P} {p : Tmp → Bool} (h : CxOk cx p) {l : List Oper} (hl : okL p l = true) : ∀ o ∈ l, DstOk cx o.dst := fun o ho d hd => by
  have := List.all_eq_true.1 hl o ho
  rw [hd] at this
  exact h.dst d this

theorem exitIt_ok {p : Tmp → Bool} {id : Nat} : ∀ {ks r : List It}, exitIt id ks = some r → okIs p ks = true → okIs p r = true
  | [], r, h, _ => by cases h
  | i :: l, r, h, hk => by
    simp only [okIs, List.all_cons, Bool.and_eq_true] at hk
    cases i with
    | blk i =>
      simp only [exitIt] at h
      split at h
      · simp only [Option.some.injEq] at h; subst h; exact hk.2
      · exact exitIt_ok h hk.2
    | _ => exact exitIt_ok (ks := l) (by simpa [exitIt] using h) hk.2

theorem pI_sound {cx : Cx P} {p : Tmp → Bool} (hc : CxOk cx p) : ∀ (N : Nat) (ks : List It) (σ : Fr), isSz ks ≤ N → okIs p ks = true → pI cx ks σ → Sem' cx ks σ := by
  intro N
  induction N with
  | zero =>
    intro ks σ hN hok h
    cases ks with
    | nil => rw [pI] at h; exact fun a w hst => ⟨σ, h, hst⟩
    | cons i ks => cases i <;> simp at hN; rename_i c; cases c <;> simp at hN
  | succ N ih =>
    intro ks σ hN hok h
    cases ks with
    | nil => rw [pI] at h; exact fun a w hst => ⟨σ, h, hst⟩
    | cons i ks =>
      have hokr : okIs p ks = true := by simp only [okIs, List.all_cons, Bool.and_eq_true] at hok; exact hok.2
      have hoki : okI p i = true := by simp only [okIs, List.all_cons, Bool.and_eq_true] at hok; exact hok.1
      cases i with
      | blk id =>
        rw [pI] at h
        exact fun a w hst => ih ks σ (by simp at hN; omega) hokr h a w hst
      | rnd J =>
        rw [pI] at h
        exact fun a w hst => ⟨σ, h, hst⟩
      | ops all r =>
        exact fun a w hst => ops_sound hc.env all ks (fun σ' h' => ih ks σ' (by simp at hN; omega) hokr h') r σ (okL_dst hc hoki) h a w hst
      | opsD all r acc => exact fun a w hst => trivial
      | code c =>
        have hrest : ∀ σ', pI cx ks σ' → Sem' cx ks σ' := fun σ' h' => ih ks σ' (by simp at hN; cases c <;> simp at hN <;> omega) hokr h'
        cases c with
        | skip => rw [pI] at h; exact fun a w hst => wpIn_skip (hrest σ h a w hst)
        | seq x y =>
          rw [pI] at h
          simp only [okI, okD, Bool.and_eq_true] at hoki
          have := ih (.code x :: .code y :: ks) σ (by simp at hN ⊢; omega) (by simp only [okIs, List.all_cons, Bool.and_eq_true, okI]; exact ⟨hoki.1, hoki.2, hokr⟩) h
          exact fun a w hst => wpIn_seq (wpIn_mono (this a w hst) (fun e a w => Wk_then))
        | block id c =>
          rw [pI] at h
          have := ih (.code c :: .blk id :: ks) σ (by simp at hN ⊢; omega) (by simp only [okIs, List.all_cons, Bool.and_eq_true, okI]; exact ⟨hoki, trivial, hokr⟩) h
          exact fun a w hst => wpIn_block (wpIn_mono (this a w hst) (fun e a w => Wk_blk))
        | exit id =>
          rw [pI] at h
          split at h
          · rename_i r hr
            have := ih r σ (by have := exitIt_sz hr; simp at hN; omega) (exitIt_ok hr hokr) h
            exact fun a w hst => wpIn_exit (Wk_exit hr (this a w hst))
          · exact h.elim
        | ret => rw [pI] at h; exact fun a w hst => wpIn_ret (Wk_ret.2 ⟨σ, h, hst⟩)
        | cond c x y =>
          rw [pI] at h
          simp only [okI, okD, Bool.and_eq_true] at hoki
          split at h
          · rename_i b hb
            intro a w hst
            obtain ⟨⟨mks, _, S, fp, hs⟩, _⟩ := id hst
            refine wpIn_cond (t := b) (bool_eval hs (below_refl _) hb) ?_
            cases b with
            | true => exact ih (.code x :: ks) σ (by simp at hN ⊢; omega) (by simp only [okIs, List.all_cons, Bool.and_eq_true, okI]; exact ⟨hoki.1, hokr⟩) (h.1 rfl) a w hst
            | false => exact ih (.code y :: ks) σ (by simp at hN ⊢; omega) (by simp only [okIs, List.all_cons, Bool.and_eq_true, okI]; exact ⟨hoki.2, hokr⟩) (h.2 rfl) a w hst
          · exact h.elim
        | region id ops draw =>
          rw [pI] at h
          cases draw with
          | true =>
            rw [if_pos rfl] at h
            exact region_draw_sound hc.env hc.mix id ops ks hrest σ (okL_dst hc hoki) h
          | false =>
            rw [if_neg (by simp)] at h
            intro a w hst
            refine wpIn_region_list ?_
            have := ops_sound hc.env ops.toList ks hrest ops.toList σ (okL_dst hc hoki) h a w hst
            simpa using this
        | loop c => rw [pI] at h; exact h; all_goals simp
        | rangeFunc f ps x y => rw [pI] at h; exact h; all_goals simp
        | scope c => rw [pI] at h; exact h; all_goals simp
        | label l => rw [pI] at h; exact h; all_goals simp
        | goto l => rw [pI] at h; exact h; all_goals simp
        | refuse s => rw [pI] at h; exact h; all_goals simp

/-! ### what is true of every datum that a slot holds -/
def Wf : (t : Ty) → t.den → Prop
  | .int k, x => k.wrap x = x
  | .str, x => x.length ≤ maxLen
  | .prod a b, x => Wf a x.1 ∧ Wf b x.2
  | .slice t, xs => (xs : List t.den).length ≤ maxLen ∧ ∀ x ∈ (xs : List t.den), Wf t x
  | .own _ t, xs => (xs : List t.den).length ≤ maxLen ∧ ∀ x ∈ (xs : List t.den), Wf t x
  | .cellp t, x => Wf t x
  | .arr _ t, xs => ∀ x ∈ (xs : List t.den), Wf t x
  | _, _ => True
theorem rep_wf : ∀ (t : Ty) {w : World} {S F : BS} {x : t.den} {cs : List Value}, Rep P t w S F x cs → Wf t x := by
  intro t
  induction t with
  | int k => intro w S F x cs h; exact h.2
  | str => intro w S F x cs h; exact h.2
  | prod a b iha ihb =>
    intro w S F x cs h
    obtain ⟨c1, c2, F1, F2, rfl, h1, h2, _⟩ := h
    exact ⟨iha h1, ihb h2⟩
  | slice t ih =>
    intro w S F x cs h
    obtain ⟨A, c, rfl, h1, h2, h3⟩ := h
    refine ⟨Nat.le_trans h1 h2, fun y hy => ?_⟩
    obtain ⟨i, hi, rfl⟩ := List.getElem_of_mem hy
    obtain ⟨g, o, _, _, he⟩ := h3 (fun hn => by have hi' : i < (x : List t.den).length := hi; rw [hn] at hi'; exact absurd hi' (Nat.not_lt_zero _))
    obtain ⟨ci, hr, _⟩ := he i hi
    exact ih hr
  | own e t ih =>
    intro w S F x cs h
    rcases h with ⟨_, hx⟩ | ⟨g, cap, cur, rfl, hg, hh, h1, h2, h3, Fs, hFs, hng, hdd, he⟩
    · have hx' : x = ([] : List t.den) := hx
      subst hx'
      exact ⟨Nat.zero_le _, fun y hy => by cases hy⟩
    · refine ⟨Nat.le_trans h1 h2, fun y hy => ?_⟩
      obtain ⟨i, hi, rfl⟩ := List.getElem_of_mem hy
      exact ih (he i hi)
  | cellp t ih =>
    intro w S F x cs h
    obtain ⟨g, o, ci, rfl, _, hr, _⟩ := h
    exact ih hr
  | arr n t ih =>
    intro w S F x cs h y hy
    obtain ⟨i, hi, rfl⟩ := List.getElem_of_mem hy
    obtain ⟨h1, h2, Fs, _, _, he⟩ := h
    exact ih (he i hi)
  | bool => intro w S F x cs h; trivial
  | unit => intro w S F x cs h; trivial
  | err => intro w S F x cs h; trivial
  | hole => intro w S F x cs h; trivial
  | stat f => intro w S F x cs h; trivial
  | fn a r _ _ => intro w S F x cs h; trivial
  | iter lv t _ => intro w S F x cs h; trivial
def slotWf : Slot → Prop
  | .val v => Wf v.t v.x
  | .box v => Wf v.t v.x
  | _ => True
theorem srep_wf {w : World} {S F : BS} {get : Rd} {tmps : Array Value} {s : Slot} {u : Value} (h : SRep P w S F get tmps s u) : slotWf s := by
  cases s with
  | val v => obtain ⟨cs, _, hr⟩ := h; exact rep_wf _ hr
  | box v => obtain ⟨g, cs, e, F', _, _, _, hr, _⟩ := h; exact rep_wf _ hr
  | _ => trivial
/-- of every slot -/
def FrWf (σ : Fr) : Prop := ∀ t, slotWf (σ.get t).1
theorem sim_wf {ro : Option Nat} {n : Nat} {w0 : World} {S0 F0 : BS} {σ : Fr} {a : Act} {w : World} (h : SimE P ro n w0 S0 F0 σ.get a w) : FrWf σ := by
  obtain ⟨_, _, S, fp, h⟩ := h
  exact fun t => srep_wf (h.slot t)

/-! ### loops -/
def SlotFits : Slot → Slot → Prop
  | _, .undef => True
  | .val v, .val v' => coe v.t v'.t v.x = some v'.x
  | .box v, .box v' => coe v.t v'.t v.x = some v'.x
  | .nil, .val v' => nilV (some v'.t) = some v'
  | _, _ => False
def Fits (σ : Fr) : Fr → Prop
  | [] => True
  | (t, e) :: r => SlotFits (σ.get t).1 e.1 ∧ Fits σ r

theorem coe_v' {v v' : V} (h : coe v.t v'.t v.x = some v'.x) : v = v' := by
  obtain ⟨t', y⟩ := v'
  exact coe_v h
theorem fits_at {σ : Fr} : ∀ {τ : Fr}, Fits σ τ → ∀ t, (τ.get t).1 = .undef ∨ SlotFits (σ.get t).1 (τ.get t).1
  | [], _, t => .inl rfl
  | (k, e) :: r, h, t => by
    simp only [Fr.get]
    by_cases ht : t = k
    · subst ht; rw [if_pos rfl]; exact .inr h.1
    · rw [if_neg ht]; exact fits_at h.2 t
theorem srep_fits {w : World} {S F : BS} {get get' : Rd} {tmps tmps' : Array Value} {s s' : Slot} {u : Value} (h : SRep P w S F get tmps s u) (hf : SlotFits s s') : SRep P w S F get' tmps' s' u := by
  cases s' with
  | undef => trivial
  | val v' =>
    cases s with
    | val v => rw [← coe_v' hf]; exact srep_solo_ctx rfl h
    | nil =>
      obtain ⟨cs, hu, hr⟩ := nilV_rep (P := P) (show nilV (some v'.t) = some v' from hf) w S
      exact ⟨cs, (show u = .slice none 0 0 from h).trans hu, rep_mono _ hr (BS.sub_refl _) (BS.bot_sub _)⟩
    | _ => exact hf.elim
  | box v' =>
    cases s with
    | box v => rw [← coe_v' hf]; exact srep_solo_ctx rfl h
    | _ => exact hf.elim
  | _ => cases s <;> exact hf.elim
theorem sim_fits {ro : Option Nat} {n : Nat} {w0 : World} {S0 F0 : BS} {σ τ : Fr} {a : Act} {w : World} (h : SimE P ro n w0 S0 F0 σ.get a w) (hf : Fits σ τ) : SimE P ro n w0 S0 F0 τ.get a w := by
  obtain ⟨mks, hmk, S, fp, h⟩ := h
  refine ⟨mks, hmk, S, fp, h.defers, h.size, fun t => ?_, h.apart, h.sapart, h.fpb, h.sb, h.kp, h.marks⟩
  rcases fits_at hf t with he | he
  · rw [he]; trivial
  · exact srep_fits (h.slot t) he

/-- A LOOP: what its slots hold (fr), of which data (ok), and what grows less (μ). -/
theorem sem_loop {cx : Cx P} {p : Tmp → Bool} (hc : CxOk cx p) {c : Code} {ks : List It} {σ : Fr} (hok : okIs p (.code c :: ks) = true) {α : Type} (fr : α → Fr) (ok : α → Prop) (μ : α → Nat) (x0 : α) (hfit : Fits σ (fr x0)) (h0 : ok x0)
    (round : ∀ x, ok x → FrWf (fr x) → pI cx (.code c :: .rnd (fun σ' => ∃ x', Fits σ' (fr x') ∧ ok x' ∧ μ x' < μ x) :: ks) (fr x)) : Sem' cx (.code (.loop c) :: ks) σ := by
  intro a w hst
  refine wpIn_loop_ghost (fun k a w => ∃ x, ok x ∧ μ x = k ∧ St cx (fr x).get a w) (μ x0) ⟨x0, h0, rfl, sim_fits hst.1 hfit, hst.2⟩ ?_
  rintro k a w ⟨x, hx, rfl, hst⟩
  have hok' : okIs p (.code c :: .rnd (fun σ' => ∃ x', Fits σ' (fr x') ∧ ok x' ∧ μ x' < μ x) :: ks) = true := by
    simp only [okIs, List.all_cons, Bool.and_eq_true, okI] at hok ⊢
    exact ⟨hok.1, trivial, hok.2⟩
  have h := pI_sound hc _ _ _ (Nat.le_refl _) hok' (round x hx (sim_wf hst.1)) a w hst
  refine wpIn_mono h ?_
  intro e a' w' hw
  cases e with
  | normal =>
    obtain ⟨σ', ⟨x', hf, ho, hlt⟩, hst'⟩ := hw
    exact ⟨μ x', hlt, x', ho, rfl, sim_fits hst'.1 hf, hst'.2⟩
  | exit id => exact hw
  | ret => exact Wk_ret.2 (Wk_ret.1 hw)
  | goto l => exact hw.elim
  | panic ch => exact hw.elim
  | outgrown => exact hw.elim

/-- A WAY TOGETHER: behind this point only these slots count. -/
theorem pI_cut {cx : Cx P} {ks : List It} {σ : Fr} (τ : Fr) (hfit : Fits σ τ) (h : FrWf τ → Sem' cx ks τ) : Sem' cx ks σ := fun a w hst => h (sim_wf (sim_fits hst.1 hfit)) a w ⟨sim_fits hst.1 hfit, hst.2⟩
end Go.Tv
