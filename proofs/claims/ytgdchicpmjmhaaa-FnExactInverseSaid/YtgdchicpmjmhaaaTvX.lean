/-
  Function values: made, handed on, called. Conditions: none; plain definitions and lemmas.
-/
import Derived.Test.YtgdchicpmjmhaaaTvS
import Derived.Test.YtgdchicpmjmhaaaTvPx
namespace Go.Tv
set_option linter.unusedVariables false
set_option linter.unusedSimpArgs false
variable {P : Program}

section
variable {n : Sz} {w0 : World} {S0 F0 : BS} {get rd : Rd} {a : Act} {w : World} {S : BS} {fp : Tmp → BS}

/-! ### made -/
def pMakeFunc (L : Clos) (rd : Rd) (d : Tmp) (fn : Fn) (first caps : List Operand) (K : Patch → Prop) : Prop :=
  match fn, first with
  | .func f, [] => match lookC f L with
    | some c => match manyV rd (caps.map fun x => (false, none, x)) with
      | some (vs, pt) => match c.of vs with
        | some (pre, x) => noKey d pt = true ∧ pre ∧ K (pt ++ [(d, .val ⟨c.ty, x⟩, .new)])
        | none => False
      | none => False
    | none => False
  | _, _ => False

theorem makeFunc_sim (h : SimX P n w0 S0 F0 get a w S fp) (hb : Below rd get) {L : Clos} (hL : Clos.Ok P L) {d : Tmp} (hd : d < n.sz) {fn : Fn} {first caps : Array Operand} {o : Oper} (ho : o.op = .makeFunc fn first caps) (hod : o.dst = some d)
    {K : Patch → Prop} {Q : Exit → Act → World → Prop} (hp : pMakeFunc L rd d fn first.toList caps.toList K) : o.wp P a w (Nx P n w0 S0 F0 get K) Q := by
  unfold pMakeFunc at hp
  split at hp
  · rename_i f hfirst
    have hf0 : first = #[] := by apply Array.ext'; simpa using hfirst
    subst hf0
    split at hp
    · rename_i c hc
      split at hp
      · rename_i vs pt hm
        split at hp
        · rename_i pre x hmk
          obtain ⟨hnk, hpre, hK⟩ := hp
          have hco := lookC_ok hL hc
          obtain ⟨Sx, Fv, hmany, hbot⟩ := gotV_share_bot h hb hm
          have hFv : ∀ i, i < (caps.toList.map fun x => ((false, none, x) : Bool × Option Ty × Operand)).length → ∀ g, ¬ Fv i g := fun i hi =>
            hbot i _ (List.getElem?_eq_getElem hi) (by simp)
          have hus : ((caps.toList.map fun x => ((false, none, x) : Bool × Option Ty × Operand)).map fun q => a.eval q.2.2) = caps.toList.map a.eval := by rw [List.map_map]; rfl
          rw [hus] at hmany
          have hlen : vs.length = caps.toList.length := by rw [← hmany.len]; simp
          obtain ⟨b1, b2⟩ := many_bd h hmany
          have hrep := hco.2 vs pre x hmk hpre w (BS.un S Sx) (caps.toList.map a.eval) b2 hmany.len (fun i hi => by
            obtain ⟨cs, e1, e2⟩ := hmany.rep i hi
            refine ⟨cs, by rw [List.getD_eq_getElem?_getD, e1]; rfl, rep_mono _ e2 (BS.sub_refl _) (fun g hg => (hFv i (by simpa [hlen] using hi) g hg).elim)⟩)
          have hrun : (execOp a.eval o).run P w = .ok (.value (.func (.func f) #[] (caps.toList.map a.eval).toArray)) w := by
            unfold execOp
            have : caps.map a.eval = (caps.toList.map a.eval).toArray := by apply Array.ext'; simp
            simp [ho, Instr.makeFunc, this]
          refine wp_value hrun ⟨_, hK, ?_⟩
          rw [hod]
          refine sim_many h hmany d hd hnk _ (.val ⟨c.ty, x⟩) BS.bot BS.bot w BS.bot (Kp.refl _ _) (fun _ h => h.elim) (fun _ h => h.elim) (fun _ h => h.elim) (BS.dis_bot _) ⟨[.func (.func f) #[] (caps.toList.map a.eval).toArray], ?_, rep_mono _ hrep (fun g hg => hg.imp id .inl) (BS.sub_refl _)⟩
          show _ = c.ty.toV _
          unfold Ty.toV
          rw [hco.1]; rfl
        · exact hp.elim
      · exact hp.elim
    · exact hp.elim
  · exact hp.elim

/-! ### called -/
/-- arguments, as one datum -/
def packV : (t : Ty) → List V → Option t.den
  | .unit, [] => some ()
  | .prod a b, v :: vs => (coe v.t a v.x).bind fun x => (packV b vs).map fun y => (x, y)
  | _, _ => none
theorem pack_rep {w : World} {S : BS} : ∀ (t : Ty) (vs : List V) (us : List Value) (x : t.den), packV t vs = some x → us.length = vs.length →
    (∀ i (h : i < vs.length), ∃ cs, us.getD i undef = vs[i].t.toV cs ∧ Rep P vs[i].t w S BS.bot vs[i].x cs) → ∃ cs, argsOf t cs = us ∧ Rep P t w S BS.bot x cs := by
  intro t
  induction t with
  | unit =>
    intro vs us x hp hl hr
    cases vs with
    | nil => exact ⟨[], by simpa [argsOf] using (List.length_eq_zero_iff.1 hl).symm, rfl⟩
    | cons v vs => simp [packV] at hp
  | prod a b iha ihb =>
    intro vs us x hp hl hr
    cases vs with
    | nil => simp [packV] at hp
    | cons v vs =>
      cases us with
      | nil => simp at hl
      | cons u us =>
        simp only [packV, Option.bind_eq_some_iff, Option.map_eq_some_iff] at hp
        obtain ⟨x1, h1, x2, h2, rfl⟩ := hp
        obtain ⟨c1, e1, r1⟩ := hr 0 (by simp)
        simp only [List.getElem_cons_zero] at e1 r1
        rw [coe_v h1] at e1 r1
        obtain ⟨c2, e2, r2⟩ := ihb vs us x2 h2 (by simpa using hl) (fun i hi => hr (i + 1) (by simpa using hi))
        have hl1 := rep_len _ r1
        refine ⟨c1 ++ c2, ?_, c1, c2, BS.bot, BS.bot, rfl, r1, r2, BS.dis_bot _, BS.sub_refl _, BS.sub_refl _⟩
        simp only [argsOf]
        rw [List.take_left' hl1, List.drop_left' hl1, e2]
        have : u = a.toV c1 := by simpa using e1
        rw [this]
  | _ => intro vs us x hp hl hr; cases vs <;> simp [packV] at hp

def pCallFn (L : Clos) (rd : Rd) (d : Tmp) (j : Tmp) (args : List (Option Ty × Operand)) (K : Patch → Prop) : Prop :=
  match rd j with
  | (.val ⟨.fn t r, φ⟩, _, _) => match peekAll rd args with
    | some vs => match packV t (upAll L vs).2 with
      | some x => r.alone = true ∧ ((upAll L vs).1 ∧ φ.1 x) ∧ K [(d, .val ⟨r, φ.2 x⟩, .new)]
      | none => False
    | none => False
  | _ => False

theorem callFn_sim (h : SimX P n w0 S0 F0 get a w S fp) (hb : Below rd get) {L : Clos} (hL : Clos.Ok P L) {d : Tmp} (hd : d < n.sz) {j : Tmp} {args : Array Operand} {ats : Array TypeId} {hints : List (Option Ty)}
    {o : Oper} (ho : o.op = .call { callee := .value (.tmp j), args := args, argTypes := ats }) (hod : o.dst = some d) (hh : (hints.zip args.toList).map (·.2) = args.toList) {K : Patch → Prop} {Q : Exit → Act → World → Prop} (hp : pCallFn L rd d j (hints.zip args.toList) K) : o.wp P a w (Nx P n w0 S0 F0 get K) Q := by
  unfold pCallFn at hp
  split at hp
  · rename_i t r φ k1 k2 hx
    split at hp
    · rename_i vs hvs
      split at hp
      · rename_i x hpk
        obtain ⟨hal, ⟨hup, hpre⟩, hK⟩ := hp
        have hsl := rdO_rep (x := .tmp j) h hb hx (by simp)
        obtain ⟨cs, hu, f, first, caps, rfl, hB, hfn⟩ := hsl
        have hx' : a.eval (.tmp j) = .func (.func f) first caps := hu
        obtain ⟨h1, h2⟩ := peekAll_rep h hb hvs
        have hus : ((hints.zip args.toList).map fun q => a.eval q.2) = args.toList.map a.eval := map_snd_eval a hh
        rw [hus] at h1 h2
        have hSb : ∀ g, BS.un S (fpAll fp) g → g < w.heap.size := by
          rintro g (hg | ⟨t, hg⟩)
          · exact (h.sb g hg).2
          · exact (h.fpb t g hg).2
        obtain ⟨c1, e1, r1⟩ := pack_rep (P := P) (w := w) (S := BS.un S (fpAll fp)) t (upAll L vs).2 (args.toList.map a.eval) x hpk (by rw [upAll_len]; exact h1) (fun i hi => by
          have hi' : i < vs.length := by rw [← upAll_len L vs]; exact hi
          obtain ⟨q1, q2⟩ := upAll_get L vs i hi' hi
          obtain ⟨cs, p1, p2⟩ := h2 i hi'
          obtain ⟨r1, r2⟩ := upV_rep hL (q2 hup) hSb p2
          rw [q1]
          exact ⟨cs, by rw [p1, r1], r2⟩)
        have hcall := hfn w (KeepS.refl _ _) x hpre (BS.un S (fpAll fp)) c1 hSb r1
        have hrun := run_enter hB ho hx' w
        have hargs : first ++ args.map a.eval ++ caps = first ++ (argsOf t c1).toArray ++ caps := by
          rw [e1]
          congr 2
          apply Array.ext'; simp
        rw [hargs] at hrun
        unfold Oper.wp
        rw [hrun, Oper.upon_enter]
        refine hcall.mono ?_
        rintro e w' ⟨v, rfl, ⟨c, hv, hr⟩, hkp⟩
        refine ⟨_, hK, ?_⟩
        rw [hod]
        exact sim_dst h d hd v (.val ⟨r, φ.2 x⟩) BS.bot BS.bot w' hkp (fun _ h => h.elim) (fun _ h => h.elim) (BS.bot_dis _) ⟨c, hv, rep_alone _ hal hr⟩
      · exact hp.elim
    · exact hp.elim
  · exact hp.elim
end
end Go.Tv
