/-
  Calls by contract: what they do to the slots. Conditions: none; plain definitions and lemmas.
-/
import Derived.Test.YtgdchicpmjmhaaaTvP
namespace Go.Tv
set_option linter.unusedVariables false
set_option linter.unusedSimpArgs false
variable {P : Program}

theorem run_enter {f : FuncId} (hB : Bodied P f) {a : Act} {o : Oper} {x : Operand} {args : Array Operand} {ats : Array TypeId} {first caps : Array Value} (ho : o.op = .call { callee := .value x, args := args, argTypes := ats })
    (hx : a.eval x = .func (.func f) first caps) (w : World) : (execOp a.eval o).run P w = .ok (.enter f (first ++ args.map a.eval ++ caps)) w := by
  obtain ⟨fn, hf, hb, hn⟩ := hB
  unfold execOp
  have hb' : ¬ fn.body = none := by intro h; rw [h] at hb; cases hb
  simp [ho, resolve, invoke, hx, Deferred.ofValue, callFunc, hf, hb', hn]

theorem map_snd_eval {l : List (Option Ty × Operand)} {xs : List Operand} (a : Act) (h : l.map (·.2) = xs) : (l.map fun q => a.eval q.2) = xs.map a.eval := by
  rw [← h, List.map_map]; rfl

section
variable {n : Sz} {w0 : World} {S0 F0 : BS} {get rd : Rd} {a : Act} {w : World} {S : BS} {fp : Tmp → BS}

def peekAll (rd : Rd) : List (Option Ty × Operand) → Option (List V)
  | [] => some []
  | (h, x) :: r => (peekV rd h x).bind fun v => (peekAll rd r).map (v :: ·)

theorem peekAll_rep (h : SimX P n w0 S0 F0 get a w S fp) (hb : Below rd get) : ∀ {l : List (Option Ty × Operand)} {vs : List V}, peekAll rd l = some vs →
    (l.map fun q => a.eval q.2).length = vs.length ∧ ∀ i (hi : i < vs.length), ∃ cs, (l.map fun q => a.eval q.2).getD i undef = vs[i].t.toV cs ∧ Rep P vs[i].t w (BS.un S (fpAll fp)) BS.bot vs[i].x cs
  | [], vs, hp => by
    simp only [peekAll, Option.some.injEq] at hp
    subst hp
    exact ⟨rfl, fun i hi => absurd hi (Nat.not_lt_zero _)⟩
  | (ht, x) :: l, vs, hp => by
    simp only [peekAll, Option.bind_eq_some_iff, Option.map_eq_some_iff] at hp
    obtain ⟨v, hv, vs', hvs, rfl⟩ := hp
    obtain ⟨h1, h2⟩ := peekAll_rep h hb hvs
    refine ⟨by simpa using h1, fun i hi => ?_⟩
    cases i with
    | zero =>
      obtain ⟨cs, e1, e2⟩ := peek_rep h hb hv
      exact ⟨cs, by simpa using e1, e2⟩
    | succ i => simpa using h2 i (by simpa using hi)

/-- all arguments are only read, and what comes back shares nothing with them -/
def pCallB (c : Con) (rd : Rd) (d : Tmp) (args : List (Option Ty × Operand)) (K : Patch → Prop) : Prop :=
  match peekAll rd args with
  | some vs => match c.fn vs with
    | some (pre, _, res) => c.ms.all (· == .v) = true ∧ c.ms.length = vs.length ∧ res.all (fun v => v.t.alone) = true ∧ pre ∧ K [(d, resSlot res, .new)]
    | none => False
  | none => False

theorem getD_all_v {ms : List Mode} (h : ms.all (· == .v) = true) (i : Nat) : ms.getD i .v = .v := by
  rw [List.getD_eq_getElem?_getD]
  cases hi : ms[i]? with
  | none => rfl
  | some m =>
    have := List.all_eq_true.1 h m (List.mem_of_getElem? hi)
    simpa using this

theorem callB_sim (h : SimX P n w0 S0 F0 get a w S fp) (hb : Below rd get) {f : FuncId} {c : Con} (hc : c.Ok P f) {d : Tmp} (hd : d < n.sz) {x : Operand} {args : Array Operand} {ats : Array TypeId} {hints : List (Option Ty)} (hx : a.eval x = .func (.func f) #[] #[])
    {o : Oper} (ho : o.op = .call { callee := .value x, args := args, argTypes := ats }) (hod : o.dst = some d) (hh : (hints.zip args.toList).map (·.2) = args.toList) {K : Patch → Prop} {Q : Exit → Act → World → Prop} (hp : pCallB c rd d (hints.zip args.toList) K) : o.wp P a w (Nx P n w0 S0 F0 get K) Q := by
  unfold pCallB at hp
  split at hp
  · rename_i vs hvs
    split at hp
    · rename_i pre outs res hfn
      obtain ⟨hms, hml, hal, hpre, hK⟩ := hp
      obtain ⟨h1, h2⟩ := peekAll_rep h hb hvs
      have hus : ((hints.zip args.toList).map fun q => a.eval q.2) = args.toList.map a.eval := map_snd_eval a hh
      rw [hus] at h1 h2
      have hrun := run_enter hc.1 ho hx w
      have hargs : (#[] ++ args.map a.eval ++ #[] : Array Value) = (args.toList.map a.eval).toArray := by apply Array.ext'; simp
      rw [hargs] at hrun
      unfold Oper.wp
      rw [hrun, Oper.upon_enter]
      have hgood := hc.2 vs pre outs res hfn hpre
      refine (hgood w (BS.un S (fpAll fp)) (fun _ => BS.bot) (args.toList.map a.eval) ⟨h1, hml, fun i hi => ?_, fun _ _ _ => BS.dis_bot _, fun _ => BS.dis_bot _, fun _ _ hg => hg.elim, ?_⟩).mono ?_
      · rw [getD_all_v hms]
        obtain ⟨cs, e1, e2⟩ := h2 i hi
        exact ⟨cs, e1, e2⟩
      · rintro g (hg | ⟨t, hg⟩)
        · exact (h.sb g hg).2
        · exact (h.fpb t g hg).2
      · rintro e w' ⟨r, rfl, S', Gs, G, hkp, hS', hGs, hG, _, _, _, _, _, hr⟩
        refine ⟨_, hK, ?_⟩
        rw [hod]
        refine sim_dst h d hd r (resSlot res) G BS.bot w' (hkp.mono (fun g hg => by obtain ⟨i, hi⟩ := hg; exact hi)) (fun g hg => ?_) (fun _ hg => hg.elim) (BS.bot_dis _) ?_
        · obtain ⟨q1, q2⟩ := hG g hg
          exact ⟨q1.resolve_left (fun ⟨i, hi⟩ => hi), q2⟩
        · exact srep_solo_ctx (resSlot_solo _) (res_alone hal hr)
    · exact hp.elim
  · exact hp.elim

/-- arguments that are read, shared for good, or handed over -/
def pCallS (c : Con) (rd : Rd) (d : Tmp) (args : List (Option Ty × Operand)) (K : Patch → Prop) : Prop :=
  match manyV rd ((c.ms.zip args).map fun q => (q.1 == .t, q.2.1, q.2.2)) with
  | some (vs, pt) => match c.fn vs with
    | some (pre, _, res) => c.ms.all (fun m => m == .v || m == .t) = true ∧ c.ms.length = vs.length ∧ args.length = vs.length ∧ noKey d pt = true ∧ pre ∧ K (pt ++ [(d, resSlot res, .new)])
    | none => False
  | none => False

theorem gotV_share_bot : ∀ {l : List (Bool × Option Ty × Operand)} {vs : List V} {pt : Patch} (h : SimX P n w0 S0 F0 get a w S fp) (hb : Below rd get), manyV rd l = some (vs, pt) →
    ∃ Sx Fv, Many P get a w S fp (l.map fun q => a.eval q.2.2) vs pt Sx Fv ∧ ∀ i q, l[i]? = some q → q.1 = false → ∀ g, ¬ Fv i g
  | [], vs, pt, h, hb, hm => by
    simp only [manyV, Option.some.injEq, Prod.mk.injEq] at hm
    obtain ⟨rfl, rfl⟩ := hm
    exact ⟨_, _, many_nil, fun i q hq => by simp at hq⟩
  | (m, hint, x) :: l, vs, pt, h, hb, hm => by
    simp only [manyV, Option.bind_eq_some_iff] at hm
    obtain ⟨⟨v, pt1⟩, h1, ⟨vs2, pt2⟩, h2, hm⟩ := hm
    by_cases hk : keysApart pt1 pt2 = true
    · rw [if_pos hk] at hm
      simp only [Option.some.injEq, Prod.mk.injEq] at hm
      obtain ⟨rfl, rfl⟩ := hm
      obtain ⟨Sx2, Fv2, hm2, hF2⟩ := gotV_share_bot h hb h2
      have hka : ∀ e1 e2, e1 ∈ pt1 → e2 ∈ pt2 → e1.1 ≠ e2.1 := fun e1 e2 m1 m2 => by
        have := List.all_eq_true.1 (List.all_eq_true.1 hk e1 m1) e2 m2
        simpa using this
      cases m with
      | true =>
        obtain ⟨Fv1, Sx1, hg⟩ := got_got h hb h1
        refine ⟨_, _, many_cons h hg hm2 hka, fun i q hq hq1 => ?_⟩
        cases i with
        | zero => simp only [List.getElem?_cons_zero, Option.some.injEq] at hq; subst hq; cases hq1
        | succ i => exact hF2 i q (by simpa using hq) hq1
      | false =>
        obtain ⟨Sx1, hg⟩ := share_got h hb (show shareV rd hint x = some (v, pt1) by simpa [gotV] using h1)
        refine ⟨_, _, many_cons h hg hm2 hka, fun i q hq hq1 => ?_⟩
        cases i with
        | zero => exact fun g hg => hg
        | succ i => exact hF2 i q (by simpa using hq) hq1
    · rw [if_neg hk] at hm
      cases hm

theorem callS_sim (h : SimX P n w0 S0 F0 get a w S fp) (hb : Below rd get) {f : FuncId} {c : Con} (hc : c.Ok P f) {d : Tmp} (hd : d < n.sz) {x : Operand} {args : Array Operand} {ats : Array TypeId} {hints : List (Option Ty)} (hx : a.eval x = .func (.func f) #[] #[])
    {o : Oper} (ho : o.op = .call { callee := .value x, args := args, argTypes := ats }) (hod : o.dst = some d) (hh : (hints.zip args.toList).map (·.2) = args.toList) {K : Patch → Prop} {Q : Exit → Act → World → Prop} (hp : pCallS c rd d (hints.zip args.toList) K) : o.wp P a w (Nx P n w0 S0 F0 get K) Q := by
  unfold pCallS at hp
  split at hp
  · rename_i vs pt hm
    split at hp
    · rename_i pre outs res hfn
      obtain ⟨hms, hml, hal, hnk, hpre, hK⟩ := hp
      obtain ⟨Sx, Fv, hmany, hbot⟩ := gotV_share_bot h hb hm
      have hlen : (hints.zip args.toList).length = args.toList.length := by rw [← hh]; simp
      have hml2 : c.ms.length = (hints.zip args.toList).length := hml.trans hal.symm
      have hus : (((c.ms.zip (hints.zip args.toList)).map fun q => (q.1 == .t, q.2.1, q.2.2)).map fun q => a.eval q.2.2) = args.toList.map a.eval := by
        rw [List.map_map]
        have h1 : ((c.ms.zip (hints.zip args.toList)).map fun q => a.eval q.2.2) = ((c.ms.zip (hints.zip args.toList)).map (·.2)).map fun q => a.eval q.2 := by rw [List.map_map]; rfl
        have h2 : (c.ms.zip (hints.zip args.toList)).map (·.2) = hints.zip args.toList := List.map_snd_zip (by omega)
        show ((c.ms.zip (hints.zip args.toList)).map fun q => a.eval q.2.2) = _
        rw [h1, h2]; exact map_snd_eval a hh
      rw [hus] at hmany
      obtain ⟨b1, b2⟩ := many_bd h hmany
      have hrun := run_enter hc.1 ho hx w
      have hargs : (#[] ++ args.map a.eval ++ #[] : Array Value) = (args.toList.map a.eval).toArray := by apply Array.ext'; simp
      rw [hargs] at hrun
      unfold Oper.wp
      rw [hrun, Oper.upon_enter]
      have hgood := hc.2 vs pre outs res hfn hpre
      have hmode : ∀ i, i < vs.length → c.ms.getD i .v = .v ∨ c.ms.getD i .v = .t := fun i hi => by
        have hi' : i < c.ms.length := by rw [hml]; exact hi
        have := List.all_eq_true.1 hms c.ms[i] (List.getElem_mem hi')
        rw [List.getD_eq_getElem?_getD, List.getElem?_eq_getElem hi']
        simpa using this
      have hslot : ∀ i (hi : i < vs.length), argSlot (c.ms.getD i .v) vs[i] = .val vs[i] := fun i hi => by
        rcases hmode i hi with e | e <;> rw [e] <;> rfl
      refine (hgood w (BS.un S Sx) Fv (args.toList.map a.eval) ⟨hmany.len, hml, fun i hi => ?_, hmany.fvd, many_dis h hmany, b1, b2⟩).mono ?_
      · rw [hslot i hi]
        obtain ⟨cs, e1, e2⟩ := hmany.rep i hi
        refine ⟨cs, ?_, e2⟩
        rw [List.getD_eq_getElem?_getD, e1]; rfl
      · rintro e w' ⟨r, rfl, S', Gs, G, hkp, hS', hGs, hG, _, _, _, hSG, _, hr⟩
        refine ⟨_, hK, ?_⟩
        rw [hod]
        -- what is shared, and new, or was handed over
        have hcase : ∀ g, fpN Fv g → ∃ i, Fv i g := fun g hg => hg
        refine sim_many h hmany d hd hnk r (resSlot res) G (fun g => S' g ∧ ¬ BS.un S Sx g) w' (fpN Fv) hkp (fun g hg => hg) (fun g hg => ?_) (fun g hg => ?_) (fun g hg => hSG g hg.1) (srep_mono (srep_solo_ctx (resSlot_solo _) hr) (fun g hg => ?_) (BS.sub_refl _))
        · obtain ⟨q1, q2⟩ := hG g hg
          exact q1.imp id (fun q => ⟨q, q2⟩)
        · obtain ⟨q1, q2⟩ := hS' g hg.1
          exact (q1.resolve_left hg.2).imp id (fun q => ⟨q, q2⟩)
        · by_cases hx : BS.un S Sx g
          · exact hx.imp id .inl
          · exact .inr (.inr ⟨hg, hx⟩)
    · exact hp.elim
  · exact hp.elim
end
end Go.Tv
