/-
  A function's contract from its code. Conditions: none; plain definitions and lemmas.
-/
import Derived.Test.YtgdchicpmjmhaaaTvY
import Derived.RangeFuncLeaves
namespace Go.Tv
set_option linter.unusedVariables false
set_option linter.unusedSimpArgs false
variable {P : Program}

/-! ### what comes back -/
/-- a datum as it is, or shared for good -/
def valFit (u v : V) : Prop := match coe u.t v.t u.x with | some x => x = v.x | none => coe u.frz.t v.t u.frz.x = some v.x
def slotFit : Slot → V → Prop
  | .val u, v => valFit u v
  | .nil, v => nilV (some v.t) = some v
  | _, _ => False
def resFit1 (P : Program) (σ : Fr) : ResultVar → V → Prop
  | .tmp t, v => slotFit (σ.get t).1 v
  | .cell a ty, v => match (σ.get a).1 with
    | .box u => pSize P ty = some u.t.sz ∧ pRow P ty = some u.t.isAg ∧ valFit u v
    | _ => False
def resFits (P : Program) (σ : Fr) : List ResultVar → List V → Prop
  | [], [] => True
  | r :: rs, v :: vs => resFit1 P σ r v ∧ resFits P σ rs vs
  | _, _ => False
def rSlot : ResultVar → Tmp
  | .tmp t => t
  | .cell a _ => a
def outFits (σ : Fr) : Nat → List Mode → List V → Prop
  | i, .io :: ms, o :: os => SlotFits (σ.get i).1 (.val o) ∧ outFits σ (i + 1) ms os
  | i, .p :: ms, o :: os => SlotFits (σ.get i).1 (.box o) ∧ outFits σ (i + 1) ms os
  | i, _ :: ms, _ :: os => outFits σ (i + 1) ms os
  | _, _, _ => True
/-- how a function may end -/
def FinOk (P : Program) (rs : List ResultVar) (ms : List Mode) (outs res : List V) (σ : Fr) : Prop := resFits P σ rs res ∧ outFits σ 0 ms outs

/-! ### how it begins -/
def initF : Nat → List Mode → List V → Fr
  | i, m :: ms, a :: as' => (i, argSlot m a, 0, 0) :: initF (i + 1) ms as'
  | _, _, _ => []
def pinK : Nat → List Mode → List Tmp
  | i, .io :: ms => i :: pinK (i + 1) ms
  | i, .p :: ms => i :: pinK (i + 1) ms
  | i, _ :: ms => pinK (i + 1) ms
  | _, [] => []
def dstP (n : Nat) (pk : List Tmp) : Tmp → Bool := fun d => decide (d < n) && !pk.contains d

theorem initF_get : ∀ (ms : List Mode) (args : List V) (i t : Nat), ms.length = args.length → ((initF i ms args).get t).1 = (if h : i ≤ t ∧ t - i < args.length then argSlot (ms.getD (t - i) .v) (args[t - i]'h.2) else .undef)
  | [], [], i, t, _ => by simp [initF, Fr.get]
  | [], _ :: _, i, t, h => by simp at h
  | _ :: _, [], i, t, h => by simp at h
  | m :: ms, a :: args, i, t, h => by
    simp only [initF, Fr.get]
    by_cases ht : t = i
    · subst ht; simp
    · rw [if_neg ht, initF_get ms args (i + 1) t (by simpa using h)]
      by_cases hi : i + 1 ≤ t ∧ t - (i + 1) < args.length
      · have h2 : i ≤ t ∧ t - i < (a :: args).length := ⟨by omega, by simp; omega⟩
        rw [dif_pos hi, dif_pos h2]
        have e : t - i = (t - (i + 1)) + 1 := by omega
        simp only [e, List.getD_cons_succ, List.getElem_cons_succ]
      · rw [dif_neg hi, dif_neg]
        rintro ⟨h1, h2⟩
        exact hi ⟨by omega, by simp at h2; omega⟩

theorem pinK_mem : ∀ (ms : List Mode) (i j : Nat), j < ms.length → (ms.getD j .v = .io ∨ ms.getD j .v = .p) → i + j ∈ pinK i ms
  | [], i, j, h, _ => absurd h (Nat.not_lt_zero _)
  | m :: ms, i, 0, _, h => by
    rcases h with h | h
    · have : m = .io := by simpa using h
      subst this; simp [pinK]
    · have : m = .p := by simpa using h
      subst this; simp [pinK]
  | m :: ms, i, j + 1, h, hm => by
    have := pinK_mem ms (i + 1) j (by simpa using h) (by simpa using hm)
    rw [show i + 1 + j = i + (j + 1) from by omega] at this
    cases m <;> simp [pinK, this]

theorem outFits_at {σ : Fr} : ∀ (ms : List Mode) (outs : List V) (i j : Nat) (o : V), outFits σ i ms outs → outs[j]? = some o → (ms.getD j .v = .io → SlotFits (σ.get (i + j)).1 (.val o)) ∧ (ms.getD j .v = .p → SlotFits (σ.get (i + j)).1 (.box o))
  | [], outs, i, j, o, h, ho => by simp
  | m :: ms, [], i, j, o, h, ho => by simp at ho
  | m :: ms, o' :: outs, i, 0, o, h, ho => by
    simp only [List.getElem?_cons_zero, Option.some.injEq] at ho
    subst ho
    constructor
    · intro hm
      have : m = .io := by simpa using hm
      subst this; exact h.1
    · intro hm
      have : m = .p := by simpa using hm
      subst this; exact h.1
  | m :: ms, o' :: outs, i, j + 1, o, h, ho => by
    have h' : outFits σ (i + 1) ms outs := by cases m <;> first | exact h.2 | exact h
    have := outFits_at ms outs (i + 1) j o h' (by simpa using ho)
    rw [show i + 1 + j = i + (j + 1) from by omega] at this
    simpa using this

theorem valFit_rep {u v : V} {w : World} {S F : BS} {cs : List Value} (h : valFit u v) (hr : Rep P u.t w S F u.x cs) : ∃ Sx G, BS.sub Sx F ∧ BS.sub G F ∧ BS.dis Sx G ∧ u.t.toV cs = v.t.toV cs ∧ Rep P v.t w (BS.un S Sx) G v.x cs := by
  unfold valFit at h
  split at h
  · rename_i x hx
    subst h
    have := coe_v' hx
    subst this
    exact ⟨BS.bot, F, BS.bot_sub _, BS.sub_refl _, BS.bot_dis _, rfl, rep_mono _ hr (fun g hg => .inl hg) (BS.sub_refl _)⟩
  · have := coe_v' h
    subst this
    exact ⟨F, BS.bot, BS.sub_refl _, BS.bot_sub _, BS.dis_bot _, (frz_toV u cs).symm, frz_rep hr⟩

section
variable {n : Sz} {w0 : World} {S0 F0 : BS} {σ : Fr} {a : Act} {w : World} {S : BS} {fp : Tmp → BS}

/-- what the machine hands back for one result -/
def resRun (P : Program) (tmps : Array Value) (r : ResultVar) : Sem Value := match r with
  | .tmp t => pure (tmps.getD t undef)
  | .cell a t => do loadVar t (← asAddr (tmps.getD a undef))

theorem res1_ok (h : SimX P n w0 S0 F0 σ.get a w S fp) {r : ResultVar} {v : V} (hr : resFit1 P σ r v) : ∃ u cs Sx G, (resRun P a.tmps r).run P w = .ok u w ∧ u = v.t.toV cs ∧ Rep P v.t w (BS.un S Sx) G v.x cs ∧ BS.sub Sx (fp (rSlot r)) ∧ BS.sub G (fp (rSlot r)) ∧ BS.dis Sx G := by
  cases r with
  | tmp t =>
    have hs := h.slot t
    simp only [resFit1] at hr
    cases hsl : (σ.get t).1 with
    | val u =>
      rw [hsl] at hr hs
      obtain ⟨cs, hu, hrep⟩ := hs
      obtain ⟨Sx, G, q1, q2, q3, q4, q5⟩ := valFit_rep (show valFit u v from hr) hrep
      exact ⟨_, cs, Sx, G, rfl, hu.trans q4, q5, q1, q2, q3⟩
    | nil =>
      rw [hsl] at hr hs
      obtain ⟨cs, hu, hrep⟩ := nilV_rep (P := P) (show nilV (some v.t) = some v from hr) w (BS.un S BS.bot)
      exact ⟨_, cs, BS.bot, BS.bot, rfl, (show a.tmps.getD t undef = .slice none 0 0 from hs).trans hu, hrep, BS.bot_sub _, BS.bot_sub _, BS.bot_dis _⟩
    | _ => rw [hsl] at hr; exact hr.elim
  | cell b ty =>
    have hs := h.slot b
    simp only [resFit1] at hr
    cases hsl : (σ.get b).1 with
    | box u =>
      rw [hsl] at hr hs
      obtain ⟨hsz, hrow, hfit⟩ := (show pSize P ty = some u.t.sz ∧ pRow P ty = some u.t.isAg ∧ valFit u v from hr)
      obtain ⟨g, cs, e, F', hu, hh, hg, hrep, hsub, hn⟩ := hs
      obtain ⟨Sx, G, q1, q2, q3, q4, q5⟩ := valFit_rep hfit hrep
      have hl := rep_len _ hrep
      have hc : CellsAt w g 0 cs := by
        have := cellsAt_row (w := w) (n := cs.length) (a := 0) hh
        simpa using this
      have hrun := run_loadAt' (P := P) (t := ty) hc hl hsz hrow
      refine ⟨u.t.toV cs, cs, Sx, G, ?_, q4, q5, q1.trans hsub, q2.trans hsub, q3⟩
      simp only [resRun]
      rw [hu]
      simpa [Instr.loadAt, Instr.sureAddr, asAddr] using hrun
    | _ => rw [hsl] at hr; exact hr.elim

theorem resAll_ok (h : SimX P n w0 S0 F0 σ.get a w S fp) : ∀ {rs : List ResultVar} {vs : List V}, resFits P σ rs vs → (rs.map rSlot).Nodup →
    ∃ us Sx G, (rs.mapM (resRun P a.tmps)).run P w = .ok us w ∧ RepT P w (BS.un S Sx) G (vs.map some) us ∧ (∀ g, Sx g ∨ G g → ∃ t ∈ rs.map rSlot, fp t g) ∧ BS.dis Sx G
  | [], [], _, _ => ⟨[], BS.bot, BS.bot, by simp, rfl, fun g hg => (hg.elim id id).elim, BS.bot_dis _⟩
  | [], _ :: _, hf, _ => hf.elim
  | _ :: _, [], hf, _ => hf.elim
  | r :: rs, v :: vs, hf, hn => by
    simp only [List.map_cons, List.nodup_cons] at hn
    obtain ⟨u, cs, Sx1, G1, hrun1, hu, hrep, hS1, hG1, hd1⟩ := res1_ok h hf.1
    obtain ⟨us, Sx, G, hrun, hreps, hin, hd⟩ := resAll_ok h hf.2 hn.2
    have cross : ∀ g, fp (rSlot r) g → (Sx g ∨ G g) → False := fun g h1 h2 => by
      obtain ⟨t, ht, hft⟩ := hin g h2
      exact h.apart (rSlot r) t (fun e => hn.1 (e ▸ ht)) g h1 hft
    refine ⟨u :: us, BS.un Sx1 Sx, BS.un G1 G, ?_, ⟨u, us, cs, G1, G, rfl, hu, rep_mono _ hrep (fun g hg => hg.imp id .inl) (BS.sub_refl _), repT_mono _ hreps (fun g hg => hg.imp id .inr) (BS.sub_refl _), fun g h1 h2 => cross g (hG1 g h1) (.inr h2), fun g hg => .inl hg, fun g hg => .inr hg⟩, ?_, ?_⟩
    · simp [List.mapM_cons, hrun1, hrun]
    · rintro g ((hg | hg) | (hg | hg))
      · exact ⟨rSlot r, List.mem_cons_self, hS1 g hg⟩
      · obtain ⟨t, ht, hf⟩ := hin g (.inl hg); exact ⟨t, List.mem_cons_of_mem _ ht, hf⟩
      · exact ⟨rSlot r, List.mem_cons_self, hG1 g hg⟩
      · obtain ⟨t, ht, hf⟩ := hin g (.inr hg); exact ⟨t, List.mem_cons_of_mem _ ht, hf⟩
    · rintro g (h1 | h1) (h2 | h2)
      · exact hd1 g h1 h2
      · exact cross g (hS1 g h1) (.inr h2)
      · exact cross g (hG1 g h2) (.inl h1)
      · exact hd g h1 h2
end

theorem repT_res {w : World} {S F : BS} {get : Rd} {tmps : Array Value} : ∀ {vs : List V} {us : List Value}, RepT P w S F (vs.map some) us → SRep P w S F get tmps (resSlot vs) (if h : us.toArray.size = 1 then us.toArray[0] else .tuple us.toArray)
  | [], us, h => by
    have : us = [] := h
    subst this
    exact ⟨[], rfl, rfl⟩
  | [v], us, h => by
    obtain ⟨u, us', cs, F1, F2, rfl, hu, hr, h2, _, h1, _⟩ := h
    have : us' = [] := h2
    subst this
    exact ⟨cs, hu, rep_mono _ hr (BS.sub_refl _) h1⟩
  | v :: v' :: vs, us, h => by
    have hl : us.length = (v :: v' :: vs).length := by
      have : ∀ (l : List (Option V)) (us : List Value) (F : BS), RepT P w S F l us → us.length = l.length := by
        intro l
        induction l with
        | nil => intro us F h; rw [show us = [] from h]; rfl
        | cons o l ih =>
          intro us F h
          cases o with
          | none => obtain ⟨u, us', rfl, h⟩ := h; simp [ih us' F h]
          | some v => obtain ⟨u, us', cs, F1, F2, rfl, _, _, h, _⟩ := h; simp [ih us' F2 h]
      have := this _ us F h
      simpa using this
    have hne : ¬ us.toArray.size = 1 := by simp [hl]
    rw [dif_neg hne]
    exact ⟨us, rfl, h⟩

/-- on the way out: the marks are taken off, one by one -/
theorem leaves_marks {m : Nat} {w0 : World} {S0 F0 : BS} {get : Rd} {S : BS} {fp : Tmp → BS} {fn : Func} {tmps : Array Value} {R : Ending → World → Prop} : ∀ (mks : List Nat) {a : Act} {w : World}, SimX P ⟨m, mks⟩ w0 S0 F0 get a w S fp → a.tmps = tmps →
    (∀ a' w', a'.tmps = tmps → SimX P ⟨m, []⟩ w0 S0 F0 get a' w' S fp → ∃ v, (results fn tmps).run P w' = .ok v w' ∧ R (.returned v) w') → LeavesInM Fence.wide 0 P fn tmps R a.defers .returning w
  | [], a, w, h, ht, hk => by
    rw [h.defers]
    exact hk a w ht h
  | D :: mks, a, w, h, ht, hk => by
    rw [h.defers]
    obtain ⟨hD1, _⟩ := h.marks.2 D List.mem_cons_self
    refine ⟨by simp, .inl ⟨D, _, rfl, run_takeDeferred hD1, ?_⟩⟩
    have h' := sim_close h { a with defers := (Sz.mk m mks).dfs } rfl rfl
    exact leaves_marks mks h' ht hk

/-- A FUNCTION'S CONTRACT FROM ITS CODE. -/
theorem good_of_code {f : FuncId} {fn : Func} {c : Code} (hf : P.funcs[f]? = some fn) (hb : fn.body = some c) (hm : P.follows .mixedOrders = true) {E : Env} (hE : E.Ok P) {ms : List Mode} {args outs res : List V}
    (hlen : ms.length = args.length) (hn : args.length ≤ fn.ntmps) (hok : okD (dstP fn.ntmps (pinK 0 ms)) c = true) (hrs : ((fn.results.toList.map rSlot).all fun t => !(pinK 0 ms).contains t) = true) (hnd : (fn.results.toList.map rSlot).Nodup)
    (h : ∀ (cx : Cx P), cx.E = E → cx.n = fn.ntmps → cx.ro = none → cx.R = FinOk P fn.results.toList ms outs res → CxOk cx (dstP fn.ntmps (pinK 0 ms)) → FrWf (initF 0 ms args) → pI cx [.code c] (initF 0 ms args)) : Good P f ms args outs res := by
  intro w S Fs us hargs
  refine (callsIn_wide (n := 0)).1 (callsIn_of_wp_marks hf hb trivial ?_)
  let pins : List (Tmp × Value) := (pinK 0 ms).map fun i => (i, us.getD i undef)
  let cx : Cx P := ⟨E, fn.ntmps, none, w, S, fpN Fs, pins, FinOk P fn.results.toList ms outs res⟩
  have hcx : CxOk cx (dstP fn.ntmps (pinK 0 ms)) := by
    refine ⟨hE, hm, fun d hd => ?_⟩
    unfold dstP at hd
    simp only [Bool.and_eq_true, decide_eq_true_eq, Bool.not_eq_true'] at hd
    refine ⟨hd.1, fun q hq => ?_⟩
    obtain ⟨i, hi, rfl⟩ := List.mem_map.1 hq
    intro e
    have e' : i = d := e
    subst e'
    have := hd.2
    simp [hi] at this
  have husl : us.length = args.length := hargs.len
  have hword : ∀ t, (us.toArray ++ Array.replicate (fn.ntmps - us.toArray.size) undef).getD t undef = us.getD t undef := by
    intro t
    rw [Array.getD_eq_getD_getElem?, List.getD_eq_getElem?_getD, Array.getElem?_append]
    split
    · simp
    · rename_i hlt
      simp at hlt
      rw [List.getElem?_eq_none hlt, Array.getElem?_replicate]
      split <;> rfl
  have hst : St cx (initF 0 ms args).get { tmps := us.toArray ++ Array.replicate (fn.ntmps - us.toArray.size) undef, defers := [] } w := by
    refine ⟨⟨[], fun _ => rfl, S, fun t => if t < args.length then Fs t else BS.bot, rfl, ?_, ?_, ?_, ?_, ?_, ?_, Kp.refl _ _, List.nodup_nil, fun D hD => by cases hD⟩, ?_⟩
    · show _ = fn.ntmps
      simp [husl]; omega
    · intro t
      show SRep P w S _ _ _ _ ((us.toArray ++ Array.replicate (fn.ntmps - us.toArray.size) undef).getD t undef)
      rw [hword t, initF_get ms args 0 t hlen]
      by_cases ht : t < args.length
      · rw [dif_pos ⟨Nat.zero_le _, by simpa using ht⟩, if_pos ht]
        have := hargs.rep t ht
        simp only [Nat.sub_zero]
        exact srep_solo_ctx (argSlot_solo _ _) this
      · rw [dif_neg (by simpa using ht)]; trivial
    · intro t u htu
      by_cases h1 : t < args.length
      · by_cases h2 : u < args.length
        · simp only [if_pos h1, if_pos h2]; exact hargs.dis t u htu
        · simp only [if_neg h2]; exact BS.dis_bot _
      · simp only [if_neg h1]; exact BS.bot_dis _
    · intro t
      by_cases h1 : t < args.length
      · simp only [if_pos h1]; exact hargs.sdis t
      · simp only [if_neg h1]; exact BS.dis_bot _
    · intro t g hg
      by_cases h1 : t < args.length
      · simp only [if_pos h1] at hg; exact ⟨.inl ⟨t, hg⟩, hargs.fb t g hg⟩
      · simp only [if_neg h1] at hg; exact hg.elim
    · exact fun g hg => ⟨.inl hg, hargs.sb g hg⟩
    · intro q hq
      obtain ⟨i, _, rfl⟩ := List.mem_map.1 hq
      exact hword i
  have hpI := h cx rfl rfl rfl rfl hcx (sim_wf hst.1)
  have hsem := pI_sound hcx _ _ _ (Nat.le_refl _) (by simp [okIs, okI, hok]) hpI _ w hst
  refine wpIn_mono (show c.wpIn Fence.wide 0 P (Wk cx []) _ w from hsem) ?_
  intro e a' w' hw
  have hend : (∃ σ : Fr, cx.R σ ∧ St cx σ.get a' w') → LeavesInM Fence.wide 0 P fn a'.tmps (fun e w' => ∃ r, e = .returned r ∧ Ret P w w' S Fs ms outs us res r) a'.defers .returning w' := by
    rintro ⟨σ, ⟨hres, hout⟩, ⟨mks, _, S1, fp, hs⟩, hpin⟩
    refine leaves_marks mks hs rfl (fun a1 w' ht hs => ?_)
    have hpin : PinOk cx.pins a1 := fun q hq => by rw [ht]; exact hpin q hq
    rw [← ht]
    clear ht
    generalize a1 = a' at *
    clear a1
    show ∃ v, (results fn a'.tmps).run P w' = .ok v w' ∧ (∃ r, (Ending.returned v) = .returned r ∧ Ret P w w' S Fs ms outs us res r)
    obtain ⟨us', Sx, G, hrun, hreps, hin, hd⟩ := resAll_ok hs hres hnd
    have hrun' : (results fn a'.tmps).run P w' = .ok (if h : us'.toArray.size = 1 then us'.toArray[0] else .tuple us'.toArray) w' := by
      have hm1 : (fn.results.mapM (resRun P a'.tmps)).run P w' = .ok us'.toArray w' := by
        have : fn.results = fn.results.toList.toArray := by simp
        rw [this, List.mapM_toArray]
        simp [hrun]
      have hfun : results fn a'.tmps = (do let vs ← fn.results.mapM (resRun P a'.tmps); pure (if h : vs.size = 1 then vs[0] else .tuple vs)) := by
        unfold results
        congr
      rw [hfun, Sem.run_bind, hm1]
      rfl
    refine ⟨_, hrun', _, rfl, ?_⟩
    -- the slots of arguments that are handed back
    let Gs : Nat → BS := fun i => if i ∈ pinK 0 ms then fp i else BS.bot
    have hrsp : ∀ t ∈ fn.results.toList.map rSlot, t ∉ pinK 0 ms := fun t ht hm => by
      have := List.all_eq_true.1 hrs t ht
      simp [hm] at this
    have hGsub : ∀ g, Sx g ∨ G g → ∃ t, t ∉ pinK 0 ms ∧ fp t g := fun g hg => by
      obtain ⟨t, ht, hf⟩ := hin g hg
      exact ⟨t, hrsp t ht, hf⟩
    refine ⟨BS.un S1 Sx, Gs, G, hs.kp, ?_, ?_, ?_, ?_, ?_, ?_, ?_, ?_, repT_res hreps⟩
    · rintro g (hg | hg)
      · exact hs.sb g hg
      · obtain ⟨t, _, hf⟩ := hGsub g (.inl hg)
        have := hs.fpb t g hf
        exact ⟨.inr this.1, this.2⟩
    · intro i g hg
      simp only [Gs] at hg
      split at hg
      · exact hs.fpb i g hg
      · exact hg.elim
    · intro g hg
      obtain ⟨t, _, hf⟩ := hGsub g (.inr hg)
      exact hs.fpb t g hf
    · intro i j hij g h1 h2
      simp only [Gs] at h1 h2
      split at h1
      · split at h2
        · exact hs.apart i j hij g h1 h2
        · exact h2.elim
      · exact h1.elim
    · intro i g h1 h2
      simp only [Gs] at h1
      split at h1
      · rename_i hi
        obtain ⟨t, ht, hf⟩ := hGsub g (.inr h2)
        exact hs.apart i t (fun e => ht (e ▸ hi)) g h1 hf
      · exact h1.elim
    · rintro i g (h1 | h1) h2
      · simp only [Gs] at h2
        split at h2
        · exact hs.sapart i g h1 h2
        · exact h2.elim
      · simp only [Gs] at h2
        split at h2
        · rename_i hi
          obtain ⟨t, ht, hf⟩ := hGsub g (.inl h1)
          exact hs.apart i t (fun e => ht (e ▸ hi)) g h2 hf
        · exact h2.elim
    · rintro g (h1 | h1) h2
      · obtain ⟨t, _, hf⟩ := hGsub g (.inr h2)
        exact hs.sapart t g h1 hf
      · exact hd g h1 h2
    · intro i v hv hmode
      have hi : i < ms.length := by
        rcases Nat.lt_or_ge i ms.length with h | h
        · exact h
        · rw [List.getD_eq_getElem?_getD, List.getElem?_eq_none h] at hmode
          rcases hmode with h | h <;> cases h
      have hpi : i ∈ pinK 0 ms := by
        have := pinK_mem ms 0 i hi hmode
        rwa [Nat.zero_add] at this
      have hw : a'.tmps.getD i undef = us.getD i undef := hpin (i, us.getD i undef) (List.mem_map.2 ⟨i, hpi, rfl⟩)
      have hsl := hs.slot i
      rw [hw] at hsl
      have hof := outFits_at ms outs 0 i v hout hv
      rw [Nat.zero_add] at hof
      have hGi : Gs i = fp i := if_pos hpi
      rw [hGi]
      rcases hmode with hmo | hmo
      · rw [hmo]
        exact srep_mono (srep_fits hsl (hof.1 hmo)) (fun g hg => .inl hg) (BS.sub_refl _)
      · rw [hmo]
        exact srep_mono (srep_fits hsl (hof.2 hmo)) (fun g hg => .inl hg) (BS.sub_refl _)
  cases e with
  | normal => exact hend hw
  | ret => exact hend (Wk_ret.1 hw)
  | exit id => exact hw.elim
  | goto l => exact hw.elim
  | panic ch => exact hw.elim
  | outgrown => exact hw.elim
end Go.Tv
