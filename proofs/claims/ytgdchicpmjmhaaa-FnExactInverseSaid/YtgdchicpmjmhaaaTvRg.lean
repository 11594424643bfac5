/-
  A loop over a function: its law. Conditions: none; plain definitions and lemmas.
-/
import Derived.Test.YtgdchicpmjmhaaaTvRf
namespace Go.Tv
set_option linter.unusedVariables false
set_option linter.unusedSimpArgs false
variable {P : Program}

/-- what lies between two rounds -/
def LoopJ (P : Program) {α : Type} (n : Nat) (w : World) (S : BS) (fp : Tmp → BS) (d0 : Tmp) (D l : Nat) (aD : Act) (lo : Obj) (fr : α → Fr) (ok : α → Prop) (A : World) : Prop :=
  ∃ y S' fp', ok y ∧ SimX P ⟨n, [D]⟩ w S (fun g => ∃ t, fp t g) (fr y).get aD A S' fp' ∧ A.heap[l]? = some lo ∧ ¬ S' l ∧ (∀ t, ¬ fp' t l) ∧ (∀ g, fp d0 g → ¬ S' g ∧ ∀ t, ¬ fp' t g) ∧ S.sub S'

section
variable {α : Type} {n : Nat} {w : World} {S : BS} {fp : Tmp → BS} {d0 : Tmp} {D l : Nat} {aD : Act} {lo lo' : Obj} {fr : α → Fr} {ok : α → Prop} {A B : World}
theorem loopJ_kp (hfd : ∀ g, fp d0 g → g < w.heap.size) (hl : w.heap.size ≤ l) (hD : w.heap.size ≤ D) (h : LoopJ P n w S fp d0 D l aD lo fr ok A) (hk : Kp (fp d0) A B) : LoopJ P n w S fp d0 D l aD lo fr ok B := by
  obtain ⟨y, S', fp', h1, h2, h3, h4, h5, h6, h7⟩ := h
  refine ⟨y, S', fp', h1, sim_kept h2 hk (fun g hg _ => ⟨d0, hg⟩) (fun g hg => (h6 g hg).1) (fun t g hg => (h6 g hg).2 t) (fun D' hD' hg => ?_), ?_, h4, h5, h6, h7⟩
  · rw [List.mem_singleton] at hD'; subst hD'; have := hfd _ hg; omega
  · exact (hk.block l (Array.getElem?_eq_some_iff.1 h3).1 (fun hg => by have := hfd _ hg; omega)).trans h3
theorem loopJ_put (hl : w.heap.size ≤ l) (hlD : l ≠ D) (h : LoopJ P n w S fp d0 D l aD lo fr ok A) (o : Obj) : LoopJ P n w S fp d0 D l aD o fr ok (A.putObj l o) := by
  obtain ⟨y, S', fp', h1, h2, h3, h4, h5, h6, h7⟩ := h
  refine ⟨y, S', fp', h1, sim_kept h2 (kp_putObj A l o) (fun g hg hlt => by omega) (fun g hg => by rw [hg]; exact h4) (fun t g hg => by rw [hg]; exact h5 t) (fun D' hD' hg => ?_), ?_, h4, h5, h6, h7⟩
  · rw [List.mem_singleton] at hD'; exact hlD (hg.symm.trans hD')
  · exact World.putObj_heap_same (Array.getElem?_eq_some_iff.1 h3).1
end

theorem post_none {jump : Option Code} {X : Prop} {Y : Code → Prop} (h : jump = none) (hx : X) : (match (generalizing := false) jump with | none => X | some c => Y c) := by subst h; exact hx
theorem post_some {jump : Option Code} {X : Prop} {Y : Code → Prop} {c : Code} (h : jump = some c) (hx : Y c) : (match (generalizing := false) jump with | none => X | some c => Y c) := by subst h; exact hx
theorem enters_bodied {f : FuncId} (hB : ∃ fn, P.funcs[f]? = some fn ∧ fn.body.isSome = true ∧ fn.name ≠ "runtime.NumGoroutine") (args : Array Value) (w : World) : (callFunc f args).run P w = .ok (.enter f args) w := by
  obtain ⟨fn, hf, hb, hn⟩ := hB
  have hb' : ¬ fn.body = none := by intro h; rw [h] at hb; cases hb
  simp [callFunc, hf, hb', hn]

/-- a round's body, behind the assignment to the loop's variables -/
def BodyOk (E : Env) (p : Tmp → Bool) (body : Code) (R J : Fr → Prop) (σ' : Fr) : Prop := ∀ cx2 : Cx P, cx2.E = E → CxOk cx2 p → cx2.R = R → qI cx2 [.code body, .rnd J] σ'

set_option maxHeartbeats 800000 in
/-- A LOOP OVER A FUNCTION: what its variables in memory hold (fb), what stays (σv), of which data (ok: behind k rounds; okx: where a round has left by return). -/
theorem rangeFunc_of {cx : Cx P} {p : Tmp → Bool} (hc : CxOk cx p) (hro : cx.ro = none) {d0 : Tmp} {ps : List Tmp} {assign body : Code} {ks : List It} {σ : Fr} {t : Ty} {xs : List t.den}
    (hg : (σ.get d0).1 = .val ⟨.iter true t, xs⟩) (bs : List Tmp) (hd0 : d0 ∉ bs) (hps : ps.Nodup ∧ ∀ q ∈ ps, p q = true ∧ q ∉ bs) (hlen : argLen t = ps.length)
    (hokA : okD (fun d => p d && !bs.contains d) assign = true) (hokB : okD (fun d => p d && !bs.contains d) body = true)
    {α : Type} (fb : α → Fr) (σv : Fr) (hfb : ∀ x, (fb x).all isBoxE = true ∧ (fb x).map (·.1) = bs) (hσv : σv.all isFreeE = true ∧ ∀ q ∈ ps, q ∉ σv.map (·.1))
    (ok : Nat → α → Prop) (okx : α → Prop) (x0 : α) (hfit : Fits σ (fb x0 ++ σv)) (h0 : ok 0 x0)
    (round : ∀ k (hk : k < xs.length) y, ok k y → ∀ cx1 : Cx P, cx1.E = cx.E → CxOk cx1 (fun d => p d && !bs.contains d) → FrWf (rdF t ps xs[k] ++ (fb y ++ σv)) →
      qI cx1 [.code assign, .rnd (BodyOk (P := P) cx.E (fun d => p d && !bs.contains d) body (fun σ'' => ∃ y', Fits σ'' (fb y') ∧ okx y') (fun σ'' => ∃ y', Fits σ'' (fb y') ∧ ok (k + 1) y'))] (rdF t ps xs[k] ++ (fb y ++ σv)))
    (done : ∀ y, ok xs.length y → FrWf (fb y ++ σv) → Sem' cx ks (fb y ++ σv)) (stop : ∀ y, okx y → cx.R (fb y ++ σv)) :
    Sem' cx (.code (.rangeFunc (.tmp d0) ps.toArray assign body) :: ks) σ := by
  classical
  rintro a w ⟨⟨mks, hmk0, S, fp, h⟩, hpin⟩
  show (Code.rangeFunc (.tmp d0) ps.toArray assign body).wpIn (fen cx.ro) 0 P (Wk cx ks) a w
  rw [hro]
  refine wpIn_rangeFunc ?_
  intro fn hfn
  have hsl := h.slot d0
  rw [hg] at hsl
  obtain ⟨cs0, hu0, hrep0⟩ := hsl
  obtain ⟨gf, lb, rfl, hB, hIter⟩ : ∃ f caps, cs0 = [.func (.func f) #[] caps] ∧ (∃ fn, P.funcs[f]? = some fn ∧ fn.body.isSome = true ∧ fn.name ≠ "runtime.NumGoroutine") ∧
      ∀ w', KeepS S w w' → KeepS (fp d0) w w' → Iter P f caps S (fp d0) xs.length (fun k A us => ∃ h : k < xs.length, ∃ c, us = argsOf t c ∧ Rep P t A S BS.bot xs[k] c) w' := hrep0
  have hgv : a.tmps.getD d0 undef = .func (.func gf) #[] lb := hu0
  obtain ⟨rec, hrec⟩ : ∃ rec : LoopState → Option Code → Loop, rec = fun st pe => { state := st, pending := pe, fn, tmps := a.tmps, params := ps.toArray, assign, body, defers := w.heap.size } := ⟨_, rfl⟩
  obtain ⟨W1, hW1⟩ : ∃ W1, (w.alloc (.deferred (some []))).alloc (.loop (rec .ready none)) = W1 := ⟨_, rfl⟩
  have hsz1 : W1.heap.size = w.heap.size + 2 := by rw [← hW1]; simp
  have hL1 : W1.heap[w.heap.size + 1]? = some (.loop (rec .ready none)) := by
    rw [← hW1]; have := World.alloc_heap_new (w.alloc (.deferred (some []))) (.loop (rec .ready none)); rwa [World.size_alloc] at this
  have hK1 : W1.heap[w.heap.size]? = some (.deferred (some [])) := by
    rw [← hW1]; exact (RowKit.Below.heap_alloc _ _ _ (by simp)).trans (World.alloc_heap_new w _)
  have hkp1 : Kp BS.bot w W1 := by rw [← hW1]; exact (Kp.alloc _ w _).trans (Kp.alloc _ _ _) (fun _ _ h => h)
  let aD : Act := { a with defers := (Sz.mk cx.n [w.heap.size]).dfs }
  let fr : α → Fr := fun y => fb y ++ σv
  have hin : ∀ y, ∀ t, t ∈ bs → (fr y).get t = (fb y).get t := fun y t ht => get_app_in _ _ _ (by rw [(hfb y).2]; exact ht)
  have hout : ∀ y, ∀ t, t ∉ bs → (fr y).get t = σv.get t := fun y t ht => get_app_out _ _ _ (by rw [(hfb y).2]; exact ht)
  have hfd : ∀ g, fp d0 g → g < w.heap.size := fun g hg => (h.fpb d0 g hg).2
  -- the frame at the start, and at the end
  have hfix : ∀ y t, t ∉ bs → ((fr y).get t).1 = .undef ∨ ∃ v F, v.t.free = true ∧ ((fr y).get t).1 = .val v ∧ SRep P w S F σ.get a.tmps (.val v) (a.tmps.getD t undef) := by
    intro y t ht
    rw [hout y t ht]
    rcases free_at hσv.1 t with he | ⟨v, hv, he⟩
    · exact .inl he
    · refine .inr ⟨v, fp t, hv, he, ?_⟩
      rcases fits_at hfit t with h1 | h1
      · rw [show (fb x0 ++ σv).get t = σv.get t from hout x0 t ht, he] at h1; cases h1
      · rw [show (fb x0 ++ σv).get t = σv.get t from hout x0 t ht, he] at h1
        exact srep_fits (h.slot t) h1
  have hJ0 : LoopJ P cx.n w S fp d0 w.heap.size (w.heap.size + 1) aD (.loop (rec .ready none)) fr (ok 0) W1 := by
    refine ⟨x0, S, fun t => if t ∈ bs then fp t else BS.bot, h0, ?_, hL1, fun hx => ?_, fun t hx => ?_, fun g hg => ⟨fun hx => h.sapart d0 g hx hg, fun t hx => ?_⟩, BS.sub_refl _⟩
    · refine ⟨rfl, h.size, fun t => ?_, fun t u htu => ?_, fun t => ?_, fun t g hg => ?_, fun g hg => ?_, hkp1.mono (BS.bot_sub _), by simp, fun D hD => ?_⟩
      · show SRep P W1 S _ _ a.tmps _ (a.tmps.getD t undef)
        by_cases ht : t ∈ bs
        · rw [if_pos ht]
          have hkF : KeepS (fp t) w W1 := fun g hg => hkp1.block g (h.fpb t g hg).2 id
          have hkS : KeepS S w W1 := fun g hg => hkp1.block g (h.sb g hg).2 id
          obtain ⟨v, hv⟩ := box_at (hfb x0).1 (t := t) (by rw [(hfb x0).2]; exact ht)
          rcases fits_at hfit t with h1 | h1
          · rw [show (fb x0 ++ σv).get t = _ from hin x0 t ht, hv] at h1; cases h1
          · rw [hin x0 t ht, hv]
            rw [show (fb x0 ++ σv).get t = _ from hin x0 t ht, hv] at h1
            exact srep_solo rfl (srep_fits (get' := σ.get) (tmps' := a.tmps) (h.slot t) h1) hkS hkF
        · rw [if_neg ht]
          rcases hfix x0 t ht with he | ⟨v, F, hf, he, cs, hu, hr⟩
          · rw [he]; trivial
          · rw [he]
            exact ⟨cs, hu, rep_keep _ (rep_free v.t hf hr) (fun g hg => hkp1.block g (h.sb g hg).2 id) (fun _ hx => hx.elim)⟩
      · by_cases ht : t ∈ bs
        · by_cases hu : u ∈ bs
          · rw [if_pos ht, if_pos hu]; exact h.apart t u htu
          · rw [if_neg hu]; exact BS.dis_bot _
        · rw [if_neg ht]; exact BS.bot_dis _
      · by_cases ht : t ∈ bs
        · rw [if_pos ht]; exact h.sapart t
        · rw [if_neg ht]; exact BS.dis_bot _
      · by_cases ht : t ∈ bs
        · rw [if_pos ht] at hg; exact ⟨.inl ⟨t, hg⟩, by have := (h.fpb t g hg).2; omega⟩
        · rw [if_neg ht] at hg; exact hg.elim
      · exact ⟨.inl hg, by have := (h.sb g hg).2; omega⟩
      · rw [List.mem_singleton] at hD
        subst hD
        refine ⟨hK1, Nat.le_refl _, fun hx => by have := (h.sb _ hx).2; omega, fun t hx => ?_⟩
        by_cases ht : t ∈ bs
        · simp only [if_pos ht] at hx; have := (h.fpb t _ hx).2; omega
        · simp only [if_neg ht] at hx; exact hx
    · have := (h.sb _ hx).2; omega
    · by_cases ht : t ∈ bs
      · simp only [if_pos ht] at hx; have := (h.fpb t _ hx).2; omega
      · simp only [if_neg ht] at hx; exact hx
    · by_cases ht : t ∈ bs
      · simp only [if_pos ht] at hx
        exact h.apart t d0 (fun e => hd0 (e ▸ ht)) g hx hg
      · simp only [if_neg ht] at hx; exact hx
  have hJsz : ∀ {lo : Obj} {okk : α → Prop} {A : World}, LoopJ P cx.n w S fp d0 w.heap.size (w.heap.size + 1) aD lo fr okk A → W1.heap.size ≤ A.heap.size ∧ KeepS S W1 A := by
    rintro lo okk A ⟨y, S', fp', h1, h2, h3, h4, h5, h6, h7⟩
    have := (Array.getElem?_eq_some_iff.1 h3).1
    refine ⟨by omega, fun g hg => ?_⟩
    have hlt := (h.sb g hg).2
    rw [h2.kp.block g hlt (fun ⟨t, ht⟩ => h.sapart t g hg ht), hkp1.block g hlt id]
  -- out of the loop
  have hfin : ∀ {okk : α → Prop} {A : World} {lo : Obj}, LoopJ P cx.n w S fp d0 w.heap.size (w.heap.size + 1) aD lo fr okk A →
      ∃ y, okk y ∧ St cx (fr y).get { a with defers := [{ target := .collected w.heap.size, args := #[] }] ++ a.defers } A := by
    rintro okk A lo ⟨y, S', fp', h1, h2, h3, h4, h5, h6, h7⟩
    refine ⟨y, h1, ⟨[w.heap.size] ++ mks, (fun hx => by rw [hro] at hx; cases hx), _, _, sim_frame h h2 (BS.sub_refl _) (fun g hg => hg) (fun t => t ∈ bs) h.size (.inr rfl) ?_ (fun t ht => ?_) (fun t ht => ?_)⟩, hpin⟩
    · show _ ++ a.defers = _
      rw [h.defers]; rfl
    · obtain ⟨v, hv⟩ := box_at (hfb y).1 (t := t) (by rw [(hfb y).2]; exact ht)
      have hs := h2.slot t
      rw [hin y t ht, hv] at hs ⊢
      exact ⟨rfl, srep_solo_ctx rfl hs⟩
    · exact hfix y t ht
  have hCall : CallsIn Fence.wide 0 P gf (#[.func (.yield (w.heap.size + 1)) #[] #[]] ++ lb) W1 fun e B => (∃ v, e = .returned v) ∧
      (LoopJ P cx.n w S fp d0 w.heap.size (w.heap.size + 1) aD (.loop (rec .ready none)) fr (ok xs.length) B ∨ LoopJ P cx.n w S fp d0 w.heap.size (w.heap.size + 1) aD (.loop (rec .done (some .ret))) fr okx B) := by
    refine hIter W1 (fun g hg => hkp1.block g (h.sb g hg).2 id) (fun g hg => hkp1.block g (hfd g hg) id) (w.heap.size + 1)
      (fun k A => LoopJ P cx.n w S fp d0 w.heap.size (w.heap.size + 1) aD (.loop (rec .ready none)) fr (ok k) A)
      (fun A => LoopJ P cx.n w S fp d0 w.heap.size (w.heap.size + 1) aD (.loop (rec .done (some .ret))) fr okx A)
      (fun k A B hj hk => loopJ_kp hfd (by omega) (Nat.le_refl _) hj hk) (fun A B hj hk => loopJ_kp hfd (by omega) (Nat.le_refl _) hj hk) (fun k A hj => hJsz hj) ?_ hJ0
    rintro k A us hk ⟨y, S', fp', hok, hs, hl, hlS, hlf, hdd, hSS⟩ ⟨_, c, rfl, hrc⟩
    have hrc : Rep P t A S BS.bot xs[k] c := hrc
    have hAl := (Array.getElem?_eq_some_iff.1 hl).1
    have hy := run_yield (P := P) (args := (argsOf t c).toArray) hl (by rw [hrec]; simp [argsOf_len, hlen])
    obtain ⟨tm, htm⟩ : ∃ tm : Array Value, tm = (ps.zip (argsOf t c)).foldl (fun tmps (q : Tmp × Value) => tmps.setIfInBounds q.1 q.2) a.tmps := ⟨_, rfl⟩
    have hy' : (Instr.yield (w.heap.size + 1) (argsOf t c).toArray).run P A = .ok (.round (w.heap.size + 1) fn tm assign body) A := by
      rw [hy, hrec, htm]; simp
    refine ⟨fn, tm, assign, body, hy', roundIn_of_wpIn trivial ?_⟩
    have htsz : tm.size = cx.n := by rw [htm, foldl_set_size]; exact h.size
    have htin : ∀ t', t' ∉ ps → tm.getD t' undef = a.tmps.getD t' undef := fun t' ht' => by
      rw [htm]; exact foldl_set_out _ _ _ (fun hm => ht' (by obtain ⟨z, hz, rfl⟩ := List.mem_map.1 hm; exact (List.of_mem_zip (show (z.1, z.2) ∈ _ from hz)).1))
    have hbp : ∀ t', t' ∈ bs → t' ∉ ps := fun t' h1 h2 => (hps.2 t' h2).2 h1
    let pins : List (Tmp × Value) := bs.map fun j => (j, a.tmps.getD j undef)
    have hcxk : ∀ cx' : Cx P, cx'.E = cx.E → cx'.n = cx.n → cx'.pins = pins → CxOk cx' (fun d => p d && !bs.contains d) := by
      intro cx' e1 e2 e3
      refine ⟨by rw [e1]; exact hc.env, hc.mix, fun d hd => ?_⟩
      simp only [Bool.and_eq_true, Bool.not_eq_true'] at hd
      refine ⟨by rw [e2]; exact (hc.dst d hd.1).1, fun q hq => ?_⟩
      rw [e3] at hq
      obtain ⟨j, hj, rfl⟩ := List.mem_map.1 hq
      intro e
      have e' : j = d := e
      subst e'
      have := hd.2
      simp [hj] at this
    let FA : BS := fun g => ∃ t, fp' t g
    let cx1 : Cx P := ⟨cx.E, cx.n, some (w.heap.size + 1), A, S', FA, pins, fun _ => False⟩
    have hs1 : SimX P ⟨cx.n, []⟩ A S' FA (rdF t ps xs[k] ++ fr y).get { tmps := tm, defers := [] } A S' fp' := by
      refine ⟨rfl, htsz, fun t' => ?_, hs.apart, hs.sapart, fun t' g hg => ⟨.inl ⟨t', hg⟩, (hs.fpb t' g hg).2⟩, fun g hg => ⟨.inl hg, (hs.sb g hg).2⟩, Kp.refl _ _, List.nodup_nil, fun D hD => by cases hD⟩
      show SRep P A S' (fp' t') _ tm _ (tm.getD t' undef)
      have hlt : ∀ q ∈ ps, q < a.tmps.size := fun q hq => by rw [h.size]; exact (hc.dst q (hps.2 q hq).1).1
      rcases rdF_get (get := (rdF t ps xs[k] ++ fr y).get) (tmps' := tm) t ps xs[k] c a.tmps (fr y) hrc hps.1 hlt t' with ⟨hm, v, g1, g2⟩ | g1
      · rw [g1, htm]
        exact srep_mono (by rw [htm] at g2; exact g2) hSS (BS.bot_sub _)
      · rw [g1]
        by_cases hm : t' ∈ ps
        · have h1 : t' ∉ bs := (hps.2 t' hm).2
          rw [hout y t' h1, get_out _ _ (hσv.2 t' hm)]; trivial
        · rw [htin t' hm]
          have hs' := hs.slot t'
          by_cases hb : t' ∈ bs
          · obtain ⟨v, hv⟩ := box_at (hfb y).1 (t := t') (by rw [(hfb y).2]; exact hb)
            rw [hin y t' hb, hv] at hs' ⊢
            exact srep_solo_ctx rfl hs'
          · rw [hout y t' hb] at hs' ⊢
            rcases free_at hσv.1 t' with he | ⟨v, hv, he⟩
            · rw [he]; trivial
            · rw [he] at hs' ⊢; exact srep_solo_ctx rfl hs'
    have hpin1 : PinOk pins { tmps := tm, defers := [] } := fun q hq => by
      obtain ⟨j, hj, rfl⟩ := List.mem_map.1 hq
      exact htin j (hbp j hj)
    have hst1 : St cx1 (rdF t ps xs[k] ++ fr y).get { tmps := tm, defers := [] } A := ⟨⟨[], fun _ => rfl, S', fp', hs1⟩, hpin1⟩
    have hcx1 := hcxk cx1 rfl rfl rfl
    have hq1 := round k hk y hok cx1 rfl hcx1 (sim_wf hst1.1)
    have hw1 := pI_sound hcx1 _ _ _ (Nat.le_refl _) (by simp only [okIs, List.all_cons, List.all_nil, Bool.and_eq_true, okI]; exact ⟨hokA, trivial, trivial⟩) (qI_p _ _ _ (Nat.le_refl _) hq1) _ A hst1
    refine wpIn_mono (show assign.wpIn (fen (some (w.heap.size + 1))) 0 P (Wk cx1 _) _ A from hw1) ?_
    rintro e a1 w1 hwk
    cases e with
    | ret => obtain ⟨_, hf, _⟩ := Wk_ret.1 hwk; exact hf.elim
    | exit id => exact hwk.elim
    | goto l => exact hwk.elim
    | panic ch => exact hwk.elim
    | outgrown => exact hwk.elim
    | normal =>
      obtain ⟨σ1, hσ1, ⟨mk1, hmk1, S1, fp1, hs1⟩, hpin1⟩ := hwk
      have hmk1 : mk1 = [] := hmk1 rfl
      subst hmk1
      have hs1 : SimX P ⟨cx.n, []⟩ A S' FA σ1.get a1 w1 S1 fp1 := hs1
      have hnl : ¬ FA (w.heap.size + 1) := fun ⟨t, ht⟩ => hlf t ht
      have hl1 : w1.heap[w.heap.size + 1]? = some (.loop (rec .ready none)) := (hs1.kp.block _ hAl hnl).trans hl
      have hS1l : ¬ S1 (w.heap.size + 1) := fun hx => by
        rcases (hs1.sb _ hx).1 with h1 | h1 | h1
        · exact hlS h1
        · exact hnl h1
        · omega
      have hf1l : ∀ t, ¬ fp1 t (w.heap.size + 1) := fun t hx => by
        rcases (hs1.fpb t _ hx).1 with h1 | h1
        · exact hnl h1
        · omega
      have hsz_w1 : A.heap.size ≤ w1.heap.size := hs1.kp.size
      refine ⟨w1.putObj (w.heap.size + 1) (.loop { rec .ready none with state := .busy }), run_beginRound hl1 (by rw [hrec]), ?_⟩
      have hs1' := sim_put2 (.loop { rec .ready none with state := .busy }) hs1 hS1l hf1l
      obtain ⟨w2, hw2⟩ : ∃ w2, w1.putObj (w.heap.size + 1) (.loop { rec .ready none with state := .busy }) = w2 := ⟨_, rfl⟩
      have hl2 : w2.heap[w.heap.size + 1]? = some (.loop { rec .ready none with state := .busy }) := by rw [← hw2]; exact World.putObj_heap_same (Array.getElem?_eq_some_iff.1 hl1).1
      have hl2o : ∀ g, g ≠ w.heap.size + 1 → w2.heap[g]? = w1.heap[g]? := fun g hg => by rw [← hw2]; exact World.putObj_heap_other hg
      have hw2sz : w2.heap.size = w1.heap.size := by rw [← hw2]; simp
      rw [hw2] at hs1' ⊢
      let FA1 : BS := fun g => ∃ t, fp1 t g
      have hnl1 : ¬ FA1 (w.heap.size + 1) := fun ⟨t, ht⟩ => hf1l t ht
      let cx2 : Cx P := ⟨cx.E, cx.n, some (w.heap.size + 1), w2, S1, FA1, pins, fun σ'' => ∃ y', Fits σ'' (fb y') ∧ okx y'⟩
      have hcx2 := hcxk cx2 rfl rfl rfl
      have hst2 : St cx2 σ1.get a1 w2 := ⟨⟨[], fun _ => rfl, S1, fp1, sim_rebase hs1'⟩, hpin1⟩
      have hq2 := hσ1 cx2 rfl hcx2 rfl
      have hww2 := pI_sound hcx2 _ _ _ (Nat.le_refl _) (by simp only [okIs, List.all_cons, List.all_nil, Bool.and_eq_true, okI]; exact ⟨hokB, trivial, trivial⟩) (qI_p _ _ _ (Nat.le_refl _) hq2) _ w2 hst2
      refine wpIn_mono (show body.wpIn (fen (some (w.heap.size + 1))) 0 P (Wk cx2 _) _ w2 from hww2) ?_
      -- where a round ends
      have hend : ∀ (okk : α → Prop) (jump : Option Code) (a3 : Act) (w3 : World) (σ2 : Fr), (∃ y', Fits σ2 (fb y') ∧ okk y') → St cx2 σ2.get a3 w3 →
          ∃ v w', (Instr.endRound (w.heap.size + 1) jump).run P w3 = .ok v w' ∧ v = .bool jump.isNone ∧ KeepS (fp d0) A w' ∧ LoopJ P cx.n w S fp d0 w.heap.size (w.heap.size + 1) aD (.loop (rec (if jump.isNone then .ready else .done) jump)) fr okk w' := by
        rintro okk jump a3 w3 σ2 ⟨y', hfy, hoky⟩ ⟨⟨mk2, hmk2, S2, fp2, hs2⟩, hpin2⟩
        have hmk2 : mk2 = [] := hmk2 rfl
        subst hmk2
        have hs2 : SimX P ⟨cx.n, []⟩ w2 S1 FA1 σ2.get a3 w3 S2 fp2 := hs2
        have hl3 : w3.heap[w.heap.size + 1]? = some (.loop { rec .ready none with state := .busy }) := (hs2.kp.block _ (Array.getElem?_eq_some_iff.1 hl2).1 hnl1).trans hl2
        have hw3sz : w2.heap.size ≤ w3.heap.size := hs2.kp.size
        have hS2l : ¬ S2 (w.heap.size + 1) := fun hx => by
          rcases (hs2.sb _ hx).1 with h1 | h1 | h1
          · exact hS1l h1
          · exact hnl1 h1
          · omega
        have hf2l : ∀ t, ¬ fp2 t (w.heap.size + 1) := fun t hx => by
          rcases (hs2.fpb t _ hx).1 with h1 | h1
          · exact hnl1 h1
          · omega
        refine ⟨_, _, run_endRound jump hl3, rfl, ?_, ?_⟩
        · -- what the iterator owns is as it was
          intro g hgd
          have hlt := hfd g hgd
          have hne : g ≠ w.heap.size + 1 := by omega
          have hnA : ¬ FA g := fun ⟨t, ht⟩ => (hdd g hgd).2 t ht
          have hnA1 : ¬ FA1 g := fun ⟨t, ht⟩ => by
            rcases (hs1.fpb t g ht).1 with h1 | h1
            · exact hnA h1
            · omega
          rw [World.putObj_heap_other hne, hs2.kp.block g (by omega) hnA1, hl2o g hne, hs1.kp.block g (by omega) hnA]
        · have hs3 := sim_frame hs1' hs2 (BS.sub_refl _) (fun g hg => hg) (fun t => t ∈ bs) (mk := []) (a'' := { tmps := a3.tmps, defers := [] }) (get'' := (fb y').get) hs2.size (.inl rfl) rfl
            (fun t ht => by
              obtain ⟨v, hv⟩ := box_at (hfb y').1 (t := t) (by rw [(hfb y').2]; exact ht)
              rcases fits_at hfy t with h1 | h1
              · rw [hv] at h1; cases h1
              · rw [hv] at h1 ⊢; exact ⟨rfl, srep_fits (hs2.slot t) h1⟩)
            (fun t ht => .inl (by rw [get_out _ _ (by rw [(hfb y').2]; exact ht)]))
          have hsA' : SimX P ⟨cx.n, [w.heap.size]⟩ w S (fun g => ∃ t, fp t g) (fr y).get aD (A.putObj (w.heap.size + 1) (.loop { rec .ready none with state := .busy })) S' fp' :=
            sim_kept hs (kp_putObj _ _ _) (fun g hg hlt => by omega) (fun g hg => by rw [hg]; exact hlS) (fun t g hg => by rw [hg]; exact hlf t) (fun D hD hg => by rw [List.mem_singleton] at hD; omega)
          have hs4 := sim_frame hsA' hs3 (BS.sub_refl _) (fun g hg => hg) (fun t => t ∈ bs) (mk := [w.heap.size]) (a'' := aD) (get'' := (fr y').get) hs.size (.inl rfl) rfl
            (fun t ht => by
              obtain ⟨v, hv⟩ := box_at (hfb y').1 (t := t) (by rw [(hfb y').2]; exact ht)
              have hs3' := hs3.slot t
              have e1 : a3.tmps.getD t undef = a.tmps.getD t undef := hpin2 (t, a.tmps.getD t undef) (List.mem_map.2 ⟨t, ht, rfl⟩)
              rw [hin y' t ht, hv]
              rw [hv] at hs3'
              refine ⟨rfl, ?_⟩
              show SRep P w3 _ _ _ a.tmps _ (a.tmps.getD t undef)
              rw [← e1]
              exact srep_solo_ctx rfl hs3')
            (fun t ht => by
              rw [hout y' t ht]
              rcases free_at hσv.1 t with he | ⟨v, hv, he⟩
              · exact .inl he
              · refine .inr ⟨v, fp' t, hv, he, ?_⟩
                have := hsA'.slot t
                rw [hout y t ht, he] at this
                exact srep_solo_ctx rfl this)
          have hJ3 : LoopJ P cx.n w S fp d0 w.heap.size (w.heap.size + 1) aD (.loop { rec .ready none with state := .busy }) fr okk w3 := by
            refine ⟨y', _, _, hoky, hs4, hl3, ?_, fun t hx => ?_, fun g hgd => ⟨?_, fun t hx => ?_⟩, fun g hg => .inl (hSS g hg)⟩
            · rintro (hx | hx | hx)
              · exact hlS hx
              · exact hS1l hx
              · exact hS2l hx
            · by_cases ht : t ∈ bs
              · simp only [if_pos ht] at hx; exact hf2l t hx
              · simp only [if_neg ht] at hx; exact hx
            · have hlt := hfd g hgd
              have hnA : ¬ FA g := fun ⟨t, ht⟩ => (hdd g hgd).2 t ht
              have hnA1 : ¬ FA1 g := fun ⟨t, ht⟩ => by
                rcases (hs1.fpb t g ht).1 with h1 | h1
                · exact hnA h1
                · omega
              have hnS1 : ¬ S1 g := fun hx => by
                rcases (hs1.sb g hx).1 with h1 | h1 | h1
                · exact (hdd g hgd).1 h1
                · exact hnA h1
                · omega
              rintro (hx | hx | hx)
              · exact (hdd g hgd).1 hx
              · exact hnS1 hx
              · rcases (hs2.sb g hx).1 with h1 | h1 | h1
                · exact hnS1 h1
                · exact hnA1 h1
                · omega
            · have hlt := hfd g hgd
              by_cases ht : t ∈ bs
              · simp only [if_pos ht] at hx
                rcases (hs2.fpb t g hx).1 with ⟨t1, h1⟩ | h1
                · rcases (hs1.fpb t1 g h1).1 with ⟨t2, h2⟩ | h2
                  · exact (hdd g hgd).2 t2 h2
                  · omega
                · omega
              · simp only [if_neg ht] at hx; exact hx
          have := loopJ_put (by omega) (by omega) hJ3 (.loop (rec (if jump.isNone then .ready else .done) jump))
          rw [hrec] at this ⊢
          exact this
      rintro e a3 w3 hwk
      cases e with
      | normal =>
        obtain ⟨σ2, hσ2, hst3⟩ := hwk
        obtain ⟨v, w', q1, q2, q3, q4⟩ := hend (ok (k + 1)) none a3 w3 σ2 hσ2 hst3
        exact ⟨v, w', q1, q3, .inl ⟨by rw [q2]; rfl, q4⟩⟩
      | ret =>
        obtain ⟨σ2, hσ2, hst3⟩ := Wk_ret.1 hwk
        obtain ⟨v, w', q1, q2, q3, q4⟩ := hend okx (some .ret) a3 w3 σ2 hσ2 hst3
        exact ⟨v, w', q1, q3, .inr ⟨by rw [q2]; rfl, q4⟩⟩
      | exit id => exact hwk.elim
      | goto l => exact hwk.elim
      | panic ch => exact hwk.elim
      | outgrown => exact hwk.elim
  refine ⟨w.heap.size + 1, [{ target := .collected w.heap.size, args := #[] }], W1, { target := .fn (.func gf) lb, args := #[.func (.yield (w.heap.size + 1)) #[] #[]] }, W1, gf,
    #[.func (.yield (w.heap.size + 1)) #[] #[]] ++ lb, W1, ?_, ?_, ?_, ?_, ?_, ?_⟩
  · rw [← hW1, hrec]; exact run_enterLoop_outer _ _ _ _ _
  · have he : a.eval (.tmp d0) = .func (.func gf) #[] lb := hgv
    simp only [resolve, he]
    simp [go_sem]
  · intro f' hf'; trivial
  · simp [invoke, go_sem, enters_bodied hB]
  · intro hx; cases hx
  · refine CallsIn.mono hCall ?_
    rintro e B ⟨⟨v, rfl⟩, hj | hj⟩
    · have hl := hj
      obtain ⟨_, _, _, _, _, hl, _⟩ := hl
      have hr := run_endLoop (P := P) hl (by rw [hrec]; simp)
      have hp : (rec .ready none).pending = none := by rw [hrec]
      obtain ⟨y, hy, hst⟩ := hfin (loopJ_put (by omega) (by omega) hj (.loop { rec .ready none with state := .exhausted }))
      exact ⟨_, _, hr, post_none hp (done y hy (sim_wf hst.1) _ _ hst)⟩
    · have hl := hj
      obtain ⟨_, _, _, _, _, hl, _⟩ := hl
      have hr := run_endLoop (P := P) hl (by rw [hrec]; simp)
      have hp : (rec .done (some .ret)).pending = some .ret := by rw [hrec]
      obtain ⟨y, hy, hst⟩ := hfin (loopJ_put (by omega) (by omega) hj (.loop { rec .done (some .ret) with state := .exhausted }))
      exact ⟨_, _, hr, post_some hp (wpIn_ret (Wk_ret.2 ⟨fr y, stop y hy, hst⟩))⟩
end Go.Tv
