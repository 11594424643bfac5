/-
  Calls that change what their first argument leads to. Conditions: none; plain definitions and lemmas.
-/
import Derived.Test.YtgdchicpmjmhaaaTvR
namespace Go.Tv
set_option linter.unusedVariables false
set_option linter.unusedSimpArgs false
variable {P : Program}
section
variable {n : Sz} {w0 : World} {S0 F0 : BS} {get rd : Rd} {a : Act} {w : World} {S : BS} {fp : Tmp → BS}

def inOut (rd : Rd) (m : Mode) (x : Operand) : Option (Tmp × List Step × V) :=
  match m with
  | .p => match refOf rd x with
    | some (j, []) => match (rd j).1 with | .box v => some (j, [], v) | _ => none
    | _ => none
  | .io => match rdO rd x with
    | (.ali j p k m, _, _) => if (rd j).2 = (k, m) then ((rd j).1.rget p).map fun v => (j, p, v) else none
    | (.val v, _, _) => (tmpO x).map fun j => (j, [], v)
    | _ => none
  | _ => none

def Mode.bump : Mode → Bump
  | .p => .hdr
  | _ => .new

theorem inOut_ok (h : SimX P n w0 S0 F0 get a w S fp) (hb : Below rd get) {m : Mode} {x : Operand} {j : Tmp} {p : List Step} {v0 : V} (hx : inOut rd m x = some (j, p, v0)) :
    ∃ F1, BS.sub F1 (fp j) ∧ SRep P w S F1 emp #[] (argSlot m v0) (a.eval x) ∧ (m = .io ∨ m = .p) ∧
      ∀ (S' G : BS) (w' : World) (o0 : V) (root' : Slot), S.sub S' → SRep P w' S' G emp #[] (argSlot m o0) (a.eval x) → o0.t = v0.t → (∀ b, G b → fp j b → F1 b) → KeepS S w w' → (∀ b, fp j b → ¬ F1 b → w'.heap[b]? = w.heap[b]?) → (rd j).1.rset p o0 = some root' →
        root'.solo = true ∧ SRep P w' S' (fun b => (fp j b ∧ ¬ F1 b) ∨ G b) emp #[] root' (a.tmps.getD j undef) ∧ Turn (get j) (root', Tv.bump (get j).2 m.bump) (a.tmps.getD j undef) (a.tmps.getD j undef) := by
  unfold inOut at hx
  split at hx
  · -- a pointer to a box
    split at hx
    · rename_i j' href
      split at hx
      · rename_i v hroot
        simp only [Option.some.injEq, Prod.mk.injEq] at hx
        obtain ⟨rfl, rfl, rfl⟩ := hx
        obtain ⟨hg, hok⟩ := refOf_ok h hb href (u := v) (by rw [hroot]; simp [Slot.rget, getAt])
        rw [hroot] at hok
        have hj := h.slot j'
        rw [hg, hroot] at hj
        obtain ⟨gb, cs, e, F', hrv, hh, hgf, hrep, hsub, hn⟩ := hj
        obtain ⟨_, g, o, hl, hu⟩ := hok
        rw [hrv] at hl
        simp only [Slot.rloc, locAt, Option.some.injEq, Prod.mk.injEq] at hl
        obtain ⟨rfl, rfl⟩ := hl
        have huw : a.eval x = a.tmps.getD j' undef := by rw [hu, hrv]
        refine ⟨fp j', BS.sub_refl _, ⟨gb, cs, e, F', hu, hh, hgf, hrep, hsub, hn⟩, .inr rfl, ?_⟩
        intro S' G w' o0 root' hSS hr ht _ _ _ hset
        rw [hroot] at hset
        simp only [Slot.rset, setAt, Option.map_some, Option.some.injEq] at hset
        subst hset
        refine ⟨rfl, ?_, ?_⟩
        · rw [← huw]
          exact srep_mono hr (BS.sub_refl _) (fun b hb => .inr hb)
        · rw [hg, show rd j' = (.box v, (rd j').2) from by rw [← hroot]]
          exact turn_box (by rw [ht])
      · cases hx
    · cases hx
  · split at hx
    · rename_i j' p' k m1 e1 e2 hx'
      split at hx
      · rename_i hv
        simp only [Option.map_eq_some_iff, Prod.mk.injEq] at hx
        obtain ⟨v, hu, rfl, rfl, rfl⟩ := hx
        have hg : get j' = rd j' := (hb j').elim Eq.symm (fun he => by rw [he] at hu; simp [Slot.rget] at hu)
        obtain ⟨_, hr⟩ := rdO_rep h hb hx' (by simp)
        rw [hg, hv] at hr
        have hali := (hr rfl).2 rfl
        have hj := h.slot j'
        rw [hg] at hj
        rcases hali with ⟨rfl, ⟨v1, hv1⟩, hxv⟩ | ⟨hrin, g, og, v1, cs, hl, hv', hfr, hc, hlen, hxv⟩
        · rw [hv1] at hu hj ⊢
          have hv1e : v1 = v := by
            have : some (V.mk v1.t v1.x) = some v := by simpa only [Slot.rget, getAt] using hu
            exact Option.some.inj this
          subst hv1e
          obtain ⟨cx, hxv2, hrep⟩ := hj
          refine ⟨fp j', BS.sub_refl _, ⟨cx, hxv.trans hxv2, hrep⟩, .inl rfl, ?_⟩
          intro S' G w' o0 root' hSS hr ht _ _ _ hset
          simp only [Slot.rset, setAt, Option.map_some, Option.some.injEq] at hset
          subst hset
          refine ⟨rfl, ?_, turn_new⟩
          rw [← hxv]
          exact srep_mono hr (BS.sub_refl _) (fun b hb => .inr hb)
        · rw [hu] at hv'
          simp only [Option.some.injEq] at hv'
          subst hv'
          obtain ⟨cu, Fv, q1, q2, q3, q4, q5⟩ := root_deep hj hrin hu hl
          obtain rfl := cells_eq hc q1 (by rw [hlen, q2])
          refine ⟨Fv, q4, ⟨cs, hxv, q3⟩, .inl rfl, ?_⟩
          intro S' G w' o0 root' hSS hr ht hG hS hF hset
          obtain ⟨cs', hu', hr'⟩ := hr
          have hcs : cs' = cs := by
            have h1 := toV_cells hr'
            have h2 := toV_cells q3
            rw [← hu', hxv, h2] at h1
            simpa using h1.symm
          subst hcs
          obtain ⟨z1, z2⟩ := q5 S' o0 G w' root' emp #[] hSS hr' hG hS hF hset
          exact ⟨z1, z2, turn_new⟩
      · cases hx
    · rename_i v e1 e2 hx'
      simp only [Option.map_eq_some_iff, Prod.mk.injEq] at hx
      obtain ⟨j', hj', rfl, rfl, rfl⟩ := hx
      obtain rfl := tmpO_some hj'
      have hrd : rd j' = (.val v, e1, e2) := hx'
      have hg := hb.eq hrd (by simp)
      have hj := h.slot j'
      rw [hg] at hj
      rw [hrd]
      obtain ⟨cx, hxv2, hrep⟩ := hj
      refine ⟨fp j', BS.sub_refl _, ⟨cx, hxv2, hrep⟩, .inl rfl, ?_⟩
      intro S' G w' o0 root' hSS hr ht _ _ _ hset
      simp only [Slot.rset, setAt, Option.map_some, Option.some.injEq] at hset
      subst hset
      exact ⟨rfl, srep_mono hr (BS.sub_refl _) (fun b hb => .inr hb), turn_new⟩
    · cases hx
  · cases hx

/-- the first argument is changed in place -/
def pCallX (c : Con) (rd : Rd) (d : Tmp) (x0 : Operand) (args : List (Option Ty × Operand)) (K : Patch → Prop) : Prop :=
  match c.ms with
  | m0 :: ms => match inOut rd m0 x0, manyV rd ((ms.zip args).map fun q => (q.1 == .t, q.2.1, q.2.2)) with
    | some (j, p, v0), some (vs, pt) => match c.fn (v0 :: vs) with
      | some (pre, o0 :: _, res) => match (rd j).1.rset p o0 with
        | some root' => ms.all (fun m => m == .v || m == .t) = true ∧ ms.length = vs.length ∧ args.length = vs.length ∧ noKey d pt = true ∧ noKey j pt = true ∧ j ≠ d ∧ o0.t = v0.t ∧ pre ∧ K (pt ++ [(j, root', m0.bump), (d, resSlot res, .new)])
        | none => False
      | _ => False
    | _, _ => False
  | [] => False

theorem callX_sim (h : SimX P n w0 S0 F0 get a w S fp) (hb : Below rd get) {f : FuncId} {c : Con} (hc : c.Ok P f) {d : Tmp} (hd : d < n.sz) {x x0 : Operand} {args : Array Operand} {xs : List Operand} {ats : Array TypeId} {l : List (Option Ty × Operand)} (hx : a.eval x = .func (.func f) #[] #[])
    {o : Oper} (ho : o.op = .call { callee := .value x, args := args, argTypes := ats }) (hod : o.dst = some d) (hargs : args.toList = x0 :: xs) (hh : l.map (·.2) = xs) {K : Patch → Prop} {Q : Exit → Act → World → Prop} (hp : pCallX c rd d x0 l K) : o.wp P a w (Nx P n w0 S0 F0 get K) Q := by
  unfold pCallX at hp
  split at hp
  · rename_i m0 ms hms0
    split at hp
    · rename_i j p v0 vs pt hio hm
      split at hp
      · rename_i pre o0 outs res hfn
        split at hp
        · rename_i root' hset
          obtain ⟨hms, hml, hal, hnk, hnj, hjd, hty, hpre, hK⟩ := hp
          obtain ⟨F1, hF1, hr1, hmode0, hback⟩ := inOut_ok h hb hio
          obtain ⟨Sx, Fv, hmany, hbot⟩ := gotV_share_bot h hb hm
          have hml2 : ms.length = l.length := hml.trans hal.symm
          have hus : (((ms.zip l).map fun q => (q.1 == .t, q.2.1, q.2.2)).map fun q => a.eval q.2.2) = xs.map a.eval := by
            rw [List.map_map]
            have h1 : ((ms.zip l).map fun q => a.eval q.2.2) = ((ms.zip l).map (·.2)).map fun q => a.eval q.2 := by rw [List.map_map]; rfl
            have h2 : (ms.zip l).map (·.2) = l := List.map_snd_zip (by omega)
            show ((ms.zip l).map fun q => a.eval q.2.2) = _
            rw [h1, h2]; exact map_snd_eval a hh
          rw [hus] at hmany
          obtain ⟨b1, b2⟩ := many_bd h hmany
          have hrun := run_enter hc.1 ho hx w
          have hargs' : (#[] ++ args.map a.eval ++ #[] : Array Value) = (a.eval x0 :: xs.map a.eval).toArray := by apply Array.ext'; simp [hargs]
          rw [hargs'] at hrun
          unfold Oper.wp
          rw [hrun, Oper.upon_enter]
          have hgood := hc.2 (v0 :: vs) pre (o0 :: outs) res hfn hpre
          have hjk : ∀ e, e ∈ pt → e.1 ≠ j := fun e he => by
            have := List.all_eq_true.1 hnj e he
            simpa using this
          have hFj : ∀ i g, Fv i g → ¬ fp j g := fun i g hg hf => by
            obtain ⟨e, he, hfe⟩ := hmany.fv i g hg
            exact h.apart e.1 j (hjk e he) g hfe hf
          have hSj : ∀ g, BS.un S Sx g → ¬ fp j g := by
            rintro g (hg | hg) hf
            · exact h.sapart j g hg hf
            · obtain ⟨e, he, hfe⟩ := hmany.sx g hg
              exact h.apart e.1 j (hjk e he) g hfe hf
          have hmode : ∀ i, i < vs.length → ms.getD i .v = .v ∨ ms.getD i .v = .t := fun i hi => by
            have hi' : i < ms.length := by rw [hml]; exact hi
            have := List.all_eq_true.1 hms ms[i] (List.getElem_mem hi')
            rw [List.getD_eq_getElem?_getD, List.getElem?_eq_getElem hi']
            simpa using this
          have hslot : ∀ i (hi : i < vs.length), argSlot (ms.getD i .v) vs[i] = .val vs[i] := fun i hi => by
            rcases hmode i hi with e | e <;> rw [e] <;> rfl
          let Fs : Nat → BS := fun i => match i with | 0 => F1 | i + 1 => Fv i
          have hFs : ∀ g, fpN Fs g → F1 g ∨ ∃ i, Fv i g := by
            rintro g ⟨i, hi⟩
            cases i with
            | zero => exact .inl hi
            | succ i => exact .inr ⟨i, hi⟩
          refine (hgood w (BS.un S Sx) Fs (a.eval x0 :: xs.map a.eval) ⟨by simp [hmany.len], by rw [hms0]; simp [hml], ?_, ?_, ?_, ?_, b2⟩).mono ?_
          · intro i hi
            rw [hms0]
            cases i with
            | zero => exact srep_mono hr1 (fun g hg => .inl hg) (BS.sub_refl _)
            | succ i =>
              have hi' : i < vs.length := by simpa using hi
              simp only [List.getD_cons_succ, List.getElem_cons_succ]
              rw [hslot i hi']
              obtain ⟨cs, e1, e2⟩ := hmany.rep i hi'
              refine ⟨cs, ?_, e2⟩
              rw [List.getD_eq_getElem?_getD, e1]; rfl
          · intro i k hik g h1 h2
            cases i with
            | zero =>
              cases k with
              | zero => exact hik rfl
              | succ k => exact hFj k g h2 (hF1 g h1)
            | succ i =>
              cases k with
              | zero => exact hFj i g h1 (hF1 g h2)
              | succ k => exact hmany.fvd i k (fun e => hik (by rw [e])) g h1 h2
          · intro i g h1 h2
            cases i with
            | zero => exact hSj g h1 (hF1 g h2)
            | succ i => exact many_dis h hmany i g h1 h2
          · intro i g h1
            cases i with
            | zero => exact (h.fpb j g (hF1 g h1)).2
            | succ i => exact b1 i g h1
          · rintro e w' ⟨r, rfl, S', Gs, G, hkp, hS', hGs, hG, _, hGG, hSGs, hSG, hout, hr⟩
            refine ⟨_, hK, ?_⟩
            rw [hod]
            have hm0 : c.ms.getD 0 .v = m0 := by rw [hms0]; rfl
            have hout0 := hout 0 o0 rfl (by rw [hm0]; exact hmode0)
            rw [hm0] at hout0
            have hkS : KeepS (BS.un S Sx) w w' := hkp.keepS (fun g h1 h2 => by
              rcases hFs g h2 with h2 | ⟨i, h2⟩
              · exact hSj g h1 (hF1 g h2)
              · exact many_dis h hmany i g h1 h2) b2
            have hSS : BS.sub S' (BS.un S (BS.un Sx (fun g => S' g ∧ ¬ BS.un S Sx g))) := fun g hg => by
              by_cases hx : BS.un S Sx g
              · exact hx.imp id .inl
              · exact .inr (.inr ⟨hg, hx⟩)
            have hGs0 : ∀ b, Gs 0 b → fp j b → F1 b := fun b hb hf => by
              rcases (hGs 0 b hb).1 with h1 | h1
              · rcases hFs b h1 with h1 | ⟨i, h1⟩
                · exact h1
                · exact absurd hf (hFj i b h1)
              · exact absurd (h.fpb j b hf).2 (by omega)
            obtain ⟨z1, z2, z3⟩ := hback (BS.un S (BS.un Sx (fun g => S' g ∧ ¬ BS.un S Sx g))) (Gs 0) w' o0 root' (fun g hg => .inl hg) (srep_mono hout0 hSS (BS.sub_refl _)) hty hGs0 (hkS.mono (fun g hg => .inl hg)) (fun b hb hnb => hkp.block b (h.fpb j b hb).2 (fun hx => by
              rcases hFs b hx with h1 | ⟨i, h1⟩
              · exact hnb h1
              · exact hFj i b h1 hb)) hset
            have hloc : ∀ g, (fpN Fs g ∨ w.heap.size ≤ g) → g < w'.heap.size → (∃ i, Fv i g) ∨ fp j g ∨ (w.heap.size ≤ g ∧ g < w'.heap.size) := fun g h1 h2 => by
              rcases h1 with h1 | h1
              · rcases hFs g h1 with h1 | h1
                · exact .inr (.inl (hF1 g h1))
                · exact .inl h1
              · exact .inr (.inr ⟨h1, h2⟩)
            -- what is left at the root touches nothing that was handed out
            have hrest : ∀ g, fp j g ∧ ¬ F1 g → ∀ X : Prop, (fpN Fs g ∨ w.heap.size ≤ g) → X := fun g hg X h1 => by
              exfalso
              rcases h1 with h1 | h1
              · rcases hFs g h1 with h1 | ⟨i, h1⟩
                · exact hg.2 h1
                · exact hFj i g h1 hg.1
              · have := (h.fpb j g hg.1).2; omega
            refine sim_many2 h hmany d hd hnk r (resSlot res) G (fun g => S' g ∧ ¬ BS.un S Sx g) w' (fpN Fs) j hjd hnj root' m0.bump (fun b => (fp j b ∧ ¬ F1 b) ∨ Gs 0 b) hkp ?_ ?_ ?_ ?_ (fun g hg => hSG g hg.1) ?_ ?_ ⟨resSlot_solo _, srep_mono hr hSS (BS.sub_refl _)⟩ ⟨z1, z2⟩ z3
            · exact fun g hg => (hFs g hg).symm.imp id (hF1 g)
            · exact fun g hg => hloc g (hG g hg).1 (hG g hg).2
            · rintro g (hg | hg)
              · exact .inr (.inl hg.1)
              · exact hloc g (hGs 0 g hg).1 (hGs 0 g hg).2
            · exact fun g hg => hloc g ((hS' g hg.1).1.resolve_left hg.2) (hS' g hg.1).2
            · rintro g hg (h2 | h2)
              · exact hrest g h2 False ((hS' g hg.1).1.resolve_left hg.2)
              · exact hSGs 0 g hg.1 h2
            · rintro g (h1 | h1) h2
              · exact hrest g h1 False (hG g h2).1
              · exact hGG 0 g h1 h2
        · exact hp.elim
      · exact hp.elim
    · exact hp.elim
  · exact hp.elim
end
end Go.Tv
