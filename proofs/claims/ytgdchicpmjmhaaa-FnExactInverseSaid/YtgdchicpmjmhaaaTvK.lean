/-
  Several operands got at once; composite values; rows that grow. Conditions: none; plain definitions and lemmas.
-/
import Derived.Test.YtgdchicpmjmhaaaTvJ
import Derived.Maps.AppendAt
namespace Go.Tv
set_option linter.unusedVariables false
set_option linter.unusedSimpArgs false
variable {P : Program}

theorem appP_out : ∀ (pt : Patch) (get : Rd) (t : Tmp), (∀ e, e ∈ pt → e.1 ≠ t) → appP pt get t = get t
  | [], get, t, _ => rfl
  | e :: pt, get, t, h => by
    show appP pt (app1 get e) t = get t
    rw [appP_out pt _ t (fun e' he => h e' (List.mem_cons_of_mem _ he))]
    simp [app1, Ne.symm (h e List.mem_cons_self)]
theorem appP_in : ∀ (pt : Patch) (get : Rd) (e : Tmp × Slot × Bump), (pt.map (·.1)).Nodup → e ∈ pt → appP pt get e.1 = (e.2.1, bump (get e.1).2 e.2.2)
  | [], get, e, _, h => by cases h
  | x :: pt, get, e, hn, h => by
    simp only [List.map_cons, List.nodup_cons] at hn
    show appP pt (app1 get x) e.1 = _
    rcases List.mem_cons.1 h with rfl | h
    · rw [appP_out pt _ e.1 (fun e' he heq => hn.1 (List.mem_map.2 ⟨e', he, heq⟩))]
      simp [app1]
    · have hne : e.1 ≠ x.1 := fun heq => hn.1 (List.mem_map.2 ⟨e, h, heq⟩)
      rw [appP_in pt _ e hn.2 h]
      simp [app1, hne]

section
variable {n : Sz} {w0 : World} {S0 F0 : BS} {get rd : Rd} {a : Act} {w : World} {S : BS} {fp : Tmp → BS}

/-- What was got of several operands. -/
structure Many (P : Program) (get : Rd) (a : Act) (w : World) (S : BS) (fp : Tmp → BS) (us : List Value) (vs : List V) (pt : Patch) (Sx : BS) (Fv : Nat → BS) : Prop where
  len : us.length = vs.length
  rep : ∀ i (h : i < vs.length), ∃ cs, us[i]? = some (vs[i].t.toV cs) ∧ Rep P vs[i].t w (BS.un S Sx) (Fv i) vs[i].x cs
  fv : ∀ i g, Fv i g → ∃ e, e ∈ pt ∧ fp e.1 g
  fvd : ∀ i j, i ≠ j → BS.dis (Fv i) (Fv j)
  sx : ∀ g, Sx g → ∃ e, e ∈ pt ∧ fp e.1 g
  sxd : ∀ i, BS.dis Sx (Fv i)
  keys : (pt.map (·.1)).Nodup
  ent : ∀ e, e ∈ pt → ∃ Fr, BS.sub Fr (fp e.1) ∧ BS.dis Sx Fr ∧ (∀ i, BS.dis (Fv i) Fr) ∧ e.2.1.solo = true ∧ SRep P w (BS.un S Sx) Fr get a.tmps e.2.1 (a.tmps.getD e.1 undef) ∧
    Turn (get e.1) (e.2.1, bump (get e.1).2 e.2.2) (a.tmps.getD e.1 undef) (a.tmps.getD e.1 undef)

theorem many_nil : Many P get a w S fp [] [] [] BS.bot (fun _ => BS.bot) :=
  ⟨rfl, fun i h => absurd h (Nat.not_lt_zero _), fun _ _ h => h.elim, fun _ _ _ => BS.dis_bot _, fun _ h => h.elim, fun _ => BS.dis_bot _, by simp, fun e h => by cases h⟩

theorem many_cons (h : SimX P n w0 S0 F0 get a w S fp) {u : Value} {us : List Value} {v : V} {vs : List V} {pt1 pt2 : Patch} {Fv1 Sx1 Sx2 : BS} {Fv2 : Nat → BS} (hg : Got P get a w S fp u v pt1 Fv1 Sx1) (hm : Many P get a w S fp us vs pt2 Sx2 Fv2)
    (hk : ∀ e1 e2, e1 ∈ pt1 → e2 ∈ pt2 → e1.1 ≠ e2.1) : Many P get a w S fp (u :: us) (v :: vs) (pt1 ++ pt2) (BS.un Sx1 Sx2) (fun i => match i with | 0 => Fv1 | i + 1 => Fv2 i) := by
  obtain ⟨cs, hu, hr, hc⟩ := hg
  have h1fv : ∀ g, Fv1 g → ∃ e, e ∈ pt1 ∧ fp e.1 g := by
    intro g hg
    rcases hc with ⟨_, rfl, _⟩ | ⟨j, s, b, Fr, rfl, _, _, _, hs1, _⟩
    · exact hg.elim
    · exact ⟨_, List.mem_singleton.2 rfl, hs1 g hg⟩
  have h1sx : ∀ g, Sx1 g → ∃ e, e ∈ pt1 ∧ fp e.1 g := by
    intro g hg
    rcases hc with ⟨_, _, rfl⟩ | ⟨j, s, b, Fr, rfl, _, _, _, _, _, hs1, _⟩
    · exact hg.elim
    · exact ⟨_, List.mem_singleton.2 rfl, hs1 g hg⟩
  have h1sf : BS.dis Sx1 Fv1 := by
    rcases hc with ⟨_, _, rfl⟩ | ⟨j, s, b, Fr, rfl, _, _, hd, _⟩
    · exact BS.bot_dis _
    · exact hd
  have cross : ∀ g, (∃ e, e ∈ pt1 ∧ fp e.1 g) → (∃ e, e ∈ pt2 ∧ fp e.1 g) → False := fun g ⟨e1, m1, f1⟩ ⟨e2, m2, f2⟩ => h.apart e1.1 e2.1 (hk e1 e2 m1 m2) g f1 f2
  refine ⟨by simp [hm.len], ?_, ?_, ?_, ?_, ?_, ?_, ?_⟩
  · intro i hi
    cases i with
    | zero => exact ⟨cs, by simp [hu], rep_mono _ hr (fun g hg => hg.imp id .inl) (BS.sub_refl _)⟩
    | succ i =>
      obtain ⟨cs', h1, h2⟩ := hm.rep i (by simpa using hi)
      exact ⟨cs', by simpa using h1, rep_mono _ h2 (fun g hg => hg.imp id .inr) (BS.sub_refl _)⟩
  · intro i g hg
    cases i with
    | zero => obtain ⟨e, m, f⟩ := h1fv g hg; exact ⟨e, List.mem_append_left _ m, f⟩
    | succ i => obtain ⟨e, m, f⟩ := hm.fv i g hg; exact ⟨e, List.mem_append_right _ m, f⟩
  · intro i j hij g h1 h2
    cases i with
    | zero =>
      cases j with
      | zero => exact hij rfl
      | succ j => exact cross g (h1fv g h1) (hm.fv j g h2)
    | succ i =>
      cases j with
      | zero => exact cross g (h1fv g h2) (hm.fv i g h1)
      | succ j => exact hm.fvd i j (fun e => hij (by rw [e])) g h1 h2
  · rintro g (hg | hg)
    · obtain ⟨e, m, f⟩ := h1sx g hg; exact ⟨e, List.mem_append_left _ m, f⟩
    · obtain ⟨e, m, f⟩ := hm.sx g hg; exact ⟨e, List.mem_append_right _ m, f⟩
  · rintro i g (hg | hg) h2
    · cases i with
      | zero => exact h1sf g hg h2
      | succ i => exact cross g (h1sx g hg) (hm.fv i g h2)
    · cases i with
      | zero => exact cross g (h1fv g h2) (hm.sx g hg)
      | succ i => exact hm.sxd i g hg h2
  · rw [List.map_append, List.nodup_append]
    refine ⟨?_, hm.keys, ?_⟩
    · rcases hc with ⟨rfl, _, _⟩ | ⟨j, s, b, Fr, rfl, _⟩ <;> simp
    · rintro x hx y hy rfl
      obtain ⟨e1, m1, rfl⟩ := List.mem_map.1 hx
      obtain ⟨e2, m2, h2⟩ := List.mem_map.1 hy
      exact hk e1 e2 m1 m2 h2.symm
  · intro e he
    rcases List.mem_append.1 he with he | he
    · rcases hc with ⟨rfl, _, _⟩ | ⟨j, s, b, Fr, rfl, hd1, hd2, hd3, hs1, hs2, hs3, hso, hsr, htn⟩
      · cases he
      · obtain rfl := List.mem_singleton.1 he
        have hj : ∀ g, Fr g → ∃ e, e ∈ [(j, s, b)] ∧ fp e.1 g := fun g hg => ⟨_, List.mem_singleton.2 rfl, hs2 g hg⟩
        refine ⟨Fr, hs2, ?_, ?_, hso, srep_mono hsr (fun g hg => hg.imp id .inl) (BS.sub_refl _), htn⟩
        · rintro g (h1 | h1) h2
          · exact hd2 g h1 h2
          · exact cross g (hj g h2) (hm.sx g h1)
        · intro i g h1 h2
          cases i with
          | zero => exact hd1 g h1 h2
          | succ i => exact cross g (hj g h2) (hm.fv i g h1)
    · obtain ⟨Fr, q1, q2, q3, q4, q5, q6⟩ := hm.ent e he
      have hj : ∀ g, Fr g → ∃ e, e ∈ pt2 ∧ fp e.1 g := fun g hg => ⟨e, he, q1 g hg⟩
      refine ⟨Fr, q1, ?_, ?_, q4, srep_mono q5 (fun g hg => hg.imp id .inr) (BS.sub_refl _), q6⟩
      · rintro g (h1 | h1) h2
        · exact cross g (h1sx g h1) (hj g h2)
        · exact q2 g h1 h2
      · intro i g h1 h2
        cases i with
        | zero => exact cross g (h1fv g h1) (hj g h2)
        | succ i => exact q3 i g h1 h2

/-- A slot is set out of what was got; memory may have grown. -/
theorem sim_many (h : SimX P n w0 S0 F0 get a w S fp) {us : List Value} {vs : List V} {pt : Patch} {Sx : BS} {Fv : Nat → BS} (hm : Many P get a w S fp us vs pt Sx Fv) (d : Tmp) (hd : d < n.sz) (hdj : noKey d pt = true) (u : Value) (s : Slot) (G Sy : BS) (w' : World) (B : BS)
    (hkp : Kp B w w') (hB : ∀ g, B g → ∃ i, Fv i g)
    (hG : ∀ g, G g → (∃ i, Fv i g) ∨ (w.heap.size ≤ g ∧ g < w'.heap.size)) (hSy : ∀ g, Sy g → (∃ i, Fv i g) ∨ (w.heap.size ≤ g ∧ g < w'.heap.size)) (hSG : BS.dis Sy G)
    (hs : SRep P w' (BS.un S (BS.un Sx Sy)) G (app1 (appP pt get) (d, s, .new)) (a.put (some d) u).tmps s u) :
    Sim P n w0 S0 F0 (appP (pt ++ [(d, s, .new)]) get) (a.put (some d) u) w' := by
  have hds : d < a.tmps.size := by rw [h.size]; exact hd
  have hdk : ∀ e, e ∈ pt → e.1 ≠ d := fun e he => by
    have := List.all_eq_true.1 hdj e he
    simpa using this
  rw [appP_snoc]
  have hfresh : ∀ t g, fp t g → ¬ (w.heap.size ≤ g) := fun t g hg => by have := (h.fpb t g hg).2; omega
  have hnB : ∀ t, (∀ e, e ∈ pt → e.1 ≠ t) → ∀ g, fp t g → ¬ B g := fun t ht g hg hb => by
    obtain ⟨i, hi⟩ := hB g hb
    obtain ⟨e, he, hf⟩ := hm.fv i g hi
    exact h.apart e.1 t (ht e he) g hf hg
  have hSB : ∀ g, S g → ¬ B g := fun g hg hb => by
    obtain ⟨i, hi⟩ := hB g hb
    obtain ⟨e, he, hf⟩ := hm.fv i g hi
    exact h.sapart e.1 g hg hf
  let T : Tmp → Prop := fun t => t = d ∨ ∃ e, e ∈ pt ∧ e.1 = t
  let Fr : Tmp → BS := fun t g => ∃ e, e ∈ pt ∧ e.1 = t ∧ ∀ F, (BS.sub F (fp e.1) ∧ BS.dis Sx F ∧ (∀ i, BS.dis (Fv i) F) ∧ e.2.1.solo = true ∧ SRep P w (BS.un S Sx) F get a.tmps e.2.1 (a.tmps.getD e.1 undef)) → F g
  -- what is left at a source: chosen
  have hch : ∀ t, (∃ e, e ∈ pt ∧ e.1 = t) → ∃ (e : Tmp × Slot × Bump) (F : BS), e ∈ pt ∧ e.1 = t ∧ BS.sub F (fp t) ∧ BS.dis Sx F ∧ (∀ i, BS.dis (Fv i) F) ∧ e.2.1.solo = true ∧ SRep P w (BS.un S Sx) F get a.tmps e.2.1 (a.tmps.getD t undef) ∧
      Turn (get t) (e.2.1, bump (get t).2 e.2.2) (a.tmps.getD t undef) (a.tmps.getD t undef) := by
    rintro t ⟨e, he, rfl⟩
    obtain ⟨F, q1, q2, q3, q4, q5, q6⟩ := hm.ent e he
    exact ⟨e, F, he, rfl, q1, q2, q3, q4, q5, q6⟩
  classical
  let GF : Tmp → BS := fun t => if ht : ∃ e, e ∈ pt ∧ e.1 = t then Classical.choose (Classical.choose_spec (hch t ht)) else BS.bot
  have hGF : ∀ t (ht : ∃ e, e ∈ pt ∧ e.1 = t), ∃ e : Tmp × Slot × Bump, e ∈ pt ∧ e.1 = t ∧ BS.sub (GF t) (fp t) ∧ BS.dis Sx (GF t) ∧ (∀ i, BS.dis (Fv i) (GF t)) ∧ e.2.1.solo = true ∧ SRep P w (BS.un S Sx) (GF t) get a.tmps e.2.1 (a.tmps.getD t undef) ∧
      Turn (get t) (e.2.1, bump (get t).2 e.2.2) (a.tmps.getD t undef) (a.tmps.getD t undef) := by
    intro t ht
    have := Classical.choose_spec (Classical.choose_spec (hch t ht))
    refine ⟨Classical.choose (hch t ht), ?_⟩
    simp only [GF, dif_pos ht]
    exact this
  have hkF : ∀ t (ht : ∃ e, e ∈ pt ∧ e.1 = t), KeepS (GF t) w w' := fun t ht g hg => by
    obtain ⟨e, he, het, q1, q2, q3, _⟩ := hGF t ht
    exact hkp.block g (h.fpb t g (q1 g hg)).2 (fun hb => by
      obtain ⟨i, hi⟩ := hB g hb
      exact q3 i g hi hg)
  have hkSx : KeepS (BS.un S Sx) w w' := fun g hg => by
    rcases hg with hg | hg
    · exact hkp.block g (h.sb g hg).2 (hSB g hg)
    · obtain ⟨e, he, hf⟩ := hm.sx g hg
      exact hkp.block g (h.fpb _ g hf).2 (fun hb => by
        obtain ⟨i, hi⟩ := hB g hb
        exact hm.sxd i g hg hi)
  refine ⟨_, _, sim_gen h T (fun t => if t = d then G else GF t) (BS.un Sx Sy) (by rw [put_defers]; exact h.defers) (by rw [put_size]; exact h.size) (hkp.mono (fun g hb => ?_)) ?_ ?_ ?_ ?_ ?_ ?_ ?_⟩
  · obtain ⟨i, hi⟩ := hB g hb
    obtain ⟨e, he, hf⟩ := hm.fv i g hi
    exact ⟨e.1, .inr ⟨e, he, rfl⟩, hf⟩
  · rintro t ht g hg
    by_cases htd : t = d
    · rw [if_pos htd] at hg
      rcases hG g hg with ⟨i, hi⟩ | hfr
      · obtain ⟨e, he, hf⟩ := hm.fv i g hi
        exact .inl ⟨e.1, .inr ⟨e, he, rfl⟩, hf⟩
      · exact .inr hfr
    · rw [if_neg htd] at hg
      have hk := ht.resolve_left htd
      obtain ⟨e, he, het, q1, _⟩ := hGF t hk
      exact .inl ⟨t, ht, q1 g hg⟩
  · intro t u' ht hu' hne g hg1 hg2
    have key : ∀ t, (∃ e, e ∈ pt ∧ e.1 = t) → G g → GF t g → False := fun t hk h1 h2 => by
      obtain ⟨e, he, het, q1, q2, q3, _⟩ := hGF t hk
      rcases hG g h1 with ⟨i, hi⟩ | ⟨hf, _⟩
      · exact q3 i g hi h2
      · exact hfresh t g (q1 g h2) hf
    by_cases htd : t = d
    · by_cases hud : u' = d
      · exact hne (htd.trans hud.symm)
      · rw [if_pos htd] at hg1; rw [if_neg hud] at hg2; exact key u' (hu'.resolve_left hud) hg1 hg2
    · by_cases hud : u' = d
      · rw [if_neg htd] at hg1; rw [if_pos hud] at hg2; exact key t (ht.resolve_left htd) hg2 hg1
      · rw [if_neg htd] at hg1; rw [if_neg hud] at hg2
        obtain ⟨e, he, het, q1, _⟩ := hGF t (ht.resolve_left htd)
        obtain ⟨e', he', het', q1', _⟩ := hGF u' (hu'.resolve_left hud)
        exact h.apart t u' hne g (q1 g hg1) (q1' g hg2)
  · rintro g (hg | hg)
    · obtain ⟨e, he, hf⟩ := hm.sx g hg
      exact .inl ⟨e.1, .inr ⟨e, he, rfl⟩, hf⟩
    · rcases hSy g hg with ⟨i, hi⟩ | hn
      · obtain ⟨e, he, hf⟩ := hm.fv i g hi
        exact .inl ⟨e.1, .inr ⟨e, he, rfl⟩, hf⟩
      · exact .inr hn
  · rintro t ht g hg1 hg2
    by_cases htd : t = d
    · rw [if_pos htd] at hg2
      rcases hg1 with hg1 | hg1
      · rcases hG g hg2 with ⟨i, hi⟩ | ⟨hf, _⟩
        · exact hm.sxd i g hg1 hi
        · obtain ⟨e, he, hff⟩ := hm.sx g hg1
          exact hfresh _ g hff hf
      · exact hSG g hg1 hg2
    · rw [if_neg htd] at hg2
      obtain ⟨e, he, het, q1, q2, q3, _⟩ := hGF t (ht.resolve_left htd)
      rcases hg1 with hg1 | hg1
      · exact q2 g hg1 hg2
      · rcases hSy g hg1 with ⟨i, hi⟩ | hn
        · exact q3 i g hi hg2
        · exact hfresh t g (q1 g hg2) hn.1
  · intro t ht
    have h1 : t ≠ d := fun e => ht (.inl e)
    have h2 : ∀ e, e ∈ pt → e.1 ≠ t := fun e he het => ht (.inr ⟨e, he, het⟩)
    exact ⟨by simp only [app1, if_neg h1]; exact appP_out pt get t h2, put_other a d t u h1⟩
  · intro t ht
    by_cases htd : t = d
    · subst htd
      have := appP_out pt get t hdk
      exact .inl (by simp [app1, this, bump])
    · obtain ⟨e, he, het, q1, q2, q3, q4, q5, q6⟩ := hGF t (ht.resolve_left htd)
      have hget : app1 (appP pt get) (d, s, .new) t = (e.2.1, bump (get t).2 e.2.2) := by
        simp only [app1, if_neg htd]
        rw [← het]
        exact appP_in pt get e hm.keys he
      rw [hget, put_other a d t u htd]
      exact q6
  · intro t ht
    by_cases htd : t = d
    · subst htd
      rw [put_same a t u hds, if_pos rfl]
      simpa [app1] using hs
    · obtain ⟨e, he, het, q1, q2, q3, q4, q5, q6⟩ := hGF t (ht.resolve_left htd)
      have hget : app1 (appP pt get) (d, s, .new) t = (e.2.1, bump (get t).2 e.2.2) := by
        simp only [app1, if_neg htd]
        rw [← het]
        exact appP_in pt get e hm.keys he
      rw [hget, put_other a d t u htd, if_neg htd]
      exact srep_mono (srep_solo q4 q5 hkSx (hkF t (ht.resolve_left htd))) (fun g hg => hg.imp id .inl) (BS.sub_refl _)

/-! #### getting several -/
def gotV (rd : Rd) (m : Bool) (hint : Option Ty) (x : Operand) : Option (V × Patch) := if m then takeV rd hint x else shareV rd hint x
def keysApart (pt pt' : Patch) : Bool := pt.all fun e => pt'.all fun e' => e.1 != e'.1
def manyV (rd : Rd) : List (Bool × Option Ty × Operand) → Option (List V × Patch)
  | [] => some ([], [])
  | (m, hint, x) :: r => (gotV rd m hint x).bind fun q => (manyV rd r).bind fun q' => if keysApart q.2 q'.2 then some (q.1 :: q'.1, q.2 ++ q'.2) else none

theorem got_got (h : SimX P n w0 S0 F0 get a w S fp) (hb : Below rd get) {m : Bool} {hint : Option Ty} {x : Operand} {v : V} {pt : Patch} (ht : gotV rd m hint x = some (v, pt)) : ∃ Fv Sx, Got P get a w S fp (a.eval x) v pt Fv Sx := by
  unfold gotV at ht
  cases m with
  | true => obtain ⟨Fv, hg⟩ := take_got h hb (by simpa using ht); exact ⟨Fv, _, hg⟩
  | false => obtain ⟨Sx, hg⟩ := share_got h hb (by simpa using ht); exact ⟨_, Sx, hg⟩

theorem many_got (h : SimX P n w0 S0 F0 get a w S fp) (hb : Below rd get) : ∀ {l : List (Bool × Option Ty × Operand)} {vs : List V} {pt : Patch}, manyV rd l = some (vs, pt) → ∃ Sx Fv, Many P get a w S fp (l.map fun q => a.eval q.2.2) vs pt Sx Fv := by
  intro l
  induction l with
  | nil =>
    intro vs pt hm
    simp only [manyV, Option.some.injEq, Prod.mk.injEq] at hm
    obtain ⟨rfl, rfl⟩ := hm
    exact ⟨_, _, many_nil⟩
  | cons q l ih =>
    obtain ⟨m, hint, x⟩ := q
    intro vs pt hm
    simp only [manyV, Option.bind_eq_some_iff] at hm
    obtain ⟨⟨v, pt1⟩, h1, ⟨vs2, pt2⟩, h2, hm⟩ := hm
    by_cases hk : keysApart pt1 pt2 = true
    · rw [if_pos hk] at hm
      simp only [Option.some.injEq, Prod.mk.injEq] at hm
      obtain ⟨rfl, rfl⟩ := hm
      obtain ⟨Fv1, Sx1, hg⟩ := got_got h hb h1
      obtain ⟨Sx2, Fv2, hm2⟩ := ih h2
      exact ⟨_, _, many_cons h hg hm2 (fun e1 e2 m1 m2 => by
        have := List.all_eq_true.1 (List.all_eq_true.1 hk e1 m1) e2 m2
        simpa using this)⟩
    · rw [if_neg hk] at hm
      cases hm
end
end Go.Tv
