/-
  Calls that change what an argument leads to. Conditions: none; plain definitions and lemmas.
-/
import Derived.Test.YtgdchicpmjmhaaaTvQ
namespace Go.Tv
set_option linter.unusedVariables false
set_option linter.unusedSimpArgs false
variable {P : Program}
section
variable {n : Sz} {w0 : World} {S0 F0 : BS} {get rd : Rd} {a : Act} {w : World} {S : BS} {fp : Tmp → BS}

/-- As 'sim_many', one slot j more being turned. -/
theorem sim_many2 (h : SimX P n w0 S0 F0 get a w S fp) {us : List Value} {vs : List V} {pt : Patch} {Sx : BS} {Fv : Nat → BS} (hm : Many P get a w S fp us vs pt Sx Fv) (d : Tmp) (hd : d < n.sz) (hdj : noKey d pt = true) (u : Value) (s : Slot) (G Sy : BS) (w' : World) (B : BS)
    (j : Tmp) (hjd : j ≠ d) (hjp : noKey j pt = true) (sj : Slot) (bj : Bump) (Gj : BS)
    (hkp : Kp B w w') (hB : ∀ g, B g → (∃ i, Fv i g) ∨ fp j g)
    (hG : ∀ g, G g → (∃ i, Fv i g) ∨ fp j g ∨ (w.heap.size ≤ g ∧ g < w'.heap.size)) (hGj : ∀ g, Gj g → (∃ i, Fv i g) ∨ fp j g ∨ (w.heap.size ≤ g ∧ g < w'.heap.size))
    (hSy : ∀ g, Sy g → (∃ i, Fv i g) ∨ fp j g ∨ (w.heap.size ≤ g ∧ g < w'.heap.size)) (hSG : BS.dis Sy G) (hSGj : BS.dis Sy Gj) (hGG : BS.dis Gj G)
    (hs : s.solo = true ∧ SRep P w' (BS.un S (BS.un Sx Sy)) G emp #[] s u) (hsj : sj.solo = true ∧ SRep P w' (BS.un S (BS.un Sx Sy)) Gj emp #[] sj (a.tmps.getD j undef))
    (htj : Turn (get j) (sj, bump (get j).2 bj) (a.tmps.getD j undef) (a.tmps.getD j undef)) :
    Sim P n w0 S0 F0 (appP (pt ++ [(j, sj, bj), (d, s, .new)]) get) (a.put (some d) u) w' := by
  have hds : d < a.tmps.size := by rw [h.size]; exact hd
  have hdk : ∀ e, e ∈ pt → e.1 ≠ d := fun e he => by
    have := List.all_eq_true.1 hdj e he
    simpa using this
  have hjk : ∀ e, e ∈ pt → e.1 ≠ j := fun e he => by
    have := List.all_eq_true.1 hjp e he
    simpa using this
  have hfresh : ∀ t g, fp t g → ¬ (w.heap.size ≤ g) := fun t g hg => by have := (h.fpb t g hg).2; omega
  have hFj : ∀ i g, Fv i g → ¬ fp j g := fun i g hg hf => by
    obtain ⟨e, he, hfe⟩ := hm.fv i g hg
    exact h.apart e.1 j (hjk e he) g hfe hf
  have hnB : ∀ t, (∀ e, e ∈ pt → e.1 ≠ t) → t ≠ j → ∀ g, fp t g → ¬ B g := fun t ht htj g hg hb => by
    rcases hB g hb with ⟨i, hi⟩ | hi
    · obtain ⟨e, he, hf⟩ := hm.fv i g hi
      exact h.apart e.1 t (ht e he) g hf hg
    · exact h.apart t j htj g hg hi
  have hSB : ∀ g, S g → ¬ B g := fun g hg hb => by
    rcases hB g hb with ⟨i, hi⟩ | hi
    · obtain ⟨e, he, hf⟩ := hm.fv i g hi
      exact h.sapart e.1 g hg hf
    · exact h.sapart j g hg hi
  let T : Tmp → Prop := fun t => t = d ∨ t = j ∨ ∃ e, e ∈ pt ∧ e.1 = t
  have hch : ∀ t, (∃ e, e ∈ pt ∧ e.1 = t) → ∃ (e : Tmp × Slot × Bump) (F : BS), e ∈ pt ∧ e.1 = t ∧ BS.sub F (fp t) ∧ BS.dis Sx F ∧ (∀ i, BS.dis (Fv i) F) ∧ e.2.1.solo = true ∧ SRep P w (BS.un S Sx) F get a.tmps e.2.1 (a.tmps.getD t undef) ∧
      Turn (get t) (e.2.1, bump (get t).2 e.2.2) (a.tmps.getD t undef) (a.tmps.getD t undef) := by
    rintro t ⟨e, he, rfl⟩
    obtain ⟨F, q1, q2, q3, q4, q5, q6⟩ := hm.ent e he
    exact ⟨e, F, he, rfl, q1, q2, q3, q4, q5, q6⟩
  classical
  let GF : Tmp → BS := fun t => if ht : ∃ e, e ∈ pt ∧ e.1 = t then Classical.choose (Classical.choose_spec (hch t ht)) else BS.bot
  have hGF : ∀ t (ht : ∃ e, e ∈ pt ∧ e.1 = t), ∃ e : Tmp × Slot × Bump, e ∈ pt ∧ e.1 = t ∧ BS.sub (GF t) (fp t) ∧ BS.dis Sx (GF t) ∧ (∀ i, BS.dis (Fv i) (GF t)) ∧ e.2.1.solo = true ∧ SRep P w (BS.un S Sx) (GF t) get a.tmps e.2.1 (a.tmps.getD t undef) ∧
      Turn (get t) (e.2.1, bump (get t).2 e.2.2) (a.tmps.getD t undef) (a.tmps.getD t undef) := by
    intro t ht
    have := Classical.choose_spec (Classical.choose_spec (hch t ht))
    refine ⟨Classical.choose (hch t ht), ?_⟩
    simp only [GF, dif_pos ht]
    exact this
  have hgj : ∀ t, (∃ e, e ∈ pt ∧ e.1 = t) → t ≠ j := by rintro t ⟨e, he, rfl⟩; exact hjk e he
  have hkF : ∀ t (ht : ∃ e, e ∈ pt ∧ e.1 = t), KeepS (GF t) w w' := fun t ht g hg => by
    obtain ⟨e, he, het, q1, q2, q3, _⟩ := hGF t ht
    exact hkp.block g (h.fpb t g (q1 g hg)).2 (fun hb => by
      rcases hB g hb with ⟨i, hi⟩ | hi
      · exact q3 i g hi hg
      · exact h.apart t j (hgj t ht) g (q1 g hg) hi)
  have hkSx : KeepS (BS.un S Sx) w w' := fun g hg => by
    rcases hg with hg | hg
    · exact hkp.block g (h.sb g hg).2 (hSB g hg)
    · obtain ⟨e, he, hf⟩ := hm.sx g hg
      exact hkp.block g (h.fpb _ g hf).2 (fun hb => by
        rcases hB g hb with ⟨i, hi⟩ | hi
        · exact hm.sxd i g hg hi
        · exact h.apart e.1 j (hjk e he) g hf hi)
  have hloc : ∀ g, ((∃ i, Fv i g) ∨ fp j g ∨ (w.heap.size ≤ g ∧ g < w'.heap.size)) → (∃ u, T u ∧ fp u g) ∨ (w.heap.size ≤ g ∧ g < w'.heap.size) := by
    rintro g (⟨i, hi⟩ | hi | hn)
    · obtain ⟨e, he, hf⟩ := hm.fv i g hi
      exact .inl ⟨e.1, .inr (.inr ⟨e, he, rfl⟩), hf⟩
    · exact .inl ⟨j, .inr (.inl rfl), hi⟩
    · exact .inr hn
  -- what lies in something new or handed over is in no source's rest
  have key : ∀ t, (∃ e, e ∈ pt ∧ e.1 = t) → ∀ g, ((∃ i, Fv i g) ∨ fp j g ∨ (w.heap.size ≤ g ∧ g < w'.heap.size)) → GF t g → False := fun t hk g h1 h2 => by
    obtain ⟨e, he, het, q1, q2, q3, _⟩ := hGF t hk
    rcases h1 with ⟨i, hi⟩ | hi | ⟨hf, _⟩
    · exact q3 i g hi h2
    · exact h.apart t j (hgj t hk) g (q1 g h2) hi
    · exact hfresh t g (q1 g h2) hf
  have keyS : ∀ g, Sx g → ((∃ i, Fv i g) ∨ fp j g ∨ (w.heap.size ≤ g ∧ g < w'.heap.size)) → False := fun g hg h1 => by
    obtain ⟨e, he, hf⟩ := hm.sx g hg
    rcases h1 with ⟨i, hi⟩ | hi | ⟨hn, _⟩
    · exact hm.sxd i g hg hi
    · exact h.apart e.1 j (hjk e he) g hf hi
    · exact hfresh _ g hf hn
  have happ : ∀ t, appP (pt ++ [(j, sj, bj), (d, s, .new)]) get t = app1 (app1 (appP pt get) (j, sj, bj)) (d, s, .new) t := fun t => by simp [appP]
  have hgd : app1 (app1 (appP pt get) (j, sj, bj)) (d, s, .new) d = (s, bump (get d).2 .new) := by
    have h1 : app1 (appP pt get) (j, sj, bj) d = get d := by
      simp only [app1, if_neg (Ne.symm hjd)]
      exact appP_out pt get d hdk
    show (if d = d then (s, bump (app1 (appP pt get) (j, sj, bj) d).2 .new) else _) = _
    rw [if_pos rfl, h1]
  have hgjj : app1 (app1 (appP pt get) (j, sj, bj)) (d, s, .new) j = (sj, bump (get j).2 bj) := by
    have h1 : appP pt get j = get j := appP_out pt get j hjk
    simp only [app1, if_neg hjd, if_true, h1]
  have hgt : ∀ e, e ∈ pt → app1 (app1 (appP pt get) (j, sj, bj)) (d, s, .new) e.1 = (e.2.1, bump (get e.1).2 e.2.2) := fun e he => by
    simp only [app1, if_neg (hdk e he), if_neg (hjk e he)]
    exact appP_in pt get e hm.keys he
  have hfun : appP (pt ++ [(j, sj, bj), (d, s, .new)]) get = app1 (app1 (appP pt get) (j, sj, bj)) (d, s, .new) := funext happ
  rw [hfun]
  refine ⟨_, _, sim_gen h T (fun t => if t = d then G else if t = j then Gj else GF t) (BS.un Sx Sy) (by rw [put_defers]; exact h.defers) (by rw [put_size]; exact h.size) (hkp.mono (fun g hb => ?_)) ?_ ?_ ?_ ?_ ?_ ?_ ?_⟩
  · rcases hB g hb with ⟨i, hi⟩ | hi
    · obtain ⟨e, he, hf⟩ := hm.fv i g hi
      exact ⟨e.1, .inr (.inr ⟨e, he, rfl⟩), hf⟩
    · exact ⟨j, .inr (.inl rfl), hi⟩
  · rintro t ht g hg
    by_cases htd : t = d
    · rw [if_pos htd] at hg; exact hloc g (hG g hg)
    · rw [if_neg htd] at hg
      by_cases htj : t = j
      · rw [if_pos htj] at hg; exact hloc g (hGj g hg)
      · rw [if_neg htj] at hg
        have hk := (ht.resolve_left htd).resolve_left htj
        obtain ⟨e, he, het, q1, _⟩ := hGF t hk
        exact .inl ⟨t, ht, q1 g hg⟩
  · intro t u' ht hu' hne g hg1 hg2
    by_cases htd : t = d
    · rw [if_pos htd] at hg1
      by_cases hud : u' = d
      · exact hne (htd.trans hud.symm)
      · rw [if_neg hud] at hg2
        by_cases huj : u' = j
        · rw [if_pos huj] at hg2; exact hGG g hg2 hg1
        · rw [if_neg huj] at hg2; exact key u' ((hu'.resolve_left hud).resolve_left huj) g (hG g hg1) hg2
    · rw [if_neg htd] at hg1
      by_cases htj' : t = j
      · rw [if_pos htj'] at hg1
        by_cases hud : u' = d
        · rw [if_pos hud] at hg2; exact hGG g hg1 hg2
        · rw [if_neg hud] at hg2
          by_cases huj : u' = j
          · exact hne (htj'.trans huj.symm)
          · rw [if_neg huj] at hg2; exact key u' ((hu'.resolve_left hud).resolve_left huj) g (hGj g hg1) hg2
      · rw [if_neg htj'] at hg1
        have hk := (ht.resolve_left htd).resolve_left htj'
        by_cases hud : u' = d
        · rw [if_pos hud] at hg2; exact key t hk g (hG g hg2) hg1
        · rw [if_neg hud] at hg2
          by_cases huj : u' = j
          · rw [if_pos huj] at hg2; exact key t hk g (hGj g hg2) hg1
          · rw [if_neg huj] at hg2
            obtain ⟨e, he, het, q1, _⟩ := hGF t hk
            obtain ⟨e', he', het', q1', _⟩ := hGF u' ((hu'.resolve_left hud).resolve_left huj)
            exact h.apart t u' hne g (q1 g hg1) (q1' g hg2)
  · rintro g (hg | hg)
    · obtain ⟨e, he, hf⟩ := hm.sx g hg
      exact .inl ⟨e.1, .inr (.inr ⟨e, he, rfl⟩), hf⟩
    · exact hloc g (hSy g hg)
  · rintro t ht g hg1 hg2
    by_cases htd : t = d
    · rw [if_pos htd] at hg2
      rcases hg1 with hg1 | hg1
      · exact keyS g hg1 (hG g hg2)
      · exact hSG g hg1 hg2
    · rw [if_neg htd] at hg2
      by_cases htj' : t = j
      · rw [if_pos htj'] at hg2
        rcases hg1 with hg1 | hg1
        · exact keyS g hg1 (hGj g hg2)
        · exact hSGj g hg1 hg2
      · rw [if_neg htj'] at hg2
        have hk := (ht.resolve_left htd).resolve_left htj'
        obtain ⟨e, he, het, q1, q2, _⟩ := hGF t hk
        rcases hg1 with hg1 | hg1
        · exact q2 g hg1 hg2
        · exact key t hk g (hSy g hg1) hg2
  · intro t ht
    have h1 : t ≠ d := fun e => ht (.inl e)
    have h2 : t ≠ j := fun e => ht (.inr (.inl e))
    have h3 : ∀ e, e ∈ pt → e.1 ≠ t := fun e he het => ht (.inr (.inr ⟨e, he, het⟩))
    exact ⟨by simp only [app1, if_neg h1, if_neg h2]; exact appP_out pt get t h3, put_other a d t u h1⟩
  · intro t ht
    by_cases htd : t = d
    · subst htd
      rw [hgd]
      exact .inl (by simp [bump])
    · rw [put_other a d t u htd]
      by_cases htj' : t = j
      · subst htj'; rw [hgjj]; exact htj
      · obtain ⟨e, he, het, q1, q2, q3, q4, q5, q6⟩ := hGF t ((ht.resolve_left htd).resolve_left htj')
        have := hgt e he
        rw [het] at this
        rw [this]
        exact q6
  · intro t ht
    by_cases htd : t = d
    · subst htd
      rw [put_same a t u hds, if_pos rfl, hgd]
      exact srep_solo_ctx hs.1 hs.2
    · rw [put_other a d t u htd, if_neg htd]
      by_cases htj' : t = j
      · subst htj'
        rw [if_pos rfl, hgjj]
        exact srep_solo_ctx hsj.1 hsj.2
      · rw [if_neg htj']
        have hk := (ht.resolve_left htd).resolve_left htj'
        obtain ⟨e, he, het, q1, q2, q3, q4, q5, q6⟩ := hGF t hk
        have := hgt e he
        rw [het] at this
        rw [this]
        exact srep_mono (srep_solo q4 q5 hkSx (hkF t hk)) (fun g hg => hg.imp id .inl) (BS.sub_refl _)
end
end Go.Tv
