/-
  A loop over a function, gone through on slots. Conditions: none; plain definitions and lemmas.
-/
import Derived.Test.YtgdchicpmjmhaaaTvEv
namespace Go.Tv
set_option linter.unusedVariables false
set_option linter.unusedSimpArgs false
variable {P : Program}

/-! ### frames within frames -/
section
variable {n m : Nat} {mks mks' mk : List Nat} {w0 w w' : World} {S0 F0 S1 F1 S S' : BS} {get get' get'' : Rd} {a a' a'' : Act} {fp fp' : Tmp → BS}

open Classical in
/-- what a frame that began within another one leaves to it -/
theorem sim_frame (h : SimX P ⟨n, mks⟩ w0 S0 F0 get a w S fp) (h' : SimX P ⟨m, mks'⟩ w S1 F1 get' a' w' S' fp')
    (hS1 : S1.sub S) (hF1 : ∀ g, F1 g → ∃ t, fp t g) (T : Tmp → Prop) (hsz : a''.tmps.size = n) (hmk : mk = mks ∨ mk = mks' ++ mks) (hdef : a''.defers = (Sz.mk n mk).dfs)
    (hT : ∀ t, T t → (get'' t).1.solo = true ∧ SRep P w' S' (fp' t) get'' a''.tmps (get'' t).1 (a''.tmps.getD t undef))
    (hN : ∀ t, ¬ T t → (get'' t).1 = .undef ∨ ∃ v F, v.t.free = true ∧ (get'' t).1 = .val v ∧ SRep P w S F get a.tmps (.val v) (a''.tmps.getD t undef)) :
    SimX P ⟨n, mk⟩ w0 S0 F0 get'' a'' w' (BS.un S S') (fun t => if T t then fp' t else BS.bot) := by
  have hSF1 : ∀ g, S g → ¬ F1 g := fun g hg hf => by obtain ⟨t, ht⟩ := hF1 g hf; exact h.sapart t g hg ht
  have hkS : KeepS S w w' := fun g hg => h'.kp.block g (h.sb g hg).2 (hSF1 g hg)
  have hF0 : ∀ g, F1 g → F0 g ∨ w0.heap.size ≤ g := fun g hf => by obtain ⟨t, ht⟩ := hF1 g hf; exact (h.fpb t g ht).1
  have hle := h.kp.size
  have hle' := h'.kp.size
  refine ⟨hdef, hsz, fun t => ?_, fun t u htu => ?_, fun t => ?_, fun t g hg => ?_, fun g hg => ?_, ?_, ?_⟩
  · by_cases ht : T t
    · rw [if_pos ht]
      exact srep_mono (hT t ht).2 (fun g hg => .inr hg) (BS.sub_refl _)
    · rw [if_neg ht]
      rcases hN t ht with he | ⟨v, F, hf, he, cs, hu, hr⟩
      · rw [he]; trivial
      · rw [he]
        exact ⟨cs, hu, rep_mono _ (rep_keep _ (rep_free v.t hf hr) hkS (fun _ hx => hx.elim)) (fun g hg => .inl hg) (BS.sub_refl _)⟩
  · by_cases ht : T t
    · by_cases hu : T u
      · rw [if_pos ht, if_pos hu]; exact h'.apart t u htu
      · rw [if_neg hu]; exact BS.dis_bot _
    · rw [if_neg ht]; exact BS.bot_dis _
  · by_cases ht : T t
    · rw [if_pos ht]
      rintro g (hg | hg) hf
      · rcases (h'.fpb t g hf).1 with h1 | h1
        · exact hSF1 g hg h1
        · have := (h.sb g hg).2; omega
      · exact h'.sapart t g hg hf
    · rw [if_neg ht]; exact BS.dis_bot _
  · by_cases ht : T t
    · rw [if_pos ht] at hg
      obtain ⟨q1, q2⟩ := h'.fpb t g hg
      refine ⟨?_, q2⟩
      rcases q1 with q1 | q1
      · exact hF0 g q1
      · exact .inr (by omega)
    · rw [if_neg ht] at hg; exact hg.elim
  · rcases hg with hg | hg
    · have := h.sb g hg
      exact ⟨this.1, by omega⟩
    · obtain ⟨q1, q2⟩ := h'.sb g hg
      refine ⟨?_, q2⟩
      rcases q1 with q1 | q1 | q1
      · exact (h.sb g (hS1 g q1)).1
      · exact (hF0 g q1).elim (fun x => .inr (.inl x)) (fun x => .inr (.inr x))
      · exact .inr (.inr (by omega))
  · exact h.kp.trans h'.kp (fun g hl hf => (hF0 g hf).resolve_right (by omega))
  · have old : ∀ D ∈ mks, w'.heap[D]? = some (.deferred (some [])) ∧ w0.heap.size ≤ D ∧ ¬ BS.un S S' D ∧ ∀ t, ¬ (if T t then fp' t else BS.bot) D := fun D hD => by
      obtain ⟨q1, q2, q3, q4⟩ := h.marks.2 D hD
      have hlt : D < w.heap.size := (Array.getElem?_eq_some_iff.1 q1).1
      have hnF : ¬ F1 D := fun hf => by obtain ⟨t, ht⟩ := hF1 D hf; exact q4 t ht
      refine ⟨(h'.kp.block D hlt hnF).trans q1, q2, ?_, fun t hf => ?_⟩
      · rintro (hg | hg)
        · exact q3 hg
        · rcases (h'.sb D hg).1 with h1 | h1 | h1
          · exact q3 (hS1 D h1)
          · exact hnF h1
          · omega
      · by_cases ht : T t
        · rw [if_pos ht] at hf
          rcases (h'.fpb t D hf).1 with h1 | h1
          · exact hnF h1
          · omega
        · rw [if_neg ht] at hf; exact hf
    rcases hmk with rfl | rfl
    · exact ⟨h.marks.1, old⟩
    · refine ⟨List.nodup_append.2 ⟨h'.marks.1, h.marks.1, fun D hD D' hD' e => ?_⟩, fun D hD => ?_⟩
      · subst e
        have h1 := (h'.marks.2 D hD).2.1
        have h2 := (Array.getElem?_eq_some_iff.1 (h.marks.2 D hD').1).1
        omega
      · rcases List.mem_append.1 hD with hD | hD
        · obtain ⟨q1, q2, q3, q4⟩ := h'.marks.2 D hD
          refine ⟨q1, by omega, ?_, fun t hf => ?_⟩
          · rintro (hg | hg)
            · have := (h.sb D hg).2; omega
            · exact q3 hg
          · by_cases ht : T t
            · rw [if_pos ht] at hf; exact q4 t hf
            · rw [if_neg ht] at hf; exact hf
        · exact old D hD

/-- what lies apart from a frame may turn -/
theorem sim_kept {G : BS} (h : SimX P ⟨n, mks⟩ w0 S0 F0 get a w S fp) (hk : Kp G w w') (hG0 : ∀ g, G g → g < w0.heap.size → F0 g) (hGS : ∀ g, G g → ¬ S g) (hGf : ∀ t g, G g → ¬ fp t g) (hGm : ∀ D ∈ mks, ¬ G D) :
    SimX P ⟨n, mks⟩ w0 S0 F0 get a w' S fp := by
  have hS : KeepS S w w' := fun g hg => hk.block g (h.sb g hg).2 (fun x => hGS g x hg)
  have hF : ∀ t, KeepS (fp t) w w' := fun t g hg => hk.block g (h.fpb t g hg).2 (fun x => hGf t g x hg)
  have hle := hk.size
  refine ⟨h.defers, h.size, fun t => srep_keep (h.slot t) hS (hF t) (fun j => ⟨fp j, h.slot j, hF j⟩), h.apart, h.sapart, fun t g hg => ?_, fun g hg => ?_, ?_, h.marks.1, fun D hD => ?_⟩
  · have := h.fpb t g hg; exact ⟨this.1, by omega⟩
  · have := h.sb g hg; exact ⟨this.1, by omega⟩
  · exact h.kp.trans hk (fun g hl hg => hG0 g hg hl)
  · obtain ⟨q1, q2, q3, q4⟩ := h.marks.2 D hD
    exact ⟨(hk.block D (Array.getElem?_eq_some_iff.1 q1).1 (hGm D hD)).trans q1, q2, q3, q4⟩
theorem kp_putObj (w : World) (l : Nat) (o : Obj) : Kp (fun g => g = l) w (w.putObj l o) := ⟨rfl, rfl, rfl, by simp, fun g _ hg => World.putObj_heap_other hg⟩

/-- one block turns, in the frame's first memory and in its last -/
theorem sim_put2 {l : Nat} (o : Obj) (h : SimX P ⟨n, []⟩ w0 S0 F0 get a w S fp) (hlS : ¬ S l) (hlf : ∀ t, ¬ fp t l) :
    SimX P ⟨n, []⟩ (w0.putObj l o) S0 F0 get a (w.putObj l o) S fp := by
  have hS : KeepS S w (w.putObj l o) := fun g hg => World.putObj_heap_other (fun e => hlS (e ▸ hg))
  have hF : ∀ t, KeepS (fp t) w (w.putObj l o) := fun t g hg => World.putObj_heap_other (fun e => hlf t (e ▸ hg))
  have e0 : (w0.putObj l o).heap.size = w0.heap.size := by simp
  have e1 : (w.putObj l o).heap.size = w.heap.size := by simp
  refine ⟨h.defers, h.size, fun t => srep_keep (h.slot t) hS (hF t) (fun j => ⟨fp j, h.slot j, hF j⟩), h.apart, h.sapart, fun t g hg => by rw [e0, e1]; exact h.fpb t g hg, fun g hg => by rw [e0, e1]; exact h.sb g hg, ?_, h.marks.1, fun D hD => by cases hD⟩
  refine ⟨h.kp.os, h.kp.tape, h.kp.output, by rw [e0, e1]; exact h.kp.size, fun g hl hf => ?_⟩
  rw [e0] at hl
  by_cases hg : g = l
  · subst hg
    rw [World.putObj_heap_same hl, World.putObj_heap_same (Nat.lt_of_lt_of_le hl h.kp.size)]
  · rw [World.putObj_heap_other hg, World.putObj_heap_other hg]; exact h.kp.block g hl hf

/-- a frame that begins here -/
theorem sim_rebase (h : SimX P ⟨n, []⟩ w0 S0 F0 get a w S fp) : SimX P ⟨n, []⟩ w S (fun g => ∃ t, fp t g) get a w S fp :=
  ⟨h.defers, h.size, h.slot, h.apart, h.sapart, fun t g hg => ⟨.inl ⟨t, hg⟩, (h.fpb t g hg).2⟩, fun g hg => ⟨.inl hg, (h.sb g hg).2⟩, Kp.refl _ _, List.nodup_nil, fun D hD => by cases hD⟩
end

/-! ### what a round finds in the loop's variables -/
def rdF : (t : Ty) → List Tmp → t.den → Fr
  | .prod a b, p :: ps, x => (p, .val ⟨a, x.1⟩, 0, 0) :: rdF b ps x.2
  | _, _, _ => []
def argLen : Ty → Nat
  | .prod _ b => argLen b + 1
  | _ => 0
theorem argsOf_len : ∀ (t : Ty) (cs : List Value), (argsOf t cs).length = argLen t := by
  intro t
  induction t with
  | prod a b _ ihb => intro cs; simp [argsOf, argLen, ihb]
  | _ => intro cs; rfl
theorem fr_get_cons_ne {k t : Tmp} {e : Ent} {r : Fr} (h : t ≠ k) : Fr.get ((k, e) :: r) t = Fr.get r t := by simp [Fr.get, h]
theorem foldl_set_size : ∀ (l : List (Tmp × Value)) (ts : Array Value), (l.foldl (fun tmps (q : Tmp × Value) => tmps.setIfInBounds q.1 q.2) ts).size = ts.size
  | [], ts => rfl
  | q :: l, ts => by simp only [List.foldl_cons]; rw [foldl_set_size l]; simp
theorem foldl_set_out : ∀ (l : List (Tmp × Value)) (ts : Array Value) (t : Tmp), t ∉ l.map (·.1) → (l.foldl (fun tmps (q : Tmp × Value) => tmps.setIfInBounds q.1 q.2) ts).getD t undef = ts.getD t undef
  | [], ts, t, _ => rfl
  | q :: l, ts, t, h => by
    simp only [List.map_cons, List.mem_cons, not_or] at h
    simp only [List.foldl_cons]
    rw [foldl_set_out l _ t h.2]
    simp [Array.getD_eq_getD_getElem?, Array.getElem?_setIfInBounds, Ne.symm h.1]
theorem rdF_get {w : World} {S : BS} {get : Rd} {tmps' : Array Value} : ∀ (t : Ty) (ps : List Tmp) (x : t.den) (c : List Value) (ts : Array Value) (rest : Fr), Rep P t w S BS.bot x c → ps.Nodup → (∀ p ∈ ps, p < ts.size) → ∀ q,
    (q ∈ ps ∧ ∃ v, (Fr.get (rdF t ps x ++ rest) q).1 = .val v ∧ SRep P w S BS.bot get tmps' (.val v) (((ps.zip (argsOf t c)).foldl (fun tmps (q : Tmp × Value) => tmps.setIfInBounds q.1 q.2) ts).getD q undef)) ∨
    Fr.get (rdF t ps x ++ rest) q = Fr.get rest q := by
  intro t
  induction t with
  | prod a b iha ihb =>
    intro ps x c ts rest hr hnd hlt q
    cases ps with
    | nil => right; rfl
    | cons p ps =>
      obtain ⟨c1, c2, F1, F2, rfl, h1, h2, hd, hF1, hF2⟩ := hr
      have hl1 := rep_len _ h1
      have e1 : (c1 ++ c2).take a.sz = c1 := List.take_left' hl1
      have e2 : (c1 ++ c2).drop a.sz = c2 := List.drop_left' hl1
      simp only [rdF, argsOf, e1, e2, List.zip_cons_cons, List.foldl_cons, List.cons_append]
      rw [List.nodup_cons] at hnd
      by_cases hq : q = p
      · subst hq
        left
        refine ⟨List.mem_cons_self, ⟨a, x.1⟩, by simp [Fr.get], ?_⟩
        rw [foldl_set_out _ _ _ (fun hm => hnd.1 (by
          obtain ⟨z, hz, rfl⟩ := List.mem_map.1 hm
          exact (List.of_mem_zip (show (z.1, z.2) ∈ _ from hz)).1))]
        have hlt' := hlt q List.mem_cons_self
        refine ⟨c1, ?_, rep_mono _ h1 (BS.sub_refl _) hF1⟩
        simp [Array.getD_eq_getD_getElem?, hlt']
      · rw [fr_get_cons_ne hq]
        rcases ihb ps x.2 c2 (ts.setIfInBounds p (a.toV c1)) rest (rep_mono _ h2 (BS.sub_refl _) hF2) hnd.2 (fun p' hp' => by simpa using hlt p' (List.mem_cons_of_mem _ hp')) q with ⟨hm, v, g1, g2⟩ | g
        · exact .inl ⟨List.mem_cons_of_mem _ hm, v, g1, g2⟩
        · exact .inr g
  | _ => intro ps x c ts rest hr hnd hlt q; right; cases ps <;> rfl

/-! ### the loop -/
def isBoxE (e : Tmp × Ent) : Bool := match e.2.1 with | .box _ => true | _ => false
def isFreeE (e : Tmp × Ent) : Bool := match e.2.1 with | .val v => v.t.free | _ => false
theorem get_mem : ∀ (τ : Fr) (t : Tmp), t ∈ τ.map (·.1) → ∃ e, (t, e) ∈ τ ∧ τ.get t = e
  | [], t, h => by cases h
  | (k, e) :: r, t, h => by
    by_cases ht : t = k
    · subst ht; exact ⟨e, List.mem_cons_self, by simp [Fr.get]⟩
    · obtain ⟨e', h1, h2⟩ := get_mem r t (by simpa [ht] using h)
      exact ⟨e', List.mem_cons_of_mem _ h1, by rw [fr_get_cons_ne ht]; exact h2⟩
theorem get_out : ∀ (τ : Fr) (t : Tmp), t ∉ τ.map (·.1) → τ.get t = (.undef, 0, 0)
  | [], t, h => rfl
  | (k, e) :: r, t, h => by
    simp only [List.map_cons, List.mem_cons, not_or] at h
    rw [fr_get_cons_ne h.1]; exact get_out r t h.2
theorem get_app_in : ∀ (τ ρ : Fr) (t : Tmp), t ∈ τ.map (·.1) → (τ ++ ρ).get t = τ.get t
  | [], ρ, t, h => by cases h
  | (k, e) :: r, ρ, t, h => by
    by_cases ht : t = k
    · subst ht; simp [Fr.get]
    · rw [List.cons_append, fr_get_cons_ne ht, fr_get_cons_ne ht]; exact get_app_in r ρ t (by simpa [ht] using h)
theorem get_app_out : ∀ (τ ρ : Fr) (t : Tmp), t ∉ τ.map (·.1) → (τ ++ ρ).get t = ρ.get t
  | [], ρ, t, h => rfl
  | (k, e) :: r, ρ, t, h => by
    simp only [List.map_cons, List.mem_cons, not_or] at h
    rw [List.cons_append, fr_get_cons_ne h.1]; exact get_app_out r ρ t h.2
theorem box_at {τ : Fr} (h : τ.all isBoxE = true) {t : Tmp} (ht : t ∈ τ.map (·.1)) : ∃ v, (τ.get t).1 = .box v := by
  obtain ⟨e, h1, h2⟩ := get_mem τ t ht
  have := List.all_eq_true.1 h _ h1
  unfold isBoxE at this
  rw [h2]
  cases he : e.1 <;> simp [he] at this ⊢
theorem free_at {τ : Fr} (h : τ.all isFreeE = true) (t : Tmp) : (τ.get t).1 = .undef ∨ ∃ v, v.t.free = true ∧ (τ.get t).1 = .val v := by
  by_cases ht : t ∈ τ.map (·.1)
  · obtain ⟨e, h1, h2⟩ := get_mem τ t ht
    have := List.all_eq_true.1 h _ h1
    unfold isFreeE at this
    rw [h2]
    cases he : e.1 with
    | val v => right; exact ⟨v, by simpa [he] using this, rfl⟩
    | _ => simp [he] at this
  · left; rw [get_out τ t ht]
end Go.Tv
