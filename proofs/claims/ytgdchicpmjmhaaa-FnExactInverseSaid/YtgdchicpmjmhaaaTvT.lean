/-
  A region whose order is open: where what is not tied does not meet, every order comes to the same. Conditions: none; plain definitions and lemmas.
-/
import Derived.Test.YtgdchicpmjmhaaaTvS
import Derived.OrdersIn
namespace Go.Tv
set_option linter.unusedVariables false
set_option linter.unusedSimpArgs false
variable {P : Program}

/-- what a patch does to one slot -/
def appE (t : Tmp) (pt : Patch) (e : Ent) : Ent := pt.foldl (fun e x => if t = x.1 then (x.2.1, bump e.2 x.2.2) else e) e
theorem appP_appE : ∀ (pt : Patch) (get : Rd) (t : Tmp), appP pt get t = appE t pt (get t)
  | [], get, t => rfl
  | x :: pt, get, t => by
    show appP pt (app1 get x) t = appE t pt (if t = x.1 then (x.2.1, bump (get t).2 x.2.2) else get t)
    rw [appP_appE pt]
    congr 1
    unfold app1
    by_cases h : t = x.1
    · subst h; simp
    · simp [h]
theorem appE_out : ∀ (pt : Patch) (t : Tmp) (e : Ent), t ∉ pt.map (·.1) → appE t pt e = e
  | [], t, e, _ => rfl
  | x :: pt, t, e, h => by
    simp only [List.map_cons, List.mem_cons, not_or] at h
    show appE t pt (if t = x.1 then _ else e) = e
    rw [if_neg h.1]
    exact appE_out pt t e h.2

/-- The slots behind those operations of the first N that L names, in the order of the text. -/
def GL (N : Nat) (pts : Nat → Patch) (L : Nat → Bool) (get0 : Rd) : Rd := fun t => (List.range N).foldl (fun e j => if L j then appE t (pts j) e else e) (get0 t)

theorem foldl_same {α β : Type} {f g : β → α → β} : ∀ (l : List α) (e : β), (∀ j ∈ l, ∀ e, f e j = g e j) → l.foldl f e = l.foldl g e
  | [], e, _ => rfl
  | x :: l, e, h => by
    simp only [List.foldl_cons]
    rw [h x List.mem_cons_self]
    exact foldl_same l _ (fun j hj => h j (List.mem_cons_of_mem _ hj))
theorem foldl_id {α β : Type} {f : β → α → β} : ∀ (l : List α) (e : β), (∀ j ∈ l, ∀ e, f e j = e) → l.foldl f e = e
  | [], e, _ => rfl
  | x :: l, e, h => by
    simp only [List.foldl_cons]
    rw [h x List.mem_cons_self]
    exact foldl_id l _ (fun j hj => h j (List.mem_cons_of_mem _ hj))

theorem GL_agree {N : Nat} {pts : Nat → Patch} {L L' : Nat → Bool} {get0 : Rd} {t : Tmp} (h : ∀ j, j < N → L j ≠ L' j → t ∉ (pts j).map (·.1)) : GL N pts L get0 t = GL N pts L' get0 t := by
  unfold GL
  refine foldl_same _ _ (fun j hj e => ?_)
  have hj' := List.mem_range.1 hj
  by_cases hl : L j = L' j
  · rw [hl]
  · have := appE_out (pts j) t e (h j hj' hl)
    cases h1 : L j <;> cases h2 : L' j <;> simp_all

theorem GL_step {N : Nat} {pts : Nat → Patch} {L : Nat → Bool} {get0 : Rd} {i : Nat} (hi : i < N) (hL : L i = false) (h : ∀ j, i < j → j < N → L j = true → ∀ t, t ∈ (pts i).map (·.1) → t ∉ (pts j).map (·.1)) :
    GL N pts (fun j => if j = i then true else L j) get0 = appP (pts i) (GL N pts L get0) := by
  funext t
  rw [appP_appE]
  by_cases ht : t ∈ (pts i).map (·.1)
  · have hsplit : List.range N = List.range i ++ i :: (List.range' (i + 1) (N - (i + 1))) := by
      have h1 : List.range N = List.range' 0 i ++ List.range' i (N - i) := by
        rw [List.range_eq_range', show N = i + (N - i) from by omega, ← List.range'_append_1]; simp
      rw [h1, List.range_eq_range', show N - i = (N - (i + 1)) + 1 from by omega, List.range'_succ]
    unfold GL
    rw [hsplit, List.foldl_append, List.foldl_append, List.foldl_cons, List.foldl_cons]
    have hpre : ∀ e, (List.range i).foldl (fun e j => if (if j = i then true else L j) then appE t (pts j) e else e) e = (List.range i).foldl (fun e j => if L j then appE t (pts j) e else e) e := fun e =>
      foldl_same _ _ (fun j hj e => by
        have := List.mem_range.1 hj
        rw [if_neg (show j ≠ i by omega)])
    have hpost : ∀ (M : Nat → Bool) e, (∀ j, i < j → M j = L j) → (List.range' (i + 1) (N - (i + 1))).foldl (fun e j => if M j then appE t (pts j) e else e) e = e := fun M e hM =>
      foldl_id _ _ (fun j hj e => by
        have hm := List.mem_range'_1.1 hj
        rw [hM j (by omega)]
        cases hl : L j with
        | false => simp
        | true => rw [if_pos rfl]; exact appE_out _ _ _ (h j (by omega) (by omega) hl t ht))
    rw [hpost _ _ (fun j hj => by rw [if_neg (show j ≠ i by omega)]), hpost _ _ (fun j _ => rfl), hpre]
    simp [hL]
  · rw [appE_out _ _ _ ht]
    exact GL_agree (fun j hj hne => by
      by_cases hji : j = i
      · rw [hji]; exact ht
      · simp [hji] at hne)

section
variable {ops : Array Oper} {Q : Exit → Act → World → Prop}

/-- what ties an operation directly -/
def tiesOf (ops : Array Oper) (i : Nat) : List Nat := match ops[i]? with | some o => (o.after.toList.filter (Region.binds .any)).map (·.on) | none => []

theorem ready_iff {L : Array Bool} {i : Nat} : i ∈ Region.ready .any ops L ↔ i < ops.size ∧ L.getD i true = false ∧ ∀ k ∈ tiesOf ops i, L.getD k false = true := by
  unfold Region.ready tiesOf
  rw [List.mem_filter, List.mem_range]
  constructor
  · rintro ⟨h1, h2⟩
    have ho : ops[i]? = some ops[i] := Array.getElem?_eq_getElem h1
    rw [ho] at h2 ⊢
    simp only [Option.map_some, Option.getD_some, Bool.and_eq_true, Bool.not_eq_true', Array.all_eq_true'] at h2
    refine ⟨h1, h2.1, fun k hk => ?_⟩
    obtain ⟨e, he, rfl⟩ := List.mem_map.1 hk
    obtain ⟨he1, he2⟩ := List.mem_filter.1 he
    have := h2.2 e (Array.mem_toList_iff.1 he1)
    simpa [he2] using this
  · rintro ⟨h1, h2, h3⟩
    refine ⟨h1, ?_⟩
    have ho : ops[i]? = some ops[i] := Array.getElem?_eq_getElem h1
    rw [ho] at h3 ⊢
    simp only [Option.map_some, Option.getD_some, Bool.and_eq_true, Bool.not_eq_true', Array.all_eq_true']
    refine ⟨h2, fun e he => ?_⟩
    by_cases hb : Region.binds .any e = true
    · have := h3 e.on (List.mem_map.2 ⟨e, List.mem_filter.2 ⟨Array.mem_toList_iff.2 he, hb⟩, rfl⟩)
      simp [this]
    · simp [hb]

/-- The number of those still to come. -/
def left (L : Array Bool) (N : Nat) : Nat := ((List.range N).filter fun i => !L.getD i true).length

theorem wpAny_of {F : Fence} {nn : Nat} (St : Rd → Act → World → Prop) (get0 : Rd) (pts : Nat → Patch) (R : Nat → List Tmp) (anc : Nat → List Nat)
    (hearly : ∀ i, i < ops.size → ∀ k ∈ tiesOf ops i, k < i)
    (hanc : ∀ i, i < ops.size → ∀ k ∈ anc i, ∃ m ∈ tiesOf ops i, m = k ∨ k ∈ anc m)
    (hord : ∀ i j, i < j → j < ops.size → i ∈ anc j ∨ ((∀ t ∈ (pts i).map (·.1), t ∉ R j) ∧ (∀ t ∈ (pts j).map (·.1), t ∉ R i) ∧ ∀ t ∈ (pts i).map (·.1), t ∉ (pts j).map (·.1)))
    (step : ∀ i, i < ops.size → ∀ get a w, (∀ t ∈ R i, get t = GL ops.size pts (fun j => decide (j < i)) get0 t) → St get a w → ∀ K : Act → World → Prop, (∀ a' w', St (appP (pts i) get) a' w' → K a' w') → wpOpIn F nn P ops Q i K a w)
    (fin : ∀ a w, St (GL ops.size pts (fun _ => true) get0) a w → Q .normal a w) :
    ∀ (fuel : Nat) (L : Array Bool) (a : Act) (w : World), L.size = ops.size → left L ops.size = fuel → (∀ i, i < ops.size → L.getD i false = true → ∀ k ∈ anc i, L.getD k false = true) → St (GL ops.size pts (fun j => L.getD j false) get0) a w → wpAnyIn F nn P .any ops Q fuel L a w := by
  have hgd : ∀ (L : Array Bool) i, L.size = ops.size → i < ops.size → L.getD i true = L.getD i false := fun L i hs hi => by
    have : i < L.size := by omega
    simp [Array.getD, this]
  have hnone : ∀ (L : Array Bool), L.size = ops.size → Region.ready .any ops L = [] → ∀ i, i < ops.size → L.getD i false = true := by
    intro L hs hr i
    induction i using Nat.strongRecOn with
    | _ i ih =>
      intro hi
      cases hl : L.getD i false with
      | true => rfl
      | false =>
        have : i ∈ Region.ready .any ops L := ready_iff.2 ⟨hi, by rw [hgd L i hs hi]; exact hl, fun k hk => ih k (hearly i hi k hk) (by have := hearly i hi k hk; omega)⟩
        rw [hr] at this
        cases this
  have hall : ∀ (L : Array Bool) a w, L.size = ops.size → (∀ i, i < ops.size → L.getD i false = true) → St (GL ops.size pts (fun j => L.getD j false) get0) a w → Q .normal a w := by
    intro L a w hs hl hst
    refine fin a w ?_
    have : GL ops.size pts (fun j => L.getD j false) get0 = GL ops.size pts (fun _ => true) get0 := funext fun t => GL_agree (fun j hj hne => absurd (hl j hj) hne)
    rwa [this] at hst
  intro fuel
  induction fuel with
  | zero =>
    intro L a w hs hleft hcl hst
    have hl : ∀ i, i < ops.size → L.getD i false = true := by
      intro i hi
      have : i ∉ (List.range ops.size).filter fun i => !L.getD i true := by
        rw [List.length_eq_zero_iff.1 hleft]; exact List.not_mem_nil
      rw [List.mem_filter, List.mem_range] at this
      rw [← hgd L i hs hi]
      simpa [hi] using this
    refine ⟨?_, hall L a w hs hl hst⟩
    cases hr : Region.ready .any ops L with
    | nil => rfl
    | cons x xs =>
      have hx : x ∈ Region.ready .any ops L := by rw [hr]; exact List.mem_cons_self
      obtain ⟨h1, h2, _⟩ := ready_iff.1 hx
      rw [hgd L x hs h1, hl x h1] at h2
      cases h2
  | succ fuel ih =>
    intro L a w hs hleft hcl hst
    refine ⟨fun hr => hall L a w hs (hnone L hs hr) hst, fun i hi => ?_⟩
    obtain ⟨h1, h2, h3⟩ := ready_iff.1 hi
    have hLi : L.getD i false = false := by rw [← hgd L i hs h1]; exact h2
    have hancL : ∀ k ∈ anc i, L.getD k false = true := fun k hk => by
      obtain ⟨m, hm, hmk⟩ := hanc i h1 k hk
      have hmi := hearly i h1 m hm
      rcases hmk with rfl | hmk
      · exact h3 m hm
      · exact hcl m (by omega) (h3 m hm) k hmk
    have hback : ∀ j, i < j → j < ops.size → L.getD j false = true → i ∉ anc j := fun j hij hj hl hm => by
      rw [hcl j hj hl i hm] at hLi
      cases hLi
    refine step i h1 _ a w ?_ hst _ (fun a' w' hst' => ?_)
    · intro t ht
      refine GL_agree (fun j hj hne => ?_)
      by_cases hji : j < i
      · have hl : L.getD j false = false := by
          cases hx : L.getD j false with
          | true => simp [hji, hx] at hne
          | false => rfl
        rcases hord j i hji h1 with ha | ⟨q1, _, _⟩
        · rw [hancL j ha] at hl; cases hl
        · exact fun hm => q1 t hm ht
      · have hl : L.getD j false = true := by
          cases hx : L.getD j false with
          | true => rfl
          | false => simp [hji, hx] at hne
        have hij : i < j := by
          rcases Nat.lt_or_ge i j with h | h
          · exact h
          · have : j = i := by omega
            rw [this, hLi] at hl; cases hl
        rcases hord i j hij hj with ha | ⟨_, q2, _⟩
        · exact absurd ha (hback j hij hj hl)
        · exact fun hm => q2 t hm ht
    · have hL' : ∀ j, (L.setIfInBounds i true).getD j false = if j = i then true else L.getD j false := fun j => by
        simp only [Array.getD_eq_getD_getElem?, Array.getElem?_setIfInBounds]
        by_cases hji : i = j
        · subst hji; simp [show i < L.size by omega]
        · simp [hji, Ne.symm hji]
      have hG : GL ops.size pts (fun j => (L.setIfInBounds i true).getD j false) get0 = appP (pts i) (GL ops.size pts (fun j => L.getD j false) get0) := by
        rw [← GL_step h1 hLi (fun j hij hj hl t ht => ?_)]
        · congr 1
          funext j
          exact hL' j
        · rcases hord i j hij hj with ha | ⟨_, _, q3⟩
          · exact absurd ha (hback j hij hj hl)
          · exact q3 t ht
      refine ih _ a' w' (by simp [hs]) ?_ ?_ (by rw [hG]; exact hst')
      · have hLt : ∀ j, (L.setIfInBounds i true).getD j true = if j = i then true else L.getD j true := fun j => by
          simp only [Array.getD_eq_getD_getElem?, Array.getElem?_setIfInBounds]
          by_cases hji : i = j
          · subst hji; simp [show i < L.size by omega]
          · simp [hji, Ne.symm hji]
        unfold left at hleft ⊢
        have hnd : (List.range ops.size).Nodup := List.nodup_range
        have key : ∀ l : List Nat, l.Nodup → i ∈ l → (l.filter fun j => !(if j = i then true else L.getD j true)).length + 1 = (l.filter fun j => !L.getD j true).length := by
          intro l
          induction l with
          | nil => intro _ hm; cases hm
          | cons x l ihl =>
            intro hn hm
            rw [List.nodup_cons] at hn
            by_cases hx : x = i
            · subst hx
              have heq : (l.filter fun j => !(if j = x then true else L.getD j true)) = l.filter fun j => !L.getD j true := List.filter_congr (fun j hj => by
                have : j ≠ x := fun e => hn.1 (e ▸ hj)
                rw [if_neg this])
              simp only [List.filter_cons, if_pos rfl, h2, Bool.not_true, Bool.not_false, Bool.false_eq_true, if_false, heq, List.length_cons]
              rfl
            · have := ihl hn.2 ((List.mem_cons.1 hm).resolve_left (Ne.symm hx))
              simp only [List.filter_cons, if_neg hx]
              split <;> simp_all
        have := key _ hnd (List.mem_range.2 h1)
        simp only [hLt]
        omega
      · intro j hj hl k hk
        rw [hL'] at hl ⊢
        by_cases hki : k = i
        · rw [if_pos hki]
        · rw [if_neg hki]
          by_cases hji : j = i
          · subst hji; exact hancL k hk
          · rw [if_neg hji] at hl; exact hcl j hj hl k hk
end
end Go.Tv
