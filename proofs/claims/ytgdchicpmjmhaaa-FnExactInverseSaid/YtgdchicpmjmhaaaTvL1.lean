/-
  The law of Inverse, by contract. Conditions: none.
-/
import Derived.Test.YtgdchicpmjmhaaaTvIv
namespace Go.Tv
open Go.Proofs
set_option linter.unusedSimpArgs false
set_option linter.unusedVariables false

@[go_sem] theorem frz_N61 (x : List tyN61.den) : V.frz ⟨.own 61 (.prod (.int .i64) (.prod (.int .i64) (.prod (.own 68 (.prod (.int .i64) (.prod (.int .i64) (.prod .str .unit)))) (.prod (.own 68 (.prod (.int .i64) (.prod (.int .i64) (.prod .str .unit)))) .unit)))), x⟩ =
  ⟨.slice (.prod (.int .i64) (.prod (.int .i64) (.prod (.slice (.prod (.int .i64) (.prod (.int .i64) (.prod .str .unit)))) (.prod (.slice (.prod (.int .i64) (.prod (.int .i64) (.prod .str .unit)))) .unit)))), x⟩ := rfl

theorem eqRow_refl {α : Type} (f : α → α → Bool) (hf : ∀ a, f a a = true) : ∀ l : List α, eqRow f l l = true
  | [] => rfl
  | x :: xs => by simp [eqRow, hf x, eqRow_refl f hf xs]
theorem eqVal_refl (a : ty68.den) : eqVal a a = true := by simp [eqVal]
theorem eqChange_refl (a : ty61.den) : eqChange a a = true := by simp [eqChange, eqValS, eqRow_refl eqVal eqVal_refl]
theorem eqChangeS_refl (l : List ty61.den) : eqChangeS l l = true := eqRow_refl eqChange eqChange_refl l

theorem wrap_small (n : Int) (h1 : -9223372036854775808 ≤ n) (h2 : n < 9223372036854775808) : IntKind.i64.wrap n = n := by
  simp [IntKind.wrap, IntKind.bits, IntKind.signed]
  omega

/-! sizes bound everything -/
theorem szRow_le {α : Type} (f : α → Int → Int) (c : α → Nat) (hf : ∀ a l, l ≤ 1048576 → 0 ≤ l → 0 ≤ f a l → f a l ≤ l - c a) : ∀ (xs : List α) (l : Int), l ≤ 1048576 → 0 ≤ l → 0 ≤ szRow f xs l → szRow f xs l ≤ l - ((xs.map c).sum : Nat)
  | [], l, h1, h2, h => by simp [szRow]
  | x :: r, l, h1, h2, h => by
    simp only [szRow] at h ⊢
    by_cases hx : f x l < 0
    · rw [if_pos hx] at h; omega
    · rw [if_neg hx] at h ⊢
      have q := hf x l h1 h2 (by omega)
      have := szRow_le f c hf r (f x l) (by omega) (by omega) h
      simp only [List.map_cons, List.sum_cons]
      omega
theorem szVal_le (a : ty112.den) (l : Int) (h1 : l ≤ 1048576) (h2 : 0 ≤ l) (hw : a.2.2.1.length ≤ maxLen) (h : 0 ≤ szVal a l) : szVal a l ≤ l := by
  unfold szVal at h ⊢
  unfold maxLen at hw
  rw [wrap_small _ (by omega) (by omega)] at h ⊢
  by_cases hx : l - (a.2.2.1.length : Int) < 0
  · rw [if_pos hx] at h; omega
  · rw [if_neg hx]; omega
def okVal (a : ty112.den) : Prop := a.2.2.1.length ≤ maxLen
theorem szValRow_le : ∀ (xs : List ty112.den) (l : Int), (∀ a ∈ xs, okVal a) → l ≤ 1048576 → 0 ≤ l → 0 ≤ szRow szVal xs l → szRow szVal xs l ≤ l
  | [], l, _, h1, h2, h => by simp [szRow]
  | x :: r, l, hw, h1, h2, h => by
    simp only [szRow] at h ⊢
    by_cases hx : szVal x l < 0
    · rw [if_pos hx] at h; omega
    · rw [if_neg hx] at h ⊢
      have q := szVal_le x l h1 h2 (hw x List.mem_cons_self) (by omega)
      have := szValRow_le r (szVal x l) (fun a ha => hw a (List.mem_cons_of_mem _ ha)) (by omega) (by omega) h
      omega
theorem szValS_le (xs : List ty112.den) (l : Int) (hw : ∀ a ∈ xs, okVal a) (hl : xs.length ≤ maxLen) (h1 : l ≤ 1048576) (h2 : 0 ≤ l) (h : 0 ≤ szValS xs l) : szValS xs l ≤ l - xs.length := by
  unfold szValS at h ⊢
  unfold maxLen at hl
  rw [wrap_small _ (by omega) (by omega)] at h ⊢
  by_cases hx : l - (xs.length : Int) < 0
  · rw [if_pos hx] at h; omega
  · rw [if_neg hx] at h ⊢
    exact szValRow_le xs _ hw (by omega) (by omega) h
def okChange (a : ty58.den) : Prop := (List.length a.2.2.1 ≤ maxLen ∧ ∀ v ∈ (a.2.2.1 : List ty112.den), okVal v) ∧ (List.length a.2.2.2.1 ≤ maxLen ∧ ∀ v ∈ (a.2.2.2.1 : List ty112.den), okVal v)
def cntChange (a : ty58.den) : Nat := List.length a.2.2.1 + List.length a.2.2.2.1
theorem szChange_le (a : ty58.den) (l : Int) (hw : okChange a) (h1 : l ≤ 1048576) (h2 : 0 ≤ l) (h : 0 ≤ szChange a l) : szChange a l ≤ l - cntChange a := by
  unfold szChange at h ⊢
  by_cases hx : szValS a.2.2.1 l < 0
  · rw [if_pos hx] at h; omega
  · rw [if_neg hx] at h ⊢
    have q := szValS_le a.2.2.1 l hw.1.2 hw.1.1 h1 h2 (by omega)
    by_cases hy : szValS a.2.2.2.1 (szValS a.2.2.1 l) < 0
    · rw [if_pos hy] at h; omega
    · rw [if_neg hy] at h ⊢
      have q2 := szValS_le a.2.2.2.1 (szValS a.2.2.1 l) hw.2.2 hw.2.1 (by omega) (by omega) (by omega)
      simp only [cntChange]
      omega
theorem szChangeRow_le : ∀ (xs : List ty58.den) (l : Int), (∀ a ∈ xs, okChange a) → l ≤ 1048576 → 0 ≤ l → 0 ≤ szRow szChange xs l → szRow szChange xs l ≤ l - ((xs.map cntChange).sum : Nat)
  | [], l, _, h1, h2, h => by simp [szRow]
  | x :: r, l, hw, h1, h2, h => by
    simp only [szRow] at h ⊢
    by_cases hx : szChange x l < 0
    · rw [if_pos hx] at h; omega
    · rw [if_neg hx] at h ⊢
      have q := szChange_le x l (hw x List.mem_cons_self) h1 h2 (by omega)
      have := szChangeRow_le r (szChange x l) (fun a ha => hw a (List.mem_cons_of_mem _ ha)) (by omega) (by omega) h
      simp only [List.map_cons, List.sum_cons]
      omega
theorem szChangeS_bound (xs : List ty58.den) (hw : ∀ a ∈ xs, okChange a) (hl : xs.length ≤ maxLen) (h : 0 ≤ szChangeS xs 1048576) : xs.length + (xs.map cntChange).sum ≤ 1048576 := by
  unfold szChangeS at h
  unfold maxLen at hl
  rw [wrap_small _ (by omega) (by omega)] at h
  by_cases hx : 1048576 - (xs.length : Int) < 0
  · rw [if_pos hx] at h; omega
  · rw [if_neg hx] at h
    have := szChangeRow_le xs _ hw (by omega) (by omega) h
    omega
theorem sum_mem {α : Type} (c : α → Nat) : ∀ (xs : List α) (a : α), a ∈ xs → c a ≤ (xs.map c).sum
  | x :: r, a, h => by
    rcases List.mem_cons.1 h with rfl | h
    · simp
    · have := sum_mem c r a h; simp; omega

/-! marks -/
theorem wp1_small {k : Int} (h1 : 0 ≤ k) (h2 : k < 9000000000000000000) : wp1 k = k + 1 := wrap_small _ (by omega) (by omega)
theorem markVal_snd : ∀ (xs : List ty68.den) (k : Int), 0 ≤ k → k + 3 * xs.length < 9000000000000000000 → (markRow markVal xs k).2 = k + 3 * xs.length
  | [], k, h1, h2 => by simp [markRow]
  | x :: r, k, h1, h2 => by
    simp only [List.length_cons] at h2 ⊢
    simp only [markRow, markVal]
    rw [wp1_small (k := k) h1 (by omega), wp1_small (k := k + 1) (by omega) (by omega), wp1_small (k := k + 1 + 1) (by omega) (by omega)]
    rw [markVal_snd r _ (by omega) (by omega)]
    omega
theorem markVal_held : ∀ (xs : List ty68.den) (k : Int), heldRow heldVal (markRow markVal xs k).1 k = (markRow markVal xs k).2
  | [], k => rfl
  | x :: r, k => by
    simp only [markRow, heldRow]
    have : heldVal (markVal x k).1 k = some (markVal x k).2 := by simp [heldVal, markVal]
    rw [this]
    exact markVal_held r _
def cntN (a : ty61.den) : Nat := 2 + 3 * (List.length a.2.2.1 + List.length a.2.2.2.1)
theorem markChange_snd (a : ty61.den) (k : Int) (h1 : 0 ≤ k) (h2 : k + cntN a < 9000000000000000000) : (markChange a k).2 = k + cntN a := by
  simp only [cntN] at h2 ⊢
  simp only [markChange]
  rw [wp1_small (k := k) h1 (by omega), wp1_small (k := k + 1) (by omega) (by omega), markVal_snd a.2.2.1 _ (by omega) (by omega), markVal_snd a.2.2.2.1 _ (by omega) (by omega)]
  omega
theorem markChange_held (a : ty61.den) (k : Int) (h1 : 0 ≤ k) (h2 : k + cntN a < 9000000000000000000) : heldChange (markChange a k).1 k = some (markChange a k).2 := by
  have hs := markChange_snd a k h1 h2
  simp only [cntN] at h2
  have e1 : (markRow markVal a.2.2.1 (wp1 (wp1 k))).2 = k + 1 + 1 + 3 * List.length a.2.2.1 := by
    rw [wp1_small (k := k) h1 (by omega), wp1_small (k := k + 1) (by omega) (by omega), markVal_snd a.2.2.1 _ (by omega) (by omega)]
  unfold heldChange
  simp only [markChange] at hs ⊢
  rw [markVal_held, markVal_held]
  rw [if_pos ⟨trivial, trivial, by rw [e1]; omega, by rw [hs]; omega⟩]
theorem markRow_snd : ∀ (xs : List ty61.den) (k : Int), 0 ≤ k → k + ((xs.map cntN).sum : Nat) < 9000000000000000000 → (markRow markChange xs k).2 = k + ((xs.map cntN).sum : Nat)
  | [], k, h1, h2 => by simp [markRow]
  | x :: r, k, h1, h2 => by
    simp only [List.map_cons, List.sum_cons] at h2 ⊢
    simp only [markRow]
    rw [markChange_snd x k h1 (by omega), markRow_snd r _ (by omega) (by omega)]
    omega
theorem markRow_held : ∀ (xs : List ty61.den) (k : Int), 0 ≤ k → k + ((xs.map cntN).sum : Nat) < 9000000000000000000 → heldRow heldChange (markRow markChange xs k).1 k = (markRow markChange xs k).2
  | [], k, h1, h2 => rfl
  | x :: r, k, h1, h2 => by
    simp only [List.map_cons, List.sum_cons] at h2
    simp only [markRow, heldRow]
    rw [markChange_held x k h1 (by omega)]
    have := markRow_held r (markChange x k).2 (by rw [markChange_snd x k h1 (by omega)]; omega) (by rw [markChange_snd x k h1 (by omega)]; omega)
    exact this

@[go_sem] def conL1 : Con := con1 [.v] true (.slice ty58) (fun _ => True) (fun _ => []) fun xs => [⟨.bool, true⟩]
set_option maxRecDepth 8000 in
theorem okL1 : conL1.Ok Try.prog 3 := con1_ok ⟨_, Try.func3, rfl, by decide⟩ fun xs _ => by
  refine good_of (E := ⟨tyOfN, [(7, con7), (9, con9), (8, con8), (10, con10), (11, con11), (12, con12), (13, con13)], []⟩) Try.func3 rfl (by kernel_rfl) (env_cons ok7 (env_cons ok9 (env_cons ok8 (env_cons ok10 (env_cons ok11 (env_cons ok12 (env_cons ok13 env_nil))))))) rfl 69 rfl (by simp) [.tmp 2] rfl (by kernel_rfl) (by decide) (by decide) ?_
  intro cx hE hR hc hwf
  simp only [go_sem, hE, hR, tyOfN, tyOf, tyN61, ty58, ty61, ty68, ty112, ↓reduceIte, ↓reduceDIte, Nat.reduceAdd, Nat.reduceEqDiff, Nat.reduceBEq, reduceCtorEq, Int.reduceLE, Int.reduceNeg, Nat.reduceLeDiff]
  have hok : ∀ a ∈ (xs : List ty58.den), okChange a := by
    have h0 := hwf 0
    simp only [go_sem, ↓reduceIte, ty58] at h0
    intro a ha
    have := h0.2 a ha
    exact ⟨⟨this.2.2.1.1, fun v hv => (this.2.2.1.2 v hv).2.2⟩, ⟨this.2.2.2.1, fun v hv => (this.2.2.2.2 v hv).2.2⟩⟩
  have hlen : List.length xs ≤ maxLen := by
    have h0 := hwf 0
    simp only [go_sem, ↓reduceIte, ty58] at h0
    exact h0.1
  intro hsz
  have hb := szChangeS_bound xs hok hlen hsz
  have hpre : List.length xs ≤ 1048576 ∧ ∀ a ∈ (xs : List ty58.den), List.length a.2.2.1 ≤ 1048576 ∧ List.length a.2.2.2.1 ≤ 1048576 := by
    refine ⟨by omega, fun a ha => ?_⟩
    have := sum_mem cntChange xs a ha
    simp only [cntChange] at this
    omega
  have hsm : small61 (toChangeS xs) := by
    refine ⟨by simpa [toChangeS] using hpre.1, fun a ha => ?_⟩
    obtain ⟨b, hb, rfl⟩ := List.mem_map.1 ha
    have := hpre.2 b hb
    simpa [toChange, toValS] using this
  have hcnt : ((toChangeS xs).map cntN).sum ≤ 3145728 := by
    have : ∀ l : List ty58.den, ((toChangeS l).map cntN).sum ≤ 2 * l.length + 3 * (l.map cntChange).sum := by
      intro l
      induction l with
      | nil => simp [toChangeS]
      | cons a l ih =>
        simp only [toChangeS, List.map_cons, List.sum_cons, List.length_cons] at ih ⊢
        have : cntN (toChange a) = 2 + 3 * cntChange a := by simp [cntN, toChange, toValS, cntChange]
        rw [this]
        omega
    have := this xs
    omega
  have hcnt2 : ((invS (toChangeS xs)).map cntN).sum ≤ 3145728 := by
    have : ∀ l : List ty61.den, ((invS l).map cntN).sum = (l.map cntN).sum := by
      intro l
      simp only [invS, List.map_map]
      have : (cntN ∘ inv1) = cntN := by
        funext a; simp [cntN, inv1, Nat.add_comm]
      rw [this, List.map_reverse, List.sum_reverse]
    rw [this]; exact hcnt
  have e1 := eqChangeS_refl (invS (toChangeS xs))
  have e2 := eqChangeS_refl (toChangeS xs)
  have m1 := markRow_snd (toChangeS xs) 1 (by omega) (by omega)
  have m2 := markRow_snd (invS (toChangeS xs)) 1 (by omega) (by omega)
  have m3 := markRow_held (invS (toChangeS xs)) 1 (by omega) (by omega)
  have hneg : ¬ (markRow markChange (toChangeS xs) 1).snd < 0 := by rw [m1]; omega
  have hh : ¬ heldRow heldChange (markRow markChange (invS (toChangeS xs)) 1).fst 1 < 0 := by rw [m3, m2]; omega
  have hd : decide ((markRow markChange (toChangeS xs) 1).snd < 0) = false := by simpa using hneg
  rw [e1, e2, hd, if_neg hneg, m3]
  rw [m3] at hh
  refine ⟨hpre, hsm, hpre, hsm, by simp, fun _ => ⟨hpre, by simp, fun _ => ⟨fun _ => ⟨fun _ => ⟨fun _ => ⟨fun _ => ⟨by simp, fun _ => ⟨fun h => absurd h hh, fun _ => ⟨fun h => h rfl, fun _ => ⟨hpre, hsm, by simp, fun _ => ⟨fun h => absurd h hh, fun _ h => h rfl⟩⟩⟩⟩⟩, by simp⟩, by simp⟩, by simp⟩, by simp⟩⟩⟩
end Go.Tv
