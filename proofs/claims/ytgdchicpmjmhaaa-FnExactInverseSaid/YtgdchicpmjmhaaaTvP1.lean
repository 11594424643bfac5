/-
  FnExactInverse: the program's Inverse returns what the reference's returns, for all arguments. Conditions: none.
-/
import Derived.Test.YtgdchicpmjmhaaaRows
import Derived.Test.YtgdchicpmjmhaaaTvL1
import Derived.Test.YtgdchicpmjmhaaaTvOp
namespace Go.Proofs.Ytgdchicpmjmhaaa
open Go.ChangeShapes Go.WideShapes Go.ChangeAt Go.RowKit
set_option linter.unusedVariables false

theorem Try.own : ownKnob Try.prog.godebug = none := by kernel_rfl
theorem Try.laidOut : laidOutB Try.prog = true := by kernel_rfl

set_option maxRecDepth 100000 in
theorem inverse_lifted (os : Os) (started : os.Started) (H : Type) (enc : TypeId × Value → H) :
    ReturnsInHanded {} Try.checked os 3 .any (Rows.fnExactInverseSpec.pre6 enc Try.prog Try.f3 Rows.fnExactInverseRow.domain false) (Rows.fnExactInverseSpec.post enc Try.prog Try.f3 false true false false) := by
  refine returnsInHanded_of_change (C := Try.checked) Try.own started (by kernel_rfl) Try.func3
    (ChangeSpec.witness6 (enc := enc) (C := Try.checked) false ⟨#[], #[.slice none 0 0], []⟩ 8 (by kernel_rfl) (by kernel_rfl) (by kernel_rfl) (by kernel_rfl)) ?_
  intro W base args ds gs before hval0 hW hcnd _
  have hval : ∀ (j : Nat) t v, Try.f3.params[j]? = some t → args[j]? = some v → Value.okWide Try.prog W .any base t v := hval0
  have hW' := hW
  obtain ⟨p, q, hA0, hV, rfl, hfz, hnd⟩ := hW
  have hA : DataW.TrodAll enc Try.prog W 0 (fun _ => true) true Try.f3.params.toList args.toList ds p := hA0
  rw [Try.params3] at hA hval
  obtain ⟨v0, d0, rfl, rfl, h0⟩ := trodAll_one hA
  obtain ⟨rfl, rfl⟩ := trodVars_none hV
  obtain ⟨a0, len, cap, rfl⟩ := okWide_slice Try.underlying22 (hval 0 22 v0 rfl rfl)
  have h0k := h0
  clear hA0 hval0
  simp only [List.append_nil] at hW'
  have hlt : ∀ y ∈ p, y.block < W.heap.size := fun y hy => by simpa using hW'.lt y (by simp [hy])
  have harg0 : ∀ W' : World, Below W.heap.size W W' → DataW.Trod enc Try.prog W' 0 (fun b => decide (b < W.heap.size)) true 22 (.slice a0 len cap) d0 p :=
    fun W' hn => Below.trod Try.laidOut (by kernel_rfl) (of_decide_eq_true (by kernel_rfl)) h0k hn hlt
  obtain ⟨xs, cs, hcs, hrep⟩ := Tv.open_arg (τ := .slice Tv.ty58) (by kernel_rfl) h0 rfl
  have hgood := Tv.okL1.2 [⟨.slice Tv.ty58, xs⟩] True [] [⟨.bool, true⟩] (by simp [Tv.conL1, Tv.con1, Tv.coe_self]) trivial
  refine (hgood W (Tv.allOf W) (fun _ => Tv.BS.bot) [.slice a0 len cap] ⟨rfl, rfl, fun i hi => ?_, fun _ _ _ => Tv.BS.dis_bot _, fun _ => Tv.BS.dis_bot _, fun _ _ h => h.elim, fun _ h => h⟩).mono ?_
  · match i, hi with
    | 0, _ => exact ⟨cs, hcs, hrep⟩
  · rintro e W' ⟨r, rfl, S', Gs, G, hkp, _, _, _, _, _, _, _, _, cs', hr, hb⟩
    have hr' : r = .bool true := by rw [hr, show cs' = _ from hb]; rfl
    subst hr'
    have hn : Below W.heap.size W W' := (hkp.mono (fun g hg => by obtain ⟨_, h⟩ := hg; exact h)).below
    exact ⟨_, rfl, _, _, _, [], _, [], hW', trodAll_mk1 (shut_bool Try.underlying4 _), trodAll_mk1 (harg0 _ hn), rfl, hn.frame _, fun h => by cases h⟩

theorem inverse_holds : Rows.FnExactInverseSaid :=
  OpenClaim.holds_of_wide 3 Try.f3 rfl rfl rfl rfl rfl rfl rfl ⟨rfl, rfl, rfl, rfl, rfl⟩ rfl rfl rfl rfl rfl (by kernel_rfl) Try.func3 (by kernel_rfl)
    (of_decide_eq_true (by kernel_rfl)) (by unfold Func.isWrapper; first | (rw [if_pos (by decide +kernel)]; kernel_rfl) | (rw [if_neg (by decide +kernel)]; exact ⟨rfl, rfl⟩))
    (fun os started H enc _ => inverse_lifted os started H enc)
#print axioms inverse_holds
end Go.Proofs.Ytgdchicpmjmhaaa
