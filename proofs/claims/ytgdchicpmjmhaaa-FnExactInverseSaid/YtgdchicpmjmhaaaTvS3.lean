/-
  Marks found again, by contract. Conditions: none.
-/
import Derived.Test.YtgdchicpmjmhaaaTvS2
namespace Go.Tv
open Go.Proofs
set_option linter.unusedSimpArgs false
set_option linter.unusedVariables false

def heldVal (a : ty68.den) (k : Int) : Option Int := if a.1 = k ∧ a.2.1 = wp1 k ∧ a.2.2.1 = markText (wp1 (wp1 k)) then some (wp1 (wp1 (wp1 k))) else none
def heldRow {α : Type} (h : α → Int → Option Int) : List α → Int → Int
  | [], k => k
  | x :: r, k => match h x k with | none => -1 | some k' => heldRow h r k'
@[go_sem] def con35 : Con := con2 [.v, .v] true (.slice ty68) (.int .i64) (fun _ _ => True) (fun _ _ => []) fun xs k => [⟨.int .i64, heldRow heldVal xs k⟩]
theorem ok35 : con35.Ok Try.prog 35 := con2_ok ⟨_, Try.func35, rfl, by decide⟩ fun xs k0 _ => by
  refine good_of (E := ⟨tyOf, [(65, con65)], []⟩) Try.func35 rfl (by kernel_rfl) (env_cons ok65 env_nil) rfl 41 rfl (by simp) [.tmp 4] rfl (by kernel_rfl) (by decide) (by decide) ?_
  intro cx hE hR hc hwf
  simp only [go_sem, hE, hR, tyOf, ty68, ↓reduceIte, ↓reduceDIte, Nat.reduceAdd, Nat.reduceEqDiff, Nat.reduceBEq, reduceCtorEq, Int.reduceLE, Int.reduceNeg, Nat.reduceLeDiff]
  refine loop_of hc (by kernel_rfl) (α := Nat × Int) (fun x => [(0, .val ⟨.slice ty68, xs⟩, 0, 0), (1, .val ⟨.int .i64, x.2⟩, 0, 0), (5, .val ⟨.int .i64, (x.1 : Int)⟩, 0, 0)])
    (fun x => x.1 ≤ List.length xs ∧ heldRow heldVal (List.drop x.1 xs) x.2 = heldRow heldVal xs k0) (fun x => List.length xs - x.1) (0, k0) ?_ ?_ ?_
  · simp only [go_sem, ↓reduceIte, ↓reduceDIte, Nat.reduceAdd, Nat.reduceEqDiff, ty68]
    trivial
  · exact ⟨Nat.zero_le _, rfl⟩
  · rintro ⟨i, k⟩ ⟨hi, hinv⟩ hw
    have hw0 := hw 0
    simp only [go_sem, ↓reduceIte] at hw0
    simp only at hi hinv
    simp only [go_sem, hE, hR, tyOf, ty68, ↓reduceIte, ↓reduceDIte, Nat.reduceAdd, Nat.reduceEqDiff, Nat.reduceBEq, reduceCtorEq, Int.reduceLE, Int.reduceNeg, Nat.reduceLeDiff]
    refine ⟨fun h => ?_, fun h => ?_⟩
    · have hlt : i < List.length xs := by omega
      rw [drop_getD xs i (0, 0, [], ()) hlt, heldRow] at hinv
      refine ⟨⟨by omega, h⟩, fun h1 => ?_, fun h1 => ⟨⟨by omega, h⟩, fun h2 => ?_, fun h2 => ⟨⟨by omega, h⟩, by kernel_rfl, fun h3 => ?_, fun h3 => ⟨(i + 1, wp1 (wp1 (wp1 k))), ⟨rfl, wrap_succ hlt hw0.1⟩, ⟨hlt, ?_⟩, by simp only; omega⟩⟩⟩⟩
      · rw [← hinv, heldVal, if_neg (fun e => h1 e.1)]
      · rw [← hinv, heldVal, if_neg (fun e => h2 e.2.1)]
      · rw [← hinv, heldVal, if_neg (fun e => by rw [e.2.2] at h3; simp at h3)]
      · rw [← hinv, heldVal, if_pos ⟨h1, h2, by simpa using h3⟩]
    · rw [← hinv, List.drop_of_length_le (by omega)]; rfl

def heldChange (a : ty61.den) (k : Int) : Option Int :=
  if a.1 = k ∧ a.2.1 = wp1 k ∧ 0 ≤ heldRow heldVal a.2.2.1 (wp1 (wp1 k)) ∧ 0 ≤ heldRow heldVal a.2.2.2.1 (heldRow heldVal a.2.2.1 (wp1 (wp1 k))) then some (heldRow heldVal a.2.2.2.1 (heldRow heldVal a.2.2.1 (wp1 (wp1 k)))) else none
@[go_sem] def con13 : Con := con2 [.v, .v] true (.slice ty61) (.int .i64) (fun _ _ => True) (fun _ _ => []) fun xs k => [⟨.int .i64, heldRow heldChange xs k⟩]
set_option maxRecDepth 4000 in
theorem ok13 : con13.Ok Try.prog 13 := con2_ok ⟨_, Try.func13, rfl, by decide⟩ fun xs k0 _ => by
  refine good_of (E := ⟨tyOf, [(35, con35)], []⟩) Try.func13 rfl (by kernel_rfl) (env_cons ok35 env_nil) rfl 49 rfl (by simp) [.tmp 4] rfl (by kernel_rfl) (by decide) (by decide) ?_
  intro cx hE hR hc hwf
  simp only [go_sem, hE, hR, tyOf, ty61, ty68, ↓reduceIte, ↓reduceDIte, Nat.reduceAdd, Nat.reduceEqDiff, Nat.reduceBEq, reduceCtorEq, Int.reduceLE, Int.reduceNeg, Nat.reduceLeDiff]
  refine loop_of hc (by kernel_rfl) (α := Nat × Int) (fun x => [(0, .val ⟨.slice ty61, xs⟩, 0, 0), (1, .val ⟨.int .i64, x.2⟩, 0, 0), (5, .val ⟨.int .i64, (x.1 : Int)⟩, 0, 0)])
    (fun x => x.1 ≤ List.length xs ∧ heldRow heldChange (List.drop x.1 xs) x.2 = heldRow heldChange xs k0) (fun x => List.length xs - x.1) (0, k0) ?_ ?_ ?_
  · simp only [go_sem, ↓reduceIte, ↓reduceDIte, Nat.reduceAdd, Nat.reduceEqDiff, ty61, ty68]
    trivial
  · exact ⟨Nat.zero_le _, rfl⟩
  · rintro ⟨i, k⟩ ⟨hi, hinv⟩ hw
    have hw0 := hw 0
    simp only [go_sem, ↓reduceIte] at hw0
    simp only at hi hinv
    simp only [go_sem, hE, hR, tyOf, ty61, ty68, ↓reduceIte, ↓reduceDIte, Nat.reduceAdd, Nat.reduceEqDiff, Nat.reduceBEq, reduceCtorEq, Int.reduceLE, Int.reduceNeg, Nat.reduceLeDiff]
    refine ⟨fun h => ?_, fun h => ?_⟩
    · have hlt : i < List.length xs := by omega
      rw [drop_getD xs i (0, 0, [], [], ()) hlt, heldRow] at hinv
      refine ⟨⟨by omega, h⟩, fun h1 => ?_, fun h1 => ⟨⟨by omega, h⟩, fun h2 => ?_, fun h2 => ⟨⟨by omega, h⟩, fun h3 => ?_, fun h3 => ⟨⟨by omega, h⟩, fun h4 => ?_, fun h4 => ⟨(i + 1, _), ⟨rfl, wrap_succ hlt hw0.1⟩, ⟨hlt, ?_⟩, by simp only; omega⟩⟩⟩⟩⟩
      · rw [← hinv, heldChange, if_neg (fun e => h1 e.1)]
      · rw [← hinv, heldChange, if_neg (fun e => h2 e.2.1)]
      · rw [← hinv, heldChange, if_neg (fun e => absurd e.2.2.1 (by simp only [wp1]; omega))]
      · rw [← hinv, heldChange, if_neg (fun e => absurd e.2.2.2 (by simp only [wp1]; omega))]
      · rw [← hinv, heldChange, if_pos ⟨h1, h2, h3, h4⟩]
    · rw [← hinv, List.drop_of_length_le (by omega)]; rfl
end Go.Tv
