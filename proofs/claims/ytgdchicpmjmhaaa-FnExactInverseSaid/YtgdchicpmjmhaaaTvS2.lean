/-
  Marks, by contract. Conditions: none.
-/
import Derived.Test.YtgdchicpmjmhaaaTvS1
namespace Go.Tv
open Go.Proofs
set_option linter.unusedSimpArgs false
set_option linter.unusedVariables false

abbrev wp1 (k : Int) : Int := IntKind.i64.wrap (k + 1)
def markVal (a : ty68.den) (k : Int) : ty68.den × Int := ((k, wp1 k, markText (wp1 (wp1 k)), ()), wp1 (wp1 (wp1 k)))
def markRow {α : Type} (g : α → Int → α × Int) : List α → Int → List α × Int
  | [], k => ([], k)
  | x :: r, k => ((g x k).1 :: (markRow g r (g x k).2).1, (markRow g r (g x k).2).2)
def markInv {α : Type} (g : α → Int → α × Int) (xs : List α) (k0 : Int) (x : Nat × List α × Int) : Prop :=
  x.1 ≤ xs.length ∧ ∃ don, x.2.1 = don ++ xs.drop x.1 ∧ don.length = x.1 ∧ markRow g xs k0 = (don ++ (markRow g (xs.drop x.1) x.2.2).1, (markRow g (xs.drop x.1) x.2.2).2)
theorem markInv_len {α : Type} {g : α → Int → α × Int} {xs : List α} {k0 : Int} {x : Nat × List α × Int} (h : markInv g xs k0 x) : x.2.1.length = xs.length := by
  obtain ⟨h1, don, h2, h3, _⟩ := h
  rw [h2, List.length_append, List.length_drop]; omega
theorem getD_set {α : Type} (l : List α) (i : Nat) (a d : α) (h : i < l.length) : (l.set i a).getD i d = a := by
  rw [List.getD_eq_getElem?_getD, List.getElem?_eq_getElem (by simpa using h)]; simp
theorem markInv_step {α : Type} {g : α → Int → α × Int} {xs : List α} {k0 : Int} {i : Nat} {cur : List α} {k : Int} (d : α) (h : markInv g xs k0 (i, cur, k)) (hlt : i < xs.length) :
    markInv g xs k0 (i + 1, cur.set i (g (cur.getD i d) k).1, (g (cur.getD i d) k).2) := by
  obtain ⟨h1, don, h2, h3, h4⟩ := h
  simp only at h2 h3 h4
  have hd : xs.drop i = xs.getD i d :: xs.drop (i + 1) := drop_getD xs i d hlt
  have hg : cur.getD i d = xs.getD i d := by
    rw [h2, hd, ← h3, List.getD_eq_getElem?_getD, List.getElem?_append_right (Nat.le_refl _), Nat.sub_self]; rfl
  rw [hg]
  refine ⟨hlt, don ++ [(g (xs.getD i d) k).1], ?_, by simp [h3], ?_⟩
  · show cur.set i _ = _
    rw [h2, hd, ← h3, List.set_append_right _ _ (Nat.le_refl _), Nat.sub_self, List.set_cons_zero, List.append_assoc]; rfl
  · rw [h4, hd, markRow]
    simp
theorem markInv_end {α : Type} {g : α → Int → α × Int} {xs : List α} {k0 : Int} {cur : List α} {k : Int} {i : Nat} (h : markInv g xs k0 (i, cur, k)) (hi : xs.length ≤ i) : markRow g xs k0 = (cur, k) := by
  obtain ⟨h1, don, h2, h3, h4⟩ := h
  simp only at h1 h2 h3 h4
  have : xs.drop i = [] := List.drop_of_length_le hi
  rw [this] at h2 h4
  rw [h4, h2]; simp [markRow]
@[go_sem] def con34 : Con := con2 [.io, .v] false (.own 68 ty68) (.int .i64) (fun _ _ => True) (fun xs k => [⟨.own 68 ty68, (markRow markVal xs k).1⟩]) fun xs k => [⟨.int .i64, (markRow markVal xs k).2⟩]
theorem ok34 : con34.Ok Try.prog 34 := con2_ok ⟨_, Try.func34, rfl, by decide⟩ fun xs k0 _ => by
  refine good_of (E := ⟨tyOf, [(65, con65)], []⟩) Try.func34 rfl (by kernel_rfl) (env_cons ok65 env_nil) rfl 35 rfl (by simp) [.tmp 4] rfl (by kernel_rfl) (by decide) (by decide) ?_
  intro cx hE hR hc hwf
  simp only [go_sem, hE, hR, tyOf, ty68, ↓reduceIte, ↓reduceDIte, Nat.reduceAdd, Nat.reduceEqDiff, Nat.reduceBEq, reduceCtorEq, Int.reduceLE, Int.reduceNeg, Nat.reduceLeDiff]
  refine loop_of hc (by kernel_rfl) (α := Nat × List ty68.den × Int) (fun x => [(0, .val ⟨.own 68 ty68, x.2.1⟩, 0, 0), (1, .val ⟨.int .i64, x.2.2⟩, 0, 0), (5, .val ⟨.int .i64, (x.1 : Int)⟩, 0, 0)])
    (markInv markVal xs k0) (fun x => List.length xs - x.1) (0, xs, k0) ?_ ?_ ?_
  · simp only [go_sem, ↓reduceIte, ↓reduceDIte, Nat.reduceAdd, Nat.reduceEqDiff, ty68]
    trivial
  · exact ⟨Nat.zero_le _, [], rfl, rfl, rfl⟩
  · rintro ⟨i, cur, k⟩ hi hw
    have hw0 := hw 0
    have hcl := markInv_len hi
    simp only [go_sem, ↓reduceIte] at hw0
    simp only at hcl
    simp only [go_sem, hE, hR, tyOf, ty68, ↓reduceIte, ↓reduceDIte, Nat.reduceAdd, Nat.reduceEqDiff, Nat.reduceBEq, reduceCtorEq, Int.reduceLE, Int.reduceNeg, Nat.reduceLeDiff]
    refine ⟨fun h => ?_, fun h => ?_⟩
    · have hlt : i < cur.length := by omega
      simp only [List.length_set, List.set_set, getD_set _ _ _ _ hlt, getD_set _ _ _ _ (show i < (cur.set i _).length by simpa using hlt)]
      refine ⟨⟨by omega, by omega⟩, ⟨by omega, by omega⟩, ⟨by omega, by omega⟩, _, ⟨rfl, rfl, wrap_succ hlt (by omega)⟩, markInv_step (0, 0, [], ()) hi (by omega), by simp only; omega⟩
    · rw [markInv_end hi (by omega)]
      exact ⟨rfl, rfl⟩

def markChange (a : tyN61.den) (k : Int) : tyN61.den × Int :=
  ((k, wp1 k, (markRow markVal a.2.2.1 (wp1 (wp1 k))).1, (markRow markVal a.2.2.2.1 (markRow markVal a.2.2.1 (wp1 (wp1 k))).2).1, ()), (markRow markVal a.2.2.2.1 (markRow markVal a.2.2.1 (wp1 (wp1 k))).2).2)
@[go_sem] def con12 : Con := con2 [.io, .v] false (.own 61 tyN61) (.int .i64) (fun _ _ => True) (fun xs k => [⟨.own 61 tyN61, (markRow markChange xs k).1⟩]) fun xs k => [⟨.int .i64, (markRow markChange xs k).2⟩]
theorem ok12 : con12.Ok Try.prog 12 := con2_ok ⟨_, Try.func12, rfl, by decide⟩ fun xs k0 _ => by
  refine good_of (E := ⟨tyOfN, [(34, con34)], []⟩) Try.func12 rfl (by kernel_rfl) (env_cons ok34 env_nil) rfl 41 rfl (by simp) [.tmp 4] rfl (by kernel_rfl) (by decide) (by decide) ?_
  intro cx hE hR hc hwf
  simp only [go_sem, hE, hR, tyOfN, tyOf, tyN61, ty68, ↓reduceIte, ↓reduceDIte, Nat.reduceAdd, Nat.reduceEqDiff, Nat.reduceBEq, reduceCtorEq, Int.reduceLE, Int.reduceNeg, Nat.reduceLeDiff]
  refine loop_of hc (by kernel_rfl) (α := Nat × List tyN61.den × Int) (fun x => [(0, .val ⟨.own 61 tyN61, x.2.1⟩, 0, 0), (1, .val ⟨.int .i64, x.2.2⟩, 0, 0), (5, .val ⟨.int .i64, (x.1 : Int)⟩, 0, 0)])
    (markInv markChange xs k0) (fun x => List.length xs - x.1) (0, xs, k0) ?_ ?_ ?_
  · simp only [go_sem, ↓reduceIte, ↓reduceDIte, Nat.reduceAdd, Nat.reduceEqDiff, tyN61, ty68]
    trivial
  · exact ⟨Nat.zero_le _, [], rfl, rfl, rfl⟩
  · rintro ⟨i, cur, k⟩ hi hw
    have hw0 := hw 0
    have hcl := markInv_len hi
    simp only [go_sem, ↓reduceIte] at hw0
    simp only at hcl
    simp only [go_sem, hE, hR, tyOfN, tyOf, tyN61, ty68, ↓reduceIte, ↓reduceDIte, Nat.reduceAdd, Nat.reduceEqDiff, Nat.reduceBEq, reduceCtorEq, Int.reduceLE, Int.reduceNeg, Nat.reduceLeDiff]
    refine ⟨fun h => ?_, fun h => ?_⟩
    · have hlt : i < cur.length := by omega
      simp only [List.length_set, List.set_set, getD_set _ _ _ _ hlt, getD_set _ _ _ _ (show i < (cur.set i _).length by simpa using hlt)]
      refine ⟨⟨by omega, by omega⟩, ⟨by omega, by omega⟩, ⟨by omega, by omega⟩, ⟨by omega, by omega⟩, _, ⟨rfl, rfl, wrap_succ hlt (by omega)⟩, markInv_step (0, 0, [], [], ()) hi (by omega), by simp only; omega⟩
    · rw [markInv_end hi (by omega)]
      exact ⟨rfl, rfl⟩
end Go.Tv
