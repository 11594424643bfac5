/-
  impl.Inverse, by contract. Conditions: none.
-/
import Derived.Test.YtgdchicpmjmhaaaTvIt
namespace Go.Tv
open Go.Proofs
set_option linter.unusedSimpArgs false
set_option linter.unusedVariables false

theorem backItems_mem (xs : List ty61.den) (k : Nat) (hk : k < (backItems xs).length) : (backItems xs)[k].2.1 ∈ xs := by
  rw [backItems_len] at hk
  have hi : xs.length - 1 - k < xs.length := by omega
  simp only [backItems, List.getElem_map, List.getElem_range]
  exact getD_mem xs _ _ hi
theorem invS_back (xs : List ty61.den) : (backItems xs).map (fun it => inv1 it.2.1) = invS xs := by
  apply List.ext_getElem
  · simp [backItems, invS]
  · intro i h1 h2
    have hi : i < xs.length := by simpa [backItems] using h1
    have hj : xs.length - 1 - i < xs.length := by omega
    simp [backItems, invS, List.getD_eq_getElem?_getD, hj]

@[go_sem] def con31 : Con := con1 [.v] false (.slice ty61) (fun _ => True) (fun _ => []) fun xs => [⟨.iter true (.prod (.int .i64) (.prod ty61 .unit)), backItems xs⟩]
theorem ok31 : con31.Ok Try.prog 31 := con1_ok ⟨_, Try.func31, rfl, by decide⟩ fun xs hn => by
  refine good_of (E := ⟨tyOf, [], [(63, clo63)]⟩) Try.func31 rfl (by kernel_rfl) (env_clo clo63_ok env_nil) rfl 4 rfl (by simp) [.tmp 2] rfl (by kernel_rfl) (by decide) (by decide) ?_
  intro cx hE hR hc hwf
  simp only [go_sem, hE, hR, tyOf, ty61, ty68, ↓reduceIte, ↓reduceDIte, Nat.reduceAdd, Nat.reduceEqDiff, Nat.reduceBEq, reduceCtorEq, Int.reduceLE, Int.reduceNeg, Nat.reduceLeDiff]

@[go_sem] def con10 : Con := con1 [.v] true (.slice ty61) small61 (fun _ => []) fun xs => [⟨.own 61 tyN61, invS xs⟩]
theorem ok10 : con10.Ok Try.prog 10 := con1_ok ⟨_, Try.func10, rfl, by decide⟩ fun xs hn => by
  refine good_of_ro (E := ⟨tyOfN, [(31, con31), (32, con32)], []⟩) Try.func10 rfl (by kernel_rfl) (env_cons ok31 (env_cons ok32 env_nil)) rfl 26 rfl (by simp) [.tmp 2] rfl (by kernel_rfl) (by decide) (by decide) ?_
  intro cx hro hE hR hc hwf
  simp only [go_sem, hE, hR, tyOfN, tyOf, tyN61, ty61, ty68, ↓reduceIte, ↓reduceDIte, Nat.reduceAdd, Nat.reduceEqDiff, Nat.reduceBEq, reduceCtorEq, Int.reduceLE, Int.reduceNeg, Nat.reduceLeDiff]
  refine ⟨⟨rfl, by omega⟩, rfl, ?_⟩
  refine rangeFunc_of hc hro (d0 := 8) (ps := [9, 10]) (t := .prod (.int .i64) (.prod ty61 .unit)) (xs := backItems xs) (by rfl) [3] (by decide) (by decide) rfl (by kernel_rfl) (by kernel_rfl)
    (α := List tyN61.den) (fun out => [(3, .box ⟨.own 61 tyN61, out⟩, 0, 0)]) [] (fun _ => ⟨rfl, rfl⟩) (by simp) (fun k out => out = ((backItems xs).take k).map fun it => inv1 it.2.1) (fun _ => False) [] ?_ rfl ?_ ?_ (fun _ h => h.elim)
  · simp only [go_sem, ↓reduceIte, ↓reduceDIte, Nat.reduceAdd, Nat.reduceEqDiff, ty68, tyN61]
  · intro k hk out hok cx1 hE1 hc1 hw
    simp only [go_sem, hE1, ↓reduceIte, ↓reduceDIte, Nat.reduceAdd, Nat.reduceEqDiff, Nat.reduceBEq, reduceCtorEq, Int.reduceLE, Int.reduceNeg, Nat.reduceLeDiff]
    rw [hE]
    simp only [go_sem, tyOfN, tyOf, tyN61, ty61, ty68, ↓reduceIte, ↓reduceDIte, Nat.reduceAdd, Nat.reduceEqDiff, Nat.reduceBEq, reduceCtorEq, Int.reduceLE, Int.reduceNeg, Nat.reduceLeDiff]
    intro cx2 hE2 hc2 hR2
    simp only [go_sem, hE2, tyOfN, tyOf, tyN61, ty61, ty68, ↓reduceIte, ↓reduceDIte, Nat.reduceAdd, Nat.reduceEqDiff, Nat.reduceBEq, reduceCtorEq, Int.reduceLE, Int.reduceNeg, Nat.reduceLeDiff]
    have hmem := backItems_mem xs k hk
    have hb := hn.2 _ hmem
    have hlk : out.length = k := by rw [hok]; simp; omega
    have hkn : k < List.length xs := by rw [backItems_len] at hk; exact hk
    have hn1 := hn.1
    refine ⟨hb.2, hb.1, by decide, ⟨rfl, by omega, by omega⟩, ⟨by omega, by omega, by simp only [maxLen]; omega⟩, by kernel_rfl, _, rfl, ?_⟩
    rw [hok, List.take_succ_eq_append_getElem hk, List.map_append]
    rfl
  · intro out hok hw
    refine sem_of hc (by kernel_rfl) ?_
    simp only [go_sem, hE, hR, tyOfN, tyOf, tyN61, ty61, ty68, ↓reduceIte, ↓reduceDIte, Nat.reduceAdd, Nat.reduceEqDiff, Nat.reduceBEq, reduceCtorEq, Int.reduceLE, Int.reduceNeg, Nat.reduceLeDiff]
    rw [hok, List.take_length]
    exact invS_back xs
end Go.Tv
