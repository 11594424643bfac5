/-
  The functions of the first laws, by contract. Conditions: none.
-/
import Derived.Test.YtgdchicpmjmhaaaTvCn
import Derived.Test.YtgdchicpmjmhaaaTvTy
namespace Go.Tv
open Go.Proofs
set_option linter.unusedSimpArgs false
set_option linter.unusedVariables false

theorem wrap_succ {i n : Nat} (h : i < n) (hn : n ≤ maxLen) : IntKind.i64.wrap ((i : Int) + 1) = ((i + 1 : Nat) : Int) := by
  simp only [maxLen] at hn
  simp [IntKind.wrap, IntKind.bits, IntKind.signed]
  omega
theorem wrap_pred {n : Nat} (h : n ≤ 1048577) : IntKind.i64.wrap ((n : Int) - 1) = (n : Int) - 1 := by
  simp [IntKind.wrap, IntKind.bits, IntKind.signed]
  omega
theorem drop_getD {α : Type} (xs : List α) (i : Nat) (d : α) (h : i < xs.length) : xs.drop i = xs.getD i d :: xs.drop (i + 1) := by
  rw [List.drop_eq_getElem_cons h]; simp [h]
theorem fill_set {α : Type} (l : List α) (d : α) (i : Nat) (h : i < l.length) : (l.take i ++ List.replicate (l.length - i) d).set i l[i] = l.take (i + 1) ++ List.replicate (l.length - (i + 1)) d := by
  have hl : (l.take i).length = i := by simp; omega
  rw [show l.length - i = (l.length - (i + 1)) + 1 by omega, List.replicate_succ, List.set_append_right _ _ (by omega), hl, Nat.sub_self, List.set_cons_zero, ← List.take_append_getElem h, List.append_assoc]
  rfl

theorem getD_mem {α : Type} (xs : List α) (i : Nat) (d : α) (h : i < xs.length) : xs.getD i d ∈ xs := by
  rw [List.getD_eq_getElem?_getD, List.getElem?_eq_getElem h]; simp

/-! ### sizes -/
def szVal (a : ty112.den) (l : Int) : Int :=
  if IntKind.i64.wrap (l - a.2.2.1.length) < 0 then -1 else IntKind.i64.wrap (l - a.2.2.1.length)
@[go_sem] def con81 : Con := con2 [.v, .v] true ty112 (.int .i64) (fun _ _ => True) (fun _ _ => []) fun a l => [⟨.int .i64, szVal a l⟩]
theorem ok81 : con81.Ok Try.prog 81 := con2_ok ⟨_, Try.func81, rfl, by decide⟩ fun a l _ => by
  refine good_of (E := ⟨tyOf, [], []⟩) Try.func81 rfl (by kernel_rfl) env_nil rfl 13 rfl (by simp) [.tmp 4] rfl (by kernel_rfl) (by decide) (by decide) ?_
  intro cx hE hR hc hwf
  simp only [go_sem, hE, hR, tyOf, ty112, ↓reduceIte, ↓reduceDIte, Nat.reduceAdd, Nat.reduceEqDiff, Nat.reduceBEq, reduceCtorEq, Int.reduceLE, Int.reduceNeg, Nat.reduceLeDiff]
  unfold szVal
  constructor <;> intro h
  · rw [if_pos h]
  · rw [if_neg (by omega)]

/-- a row's size, by its elements' -/
def szRow {α : Type} (f : α → Int → Int) : List α → Int → Int
  | [], l => l
  | x :: r, l => if f x l < 0 then -1 else szRow f r (f x l)
def szValS (xs : List ty112.den) (l : Int) : Int :=
  if IntKind.i64.wrap (l - xs.length) < 0 then -1 else szRow szVal xs (IntKind.i64.wrap (l - xs.length))
@[go_sem] def con61 : Con := con2 [.v, .v] true (.slice ty112) (.int .i64) (fun _ _ => True) (fun _ _ => []) fun a l => [⟨.int .i64, szValS a l⟩]
theorem ok61 : con61.Ok Try.prog 61 := con2_ok ⟨_, Try.func61, rfl, by decide⟩ fun xs l _ => by
  refine good_of (E := ⟨tyOf, [(81, con81)], []⟩) Try.func61 rfl (by kernel_rfl) (env_cons ok81 env_nil) rfl 27 rfl (by simp) [.tmp 4] rfl (by kernel_rfl) (by decide) (by decide) ?_
  intro cx hE hR hc hwf
  simp only [go_sem, hE, hR, tyOf, ty112, ↓reduceIte, ↓reduceDIte, Nat.reduceAdd, Nat.reduceEqDiff, Nat.reduceBEq, reduceCtorEq, Int.reduceLE, Int.reduceNeg, Nat.reduceLeDiff]
  refine ⟨fun h => by simp [szValS, h], fun hl => ?_⟩
  have hS : szValS xs l = szRow szVal xs (IntKind.i64.wrap (l - ↑xs.length)) := by rw [szValS, if_neg (by omega)]
  rw [hS] at hR
  generalize IntKind.i64.wrap (l - ↑xs.length) = l0 at *
  refine loop_of hc (by kernel_rfl) (α := Nat × Int) (fun x => [(0, .val ⟨.slice ty112, xs⟩, 0, 0), (1, .val ⟨.int .i64, x.2⟩, 0, 0), (5, .val ⟨.int .i64, (x.1 : Int)⟩, 0, 0)])
    (fun x => x.1 ≤ xs.length ∧ szRow szVal (xs.drop x.1) x.2 = szRow szVal xs l0) (fun x => xs.length - x.1) (0, l0) ?_ ?_ ?_
  · simp only [go_sem, ↓reduceIte, ↓reduceDIte, Nat.reduceAdd, Nat.reduceEqDiff, ty112]
    simp
  · simp
  · rintro ⟨i, l⟩ ⟨hi, hinv⟩ hw
    have hw0 := hw 0
    simp only [go_sem, ↓reduceIte] at hw0
    simp only [go_sem, hE, hR, tyOf, ty112, ↓reduceIte, ↓reduceDIte, Nat.reduceAdd, Nat.reduceEqDiff, Nat.reduceBEq, reduceCtorEq, Int.reduceLE, Int.reduceNeg, Nat.reduceLeDiff]
    refine ⟨fun h => ⟨⟨by omega, h⟩, ?_⟩, fun h => ?_⟩
    · have hlt : i < xs.length := by omega
      rw [drop_getD xs i (0, 0, [], ()) hlt] at hinv
      refine ⟨fun h2 => ?_, fun h2 => ⟨(i + 1, szVal (xs.getD i (0, 0, [], ())) l), ⟨rfl, wrap_succ hlt hw0.1⟩, ⟨hlt, ?_⟩, by simp; omega⟩⟩
      · rw [← hinv, szRow, if_pos h2]
      · rw [← hinv, szRow, if_neg (by simp only at *; omega)]
    · have : i = xs.length := by simp at hi; omega
      subst this
      simpa [szRow] using hinv

def szChange (a : ty58.den) (l : Int) : Int :=
  if szValS a.2.2.1 l < 0 then -1 else if szValS a.2.2.2.1 (szValS a.2.2.1 l) < 0 then -1 else szValS a.2.2.2.1 (szValS a.2.2.1 l)
@[go_sem] def con28 : Con := con2 [.v, .v] true ty58 (.int .i64) (fun _ _ => True) (fun _ _ => []) fun a l => [⟨.int .i64, szChange a l⟩]
theorem ok28 : con28.Ok Try.prog 28 := con2_ok ⟨_, Try.func28, rfl, by decide⟩ fun a l _ => by
  refine good_of (E := ⟨tyOf, [(61, con61)], []⟩) Try.func28 rfl (by kernel_rfl) (env_cons ok61 env_nil) rfl 18 rfl (by simp) [.tmp 4] rfl (by kernel_rfl) (by decide) (by decide) ?_
  intro cx hE hR hc hwf
  simp only [go_sem, hE, hR, tyOf, ty58, ty112, ↓reduceIte, ↓reduceDIte, Nat.reduceAdd, Nat.reduceEqDiff, Nat.reduceBEq, reduceCtorEq, Int.reduceLE, Int.reduceNeg, Nat.reduceLeDiff]
  unfold szChange
  refine ⟨fun h => ?_, fun h => ⟨fun h2 => ?_, fun h2 => ?_⟩⟩
  · rw [if_pos h]
  · rw [if_neg (by omega), if_pos h2]
  · rw [if_neg (by omega), if_neg (by omega)]

def szChangeS (xs : List ty58.den) (l : Int) : Int :=
  if IntKind.i64.wrap (l - xs.length) < 0 then -1 else szRow szChange xs (IntKind.i64.wrap (l - xs.length))
@[go_sem] def con7 : Con := con2 [.v, .v] true (.slice ty58) (.int .i64) (fun _ _ => True) (fun _ _ => []) fun a l => [⟨.int .i64, szChangeS a l⟩]
theorem ok7 : con7.Ok Try.prog 7 := con2_ok ⟨_, Try.func7, rfl, by decide⟩ fun xs l _ => by
  refine good_of (E := ⟨tyOf, [(28, con28)], []⟩) Try.func7 rfl (by kernel_rfl) (env_cons ok28 env_nil) rfl 27 rfl (by simp) [.tmp 4] rfl (by kernel_rfl) (by decide) (by decide) ?_
  intro cx hE hR hc hwf
  simp only [go_sem, hE, hR, tyOf, ty58, ty112, ↓reduceIte, ↓reduceDIte, Nat.reduceAdd, Nat.reduceEqDiff, Nat.reduceBEq, reduceCtorEq, Int.reduceLE, Int.reduceNeg, Nat.reduceLeDiff]
  refine ⟨fun h => by simp [szChangeS, h], fun hl => ?_⟩
  have hS : szChangeS xs l = szRow szChange xs (IntKind.i64.wrap (l - ↑xs.length)) := by rw [szChangeS, if_neg (by omega)]
  rw [hS] at hR
  generalize IntKind.i64.wrap (l - ↑xs.length) = l0 at *
  refine loop_of hc (by kernel_rfl) (α := Nat × Int) (fun x => [(0, .val ⟨.slice ty58, xs⟩, 0, 0), (1, .val ⟨.int .i64, x.2⟩, 0, 0), (5, .val ⟨.int .i64, (x.1 : Int)⟩, 0, 0)])
    (fun x => x.1 ≤ xs.length ∧ szRow szChange (xs.drop x.1) x.2 = szRow szChange xs l0) (fun x => xs.length - x.1) (0, l0) ?_ ?_ ?_
  · simp only [go_sem, ↓reduceIte, ↓reduceDIte, Nat.reduceAdd, Nat.reduceEqDiff, ty58, ty112]
    simp
  · simp
  · rintro ⟨i, l⟩ ⟨hi, hinv⟩ hw
    have hw0 := hw 0
    simp only [go_sem, ↓reduceIte] at hw0
    simp only [go_sem, hE, hR, tyOf, ty58, ty112, ↓reduceIte, ↓reduceDIte, Nat.reduceAdd, Nat.reduceEqDiff, Nat.reduceBEq, reduceCtorEq, Int.reduceLE, Int.reduceNeg, Nat.reduceLeDiff]
    refine ⟨fun h => ⟨⟨by omega, h⟩, ?_⟩, fun h => ?_⟩
    · have hlt : i < xs.length := by omega
      rw [drop_getD xs i (0, 0, [], [], ()) hlt] at hinv
      refine ⟨fun h2 => ?_, fun h2 => ⟨(i + 1, szChange (xs.getD i (0, 0, [], [], ())) l), ⟨rfl, wrap_succ hlt hw0.1⟩, ⟨hlt, ?_⟩, by simp; omega⟩⟩
      · rw [← hinv, szRow, if_pos h2]
      · rw [← hinv, szRow, if_neg (by simp only at *; omega)]
    · have : i = xs.length := by simp at hi; omega
      subst this
      simpa [szRow] using hinv

/-! ### copies -/
def toVal (a : ty112.den) : ty68.den := (a.1, a.2.1, a.2.2.1, ())
@[go_sem] def con82 : Con := con1 [.v] true ty112 (fun _ => True) (fun _ => []) fun a => [⟨ty68, toVal a⟩]
theorem ok82 : con82.Ok Try.prog 82 := con1_ok ⟨_, Try.func82, rfl, by decide⟩ fun a _ => by
  refine good_of (E := ⟨tyOf, [], []⟩) Try.func82 rfl (by kernel_rfl) env_nil rfl 14 rfl (by simp) [.cell 2 68] rfl (by kernel_rfl) (by decide) (by decide) ?_
  intro cx hE hR hc hwf
  simp only [go_sem, hE, hR, tyOf, ty68, ty112, ↓reduceIte, ↓reduceDIte, Nat.reduceAdd, Nat.reduceEqDiff, Nat.reduceBEq, reduceCtorEq, Int.reduceLE, Int.reduceNeg, Nat.reduceLeDiff]
  rfl

/-- the row being filled -/
def fillTo {α β : Type} (f : α → β) (d : β) (xs : List α) (i : Nat) : List β := (xs.map f).take i ++ List.replicate (xs.length - i) d
theorem fillTo_zero {α β : Type} (f : α → β) (d : β) (xs : List α) : fillTo f d xs 0 = List.replicate xs.length d := by simp [fillTo]
theorem fillTo_len {α β : Type} (f : α → β) (d : β) (xs : List α) (i : Nat) (h : i ≤ xs.length) : (fillTo f d xs i).length = xs.length := by simp [fillTo]; omega
theorem fillTo_all {α β : Type} (f : α → β) (d : β) (xs : List α) : fillTo f d xs xs.length = xs.map f := by simp [fillTo, List.take_of_length_le]
theorem fillTo_set {α β : Type} (f : α → β) (d : β) (e : α) (xs : List α) (i : Nat) (h : i < xs.length) : (fillTo f d xs i).set i (f (xs.getD i e)) = fillTo f d xs (i + 1) := by
  have := fill_set (xs.map f) d i (by simpa using h)
  simp only [List.length_map, List.getElem_map] at this
  simp only [fillTo, Int.toNat_natCast, List.getD_eq_getElem?_getD, List.getElem?_eq_getElem h, Option.getD_some]
  exact this

def toValS (xs : List ty112.den) : List ty68.den := xs.map toVal
@[go_sem] def con62 : Con := con1 [.v] true (.slice ty112) (fun xs => xs.length ≤ 1048576) (fun _ => []) fun xs => [⟨.own 68 ty68, toValS xs⟩]
theorem ok62 : con62.Ok Try.prog 62 := con1_ok ⟨_, Try.func62, rfl, by decide⟩ fun xs hn => by
  refine good_of (E := ⟨tyOf, [(82, con82)], []⟩) Try.func62 rfl (by kernel_rfl) (env_cons ok82 env_nil) rfl 23 rfl (by simp) [.tmp 2] rfl (by kernel_rfl) (by decide) (by decide) ?_
  intro cx hE hR hc hwf
  simp only [go_sem, hE, hR, tyOf, ty68, ty112, ↓reduceIte, ↓reduceDIte, Nat.reduceAdd, Nat.reduceEqDiff, Nat.reduceBEq, reduceCtorEq, Int.reduceLE, Int.reduceNeg, Nat.reduceLeDiff]
  refine ⟨by omega, ?_⟩
  refine loop_of hc (by kernel_rfl) (α := Nat) (fun x => [(0, .val ⟨.slice ty112, xs⟩, 0, 0), (3, .val ⟨.own 68 ty68, fillTo toVal (0, 0, [], ()) xs x⟩, 0, 0), (4, .val ⟨.int .i64, (x : Int)⟩, 0, 0)])
    (fun x => x ≤ xs.length) (fun x => xs.length - x) 0 ?_ ?_ ?_
  · simp only [go_sem, ↓reduceIte, ↓reduceDIte, Nat.reduceAdd, Nat.reduceEqDiff, ty68, ty112]
    simp [fillTo_zero]
  · simp
  · rintro i hi hw
    have hw0 := hw 0
    simp only [go_sem, ↓reduceIte] at hw0
    have hlen := fillTo_len toVal (0, 0, [], ()) xs i hi
    simp only [go_sem, hE, hR, tyOf, ty68, ty112, ↓reduceIte, ↓reduceDIte, Nat.reduceAdd, Nat.reduceEqDiff, Nat.reduceBEq, reduceCtorEq, Int.reduceLE, Int.reduceNeg, Nat.reduceLeDiff]
    refine ⟨fun h => ⟨⟨by omega, h⟩, ⟨by omega, by omega⟩, i + 1, ⟨fillTo_set toVal _ _ xs i (by omega), wrap_succ (by omega) hw0.1⟩, by omega, by omega⟩, fun h => ?_⟩
    have : i = List.length xs := by omega
    subst this
    exact fillTo_all toVal _ xs

/-! nested rows, each held -/
abbrev tyN61 : Ty := .prod (.int .i64) (.prod (.int .i64) (.prod (.own 68 ty68) (.prod (.own 68 ty68) .unit)))
def tyOfN (t : TypeId) : Option Ty :=
  if t = 61 then some tyN61 else if t = 24 then some (.own 61 tyN61) else tyOf t

def toChange (a : ty58.den) : tyN61.den := (a.1, a.2.1, toValS a.2.2.1, toValS a.2.2.2.1, ())
@[go_sem] def con30 : Con := con1 [.v] true ty58 (fun a => List.length a.2.2.1 ≤ 1048576 ∧ List.length a.2.2.2.1 ≤ 1048576) (fun _ => []) fun a => [⟨tyN61, toChange a⟩]
theorem ok30 : con30.Ok Try.prog 30 := con1_ok ⟨_, Try.func30, rfl, by decide⟩ fun a hn => by
  refine good_of (E := ⟨tyOfN, [(62, con62)], []⟩) Try.func30 rfl (by kernel_rfl) (env_cons ok62 env_nil) rfl 19 rfl (by simp) [.cell 2 61] rfl (by kernel_rfl) (by decide) (by decide) ?_
  intro cx hE hR hc hwf
  simp only [go_sem, hE, hR, tyOfN, tyOf, tyN61, ty58, ty61, ty68, ty112, ↓reduceIte, ↓reduceDIte, Nat.reduceAdd, Nat.reduceEqDiff, Nat.reduceBEq, reduceCtorEq, Int.reduceLE, Int.reduceNeg, Nat.reduceLeDiff]
  exact ⟨hn.1, hn.2, rfl⟩
def toChangeS (xs : List ty58.den) : List tyN61.den := xs.map toChange
@[go_sem] def con9 : Con := con1 [.v] true (.slice ty58) (fun xs => List.length xs ≤ 1048576 ∧ ∀ a ∈ (xs : List ty58.den), List.length a.2.2.1 ≤ 1048576 ∧ List.length a.2.2.2.1 ≤ 1048576) (fun _ => []) fun xs => [⟨.own 61 tyN61, toChangeS xs⟩]
theorem ok9 : con9.Ok Try.prog 9 := con1_ok ⟨_, Try.func9, rfl, by decide⟩ fun xs hn => by
  refine good_of (E := ⟨tyOfN, [(30, con30)], []⟩) Try.func9 rfl (by kernel_rfl) (env_cons ok30 env_nil) rfl 23 rfl (by simp) [.tmp 2] rfl (by kernel_rfl) (by decide) (by decide) ?_
  intro cx hE hR hc hwf
  simp only [go_sem, hE, hR, tyOfN, tyOf, tyN61, ty58, ty61, ty68, ty112, ↓reduceIte, ↓reduceDIte, Nat.reduceAdd, Nat.reduceEqDiff, Nat.reduceBEq, reduceCtorEq, Int.reduceLE, Int.reduceNeg, Nat.reduceLeDiff]
  refine ⟨by omega, ?_⟩
  refine loop_of hc (by kernel_rfl) (α := Nat) (fun x => [(0, .val ⟨.slice ty58, xs⟩, 0, 0), (3, .val ⟨.own 61 tyN61, fillTo toChange (0, 0, [], [], ()) xs x⟩, 0, 0), (4, .val ⟨.int .i64, (x : Int)⟩, 0, 0)])
    (fun x => x ≤ xs.length) (fun x => xs.length - x) 0 ?_ ?_ ?_
  · simp only [go_sem, ↓reduceIte, ↓reduceDIte, Nat.reduceAdd, Nat.reduceEqDiff, tyN61, ty58, ty68, ty112]
    simp [fillTo_zero]
  · simp
  · rintro i hi hw
    have hw0 := hw 0
    simp only [go_sem, ↓reduceIte] at hw0
    have hlen := fillTo_len toChange (0, 0, [], [], ()) xs i hi
    simp only [go_sem, hE, hR, tyOfN, tyOf, tyN61, ty58, ty61, ty68, ty112, ↓reduceIte, ↓reduceDIte, Nat.reduceAdd, Nat.reduceEqDiff, Nat.reduceBEq, reduceCtorEq, Int.reduceLE, Int.reduceNeg, Nat.reduceLeDiff]
    refine ⟨fun h => ⟨⟨by omega, h⟩, hn.2 _ (getD_mem xs i _ (by omega)), ⟨by omega, by omega⟩, i + 1, ⟨fillTo_set toChange _ _ xs i (by omega), wrap_succ (by omega) hw0.1⟩, by omega, by omega⟩, fun h => ?_⟩
    have : i = List.length xs := by omega
    subst this
    exact fillTo_all toChange _ xs

/-! ### equality -/
def eqVal (a b : ty68.den) : Bool := a.1 == b.1 && (a.2.1 == b.2.1 && a.2.2.1 == b.2.2.1)
@[go_sem] def con83 : Con := con2 [.v, .v] true ty68 ty68 (fun _ _ => True) (fun _ _ => []) fun a b => [⟨.bool, eqVal a b⟩]
theorem ok83 : con83.Ok Try.prog 83 := con2_ok ⟨_, Try.func83, rfl, by decide⟩ fun a b _ => by
  refine good_of (E := ⟨tyOf, [], []⟩) Try.func83 rfl (by kernel_rfl) env_nil rfl 20 rfl (by simp) [.tmp 4] rfl (by kernel_rfl) (by decide) (by decide) ?_
  intro cx hE hR hc hwf
  simp only [go_sem, hE, hR, tyOf, ty68, ↓reduceIte, ↓reduceDIte, Nat.reduceAdd, Nat.reduceEqDiff, Nat.reduceBEq, reduceCtorEq, Int.reduceLE, Int.reduceNeg, Nat.reduceLeDiff]
  by_cases h1 : a.1 = b.1 <;> by_cases h2 : a.2.1 = b.2.1 <;> by_cases h3 : a.2.2.1 = b.2.2.1 <;> simp_all [eqVal]
def eqRow {α : Type} (f : α → α → Bool) : List α → List α → Bool
  | [], [] => true
  | x :: xs, y :: ys => f x y && eqRow f xs ys
  | _, _ => false
theorem eqRow_len {α : Type} (f : α → α → Bool) : ∀ (xs ys : List α), eqRow f xs ys = true → xs.length = ys.length
  | [], [], _ => rfl
  | x :: xs, y :: ys, h => by
    simp only [eqRow, Bool.and_eq_true] at h
    simp [eqRow_len f xs ys h.2]
  | [], _ :: _, h => by simp [eqRow] at h
  | _ :: _, [], h => by simp [eqRow] at h
def eqValS (a b : List ty68.den) : Bool := eqRow eqVal a b
@[go_sem] def con64 : Con := con2 [.v, .v] true (.slice ty68) (.slice ty68) (fun _ _ => True) (fun _ _ => []) fun a b => [⟨.bool, eqValS a b⟩]
theorem ok64 : con64.Ok Try.prog 64 := con2_ok ⟨_, Try.func64, rfl, by decide⟩ fun xs ys _ => by
  refine good_of (E := ⟨tyOf, [(83, con83)], []⟩) Try.func64 rfl (by kernel_rfl) (env_cons ok83 env_nil) rfl 27 rfl (by simp) [.tmp 4] rfl (by kernel_rfl) (by decide) (by decide) ?_
  intro cx hE hR hc hwf
  simp only [go_sem, hE, hR, tyOf, ty68, ↓reduceIte, ↓reduceDIte, Nat.reduceAdd, Nat.reduceEqDiff, Nat.reduceBEq, reduceCtorEq, Int.reduceLE, Int.reduceNeg, Nat.reduceLeDiff]
  refine ⟨fun h => ?_, fun hl => ?_⟩
  · cases he : eqValS xs ys with
    | false => rfl
    | true => exact absurd (congrArg Int.ofNat (eqRow_len eqVal xs ys he)) h
  have hl : List.length xs = List.length ys := by omega
  refine loop_of hc (by kernel_rfl) (α := Nat) (fun x => [(0, .val ⟨.slice ty68, xs⟩, 0, 0), (1, .val ⟨.slice ty68, ys⟩, 0, 0), (5, .val ⟨.int .i64, (x : Int)⟩, 0, 0)])
    (fun x => x ≤ List.length xs ∧ eqRow eqVal (List.drop x xs) (List.drop x ys) = eqValS xs ys) (fun x => List.length xs - x) 0 ?_ ?_ ?_
  · simp only [go_sem, ↓reduceIte, ↓reduceDIte, Nat.reduceAdd, Nat.reduceEqDiff, ty68]
    simp
  · simp [eqValS]
  · rintro i ⟨hi, hinv⟩ hw
    have hw0 := hw 0
    simp only [go_sem, ↓reduceIte] at hw0
    simp only [go_sem, hE, hR, tyOf, ty68, ↓reduceIte, ↓reduceDIte, Nat.reduceAdd, Nat.reduceEqDiff, Nat.reduceBEq, reduceCtorEq, Int.reduceLE, Int.reduceNeg, Nat.reduceLeDiff]
    refine ⟨fun h => ?_, fun h => ?_⟩
    · have hlt : i < List.length xs := by omega
      rw [drop_getD xs i (0, 0, [], ()) hlt, drop_getD ys i (0, 0, [], ()) (by omega), eqRow] at hinv
      refine ⟨⟨by omega, h⟩, ⟨by omega, by omega⟩, by kernel_rfl, fun h2 => ?_, fun h2 => ⟨i + 1, wrap_succ hlt hw0.1, ⟨hlt, ?_⟩, by omega⟩⟩
      · rw [← hinv]; simp only [Bool.not_eq_true'] at h2; rw [h2]; rfl
      · rw [← hinv]; simp only [Bool.not_eq_false'] at h2; rw [h2]; rfl
    · have : i = List.length xs := by omega
      rw [← hinv, this, List.drop_length, hl, List.drop_length]; rfl
def eqChange (a b : ty61.den) : Bool := a.1 == b.1 && (a.2.1 == b.2.1 && (eqValS a.2.2.1 b.2.2.1 && eqValS a.2.2.2.1 b.2.2.2.1))
@[go_sem] def con33 : Con := con2 [.v, .v] true ty61 ty61 (fun _ _ => True) (fun _ _ => []) fun a b => [⟨.bool, eqChange a b⟩]
theorem ok33 : con33.Ok Try.prog 33 := con2_ok ⟨_, Try.func33, rfl, by decide⟩ fun a b _ => by
  refine good_of (E := ⟨tyOf, [(64, con64)], []⟩) Try.func33 rfl (by kernel_rfl) (env_cons ok64 env_nil) rfl 27 rfl (by simp) [.tmp 4] rfl (by kernel_rfl) (by decide) (by decide) ?_
  intro cx hE hR hc hwf
  simp only [go_sem, hE, hR, tyOf, ty61, ty68, ↓reduceIte, ↓reduceDIte, Nat.reduceAdd, Nat.reduceEqDiff, Nat.reduceBEq, reduceCtorEq, Int.reduceLE, Int.reduceNeg, Nat.reduceLeDiff]
  by_cases h1 : a.1 = b.1 <;> by_cases h2 : a.2.1 = b.2.1 <;> cases h3 : eqValS a.2.2.1 b.2.2.1 <;> cases h4 : eqValS a.2.2.2.1 b.2.2.2.1 <;> simp_all [eqChange]
def eqChangeS (a b : List ty61.den) : Bool := eqRow eqChange a b
@[go_sem] def con11 : Con := con2 [.v, .v] true (.slice ty61) (.slice ty61) (fun _ _ => True) (fun _ _ => []) fun a b => [⟨.bool, eqChangeS a b⟩]
theorem ok11 : con11.Ok Try.prog 11 := con2_ok ⟨_, Try.func11, rfl, by decide⟩ fun xs ys _ => by
  refine good_of (E := ⟨tyOf, [(33, con33)], []⟩) Try.func11 rfl (by kernel_rfl) (env_cons ok33 env_nil) rfl 27 rfl (by simp) [.tmp 4] rfl (by kernel_rfl) (by decide) (by decide) ?_
  intro cx hE hR hc hwf
  simp only [go_sem, hE, hR, tyOf, ty61, ty68, ↓reduceIte, ↓reduceDIte, Nat.reduceAdd, Nat.reduceEqDiff, Nat.reduceBEq, reduceCtorEq, Int.reduceLE, Int.reduceNeg, Nat.reduceLeDiff]
  refine ⟨fun h => ?_, fun hl => ?_⟩
  · cases he : eqChangeS xs ys with
    | false => rfl
    | true => exact absurd (congrArg Int.ofNat (eqRow_len eqChange xs ys he)) h
  have hl : List.length xs = List.length ys := by omega
  refine loop_of hc (by kernel_rfl) (α := Nat) (fun x => [(0, .val ⟨.slice ty61, xs⟩, 0, 0), (1, .val ⟨.slice ty61, ys⟩, 0, 0), (5, .val ⟨.int .i64, (x : Int)⟩, 0, 0)])
    (fun x => x ≤ List.length xs ∧ eqRow eqChange (List.drop x xs) (List.drop x ys) = eqChangeS xs ys) (fun x => List.length xs - x) 0 ?_ ?_ ?_
  · simp only [go_sem, ↓reduceIte, ↓reduceDIte, Nat.reduceAdd, Nat.reduceEqDiff, ty61, ty68]
    simp
  · simp [eqChangeS]
  · rintro i ⟨hi, hinv⟩ hw
    have hw0 := hw 0
    simp only [go_sem, ↓reduceIte] at hw0
    simp only [go_sem, hE, hR, tyOf, ty61, ty68, ↓reduceIte, ↓reduceDIte, Nat.reduceAdd, Nat.reduceEqDiff, Nat.reduceBEq, reduceCtorEq, Int.reduceLE, Int.reduceNeg, Nat.reduceLeDiff]
    refine ⟨fun h => ?_, fun h => ?_⟩
    · have hlt : i < List.length xs := by omega
      rw [drop_getD xs i (0, 0, [], [], ()) hlt, drop_getD ys i (0, 0, [], [], ()) (by omega), eqRow] at hinv
      refine ⟨⟨by omega, h⟩, ⟨by omega, by omega⟩, by kernel_rfl, fun h2 => ?_, fun h2 => ⟨i + 1, wrap_succ hlt hw0.1, ⟨hlt, ?_⟩, by omega⟩⟩
      · rw [← hinv]; simp only [Bool.not_eq_true'] at h2; rw [h2]; rfl
      · rw [← hinv]; simp only [Bool.not_eq_false'] at h2; rw [h2]; rfl
    · have : i = List.length xs := by omega
      rw [← hinv, this, List.drop_length, hl, List.drop_length]; rfl

/-! ### copies of rows -/
@[go_sem] def con29 : Con := con1 [.v] true (.slice ty68) (fun xs => List.length xs ≤ 1048576) (fun _ => []) fun xs => [⟨.own 68 ty68, xs⟩]
theorem ok29 : con29.Ok Try.prog 29 := con1_ok ⟨_, Try.func29, rfl, by decide⟩ fun xs hn => by
  refine good_of (E := ⟨tyOf, [], []⟩) Try.func29 rfl (by kernel_rfl) env_nil rfl 6 rfl (by simp) [.tmp 2] rfl (by kernel_rfl) (by decide) (by decide) ?_
  intro cx hE hR hc hwf
  simp only [go_sem, hE, hR, tyOf, ty68, ↓reduceIte, ↓reduceDIte, Nat.reduceAdd, Nat.reduceEqDiff, Nat.reduceBEq, reduceCtorEq, Int.reduceLE, Int.reduceNeg, Nat.reduceLeDiff]
  exact ⟨⟨rfl, by omega⟩, by omega, by omega, by simp only [maxLen]; omega⟩
@[go_sem] def con32 : Con := con1 [.v] true (.slice ty68) (fun xs => List.length xs ≤ 1048576) (fun _ => []) fun xs => [⟨.own 68 ty68, xs⟩]
theorem ok32 : con32.Ok Try.prog 32 := con1_ok ⟨_, Try.func32, rfl, by decide⟩ fun xs hn => by
  refine good_of (E := ⟨tyOf, [], []⟩) Try.func32 rfl (by kernel_rfl) env_nil rfl 8 rfl (by simp) [.tmp 2] rfl (by kernel_rfl) (by decide) (by decide) ?_
  intro cx hE hR hc hwf
  simp only [go_sem, hE, hR, tyOf, ty68, ↓reduceIte, ↓reduceDIte, Nat.reduceAdd, Nat.reduceEqDiff, Nat.reduceBEq, reduceCtorEq, Int.reduceLE, Int.reduceNeg, Nat.reduceLeDiff]
  have hh : ([] = List.range' 0 0 ∧ 0 * 3 ≤ 16777216) ∧ 0 < 3 ∧ (0 + List.length xs) * 32 ≤ 140737488355328 ∧ 0 + List.length xs ≤ maxLen := ⟨⟨rfl, by omega⟩, by omega, by omega, by simp only [maxLen]; omega⟩
  exact ⟨fun h0 b => ⟨fun _ => (List.length_eq_zero_iff.1 h0).symm, fun _ => hh⟩, fun _ => hh⟩

/-! ### the reference's inverse -/
def inv1 (c : ty61.den) : tyN61.den := (c.1, c.2.1, c.2.2.2.1, c.2.2.1, ())
def invS (xs : List ty61.den) : List tyN61.den := xs.reverse.map inv1
def small61 (xs : List ty61.den) : Prop := List.length xs ≤ 1048576 ∧ ∀ a ∈ (xs : List ty61.den), List.length a.2.2.1 ≤ 1048576 ∧ List.length a.2.2.2.1 ≤ 1048576
@[go_sem] def con8 : Con := con1 [.v] true (.slice ty61) small61 (fun _ => []) fun xs => [⟨.own 61 tyN61, invS xs⟩]
theorem ok8 : con8.Ok Try.prog 8 := con1_ok ⟨_, Try.func8, rfl, by decide⟩ fun xs hn => by
  refine good_of (E := ⟨tyOfN, [(29, con29)], []⟩) Try.func8 rfl (by kernel_rfl) (env_cons ok29 env_nil) rfl 40 rfl (by simp) [.tmp 2] rfl (by kernel_rfl) (by decide) (by decide) ?_
  intro cx hE hR hc hwf
  have hwf0 := hwf 0
  simp only [go_sem, ↓reduceIte] at hwf0
  simp only [go_sem, hE, hR, tyOfN, tyOf, tyN61, ty61, ty68, ↓reduceIte, ↓reduceDIte, Nat.reduceAdd, Nat.reduceEqDiff, Nat.reduceBEq, reduceCtorEq, Int.reduceLE, Int.reduceNeg, Nat.reduceLeDiff]
  refine ⟨⟨rfl, by omega⟩, ?_⟩
  obtain ⟨hn1, hn2⟩ := hn
  refine loop_of hc (by kernel_rfl) (α := Nat) (fun n => [(0, .val ⟨.slice ty61, xs⟩, 0, 0), (3, .val ⟨.own 61 tyN61, ((List.drop n xs).reverse.map inv1 : List tyN61.den)⟩, 0, 0), (4, .val ⟨.int .i64, (n : Int) - 1⟩, 0, 0)])
    (fun n => n ≤ List.length xs) (fun n => n) (List.length xs) ?_ ?_ ?_
  · simp only [go_sem, ↓reduceIte, ↓reduceDIte, Nat.reduceAdd, Nat.reduceEqDiff, tyN61, ty61, ty68]
    exact ⟨by simp, wrap_pred (by omega)⟩
  · simp
  · rintro n hle hw
    simp only [go_sem, hE, hR, tyOfN, tyOf, tyN61, ty61, ty68, ↓reduceIte, ↓reduceDIte, Nat.reduceAdd, Nat.reduceEqDiff, Nat.reduceBEq, reduceCtorEq, Int.reduceLE, Int.reduceNeg, Nat.reduceLeDiff]
    refine ⟨fun h => ?_, fun h => ?_⟩
    · obtain ⟨m, rfl⟩ : ∃ m, n = m + 1 := ⟨n - 1, by omega⟩
      have e : ((m + 1 : Nat) : Int) - 1 = m := by omega
      simp only [e, Int.toNat_natCast]
      have hm : m < List.length xs := by omega
      have hmem := hn2 _ (getD_mem xs m (0, 0, [], [], ()) hm)
      refine ⟨⟨by omega, by omega⟩, ⟨by omega, by omega⟩, ⟨by omega, by omega⟩, hmem.2, ⟨by omega, by omega⟩, hmem.1, by decide, ⟨rfl, by omega, by omega⟩, ⟨by omega, ?_, ?_⟩, by kernel_rfl, m, ⟨?_, wrap_pred (by omega)⟩, by omega, by omega⟩
      · simp only [List.length_map, List.length_reverse, List.length_drop]; omega
      · simp only [List.length_map, List.length_reverse, List.length_drop, maxLen]; omega
      · rw [drop_getD xs m (0, 0, [], [], ()) hm, List.reverse_cons, List.map_append]; rfl
    · have : n = 0 := by omega
      subst this
      simp [invS]

/-! ### marks -/
def mtLoop : Nat → List UInt8 → List UInt8
  | 0, out => out
  | k + 1, out => mtLoop ((k + 1) / 10) (UInt8.ofNat (48 + (k + 1) % 10) :: out)
decreasing_by omega
def markText (k : Int) : List UInt8 := if k ≤ 0 then [109, 48] else 109 :: mtLoop k.toNat []
@[go_sem] def con65 : Con := con1 [.v] true (.int .i64) (fun _ => True) (fun _ => []) fun k => [⟨.str, markText k⟩]
theorem ok65 : con65.Ok Try.prog 65 := con1_ok ⟨_, Try.func65, rfl, by decide⟩ fun k _ => by
  refine good_of (E := ⟨tyOf, [], []⟩) Try.func65 rfl (by kernel_rfl) env_nil rfl 20 rfl (by simp) [.tmp 2] rfl (by kernel_rfl) (by decide) (by decide) ?_
  intro cx hE hR hc hwf
  have hk := hwf 0
  simp only [go_sem, ↓reduceIte] at hk
  simp only [go_sem, hE, hR, tyOf, ↓reduceIte, ↓reduceDIte, Nat.reduceAdd, Nat.reduceEqDiff, Nat.reduceBEq, reduceCtorEq, Int.reduceLE, Int.reduceNeg, Nat.reduceLeDiff]
  refine ⟨fun h => by rw [markText, if_pos h], fun h => ?_⟩
  have hS : markText k = 109 :: mtLoop k.toNat [] := by rw [markText, if_neg (by omega)]
  rw [hS] at hR
  refine loop_of hc (by kernel_rfl) (α := Nat × List UInt8) (fun x => [(0, .val ⟨.int .i64, (x.1 : Int)⟩, 0, 0), (3, .val ⟨.str, x.2⟩, 0, 0)])
    (fun x => mtLoop x.1 x.2 = mtLoop k.toNat [] ∧ x.1 < 10 ^ (20 - x.2.length) ∧ x.2.length ≤ 20) (fun x => x.1) (k.toNat, []) ?_ ?_ ?_
  · simp only [go_sem, ↓reduceIte, ↓reduceDIte, Nat.reduceAdd, Nat.reduceEqDiff]
    exact (Int.toNat_of_nonneg (Int.le_of_lt h)).symm
  · refine ⟨rfl, ?_, by simp⟩
    simp [IntKind.wrap, IntKind.bits, IntKind.signed] at hk ⊢
    omega
  · rintro ⟨m, out⟩ ⟨h1, h2, h3⟩ hw
    simp only [go_sem, hE, hR, tyOf, ↓reduceIte, ↓reduceDIte, Nat.reduceAdd, Nat.reduceEqDiff, Nat.reduceBEq, reduceCtorEq, Int.reduceLE, Int.reduceNeg, Nat.reduceLeDiff]
    have hm := hw 0
    simp only [go_sem, ↓reduceIte] at hm
    simp only at h1 h2 h3
    refine ⟨fun hp => ⟨by omega, ⟨rfl, by omega, by omega⟩, by simp only [maxLen]; omega, by omega, (m / 10, UInt8.ofNat (48 + m % 10) :: out), ⟨?_, ?_⟩, ⟨?_, ?_, ?_⟩, ?_⟩, fun hp => ⟨by simp only [maxLen]; omega, ?_⟩⟩
    · show IntKind.i64.wrap ((m : Int).tdiv 10) = ((m / 10 : Nat) : Int)
      have e : ((m : Int).tdiv 10) = ((m / 10 : Nat) : Int) := by rw [Int.tdiv_eq_ediv_of_nonneg (by omega)]; omega
      rw [e]
      rw [IntKind.wrap_i64] at hm ⊢
      omega
    · have e : ((m : Int).tmod 10) = ((m % 10 : Nat) : Int) := by rw [Int.tmod_eq_emod_of_nonneg (by omega)]; omega
      rw [e]
      congr 2
      simp [IntKind.wrap, IntKind.bits, IntKind.signed]
      omega
    · rw [← h1]
      obtain ⟨j, rfl⟩ : ∃ j, m = j + 1 := ⟨m - 1, by omega⟩
      rw [mtLoop]
    · have hl : out.length < 20 := by
        rcases Nat.lt_or_ge out.length 20 with h | h
        · exact h
        · have : 20 - out.length = 0 := by omega
          rw [this] at h2; simp at h2; omega
      simp only [List.length_cons]
      rw [show 20 - out.length = (20 - (out.length + 1)) + 1 by omega, Nat.pow_succ] at h2
      exact Nat.div_lt_of_lt_mul (by rw [Nat.mul_comm]; exact h2)
    · have hl : out.length < 20 := by
        rcases Nat.lt_or_ge out.length 20 with h | h
        · exact h
        · have : 20 - out.length = 0 := by omega
          rw [this] at h2; simp at h2; omega
      simp only [List.length_cons]; omega
    · simp only; omega
    · have : m = 0 := by omega
      subst this
      rw [← h1, mtLoop]
end Go.Tv
