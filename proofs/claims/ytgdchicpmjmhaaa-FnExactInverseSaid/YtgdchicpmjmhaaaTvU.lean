/-
  Each operation's rule, all together. Conditions: none; plain definitions and lemmas.
-/
import Derived.Test.YtgdchicpmjmhaaaTvT
import Derived.Test.YtgdchicpmjmhaaaTvX
import Derived.Laws.Small
import Derived.Lib.SliceRun
namespace Go.Tv
set_option linter.unusedVariables false
set_option linter.unusedSimpArgs false
variable {P : Program}

/-! ### What a rule asks, it asks for one patch -/
theorem ex_move {rd : Rd} {d : Tmp} {x : Operand} {K : Patch → Prop} (h : pMove rd d x K) : ∃ pt, pMove rd d x (fun q => q = pt) ∧ K pt := by
  unfold pMove at *
  repeat' split at h
  all_goals first
    | exact h.elim
    | exact h.2.elim
    | exact h.2.2.elim
    | exact h.2.2.2.elim
    | exact h.2.2.2.2.elim
    | exact h.2.2.2.2.2.elim
    | exact h.2.2.2.2.2.2.elim
    | exact h.2.2.2.2.2.2.2.elim
    | exact h.2.2.2.2.2.2.2.2.elim
    | exact h.2.2.2.2.2.2.2.2.2.elim
    | exact h.2.2.2.2.2.2.2.2.2.2.elim
    | exact h.2.2.2.2.2.2.2.2.2.2.2.elim
    | (refine ⟨_, ?_, h⟩; simp_all; done)
    | (refine ⟨_, ?_, h.2⟩; simp_all; done)
    | (refine ⟨_, ?_, h.2.2⟩; simp_all; done)
    | (refine ⟨_, ?_, h.2.2.2⟩; simp_all; done)
    | (refine ⟨_, ?_, h.2.2.2.2⟩; simp_all; done)
    | (refine ⟨_, ?_, h.2.2.2.2.2⟩; simp_all; done)
    | (refine ⟨_, ?_, h.2.2.2.2.2.2⟩; simp_all; done)
    | (refine ⟨_, ?_, h.2.2.2.2.2.2.2⟩; simp_all; done)
    | (refine ⟨_, ?_, h.2.2.2.2.2.2.2.2⟩; simp_all; done)
    | (refine ⟨_, ?_, h.2.2.2.2.2.2.2.2.2⟩; simp_all; done)
    | (refine ⟨_, ?_, h.2.2.2.2.2.2.2.2.2.2⟩; simp_all; done)
    | (refine ⟨_, ?_, h.2.2.2.2.2.2.2.2.2.2.2⟩; simp_all; done)
theorem ex_assign {rd : Rd} {d : Tmp} {hint : Option Ty} {x : Operand} {K : Patch → Prop} (h : pAssign rd hint d x K) : ∃ pt, pAssign rd hint d x (fun q => q = pt) ∧ K pt := by
  unfold pAssign at *
  repeat' split at h
  all_goals first
    | exact h.elim
    | exact h.2.elim
    | exact h.2.2.elim
    | exact h.2.2.2.elim
    | exact h.2.2.2.2.elim
    | exact h.2.2.2.2.2.elim
    | exact h.2.2.2.2.2.2.elim
    | exact h.2.2.2.2.2.2.2.elim
    | exact h.2.2.2.2.2.2.2.2.elim
    | exact h.2.2.2.2.2.2.2.2.2.elim
    | exact h.2.2.2.2.2.2.2.2.2.2.elim
    | exact h.2.2.2.2.2.2.2.2.2.2.2.elim
    | (refine ⟨_, ?_, h⟩; simp_all; done)
    | (refine ⟨_, ?_, h.2⟩; simp_all; done)
    | (refine ⟨_, ?_, h.2.2⟩; simp_all; done)
    | (refine ⟨_, ?_, h.2.2.2⟩; simp_all; done)
    | (refine ⟨_, ?_, h.2.2.2.2⟩; simp_all; done)
    | (refine ⟨_, ?_, h.2.2.2.2.2⟩; simp_all; done)
    | (refine ⟨_, ?_, h.2.2.2.2.2.2⟩; simp_all; done)
    | (refine ⟨_, ?_, h.2.2.2.2.2.2.2⟩; simp_all; done)
    | (refine ⟨_, ?_, h.2.2.2.2.2.2.2.2⟩; simp_all; done)
    | (refine ⟨_, ?_, h.2.2.2.2.2.2.2.2.2⟩; simp_all; done)
    | (refine ⟨_, ?_, h.2.2.2.2.2.2.2.2.2.2⟩; simp_all; done)
    | (refine ⟨_, ?_, h.2.2.2.2.2.2.2.2.2.2.2⟩; simp_all; done)
theorem ex_alloc {rd : Rd} {d : Tmp} {T : TypeId → Option Ty} {e : TypeId} {K : Patch → Prop} (h : pAlloc P T d e K) : ∃ pt, pAlloc P T d e (fun q => q = pt) ∧ K pt := by
  unfold pAlloc at *
  repeat' split at h
  all_goals first
    | exact h.elim
    | exact h.2.elim
    | exact h.2.2.elim
    | exact h.2.2.2.elim
    | exact h.2.2.2.2.elim
    | exact h.2.2.2.2.2.elim
    | exact h.2.2.2.2.2.2.elim
    | exact h.2.2.2.2.2.2.2.elim
    | exact h.2.2.2.2.2.2.2.2.elim
    | exact h.2.2.2.2.2.2.2.2.2.elim
    | exact h.2.2.2.2.2.2.2.2.2.2.elim
    | exact h.2.2.2.2.2.2.2.2.2.2.2.elim
    | (refine ⟨_, ?_, h⟩; simp_all; done)
    | (refine ⟨_, ?_, h.2⟩; simp_all; done)
    | (refine ⟨_, ?_, h.2.2⟩; simp_all; done)
    | (refine ⟨_, ?_, h.2.2.2⟩; simp_all; done)
    | (refine ⟨_, ?_, h.2.2.2.2⟩; simp_all; done)
    | (refine ⟨_, ?_, h.2.2.2.2.2⟩; simp_all; done)
    | (refine ⟨_, ?_, h.2.2.2.2.2.2⟩; simp_all; done)
    | (refine ⟨_, ?_, h.2.2.2.2.2.2.2⟩; simp_all; done)
    | (refine ⟨_, ?_, h.2.2.2.2.2.2.2.2⟩; simp_all; done)
    | (refine ⟨_, ?_, h.2.2.2.2.2.2.2.2.2⟩; simp_all; done)
    | (refine ⟨_, ?_, h.2.2.2.2.2.2.2.2.2.2⟩; simp_all; done)
    | (refine ⟨_, ?_, h.2.2.2.2.2.2.2.2.2.2.2⟩; simp_all; done)
theorem ex_box {rd : Rd} {d : Tmp} {hint : Option Ty} {x : Operand} {K : Patch → Prop} (h : pBox rd hint d x K) : ∃ pt, pBox rd hint d x (fun q => q = pt) ∧ K pt := by
  unfold pBox at *
  repeat' split at h
  all_goals first
    | exact h.elim
    | exact h.2.elim
    | exact h.2.2.elim
    | exact h.2.2.2.elim
    | exact h.2.2.2.2.elim
    | exact h.2.2.2.2.2.elim
    | exact h.2.2.2.2.2.2.elim
    | exact h.2.2.2.2.2.2.2.elim
    | exact h.2.2.2.2.2.2.2.2.elim
    | exact h.2.2.2.2.2.2.2.2.2.elim
    | exact h.2.2.2.2.2.2.2.2.2.2.elim
    | exact h.2.2.2.2.2.2.2.2.2.2.2.elim
    | (refine ⟨_, ?_, h⟩; simp_all; done)
    | (refine ⟨_, ?_, h.2⟩; simp_all; done)
    | (refine ⟨_, ?_, h.2.2⟩; simp_all; done)
    | (refine ⟨_, ?_, h.2.2.2⟩; simp_all; done)
    | (refine ⟨_, ?_, h.2.2.2.2⟩; simp_all; done)
    | (refine ⟨_, ?_, h.2.2.2.2.2⟩; simp_all; done)
    | (refine ⟨_, ?_, h.2.2.2.2.2.2⟩; simp_all; done)
    | (refine ⟨_, ?_, h.2.2.2.2.2.2.2⟩; simp_all; done)
    | (refine ⟨_, ?_, h.2.2.2.2.2.2.2.2⟩; simp_all; done)
    | (refine ⟨_, ?_, h.2.2.2.2.2.2.2.2.2⟩; simp_all; done)
    | (refine ⟨_, ?_, h.2.2.2.2.2.2.2.2.2.2⟩; simp_all; done)
    | (refine ⟨_, ?_, h.2.2.2.2.2.2.2.2.2.2.2⟩; simp_all; done)
theorem ex_load {rd : Rd} {d : Tmp} {t : TypeId} {x : Operand} {K : Patch → Prop} (h : pLoad P rd d t x K) : ∃ pt, pLoad P rd d t x (fun q => q = pt) ∧ K pt := by
  unfold pLoad at *
  repeat' split at h
  all_goals first
    | exact h.elim
    | exact h.2.elim
    | exact h.2.2.elim
    | exact h.2.2.2.elim
    | exact h.2.2.2.2.elim
    | exact h.2.2.2.2.2.elim
    | exact h.2.2.2.2.2.2.elim
    | exact h.2.2.2.2.2.2.2.elim
    | exact h.2.2.2.2.2.2.2.2.elim
    | exact h.2.2.2.2.2.2.2.2.2.elim
    | exact h.2.2.2.2.2.2.2.2.2.2.elim
    | exact h.2.2.2.2.2.2.2.2.2.2.2.elim
    | (refine ⟨_, ?_, h⟩; simp_all; done)
    | (refine ⟨_, ?_, h.2⟩; simp_all; done)
    | (refine ⟨_, ?_, h.2.2⟩; simp_all; done)
    | (refine ⟨_, ?_, h.2.2.2⟩; simp_all; done)
    | (refine ⟨_, ?_, h.2.2.2.2⟩; simp_all; done)
    | (refine ⟨_, ?_, h.2.2.2.2.2⟩; simp_all; done)
    | (refine ⟨_, ?_, h.2.2.2.2.2.2⟩; simp_all; done)
    | (refine ⟨_, ?_, h.2.2.2.2.2.2.2⟩; simp_all; done)
    | (refine ⟨_, ?_, h.2.2.2.2.2.2.2.2⟩; simp_all; done)
    | (refine ⟨_, ?_, h.2.2.2.2.2.2.2.2.2⟩; simp_all; done)
    | (refine ⟨_, ?_, h.2.2.2.2.2.2.2.2.2.2⟩; simp_all; done)
    | (refine ⟨_, ?_, h.2.2.2.2.2.2.2.2.2.2.2⟩; simp_all; done)
theorem ex_fieldAddr {rd : Rd} {d : Tmp} {s : TypeId} {x : Operand} {k : Nat} {K : Patch → Prop} (h : pFieldAddr P rd d s x k K) : ∃ pt, pFieldAddr P rd d s x k (fun q => q = pt) ∧ K pt := by
  unfold pFieldAddr at *
  repeat' split at h
  all_goals first
    | exact h.elim
    | exact h.2.elim
    | exact h.2.2.elim
    | exact h.2.2.2.elim
    | exact h.2.2.2.2.elim
    | exact h.2.2.2.2.2.elim
    | exact h.2.2.2.2.2.2.elim
    | exact h.2.2.2.2.2.2.2.elim
    | exact h.2.2.2.2.2.2.2.2.elim
    | exact h.2.2.2.2.2.2.2.2.2.elim
    | exact h.2.2.2.2.2.2.2.2.2.2.elim
    | exact h.2.2.2.2.2.2.2.2.2.2.2.elim
    | (refine ⟨_, ?_, h⟩; simp_all; done)
    | (refine ⟨_, ?_, h.2⟩; simp_all; done)
    | (refine ⟨_, ?_, h.2.2⟩; simp_all; done)
    | (refine ⟨_, ?_, h.2.2.2⟩; simp_all; done)
    | (refine ⟨_, ?_, h.2.2.2.2⟩; simp_all; done)
    | (refine ⟨_, ?_, h.2.2.2.2.2⟩; simp_all; done)
    | (refine ⟨_, ?_, h.2.2.2.2.2.2⟩; simp_all; done)
    | (refine ⟨_, ?_, h.2.2.2.2.2.2.2⟩; simp_all; done)
    | (refine ⟨_, ?_, h.2.2.2.2.2.2.2.2⟩; simp_all; done)
    | (refine ⟨_, ?_, h.2.2.2.2.2.2.2.2.2⟩; simp_all; done)
    | (refine ⟨_, ?_, h.2.2.2.2.2.2.2.2.2.2⟩; simp_all; done)
    | (refine ⟨_, ?_, h.2.2.2.2.2.2.2.2.2.2.2⟩; simp_all; done)
theorem ex_store {rd : Rd} {d : Tmp} {t : TypeId} {x y : Operand} {K : Patch → Prop} (h : pStore P rd t x y K) : ∃ pt, pStore P rd t x y (fun q => q = pt) ∧ K pt := by
  unfold pStore at *
  repeat' split at h
  all_goals first
    | exact h.elim
    | exact h.2.elim
    | exact h.2.2.elim
    | exact h.2.2.2.elim
    | exact h.2.2.2.2.elim
    | exact h.2.2.2.2.2.elim
    | exact h.2.2.2.2.2.2.elim
    | exact h.2.2.2.2.2.2.2.elim
    | exact h.2.2.2.2.2.2.2.2.elim
    | exact h.2.2.2.2.2.2.2.2.2.elim
    | exact h.2.2.2.2.2.2.2.2.2.2.elim
    | exact h.2.2.2.2.2.2.2.2.2.2.2.elim
    | (refine ⟨_, ?_, h⟩; simp_all; done)
    | (refine ⟨_, ?_, h.2⟩; simp_all; done)
    | (refine ⟨_, ?_, h.2.2⟩; simp_all; done)
    | (refine ⟨_, ?_, h.2.2.2⟩; simp_all; done)
    | (refine ⟨_, ?_, h.2.2.2.2⟩; simp_all; done)
    | (refine ⟨_, ?_, h.2.2.2.2.2⟩; simp_all; done)
    | (refine ⟨_, ?_, h.2.2.2.2.2.2⟩; simp_all; done)
    | (refine ⟨_, ?_, h.2.2.2.2.2.2.2⟩; simp_all; done)
    | (refine ⟨_, ?_, h.2.2.2.2.2.2.2.2⟩; simp_all; done)
    | (refine ⟨_, ?_, h.2.2.2.2.2.2.2.2.2⟩; simp_all; done)
    | (refine ⟨_, ?_, h.2.2.2.2.2.2.2.2.2.2⟩; simp_all; done)
    | (refine ⟨_, ?_, h.2.2.2.2.2.2.2.2.2.2.2⟩; simp_all; done)
theorem ex_indexAddr {rd : Rd} {d : Tmp} {t : TypeId} {x y : Operand} {K : Patch → Prop} (h : pIndexAddr P rd d t x y K) : ∃ pt, pIndexAddr P rd d t x y (fun q => q = pt) ∧ K pt := by
  unfold pIndexAddr at *
  repeat' split at h
  all_goals first
    | exact h.elim
    | exact h.2.elim
    | exact h.2.2.elim
    | exact h.2.2.2.elim
    | exact h.2.2.2.2.elim
    | exact h.2.2.2.2.2.elim
    | exact h.2.2.2.2.2.2.elim
    | exact h.2.2.2.2.2.2.2.elim
    | exact h.2.2.2.2.2.2.2.2.elim
    | exact h.2.2.2.2.2.2.2.2.2.elim
    | exact h.2.2.2.2.2.2.2.2.2.2.elim
    | exact h.2.2.2.2.2.2.2.2.2.2.2.elim
    | (refine ⟨_, ?_, h⟩; simp_all; done)
    | (refine ⟨_, ?_, h.2⟩; simp_all; done)
    | (refine ⟨_, ?_, h.2.2⟩; simp_all; done)
    | (refine ⟨_, ?_, h.2.2.2⟩; simp_all; done)
    | (refine ⟨_, ?_, h.2.2.2.2⟩; simp_all; done)
    | (refine ⟨_, ?_, h.2.2.2.2.2⟩; simp_all; done)
    | (refine ⟨_, ?_, h.2.2.2.2.2.2⟩; simp_all; done)
    | (refine ⟨_, ?_, h.2.2.2.2.2.2.2⟩; simp_all; done)
    | (refine ⟨_, ?_, h.2.2.2.2.2.2.2.2⟩; simp_all; done)
    | (refine ⟨_, ?_, h.2.2.2.2.2.2.2.2.2⟩; simp_all; done)
    | (refine ⟨_, ?_, h.2.2.2.2.2.2.2.2.2.2⟩; simp_all; done)
    | (refine ⟨_, ?_, h.2.2.2.2.2.2.2.2.2.2.2⟩; simp_all; done)
theorem ex_bin {rd : Rd} {d : Tmp} {op : BinOp} {x y : Operand} {K : Patch → Prop} (h : pBin rd d op x y K) : ∃ pt, pBin rd d op x y (fun q => q = pt) ∧ K pt := by
  unfold pBin at *
  repeat' split at h
  all_goals first
    | exact h.elim
    | exact h.2.elim
    | exact h.2.2.elim
    | exact h.2.2.2.elim
    | exact h.2.2.2.2.elim
    | exact h.2.2.2.2.2.elim
    | exact h.2.2.2.2.2.2.elim
    | exact h.2.2.2.2.2.2.2.elim
    | exact h.2.2.2.2.2.2.2.2.elim
    | exact h.2.2.2.2.2.2.2.2.2.elim
    | exact h.2.2.2.2.2.2.2.2.2.2.elim
    | exact h.2.2.2.2.2.2.2.2.2.2.2.elim
    | (refine ⟨_, ?_, h⟩; simp_all; done)
    | (refine ⟨_, ?_, h.2⟩; simp_all; done)
    | (refine ⟨_, ?_, h.2.2⟩; simp_all; done)
    | (refine ⟨_, ?_, h.2.2.2⟩; simp_all; done)
    | (refine ⟨_, ?_, h.2.2.2.2⟩; simp_all; done)
    | (refine ⟨_, ?_, h.2.2.2.2.2⟩; simp_all; done)
    | (refine ⟨_, ?_, h.2.2.2.2.2.2⟩; simp_all; done)
    | (refine ⟨_, ?_, h.2.2.2.2.2.2.2⟩; simp_all; done)
    | (refine ⟨_, ?_, h.2.2.2.2.2.2.2.2⟩; simp_all; done)
    | (refine ⟨_, ?_, h.2.2.2.2.2.2.2.2.2⟩; simp_all; done)
    | (refine ⟨_, ?_, h.2.2.2.2.2.2.2.2.2.2⟩; simp_all; done)
    | (refine ⟨_, ?_, h.2.2.2.2.2.2.2.2.2.2.2⟩; simp_all; done)
theorem ex_len {rd : Rd} {d : Tmp} {t : TypeId} {x : Operand} {K : Patch → Prop} (h : pLen P rd d t x K) : ∃ pt, pLen P rd d t x (fun q => q = pt) ∧ K pt := by
  unfold pLen at *
  repeat' split at h
  all_goals first
    | exact h.elim
    | exact h.2.elim
    | exact h.2.2.elim
    | exact h.2.2.2.elim
    | exact h.2.2.2.2.elim
    | exact h.2.2.2.2.2.elim
    | exact h.2.2.2.2.2.2.elim
    | exact h.2.2.2.2.2.2.2.elim
    | exact h.2.2.2.2.2.2.2.2.elim
    | exact h.2.2.2.2.2.2.2.2.2.elim
    | exact h.2.2.2.2.2.2.2.2.2.2.elim
    | exact h.2.2.2.2.2.2.2.2.2.2.2.elim
    | (refine ⟨_, ?_, h⟩; simp_all; done)
    | (refine ⟨_, ?_, h.2⟩; simp_all; done)
    | (refine ⟨_, ?_, h.2.2⟩; simp_all; done)
    | (refine ⟨_, ?_, h.2.2.2⟩; simp_all; done)
    | (refine ⟨_, ?_, h.2.2.2.2⟩; simp_all; done)
    | (refine ⟨_, ?_, h.2.2.2.2.2⟩; simp_all; done)
    | (refine ⟨_, ?_, h.2.2.2.2.2.2⟩; simp_all; done)
    | (refine ⟨_, ?_, h.2.2.2.2.2.2.2⟩; simp_all; done)
    | (refine ⟨_, ?_, h.2.2.2.2.2.2.2.2⟩; simp_all; done)
    | (refine ⟨_, ?_, h.2.2.2.2.2.2.2.2.2⟩; simp_all; done)
    | (refine ⟨_, ?_, h.2.2.2.2.2.2.2.2.2.2⟩; simp_all; done)
    | (refine ⟨_, ?_, h.2.2.2.2.2.2.2.2.2.2.2⟩; simp_all; done)
theorem ex_index {rd : Rd} {d : Tmp} {t : TypeId} {x y : Operand} {K : Patch → Prop} (h : pIndex P rd d t x y K) : ∃ pt, pIndex P rd d t x y (fun q => q = pt) ∧ K pt := by
  unfold pIndex at *
  repeat' split at h
  all_goals first
    | exact h.elim
    | exact h.2.elim
    | exact h.2.2.elim
    | exact h.2.2.2.elim
    | exact h.2.2.2.2.elim
    | exact h.2.2.2.2.2.elim
    | exact h.2.2.2.2.2.2.elim
    | exact h.2.2.2.2.2.2.2.elim
    | exact h.2.2.2.2.2.2.2.2.elim
    | exact h.2.2.2.2.2.2.2.2.2.elim
    | exact h.2.2.2.2.2.2.2.2.2.2.elim
    | exact h.2.2.2.2.2.2.2.2.2.2.2.elim
    | (refine ⟨_, ?_, h⟩; simp_all; done)
    | (refine ⟨_, ?_, h.2⟩; simp_all; done)
    | (refine ⟨_, ?_, h.2.2⟩; simp_all; done)
    | (refine ⟨_, ?_, h.2.2.2⟩; simp_all; done)
    | (refine ⟨_, ?_, h.2.2.2.2⟩; simp_all; done)
    | (refine ⟨_, ?_, h.2.2.2.2.2⟩; simp_all; done)
    | (refine ⟨_, ?_, h.2.2.2.2.2.2⟩; simp_all; done)
    | (refine ⟨_, ?_, h.2.2.2.2.2.2.2⟩; simp_all; done)
    | (refine ⟨_, ?_, h.2.2.2.2.2.2.2.2⟩; simp_all; done)
    | (refine ⟨_, ?_, h.2.2.2.2.2.2.2.2.2⟩; simp_all; done)
    | (refine ⟨_, ?_, h.2.2.2.2.2.2.2.2.2.2⟩; simp_all; done)
    | (refine ⟨_, ?_, h.2.2.2.2.2.2.2.2.2.2.2⟩; simp_all; done)
theorem ex_un {rd : Rd} {d : Tmp} {op : UnOp} {x : Operand} {K : Patch → Prop} (h : pUn rd d op x K) : ∃ pt, pUn rd d op x (fun q => q = pt) ∧ K pt := by
  unfold pUn at *
  repeat' split at h
  all_goals first
    | exact h.elim
    | exact h.2.elim
    | exact h.2.2.elim
    | exact h.2.2.2.elim
    | exact h.2.2.2.2.elim
    | exact h.2.2.2.2.2.elim
    | exact h.2.2.2.2.2.2.elim
    | exact h.2.2.2.2.2.2.2.elim
    | exact h.2.2.2.2.2.2.2.2.elim
    | exact h.2.2.2.2.2.2.2.2.2.elim
    | exact h.2.2.2.2.2.2.2.2.2.2.elim
    | exact h.2.2.2.2.2.2.2.2.2.2.2.elim
    | (refine ⟨_, ?_, h⟩; simp_all; done)
    | (refine ⟨_, ?_, h.2⟩; simp_all; done)
    | (refine ⟨_, ?_, h.2.2⟩; simp_all; done)
    | (refine ⟨_, ?_, h.2.2.2⟩; simp_all; done)
    | (refine ⟨_, ?_, h.2.2.2.2⟩; simp_all; done)
    | (refine ⟨_, ?_, h.2.2.2.2.2⟩; simp_all; done)
    | (refine ⟨_, ?_, h.2.2.2.2.2.2⟩; simp_all; done)
    | (refine ⟨_, ?_, h.2.2.2.2.2.2.2⟩; simp_all; done)
    | (refine ⟨_, ?_, h.2.2.2.2.2.2.2.2⟩; simp_all; done)
    | (refine ⟨_, ?_, h.2.2.2.2.2.2.2.2.2⟩; simp_all; done)
    | (refine ⟨_, ?_, h.2.2.2.2.2.2.2.2.2.2⟩; simp_all; done)
    | (refine ⟨_, ?_, h.2.2.2.2.2.2.2.2.2.2.2⟩; simp_all; done)
theorem ex_conv {rd : Rd} {d : Tmp} {s t : TypeId} {x : Operand} {K : Patch → Prop} (h : pConv P rd d s t x K) : ∃ pt, pConv P rd d s t x (fun q => q = pt) ∧ K pt := by
  unfold pConv at *
  repeat' split at h
  all_goals first
    | exact h.elim
    | exact h.2.elim
    | exact h.2.2.elim
    | exact h.2.2.2.elim
    | exact h.2.2.2.2.elim
    | exact h.2.2.2.2.2.elim
    | exact h.2.2.2.2.2.2.elim
    | exact h.2.2.2.2.2.2.2.elim
    | exact h.2.2.2.2.2.2.2.2.elim
    | exact h.2.2.2.2.2.2.2.2.2.elim
    | exact h.2.2.2.2.2.2.2.2.2.2.elim
    | exact h.2.2.2.2.2.2.2.2.2.2.2.elim
    | (refine ⟨_, ?_, h⟩; simp_all; done)
    | (refine ⟨_, ?_, h.2⟩; simp_all; done)
    | (refine ⟨_, ?_, h.2.2⟩; simp_all; done)
    | (refine ⟨_, ?_, h.2.2.2⟩; simp_all; done)
    | (refine ⟨_, ?_, h.2.2.2.2⟩; simp_all; done)
    | (refine ⟨_, ?_, h.2.2.2.2.2⟩; simp_all; done)
    | (refine ⟨_, ?_, h.2.2.2.2.2.2⟩; simp_all; done)
    | (refine ⟨_, ?_, h.2.2.2.2.2.2.2⟩; simp_all; done)
    | (refine ⟨_, ?_, h.2.2.2.2.2.2.2.2⟩; simp_all; done)
    | (refine ⟨_, ?_, h.2.2.2.2.2.2.2.2.2⟩; simp_all; done)
    | (refine ⟨_, ?_, h.2.2.2.2.2.2.2.2.2.2⟩; simp_all; done)
    | (refine ⟨_, ?_, h.2.2.2.2.2.2.2.2.2.2.2⟩; simp_all; done)
theorem ex_build {rd : Rd} {d : Tmp} {T : TypeId → Option Ty} {t : TypeId} {ps : List (Nat × Operand)} {K : Patch → Prop} (h : pBuild P T rd d t ps K) : ∃ pt, pBuild P T rd d t ps (fun q => q = pt) ∧ K pt := by
  unfold pBuild at *
  repeat' split at h
  all_goals first
    | exact h.elim
    | exact h.2.elim
    | exact h.2.2.elim
    | exact h.2.2.2.elim
    | exact h.2.2.2.2.elim
    | exact h.2.2.2.2.2.elim
    | exact h.2.2.2.2.2.2.elim
    | exact h.2.2.2.2.2.2.2.elim
    | exact h.2.2.2.2.2.2.2.2.elim
    | exact h.2.2.2.2.2.2.2.2.2.elim
    | exact h.2.2.2.2.2.2.2.2.2.2.elim
    | exact h.2.2.2.2.2.2.2.2.2.2.2.elim
    | (refine ⟨_, ?_, h⟩; simp_all; done)
    | (refine ⟨_, ?_, h.2⟩; simp_all; done)
    | (refine ⟨_, ?_, h.2.2⟩; simp_all; done)
    | (refine ⟨_, ?_, h.2.2.2⟩; simp_all; done)
    | (refine ⟨_, ?_, h.2.2.2.2⟩; simp_all; done)
    | (refine ⟨_, ?_, h.2.2.2.2.2⟩; simp_all; done)
    | (refine ⟨_, ?_, h.2.2.2.2.2.2⟩; simp_all; done)
    | (refine ⟨_, ?_, h.2.2.2.2.2.2.2⟩; simp_all; done)
    | (refine ⟨_, ?_, h.2.2.2.2.2.2.2.2⟩; simp_all; done)
    | (refine ⟨_, ?_, h.2.2.2.2.2.2.2.2.2⟩; simp_all; done)
    | (refine ⟨_, ?_, h.2.2.2.2.2.2.2.2.2.2⟩; simp_all; done)
    | (refine ⟨_, ?_, h.2.2.2.2.2.2.2.2.2.2.2⟩; simp_all; done)
theorem ex_append {rd : Rd} {d : Tmp} {T : TypeId → Option Ty} {tT tx : TypeId} {x y : Operand} {K : Patch → Prop} (h : pAppend P T rd d tT tx x y K) : ∃ pt, pAppend P T rd d tT tx x y (fun q => q = pt) ∧ K pt := by
  unfold pAppend at *
  repeat' split at h
  all_goals first
    | exact h.elim
    | exact h.2.elim
    | exact h.2.2.elim
    | exact h.2.2.2.elim
    | exact h.2.2.2.2.elim
    | exact h.2.2.2.2.2.elim
    | exact h.2.2.2.2.2.2.elim
    | exact h.2.2.2.2.2.2.2.elim
    | exact h.2.2.2.2.2.2.2.2.elim
    | exact h.2.2.2.2.2.2.2.2.2.elim
    | exact h.2.2.2.2.2.2.2.2.2.2.elim
    | exact h.2.2.2.2.2.2.2.2.2.2.2.elim
    | (refine ⟨_, ?_, h⟩; simp_all; done)
    | (refine ⟨_, ?_, h.2⟩; simp_all; done)
    | (refine ⟨_, ?_, h.2.2⟩; simp_all; done)
    | (refine ⟨_, ?_, h.2.2.2⟩; simp_all; done)
    | (refine ⟨_, ?_, h.2.2.2.2⟩; simp_all; done)
    | (refine ⟨_, ?_, h.2.2.2.2.2⟩; simp_all; done)
    | (refine ⟨_, ?_, h.2.2.2.2.2.2⟩; simp_all; done)
    | (refine ⟨_, ?_, h.2.2.2.2.2.2.2⟩; simp_all; done)
    | (refine ⟨_, ?_, h.2.2.2.2.2.2.2.2⟩; simp_all; done)
    | (refine ⟨_, ?_, h.2.2.2.2.2.2.2.2.2⟩; simp_all; done)
    | (refine ⟨_, ?_, h.2.2.2.2.2.2.2.2.2.2⟩; simp_all; done)
    | (refine ⟨_, ?_, h.2.2.2.2.2.2.2.2.2.2.2⟩; simp_all; done)
theorem ex_buildSlice {rd : Rd} {d : Tmp} {T : TypeId → Option Ty} {tT : TypeId} {len : Nat} {ps : List (Nat × Operand)} {K : Patch → Prop} (h : pBuildSlice P T rd d tT len ps K) : ∃ pt, pBuildSlice P T rd d tT len ps (fun q => q = pt) ∧ K pt := by
  unfold pBuildSlice at *
  repeat' split at h
  all_goals first
    | exact h.elim
    | exact h.2.elim
    | exact h.2.2.elim
    | exact h.2.2.2.elim
    | exact h.2.2.2.2.elim
    | exact h.2.2.2.2.2.elim
    | exact h.2.2.2.2.2.2.elim
    | exact h.2.2.2.2.2.2.2.elim
    | exact h.2.2.2.2.2.2.2.2.elim
    | exact h.2.2.2.2.2.2.2.2.2.elim
    | exact h.2.2.2.2.2.2.2.2.2.2.elim
    | exact h.2.2.2.2.2.2.2.2.2.2.2.elim
    | (refine ⟨_, ?_, h⟩; simp_all; done)
    | (refine ⟨_, ?_, h.2⟩; simp_all; done)
    | (refine ⟨_, ?_, h.2.2⟩; simp_all; done)
    | (refine ⟨_, ?_, h.2.2.2⟩; simp_all; done)
    | (refine ⟨_, ?_, h.2.2.2.2⟩; simp_all; done)
    | (refine ⟨_, ?_, h.2.2.2.2.2⟩; simp_all; done)
    | (refine ⟨_, ?_, h.2.2.2.2.2.2⟩; simp_all; done)
    | (refine ⟨_, ?_, h.2.2.2.2.2.2.2⟩; simp_all; done)
    | (refine ⟨_, ?_, h.2.2.2.2.2.2.2.2⟩; simp_all; done)
    | (refine ⟨_, ?_, h.2.2.2.2.2.2.2.2.2⟩; simp_all; done)
    | (refine ⟨_, ?_, h.2.2.2.2.2.2.2.2.2.2⟩; simp_all; done)
    | (refine ⟨_, ?_, h.2.2.2.2.2.2.2.2.2.2.2⟩; simp_all; done)
theorem ex_makeSlice {rd : Rd} {d : Tmp} {T : TypeId → Option Ty} {tT : TypeId} {x y : Operand} {K : Patch → Prop} (h : pMakeSlice P T rd d tT x y K) : ∃ pt, pMakeSlice P T rd d tT x y (fun q => q = pt) ∧ K pt := by
  unfold pMakeSlice at *
  repeat' split at h
  all_goals first
    | exact h.elim
    | exact h.2.elim
    | exact h.2.2.elim
    | exact h.2.2.2.elim
    | exact h.2.2.2.2.elim
    | exact h.2.2.2.2.2.elim
    | exact h.2.2.2.2.2.2.elim
    | exact h.2.2.2.2.2.2.2.elim
    | exact h.2.2.2.2.2.2.2.2.elim
    | exact h.2.2.2.2.2.2.2.2.2.elim
    | exact h.2.2.2.2.2.2.2.2.2.2.elim
    | exact h.2.2.2.2.2.2.2.2.2.2.2.elim
    | (refine ⟨_, ?_, h⟩; simp_all; done)
    | (refine ⟨_, ?_, h.2⟩; simp_all; done)
    | (refine ⟨_, ?_, h.2.2⟩; simp_all; done)
    | (refine ⟨_, ?_, h.2.2.2⟩; simp_all; done)
    | (refine ⟨_, ?_, h.2.2.2.2⟩; simp_all; done)
    | (refine ⟨_, ?_, h.2.2.2.2.2⟩; simp_all; done)
    | (refine ⟨_, ?_, h.2.2.2.2.2.2⟩; simp_all; done)
    | (refine ⟨_, ?_, h.2.2.2.2.2.2.2⟩; simp_all; done)
    | (refine ⟨_, ?_, h.2.2.2.2.2.2.2.2⟩; simp_all; done)
    | (refine ⟨_, ?_, h.2.2.2.2.2.2.2.2.2⟩; simp_all; done)
    | (refine ⟨_, ?_, h.2.2.2.2.2.2.2.2.2.2⟩; simp_all; done)
    | (refine ⟨_, ?_, h.2.2.2.2.2.2.2.2.2.2.2⟩; simp_all; done)
theorem ex_extract {rd : Rd} {d : Tmp} {x : Operand} {ix : Nat} {K : Patch → Prop} (h : pExtract rd d x ix K) : ∃ pt, pExtract rd d x ix (fun q => q = pt) ∧ K pt := by
  unfold pExtract at *
  repeat' split at h
  all_goals first
    | exact h.elim
    | exact h.2.elim
    | exact h.2.2.elim
    | exact h.2.2.2.elim
    | exact h.2.2.2.2.elim
    | exact h.2.2.2.2.2.elim
    | exact h.2.2.2.2.2.2.elim
    | exact h.2.2.2.2.2.2.2.elim
    | exact h.2.2.2.2.2.2.2.2.elim
    | exact h.2.2.2.2.2.2.2.2.2.elim
    | exact h.2.2.2.2.2.2.2.2.2.2.elim
    | exact h.2.2.2.2.2.2.2.2.2.2.2.elim
    | (refine ⟨_, ?_, h⟩; simp_all; done)
    | (refine ⟨_, ?_, h.2⟩; simp_all; done)
    | (refine ⟨_, ?_, h.2.2⟩; simp_all; done)
    | (refine ⟨_, ?_, h.2.2.2⟩; simp_all; done)
    | (refine ⟨_, ?_, h.2.2.2.2⟩; simp_all; done)
    | (refine ⟨_, ?_, h.2.2.2.2.2⟩; simp_all; done)
    | (refine ⟨_, ?_, h.2.2.2.2.2.2⟩; simp_all; done)
    | (refine ⟨_, ?_, h.2.2.2.2.2.2.2⟩; simp_all; done)
    | (refine ⟨_, ?_, h.2.2.2.2.2.2.2.2⟩; simp_all; done)
    | (refine ⟨_, ?_, h.2.2.2.2.2.2.2.2.2⟩; simp_all; done)
    | (refine ⟨_, ?_, h.2.2.2.2.2.2.2.2.2.2⟩; simp_all; done)
    | (refine ⟨_, ?_, h.2.2.2.2.2.2.2.2.2.2.2⟩; simp_all; done)
theorem ex_pick {rd : Rd} {d : Tmp} {c x y : Operand} {K : Patch → Prop} (h : pPick rd d c x y K) : ∃ pt, pPick rd d c x y (fun q => q = pt) ∧ K pt := by
  unfold pPick at *
  repeat' split at h
  all_goals first
    | exact h.elim
    | exact h.2.elim
    | exact h.2.2.elim
    | exact h.2.2.2.elim
    | exact h.2.2.2.2.elim
    | exact h.2.2.2.2.2.elim
    | exact h.2.2.2.2.2.2.elim
    | exact h.2.2.2.2.2.2.2.elim
    | exact h.2.2.2.2.2.2.2.2.elim
    | exact h.2.2.2.2.2.2.2.2.2.elim
    | exact h.2.2.2.2.2.2.2.2.2.2.elim
    | exact h.2.2.2.2.2.2.2.2.2.2.2.elim
    | (refine ⟨_, ?_, h⟩; simp_all; done)
    | (refine ⟨_, ?_, h.2⟩; simp_all; done)
    | (refine ⟨_, ?_, h.2.2⟩; simp_all; done)
    | (refine ⟨_, ?_, h.2.2.2⟩; simp_all; done)
    | (refine ⟨_, ?_, h.2.2.2.2⟩; simp_all; done)
    | (refine ⟨_, ?_, h.2.2.2.2.2⟩; simp_all; done)
    | (refine ⟨_, ?_, h.2.2.2.2.2.2⟩; simp_all; done)
    | (refine ⟨_, ?_, h.2.2.2.2.2.2.2⟩; simp_all; done)
    | (refine ⟨_, ?_, h.2.2.2.2.2.2.2.2⟩; simp_all; done)
    | (refine ⟨_, ?_, h.2.2.2.2.2.2.2.2.2⟩; simp_all; done)
    | (refine ⟨_, ?_, h.2.2.2.2.2.2.2.2.2.2⟩; simp_all; done)
    | (refine ⟨_, ?_, h.2.2.2.2.2.2.2.2.2.2.2⟩; simp_all; done)
theorem ex_callB {rd : Rd} {d : Tmp} {c : Con} {l : List (Option Ty × Operand)} {K : Patch → Prop} (h : pCallB c rd d l K) : ∃ pt, pCallB c rd d l (fun q => q = pt) ∧ K pt := by
  unfold pCallB at *
  split at h
  · rename_i vs h1
    split at h
    · rename_i pre outs res h2
      refine ⟨_, ?_, h.2.2.2.2⟩
      simp only [h1, h2]
      exact ⟨h.1, h.2.1, h.2.2.1, h.2.2.2.1, trivial⟩
    · exact h.elim
  · exact h.elim
theorem ex_callS {rd : Rd} {d : Tmp} {c : Con} {l : List (Option Ty × Operand)} {K : Patch → Prop} (h : pCallS c rd d l K) : ∃ pt, pCallS c rd d l (fun q => q = pt) ∧ K pt := by
  unfold pCallS at *
  repeat' split at h
  all_goals first
    | exact h.elim
    | exact h.2.elim
    | exact h.2.2.elim
    | exact h.2.2.2.elim
    | exact h.2.2.2.2.elim
    | exact h.2.2.2.2.2.elim
    | exact h.2.2.2.2.2.2.elim
    | exact h.2.2.2.2.2.2.2.elim
    | exact h.2.2.2.2.2.2.2.2.elim
    | exact h.2.2.2.2.2.2.2.2.2.elim
    | exact h.2.2.2.2.2.2.2.2.2.2.elim
    | exact h.2.2.2.2.2.2.2.2.2.2.2.elim
    | (refine ⟨_, ?_, h⟩; simp_all; done)
    | (refine ⟨_, ?_, h.2⟩; simp_all; done)
    | (refine ⟨_, ?_, h.2.2⟩; simp_all; done)
    | (refine ⟨_, ?_, h.2.2.2⟩; simp_all; done)
    | (refine ⟨_, ?_, h.2.2.2.2⟩; simp_all; done)
    | (refine ⟨_, ?_, h.2.2.2.2.2⟩; simp_all; done)
    | (refine ⟨_, ?_, h.2.2.2.2.2.2⟩; simp_all; done)
    | (refine ⟨_, ?_, h.2.2.2.2.2.2.2⟩; simp_all; done)
    | (refine ⟨_, ?_, h.2.2.2.2.2.2.2.2⟩; simp_all; done)
    | (refine ⟨_, ?_, h.2.2.2.2.2.2.2.2.2⟩; simp_all; done)
    | (refine ⟨_, ?_, h.2.2.2.2.2.2.2.2.2.2⟩; simp_all; done)
    | (refine ⟨_, ?_, h.2.2.2.2.2.2.2.2.2.2.2⟩; simp_all; done)
theorem ex_callX {rd : Rd} {d : Tmp} {c : Con} {x : Operand} {l : List (Option Ty × Operand)} {K : Patch → Prop} (h : pCallX c rd d x l K) : ∃ pt, pCallX c rd d x l (fun q => q = pt) ∧ K pt := by
  unfold pCallX at *
  repeat' split at h
  all_goals first
    | exact h.elim
    | exact h.2.elim
    | exact h.2.2.elim
    | exact h.2.2.2.elim
    | exact h.2.2.2.2.elim
    | exact h.2.2.2.2.2.elim
    | exact h.2.2.2.2.2.2.elim
    | exact h.2.2.2.2.2.2.2.elim
    | exact h.2.2.2.2.2.2.2.2.elim
    | exact h.2.2.2.2.2.2.2.2.2.elim
    | exact h.2.2.2.2.2.2.2.2.2.2.elim
    | exact h.2.2.2.2.2.2.2.2.2.2.2.elim
    | (refine ⟨_, ?_, h⟩; simp_all; done)
    | (refine ⟨_, ?_, h.2⟩; simp_all; done)
    | (refine ⟨_, ?_, h.2.2⟩; simp_all; done)
    | (refine ⟨_, ?_, h.2.2.2⟩; simp_all; done)
    | (refine ⟨_, ?_, h.2.2.2.2⟩; simp_all; done)
    | (refine ⟨_, ?_, h.2.2.2.2.2⟩; simp_all; done)
    | (refine ⟨_, ?_, h.2.2.2.2.2.2⟩; simp_all; done)
    | (refine ⟨_, ?_, h.2.2.2.2.2.2.2⟩; simp_all; done)
    | (refine ⟨_, ?_, h.2.2.2.2.2.2.2.2⟩; simp_all; done)
    | (refine ⟨_, ?_, h.2.2.2.2.2.2.2.2.2⟩; simp_all; done)
    | (refine ⟨_, ?_, h.2.2.2.2.2.2.2.2.2.2⟩; simp_all; done)
    | (refine ⟨_, ?_, h.2.2.2.2.2.2.2.2.2.2.2⟩; simp_all; done)

/-! ### frames written out -/
abbrev Fr := List (Tmp × Ent)
def Fr.get : Fr → Rd
  | [], _ => (.undef, 0, 0)
  | (k, e) :: r, t => if t = k then e else Fr.get r t
def Fr.app (σ : Fr) : Patch → Fr
  | [] => σ
  | (d, s, b) :: pt => Fr.app ((d, s, bump (σ.get d).2 b) :: σ) pt
theorem Fr.get_app : ∀ (pt : Patch) (σ : Fr), (σ.app pt).get = appP pt σ.get
  | [], σ => rfl
  | (d, s, b) :: pt, σ => by
    show (Fr.app ((d, s, bump (σ.get d).2 b) :: σ) pt).get = appP pt (app1 σ.get (d, s, b))
    rw [Fr.get_app pt]
    rfl
def Fr.only (σ : Fr) (R : List Tmp) : Rd := fun t => if t ∈ R then σ.get t else (.undef, 0, 0)

structure Env where
  T : TypeId → Option Ty
  con : List (FuncId × Con)
  clo : Clos
def Env.Ok (P : Program) (E : Env) : Prop := (∀ q ∈ E.con, q.2.Ok P q.1) ∧ Clos.Ok P E.clo
def look (f : FuncId) : List (FuncId × Con) → Option Con
  | [] => none
  | (g, c) :: r => if f = g then some c else look f r
theorem look_ok {E : Env} (hE : E.Ok P) {f : FuncId} {c : Con} (h : look f E.con = some c) : c.Ok P f := by
  have : ∀ l : List (FuncId × Con), look f l = some c → (f, c) ∈ l := by
    intro l
    induction l with
    | nil => intro h; cases h
    | cons q l ih =>
      obtain ⟨g, c'⟩ := q
      intro h
      simp only [look] at h
      split at h
      · rename_i e; subst e; simp only [Option.some.injEq] at h; subst h; exact List.mem_cons_self
      · exact List.mem_cons_of_mem _ (ih h)
  exact hE.1 _ (this _ h)

def pBool (P : Program) (t : TypeId) : Bool := match P.underlying t with | some .bool => true | _ => false
theorem pBool_some {t : TypeId} (h : pBool P t = true) : P.underlying t = some .bool := by
  unfold pBool at h
  split at h
  · assumption
  · cases h
def pBinB (P : Program) (rd : Rd) (d : Tmp) (op : BinOp) (xt : TypeId) (x y : Operand) (K : Patch → Prop) : Prop :=
  match boolS (rdO rd x).1, boolS (rdO rd y).1 with
  | some p, some q => match op with
    | .eql => pBool P xt = true ∧ K [(d, .val ⟨.bool, p == q⟩, .new)]
    | .neq => pBool P xt = true ∧ K [(d, .val ⟨.bool, p != q⟩, .new)]
    | _ => False
  | _, _ => pBin rd d op x y K

def pCallF (E : Env) (rd : Rd) (d : Tmp) (con : Con) (args : List Operand) (ts : List TypeId) (K : Patch → Prop) : Prop :=
  if con.bor then pCallB con rd d ((ts.map E.T).zip args) K
  else match con.ms with
    | .io :: _ => match args, ts with | x :: xs, _ :: ts => pCallX con rd d x ((ts.map E.T).zip xs) K | _, _ => False
    | .p :: _ => match args, ts with | x :: xs, _ :: ts => pCallX con rd d x ((ts.map E.T).zip xs) K | _, _ => False
    | _ => pCallS con rd d ((ts.map E.T).zip args) K

def pCall (P : Program) (E : Env) (rd : Rd) (d : Tmp) (callee : Callee) (args : List Operand) (ts : List TypeId) (K : Patch → Prop) : Prop :=
  match callee with
  | .builtin .len => match args, ts with | [x], t :: _ => pLen P rd d t x K | _, _ => False
  | .builtin .append => match args, ts with | [x, y], [t, u] => pAppend P E.T rd d t u x y K | _, _ => False
  | .value (.func f) => match look f E.con with
    | some con => ts.length = args.length ∧ pCallF E rd d (con.upE E.clo) args ts K
    | none => False
  | .value (.tmp j) => ts.length = args.length ∧ pCallFn E.clo rd d j ((ts.map E.T).zip args) K
  | _ => False

def pOp (P : Program) (E : Env) (rd : Rd) (ty : TypeId) (d : Tmp) : Op → (Patch → Prop) → Prop
  | .move x, K => pMove rd d x K
  | .assign x, K => pAssign rd (E.T ty) d x K
  | .alloc e, K => pAlloc P E.T d e K
  | .box e x, K => pBox rd (E.T e) d x K
  | .build t ps, K => pBuild P E.T rd d t ps.toList K
  | .buildSlice t len ps, K => pBuildSlice P E.T rd d t len ps.toList K
  | .load t x, K => pLoad P rd d t x K
  | .fieldAddr s x k, K => pFieldAddr P rd d s x k K
  | .indexAddr t x i, K => pIndexAddr P rd d t x i K
  | .index t x i, K => pIndex P rd d t x i K
  | .binOp op t x y _, K => pBinB P rd d op t x y K
  | .unOp op _ x, K => pUn rd d op x K
  | .convert s t x, K => pConv P rd d s t x K
  | .makeSlice t l c, K => pMakeSlice P E.T rd d t l c K
  | .extract x i, K => pExtract rd d x i K
  | .pick c x y, K => pPick rd d c x y K
  | .call c, K => pCall P E rd d c.callee c.args.toList c.argTypes.toList K
  | .makeFunc fn first caps, K => pMakeFunc E.clo rd d fn first.toList caps.toList K
  | _, _ => False

def pOper (P : Program) (E : Env) (rd : Rd) (op : Op) (dst : Option Tmp) (ty : TypeId) (K : Patch → Prop) : Prop :=
  match dst with
  | some d => pOp P E rd ty d op K
  | none => match op with | .store t x y => pStore P rd t x y K | _ => False

theorem ex_binB {rd : Rd} {d : Tmp} {op : BinOp} {xt : TypeId} {x y : Operand} {K : Patch → Prop} (h : pBinB P rd d op xt x y K) : ∃ pt, pBinB P rd d op xt x y (fun q => q = pt) ∧ K pt := by
  unfold pBinB at *
  split at h
  · cases op <;> first | exact ⟨_, ⟨h.1, rfl⟩, h.2⟩ | exact h.elim
  · exact ex_bin h
theorem ex_callFn {L : Clos} {rd : Rd} {d j : Tmp} {l : List (Option Ty × Operand)} {K : Patch → Prop} (h : pCallFn L rd d j l K) : ∃ pt, pCallFn L rd d j l (fun q => q = pt) ∧ K pt := by
  unfold pCallFn at *
  split at h
  · split at h
    · split at h
      · exact ⟨_, ⟨h.1, h.2.1, rfl⟩, h.2.2⟩
      · exact h.elim
    · exact h.elim
  · exact h.elim
theorem ex_makeFunc {L : Clos} {rd : Rd} {d : Tmp} {fn : Fn} {first caps : List Operand} {K : Patch → Prop} (h : pMakeFunc L rd d fn first caps K) : ∃ pt, pMakeFunc L rd d fn first caps (fun q => q = pt) ∧ K pt := by
  unfold pMakeFunc at *
  split at h
  · split at h
    · split at h
      · split at h
        · rename_i hx; simp only [hx]; exact ⟨_, ⟨h.1, h.2.1, rfl⟩, h.2.2⟩
        · exact h.elim
      · exact h.elim
    · exact h.elim
  · exact h.elim
theorem ex_call {E : Env} {rd : Rd} {d : Tmp} {c : Callee} {args : List Operand} {ts : List TypeId} {K : Patch → Prop} (h : pCall P E rd d c args ts K) : ∃ pt, pCall P E rd d c args ts (fun q => q = pt) ∧ K pt := by
  unfold pCall at *
  split at h
  · split at h
    · exact ex_len h
    · exact h.elim
  · split at h
    · exact ex_append h
    · exact h.elim
  · split at h
    · rename_i con hcon
      obtain ⟨hl, h⟩ := h
      generalize con.upE E.clo = con at *
      have : ∃ pt, pCallF E rd d con args ts (fun q => q = pt) ∧ K pt := by
        unfold pCallF at *
        by_cases hb : con.bor = true
        · simp only [hb, if_true] at h ⊢
          exact ex_callB h
        · simp only [hb, if_false, Bool.false_eq_true] at h ⊢
          split at h
          · split at h
            · exact ex_callX h
            · exact h.elim
          · split at h
            · exact ex_callX h
            · exact h.elim
          · exact ex_callS h
      obtain ⟨pt, h1, h2⟩ := this
      exact ⟨pt, ⟨hl, h1⟩, h2⟩
    · exact h.elim
  · obtain ⟨hl, h⟩ := h
    obtain ⟨pt, h1, h2⟩ := ex_callFn h
    exact ⟨pt, ⟨hl, h1⟩, h2⟩
  · exact h.elim
theorem ex_oper {E : Env} {rd : Rd} {op : Op} {dst : Option Tmp} {ty : TypeId} {K : Patch → Prop} (h : pOper P E rd op dst ty K) : ∃ pt, pOper P E rd op dst ty (fun q => q = pt) ∧ K pt := by
  unfold pOper at *
  cases dst with
  | none =>
    cases op <;> first | exact h.elim | exact ex_store (d := 0) h
  | some d =>
    simp only at h ⊢
    cases op <;> simp only [pOp] at h ⊢ <;> first
      | exact ex_move h
      | exact ex_assign h
      | exact ex_alloc (rd := rd) h
      | exact ex_box h
      | exact ex_build h
      | exact ex_buildSlice h
      | exact ex_load h
      | exact ex_fieldAddr h
      | exact ex_indexAddr h
      | exact ex_index h
      | exact ex_binB h
      | exact ex_un h
      | exact ex_conv h
      | exact ex_makeSlice h
      | exact ex_extract h
      | exact ex_pick h
      | exact ex_call h
      | exact ex_makeFunc h
      | exact h.elim

section
variable {n : Sz} {w0 : World} {S0 F0 : BS} {get rd : Rd} {a : Act} {w : World} {S : BS} {fp : Tmp → BS}

theorem binB_sim (h : SimX P n w0 S0 F0 get a w S fp) (hb : Below rd get) {d : Tmp} (hd : d < n.sz) {op : BinOp} {xt yt : TypeId} {x y : Operand} {o : Oper} (ho : o.op = .binOp op xt x y yt) (hod : o.dst = some d) {K : Patch → Prop} {Q : Exit → Act → World → Prop} (hp : pBinB P rd d op xt x y K) : o.wp P a w (Nx P n w0 S0 F0 get K) Q := by
  unfold pBinB at hp
  split at hp
  · rename_i p q hx hy
    have hxe := bool_eval h hb hx
    have hye := bool_eval h hb hy
    have hexec : ∀ v, (binOp op xt (.bool p) (.bool q)).run P w = .ok v w → (execOp a.eval o).run P w = .ok (.value v) w := by
      intro v hv
      unfold execOp
      simp [ho, hxe, hye, guard_bool, hv]
    cases op <;> first | exact hp.elim | skip
    · have hu := pBool_some hp.1
      refine sim_scalar (v := V.mk .bool (p == q)) (cs := [.bool (p == q)]) h hd hod (hexec _ ?_) rfl hp.2
      exact run_eql_bool w xt p q hu
    · have hu := pBool_some hp.1
      refine sim_scalar (v := V.mk .bool (p != q)) (cs := [.bool (p != q)]) h hd hod (hexec _ ?_) rfl hp.2
      exact run_neq_bool w xt p q hu
  · exact bin_sim h hb hd ho hod hp

theorem zip_snd {T : TypeId → Option Ty} {ts : List TypeId} {xs : List Operand} (h : ts.length = xs.length) : ((ts.map T).zip xs).map (·.2) = xs := List.map_snd_zip (by simp [h])

theorem oper_sim {E : Env} (hE : E.Ok P) (h : SimX P n w0 S0 F0 get a w S fp) (hb : Below rd get) {o : Oper} (hd : ∀ d, o.dst = some d → d < n.sz) {K : Patch → Prop} {Q : Exit → Act → World → Prop} (hp : pOper P E rd o.op o.dst o.type K) : o.wp P a w (Nx P n w0 S0 F0 get K) Q := by
  unfold pOper at hp
  split at hp
  · rename_i d hod
    have hdn := hd d hod
    cases ho : o.op <;> rw [ho] at hp <;> first | exact hp.elim | skip
    case move x => exact wp_value (v := a.eval x) (by unfold execOp; rw [ho]; rfl) (by rw [hod]; exact move_sim h hb hdn hp)
    case assign x => exact wp_value (v := a.eval x) (by unfold execOp; rw [ho]; rfl) (by rw [hod]; exact assign_sim h hb hdn hp)
    case alloc e => exact alloc_sim h hdn ho hod hp
    case box e x => exact box_sim h hb hdn ho hod hp
    case build t ps => exact build_sim h hb hdn ho hod hp
    case buildSlice t l ps => exact buildSlice_sim h hb hdn ho hod hp
    case load t x => exact load_sim h hb hdn ho hod hp
    case fieldAddr s x k => exact fieldAddr_sim h hb hdn ho hod hp
    case indexAddr t x i => exact indexAddr_sim h hb hdn ho hod hp
    case index t x i => exact index_sim h hb hdn ho hod hp
    case binOp op xt x y yt => exact binB_sim h hb hdn ho hod hp
    case unOp op t x => exact un_sim h hb hdn ho hod hp
    case convert s t x => exact conv_sim h hb hdn ho hod hp
    case makeSlice t l c => exact makeSlice_sim h hb hdn ho hod hp
    case extract x i => exact extract_sim h hb hdn ho hod hp
    case pick c x y => exact pick_sim h hb hdn ho hod hp
    case makeFunc fn first caps => exact makeFunc_sim h hb hE.2 hdn ho hod hp
    case call c =>
      obtain ⟨callee, args, ats⟩ := c
      have hp' : pCall P E rd d callee args.toList ats.toList K := hp
      unfold pCall at hp'
      split at hp'
      · split at hp'
        · rename_i x t ts e1 e2
          have ea : args = #[x] := by apply Array.ext'; simpa using e1
          subst ea
          have hat : ats[0]? = some t := by rw [← Array.getElem?_toList, e2]; rfl
          exact len_sim h hb hdn ho hat hod hp'
        · exact hp'.elim
      · split at hp'
        · rename_i x y t u e1 e2
          have ea : args = #[x, y] := by apply Array.ext'; simpa using e1
          have eb : ats = #[t, u] := by apply Array.ext'; simpa using e2
          subst ea; subst eb
          exact append_sim h hb hdn ho hod hp'
        · exact hp'.elim
      · rename_i f
        split at hp'
        · rename_i con hcon
          obtain ⟨hl, hp'⟩ := hp'
          have hc := Con.upE_ok (look_ok hE hcon) hE.2
          generalize con.upE E.clo = con at *
          unfold pCallF at hp'
          have hx : a.eval (.func f) = .func (.func f) #[] #[] := rfl
          by_cases hbor : con.bor = true
          · simp only [hbor, if_true] at hp'
            exact callB_sim h hb hc hdn hx ho hod (zip_snd hl) hp'
          · simp only [hbor, if_false, Bool.false_eq_true] at hp'
            split at hp'
            · split at hp'
              · rename_i x xs t ts e1 e2
                rw [e1, e2] at hl
                exact callX_sim h hb hc hdn hx ho hod e1 (zip_snd (by simpa using hl)) hp'
              · exact hp'.elim
            · split at hp'
              · rename_i x xs t ts e1 e2
                rw [e1, e2] at hl
                exact callX_sim h hb hc hdn hx ho hod e1 (zip_snd (by simpa using hl)) hp'
              · exact hp'.elim
            · exact callS_sim h hb hc hdn hx ho hod (zip_snd hl) hp'
        · exact hp'.elim
      · exact callFn_sim h hb hE.2 hdn ho hod (zip_snd hp'.1) hp'.2
      · exact hp'.elim
  · rename_i hod
    cases ho : o.op <;> rw [ho] at hp <;> first | exact hp.elim | exact store_sim h hb ho hod hp
end
end Go.Tv
