/-
  A function's code, gone through on slots. Conditions: none; plain definitions and lemmas.
-/
import Derived.Test.YtgdchicpmjmhaaaTvU
import Derived.TacticsIn
import Derived.Sort.LoopGhostIn
namespace Go.Tv
set_option linter.unusedVariables false
set_option linter.unusedSimpArgs false

/-! ### what is still to be done -/
inductive It where
  | code (c : Code)
  | ops (all rest : List Oper)
  | opsD (all rest : List Oper) (acc : List (List Tmp × List Tmp))
  | blk (id : Nat)
  | rnd (J : Fr → Prop)

@[simp] def cSz : Code → Nat
  | .region _ ops _ => ops.toList.length + 3
  | .seq a b => cSz a + cSz b + 3
  | .cond _ a b => cSz a + cSz b + 3
  | .block _ a => cSz a + 3
  | _ => 3
@[simp] def iSz : It → Nat
  | .code c => cSz c
  | .ops _ r => r.length + 2
  | .opsD _ r _ => r.length + 2
  | .blk _ => 1
  | .rnd _ => 1
@[simp] def isSz : List It → Nat
  | [] => 0
  | i :: r => iSz i + isSz r

def exitIt (id : Nat) : List It → Option (List It)
  | [] => none
  | .blk i :: r => if i = id then some r else exitIt id r
  | _ :: r => exitIt id r
theorem exitIt_sz {id : Nat} : ∀ {l r : List It}, exitIt id l = some r → isSz r ≤ isSz l
  | [], r, h => by cases h
  | .blk i :: l, r, h => by
    simp only [exitIt] at h
    split at h
    · simp only [Option.some.injEq] at h; subst h; simp
    · have := exitIt_sz h; simp; omega
  | .code _ :: l, r, h => by have := exitIt_sz (l := l) (r := r) (by simpa [exitIt] using h); simp; omega
  | .ops _ _ :: l, r, h => by have := exitIt_sz (l := l) (r := r) (by simpa [exitIt] using h); simp; omega
  | .opsD _ _ _ :: l, r, h => by have := exitIt_sz (l := l) (r := r) (by simpa [exitIt] using h); simp; omega
  | .rnd _ :: l, r, h => by have := exitIt_sz (l := l) (r := r) (by simpa [exitIt] using h); simp; omega

/-- no bounds; in a round of a loop over a function, or not -/
def fen (ro : Option Nat) : Fence := { Fence.wide with round := ro }
theorem fen_round (ro : Option Nat) : (fen ro).round = ro := rfl
theorem fen_fn (ro : Option Nat) (f : FuncId) : (fen ro).fn f := trivial
theorem fen_none : fen none = Fence.wide := rfl
theorem fen_in (ro : Option Nat) (l : Nat) : (fen ro).inRound l = fen (some l) := rfl
theorem fen_fenced (ro : Option Nat) (P : Program) : Machine.fenced P (fen ro) = Machine.fenced P Fence.wide := rfl
theorem room_fen (ro : Option Nat) (n : Nat) : (fen ro).room n := fun _ h => by cases h
theorem fen_depth (ro : Option Nat) {p : Prop} : (fen ro).depth.isSome = true → p := fun h => by cases h
theorem callsIn_fen {ro : Option Nat} {n : Nat} {P : Program} {f : FuncId} {args : Array Value} {w : World} {R : Ending → World → Prop} : CallsIn (fen ro) n P f args w R ↔ Calls P f args w R :=
  ⟨fun h => callsIn_wide (n := n).1 ⟨trivial, fun cs _ => h.2 cs (room_fen _ _)⟩, fun h => ⟨trivial, fun cs _ => (callsIn_wide (n := n).2 h).2 cs (room_wide _)⟩⟩
theorem rowsIn_fen {ro : Option Nat} {n : Nat} {P : Program} {r : String} {args : Array Value} {w : World} {R : Value → World → Prop} (h : Rows P r args w R) : RowsIn (fen ro) n P r args w R :=
  fun c cs _ => let ⟨v, w', hr, hs⟩ := h c cs; ⟨v, w', hr, stepsIn_wide.2 hs⟩
/-- an operation, wherever it stands -/
theorem wpIn_of_wp {ro : Option Nat} {n : Nat} {P : Program} {o : Oper} {a : Act} {w : World} {K : Act → World → Prop} {Q : Exit → Act → World → Prop} (hd : ∀ c, o.op ≠ .defer c) (h : o.wp P a w K Q) : o.wpIn (fen ro) n P a w K Q := by
  refine ⟨fun f _ => trivial, ?_⟩
  rw [Oper.semAt_eq _ _ _ hd]
  unfold Oper.wp at h
  generalize (execOp a.eval o).run P w = r at *
  cases r with
  | ok x w' =>
    cases x <;> simp only [Oper.upon, Oper.uponIn] at h ⊢ <;>
      first
        | exact h
        | exact ⟨fen_depth ro, callsIn_fen.2 h⟩
        | exact ⟨fen_depth ro, rowsIn_fen h⟩
        | exact h.elim
  | halt x w' => cases x <;> simp only [Oper.upon, Oper.uponIn] at h ⊢ <;> exact h

/-- What a call is gone through with. -/
structure Cx (P : Program) where
  E : Env
  n : Nat
  ro : Option Nat
  w0 : World
  S0 : BS
  F0 : BS
  pins : List (Tmp × Value)
  R : Fr → Prop

variable {P : Program}

def PinOk (pins : List (Tmp × Value)) (a : Act) : Prop := ∀ q ∈ pins, a.tmps.getD q.1 undef = q.2
/-- the frame, whatever loops over functions are behind -/
def SimE (P : Program) (ro : Option Nat) (n : Nat) (w0 : World) (S0 F0 : BS) (get : Rd) (a : Act) (w : World) : Prop := ∃ mks, (ro.isSome = true → mks = []) ∧ Sim P ⟨n, mks⟩ w0 S0 F0 get a w
def St (cx : Cx P) (get : Rd) (a : Act) (w : World) : Prop := SimE P cx.ro cx.n cx.w0 cx.S0 cx.F0 get a w ∧ PinOk cx.pins a

/-- What is still to be done, as the machine does it. -/
def Wk (cx : Cx P) : List It → Exit → Act → World → Prop
  | [], .normal, a, w => ∃ σ : Fr, cx.R σ ∧ St cx σ.get a w
  | .code c :: ks, .normal, a, w => c.wpIn (fen cx.ro) 0 P (Wk cx ks) a w
  | .ops all r :: ks, .normal, a, w => wpListIn (fen cx.ro) 0 P all.toArray (Wk cx ks) r a w
  | .opsD _ _ _ :: _, .normal, _, _ => True
  | .blk _ :: ks, .normal, a, w => Wk cx ks .normal a w
  | .rnd J :: _, .normal, a, w => ∃ σ : Fr, J σ ∧ St cx σ.get a w
  | _, .ret, a, w => ∃ σ : Fr, cx.R σ ∧ St cx σ.get a w
  | .blk i :: ks, .exit id, a, w => if i = id then Wk cx ks .normal a w else Wk cx ks (.exit id) a w
  | _ :: ks, .exit id, a, w => Wk cx ks (.exit id) a w
  | _, _, _, _ => False

/-- From these slots the machine does what is still to be done. -/
def Sem' (cx : Cx P) (ks : List It) (σ : Fr) : Prop := ∀ a w, St cx σ.get a w → Wk cx ks .normal a w

theorem Wk_ret {cx : Cx P} {ks : List It} {a : Act} {w : World} : Wk cx ks .ret a w ↔ ∃ σ : Fr, cx.R σ ∧ St cx σ.get a w := by
  cases ks with
  | nil => simp only [Wk]
  | cons i ks => cases i <;> simp only [Wk]
theorem Wk_then {cx : Cx P} {c : Code} {ks : List It} {e : Exit} {a : Act} {w : World} (h : Wk cx (.code c :: ks) e a w) : Exit.then (c.wpIn (fen cx.ro) 0 P (Wk cx ks)) (Wk cx ks) e a w := by
  cases e with
  | normal => exact h
  | exit id => exact h
  | ret => exact Wk_ret.2 (Wk_ret.1 h)
  | goto l => exact h.elim
  | panic ch => exact h.elim
  | outgrown => exact h.elim
theorem Wk_blk {cx : Cx P} {id : Nat} {ks : List It} {e : Exit} {a : Act} {w : World} (h : Wk cx (.blk id :: ks) e a w) : Exit.inBlock id (Wk cx ks) e a w := by
  cases e with
  | normal => exact h
  | exit i =>
    simp only [Wk] at h
    simp only [Exit.inBlock]
    by_cases hi : id = i
    · subst hi; simpa using h
    · rw [if_neg hi] at h
      rw [if_neg (Ne.symm hi)]
      exact h
  | ret => exact Wk_ret.2 (Wk_ret.1 h)
  | goto l => exact h.elim
  | panic ch => exact h.elim
  | outgrown => exact h.elim

theorem Wk_exit {cx : Cx P} {id : Nat} {a : Act} {w : World} : ∀ {ks r : List It}, exitIt id ks = some r → Wk cx r .normal a w → Wk cx ks (.exit id) a w
  | [], r, h, _ => by cases h
  | .blk i :: l, r, h, hw => by
    simp only [exitIt] at h
    simp only [Wk]
    split at h
    · rename_i e; rw [if_pos e]; simp only [Option.some.injEq] at h; subst h; exact hw
    · rename_i e; rw [if_neg e]; exact Wk_exit h hw
  | .code _ :: l, r, h, hw => by simp only [Wk]; exact Wk_exit (ks := l) (by simpa [exitIt] using h) hw
  | .ops _ _ :: l, r, h, hw => by simp only [Wk]; exact Wk_exit (ks := l) (by simpa [exitIt] using h) hw
  | .opsD _ _ _ :: l, r, h, hw => by simp only [Wk]; exact Wk_exit (ks := l) (by simpa [exitIt] using h) hw
  | .rnd _ :: l, r, h, hw => by simp only [Wk]; exact Wk_exit (ks := l) (by simpa [exitIt] using h) hw

/-! ### operations -/
def slotOf (all : List Oper) (g : Nat) : Option Tmp := (all[g]?).bind (·.dst)
/-- is it wanted? -/
def wantOk (rd : Rd) (all : List Oper) : Option (Nat × Bool) → Option Bool
  | none => some true
  | some (g, b) => match slotOf all g with
    | some t => match (rd t).1 with
      | .val ⟨.bool, v⟩ => some (v == b)
      | .skip => some false
      | _ => none
    | none => none
def skipP : Option Tmp → Patch
  | some d => [(d, .skip, .new)]
  | none => []

def readsO (σ : Fr) : Operand → List Tmp
  | .tmp t => match (σ.get t).1 with
    | .ref j _ _ _ => [t, j]
    | .ali j _ _ _ => [t, j]
    | _ => [t]
  | _ => []
def readsG (all : List Oper) : Option (Nat × Bool) → List Tmp
  | some (g, _) => match slotOf all g with | some t => [t] | none => []
  | none => []
def readsL (σ : Fr) : List Operand → List Tmp
  | [] => []
  | x :: r => readsO σ x ++ readsL σ r

/-- a slice held against nil -/
def pNil (P : Program) (rd : Rd) (d : Tmp) (t : TypeId) (x : Operand) (K : Patch → Prop) : Prop :=
  match rowLen rd x with
  | some m => (pElem P t).isSome = true ∧ (m = 0 → ∀ b, K [(d, .val ⟨.bool, b⟩, .new)]) ∧ (m ≠ 0 → K [(d, .val ⟨.bool, false⟩, .new)])
  | none => False
def pOperT (P : Program) (E : Env) (rd : Rd) (op : Op) (dst : Option Tmp) (ty : TypeId) (K : Patch → Prop) : Prop :=
  match op, dst with
  | .binOp .eql t x (.const (.slice none 0 0)) _, some d => pNil P rd d t x K
  | op, dst => pOper P E rd op dst ty K

/-! ### drawn orders: what is asked of them -/
def ancsOf : List Oper → List (List Nat) → List (List Nat)
  | [], acc => acc
  | o :: r, acc => ancsOf r (acc ++ [(((o.after.toList.filter (Region.binds .any)).map (·.on)).flatMap fun k => k :: acc.getD k [])])
def apartL (x y : List Tmp) : Bool := x.all fun t => !y.contains t
def regCheck (all : List Oper) (acc : List (List Tmp × List Tmp)) : Bool :=
  let anc := ancsOf all []
  (List.range all.length).all (fun i => (tiesOf all.toArray i).all fun k => decide (k < i)) &&
  (List.range all.length).all (fun i => (anc.getD i []).all fun k => (tiesOf all.toArray i).any fun m => m == k || (anc.getD m []).contains k) &&
  (List.range all.length).all (fun j => (List.range j).all fun i => (anc.getD j []).contains i ||
    (apartL (acc.getD i ([], [])).2 (acc.getD j ([], [])).1 && apartL (acc.getD j ([], [])).2 (acc.getD i ([], [])).1 && apartL (acc.getD i ([], [])).2 (acc.getD j ([], [])).2))

/-! ### going through -/
def pI (cx : Cx P) (ks : List It) (σ : Fr) : Prop :=
  match ks with
  | [] => cx.R σ
  | .blk _ :: ks => pI cx ks σ
  | .rnd J :: _ => J σ
  | .ops _ [] :: ks => pI cx ks σ
  | .ops all (o :: r) :: ks => match wantOk σ.get all o.guard with
    | some v => (v = true → pOperT P cx.E σ.get o.op o.dst o.type fun pt => pI cx (.ops all r :: ks) (σ.app pt)) ∧ (v = false → pI cx (.ops all r :: ks) (σ.app (skipP o.dst)))
    | none => False
  | .opsD all [] acc :: ks => regCheck all acc = true ∧ pI cx ks σ
  | .opsD all (o :: r) acc :: ks => match wantOk σ.get all o.guard with
    | some v => (v = true → pOper P cx.E (σ.only (readsL σ o.op.operands.toList ++ readsG all o.guard)) o.op o.dst o.type fun pt => pI cx (.opsD all r (acc ++ [(readsL σ o.op.operands.toList ++ readsG all o.guard, pt.map (·.1))]) :: ks) (σ.app pt)) ∧
        (v = false → pI cx (.opsD all r (acc ++ [(readsL σ o.op.operands.toList ++ readsG all o.guard, (skipP o.dst).map (·.1))]) :: ks) (σ.app (skipP o.dst)))
    | none => False
  | .code .skip :: ks => pI cx ks σ
  | .code (.seq x y) :: ks => pI cx (.code x :: .code y :: ks) σ
  | .code (.block id c) :: ks => pI cx (.code c :: .blk id :: ks) σ
  | .code (.exit id) :: ks => match h : exitIt id ks with
    | some r => pI cx r σ
    | none => False
  | .code .ret :: _ => cx.R σ
  | .code (.cond c x y) :: ks => match boolS (rdO σ.get c).1 with
    | some b => (b = true → pI cx (.code x :: ks) σ) ∧ (b = false → pI cx (.code y :: ks) σ)
    | none => False
  | .code (.region _ ops draw) :: ks => if draw then pI cx (.opsD ops.toList ops.toList [] :: ks) σ else pI cx (.ops ops.toList ops.toList :: ks) σ
  | .code c :: ks => Sem' cx (.code c :: ks) σ
termination_by isSz ks
decreasing_by
  all_goals simp_wf
  all_goals (try simp)
  all_goals (try (have := exitIt_sz h))
  all_goals omega
end Go.Tv
