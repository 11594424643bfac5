/-
  Going through code by rewriting. Conditions: none; plain definitions and lemmas.
-/
import Derived.Test.YtgdchicpmjmhaaaTvRr
namespace Go.Tv
set_option linter.unusedVariables false
set_option linter.unusedSimpArgs false
variable {P : Program}

def Go1 (cx : Cx P) (all r : List Oper) (ks : List It) (σ : Fr) (pt : Patch) : Prop := qI cx (.ops all r :: ks) (σ.app pt)
def GoD (cx : Cx P) (all r : List Oper) (acc : List (List Tmp × List Tmp)) (ks : List It) (σ : Fr) (R : List Tmp) (pt : Patch) : Prop := qI cx (.opsD all r (acc ++ [(R, pt.map (·.1))]) :: ks) (σ.app pt)
def slotG (σ : Fr) (all : List Oper) (g : Nat) : Slot := match slotOf all g with | some t => (σ.get t).1 | none => .undef
def pG (cx : Cx P) (s : Slot) (b : Bool) (all : List Oper) (dst : Option Tmp) (op : Op) (ty : TypeId) (r : List Oper) (ks : List It) (σ : Fr) : Prop :=
  match s with
  | .val ⟨.bool, v⟩ => ((v == b) = true → qOperT P cx.E σ.get op dst ty (Go1 cx all r ks σ)) ∧ ((v == b) = false → qI cx (.ops all r :: ks) (σ.app (skipP dst)))
  | .skip => qI cx (.ops all r :: ks) (σ.app (skipP dst))
  | _ => False
def pOD (cx : Cx P) (R : List Tmp) (all : List Oper) (dst : Option Tmp) (op : Op) (ty : TypeId) (r : List Oper) (acc : List (List Tmp × List Tmp)) (ks : List It) (σ : Fr) : Prop := fin (rOper P cx.E (σ.only R) op dst ty) (GoD cx all r acc ks σ R)
def pGD (cx : Cx P) (s : Slot) (b : Bool) (R : List Tmp) (all : List Oper) (dst : Option Tmp) (op : Op) (ty : TypeId) (r : List Oper) (acc : List (List Tmp × List Tmp)) (ks : List It) (σ : Fr) : Prop :=
  match s with
  | .val ⟨.bool, v⟩ => ((v == b) = true → pOD cx R all dst op ty r acc ks σ) ∧ ((v == b) = false → GoD cx all r acc ks σ R (skipP dst))
  | .skip => GoD cx all r acc ks σ R (skipP dst)
  | _ => False
def pCnd (cx : Cx P) (b : Option Bool) (x y : Code) (ks : List It) (σ : Fr) : Prop :=
  match b with
  | some b => (b = true → qI cx (.code x :: ks) σ) ∧ (b = false → qI cx (.code y :: ks) σ)
  | none => False
def pE (cx : Cx P) (r : Option (List It)) (σ : Fr) : Prop :=
  match r with
  | some r => qI cx r σ
  | none => False

section
variable {cx : Cx P} {ks : List It} {σ : Fr}
theorem qI_nil : qI cx [] σ = cx.R σ := by rw [qI]
theorem qI_blk {id : Nat} : qI cx (.blk id :: ks) σ = qI cx ks σ := by rw [qI]
theorem qI_rnd {J : Fr → Prop} : qI cx (.rnd J :: ks) σ = J σ := by rw [qI]
theorem qI_skip : qI cx (.code .skip :: ks) σ = qI cx ks σ := by rw [qI]
theorem qI_seq {x y : Code} : qI cx (.code (.seq x y) :: ks) σ = qI cx (.code x :: .code y :: ks) σ := by rw [qI]
theorem qI_block {id : Nat} {c : Code} : qI cx (.code (.block id c) :: ks) σ = qI cx (.code c :: .blk id :: ks) σ := by rw [qI]
theorem qI_exit {id : Nat} : qI cx (.code (.exit id) :: ks) σ = pE cx (exitIt id ks) σ := by
  rw [qI]; unfold pE; split <;> simp_all
theorem qI_ret : qI cx (.code .ret :: ks) σ = cx.R σ := by rw [qI]
theorem qI_cond {c : Operand} {x y : Code} : qI cx (.code (.cond c x y) :: ks) σ = pCnd cx (boolS (rdO σ.get c).1) x y ks σ := by
  rw [qI]; rfl
theorem qI_text {id : Nat} {l : List Oper} : qI cx (.code (.region id l.toArray false) :: ks) σ = qI cx (.ops l l :: ks) σ := by
  rw [qI]; simp
theorem qI_draw {id : Nat} {l : List Oper} : qI cx (.code (.region id l.toArray true) :: ks) σ = qI cx (.opsD l l [] :: ks) σ := by
  rw [qI]; simp
theorem qI_loop {c : Code} : qI cx (.code (.loop c) :: ks) σ = Sem' cx (.code (.loop c) :: ks) σ := by
  rw [qI]; all_goals simp
theorem qI_rangeFunc {g : Operand} {ps : Array Tmp} {x y : Code} : qI cx (.code (.rangeFunc g ps x y) :: ks) σ = Sem' cx (.code (.rangeFunc g ps x y) :: ks) σ := by
  rw [qI]; all_goals simp
theorem qI_ops_nil {all : List Oper} : qI cx (.ops all [] :: ks) σ = qI cx ks σ := by rw [qI]
theorem qI_ops_none {all r : List Oper} {dst : Option Tmp} {op : Op} {ty : TypeId} {pos : String} {after : Array Edge} : qI cx (.ops all (⟨dst, op, ty, pos, after, none⟩ :: r) :: ks) σ = qOperT P cx.E σ.get op dst ty (Go1 cx all r ks σ) := by
  rw [qI]; simp only [wantOk, true_implies]
  simp
  rfl
theorem qI_ops_some {all r : List Oper} {dst : Option Tmp} {op : Op} {ty : TypeId} {pos : String} {after : Array Edge} {g : Nat} {b : Bool} : qI cx (.ops all (⟨dst, op, ty, pos, after, some (g, b)⟩ :: r) :: ks) σ = pG cx (slotG σ all g) b all dst op ty r ks σ := by
  rw [qI]
  unfold wantOk slotG pG
  simp only
  cases slotOf all g with
  | none => rfl
  | some t =>
    simp only
    generalize hs : (σ.get t).1 = s
    cases s with
    | val v =>
      obtain ⟨t', x⟩ := v
      cases t' <;> rfl
    | skip => first | rfl | (simp; done) | (simp; rfl)
    | _ => rfl
theorem qI_opsD_nil {all : List Oper} {acc : List (List Tmp × List Tmp)} : qI cx (.opsD all [] acc :: ks) σ = (regCheck all acc = true ∧ qI cx ks σ) := by rw [qI]
theorem qI_opsD_none {all r : List Oper} {acc : List (List Tmp × List Tmp)} {dst : Option Tmp} {op : Op} {ty : TypeId} {pos : String} {after : Array Edge} : qI cx (.opsD all (⟨dst, op, ty, pos, after, none⟩ :: r) acc :: ks) σ = pOD cx (readsL σ op.operands.toList) all dst op ty r acc ks σ := by
  rw [qI]; simp only [wantOk, true_implies]
  simp [readsG, pOD]
  rfl
theorem qI_opsD_some {all r : List Oper} {acc : List (List Tmp × List Tmp)} {dst : Option Tmp} {op : Op} {ty : TypeId} {pos : String} {after : Array Edge} {g : Nat} {b : Bool} : qI cx (.opsD all (⟨dst, op, ty, pos, after, some (g, b)⟩ :: r) acc :: ks) σ = pGD cx (slotG σ all g) b (readsL σ op.operands.toList ++ readsG all (some (g, b))) all dst op ty r acc ks σ := by
  rw [qI]
  unfold wantOk slotG pGD
  simp only
  cases slotOf all g with
  | none => rfl
  | some t =>
    simp only
    generalize hs : (σ.get t).1 = s
    cases s with
    | val v =>
      obtain ⟨t', x⟩ := v
      cases t' <;> rfl
    | skip => first | rfl | (simp; done) | (simp; rfl)
    | _ => rfl
theorem pCnd_true {x y : Code} : pCnd cx (some true) x y ks σ = qI cx (.code x :: ks) σ := by simp [pCnd]
theorem pCnd_false {x y : Code} : pCnd cx (some false) x y ks σ = qI cx (.code y :: ks) σ := by simp [pCnd]
end
/-- A FUNCTION'S CONTRACT FROM ITS CODE, as values. -/
theorem good_of {f : FuncId} {fn : Func} {c : Code} (hf : P.funcs[f]? = some fn) (hb : fn.body = some c) (hm : P.follows .mixedOrders = true) {E : Env} (hE : E.Ok P) {ms : List Mode} {args outs res : List V}
    (hlen : ms.length = args.length) (n : Nat) (hnt : fn.ntmps = n) (hn : args.length ≤ n) (rs : List ResultVar) (hrv : fn.results.toList = rs) (hok : okD (dstP n (pinK 0 ms)) c = true) (hrs : ((rs.map rSlot).all fun t => !(pinK 0 ms).contains t) = true) (hnd : (rs.map rSlot).Nodup)
    (h : ∀ (cx : Cx P), cx.E = E → cx.R = FinOk P rs ms outs res → CxOk cx (dstP n (pinK 0 ms)) → FrWf (initF 0 ms args) → qI cx [.code c] (initF 0 ms args)) : Good P f ms args outs res := by
  subst hnt; subst hrv
  exact good_of_code hf hb hm hE hlen hn hok hrs hnd (fun cx hE _ _ hR hc hw => qI_p _ _ _ (Nat.le_refl _) (h cx hE hR hc hw))
/-- .. where loops over functions occur -/
theorem good_of_ro {f : FuncId} {fn : Func} {c : Code} (hf : P.funcs[f]? = some fn) (hb : fn.body = some c) (hm : P.follows .mixedOrders = true) {E : Env} (hE : E.Ok P) {ms : List Mode} {args outs res : List V}
    (hlen : ms.length = args.length) (n : Nat) (hnt : fn.ntmps = n) (hn : args.length ≤ n) (rs : List ResultVar) (hrv : fn.results.toList = rs) (hok : okD (dstP n (pinK 0 ms)) c = true) (hrs : ((rs.map rSlot).all fun t => !(pinK 0 ms).contains t) = true) (hnd : (rs.map rSlot).Nodup)
    (h : ∀ (cx : Cx P), cx.ro = none → cx.E = E → cx.R = FinOk P rs ms outs res → CxOk cx (dstP n (pinK 0 ms)) → FrWf (initF 0 ms args) → qI cx [.code c] (initF 0 ms args)) : Good P f ms args outs res := by
  subst hnt; subst hrv
  exact good_of_code hf hb hm hE hlen hn hok hrs hnd (fun cx hE _ hro hR hc hw => qI_p _ _ _ (Nat.le_refl _) (h cx hro hE hR hc hw))
theorem loop_of {cx : Cx P} {p : Tmp → Bool} (hc : CxOk cx p) {c : Code} {ks : List It} {σ : Fr} (hok : okIs p (.code c :: ks) = true) {α : Type} (fr : α → Fr) (ok : α → Prop) (μ : α → Nat) (x0 : α) (hfit : Fits σ (fr x0)) (h0 : ok x0)
    (round : ∀ x, ok x → FrWf (fr x) → qI cx (.code c :: .rnd (fun σ' => ∃ x', Fits σ' (fr x') ∧ ok x' ∧ μ x' < μ x) :: ks) (fr x)) : Sem' cx (.code (.loop c) :: ks) σ :=
  sem_loop hc hok fr ok μ x0 hfit h0 (fun x hx hw => qI_p _ _ _ (Nat.le_refl _) (round x hx hw))
theorem sem_of {cx : Cx P} {p : Tmp → Bool} (hc : CxOk cx p) {ks : List It} {σ : Fr} (hok : okIs p ks = true) (h : qI cx ks σ) : Sem' cx ks σ := pI_sound hc _ _ _ (Nat.le_refl _) hok (qI_p _ _ _ (Nat.le_refl _) h)
end Go.Tv
