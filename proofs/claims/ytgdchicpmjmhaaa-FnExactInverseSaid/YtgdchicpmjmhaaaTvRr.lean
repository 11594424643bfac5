/-
  Each operation's rule as a value: what it asks, and what it does to the slots. Conditions: none; plain definitions and lemmas.
-/
import Derived.Test.YtgdchicpmjmhaaaTvZ
namespace Go.Tv
set_option linter.unusedVariables false
set_option linter.unusedSimpArgs false
variable {P : Program}

abbrev Rs := Option (Prop × Patch)
def fin (r : Rs) (K : Patch → Prop) : Prop := match r with | some (c, pt) => c ∧ K pt | none => False
theorem fin_some (c : Prop) (pt : Patch) (K : Patch → Prop) : fin (some (c, pt)) K = (c ∧ K pt) := rfl
theorem fin_none (K : Patch → Prop) : fin none K = False := rfl
def rMove (rd : Rd) (d : Tmp) (x : Operand) : Rs :=
  match rdO rd x with
  | (.val v, n, m) => if v.t.free then some (True, [(d, .val v, .new)]) else match x with | .tmp j => some (j ≠ d, [(d, .ali j [] n m, .new)]) | _ => none
  | (.box _, n, m) => match x with | .tmp j => some (j ≠ d, [(d, .ref j [] n m, .new)]) | _ => none
  | (.ref j p n m, _, _) => some (j ≠ d, [(d, .ref j p n m, .new)])
  | (.ali j p n m, _, _) => some (j ≠ d, [(d, .ali j p n m, .new)])
  | (.nil, _, _) => some (True, [(d, .nil, .new)])
  | _ => none
theorem fin_Move (rd : Rd) (d : Tmp) (x : Operand) {K : Patch → Prop} (h : fin (rMove rd d x) K) : pMove rd d x K := by
  unfold rMove at h
  unfold pMove
  repeat' split at h
  all_goals first
    | exact h.elim
    | (simpa only [fin, and_assoc, true_and] using h)
    | (simp only [*]; simpa only [fin, and_assoc, true_and] using h)
    | (simp_all [fin]; done)
    | (simp only [fin] at h; simp_all)
def rAssign (rd : Rd) (hint : Option Ty) (d : Tmp) (x : Operand) : Rs :=
  match rdO rd x with
  | (.box v, _, _) => match x with | .tmp j => some (j ≠ d, [(j, .undef, .new), (d, .box v, .new)]) | _ => none
  | (.ref j p n m, _, _) => some (j ≠ d, [(d, .ref j p n m, .new)])
  | _ => match takeV rd hint x with | some (v, pt) => some (noKey d pt = true, pt ++ [(d, .val v, .new)]) | none => none
theorem fin_Assign (rd : Rd) (hint : Option Ty) (d : Tmp) (x : Operand) {K : Patch → Prop} (h : fin (rAssign rd hint d x) K) : pAssign rd hint d x K := by
  unfold rAssign at h
  unfold pAssign
  repeat' split at h
  all_goals first
    | exact h.elim
    | (simpa only [fin, and_assoc, true_and] using h)
    | (simp only [*]; simpa only [fin, and_assoc, true_and] using h)
    | (simp_all [fin]; done)
    | (simp only [fin] at h; simp_all)
def rAlloc (P : Program) (T : TypeId → Option Ty) (d : Tmp) (e : TypeId) : Rs :=
  match T e with
  | some τ => some (τ.zOk = true ∧ pZero P e = some (τ.toV τ.zeroC), [(d, .box ⟨τ, τ.dflt⟩, .new)])
  | none => none
theorem fin_Alloc (P : Program) (T : TypeId → Option Ty) (d : Tmp) (e : TypeId) {K : Patch → Prop} (h : fin (rAlloc P T d e) K) : pAlloc P T d e K := by
  unfold rAlloc at h
  unfold pAlloc
  repeat' split at h
  all_goals first
    | exact h.elim
    | (simpa only [fin, and_assoc, true_and] using h)
    | (simp only [*]; simpa only [fin, and_assoc, true_and] using h)
    | (simp_all [fin]; done)
    | (simp only [fin] at h; simp_all)
def rBox (rd : Rd) (hint : Option Ty) (d : Tmp) (x : Operand) : Rs :=
  match takeV rd hint x with | some (v, pt) => some (noKey d pt = true, pt ++ [(d, .box v, .new)]) | none => none
theorem fin_Box (rd : Rd) (hint : Option Ty) (d : Tmp) (x : Operand) {K : Patch → Prop} (h : fin (rBox rd hint d x) K) : pBox rd hint d x K := by
  unfold rBox at h
  unfold pBox
  repeat' split at h
  all_goals first
    | exact h.elim
    | (simpa only [fin, and_assoc, true_and] using h)
    | (simp only [*]; simpa only [fin, and_assoc, true_and] using h)
    | (simp_all [fin]; done)
    | (simp only [fin] at h; simp_all)
def rLoad (P : Program) (rd : Rd) (d : Tmp) (t : TypeId) (x : Operand) : Rs :=
  match rdO rd x with
  | (.val ⟨.cellp τ, y⟩, _, _) => some (pSize P t = some τ.sz ∧ pRow P t = some τ.isAg, [(d, .val ⟨τ, y⟩, .new)])
  | _ => match refOf rd x with
    | some (j, p) => match (rd j).1.rget p with
      | some u => if u.t.free then some (pSize P t = some u.t.sz ∧ pRow P t = some u.t.isAg, [(d, .val u, .new)]) else some (pSize P t = some u.t.sz ∧ pRow P t = some u.t.isAg ∧ j ≠ d, [(d, .ali j p (rd j).2.1 (rd j).2.2, .new)])
      | none => none
    | none => none
theorem fin_Load (P : Program) (rd : Rd) (d : Tmp) (t : TypeId) (x : Operand) {K : Patch → Prop} (h : fin (rLoad P rd d t x) K) : pLoad P rd d t x K := by
  unfold rLoad at h
  unfold pLoad
  repeat' split at h
  all_goals first
    | exact h.elim
    | (simpa only [fin, and_assoc, true_and] using h)
    | (simp only [*]; simpa only [fin, and_assoc, true_and] using h)
    | (simp_all [fin]; done)
    | (simp only [fin] at h; simp_all)
def rFieldAddr (P : Program) (rd : Rd) (d : Tmp) (s : TypeId) (x : Operand) (k : Nat) : Rs :=
  match rdO rd x with
  | (.val ⟨.cellp τ, y⟩, _, _) => match offT τ k, getAt τ y [.fld k] with
    | some off, some u => some (pFld P s k = some off, [(d, .val ⟨.cellp u.t, u.x⟩, .new)])
    | _, _ => none
  | _ => match refOf rd x with
    | some (j, p) => match (rd j).1.rget p with
      | some u => match offT u.t k with
        | some off => some (pFld P s k = some off ∧ j ≠ d, [(d, .ref j (p ++ [.fld k]) (rd j).2.1 (rd j).2.2, .new)])
        | none => none
      | none => none
    | none => none
theorem fin_FieldAddr (P : Program) (rd : Rd) (d : Tmp) (s : TypeId) (x : Operand) (k : Nat) {K : Patch → Prop} (h : fin (rFieldAddr P rd d s x k) K) : pFieldAddr P rd d s x k K := by
  unfold rFieldAddr at h
  unfold pFieldAddr
  repeat' split at h
  all_goals first
    | exact h.elim
    | (simpa only [fin, and_assoc, true_and] using h)
    | (simp only [*]; simpa only [fin, and_assoc, true_and] using h)
    | (simp_all [fin]; done)
    | (simp only [fin] at h; simp_all)
def rStore (P : Program) (rd : Rd) (t : TypeId) (ax vx : Operand) : Rs :=
  match refOf rd ax with
  | some (j, p) => match (rd j).1.rget p with
    | some u => match (takeV rd (some u.t) vx).bind (fun q => ((rd j).1.rset p q.1).map fun r => (q, r)) with
      | some ((v, pt), root') => some (noKey j pt = true ∧ v.t.shp = u.t.shp ∧ pSize P t = some v.t.sz, pt ++ [(j, root', (rd j).1.bumpOf)])
      | none => match (shareV rd (some u.t) vx).bind (fun q => ((rd j).1.rset p q.1).map fun r => (q, r)) with
        | some ((v, pt), root') => some (noKey j pt = true ∧ v.t.shp = u.t.shp ∧ pSize P t = some v.t.sz, pt ++ [(j, root', (rd j).1.bumpOf)])
        | none => none
    | none => none
  | none => none
theorem fin_Store (P : Program) (rd : Rd) (t : TypeId) (ax vx : Operand) {K : Patch → Prop} (h : fin (rStore P rd t ax vx) K) : pStore P rd t ax vx K := by
  unfold rStore at h
  unfold pStore
  repeat' split at h
  all_goals first
    | exact h.elim
    | (simpa only [fin, and_assoc, true_and] using h)
    | (simp only [*]; simpa only [fin, and_assoc, true_and] using h)
    | (simp_all [fin]; done)
    | (simp only [fin] at h; simp_all)
def rIndexAddr (P : Program) (rd : Rd) (d : Tmp) (T : TypeId) (x i : Operand) : Rs :=
  match intS (rdO rd i).1, rowAt rd x with
  | some (_, q), some (.shared r) => some (pElSz P T = some r.t.sz ∧ (0 ≤ q ∧ q < r.xs.length), [(d, .val ⟨.cellp r.t, r.xs.getD q.toNat r.t.dflt⟩, .new)])
  | some (_, q), some (.held j p k m r) => some (pElSz P T = some r.t.sz ∧ (0 ≤ q ∧ q < r.xs.length) ∧ j ≠ d, [(d, .ref j (p ++ [.idx q.toNat]) k m, .new)])
  | _, _ => none
theorem fin_IndexAddr (P : Program) (rd : Rd) (d : Tmp) (T : TypeId) (x i : Operand) {K : Patch → Prop} (h : fin (rIndexAddr P rd d T x i) K) : pIndexAddr P rd d T x i K := by
  unfold rIndexAddr at h
  unfold pIndexAddr
  repeat' split at h
  all_goals first
    | exact h.elim
    | (simpa only [fin, and_assoc, true_and] using h)
    | (simp only [*]; simpa only [fin, and_assoc, true_and] using h)
    | (simp_all [fin]; done)
    | (simp only [fin] at h; simp_all)
def rBin (rd : Rd) (d : Tmp) (op : BinOp) (x y : Operand) : Rs :=
  match intS (rdO rd x).1, intS (rdO rd y).1 with
  | some (k, a), some (k', b) =>
    match op with
    | .shl => some (0 ≤ b, [(d, .val ⟨.int k, k.wrap (a * 2 ^ (min b.toNat k.bits))⟩, .new)])
    | .shr => some (0 ≤ b ∧ k.wrap (a.fdiv (2 ^ (min b.toNat k.bits))) = a.fdiv (2 ^ (min b.toNat k.bits)), [(d, .val ⟨.int k, a.fdiv (2 ^ (min b.toNat k.bits))⟩, .new)])
    | .quo => some (k = k' ∧ b ≠ 0, [(d, .val ⟨.int k, k.wrap (a.tdiv b)⟩, .new)])
    | .rem => some (k = k' ∧ b ≠ 0, [(d, .val ⟨.int k, a.tmod b⟩, .new)])
    | _ => match iBin op k a b with | some v => some (k = k', [(d, .val v, .new)]) | none => none
  | _, _ => match strS (rdO rd x).1, strS (rdO rd y).1 with
    | some s, some t => match op with
      | .add => some (s.length + t.length ≤ maxLen, [(d, .val ⟨.str, s ++ t⟩, .new)])
      | _ => match sCmp op s t with | some b => some (True, [(d, .val ⟨.bool, b⟩, .new)]) | none => none
    | _, _ => none
theorem fin_Bin (rd : Rd) (d : Tmp) (op : BinOp) (x y : Operand) {K : Patch → Prop} (h : fin (rBin rd d op x y) K) : pBin rd d op x y K := by
  unfold rBin at h
  unfold pBin
  repeat' split at h
  all_goals first
    | exact h.elim
    | (simpa only [fin, and_assoc, true_and] using h)
    | (simp only [*]; simpa only [fin, and_assoc, true_and] using h)
    | (simp_all [fin]; done)
    | (simp only [fin] at h; simp_all)
def rBinB (P : Program) (rd : Rd) (d : Tmp) (op : BinOp) (xt : TypeId) (x y : Operand) : Rs :=
  match boolS (rdO rd x).1, boolS (rdO rd y).1 with
  | some p, some q => match op with
    | .eql => some (pBool P xt = true, [(d, .val ⟨.bool, p == q⟩, .new)])
    | .neq => some (pBool P xt = true, [(d, .val ⟨.bool, p != q⟩, .new)])
    | _ => none
  | _, _ => rBin rd d op x y
theorem fin_BinB (P : Program) (rd : Rd) (d : Tmp) (op : BinOp) (xt : TypeId) (x y : Operand) {K : Patch → Prop} (h : fin (rBinB P rd d op xt x y) K) : pBinB P rd d op xt x y K := by
  unfold rBinB at h
  unfold pBinB
  split at h
  · rename_i p q h1 h2
    simp only [h1, h2]
    cases op <;> simp_all [fin]
  · rename_i hne
    split
    · rename_i p q h1 h2; exact absurd h2 (hne p q h1)
    · exact fin_Bin rd d op x y h
def rLen (P : Program) (rd : Rd) (d : Tmp) (t : TypeId) (x : Operand) : Rs :=
  match strS (rdO rd x).1 with
  | some s => some (pStr P t = true, [(d, .val ⟨.int .i64, (s.length : Int)⟩, .new)])
  | none => match rowLen rd x with
    | some m => some ((pElem P t).isSome = true, [(d, .val ⟨.int .i64, (m : Int)⟩, .new)])
    | none => none
theorem fin_Len (P : Program) (rd : Rd) (d : Tmp) (t : TypeId) (x : Operand) {K : Patch → Prop} (h : fin (rLen P rd d t x) K) : pLen P rd d t x K := by
  unfold rLen at h
  unfold pLen
  repeat' split at h
  all_goals first
    | exact h.elim
    | (simpa only [fin, and_assoc, true_and] using h)
    | (simp only [*]; simpa only [fin, and_assoc, true_and] using h)
    | (simp_all [fin]; done)
    | (simp only [fin] at h; simp_all)
def rIndex (P : Program) (rd : Rd) (d : Tmp) (t : TypeId) (x i : Operand) : Rs :=
  match strS (rdO rd x).1, intS (rdO rd i).1 with
  | some s, some (_, q) => some (pStr P t = true ∧ (0 ≤ q ∧ q < s.length), [(d, .val ⟨.int .u8, ((s.getD q.toNat 0).toNat : Int)⟩, .new)])
  | _, _ => none
theorem fin_Index (P : Program) (rd : Rd) (d : Tmp) (t : TypeId) (x i : Operand) {K : Patch → Prop} (h : fin (rIndex P rd d t x i) K) : pIndex P rd d t x i K := by
  unfold rIndex at h
  unfold pIndex
  repeat' split at h
  all_goals first
    | exact h.elim
    | (simpa only [fin, and_assoc, true_and] using h)
    | (simp only [*]; simpa only [fin, and_assoc, true_and] using h)
    | (simp_all [fin]; done)
    | (simp only [fin] at h; simp_all)
def rUn (rd : Rd) (d : Tmp) (op : UnOp) (x : Operand) : Rs :=
  match op with
  | .not => match boolS (rdO rd x).1 with | some b => some (True, [(d, .val ⟨.bool, !b⟩, .new)]) | none => none
  | .neg => match intS (rdO rd x).1 with | some (k, q) => some (True, [(d, .val ⟨.int k, k.wrap (0 - q)⟩, .new)]) | none => none
  | .xor => match intS (rdO rd x).1 with | some (k, q) => some (True, [(d, .val ⟨.int k, k.wrap ((BitVec.ofInt k.bits (if k.signed then -1 else k.max) ^^^ BitVec.ofInt k.bits q).toNat : Int)⟩, .new)]) | none => none
  | _ => none
theorem fin_Un (rd : Rd) (d : Tmp) (op : UnOp) (x : Operand) {K : Patch → Prop} (h : fin (rUn rd d op x) K) : pUn rd d op x K := by
  unfold rUn at h
  unfold pUn
  repeat' split at h
  all_goals first
    | exact h.elim
    | (simpa only [fin, and_assoc, true_and] using h)
    | (simp only [*]; simpa only [fin, and_assoc, true_and] using h)
    | (simp_all [fin]; done)
    | (simp only [fin] at h; simp_all)
def rConv (P : Program) (rd : Rd) (d : Tmp) (src dst : TypeId) (x : Operand) : Rs :=
  match intS (rdO rd x).1 with
  | some (_, q) => match pInt P dst with | some k => some ((P.underlying src).isSome = true, [(d, .val ⟨.int k, k.wrap q⟩, .new)]) | none => none
  | none => match strS (rdO rd x).1 with
    | some s => some (pStr P dst = true ∧ (P.underlying src).isSome = true, [(d, .val ⟨.str, s⟩, .new)])
    | none => match bytesS rd x with
      | some xs => some (pStr P dst = true ∧ (pElem P src).bind (pInt P) = some .u8, [(d, .val ⟨.str, xs.map fun q => UInt8.ofNat q.toNat⟩, .new)])
      | none => none
theorem fin_Conv (P : Program) (rd : Rd) (d : Tmp) (src dst : TypeId) (x : Operand) {K : Patch → Prop} (h : fin (rConv P rd d src dst x) K) : pConv P rd d src dst x K := by
  unfold rConv at h
  unfold pConv
  repeat' split at h
  all_goals first
    | exact h.elim
    | (simpa only [fin, and_assoc, true_and] using h)
    | (simp only [*]; simpa only [fin, and_assoc, true_and] using h)
    | (simp_all [fin]; done)
    | (simp only [fin] at h; simp_all)
def rBuild (P : Program) (T : TypeId → Option Ty) (rd : Rd) (d : Tmp) (t : TypeId) (parts : List (Nat × Operand)) : Rs :=
  match T t with
  | some τ => match manyV rd (parts.map fun q => (true, (getAt τ τ.dflt [.fld q.1]).map (·.t), q.2)) with
    | some (vs, pt) => match putAll ⟨τ, τ.dflt⟩ ((parts.map (·.1)).zip vs) with
      | some v => some (τ.zOk = true ∧ pZero P t = some (.agg τ.zeroC.toArray) ∧ pPlaces P t = some (plT τ 0) ∧ τ.isAg = true ∧ noKey d pt = true, pt ++ [(d, .val v, .new)])
      | none => none
    | none => none
  | none => none
theorem fin_Build (P : Program) (T : TypeId → Option Ty) (rd : Rd) (d : Tmp) (t : TypeId) (parts : List (Nat × Operand)) {K : Patch → Prop} (h : fin (rBuild P T rd d t parts) K) : pBuild P T rd d t parts K := by
  unfold rBuild at h
  unfold pBuild
  repeat' split at h
  all_goals first
    | exact h.elim
    | (simpa only [fin, and_assoc, true_and] using h)
    | (simp only [*]; simpa only [fin, and_assoc, true_and] using h)
    | (simp_all [fin]; done)
    | (simp only [fin] at h; simp_all)
def rBuildSlice (P : Program) (T : TypeId → Option Ty) (rd : Rd) (d : Tmp) (tT : TypeId) (len : Nat) (parts : List (Nat × Operand)) : Rs :=
  match T tT with
  | some (.own e t) => match manyV rd (parts.map fun q => (!t.free, some t, q.2)) with
    | some (vs, pt) => match coeAll t vs with
      | some xs => some ((pElem P tT = some e ∧ pSize P e = some t.sz ∧ (pZero P e).isSome = true) ∧ parts.map (·.1) = List.range' 0 len ∧ len * t.sz ≤ 16777216 ∧ (len ≠ 0 → 0 < t.sz) ∧ noKey d pt = true, pt ++ [(d, .val ⟨.own e t, xs⟩, .new)])
      | none => none
    | none => none
  | _ => none
theorem fin_BuildSlice (P : Program) (T : TypeId → Option Ty) (rd : Rd) (d : Tmp) (tT : TypeId) (len : Nat) (parts : List (Nat × Operand)) {K : Patch → Prop} (h : fin (rBuildSlice P T rd d tT len parts) K) : pBuildSlice P T rd d tT len parts K := by
  unfold rBuildSlice at h
  unfold pBuildSlice
  repeat' split at h
  all_goals first
    | exact h.elim
    | (simpa only [fin, and_assoc, true_and] using h)
    | (simp only [*]; simpa only [fin, and_assoc, true_and] using h)
    | (simp_all [fin]; done)
    | (simp only [fin] at h; simp_all)
def rMakeSlice (P : Program) (T : TypeId → Option Ty) (rd : Rd) (d : Tmp) (tT : TypeId) (l c : Operand) : Rs :=
  match T tT, intS (rdO rd l).1, intS (rdO rd c).1 with
  | some (.own e t), some (_, ln), some (_, cp) => match pBytes P e with
    | some by' => some ((pElem P tT = some e ∧ pSize P e = some t.sz ∧ pZero P e = some (t.toV t.zeroC) ∧ t.zOk = true) ∧ (0 ≤ ln ∧ ln ≤ cp ∧ (by' : Int) * cp ≤ 281474976710656 ∧ cp ≤ 9223372036854775807), [(d, .val ⟨.own e t, (List.replicate ln.toNat t.dflt : List t.den)⟩, .new)])
    | none => none
  | _, _, _ => none
theorem fin_MakeSlice (P : Program) (T : TypeId → Option Ty) (rd : Rd) (d : Tmp) (tT : TypeId) (l c : Operand) {K : Patch → Prop} (h : fin (rMakeSlice P T rd d tT l c) K) : pMakeSlice P T rd d tT l c K := by
  unfold rMakeSlice at h
  unfold pMakeSlice
  repeat' split at h
  all_goals first
    | exact h.elim
    | (simpa only [fin, and_assoc, true_and] using h)
    | (simp only [*]; simpa only [fin, and_assoc, true_and] using h)
    | (simp_all [fin]; done)
    | (simp only [fin] at h; simp_all)
def rExtract (rd : Rd) (d : Tmp) (x : Operand) (ix : Nat) : Rs :=
  match rdO rd x, tmpO x with
  | (.tup vs, _, _), some j => match vs[ix]? with
    | some (some v) => some (j ≠ d, [(j, .tup (vs.set ix none), .new), (d, .val v, .new)])
    | _ => none
  | _, _ => none
theorem fin_Extract (rd : Rd) (d : Tmp) (x : Operand) (ix : Nat) {K : Patch → Prop} (h : fin (rExtract rd d x ix) K) : pExtract rd d x ix K := by
  unfold rExtract at h
  unfold pExtract
  repeat' split at h
  all_goals first
    | exact h.elim
    | (simpa only [fin, and_assoc, true_and] using h)
    | (simp only [*]; simpa only [fin, and_assoc, true_and] using h)
    | (simp_all [fin]; done)
    | (simp only [fin] at h; simp_all)
def rPick (rd : Rd) (d : Tmp) (c x y : Operand) : Rs :=
  match boolS (rdO rd c).1, (rdO rd x).1, (rdO rd y).1 with
  | some b, .val v, .val v' => some (v.t.free = true ∧ v'.t.free = true, [(d, .val (if b then v else v'), .new)])
  | _, _, _ => none
theorem fin_Pick (rd : Rd) (d : Tmp) (c x y : Operand) {K : Patch → Prop} (h : fin (rPick rd d c x y) K) : pPick rd d c x y K := by
  unfold rPick at h
  unfold pPick
  repeat' split at h
  all_goals first
    | exact h.elim
    | (simpa only [fin, and_assoc, true_and] using h)
    | (simp only [*]; simpa only [fin, and_assoc, true_and] using h)
    | (simp_all [fin]; done)
    | (simp only [fin] at h; simp_all)
def rAppend (P : Program) (T : TypeId → Option Ty) (rd : Rd) (d : Tmp) (tT tx : TypeId) (x y : Operand) : Rs :=
  match T tT with
  | some (.own e t) => match takeV rd (some (.own e t)) x with
    | some (v, pt) => match coe v.t (.own e t) v.x, pBytes P e with
      | some xs, some by' => match srcV rd t y with
        | some ys => some ((pElem P tT = some e ∧ pSize P e = some t.sz ∧ 0 < t.sz ∧ (pZero P e).map (·.cells.size) = some t.sz ∧ pKind P tx = true ∧ noKey d pt = true) ∧ ((List.length xs + List.length ys) * by' ≤ 140737488355328 ∧ List.length xs + List.length ys ≤ maxLen), pt ++ [(d, .val ⟨.own e t, (xs ++ ys : List t.den)⟩, .new)])
        | none => match takeV rd (some (.own e t)) y with
          | some (v2, pt2) => match coe v2.t (.own e t) v2.x with
            | some ys => some ((pElem P tT = some e ∧ pSize P e = some t.sz ∧ 0 < t.sz ∧ (pZero P e).map (·.cells.size) = some t.sz ∧ pKind P tx = true ∧ noKey d pt = true) ∧ noKey d pt2 = true ∧ keysApart pt pt2 = true ∧ ((List.length xs + List.length ys) * by' ≤ 140737488355328 ∧ List.length xs + List.length ys ≤ maxLen), pt ++ pt2 ++ [(d, .val ⟨.own e t, (xs ++ ys : List t.den)⟩, .new)])
            | none => none
          | none => none
      | _, _ => none
    | none => none
  | _ => none
theorem fin_Append (P : Program) (T : TypeId → Option Ty) (rd : Rd) (d : Tmp) (tT tx : TypeId) (x y : Operand) {K : Patch → Prop} (h : fin (rAppend P T rd d tT tx x y) K) : pAppend P T rd d tT tx x y K := by
  unfold rAppend at h
  unfold pAppend
  repeat' split at h
  all_goals first
    | exact h.elim
    | (simpa only [fin, and_assoc, true_and] using h)
    | (simp only [*]; simpa only [fin, and_assoc, true_and] using h)
    | (simp_all [fin]; done)
    | (simp only [fin] at h; simp_all)
def rCallB (c : Con) (rd : Rd) (d : Tmp) (args : List (Option Ty × Operand)) : Rs :=
  match peekAll rd args with
  | some vs => match c.fn vs with
    | some (pre, _, res) => some (c.ms.all (· == .v) = true ∧ c.ms.length = vs.length ∧ res.all (fun v => v.t.alone) = true ∧ pre, [(d, resSlot res, .new)])
    | none => none
  | none => none
theorem fin_CallB (c : Con) (rd : Rd) (d : Tmp) (args : List (Option Ty × Operand)) {K : Patch → Prop} (h : fin (rCallB c rd d args) K) : pCallB c rd d args K := by
  unfold rCallB at h
  unfold pCallB
  repeat' split at h
  all_goals first
    | exact h.elim
    | (simpa only [fin, and_assoc, true_and] using h)
    | (simp only [*]; simpa only [fin, and_assoc, true_and] using h)
    | (simp_all [fin]; done)
    | (simp only [fin] at h; simp_all)
def rCallS (c : Con) (rd : Rd) (d : Tmp) (args : List (Option Ty × Operand)) : Rs :=
  match manyV rd ((c.ms.zip args).map fun q => (q.1 == .t, q.2.1, q.2.2)) with
  | some (vs, pt) => match c.fn vs with
    | some (pre, _, res) => some (c.ms.all (fun m => m == .v || m == .t) = true ∧ c.ms.length = vs.length ∧ args.length = vs.length ∧ noKey d pt = true ∧ pre, pt ++ [(d, resSlot res, .new)])
    | none => none
  | none => none
theorem fin_CallS (c : Con) (rd : Rd) (d : Tmp) (args : List (Option Ty × Operand)) {K : Patch → Prop} (h : fin (rCallS c rd d args) K) : pCallS c rd d args K := by
  unfold rCallS at h
  unfold pCallS
  repeat' split at h
  all_goals first
    | exact h.elim
    | (simpa only [fin, and_assoc, true_and] using h)
    | (simp only [*]; simpa only [fin, and_assoc, true_and] using h)
    | (simp_all [fin]; done)
    | (simp only [fin] at h; simp_all)
def rCallX (c : Con) (rd : Rd) (d : Tmp) (x0 : Operand) (args : List (Option Ty × Operand)) : Rs :=
  match c.ms with
  | m0 :: ms => match inOut rd m0 x0, manyV rd ((ms.zip args).map fun q => (q.1 == .t, q.2.1, q.2.2)) with
    | some (j, p, v0), some (vs, pt) => match c.fn (v0 :: vs) with
      | some (pre, o0 :: _, res) => match (rd j).1.rset p o0 with
        | some root' => some (ms.all (fun m => m == .v || m == .t) = true ∧ ms.length = vs.length ∧ args.length = vs.length ∧ noKey d pt = true ∧ noKey j pt = true ∧ j ≠ d ∧ o0.t = v0.t ∧ pre, pt ++ [(j, root', m0.bump), (d, resSlot res, .new)])
        | none => none
      | _ => none
    | _, _ => none
  | [] => none
theorem fin_CallX (c : Con) (rd : Rd) (d : Tmp) (x0 : Operand) (args : List (Option Ty × Operand)) {K : Patch → Prop} (h : fin (rCallX c rd d x0 args) K) : pCallX c rd d x0 args K := by
  unfold rCallX at h
  unfold pCallX
  repeat' split at h
  all_goals first
    | exact h.elim
    | (simpa only [fin, and_assoc, true_and] using h)
    | (simp only [*]; simpa only [fin, and_assoc, true_and] using h)
    | (simp_all [fin]; done)
    | (simp only [fin] at h; simp_all)


def rCallFn (L : Clos) (rd : Rd) (d : Tmp) (j : Tmp) (args : List (Option Ty × Operand)) : Rs :=
  match rd j with
  | (.val ⟨.fn t r, φ⟩, _, _) => match peekAll rd args with
    | some vs => match packV t (upAll L vs).2 with
      | some x => some (r.alone = true ∧ ((upAll L vs).1 ∧ φ.1 x), [(d, .val ⟨r, φ.2 x⟩, .new)])
      | none => none
    | none => none
  | _ => none
theorem fin_CallFn {L : Clos} {rd : Rd} {d j : Tmp} {args : List (Option Ty × Operand)} {K : Patch → Prop} (h : fin (rCallFn L rd d j args) K) : pCallFn L rd d j args K := by
  unfold rCallFn at h
  unfold pCallFn
  split at h
  · rename_i t r φ k1 k2 hj
    split at h
    · rename_i vs hvs
      split at h
      · rename_i x hx
        simp only [hj, hvs, hx]
        exact ⟨h.1.1, h.1.2, h.2⟩
      · exact h.elim
    · exact h.elim
  · exact h.elim
def rMakeFunc (L : Clos) (rd : Rd) (d : Tmp) (fn : Fn) (first caps : List Operand) : Rs :=
  match fn, first with
  | .func f, [] => match lookC f L with
    | some c => match manyV rd (caps.map fun x => (false, none, x)) with
      | some (vs, pt) => match c.of vs with
        | some (pre, x) => some (noKey d pt = true ∧ pre, pt ++ [(d, .val ⟨c.ty, x⟩, .new)])
        | none => none
      | none => none
    | none => none
  | _, _ => none
theorem fin_MakeFunc {L : Clos} {rd : Rd} {d : Tmp} {fn : Fn} {first caps : List Operand} {K : Patch → Prop} (h : fin (rMakeFunc L rd d fn first caps) K) : pMakeFunc L rd d fn first caps K := by
  unfold rMakeFunc at h
  unfold pMakeFunc
  split at h
  · split at h
    · rename_i c hc
      split at h
      · rename_i vs pt hm
        split at h
        · rename_i pre x hx; simp only [hc, hm, hx]; exact ⟨h.1.1, h.1.2, h.2⟩
        · exact h.elim
      · exact h.elim
    · exact h.elim
  · exact h.elim
def rCallF (E : Env) (rd : Rd) (d : Tmp) (con : Con) (args : List Operand) (ts : List TypeId) : Rs :=
  if con.bor then rCallB con rd d ((ts.map E.T).zip args)
  else match con.ms with
    | .io :: _ => match args, ts with | x :: xs, _ :: ts => rCallX con rd d x ((ts.map E.T).zip xs) | _, _ => none
    | .p :: _ => match args, ts with | x :: xs, _ :: ts => rCallX con rd d x ((ts.map E.T).zip xs) | _, _ => none
    | _ => rCallS con rd d ((ts.map E.T).zip args)
def andR (c : Prop) (r : Rs) : Rs := match r with | some (d, pt) => some (c ∧ d, pt) | none => none
theorem fin_andR {c : Prop} {r : Rs} {K : Patch → Prop} (h : fin (andR c r) K) : c ∧ fin r K := by
  cases r with
  | none => exact h.elim
  | some q => obtain ⟨d, pt⟩ := q; exact ⟨h.1.1, h.1.2, h.2⟩
def rCall (P : Program) (E : Env) (rd : Rd) (d : Tmp) (callee : Callee) (args : List Operand) (ts : List TypeId) : Rs :=
  match callee with
  | .builtin .len => match args, ts with | [x], t :: _ => rLen P rd d t x | _, _ => none
  | .builtin .append => match args, ts with | [x, y], [t, u] => rAppend P E.T rd d t u x y | _, _ => none
  | .value (.func f) => match look f E.con with
    | some con => andR (ts.length = args.length) (rCallF E rd d (con.upE E.clo) args ts)
    | none => none
  | .value (.tmp j) => andR (ts.length = args.length) (rCallFn E.clo rd d j ((ts.map E.T).zip args))
  | _ => none
def rOp (P : Program) (E : Env) (rd : Rd) (ty : TypeId) (d : Tmp) : Op → Rs
  | .move x => rMove rd d x
  | .assign x => rAssign rd (E.T ty) d x
  | .alloc e => rAlloc P E.T d e
  | .box e x => rBox rd (E.T e) d x
  | .build t ps => rBuild P E.T rd d t ps.toList
  | .buildSlice t len ps => rBuildSlice P E.T rd d t len ps.toList
  | .load t x => rLoad P rd d t x
  | .fieldAddr s x k => rFieldAddr P rd d s x k
  | .indexAddr t x i => rIndexAddr P rd d t x i
  | .index t x i => rIndex P rd d t x i
  | .binOp op t x y _ => rBinB P rd d op t x y
  | .unOp op _ x => rUn rd d op x
  | .convert s t x => rConv P rd d s t x
  | .makeSlice t l c => rMakeSlice P E.T rd d t l c
  | .extract x i => rExtract rd d x i
  | .pick c x y => rPick rd d c x y
  | .call c => rCall P E rd d c.callee c.args.toList c.argTypes.toList
  | .makeFunc fn first caps => rMakeFunc E.clo rd d fn first.toList caps.toList
  | _ => none
def rOper (P : Program) (E : Env) (rd : Rd) (op : Op) (dst : Option Tmp) (ty : TypeId) : Rs :=
  match dst with
  | some d => rOp P E rd ty d op
  | none => match op with | .store t x y => rStore P rd t x y | _ => none

theorem fin_call {E : Env} {rd : Rd} {d : Tmp} {c : Callee} {args : List Operand} {ts : List TypeId} {K : Patch → Prop} (h : fin (rCall P E rd d c args ts) K) : pCall P E rd d c args ts K := by
  unfold rCall at h
  unfold pCall
  split at h
  · split at h
    · exact fin_Len _ _ _ _ _ h
    · exact h.elim
  · split at h
    · exact fin_Append _ _ _ _ _ _ _ _ h
    · exact h.elim
  · split at h
    · rename_i con hcon
      obtain ⟨hl, h⟩ := fin_andR h
      simp only [hcon]
      generalize con.upE E.clo = con at *
      refine ⟨hl, ?_⟩
      unfold rCallF at h
      unfold pCallF
      by_cases hb : con.bor = true
      · simp only [hb, if_true] at h ⊢
        exact fin_CallB _ _ _ _ h
      · simp only [hb, if_false, Bool.false_eq_true] at h ⊢
        split at h
        · rename_i l hms
          simp only [hms]
          split at h
          · exact fin_CallX _ _ _ _ _ h
          · exact h.elim
        · rename_i l hms
          simp only [hms]
          split at h
          · exact fin_CallX _ _ _ _ _ h
          · exact h.elim
        · rename_i h1 h2
          split
          · rename_i l e; exact (h1 l e).elim
          · rename_i l e; exact (h2 l e).elim
          · exact fin_CallS _ _ _ _ h
    · exact h.elim
  · obtain ⟨hl, h⟩ := fin_andR h
    exact ⟨hl, fin_CallFn h⟩
  · exact h.elim
theorem fin_oper {E : Env} {rd : Rd} {op : Op} {dst : Option Tmp} {ty : TypeId} {K : Patch → Prop} (h : fin (rOper P E rd op dst ty) K) : pOper P E rd op dst ty K := by
  unfold rOper at h
  unfold pOper
  cases dst with
  | none => cases op <;> first | exact h.elim | exact fin_Store _ _ _ _ _ h
  | some d =>
    simp only at h ⊢
    cases op <;> simp only [rOp, pOp] at h ⊢ <;> first
      | exact fin_Move _ _ _ h
      | exact fin_Assign _ _ _ _ h
      | exact fin_Alloc _ _ _ _ h
      | exact fin_Box _ _ _ _ h
      | exact fin_Build _ _ _ _ _ _ h
      | exact fin_BuildSlice _ _ _ _ _ _ _ h
      | exact fin_Load _ _ _ _ _ h
      | exact fin_FieldAddr _ _ _ _ _ _ h
      | exact fin_IndexAddr _ _ _ _ _ _ h
      | exact fin_Index _ _ _ _ _ _ h
      | exact fin_BinB _ _ _ _ _ _ _ h
      | exact fin_Un _ _ _ _ h
      | exact fin_Conv _ _ _ _ _ _ h
      | exact fin_MakeSlice _ _ _ _ _ _ _ h
      | exact fin_Extract _ _ _ _ h
      | exact fin_Pick _ _ _ _ _ h
      | exact fin_call h
      | exact fin_MakeFunc h
      | exact h.elim
theorem fin_mono {r : Rs} {K K' : Patch → Prop} (h : fin r K) (hK : ∀ pt, K pt → K' pt) : fin r K' := by
  cases r with
  | none => exact h.elim
  | some q => obtain ⟨d, pt⟩ := q; exact ⟨h.1, hK _ h.2⟩

def qOperT (P : Program) (E : Env) (rd : Rd) (op : Op) (dst : Option Tmp) (ty : TypeId) (K : Patch → Prop) : Prop :=
  match op, dst with
  | .binOp .eql t x (.const (.slice none 0 0)) _, some d => pNil P rd d t x K
  | op, dst => fin (rOper P E rd op dst ty) K
theorem qOperT_p {E : Env} {rd : Rd} {op : Op} {dst : Option Tmp} {ty : TypeId} {K K' : Patch → Prop} (h : qOperT P E rd op dst ty K) (hK : ∀ pt, K pt → K' pt) : pOperT P E rd op dst ty K' := by
  unfold qOperT at h
  unfold pOperT
  split at h
  · unfold pNil at *
    split at h
    · rename_i m hm
      simp only [hm]
      exact ⟨h.1, fun h0 b => hK _ (h.2.1 h0 b), fun h0 => hK _ (h.2.2 h0)⟩
    · exact h.elim
  · rename_i hne
    split
    · exact (hne _ _ _ _ rfl rfl).elim
    · exact fin_oper (fin_mono h hK)

/-! ### going through, as values -/
def qI (cx : Cx P) (ks : List It) (σ : Fr) : Prop :=
  match ks with
  | [] => cx.R σ
  | .blk _ :: ks => qI cx ks σ
  | .rnd J :: _ => J σ
  | .ops _ [] :: ks => qI cx ks σ
  | .ops all (o :: r) :: ks => match wantOk σ.get all o.guard with
    | some v => (v = true → qOperT P cx.E σ.get o.op o.dst o.type fun pt => qI cx (.ops all r :: ks) (σ.app pt)) ∧ (v = false → qI cx (.ops all r :: ks) (σ.app (skipP o.dst)))
    | none => False
  | .opsD all [] acc :: ks => regCheck all acc = true ∧ qI cx ks σ
  | .opsD all (o :: r) acc :: ks => match wantOk σ.get all o.guard with
    | some v => (v = true → fin (rOper P cx.E (σ.only (readsL σ o.op.operands.toList ++ readsG all o.guard)) o.op o.dst o.type) fun pt => qI cx (.opsD all r (acc ++ [(readsL σ o.op.operands.toList ++ readsG all o.guard, pt.map (·.1))]) :: ks) (σ.app pt)) ∧
        (v = false → qI cx (.opsD all r (acc ++ [(readsL σ o.op.operands.toList ++ readsG all o.guard, (skipP o.dst).map (·.1))]) :: ks) (σ.app (skipP o.dst)))
    | none => False
  | .code .skip :: ks => qI cx ks σ
  | .code (.seq x y) :: ks => qI cx (.code x :: .code y :: ks) σ
  | .code (.block id c) :: ks => qI cx (.code c :: .blk id :: ks) σ
  | .code (.exit id) :: ks => match h : exitIt id ks with
    | some r => qI cx r σ
    | none => False
  | .code .ret :: _ => cx.R σ
  | .code (.cond c x y) :: ks => match boolS (rdO σ.get c).1 with
    | some b => (b = true → qI cx (.code x :: ks) σ) ∧ (b = false → qI cx (.code y :: ks) σ)
    | none => False
  | .code (.region _ ops draw) :: ks => if draw then qI cx (.opsD ops.toList ops.toList [] :: ks) σ else qI cx (.ops ops.toList ops.toList :: ks) σ
  | .code c :: ks => Sem' cx (.code c :: ks) σ
termination_by isSz ks
decreasing_by
  all_goals simp_wf
  all_goals (try simp)
  all_goals (try (have := exitIt_sz h))
  all_goals omega

theorem qI_p {cx : Cx P} : ∀ (N : Nat) (ks : List It) (σ : Fr), isSz ks ≤ N → qI cx ks σ → pI cx ks σ := by
  intro N
  induction N with
  | zero =>
    intro ks σ hN h
    cases ks with
    | nil => rw [qI] at h; rw [pI]; exact h
    | cons i ks => cases i <;> simp at hN; rename_i c; cases c <;> simp at hN
  | succ N ih =>
    intro ks σ hN h
    cases ks with
    | nil => rw [qI] at h; rw [pI]; exact h
    | cons i ks =>
      cases i with
      | blk id => rw [qI] at h; rw [pI]; exact ih _ _ (by simp at hN ⊢; omega) h
      | rnd J => rw [qI] at h; rw [pI]; exact h
      | ops all r =>
        cases r with
        | nil => rw [qI] at h; rw [pI]; exact ih _ _ (by simp at hN ⊢; omega) h
        | cons o r =>
          rw [qI] at h; rw [pI]
          split at h
          · rename_i v hv
            simp only [hv]
            exact ⟨fun e => qOperT_p (h.1 e) (fun pt hp => ih _ _ (by simp at hN ⊢; omega) hp), fun e => ih _ _ (by simp at hN ⊢; omega) (h.2 e)⟩
          · exact h.elim
      | opsD all r acc =>
        cases r with
        | nil => rw [qI] at h; rw [pI]; exact ⟨h.1, ih _ _ (by simp at hN ⊢; omega) h.2⟩
        | cons o r =>
          rw [qI] at h; rw [pI]
          split at h
          · rename_i v hv
            simp only [hv]
            exact ⟨fun e => fin_oper (fin_mono (h.1 e) (fun pt hp => ih _ _ (by simp at hN ⊢; omega) hp)), fun e => ih _ _ (by simp at hN ⊢; omega) (h.2 e)⟩
          · exact h.elim
      | code c =>
        cases c with
        | skip => rw [qI] at h; rw [pI]; exact ih _ _ (by simp at hN ⊢; omega) h
        | seq x y => rw [qI] at h; rw [pI]; exact ih _ _ (by simp at hN ⊢; omega) h
        | block id c => rw [qI] at h; rw [pI]; exact ih _ _ (by simp at hN ⊢; omega) h
        | exit id =>
          rw [qI] at h; rw [pI]
          split at h
          · rename_i r hr
            split
            · rename_i r' hr'
              rw [hr] at hr'
              simp only [Option.some.injEq] at hr'
              subst hr'
              exact ih _ _ (by have := exitIt_sz hr; simp at hN; omega) h
            · rename_i hr'; rw [hr] at hr'; cases hr'
          · exact h.elim
        | ret => rw [qI] at h; rw [pI]; exact h
        | cond c x y =>
          rw [qI] at h; rw [pI]
          split at h
          · rename_i v hv
            simp only [hv]
            exact ⟨fun e => ih _ _ (by simp at hN ⊢; omega) (h.1 e), fun e => ih _ _ (by simp at hN ⊢; omega) (h.2 e)⟩
          · exact h.elim
        | region id ops draw =>
          rw [qI] at h; rw [pI]
          split at h
          · rename_i hd; rw [if_pos hd]; exact ih _ _ (by simp at hN ⊢; omega) h
          · rename_i hd; rw [if_neg hd]; exact ih _ _ (by simp at hN ⊢; omega) h
        | loop c => rw [qI] at h; rw [pI]; exact h; all_goals simp
        | rangeFunc f ps x y => rw [qI] at h; rw [pI]; exact h; all_goals simp
        | scope c => rw [qI] at h; rw [pI]; exact h; all_goals simp
        | label l => rw [qI] at h; rw [pI]; exact h; all_goals simp
        | goto l => rw [qI] at h; rw [pI]; exact h; all_goals simp
        | refuse s => rw [qI] at h; rw [pI]; exact h; all_goals simp
end Go.Tv
