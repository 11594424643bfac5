/-
  The operations on slots: lengths, parts of values, conversions, equality. Conditions: none; plain definitions and lemmas.
-/
import Derived.Test.YtgdchicpmjmhaaaTvI
namespace Go.Tv
set_option linter.unusedVariables false
set_option linter.unusedSimpArgs false
variable {P : Program}
section
variable {n : Sz} {w0 : World} {S0 F0 : BS} {get rd : Rd} {a : Act} {w : World} {S : BS} {fp : Tmp → BS}

def pStr (P : Program) (t : TypeId) : Bool := match P.underlying t with | some .string => true | _ => false
def pInt (P : Program) (t : TypeId) : Option IntKind := match P.underlying t with | some (.int k) => some k | _ => none
theorem pStr_some {t : TypeId} (h : pStr P t = true) : P.underlying t = some .string := by
  unfold pStr at h
  split at h
  · assumption
  · cases h
theorem pInt_some {t : TypeId} {k : IntKind} (h : pInt P t = some k) : P.underlying t = some (.int k) := by
  unfold pInt at h
  split at h
  · rename_i k' h'; simp only [Option.some.injEq] at h; subst h; exact h'
  · cases h

/-- the length of what an operand holds: of a row, of a text -/
def rowLen (rd : Rd) (x : Operand) : Option Nat :=
  match rowAt rd x with
  | some (.shared r) => some r.xs.length
  | some (.held _ _ _ _ r) => some r.xs.length
  | none => match (rdO rd x).1 with | .nil => some 0 | _ => none

theorem wrap_len {m : Nat} (h : m ≤ maxLen) : IntKind.i64.wrap (m : Int) = m := by
  simp only [maxLen] at h
  simp [IntKind.wrap, IntKind.bits, IntKind.signed]
  omega

theorem rowLen_ok (h : SimX P n w0 S0 F0 get a w S fp) (hb : Below rd get) {x : Operand} {m : Nat} (hx : rowLen rd x = some m) : ∃ A c, a.eval x = .slice A m c ∧ m ≤ maxLen := by
  unfold rowLen at hx
  split at hx
  · rename_i r hr
    simp only [Option.some.injEq] at hx
    subst hx
    obtain ⟨cs, hev, A, c, rfl, h1, h2, _⟩ := rowAt_shared h hb hr
    exact ⟨A, c, hev, Nat.le_trans h1 h2⟩
  · rename_i j p k m' r hr
    simp only [Option.some.injEq] at hx
    subst hx
    obtain ⟨e, hg, hv, hu, _, cs, Fv, hxv, hrep, hsub, hel⟩ := rowAt_held h hb hr
    rcases hrep with ⟨rfl, hx0⟩ | ⟨gi, cap, cur, rfl, hFg, hgi, q1, q2, q3, _⟩
    · have hx0' : r.xs = [] := hx0
      rw [hx0']
      exact ⟨none, 0, hxv, Nat.zero_le _⟩
    · exact ⟨_, cap, hxv, Nat.le_trans q1 q2⟩
  · split at hx
    · rename_i hn
      simp only [Option.some.injEq] at hx
      subst hx
      have := rdO_rep (s := .nil) (nm := (rdO rd x).2) h hb (by rw [← hn]) (by simp)
      exact ⟨none, 0, this, Nat.zero_le _⟩
    · cases hx

def pLen (P : Program) (rd : Rd) (d : Tmp) (t : TypeId) (x : Operand) (K : Patch → Prop) : Prop :=
  match strS (rdO rd x).1 with
  | some s => pStr P t = true ∧ K [(d, .val ⟨.int .i64, (s.length : Int)⟩, .new)]
  | none => match rowLen rd x with
    | some m => (pElem P t).isSome = true ∧ K [(d, .val ⟨.int .i64, (m : Int)⟩, .new)]
    | none => False

theorem len_sim (h : SimX P n w0 S0 F0 get a w S fp) (hb : Below rd get) {d : Tmp} (hd : d < n.sz) {t : TypeId} {x : Operand} {ats : Array TypeId} {o : Oper} (ho : o.op = .call { callee := .builtin .len, args := #[x], argTypes := ats }) (hat : ats[0]? = some t) (hod : o.dst = some d) {K : Patch → Prop} {Q : Exit → Act → World → Prop} (hp : pLen P rd d t x K) : o.wp P a w (Nx P n w0 S0 F0 get K) Q := by
  unfold pLen at hp
  have hexec : ∀ v, (Builtin.len_ ats o.type #[a.eval x]).run P w = .ok v w → (execOp a.eval o).run P w = .ok (.value v) w := by
    intro v hv
    unfold execOp
    simp [ho, resolve, invoke, builtin, hv]
  split at hp
  · rename_i s hs
    obtain ⟨hev, hl⟩ := str_eval h hb hs
    have hu := pStr_some hp.1
    refine sim_scalar (v := ⟨.int .i64, (s.length : Int)⟩) (cs := [.int .i64 s.length]) h hd hod (hexec _ ?_) ⟨rfl, wrap_len hl⟩ hp.2
    have hsz : (⟨s.toArray⟩ : ByteArray).size = s.length := by simp [ByteArray.size]
    simp [Builtin.len_, hat, hev, run_underlying hu, goInt, Ty.toV, Ty.isAg, hsz]
  · split at hp
    · rename_i m hm
      obtain ⟨A, c, hev, hl⟩ := rowLen_ok h hb hm
      obtain ⟨e, he⟩ := Option.isSome_iff_exists.1 hp.1
      have hu := pElem_some he
      refine sim_scalar (v := ⟨.int .i64, (m : Int)⟩) (cs := [.int .i64 m]) h hd hod (hexec _ ?_) ⟨rfl, wrap_len hl⟩ hp.2
      simp [Builtin.len_, hat, hev, run_underlying hu, goInt, Ty.toV, Ty.isAg]
    · exact hp.elim

def pIndex (P : Program) (rd : Rd) (d : Tmp) (t : TypeId) (x i : Operand) (K : Patch → Prop) : Prop :=
  match strS (rdO rd x).1, intS (rdO rd i).1 with
  | some s, some (_, q) => pStr P t = true ∧ (0 ≤ q ∧ q < s.length) ∧ K [(d, .val ⟨.int .u8, ((s.getD q.toNat 0).toNat : Int)⟩, .new)]
  | _, _ => False

theorem wrap_u8 (b : UInt8) : IntKind.u8.wrap (b.toNat : Int) = b.toNat := by
  have := b.toNat_lt
  simp only [IntKind.wrap, IntKind.signed, IntKind.bits, Bool.false_and, Bool.false_eq_true, if_false]
  omega

theorem index_sim (h : SimX P n w0 S0 F0 get a w S fp) (hb : Below rd get) {d : Tmp} (hd : d < n.sz) {t : TypeId} {x i : Operand} {o : Oper} (ho : o.op = .index t x i) (hod : o.dst = some d) {K : Patch → Prop} {Q : Exit → Act → World → Prop} (hp : pIndex P rd d t x i K) : o.wp P a w (Nx P n w0 S0 F0 get K) Q := by
  unfold pIndex at hp
  have hexec : ∀ v, (Instr.index t (a.eval x) (a.eval i)).run P w = .ok v w → (execOp a.eval o).run P w = .ok (.value v) w := by
    intro v hv
    unfold execOp
    simp [ho, hv]
  split at hp
  · rename_i s k q hs hi
    obtain ⟨hev, hl⟩ := str_eval h hb hs
    obtain ⟨hiv, _⟩ := int_eval h hb hi
    obtain ⟨hst, ⟨h0, h1⟩, hK⟩ := hp
    have hu := pStr_some hst
    have hlt : q.toNat < s.length := by omega
    refine sim_scalar (v := ⟨.int .u8, ((s.getD q.toNat 0).toNat : Int)⟩) (cs := [.int .u8 ((s.getD q.toNat 0).toNat : Int)]) h hd hod (hexec _ ?_) ⟨rfl, wrap_u8 _⟩ hK
    have hsz : q.toNat < (⟨s.toArray⟩ : ByteArray).size := by simpa [ByteArray.size] using hlt
    have hget : (⟨s.toArray⟩ : ByteArray)[q.toNat]? = some s[q.toNat] := by
      rw [getElem?_pos (⟨s.toArray⟩ : ByteArray) q.toNat hsz]
      rfl
    simp [Instr.index, asIntOf, hev, hiv, run_underlying hu, h0, hget, Ty.toV, Ty.isAg, List.getD_eq_getElem?_getD, hlt]
  · exact hp.elim

def pUn (rd : Rd) (d : Tmp) (op : UnOp) (x : Operand) (K : Patch → Prop) : Prop :=
  match op with
  | .not => match boolS (rdO rd x).1 with | some b => K [(d, .val ⟨.bool, !b⟩, .new)] | none => False
  | .neg => match intS (rdO rd x).1 with | some (k, q) => K [(d, .val ⟨.int k, k.wrap (0 - q)⟩, .new)] | none => False
  | .xor => match intS (rdO rd x).1 with | some (k, q) => K [(d, .val ⟨.int k, k.wrap ((BitVec.ofInt k.bits (if k.signed then -1 else k.max) ^^^ BitVec.ofInt k.bits q).toNat : Int)⟩, .new)] | none => False
  | _ => False

theorem un_sim (h : SimX P n w0 S0 F0 get a w S fp) (hb : Below rd get) {d : Tmp} (hd : d < n.sz) {op : UnOp} {t : TypeId} {x : Operand} {o : Oper} (ho : o.op = .unOp op t x) (hod : o.dst = some d) {K : Patch → Prop} {Q : Exit → Act → World → Prop} (hp : pUn rd d op x K) : o.wp P a w (Nx P n w0 S0 F0 get K) Q := by
  unfold pUn at hp
  have hexec : ∀ v, (Op.unary op (a.eval x)).run P w = .ok v w → (execOp a.eval o).run P w = .ok (.value v) w := by
    intro v hv
    unfold execOp
    simp [ho, hv]
  split at hp
  · split at hp
    · rename_i b hx
      refine sim_scalar (v := ⟨.bool, !b⟩) (cs := [.bool (!b)]) h hd hod (hexec _ ?_) rfl hp
      simp [Op.unary, bool_eval h hb hx, Ty.toV, Ty.isAg]
    · exact hp.elim
  · split at hp
    · rename_i k q hx
      refine sim_scalar (v := ⟨.int k, k.wrap (0 - q)⟩) (cs := [.int k (k.wrap (0 - q))]) h hd hod (hexec _ ?_) ⟨rfl, wrap_idem k _⟩ hp
      simp [Op.unary, Op.intArith, (int_eval h hb hx).1, Ty.toV, Ty.isAg]
    · exact hp.elim
  · split at hp
    · rename_i k q hx
      refine sim_scalar (v := ⟨.int k, _⟩) (cs := [.int k (k.wrap ((BitVec.ofInt k.bits (if k.signed then -1 else k.max) ^^^ BitVec.ofInt k.bits q).toNat : Int))]) h hd hod (hexec _ ?_) ⟨rfl, wrap_idem k _⟩ hp
      simp [Op.unary, Op.intBits, (int_eval h hb hx).1, Ty.toV, Ty.isAg]
    · exact hp.elim
  · exact hp.elim

/-- a row of bytes that an operand leads to -/
def bytesS (rd : Rd) (x : Operand) : Option (List Int) :=
  match rowAt rd x with
  | some (.shared ⟨.int .u8, xs⟩) => some xs
  | some (.held _ _ _ _ ⟨.int .u8, xs⟩) => some xs
  | _ => none

def pConv (P : Program) (rd : Rd) (d : Tmp) (src dst : TypeId) (x : Operand) (K : Patch → Prop) : Prop :=
  match intS (rdO rd x).1 with
  | some (_, q) => match pInt P dst with | some k => (P.underlying src).isSome = true ∧ K [(d, .val ⟨.int k, k.wrap q⟩, .new)] | none => False
  | none => match strS (rdO rd x).1 with
    | some s => pStr P dst = true ∧ (P.underlying src).isSome = true ∧ K [(d, .val ⟨.str, s⟩, .new)]
    | none => match bytesS rd x with
      | some xs => pStr P dst = true ∧ (pElem P src).bind (pInt P) = some .u8 ∧ K [(d, .val ⟨.str, xs.map fun q => UInt8.ofNat q.toNat⟩, .new)]
      | none => False

theorem bytes_cells (h : SimX P n w0 S0 F0 get a w S fp) (hb : Below rd get) {x : Operand} {xs : List Int} (hx : bytesS rd x = some xs) :
    xs.length ≤ maxLen ∧ ((a.eval x = .slice none 0 0 ∧ xs = []) ∨ (∃ A c, a.eval x = .slice A xs.length c ∧ xs = []) ∨ ∃ g o c, a.eval x = .slice (some ⟨g, o, none⟩) xs.length c ∧ CellsAt w g o (xs.map (Value.int .u8))) := by
  unfold bytesS at hx
  have key : ∀ (g o : Nat) (R : Nat → List Value → Prop), (∀ i (hi : i < xs.length), ∃ ci, ci = [Value.int .u8 xs[i]] ∧ CellsAt w g (o + i * 1) ci) → CellsAt w g o (xs.map (Value.int .u8)) := by
    intro g o R hel k v hk
    rw [List.getElem?_map] at hk
    rcases Nat.lt_or_ge k xs.length with hlt | hge
    · rw [List.getElem?_eq_getElem hlt] at hk
      simp only [Option.map_some, Option.some.injEq] at hk
      subst hk
      obtain ⟨ci, rfl, hc⟩ := hel k hlt
      simpa using hc 0 _ rfl
    · rw [List.getElem?_eq_none hge] at hk
      cases hk
  split at hx
  · rename_i ys hr
    simp only [Option.some.injEq] at hx
    subst hx
    obtain ⟨cs, hev, A, c, rfl, h1, h2, h3⟩ := rowAt_shared h hb hr
    refine ⟨Nat.le_trans h1 h2, ?_⟩
    by_cases hn : (ys : List Int) = []
    · exact .inr (.inl ⟨A, c, hev, hn⟩)
    · obtain ⟨g, o, rfl, hS, hel⟩ := h3 hn
      refine .inr (.inr ⟨g, o, c, hev, key g o (fun _ _ => True) (fun i hi => ?_)⟩)
      obtain ⟨ci, hrr, hc⟩ := hel i hi
      exact ⟨ci, hrr.1, hc⟩
  · rename_i j p k m ys hr
    simp only [Option.some.injEq] at hx
    subst hx
    obtain ⟨e, hg, hv, hu, _, cs, Fv, hxv, hrep, hsub, hel⟩ := rowAt_held h hb hr
    rcases hrep with ⟨rfl, hx0⟩ | ⟨gi, cap, cur, rfl, hFg, hgi, q1, q2, q3, Fs, hFs, hng, hdd, he⟩
    · have hx0' : (ys : List Int) = [] := hx0
      exact ⟨by rw [hx0']; exact Nat.zero_le _, .inl ⟨hxv, hx0'⟩⟩
    · refine ⟨Nat.le_trans q1 q2, .inr (.inr ⟨gi, 0, cap, hxv, key gi 0 (fun _ _ => True) (fun i hi => ?_)⟩)⟩
      have := he i hi
      refine ⟨_, this.1, ?_⟩
      have hc := cellsAt_row (a := i * 1) (n := 1) hgi
      rw [Nat.zero_add]
      exact hc
  · cases hx

theorem run_bytesToString {w : World} {g o c : Nat} {xs : List Int} (hc : CellsAt w g o (xs.map (Value.int .u8))) : (Conv.bytesToString (.slice (some ⟨g, o, none⟩) xs.length c)).run P w = .ok (.string ⟨(xs.map fun q => UInt8.ofNat q.toNat).toArray⟩) w := by
  have hl := run_loadCells_list (P := P) w ⟨g, o, none⟩ (xs.map (Value.int .u8)) (fun j v hv => by rw [Addr.add_mid]; exact hc j v hv)
  rw [List.length_map] at hl
  have key : ∀ (l : List Int) (s : ByteArray) (w : World), (forIn (m := Sem) ((l.map (Value.int .u8)).toArray) s (fun c __s => match c with
      | Value.int IntKind.u8 n => pure (ForInStep.yield (__s.push (UInt8.ofNat n.toNat)))
      | x => do
        stuck "bytesToString: byte expected"
        pure (ForInStep.yield __s))).run P w = .ok (⟨s.data ++ (l.map fun q => UInt8.ofNat q.toNat).toArray⟩) w := by
    intro l
    induction l with
    | nil => intro s w; simp
    | cons q l ih =>
      intro s w
      have := ih (s.push (UInt8.ofNat q.toNat)) w
      simp only [List.map_cons, List.forIn_toArray, List.forIn_cons] at this ⊢
      simp only [Sem.run_bind, Sem.run_pure, Result.andThen_ok]
      rw [this]
      congr 1
      apply ByteArray.ext
      simp [ByteArray.push]
  unfold Conv.bytesToString
  simp only [Sem.run_bind, hl, Result.andThen_ok]
  have := key xs ByteArray.empty w
  refine Eq.trans (congrArg (fun r => Result.andThen r fun a w' => Sem.run P (pure (Value.string a)) w') this) ?_
  simp only [Result.andThen_ok, Sem.run_pure]
  congr 2
  apply ByteArray.ext
  simp

theorem conv_sim (h : SimX P n w0 S0 F0 get a w S fp) (hb : Below rd get) {d : Tmp} (hd : d < n.sz) {src dst : TypeId} {x : Operand} {o : Oper} (ho : o.op = .convert src dst x) (hod : o.dst = some d) {K : Patch → Prop} {Q : Exit → Act → World → Prop} (hp : pConv P rd d src dst x K) : o.wp P a w (Nx P n w0 S0 F0 get K) Q := by
  unfold pConv at hp
  have hexec : ∀ v, (convert src dst (a.eval x)).run P w = .ok v w → (execOp a.eval o).run P w = .ok (.value v) w := by
    intro v hv
    unfold execOp
    simp [ho, hv]
  split at hp
  · rename_i k q hx
    split at hp
    · rename_i k' hk
      obtain ⟨hs, hK⟩ := hp
      obtain ⟨ds, hds⟩ := Option.isSome_iff_exists.1 hs
      have hu := pInt_some hk
      refine sim_scalar (v := ⟨.int k', k'.wrap q⟩) (cs := [.int k' (k'.wrap q)]) h hd hod (hexec _ ?_) ⟨rfl, wrap_idem k' _⟩ hK
      simp [convert, run_underlying hds, run_underlying hu, (int_eval h hb hx).1, Conv.intToInt, Ty.toV, Ty.isAg]
    · exact hp.elim
  · split at hp
    · rename_i s hx
      obtain ⟨hst, hs, hK⟩ := hp
      obtain ⟨ds, hds⟩ := Option.isSome_iff_exists.1 hs
      have hu := pStr_some hst
      obtain ⟨hev, hl⟩ := str_eval h hb hx
      refine sim_scalar (v := ⟨.str, s⟩) (cs := [.string ⟨s.toArray⟩]) h hd hod (hexec _ ?_) ⟨rfl, hl⟩ hK
      simp [convert, run_underlying hds, run_underlying hu, hev, Ty.toV, Ty.isAg]
    · split at hp
      · rename_i xs hx
        obtain ⟨hst, hs, hK⟩ := hp
        obtain ⟨e, he, hk⟩ := Option.bind_eq_some_iff.1 hs
        have hus := pElem_some he
        have hue := pInt_some hk
        have hud := pStr_some hst
        obtain ⟨hl, hc⟩ := bytes_cells h hb hx
        refine sim_scalar (v := ⟨.str, xs.map fun q => UInt8.ofNat q.toNat⟩) (cs := [.string ⟨(xs.map fun q => UInt8.ofNat q.toNat).toArray⟩]) h hd hod (hexec _ ?_) ⟨rfl, by simpa using hl⟩ hK
        rcases hc with ⟨hev, rfl⟩ | ⟨A, c, hev, rfl⟩ | ⟨g, og, c, hev, hc⟩
        · simp [convert, run_underlying hus, run_underlying hud, run_underlying hue, hev, Conv.bytesToString, Ty.toV, Ty.isAg]
          rfl
        · cases A with
          | none =>
            simp [convert, run_underlying hus, run_underlying hud, run_underlying hue, hev, Conv.bytesToString, Ty.toV, Ty.isAg]
            rfl
          | some ad =>
            simp [convert, run_underlying hus, run_underlying hud, run_underlying hue, hev, Conv.bytesToString, loadCells, loadCellsFrom, Ty.toV, Ty.isAg]
            rfl
        · simp [convert, run_underlying hus, run_underlying hud, run_underlying hue, hev, run_bytesToString hc, Ty.toV, Ty.isAg]
      · exact hp.elim
end
end Go.Tv
