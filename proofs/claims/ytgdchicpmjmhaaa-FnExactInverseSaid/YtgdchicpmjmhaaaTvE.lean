/-
  The operations of a call, one by one: what each does to the slots. Conditions: none; plain definitions and lemmas.
-/
import Derived.Test.YtgdchicpmjmhaaaTvD
import Derived.Laws.Slices
import Derived.Laws.Tables
import Derived.Great.Walk
namespace Go.Tv
set_option linter.unusedVariables false
set_option linter.unusedSimpArgs false
variable {P : Program}

/-! ### What the program's tables say of a type -/
def pSize (P : Program) (t : TypeId) : Option Nat := (P.info? t).map (·.size)
def pRow (P : Program) (t : TypeId) : Option Bool := (P.underlying t).map (·.isRow)
def pElem (P : Program) (t : TypeId) : Option TypeId := match P.underlying t with | some (.slice e) => some e | _ => none
def pOff (P : Program) (t : TypeId) (k : Nat) : Option Nat := match P.underlying t with | some (.struct fs) => (fs[k]?).map (·.offset) | _ => none
def pZero (P : Program) (t : TypeId) : Option Value := (P.info? t).bind (·.zero)
def pBytes (P : Program) (t : TypeId) : Option Nat := (P.info? t).map (·.bytes)

theorem pElem_some {t e : TypeId} (h : pElem P t = some e) : P.underlying t = some (.slice e) := by
  unfold pElem at h
  split at h
  · rename_i e' h'; simp only [Option.some.injEq] at h; subst h; exact h'
  · cases h

/-! ### Patches -/
inductive Bump where
  | new
  | hdr
  | stay
abbrev Patch := List (Tmp × Slot × Bump)
def bump : Nat × Nat → Bump → Nat × Nat
  | (n, m), .new => (n + 1, m)
  | (n, m), .hdr => (n, m + 1)
  | (n, m), .stay => (n, m)
def app1 (get : Rd) (x : Tmp × Slot × Bump) : Rd := fun u => if u = x.1 then (x.2.1, bump (get x.1).2 x.2.2) else get u
def appP (pt : Patch) (get : Rd) : Rd := pt.foldl app1 get

def Below (rd get : Rd) : Prop := ∀ t, rd t = get t ∨ (rd t).1 = .undef
theorem Below.eq {rd get : Rd} (h : Below rd get) {t : Tmp} {s : Slot} {n : Nat × Nat} (hs : rd t = (s, n)) (hne : s ≠ .undef) : get t = (s, n) := by
  rcases h t with h | h
  · rw [← h, hs]
  · rw [hs] at h; exact absurd h hne

/-! ### Operands -/
def constSlot : Value → Slot
  | .int k n => if k.wrap n = n then .val ⟨.int k, n⟩ else .undef
  | .bool b => .val ⟨.bool, b⟩
  | .string s => if s.size ≤ maxLen then .val ⟨.str, s.data.toList⟩ else .undef
  | .slice none 0 0 => .nil
  | .nilIface => .val ⟨.err, true⟩
  | .nilFunc => .val ⟨.hole, ()⟩
  | _ => .undef

def rdO (rd : Rd) : Operand → Ent
  | .tmp t => rd t
  | .const v => (constSlot v, 0, 0)
  | .func f => (.val ⟨.stat f, ()⟩, 0, 0)
  | _ => (.undef, 0, 0)

/-- what an operand owns -/
def fpO (fp : Tmp → BS) : Operand → BS
  | .tmp t => fp t
  | _ => BS.bot

section
variable {n : Sz} {w0 : World} {S0 F0 : BS} {get rd : Rd} {a : Act} {w : World} {S : BS} {fp : Tmp → BS}

theorem constSlot_rep (v : Value) (hne : constSlot v ≠ .undef) : SRep P w S BS.bot get a.tmps (constSlot v) v := by
  unfold constSlot at hne ⊢
  split
  · rename_i k m
    by_cases h : k.wrap m = m
    · simp only [h, if_true]; exact ⟨[.int k m], rfl, rfl, h⟩
    · simp [h] at hne
  · exact ⟨[.bool _], rfl, rfl⟩
  · rename_i s
    by_cases h : s.size ≤ maxLen
    · simp only [h, if_true]; exact ⟨[.string s], rfl, by simp, by simpa using h⟩
    · simp [h] at hne
  · rfl
  · exact ⟨[.nilIface], rfl, .inl ⟨rfl, rfl⟩⟩
  · exact ⟨[.nilFunc], rfl, _, rfl, rfl⟩
  · trivial

theorem rdO_rep (h : SimX P n w0 S0 F0 get a w S fp) (hb : Below rd get) {x : Operand} {s : Slot} {nm : Nat × Nat} (hx : rdO rd x = (s, nm)) (hne : s ≠ .undef) :
    SRep P w S (fpO fp x) get a.tmps s (a.eval x) := by
  cases x with
  | tmp t =>
    have hg := hb.eq hx hne
    have := h.slot t
    rw [hg] at this
    exact this
  | const v =>
    simp only [rdO, Prod.mk.injEq] at hx
    obtain ⟨hx1, _⟩ := hx
    have := constSlot_rep (P := P) (w := w) (S := S) (get := get) (a := a) v (by rw [hx1]; exact hne)
    rw [hx1] at this
    exact this
  | global g => simp only [rdO, Prod.mk.injEq] at hx; exact absurd hx.1.symm hne
  | func f =>
    simp only [rdO, Prod.mk.injEq] at hx
    rw [← hx.1]
    exact ⟨[.func (.func f) #[] #[]], rfl, rfl⟩

/-! ### Acts -/
theorem put_size (a : Act) (d : Option Tmp) (v : Value) : (a.put d v).tmps.size = a.tmps.size := by cases d <;> simp [Act.put]
theorem put_defers (a : Act) (d : Option Tmp) (v : Value) : (a.put d v).defers = a.defers := by cases d <;> rfl
theorem put_same (a : Act) (d : Tmp) (v : Value) (h : d < a.tmps.size) : (a.put (some d) v).tmps.getD d undef = v := by simp [Act.put, h]
theorem put_other (a : Act) (d t : Tmp) (v : Value) (h : t ≠ d) : (a.put (some d) v).tmps.getD t undef = a.tmps.getD t undef := by
  simp [Act.put, Array.getElem?_setIfInBounds_ne (Ne.symm h)]

/-- ONE SLOT IS SET; nothing of the old frame's but what the slot itself owned is written. -/
theorem sim_dst (h : SimX P n w0 S0 F0 get a w S fp) (d : Tmp) (hd : d < n.sz) (u : Value) (s : Slot) (G Sx : BS) (w' : World) (hkp : Kp BS.bot w w')
    (hG : ∀ g, G g → w.heap.size ≤ g ∧ g < w'.heap.size) (hSx : ∀ g, Sx g → w.heap.size ≤ g ∧ g < w'.heap.size) (hSG : BS.dis Sx G)
    (hs : SRep P w' (BS.un S Sx) G (app1 get (d, s, .new)) (a.put (some d) u).tmps s u) :
    Sim P n w0 S0 F0 (app1 get (d, s, .new)) (a.put (some d) u) w' := by
  have hds : d < a.tmps.size := by rw [h.size]; exact hd
  refine ⟨_, _, sim_gen h (fun t => t = d) (fun _ => G) Sx (by rw [put_defers]; exact h.defers) (by rw [put_size]; exact h.size) (hkp.mono (BS.bot_sub _)) (fun t _ g hg => .inr (hG g hg)) ?_ (fun g hg => .inr (hSx g hg)) (fun _ _ => hSG) ?_ ?_ ?_⟩
  · intro t u ht hu hne; exact absurd (ht.trans hu.symm) hne
  · intro t ht
    exact ⟨by simp [app1, ht], put_other a d t u ht⟩
  · rintro t rfl
    exact .inl (by simp [app1, bump])
  · rintro t rfl
    rw [put_same a t u hds]
    simpa [app1] using hs

/-- A plain or shared value, or a word on another slot. -/
theorem sim_val (h : SimX P n w0 S0 F0 get a w S fp) (d : Tmp) (hd : d < n.sz) (u : Value) (s : Slot) (hs : SRep P w S BS.bot (app1 get (d, s, .new)) (a.put (some d) u).tmps s u) :
    Sim P n w0 S0 F0 (app1 get (d, s, .new)) (a.put (some d) u) w :=
  sim_dst h d hd u s BS.bot BS.bot w (Kp.refl _ _) (fun _ hg => hg.elim) (fun _ hg => hg.elim) (BS.dis_bot _) (srep_mono hs (fun g hg => .inl hg) (BS.sub_refl _))

theorem srep_val {u : Value} {S F : BS} {get : Rd} {tmps : Array Value} {v : V} {cs : List Value} (hu : u = v.t.toV cs) (hr : Rep P v.t w S F v.x cs) : SRep P w S F get tmps (.val v) u := ⟨cs, hu, hr⟩

end
end Go.Tv
