/-
  Typed values over the model's memory: kinds of data, when cells hold such data, what a call keeps. Conditions: none; plain definitions and lemmas.
-/
import Derived.Below
import Derived.Deep.MidRow
import Derived.Laws.AppendOwn
import Derived.Orders
import Derived.Tactics
import Derived.RangeFuncSeq
namespace Go.Tv
set_option linter.unusedVariables false
set_option linter.unusedSimpArgs false

/-! ### Sets of blocks -/
abbrev BS := Nat → Prop
def BS.bot : BS := fun _ => False
def BS.sub (a b : BS) : Prop := ∀ g, a g → b g
def BS.dis (a b : BS) : Prop := ∀ g, a g → b g → False
def BS.un (a b : BS) : BS := fun g => a g ∨ b g
def BS.up (n : Nat) : BS := fun g => n ≤ g
theorem BS.sub_refl (a : BS) : a.sub a := fun _ h => h
theorem BS.bot_sub (a : BS) : BS.bot.sub a := fun _ h => h.elim
theorem BS.dis_bot (a : BS) : a.dis BS.bot := fun _ _ h => h
theorem BS.bot_dis (a : BS) : BS.bot.dis a := fun _ h _ => h
theorem BS.dis.symm {a b : BS} (h : a.dis b) : b.dis a := fun g x y => h g y x
theorem BS.dis.mono {a b a' b' : BS} (h : a.dis b) (ha : a'.sub a) (hb : b'.sub b) : a'.dis b' := fun g x y => h g (ha g x) (hb g y)
theorem BS.sub.trans {a b c : BS} (h : a.sub b) (k : b.sub c) : a.sub c := fun g x => k g (h g x)

/-! ### What a call keeps: all blocks but those of F -/
structure Kp (F : BS) (w w' : World) : Prop where
  os : w'.os = w.os
  tape : w'.tape = w.tape
  output : w'.output = w.output
  size : w.heap.size ≤ w'.heap.size
  block : ∀ g, g < w.heap.size → ¬ F g → w'.heap[g]? = w.heap[g]?
theorem Kp.refl (F : BS) (w : World) : Kp F w w := ⟨rfl, rfl, rfl, Nat.le_refl _, fun _ _ _ => rfl⟩
theorem Kp.trans {F G : BS} {a b c : World} (h : Kp F a b) (k : Kp G b c) (hg : ∀ g, g < a.heap.size → G g → F g) : Kp F a c :=
  ⟨k.os.trans h.os, k.tape.trans h.tape, k.output.trans h.output, Nat.le_trans h.size k.size,
    fun g hl hf => (k.block g (Nat.lt_of_lt_of_le hl h.size) (fun hG => hf (hg g hl hG))).trans (h.block g hl hf)⟩
theorem Kp.mono {F G : BS} {a b : World} (h : Kp F a b) (hs : F.sub G) : Kp G a b := ⟨h.os, h.tape, h.output, h.size, fun g hl hf => h.block g hl (fun x => hf (hs g x))⟩
theorem Kp.below {w w' : World} (h : Kp BS.bot w w') : RowKit.Below w.heap.size w w' := ⟨h.os, h.tape, h.output, h.size, fun g hl => h.block g hl (fun x => x)⟩
theorem Kp.of_below {w w' : World} (h : RowKit.Below w.heap.size w w') (F : BS) : Kp F w w' := ⟨h.os, h.tape, h.output, h.size, fun g hl _ => h.block g hl⟩
theorem Kp.alloc (F : BS) (w : World) (o : Obj) : Kp F w (w.alloc o) := ⟨rfl, rfl, rfl, by simp, fun g hl _ => RowKit.Below.heap_alloc w o g hl⟩
theorem Kp.drew (F : BS) (w : World) : Kp F w w.drew := ⟨rfl, rfl, rfl, Nat.le_refl _, fun _ _ _ => rfl⟩
theorem Kp.grown {F : BS} {w w' : World} {row : Option Nat} (h : w.grownBy w' row) (hr : ∀ k, row = some k → F k) : Kp F w w' :=
  ⟨h.os, h.tape, h.output, h.size, fun g hl hf => h.block g hl (fun e => hf (hr g e.symm))⟩

/-- the blocks of S hold what they held -/
def KeepS (S : BS) (w w' : World) : Prop := ∀ g, S g → w'.heap[g]? = w.heap[g]?
theorem KeepS.refl (S : BS) (w : World) : KeepS S w w := fun _ _ => rfl
theorem KeepS.trans {S : BS} {a b c : World} (h : KeepS S a b) (k : KeepS S b c) : KeepS S a c := fun g x => (k g x).trans (h g x)
theorem KeepS.mono {S T : BS} {a b : World} (h : KeepS S a b) (hs : T.sub S) : KeepS T a b := fun g x => h g (hs g x)
theorem Kp.keepS {F S : BS} {w w' : World} (h : Kp F w w') (hd : S.dis F) (hb : ∀ g, S g → g < w.heap.size) : KeepS S w w' := fun g x => h.block g (hb g x) (fun y => hd g x y)

/-! ### Kinds of data -/
inductive Ty where
  | int (k : IntKind)
  | bool
  | str
  | unit
  | err
  | prod (a b : Ty)
  | slice (t : Ty)
  | own (e : TypeId) (t : Ty)
  | cellp (t : Ty)
  | arr (n : Nat) (t : Ty)
  | fn (a r : Ty)
  | iter (lv : Bool) (t : Ty)
  | stat (f : FuncId)
  | hole
  deriving DecidableEq

@[reducible] def Ty.den : Ty → Type
  | .int _ => Int
  | .bool => Bool
  | .str => List UInt8
  | .unit => Unit
  | .err => Bool
  | .prod a b => a.den × b.den
  | .slice t => List t.den
  | .own _ t => List t.den
  | .cellp t => t.den
  | .arr _ t => List t.den
  | .fn a r => (a.den → Prop) × (a.den → r.den)
  | .iter _ t => List t.den
  | .stat _ => Unit
  | .hole => Unit

@[reducible] def Ty.sz : Ty → Nat
  | .unit => 0
  | .prod a b => a.sz + b.sz
  | .arr n t => n * t.sz
  | _ => 1

@[reducible] def Ty.isAg : Ty → Bool
  | .unit => true
  | .prod _ _ => true
  | .arr _ _ => true
  | _ => false

/-- a value of that kind, by its cells -/
def Ty.toV (t : Ty) (cs : List Value) : Value := if t.isAg then .agg cs.toArray else cs.headD undef

/-- One shared argument, one plain result. -/
def Pure1 (P : Program) (f : FuncId) (vs : Array Value) (w : World) (R : World → Value → Prop) : Prop :=
  Calls P f vs w fun e w' => ∃ v, e = .returned v ∧ R w' v ∧ Kp BS.bot w w'

/-- the arguments that a product is handed on as -/
def argsOf : Ty → List Value → List Value
  | .prod a b, cs => a.toV (cs.take a.sz) :: argsOf b (cs.drop a.sz)
  | _, _ => []

/-- What holds of a function that is ranged over: f's closure hands on N items (Y: what their arguments are in a world); it keeps all but F. -/
def Iter (P : Program) (f : FuncId) (caps : Array Value) (S F : BS) (N : Nat) (Y : Nat → World → List Value → Prop) (W : World) : Prop :=
  ∀ (l : Nat) (J : Nat → World → Prop) (Jx : World → Prop),
    (∀ k A B, J k A → Kp F A B → J k B) → (∀ A B, Jx A → Kp F A B → Jx B) → (∀ k A, J k A → W.heap.size ≤ A.heap.size ∧ KeepS S W A) →
    (∀ k A us, k < N → J k A → Y k A us → YieldAt Fence.wide 0 P l us.toArray A fun e B =>
      KeepS F A B ∧ ((e = .returned (.bool true) ∧ J (k + 1) B) ∨ (e = .returned (.bool false) ∧ Jx B))) →
    J 0 W → CallsIn Fence.wide 0 P f (#[.func (.yield l) #[] #[]] ++ caps) W fun e B => (∃ v, e = .returned v) ∧ (J N B ∨ Jx B)

/-- The cells from (g, o) on. -/
def CellsAt (w : World) (g o : Nat) (cs : List Value) : Prop := ∀ k v, cs[k]? = some v → w.cell? ⟨g, o + k, none⟩ = some v

/-- In the world w the cells cs hold the datum x: what is shared lies in blocks of S, what is owned (no other place leads there) in blocks of F. -/
def Rep (P : Program) : (t : Ty) → World → BS → BS → t.den → List Value → Prop
  | .int k, _, _, _, x, cs => cs = [.int k x] ∧ k.wrap x = x
  | .bool, _, _, _, x, cs => cs = [.bool x]
  | .str, _, _, _, x, cs => cs = [.string ⟨x.toArray⟩] ∧ x.length ≤ maxLen
  | .unit, _, _, _, _, cs => cs = []
  | .err, _, _, _, x, cs => (x = true ∧ cs = [.nilIface]) ∨ (x = false ∧ ∃ t v, cs = [.iface t v])
  | .prod a b, w, S, F, x, cs => ∃ c1 c2 F1 F2, cs = c1 ++ c2 ∧ Rep P a w S F1 x.1 c1 ∧ Rep P b w S F2 x.2 c2 ∧ BS.dis F1 F2 ∧ BS.sub F1 F ∧ BS.sub F2 F
  | .slice t, w, S, _, x, cs => ∃ A c, cs = [.slice A (x : List t.den).length c] ∧ (x : List t.den).length ≤ c ∧ c ≤ maxLen ∧
      ((x : List t.den) ≠ [] → ∃ g o, A = some ⟨g, o, none⟩ ∧ S g ∧ ∀ i (h : i < (x : List t.den).length), ∃ ci, Rep P t w S BS.bot ((x : List t.den)[i]) ci ∧ CellsAt w g (o + i * t.sz) ci)
  | .own e t, w, S, F, x, cs => (cs = [.slice none 0 0] ∧ (x : List t.den) = []) ∨ ∃ g cap cur, cs = [.slice (some ⟨g, 0, none⟩) (x : List t.den).length cap] ∧ F g ∧ w.heap[g]? = some (.cells cur e (0, 0)) ∧
      (x : List t.den).length ≤ cap ∧ cap ≤ maxLen ∧ cur.size = cap * t.sz ∧ ∃ Fs : Nat → BS, (∀ i, BS.sub (Fs i) F) ∧ (∀ i, ¬ Fs i g) ∧ (∀ i j, i ≠ j → BS.dis (Fs i) (Fs j)) ∧
        ∀ i (h : i < (x : List t.den).length), Rep P t w S (Fs i) ((x : List t.den)[i]) ((cur.toList.drop (i * t.sz)).take t.sz)
  | .cellp t, w, S, _, x, cs => ∃ g o ci, cs = [.pointer (some ⟨g, o, none⟩)] ∧ S g ∧ Rep P t w S BS.bot x ci ∧ CellsAt w g o ci
  | .arr n t, w, S, F, x, cs => (x : List t.den).length = n ∧ cs.length = n * t.sz ∧ ∃ Fs : Nat → BS, (∀ i, BS.sub (Fs i) F) ∧ (∀ i j, i ≠ j → BS.dis (Fs i) (Fs j)) ∧
        ∀ i (h : i < (x : List t.den).length), Rep P t w S (Fs i) ((x : List t.den)[i]) ((cs.drop (i * t.sz)).take t.sz)
  | .fn a r, w, S, _, φ, cs => ∃ f first caps, cs = [.func (.func f) first caps] ∧ (∃ fn, P.funcs[f]? = some fn ∧ fn.body.isSome = true ∧ fn.name ≠ "runtime.NumGoroutine") ∧
      ∀ w', KeepS S w w' → ∀ x, φ.1 x → ∀ S1 c1, (∀ g, S1 g → g < w'.heap.size) → Rep P a w' S1 BS.bot x c1 →
        Pure1 P f (first ++ (argsOf a c1).toArray ++ caps) w' fun w'' v => ∃ c, v = r.toV c ∧ Rep P r w'' BS.bot BS.bot (φ.2 x) c
  | .iter lv t, w, S, F, xs, cs => if lv then ∃ f caps, cs = [.func (.func f) #[] caps] ∧ (∃ fn, P.funcs[f]? = some fn ∧ fn.body.isSome = true ∧ fn.name ≠ "runtime.NumGoroutine") ∧
      ∀ w', KeepS S w w' → KeepS F w w' → Iter P f caps S F (xs : List t.den).length (fun k A us => ∃ h : k < (xs : List t.den).length, ∃ c, us = argsOf t c ∧ Rep P t A S BS.bot (xs : List t.den)[k] c) w'
      else ∃ u : Value, cs = [u] ∧ u.oneCell' = true
  | .stat f, _, _, _, _, cs => cs = [.func (.func f) #[] #[]]
  | .hole, _, _, _, _, cs => ∃ u : Value, cs = [u] ∧ u.oneCell' = true

theorem CellsAt.keep {w w' : World} {g o : Nat} {cs : List Value} (h : CellsAt w g o cs) (hg : w'.heap[g]? = w.heap[g]?) : CellsAt w' g o cs := fun k v hk => by
  have := h k v hk
  rwa [World.cell?_of_block (w := w) (w' := w') (a := ⟨g, o + k, none⟩) hg]

variable {P : Program}

theorem Iter.mono {f : FuncId} {caps : Array Value} {S F S' F' : BS} {N : Nat} {Y Y' : Nat → World → List Value → Prop} {W : World} (h : Iter P f caps S F N Y W) (hs : S.sub S') (hf : F.sub F') (hY : ∀ k A us, Y k A us → Y' k A us) : Iter P f caps S' F' N Y' W :=
  fun l J Jx h1 h2 h3 h4 h0 => h l J Jx (fun k A B hj hk => h1 k A B hj (hk.mono hf)) (fun A B hj hk => h2 A B hj (hk.mono hf)) (fun k A hj => ⟨(h3 k A hj).1, (h3 k A hj).2.mono hs⟩)
    (fun k A us hk hj hy => by
      obtain ⟨fn, tmps, as', bd, hr, hrd⟩ := h4 k A us hk hj (hY k A us hy)
      exact ⟨fn, tmps, as', bd, hr, hrd.mono (fun e B hq => ⟨hq.1.mono hf, hq.2⟩)⟩) h0

theorem rep_mono : ∀ (t : Ty) {w : World} {S F S' F' : BS} {x : t.den} {cs : List Value}, Rep P t w S F x cs → S.sub S' → F.sub F' → Rep P t w S' F' x cs := by
  intro t
  induction t with
  | int k => intro w S F S' F' x cs h hs hf; exact h
  | bool => intro w S F S' F' x cs h hs hf; exact h
  | str => intro w S F S' F' x cs h hs hf; exact h
  | unit => intro w S F S' F' x cs h hs hf; exact h
  | hole => intro w S F S' F' x cs h hs hf; exact h
  | stat f => intro w S F S' F' x cs h hs hf; exact h
  | err => intro w S F S' F' x cs h hs hf; exact h
  | prod a b iha ihb =>
    intro w S F S' F' x cs h hs hf
    obtain ⟨c1, c2, F1, F2, rfl, h1, h2, hd, hF1, hF2⟩ := h
    exact ⟨c1, c2, F1, F2, rfl, iha h1 hs (BS.sub_refl _), ihb h2 hs (BS.sub_refl _), hd, hF1.trans hf, hF2.trans hf⟩
  | slice t ih =>
    intro w S F S' F' x cs h hs hf
    obtain ⟨A, c, rfl, h1, h2, h3⟩ := h
    refine ⟨A, c, rfl, h1, h2, fun hn => ?_⟩
    obtain ⟨g, o, rfl, hS, he⟩ := h3 hn
    refine ⟨g, o, rfl, hs g hS, fun i hi => ?_⟩
    obtain ⟨ci, hr, hc⟩ := he i hi
    exact ⟨ci, ih hr hs (BS.sub_refl _), hc⟩
  | own e t ih =>
    intro w S F S' F' x cs h hs hf
    rcases h with h | ⟨g, cap, cur, rfl, hg, hh, h1, h2, h3, Fs, hFs, hng, hdd, he⟩
    · exact .inl h
    · exact .inr ⟨g, cap, cur, rfl, hf g hg, hh, h1, h2, h3, Fs, fun i => (hFs i).trans hf, hng, hdd, fun i hi => ih (he i hi) hs (BS.sub_refl _)⟩
  | cellp t ih =>
    intro w S F S' F' x cs h hs hf
    obtain ⟨g, o, ci, rfl, hg, hr, hc⟩ := h
    exact ⟨g, o, ci, rfl, hs g hg, ih hr hs (BS.sub_refl _), hc⟩
  | arr n t ih =>
    intro w S F S' F' x cs h hs hf
    obtain ⟨h1, h2, Fs, hFs, hdd, he⟩ := h
    exact ⟨h1, h2, Fs, fun i => (hFs i).trans hf, hdd, fun i hi => ih (he i hi) hs (BS.sub_refl _)⟩
  | fn a r _ _ =>
    intro w S F S' F' x cs h hs hf
    obtain ⟨f, first, caps, rfl, hfn, h⟩ := h
    exact ⟨f, first, caps, rfl, hfn, fun w' hk => h w' (hk.mono hs)⟩
  | iter lv t ih =>
    intro w S F S' F' x cs h hs hf
    cases lv with
    | false => exact h
    | true =>
      obtain ⟨f, caps, rfl, hfn, h⟩ := h
      exact ⟨f, caps, rfl, hfn, fun w' hk hk2 => (h w' (hk.mono hs) (hk2.mono hf)).mono hs hf (fun k A us ⟨h, c, hu, hr⟩ => ⟨h, c, hu, ih hr hs (BS.sub_refl _)⟩)⟩

theorem rep_keep : ∀ (t : Ty) {w w' : World} {S F : BS} {x : t.den} {cs : List Value}, Rep P t w S F x cs → KeepS S w w' → KeepS F w w' → Rep P t w' S F x cs := by
  intro t
  induction t with
  | int k => intro w w' S F x cs h hs hf; exact h
  | bool => intro w w' S F x cs h hs hf; exact h
  | str => intro w w' S F x cs h hs hf; exact h
  | unit => intro w w' S F x cs h hs hf; exact h
  | hole => intro w w' S F x cs h hs hf; exact h
  | stat f => intro w w' S F x cs h hs hf; exact h
  | err => intro w w' S F x cs h hs hf; exact h
  | prod a b iha ihb =>
    intro w w' S F x cs h hs hf
    obtain ⟨c1, c2, F1, F2, rfl, h1, h2, hd, hF1, hF2⟩ := h
    exact ⟨c1, c2, F1, F2, rfl, iha h1 hs (hf.mono hF1), ihb h2 hs (hf.mono hF2), hd, hF1, hF2⟩
  | slice t ih =>
    intro w w' S F x cs h hs hf
    obtain ⟨A, c, rfl, h1, h2, h3⟩ := h
    refine ⟨A, c, rfl, h1, h2, fun hn => ?_⟩
    obtain ⟨g, o, rfl, hS, he⟩ := h3 hn
    refine ⟨g, o, rfl, hS, fun i hi => ?_⟩
    obtain ⟨ci, hr, hc⟩ := he i hi
    exact ⟨ci, ih hr hs (fun _ h => h.elim), hc.keep (hs g hS)⟩
  | own e t ih =>
    intro w w' S F x cs h hs hf
    rcases h with h | ⟨g, cap, cur, rfl, hg, hh, h1, h2, h3, Fs, hFs, hng, hdd, he⟩
    · exact .inl h
    · exact .inr ⟨g, cap, cur, rfl, hg, (hf g hg).trans hh, h1, h2, h3, Fs, hFs, hng, hdd, fun i hi => ih (he i hi) hs (hf.mono (hFs i))⟩
  | cellp t ih =>
    intro w w' S F x cs h hs hf
    obtain ⟨g, o, ci, rfl, hg, hr, hc⟩ := h
    exact ⟨g, o, ci, rfl, hg, ih hr hs (fun _ h => h.elim), hc.keep (hs g hg)⟩
  | arr n t ih =>
    intro w w' S F x cs h hs hf
    obtain ⟨h1, h2, Fs, hFs, hdd, he⟩ := h
    exact ⟨h1, h2, Fs, hFs, hdd, fun i hi => ih (he i hi) hs (hf.mono (hFs i))⟩
  | fn a r _ _ =>
    intro w w' S F x cs h hs hf
    obtain ⟨f, first, caps, rfl, hfn, h⟩ := h
    exact ⟨f, first, caps, rfl, hfn, fun w'' hk => h w'' (hs.trans hk)⟩
  | iter lv t _ =>
    intro w w' S F x cs h hs hf
    cases lv with
    | false => exact h
    | true =>
      obtain ⟨f, caps, rfl, hfn, h⟩ := h
      exact ⟨f, caps, rfl, hfn, fun w'' hk hk2 => h w'' (hs.trans hk) (hf.trans hk2)⟩

theorem rep_len : ∀ (t : Ty) {w : World} {S F : BS} {x : t.den} {cs : List Value}, Rep P t w S F x cs → cs.length = t.sz := by
  intro t
  induction t with
  | prod a b iha ihb =>
    intro w S F x cs h
    obtain ⟨c1, c2, F1, F2, rfl, h1, h2, _⟩ := h
    simp [Ty.sz, iha h1, ihb h2]
  | arr n t ih => intro w S F x cs h; exact h.2.1
  | int k => intro w S F x cs h; rw [h.1]; rfl
  | bool => intro w S F x cs h; rw [show cs = _ from h]; rfl
  | str => intro w S F x cs h; rw [h.1]; rfl
  | unit => intro w S F x cs h; rw [show cs = _ from h]; rfl
  | stat f => intro w S F x cs h; rw [show cs = _ from h]; rfl
  | hole => intro w S F x cs h; obtain ⟨u, rfl, _⟩ := h; rfl
  | err => intro w S F x cs h; rcases h with ⟨_, rfl⟩ | ⟨_, _, _, rfl⟩ <;> rfl
  | slice t ih => intro w S F x cs h; obtain ⟨A, c, rfl, _⟩ := h; rfl
  | own e t ih => intro w S F x cs h; rcases h with ⟨rfl, _⟩ | ⟨g, cap, cur, rfl, _⟩ <;> rfl
  | cellp t ih => intro w S F x cs h; obtain ⟨g, o, ci, rfl, _⟩ := h; rfl
  | fn a r _ _ => intro w S F x cs h; obtain ⟨f, _, _, rfl, _⟩ := h; rfl
  | iter lv t _ =>
    intro w S F x cs h
    cases lv with
    | false => obtain ⟨u, rfl, _⟩ := h; rfl
    | true => obtain ⟨f, _, rfl, _⟩ := h; rfl

theorem mem_rows {cs : List Value} {n sz : Nat} (hl : cs.length = n * sz) {u : Value} (hu : u ∈ cs) : ∃ i, i < n ∧ u ∈ (cs.drop (i * sz)).take sz := by
  obtain ⟨k, hk, rfl⟩ := List.getElem_of_mem hu
  have hs : 0 < sz := by rcases Nat.eq_zero_or_pos sz with h | h; (subst h; omega); exact h
  have hd : k / sz * sz + k % sz = k := by rw [Nat.mul_comm]; exact Nat.div_add_mod k sz
  have hm := Nat.mod_lt k hs
  refine ⟨k / sz, Nat.div_lt_of_lt_mul (by rw [Nat.mul_comm]; omega), ?_⟩
  refine List.mem_of_getElem? (i := k % sz) ?_
  rw [List.getElem?_take_of_lt hm, List.getElem?_drop, hd]
  exact List.getElem?_eq_getElem hk

theorem rep_one : ∀ (t : Ty) {w : World} {S F : BS} {x : t.den} {cs : List Value}, Rep P t w S F x cs → ∀ u ∈ cs, u.oneCell' = true := by
  intro t
  induction t with
  | prod a b iha ihb =>
    intro w S F x cs h u hu
    obtain ⟨c1, c2, F1, F2, rfl, h1, h2, _⟩ := h
    rcases List.mem_append.1 hu with hu | hu
    · exact iha h1 u hu
    · exact ihb h2 u hu
  | arr n t ih =>
    intro w S F x cs h u hu
    obtain ⟨h1, h2, Fs, _, _, he⟩ := h
    obtain ⟨i, hi, hm⟩ := mem_rows h2 hu
    exact ih (he i (by rw [h1]; exact hi)) u hm
  | int k => intro w S F x cs h u hu; rw [h.1] at hu; rw [List.mem_singleton.1 hu]; rfl
  | bool => intro w S F x cs h u hu; rw [show cs = _ from h] at hu; rw [List.mem_singleton.1 hu]; rfl
  | stat f => intro w S F x cs h u hu; rw [show cs = _ from h] at hu; rw [List.mem_singleton.1 hu]; rfl
  | str => intro w S F x cs h u hu; rw [h.1] at hu; rw [List.mem_singleton.1 hu]; rfl
  | unit => intro w S F x cs h u hu; rw [show cs = _ from h] at hu; cases hu
  | hole => intro w S F x cs h u hu; obtain ⟨v, rfl, hv⟩ := h; rw [List.mem_singleton.1 hu]; exact hv
  | err => intro w S F x cs h u hu; rcases h with ⟨_, rfl⟩ | ⟨_, _, _, rfl⟩ <;> (rw [List.mem_singleton.1 hu]; rfl)
  | slice t ih => intro w S F x cs h u hu; obtain ⟨A, c, rfl, _⟩ := h; rw [List.mem_singleton.1 hu]; rfl
  | own e t ih => intro w S F x cs h u hu; rcases h with ⟨rfl, _⟩ | ⟨g, cap, cur, rfl, _⟩ <;> (rw [List.mem_singleton.1 hu]; rfl)
  | cellp t ih => intro w S F x cs h u hu; obtain ⟨g, o, ci, rfl, _⟩ := h; rw [List.mem_singleton.1 hu]; rfl
  | fn a r _ _ => intro w S F x cs h u hu; obtain ⟨f, _, _, rfl, _⟩ := h; rw [List.mem_singleton.1 hu]; rfl
  | iter lv t _ =>
    intro w S F x cs h u hu
    cases lv with
    | false => obtain ⟨v, rfl, hv⟩ := h; rw [List.mem_singleton.1 hu]; exact hv
    | true => obtain ⟨f, _, rfl, _⟩ := h; rw [List.mem_singleton.1 hu]; rfl

theorem toV_cells {t : Ty} {w : World} {S F : BS} {x : t.den} {cs : List Value} (h : Rep P t w S F x cs) : (t.toV cs).cells = cs.toArray := by
  have hl := rep_len t h
  have h1 := rep_one t h
  unfold Ty.toV
  cases ha : t.isAg with
  | true => rfl
  | false =>
    have hs : t.sz = 1 := by cases t <;> simp_all [Ty.isAg, Ty.sz]
    rw [hs] at hl
    obtain ⟨u, rfl⟩ := List.length_eq_one_iff.1 hl
    have hu := h1 u (List.mem_singleton.2 rfl)
    simp only [List.headD_cons]
    cases u <;> first | rfl | simp [Value.oneCell'] at hu
end Go.Tv
