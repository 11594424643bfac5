/-
  Function values: what they are. Conditions: none; plain definitions and lemmas.
-/
import Derived.Test.YtgdchicpmjmhaaaTvP
namespace Go.Tv
set_option linter.unusedVariables false
set_option linter.unusedSimpArgs false
variable {P : Program}

/-- what a function value is, by what it has captured -/
structure Clo where
  ty : Ty
  of : List V → Option (Prop × ty.den)
def Clo.Ok (P : Program) (f : FuncId) (c : Clo) : Prop := c.ty.isAg = false ∧ ∀ vs pre x, c.of vs = some (pre, x) → pre → ∀ (w : World) (S : BS) (us : List Value), (∀ g, S g → g < w.heap.size) → us.length = vs.length →
  (∀ i (h : i < vs.length), ∃ cs, us.getD i undef = vs[i].t.toV cs ∧ Rep P vs[i].t w S BS.bot vs[i].x cs) → Rep P c.ty w S BS.bot x [.func (.func f) #[] us.toArray]

/-- the functions that are handed on as they stand -/
abbrev Clos := List (FuncId × Clo)
def Clos.Ok (P : Program) (L : Clos) : Prop := ∀ q ∈ L, q.2.Ok P q.1
def lookC (f : FuncId) : Clos → Option Clo
  | [] => none
  | (g, c) :: r => if f = g then some c else lookC f r
theorem lookC_ok {f : FuncId} {c : Clo} : ∀ {L : Clos}, Clos.Ok P L → lookC f L = some c → c.Ok P f
  | [], hL, h => by cases h
  | (g, c') :: r, hL, h => by
    simp only [lookC] at h
    split at h
    · rename_i e; subst e; simp only [Option.some.injEq] at h; subst h; exact hL _ List.mem_cons_self
    · exact lookC_ok (L := r) (fun q hq => hL q (List.mem_cons_of_mem _ hq)) h

/-- a function that is written out, as a datum; with what it asks -/
def upV (L : Clos) (v : V) : Prop × V := match v with
  | ⟨.stat f, x⟩ => match lookC f L with
    | some c => match c.of [] with | some (pre, y) => (pre, ⟨c.ty, y⟩) | none => (True, ⟨.stat f, x⟩)
    | none => (True, ⟨.stat f, x⟩)
  | v => (True, v)
theorem upV_rep {L : Clos} (hL : Clos.Ok P L) {v : V} {w : World} {S F : BS} {cs : List Value} (hpre : (upV L v).1) (hS : ∀ g, S g → g < w.heap.size) (hr : Rep P v.t w S F v.x cs) : v.t.toV cs = (upV L v).2.t.toV cs ∧ Rep P (upV L v).2.t w S F (upV L v).2.x cs := by
  obtain ⟨t, x⟩ := v
  cases t with
  | stat f =>
    unfold upV at hpre ⊢
    simp only at hpre ⊢
    cases hf : lookC f L with
    | none => exact ⟨rfl, hr⟩
    | some c =>
      rw [hf] at hpre
      simp only at hpre ⊢
      have hc := lookC_ok hL hf
      cases hm : c.of [] with
      | none => exact ⟨rfl, hr⟩
      | some q =>
        obtain ⟨pre, y⟩ := q
        rw [hm] at hpre
        have hcs : cs = [.func (.func f) #[] #[]] := hr
        subst hcs
        refine ⟨?_, rep_mono _ (hc.2 [] pre y hm hpre w S [] hS rfl (fun i h => absurd h (Nat.not_lt_zero _))) (BS.sub_refl _) (BS.bot_sub _)⟩
        show _ = c.ty.toV _
        unfold Ty.toV
        rw [hc.1]
  | _ => exact ⟨rfl, hr⟩
def upAll (L : Clos) (vs : List V) : Prop × List V := (match vs with
  | [] => (True, [])
  | v :: vs => ((upV L v).1 ∧ (upAll L vs).1, (upV L v).2 :: (upAll L vs).2))
theorem upAll_len (L : Clos) : ∀ vs, (upAll L vs).2.length = vs.length
  | [] => rfl
  | v :: vs => by simp [upAll, upAll_len L vs]
theorem upAll_get (L : Clos) : ∀ (vs : List V) (i : Nat) (h : i < vs.length) (h' : i < (upAll L vs).2.length), (upAll L vs).2[i] = (upV L vs[i]).2 ∧ ((upAll L vs).1 → (upV L vs[i]).1)
  | [], i, h, h' => absurd h (Nat.not_lt_zero _)
  | v :: vs, 0, h, h' => ⟨rfl, fun hp => hp.1⟩
  | v :: vs, i + 1, h, h' => ⟨(upAll_get L vs i (by simpa using h) (by simpa [upAll] using h')).1, fun hp => (upAll_get L vs i (by simpa using h) (by simpa [upAll] using h')).2 hp.2⟩


/-- a contract, its arguments' written out functions read as data -/
def Con.up (c : Con) (L : Clos) : Con := ⟨c.ms, c.bor, fun vs => match c.fn (upAll L vs).2 with | some (pre, outs, res) => some ((upAll L vs).1 ∧ pre, outs, res) | none => none⟩
theorem Con.up_ok {c : Con} {L : Clos} {f : FuncId} (hc : c.Ok P f) (hL : Clos.Ok P L) : (c.up L).Ok P f := by
  refine ⟨hc.1, fun args pre outs res hfn hpre => ?_⟩
  simp only [Con.up] at hfn ⊢
  split at hfn
  · rename_i p o r hq
    simp only [Option.some.injEq, Prod.mk.injEq] at hfn
    obtain ⟨rfl, rfl, rfl⟩ := hfn
    have hg := hc.2 _ _ _ _ hq hpre.2
    intro w S Fs us hargs
    refine hg w S Fs us ⟨hargs.len.trans (upAll_len L args).symm, hargs.mlen.trans (upAll_len L args).symm, fun i hi => ?_, hargs.dis, hargs.sdis, hargs.fb, hargs.sb⟩
    have hi' : i < args.length := by rw [← upAll_len L args]; exact hi
    obtain ⟨e1, e2⟩ := upAll_get L args i hi' hi
    have hr := hargs.rep i hi'
    rw [e1]
    have key : ∀ m : Mode, SRep P w S (Fs i) emp #[] (argSlot m args[i]) (us.getD i undef) → SRep P w S (Fs i) emp #[] (argSlot m (upV L args[i]).2) (us.getD i undef) := by
      intro m hr
      cases m with
      | p =>
        obtain ⟨g, cs, e, F', q1, q2, q3, q4, q5, q6⟩ := hr
        exact ⟨g, cs, e, F', q1, q2, q3, (upV_rep hL (e2 hpre.1) hargs.sb q4).2, q5, q6⟩
      | _ =>
        obtain ⟨cs, q1, q2⟩ := hr
        obtain ⟨r1, r2⟩ := upV_rep hL (e2 hpre.1) hargs.sb q2
        exact ⟨cs, q1.trans r1, r2⟩
    exact key _ hr
  · cases hfn
/-- nothing to read: as it is -/
def Con.upE (c : Con) : Clos → Con
  | [] => c
  | L => c.up L
theorem Con.upE_ok {c : Con} {L : Clos} {f : FuncId} (hc : c.Ok P f) (hL : Clos.Ok P L) : (c.upE L).Ok P f := by
  cases L with
  | nil => exact hc
  | cons q L => exact Con.up_ok hc hL
end Go.Tv
