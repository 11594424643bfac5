/-
  Contracts made of plain functions. Conditions: none; plain definitions and lemmas.
-/
import Derived.Test.YtgdchicpmjmhaaaTvEw
namespace Go.Tv
variable {P : Program}
@[go_sem] theorem mode_vt : (Mode.v == Mode.t) = false := rfl
@[go_sem] theorem mode_tv : (Mode.t == Mode.v) = false := rfl
@[go_sem] theorem mode_vv : (Mode.v == Mode.v) = true := rfl
@[go_sem] theorem mode_tt : (Mode.t == Mode.t) = true := rfl
attribute [go_sem] Bool.or_true Bool.true_or Bool.or_false Bool.false_or Bool.or_self

@[go_sem] def con1 (ms : List Mode) (bor : Bool) (A : Ty) (pre : A.den → Prop) (out res : A.den → List V) : Con :=
  ⟨ms, bor, fun l => match l with | [a] => (coe a.t A a.x).map fun a => (pre a, out a, res a) | _ => none⟩
@[go_sem] def con2 (ms : List Mode) (bor : Bool) (A B : Ty) (pre : A.den → B.den → Prop) (out res : A.den → B.den → List V) : Con :=
  ⟨ms, bor, fun l => match l with | [a, b] => (coe a.t A a.x).bind fun a => (coe b.t B b.x).map fun b => (pre a b, out a b, res a b) | _ => none⟩
@[go_sem] def con3 (ms : List Mode) (bor : Bool) (A B C : Ty) (pre : A.den → B.den → C.den → Prop) (out res : A.den → B.den → C.den → List V) : Con :=
  ⟨ms, bor, fun l => match l with | [a, b, c] => (coe a.t A a.x).bind fun a => (coe b.t B b.x).bind fun b => (coe c.t C c.x).map fun c => (pre a b c, out a b c, res a b c) | _ => none⟩
@[go_sem] def con4 (ms : List Mode) (bor : Bool) (A B C D : Ty) (pre : A.den → B.den → C.den → D.den → Prop) (out res : A.den → B.den → C.den → D.den → List V) : Con :=
  ⟨ms, bor, fun l => match l with | [a, b, c, d] => (coe a.t A a.x).bind fun a => (coe b.t B b.x).bind fun b => (coe c.t C c.x).bind fun c => (coe d.t D d.x).map fun d => (pre a b c d, out a b c d, res a b c d) | _ => none⟩

theorem con1_ok {f : FuncId} {ms : List Mode} {bor : Bool} {A : Ty} {pre : A.den → Prop} {out res : A.den → List V} (hB : Bodied P f) (h : ∀ a, pre a → Good P f ms [⟨A, a⟩] (out a) (res a)) : (con1 ms bor A pre out res).Ok P f := by
  refine ⟨hB, fun args p o r hf hp => ?_⟩
  unfold con1 at hf
  simp only at hf
  split at hf
  · rename_i a
    simp only [Option.map_eq_some_iff, Prod.mk.injEq] at hf
    obtain ⟨x, hx, rfl, rfl, rfl⟩ := hf
    rw [coe_v hx]
    exact h x hp
  · cases hf
theorem con2_ok {f : FuncId} {ms : List Mode} {bor : Bool} {A B : Ty} {pre : A.den → B.den → Prop} {out res : A.den → B.den → List V} (hB : Bodied P f) (h : ∀ a b, pre a b → Good P f ms [⟨A, a⟩, ⟨B, b⟩] (out a b) (res a b)) : (con2 ms bor A B pre out res).Ok P f := by
  refine ⟨hB, fun args p o r hf hp => ?_⟩
  unfold con2 at hf
  simp only at hf
  split at hf
  · rename_i a b
    simp only [Option.bind_eq_some_iff, Option.map_eq_some_iff, Prod.mk.injEq] at hf
    obtain ⟨x, hx, y, hy, rfl, rfl, rfl⟩ := hf
    rw [coe_v hx, coe_v hy]
    exact h x y hp
  · cases hf
theorem con3_ok {f : FuncId} {ms : List Mode} {bor : Bool} {A B C : Ty} {pre : A.den → B.den → C.den → Prop} {out res : A.den → B.den → C.den → List V} (hB : Bodied P f) (h : ∀ a b c, pre a b c → Good P f ms [⟨A, a⟩, ⟨B, b⟩, ⟨C, c⟩] (out a b c) (res a b c)) : (con3 ms bor A B C pre out res).Ok P f := by
  refine ⟨hB, fun args p o r hf hp => ?_⟩
  unfold con3 at hf
  simp only at hf
  split at hf
  · rename_i a b c
    simp only [Option.bind_eq_some_iff, Option.map_eq_some_iff, Prod.mk.injEq] at hf
    obtain ⟨x, hx, y, hy, z, hz, rfl, rfl, rfl⟩ := hf
    rw [coe_v hx, coe_v hy, coe_v hz]
    exact h x y z hp
  · cases hf
theorem con4_ok {f : FuncId} {ms : List Mode} {bor : Bool} {A B C D : Ty} {pre : A.den → B.den → C.den → D.den → Prop} {out res : A.den → B.den → C.den → D.den → List V} (hB : Bodied P f) (h : ∀ a b c d, pre a b c d → Good P f ms [⟨A, a⟩, ⟨B, b⟩, ⟨C, c⟩, ⟨D, d⟩] (out a b c d) (res a b c d)) : (con4 ms bor A B C D pre out res).Ok P f := by
  refine ⟨hB, fun args p o r hf hp => ?_⟩
  unfold con4 at hf
  simp only at hf
  split at hf
  · rename_i a b c d
    simp only [Option.bind_eq_some_iff, Option.map_eq_some_iff, Prod.mk.injEq] at hf
    obtain ⟨x, hx, y, hy, z, hz, u, hu, rfl, rfl, rfl⟩ := hf
    rw [coe_v hx, coe_v hy, coe_v hz, coe_v hu]
    exact h x y z u hp
  · cases hf
theorem env_nil {T : TypeId → Option Ty} : Env.Ok P ⟨T, [], []⟩ := ⟨fun _ h => (List.not_mem_nil h).elim, fun _ h => (List.not_mem_nil h).elim⟩
theorem env_cons {T : TypeId → Option Ty} {f : FuncId} {c : Con} {l : List (FuncId × Con)} {L : Clos} (h : c.Ok P f) (hl : Env.Ok P ⟨T, l, L⟩) : Env.Ok P ⟨T, (f, c) :: l, L⟩ := ⟨fun q hq => by
  rcases List.mem_cons.1 hq with rfl | hq
  · exact h
  · exact hl.1 q hq, hl.2⟩
theorem env_clo {T : TypeId → Option Ty} {f : FuncId} {c : Clo} {l : List (FuncId × Con)} {L : Clos} (h : c.Ok P f) (hl : Env.Ok P ⟨T, l, L⟩) : Env.Ok P ⟨T, l, (f, c) :: L⟩ := ⟨hl.1, fun q hq => by
  rcases List.mem_cons.1 hq with rfl | hq
  · exact h
  · exact hl.2 q hq⟩
end Go.Tv
