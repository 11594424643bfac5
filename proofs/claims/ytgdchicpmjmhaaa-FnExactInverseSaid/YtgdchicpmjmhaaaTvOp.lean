/-
  An argument that reads as data, as a datum of this framework. Conditions: none; plain definitions and lemmas.
-/
import Derived.Test.YtgdchicpmjmhaaaTvCn
import Derived.ChangeArms
import Derived.Carry
import Derived.ProofKit
namespace Go.Tv
open Go.WideShapes
set_option linter.unusedVariables false
set_option linter.unusedSimpArgs false
variable {P : Program}

/-- the program's type t is laid out as τ says; or the fields from offset o on are -/
def TyOk (P : Program) : Ty → (TypeId ⊕ (Nat × List Field)) → Prop
  | .int k, .inl t => P.underlying t = some (.int k)
  | .bool, .inl t => P.underlying t = some .bool
  | .str, .inl t => P.underlying t = some .string
  | .slice τ, .inl t => ∃ e, P.underlying t = some (.slice e) ∧ P.cellsOf e = τ.sz ∧ 0 < τ.sz ∧ TyOk P τ (.inl e)
  | .prod a b, .inl t => ∃ fs : Array Field, P.underlying t = some (.struct fs) ∧ P.cellsOf t = a.sz + b.sz ∧ ∃ f r, fs.toList = f :: r ∧ f.offset = 0 ∧ P.cellsOf f.type = a.sz ∧ TyOk P a (.inl f.type) ∧ TyOk P b (.inr (a.sz, r))
  | .prod a b, .inr (o, l) => ∃ f r, l = f :: r ∧ f.offset = o ∧ P.cellsOf f.type = a.sz ∧ TyOk P a (.inl f.type) ∧ TyOk P b (.inr (o + a.sz, r))
  | .unit, .inr (_, l) => l = []
  | _, _ => False

/-- .. asked by reckoning -/
def tyOkB (P : Program) : Ty → (TypeId ⊕ (Nat × List Field)) → Bool
  | .int k, .inl t => match P.underlying t with | some (.int k') => decide (k' = k) | _ => false
  | .bool, .inl t => match P.underlying t with | some .bool => true | _ => false
  | .str, .inl t => match P.underlying t with | some .string => true | _ => false
  | .slice τ, .inl t => match P.underlying t with | some (.slice e) => decide (P.cellsOf e = τ.sz) && decide (0 < τ.sz) && tyOkB P τ (.inl e) | _ => false
  | .prod a b, .inl t => match P.underlying t with
    | some (.struct fs) => match fs.toList with
      | f :: r => decide (P.cellsOf t = a.sz + b.sz) && decide (f.offset = 0) && decide (P.cellsOf f.type = a.sz) && tyOkB P a (.inl f.type) && tyOkB P b (.inr (a.sz, r))
      | [] => false
    | _ => false
  | .prod a b, .inr (o, l) => match l with
    | f :: r => decide (f.offset = o) && decide (P.cellsOf f.type = a.sz) && tyOkB P a (.inl f.type) && tyOkB P b (.inr (o + a.sz, r))
    | [] => false
  | .unit, .inr (_, l) => l.isEmpty
  | _, _ => false
theorem tyOk_of_B : ∀ (τ : Ty) (z : TypeId ⊕ (Nat × List Field)), tyOkB P τ z = true → TyOk P τ z := by
  intro τ
  induction τ with
  | int k =>
    intro z h
    cases z with
    | inl t =>
      simp only [tyOkB] at h
      split at h
      · rename_i hu; simp only [decide_eq_true_eq] at h; subst h; exact hu
      · cases h
    | inr q => cases h
  | bool =>
    intro z h
    cases z with
    | inl t =>
      simp only [tyOkB] at h
      split at h
      · assumption
      · cases h
    | inr q => cases h
  | str =>
    intro z h
    cases z with
    | inl t =>
      simp only [tyOkB] at h
      split at h
      · assumption
      · cases h
    | inr q => cases h
  | unit =>
    intro z h
    cases z with
    | inl t => cases h
    | inr q => exact List.isEmpty_iff.1 h
  | slice τ ih =>
    intro z h
    cases z with
    | inl t =>
      simp only [tyOkB] at h
      split at h
      · rename_i e hu
        simp only [Bool.and_eq_true, decide_eq_true_eq] at h
        exact ⟨e, hu, h.1.1, h.1.2, ih _ h.2⟩
      · cases h
    | inr q => cases h
  | prod a b iha ihb =>
    intro z h
    cases z with
    | inl t =>
      simp only [tyOkB] at h
      split at h
      · rename_i fs hu
        split at h
        · rename_i f r hfs
          simp only [Bool.and_eq_true, decide_eq_true_eq] at h
          exact ⟨fs, hu, h.1.1.1.1, f, r, hfs, h.1.1.1.2, h.1.1.2, iha _ h.1.2, ihb _ h.2⟩
        · cases h
      · cases h
    | inr q =>
      obtain ⟨o, l⟩ := q
      cases l with
      | nil => cases h
      | cons f r =>
        simp only [tyOkB, Bool.and_eq_true, decide_eq_true_eq] at h
        exact ⟨f, r, rfl, h.1.1.1, h.1.1.2, iha _ h.1.2, ihb _ h.2⟩
  | _ => intro z h; cases z <;> cases h

/-- all that lies -/
def allOf (w : World) : BS := fun g => g < w.heap.size

section
variable {H : Type} {enc : TypeId × Value → H} {w : World} {sp : Nat → Bool} {held : Bool}

theorem cells_at {b : Nat} {a : Addr} {n : Nat} {cl : List Value} (h : w.cells? b a n = some cl) : cl.length = n ∧ ∀ j v, cl[j]? = some v → w.cell? (a.add j) = some v := by
  unfold World.cells? at h
  split at h
  · have hl := mapM_some_length h
    rw [List.length_range] at hl
    refine ⟨hl, fun j v hj => ?_⟩
    have hlt : j < n := by rw [← hl]; exact (List.getElem?_eq_some_iff.1 hj).1
    have := mapM_some_get h j j (by simp [hlt])
    rw [this]; exact hj
  · cases h
theorem cell_lt {a : Addr} {v : Value} (h : w.cell? a = some v) : a.spot = none ∧ a.block < w.heap.size := by
  unfold World.cell? at h
  split at h
  · rename_i c e f hc
    split at h
    · cases h
    · rename_i hs
      refine ⟨by simpa using hs, (Array.getElem?_eq_some_iff.1 hc).1⟩
  · cases h

theorem open_rep : ∀ (τ : Ty), (∀ t, TyOk P τ (.inl t) → ∀ fuel cs x, DataW.trod enc P w 0 sp held fuel t cs = some x → ∃ y, Rep P τ w (allOf w) BS.bot y cs) ∧
    (∀ o l, TyOk P τ (.inr (o, l)) → ∀ (m : Nat) (cs : List Value), (∀ f ∈ l, ∃ x, DataW.trod enc P w 0 sp held m f.type ((cs.drop f.offset).take (P.cellsOf f.type)) = some x) → cs.length = o + τ.sz → ∃ y, Rep P τ w (allOf w) BS.bot y (cs.drop o)) := by
  intro τ
  induction τ with
  | int k =>
    refine ⟨fun t ht fuel cs x h => ?_, fun o l h => h.elim⟩
    obtain ⟨n, rfl, _, hwf⟩ := DataW.trod_int (show P.underlying t = some (.int k) from ht) h
    refine ⟨(n : Int), rfl, ?_⟩
    simp [Lit.wf] at hwf
    cases k <;> simp [IntKind.wrap, IntKind.min, IntKind.max, IntKind.signed, IntKind.bits] at hwf ⊢ <;> omega
  | bool =>
    refine ⟨fun t ht fuel cs x h => ?_, fun o l h => h.elim⟩
    obtain ⟨b, rfl, _⟩ := DataW.trod_bool (show P.underlying t = some .bool from ht) h
    exact ⟨(b : Bool), rfl⟩
  | str =>
    refine ⟨fun t ht fuel cs x h => ?_, fun o l h => h.elim⟩
    obtain ⟨s, rfl, _, hl⟩ := DataW.trod_string (show P.underlying t = some .string from ht) h
    refine ⟨(s.data.toList : List UInt8), by simp, ?_⟩
    have : s.data.toList.length = s.size := by simp
    rw [this]
    exact hl
  | unit =>
    refine ⟨fun t ht => ht.elim, fun o l hl m cs hf hc => ⟨(), ?_⟩⟩
    show cs.drop o = []
    exact List.drop_of_length_le (by simp [Ty.sz] at hc; omega)
  | slice τ ih =>
    refine ⟨fun t ht fuel cs x h => ?_, fun o l h => h.elim⟩
    obtain ⟨e, hu, hsz, hpos, hτ⟩ := ht
    rcases DataW.trod_slice hu h with ⟨rfl, rfl⟩ | ⟨a, len, cap, elems, rest, m, rfl, rfl, rfl, hb, hl, hm, hel, hget, _, _⟩
    · exact ⟨[], none, 0, rfl, Nat.le_refl _, Nat.zero_le _, fun hn => absurd rfl hn⟩
    · rcases Nat.eq_zero_or_pos len with rfl | hlen
      · exact ⟨[], some a, cap, rfl, Nat.zero_le _, hm, fun hn => absurd rfl hn⟩
      -- the address is a plain one
      have hel0 : ∀ i, i < len → ∃ cl x, w.cells? 0 (a.add (i * τ.sz)) τ.sz = some cl ∧ DataW.trod enc P w 0 sp held m e cl = some x := fun i hi => by
        have hg := hget i hi
        have he : elems[i]? = some elems[i] := List.getElem?_eq_getElem (by omega)
        rw [he, Option.bind_eq_some_iff] at hg
        obtain ⟨cl, hc, ht⟩ := hg
        rw [hsz] at hc
        exact ⟨cl, _, hc, ht⟩
      obtain ⟨c0, x0, hc0, _⟩ := hel0 0 hlen
      obtain ⟨hl0, hcell0⟩ := cells_at hc0
      have hv0 : c0[0]? = some c0[0] := List.getElem?_eq_getElem (by omega)
      have h00 := hcell0 0 _ hv0
      have e0 : (a.add (0 * τ.sz)).add 0 = a := by simp [Addr.add]
      rw [e0] at h00
      obtain ⟨hs, hlt⟩ := cell_lt h00
      obtain ⟨blk, off, spot⟩ := a
      simp only at hs hlt
      subst hs
      have key : ∀ i, i < len → ∃ (y : τ.den) (ci : List Value), Rep P τ w (allOf w) BS.bot y ci ∧ CellsAt w blk (off + i * τ.sz) ci := fun i hi => by
        obtain ⟨cl, x, hc, ht⟩ := hel0 i hi
        obtain ⟨y, hy⟩ := ih.1 e hτ m cl _ ht
        refine ⟨y, cl, hy, fun j v hj => ?_⟩
        have := (cells_at hc).2 j v hj
        rw [add_plain, add_plain] at this
        exact this
      let ys : List τ.den := List.ofFn (fun i : Fin len => Classical.choose (key i.1 i.2))
      have hys : ys.length = len := by simp [ys]
      refine ⟨ys, some ⟨blk, off, none⟩, cap, by rw [hys], by omega, hm, fun hne => ⟨blk, off, rfl, hlt, fun i hi => ?_⟩⟩
      have hi' : i < len := by rw [← hys]; exact hi
      obtain ⟨ci, hr, hc⟩ := Classical.choose_spec (key i hi')
      refine ⟨ci, ?_, hc⟩
      have : ys[i] = Classical.choose (key i hi') := by simp [ys]
      rw [this]; exact hr
  | prod a b iha ihb =>
    constructor
    · rintro t ⟨fs, hu, hsz, f, r, hfs, hfo, hfc, ha, hb⟩ fuel cs x h
      obtain ⟨xs, m, rfl, rfl, hl, hxs, hget⟩ := DataW.trod_struct hu h
      have hall : ∀ g ∈ fs.toList, ∃ x, DataW.trod enc P w 0 sp held m g.type ((cs.drop g.offset).take (P.cellsOf g.type)) = some x := fun g hg => by
        obtain ⟨i, hi, rfl⟩ := List.getElem_of_mem hg
        have hi' : i < fs.size := by simpa using hi
        have := hget i fs[i] (by simp [hi'])
        rw [List.getElem?_eq_getElem (by omega)] at this
        exact ⟨_, by simpa using this⟩
      rw [hfs] at hall
      obtain ⟨x1, h1⟩ := hall f List.mem_cons_self
      rw [hfo, hfc, List.drop_zero] at h1
      obtain ⟨y1, r1⟩ := iha.1 f.type ha m _ _ h1
      obtain ⟨y2, r2⟩ := ihb.2 a.sz r hb m cs (fun g hg => hall g (List.mem_cons_of_mem _ hg)) (by rw [hl, hsz])
      exact ⟨(y1, y2), cs.take a.sz, cs.drop a.sz, BS.bot, BS.bot, (List.take_append_drop _ _).symm, r1, r2, BS.dis_bot _, BS.sub_refl _, BS.sub_refl _⟩
    · rintro o l ⟨f, r, rfl, hfo, hfc, ha, hb⟩ m cs hall hl
      obtain ⟨x1, h1⟩ := hall f List.mem_cons_self
      rw [hfo, hfc] at h1
      obtain ⟨y1, r1⟩ := iha.1 f.type ha m _ _ h1
      obtain ⟨y2, r2⟩ := ihb.2 (o + a.sz) r hb m cs (fun g hg => hall g (List.mem_cons_of_mem _ hg)) (by rw [hl]; simp only [Ty.sz]; omega)
      refine ⟨(y1, y2), (cs.drop o).take a.sz, cs.drop (o + a.sz), BS.bot, BS.bot, ?_, r1, r2, BS.dis_bot _, BS.sub_refl _, BS.sub_refl _⟩
      rw [← List.drop_drop, List.take_append_drop]
  | _ => exact ⟨fun t ht => ht.elim, fun o l ht => ht.elim⟩

/-- an argument: its datum, as the framework has it -/
theorem open_arg {τ : Ty} {t : TypeId} (hτ : tyOkB P τ (.inl t) = true) {v : Value} {d : DataW H} {p : List MemPlace} (h : DataW.Trod enc P w 0 sp held t v d p) (hv : v = τ.toV v.cells.toList) :
    ∃ y : τ.den, ∃ cs, v = τ.toV cs ∧ Rep P τ w (allOf w) BS.bot y cs := by
  obtain ⟨fuel, hf⟩ := h
  obtain ⟨y, hy⟩ := (open_rep τ).1 t (tyOk_of_B _ _ hτ) fuel _ _ hf
  exact ⟨y, _, hv, hy⟩
end
end Go.Tv
