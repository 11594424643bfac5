/-
  Contracts of functions, and calls by contract. Conditions: none; plain definitions and lemmas.
-/
import Derived.Test.YtgdchicpmjmhaaaTvO
namespace Go.Tv
set_option linter.unusedVariables false
set_option linter.unusedSimpArgs false
variable {P : Program}

/-! ### contracts -/
/-- How an argument is handed on: to be read; for good; a row that is changed in place; a pointer to a datum that is changed in place. -/
inductive Mode where
  | v
  | t
  | io
  | p
  deriving DecidableEq

def argSlot : Mode → V → Slot
  | .p, a => .box a
  | _, a => .val a
def resSlot : List V → Slot
  | [v] => .val v
  | vs => .tup (vs.map some)
def emp : Rd := fun _ => (.undef, 0, 0)
theorem argSlot_solo (m : Mode) (a : V) : (argSlot m a).solo = true := by cases m <;> rfl
theorem resSlot_solo (l : List V) : (resSlot l).solo = true := by
  match l with
  | [] => rfl
  | [_] => rfl
  | _ :: _ :: _ => rfl
theorem srep_solo_ctx {w : World} {S F : BS} {get get' : Rd} {tmps tmps' : Array Value} {s : Slot} {u : Value} (hs : s.solo = true) (h : SRep P w S F get tmps s u) : SRep P w S F get' tmps' s u := srep_solo hs h (KeepS.refl _ _) (KeepS.refl _ _)

structure ArgsOk (P : Program) (w : World) (S : BS) (Fs : Nat → BS) (ms : List Mode) (args : List V) (us : List Value) : Prop where
  len : us.length = args.length
  mlen : ms.length = args.length
  rep : ∀ i (h : i < args.length), SRep P w S (Fs i) emp #[] (argSlot (ms.getD i .v) args[i]) (us.getD i undef)
  dis : ∀ i j, i ≠ j → BS.dis (Fs i) (Fs j)
  sdis : ∀ i, BS.dis S (Fs i)
  fb : ∀ i g, Fs i g → g < w.heap.size
  sb : ∀ g, S g → g < w.heap.size

def fpN (Fs : Nat → BS) : BS := fun g => ∃ i, Fs i g

/-- What a call leaves. -/
def Ret (P : Program) (w w' : World) (S : BS) (Fs : Nat → BS) (ms : List Mode) (outs : List V) (us : List Value) (res : List V) (r : Value) : Prop :=
  ∃ (S' : BS) (Gs : Nat → BS) (G : BS), Kp (fpN Fs) w w' ∧ (∀ g, S' g → (S g ∨ fpN Fs g ∨ w.heap.size ≤ g) ∧ g < w'.heap.size) ∧
    (∀ i g, Gs i g → (fpN Fs g ∨ w.heap.size ≤ g) ∧ g < w'.heap.size) ∧ (∀ g, G g → (fpN Fs g ∨ w.heap.size ≤ g) ∧ g < w'.heap.size) ∧
    (∀ i j, i ≠ j → BS.dis (Gs i) (Gs j)) ∧ (∀ i, BS.dis (Gs i) G) ∧ (∀ i, BS.dis S' (Gs i)) ∧ BS.dis S' G ∧
    (∀ i v, outs[i]? = some v → (ms.getD i .v = .io ∨ ms.getD i .v = .p) → SRep P w' S' (Gs i) emp #[] (argSlot (ms.getD i .v) v) (us.getD i undef)) ∧
    SRep P w' S' G emp #[] (resSlot res) r

def Good (P : Program) (f : FuncId) (ms : List Mode) (args outs res : List V) : Prop :=
  ∀ (w : World) (S : BS) (Fs : Nat → BS) (us : List Value), ArgsOk P w S Fs ms args us → Calls P f us.toArray w fun e w' => ∃ r, e = .returned r ∧ Ret P w w' S Fs ms outs us res r

/-- a function that the program bears, with a body -/
def Bodied (P : Program) (f : FuncId) : Prop := ∃ fn, P.funcs[f]? = some fn ∧ fn.body.isSome = true ∧ fn.name ≠ "runtime.NumGoroutine"

structure Con where
  ms : List Mode
  bor : Bool
  fn : List V → Option (Prop × List V × List V)

/-- what the contract says holds -/
def Con.Ok (P : Program) (f : FuncId) (c : Con) : Prop := Bodied P f ∧ ∀ args pre outs res, c.fn args = some (pre, outs, res) → pre → Good P f c.ms args outs res

/-! ### types without shared memory -/
@[reducible] def Ty.alone : Ty → Bool
  | .int _ => true
  | .bool => true
  | .str => true
  | .unit => true
  | .err => true
  | .hole => true
  | .stat _ => true
  | .prod a b => a.alone && b.alone
  | .arr _ t => t.alone
  | .own _ t => t.alone
  | _ => false
theorem rep_alone : ∀ (t : Ty) {w : World} {S S' F : BS} {x : t.den} {cs : List Value}, t.alone = true → Rep P t w S F x cs → Rep P t w S' F x cs := by
  intro t
  induction t with
  | prod a b iha ihb =>
    intro w S S' F x cs hf h
    simp only [Ty.alone, Bool.and_eq_true] at hf
    obtain ⟨c1, c2, F1, F2, rfl, h1, h2, hd, hF1, hF2⟩ := h
    exact ⟨c1, c2, F1, F2, rfl, iha hf.1 h1, ihb hf.2 h2, hd, hF1, hF2⟩
  | arr n t ih =>
    intro w S S' F x cs hf h
    obtain ⟨h1, h2, Fs, hFs, hdd, he⟩ := h
    exact ⟨h1, h2, Fs, hFs, hdd, fun i hi => ih hf (he i hi)⟩
  | own e t ih =>
    intro w S S' F x cs hf h
    rcases h with h | ⟨g, cap, cur, rfl, hg, hh, h1, h2, h3, Fs, hFs, hng, hdd, he⟩
    · exact .inl h
    · exact .inr ⟨g, cap, cur, rfl, hg, hh, h1, h2, h3, Fs, hFs, hng, hdd, fun i hi => ih hf (he i hi)⟩
  | int k => intro w S S' F x cs hf h; exact h
  | bool => intro w S S' F x cs hf h; exact h
  | str => intro w S S' F x cs hf h; exact h
  | unit => intro w S S' F x cs hf h; exact h
  | hole => intro w S S' F x cs hf h; exact h
  | stat f => intro w S S' F x cs hf h; exact h
  | err => intro w S S' F x cs hf h; exact h
  | slice t ih => intro w S S' F x cs hf h; cases hf
  | cellp t ih => intro w S S' F x cs hf h; cases hf
  | fn a r _ _ => intro w S S' F x cs hf h; cases hf
  | iter lv t _ => intro w S S' F x cs hf h; cases hf
theorem repT_alone : ∀ (l : List (Option V)) {w : World} {S S' F : BS} {us : List Value}, (∀ v, some v ∈ l → v.t.alone = true) → RepT P w S F l us → RepT P w S' F l us
  | [], w, S, S', F, us, _, h => h
  | none :: l, w, S, S', F, us, hl, h => by
    obtain ⟨u, us', rfl, h⟩ := h
    exact ⟨u, us', rfl, repT_alone l (fun v hv => hl v (List.mem_cons_of_mem _ hv)) h⟩
  | some v :: l, w, S, S', F, us, hl, h => by
    obtain ⟨u, us', cs, F1, F2, rfl, hu, hr, h, hd, h1, h2⟩ := h
    exact ⟨u, us', cs, F1, F2, rfl, hu, rep_alone _ (hl v List.mem_cons_self) hr, repT_alone l (fun v hv => hl v (List.mem_cons_of_mem _ hv)) h, hd, h1, h2⟩
theorem res_alone {w : World} {S S' F : BS} {res : List V} {r : Value} {get : Rd} {tmps : Array Value} (ha : res.all (fun v => v.t.alone) = true) (h : SRep P w S F get tmps (resSlot res) r) : SRep P w S' F get tmps (resSlot res) r := by
  have ha' : ∀ v ∈ res, v.t.alone = true := fun v hv => by simpa using List.all_eq_true.1 ha v hv
  match res, ha', h with
  | [], _, h => exact h
  | [v], ha', h => obtain ⟨cs, hu, hr⟩ := h; exact ⟨cs, hu, rep_alone _ (ha' v (List.mem_singleton.2 rfl)) hr⟩
  | v :: v' :: l, ha', h =>
    obtain ⟨us, hu, hr⟩ := h
    exact ⟨us, hu, repT_alone _ (fun x hx => ha' x (by
      simp only [List.mem_map, Option.some.injEq, exists_eq_right] at hx
      exact hx)) hr⟩

/-! ### something deeper changed -/
theorem root_deep {w : World} {S F : BS} {get : Rd} {tmps : Array Value} {root : Slot} {rv : Value} (hroot : SRep P w S F get tmps root rv) {p : List Step} {u : V} {g o : Nat} (hi : root.rin p) (hu : root.rget p = some u) (hl : root.rloc w rv p = some (g, o)) :
    ∃ cu Fv, CellsAt w g o cu ∧ cu.length = u.t.sz ∧ Rep P u.t w S Fv u.x cu ∧ BS.sub Fv F ∧
      ∀ (S' : BS) (v' : V) (Fv' : BS) (w' : World) (root' : Slot) (get' : Rd) (tmps' : Array Value), S.sub S' → Rep P v'.t w' S' Fv' v'.x cu → (∀ b, Fv' b → F b → Fv b) → KeepS S w w' → (∀ b, F b → ¬ Fv b → w'.heap[b]? = w.heap[b]?) → root.rset p v' = some root' →
        root'.solo = true ∧ SRep P w' S' (fun b => (F b ∧ ¬ Fv b) ∨ Fv' b) get' tmps' root' rv := by
  cases root with
  | box v =>
    obtain ⟨gb, cs, e, F', rfl, hh, hgf, hj, hs, hn⟩ := hroot
    have hlv := rep_len _ hj
    obtain ⟨g', o', cur', e', Fv, Fr, L⟩ := lens p v.t w S F' gb 0 cs.toArray e v.x u hh (by simp [hlv]) (by rw [← hlv]; simpa using hj) hn hi hu
    rw [show (Slot.box v).rloc w (.pointer (some ⟨gb, 0, none⟩)) p = locAt v.t w gb 0 p from rfl, L.loc] at hl
    simp only [Option.some.injEq, Prod.mk.injEq] at hl
    obtain ⟨rfl, rfl⟩ := hl
    have hgbv : ¬ Fv gb := fun h => hn (L.subv _ h)
    have hgv : F g' ∧ ¬ Fv g' := by
      refine ⟨?_, L.nv⟩
      rcases L.place with ⟨q1, _⟩ | ⟨_, q2⟩
      · rw [q1]; exact hgf
      · exact hs _ (L.subr _ q2)
    refine ⟨_, Fv, cellsAt_row L.heap, rep_len _ L.rep, L.rep, L.subv.trans hs, ?_⟩
    intro S' v' Fv' w' root' get' tmps' hSS hr' hdis hS hFr hset
    simp only [Slot.rset, Option.map_eq_some_iff] at hset
    obtain ⟨v'', hset, rfl⟩ := hset
    refine ⟨rfl, ?_⟩
    have hFr1 : ∀ b, Fr b → F b ∧ ¬ Fv b := fun b hb => ⟨hs b (L.subr b hb), fun h => L.dis b h hb⟩
    obtain ⟨hz, hq⟩ := L.back S' v' v'' Fv' w' _ cs.toArray hSS (rep_len _ L.rep) hr' (fun b h1 h2 => (hFr1 b h2).2 (hdis b h1 (hFr1 b h2).1)) (fun h => hgbv (hdis _ h hgf)) (fun h => hgv.2 (hdis _ h hgv.1)) hS (fun b hb hne => hFr b (hFr1 b hb).1 (hFr1 b hb).2)
      (by rw [seg_self (by simpa using L.fits)]; rw [hFr g' hgv.1 hgv.2]; simpa using L.heap) (fun _ => rfl) (fun hgg => by
        rcases L.place with ⟨_, q2, _⟩ | ⟨q1, _⟩
        · subst q2; rw [seg_self (by simpa using L.fits)]
        · exact absurd hgg q1) hset
    refine ⟨gb, cs, e, BS.un Fr Fv', rfl, (hFr gb hgf hgbv).trans hh, .inl ⟨hgf, hgbv⟩, ?_, ?_, ?_⟩
    · rw [← hlv] at hq; simpa using hq
    · exact fun b hb => hb.imp (hFr1 b) id
    · rintro (hb | hb)
      · exact hn (L.subr _ hb)
      · exact hgbv (hdis _ hb hgf)
  | val v =>
    obtain ⟨t1, x1⟩ := v
    obtain ⟨cs, rfl, hj⟩ := hroot
    cases t1 with
    | own el t =>
      cases p with
      | nil => generalize Ty.toV (V.mk (Ty.own el t) x1).t cs = rv at hl; cases rv <;> (try rename_i q _ _; cases q) <;> simp [Slot.rloc] at hl
      | cons s p =>
        cases s with
        | fld k => cases k <;> simp [Slot.rin, inR] at hi
        | idx i =>
          simp only [Slot.rin, inR] at hi
          simp only [Slot.rget, getAt] at hu
          obtain ⟨gi, cap, g', o', cur', e', Fv, Fr, hc, q1, q2, q3, q4, q5, q6, q7, q8, q9, q10⟩ := lens_own p el t i w S F x1 u cs hj hi.1 hi.2 hu
          subst hc
          have hl' : locAt t w gi (i * t.sz) p = some (g, o) := hl
          rw [q1] at hl'
          simp only [Option.some.injEq, Prod.mk.injEq] at hl'
          obtain ⟨rfl, rfl⟩ := hl'
          have hFr1 : ∀ b, Fr b → F b ∧ ¬ Fv b := fun b hb => ⟨q7 b hb, fun h => q5 b h hb⟩
          refine ⟨_, Fv, cellsAt_row q2, rep_len _ q4, q4, q6, ?_⟩
          intro S' v' Fv' w' root' get' tmps' hSS hr' hdis hS hFr hset
          simp only [Slot.rset, Option.map_eq_some_iff] at hset
          obtain ⟨v'', hset, rfl⟩ := hset
          obtain ⟨hz, hq⟩ := q10 S' v' v'' Fv' w' _ hSS (rep_len _ q4) hr' (fun b h1 h2 => (hFr1 b h2).2 (hdis b h1 (hFr1 b h2).1)) (fun h => (hFr1 _ q9).2 (hdis _ h (hFr1 _ q9).1)) hS (fun b hb hne => hFr b (hFr1 b hb).1 (hFr1 b hb).2)
            (by rw [seg_self (by simpa using q3), hFr g' (hFr1 _ q9).1 (hFr1 _ q9).2]; simpa using q2) hset
          refine ⟨rfl, _, ?_, rep_mono _ hq (BS.sub_refl _) (fun b hb => hb.imp (hFr1 b) id)⟩
          rw [hz]
    | _ => simp [Slot.rloc] at hl
  | _ => simp [Slot.rin] at hi
end Go.Tv
