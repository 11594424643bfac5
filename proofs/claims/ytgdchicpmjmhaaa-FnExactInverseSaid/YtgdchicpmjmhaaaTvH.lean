/-
  The operations on slots: moving, boxes, loads, stores, addresses. Conditions: none; plain definitions and lemmas.
-/
import Derived.Test.YtgdchicpmjmhaaaTvG
namespace Go.Tv
set_option linter.unusedVariables false
set_option linter.unusedSimpArgs false
variable {P : Program}

/-! ### What the machine does -/
theorem wp_value {o : Oper} {a : Act} {w w' : World} {next : Act → World → Prop} {Q : Exit → Act → World → Prop} {v : Value} (hr : (execOp a.eval o).run P w = .ok (.value v) w') (hk : next (a.put o.dst v) w') : o.wp P a w next Q := by
  unfold Oper.wp; rw [hr]; exact hk
theorem wp_skip' {o : Oper} {a : Act} {w w' : World} {next : Act → World → Prop} {Q : Exit → Act → World → Prop} (hr : (execOp a.eval o).run P w = .ok .skip w') (hk : next (a.put o.dst undef) w') : o.wp P a w next Q := by
  unfold Oper.wp; rw [hr]; exact hk

theorem pRow_some {t : TypeId} {b : Bool} (h : pRow P t = some b) : ∃ d, P.underlying t = some d ∧ d.isRow = b := by
  unfold pRow at h
  simpa [Option.map_eq_some_iff] using h
theorem pSize_some {t : TypeId} {n : Nat} (h : pSize P t = some n) : ∃ i, P.info? t = some i ∧ i.size = n := by
  unfold pSize at h
  simpa [Option.map_eq_some_iff] using h

theorem run_isAgg' {t : TypeId} {b : Bool} (h : pRow P t = some b) (w : World) : (isAgg t).run P w = .ok b w := by
  obtain ⟨d, hu, hd⟩ := pRow_some h
  unfold isAgg
  rw [Sem.run_bind, run_underlying hu w]
  cases d <;> simp_all [TypeDesc.isRow]
theorem run_sizeOf' {t : TypeId} {n : Nat} (h : pSize P t = some n) (w : World) : (sizeOf t).run P w = .ok n w := by
  obtain ⟨i, hi, rfl⟩ := pSize_some h
  simp [sizeOf, typeInfo, hi]

theorem run_loadAt' {w : World} {g o : Nat} {t : TypeId} {τ : Ty} {cs : List Value} (hc : CellsAt w g o cs) (hl : cs.length = τ.sz) (hs : pSize P t = some τ.sz) (hr : pRow P t = some τ.isAg) :
    (Instr.loadAt t (.pointer (some ⟨g, o, none⟩))).run P w = .ok (τ.toV cs) w := by
  unfold Ty.toV
  cases hag : τ.isAg with
  | true =>
    obtain ⟨d, hu, hd⟩ := pRow_some hr
    rw [run_loadAt_mid w g o t cs d hc hu (by rw [hd, hag]) (by unfold pSize at hs; rw [hs, hl])]
    rfl
  | false =>
    have h1 : τ.sz = 1 := by cases τ <;> simp_all [Ty.isAg, Ty.sz]
    obtain ⟨u, rfl⟩ := List.length_eq_one_iff.1 (hl.trans h1)
    have hcell : w.cell? ⟨g, o, none⟩ = some u := hc 0 u rfl
    rw [hag] at hr
    simp [Instr.loadAt, Instr.sureAddr, loadVar, Sem.run_bind, run_isAgg' hr, hcell]

theorem run_storeAt' {w : World} {g o : Nat} {t : TypeId} {cur : Array Value} {e : TypeId} {cs : List Value} {u : Value} (hg : w.heap[g]? = some (.cells cur e (0, 0))) (hf : o + cs.length ≤ cur.size) (hu : u.cells = cs.toArray)
    (hs : pSize P t = some cs.length) (h1 : ∀ v ∈ cs, v.oneCell' = true) :
    (Instr.storeAt t (.pointer (some ⟨g, o, none⟩)) u).run P w = .ok () (w.setRow g (seg cur.toList o cs).toArray) := by
  have h := run_storeCells_at P g o e cs 0 cur w hg (by simpa using hf) h1
  simp only [Nat.add_zero] at h
  simp only [Instr.storeAt, Instr.sureAddr, Sem.run_bind, Sem.run_pure, Result.andThen_ok, storeVar, run_sizeOf' hs, hu]
  simpa [seg] using h

theorem kp_setRow (w : World) (g : Nat) (c : Array Value) : Kp (fun b => b = g) w (w.setRow g c) := ⟨rfl, rfl, rfl, by simp, fun b _ hb => setRow_other w g b c hb⟩

/-! ### The rules -/
section
variable {n : Sz} {w0 : World} {S0 F0 : BS} {get rd : Rd} {a : Act} {w : World} {S : BS} {fp : Tmp → BS}

/-- where an operation leads -/
def Nx (P : Program) (n : Sz) (w0 : World) (S0 F0 : BS) (get : Rd) (K : Patch → Prop) : Act → World → Prop := fun a' w' => ∃ pt, K pt ∧ Sim P n w0 S0 F0 (appP pt get) a' w'

def pMove (rd : Rd) (d : Tmp) (x : Operand) (K : Patch → Prop) : Prop :=
  match rdO rd x with
  | (.val v, n, m) => if v.t.free then K [(d, .val v, .new)] else match x with | .tmp j => j ≠ d ∧ K [(d, .ali j [] n m, .new)] | _ => False
  | (.box _, n, m) => match x with | .tmp j => j ≠ d ∧ K [(d, .ref j [] n m, .new)] | _ => False
  | (.ref j p n m, _, _) => j ≠ d ∧ K [(d, .ref j p n m, .new)]
  | (.ali j p n m, _, _) => j ≠ d ∧ K [(d, .ali j p n m, .new)]
  | (.nil, _, _) => K [(d, .nil, .new)]
  | _ => False

theorem srep_ref_put {w : World} {S S' F F' : BS} {get : Rd} {a : Act} {j d : Tmp} {p : List Step} {k m : Nat} {u v : Value} {s : Slot} (hj : j ≠ d) (h : SRep P w S F get a.tmps (.ref j p k m) u) :
    SRep P w S' F' (app1 get (d, s, .new)) (a.put (some d) v).tmps (.ref j p k m) u := by
  have e1 : app1 get (d, s, .new) j = get j := by simp [app1, hj]
  have e2 : (a.put (some d) v).tmps.getD j undef = a.tmps.getD j undef := put_other a d j v hj
  show _ ∧ (_ → _)
  rw [e1, e2]
  exact h
theorem srep_ali_put {w : World} {S S' F F' : BS} {get : Rd} {a : Act} {j d : Tmp} {p : List Step} {k m : Nat} {u v : Value} {s : Slot} (hj : j ≠ d) (h : SRep P w S F get a.tmps (.ali j p k m) u) :
    SRep P w S' F' (app1 get (d, s, .new)) (a.put (some d) v).tmps (.ali j p k m) u := by
  have e1 : app1 get (d, s, .new) j = get j := by simp [app1, hj]
  have e2 : (a.put (some d) v).tmps.getD j undef = a.tmps.getD j undef := put_other a d j v hj
  show _ ∧ (_ → _)
  rw [e1, e2]
  exact h

theorem move_sim (h : SimX P n w0 S0 F0 get a w S fp) (hb : Below rd get) {d : Tmp} (hd : d < n.sz) {x : Operand} {K : Patch → Prop} (hp : pMove rd d x K) : Nx P n w0 S0 F0 get K (a.put (some d) (a.eval x)) w := by
  unfold pMove at hp
  split at hp
  · rename_i v k m hx
    have hr := rdO_rep h hb hx (by simp)
    by_cases hf : v.t.free = true
    · simp only [hf, if_true] at hp
      obtain ⟨cs, hu, hr⟩ := hr
      exact ⟨_, hp, sim_val h d hd _ _ ⟨cs, hu, rep_free _ hf hr⟩⟩
    · simp only [hf, Bool.false_eq_true, if_false] at hp
      split at hp
      · rename_i j
        obtain ⟨hjd, hK⟩ := hp
        have hg := hb.eq hx (by simp)
        refine ⟨_, hK, sim_val h d hd _ _ (srep_ali_put (F := BS.bot) (S := S) hjd ?_)⟩
        refine ⟨by rw [hg]; exact Nat.le_refl _, fun _ => ⟨by rw [hg]; exact Nat.le_refl _, fun _ => .inl ⟨rfl, ⟨v, by rw [hg]⟩, rfl⟩⟩⟩
      · exact hp.elim
  · rename_i v k m hx
    have hr := rdO_rep h hb hx (by simp)
    split at hp
    · rename_i j
      obtain ⟨hjd, hK⟩ := hp
      have hg := hb.eq hx (by simp)
      obtain ⟨g, cs, e, F', hu, _⟩ := hr
      have hu' : a.tmps.getD j undef = .pointer (some ⟨g, 0, none⟩) := hu
      refine ⟨_, hK, sim_val h d hd _ _ (srep_ref_put (F := BS.bot) (S := S) hjd ?_)⟩
      refine ⟨by rw [hg]; exact Nat.le_refl _, fun _ => ⟨by rw [hg]; exact Nat.le_refl _, fun _ => ?_⟩⟩
      rw [hg, hu']
      exact ⟨by simp [Slot.rin, inR], g, 0, by simp [Slot.rloc, locAt], hu⟩
    · exact hp.elim
  · rename_i j p k m e1 e2 hx
    have hr := rdO_rep h hb hx (by simp)
    exact ⟨_, hp.2, sim_val h d hd _ _ (srep_ref_put hp.1 hr)⟩
  · rename_i j p k m e1 e2 hx
    have hr := rdO_rep h hb hx (by simp)
    exact ⟨_, hp.2, sim_val h d hd _ _ (srep_ali_put hp.1 hr)⟩
  · rename_i e1 e2 hx
    have hr := rdO_rep h hb hx (by simp)
    exact ⟨_, hp, sim_val h d hd _ _ hr⟩
  · exact hp.elim

def noKey (d : Tmp) (pt : Patch) : Bool := pt.all fun e => e.1 != d
theorem noKey_ne {d : Tmp} {pt : Patch} (h : noKey d pt = true) : ∀ j s b, pt = [(j, s, b)] → j ≠ d := by
  rintro j s b rfl
  simpa [noKey] using h
theorem appP_snoc (pt : Patch) (x : Tmp × Slot × Bump) (get : Rd) : appP (pt ++ [x]) get = app1 (appP pt get) x := by simp [appP]

def pAssign (rd : Rd) (hint : Option Ty) (d : Tmp) (x : Operand) (K : Patch → Prop) : Prop :=
  match rdO rd x with
  | (.box v, _, _) => match x with | .tmp j => j ≠ d ∧ K [(j, .undef, .new), (d, .box v, .new)] | _ => False
  | (.ref j p n m, _, _) => j ≠ d ∧ K [(d, .ref j p n m, .new)]
  | _ => match takeV rd hint x with | some (v, pt) => noKey d pt = true ∧ K (pt ++ [(d, .val v, .new)]) | none => False

/-- A slot's word, with what it owns, is moved to another. -/
theorem sim_moved (h : SimX P n w0 S0 F0 get a w S fp) {j d : Tmp} (hjd : j ≠ d) (hd : d < n.sz) {u : Value} {s : Slot} (hs : s.solo = true) (hr : SRep P w S (fp j) get a.tmps s u) : Sim P n w0 S0 F0 (appP [(j, .undef, .new), (d, s, .new)] get) (a.put (some d) u) w := by
  have hds : d < a.tmps.size := by rw [h.size]; exact hd
  refine ⟨_, _, sim_gen h (fun t => t = d ∨ t = j) (fun t => if t = d then fp j else BS.bot) BS.bot (by rw [put_defers]; exact h.defers) (by rw [put_size]; exact h.size) (Kp.refl _ _) ?_ ?_ (fun g hg => hg.elim) (fun t _ => BS.bot_dis _) ?_ ?_ ?_⟩
  · rintro t ht g hg
    by_cases htd : t = d
    · rw [if_pos htd] at hg; exact .inl ⟨j, .inr rfl, hg⟩
    · rw [if_neg htd] at hg; exact hg.elim
  · intro t u' ht hu hne g hg1 hg2
    by_cases htd : t = d
    · by_cases hud : u' = d
      · exact hne (htd.trans hud.symm)
      · rw [if_neg hud] at hg2; exact hg2
    · rw [if_neg htd] at hg1; exact hg1
  · intro t ht
    have h1 : t ≠ d := fun e => ht (.inl e)
    have h2 : t ≠ j := fun e => ht (.inr e)
    exact ⟨by simp [app1, appP, h1, h2], put_other a d t u h1⟩
  · rintro t (rfl | rfl)
    · exact .inl (by simp [app1, appP, bump, Ne.symm hjd])
    · exact .inl (by simp [app1, appP, bump, hjd])
  · rintro t (rfl | rfl)
    · rw [put_same a t u hds, if_pos rfl]
      have : (appP [(j, .undef, .new), (t, s, .new)] get t).1 = s := by simp [app1, appP]
      rw [this]
      exact srep_mono (srep_solo hs hr (KeepS.refl _ _) (KeepS.refl _ _)) un_bot (BS.sub_refl _)
    · have : (appP [(t, .undef, .new), (d, s, .new)] get t).1 = .undef := by simp [app1, appP, hjd]
      rw [this]; trivial

theorem assign_sim (h : SimX P n w0 S0 F0 get a w S fp) (hb : Below rd get) {d : Tmp} (hd : d < n.sz) {hint : Option Ty} {x : Operand} {K : Patch → Prop} (hp : pAssign rd hint d x K) : Nx P n w0 S0 F0 get K (a.put (some d) (a.eval x)) w := by
  unfold pAssign at hp
  split at hp
  · rename_i v k m hx
    have hr := rdO_rep h hb hx (by simp)
    split at hp
    · exact ⟨_, hp.2, sim_moved h hp.1 hd rfl hr⟩
    · exact hp.elim
  · rename_i j p k m e1 e2 hx
    have hr := rdO_rep h hb hx (by simp)
    exact ⟨_, hp.2, sim_val h d hd _ _ (srep_ref_put hp.1 hr)⟩
  · split at hp
    · rename_i v pt ht
      obtain ⟨Fv, hgot⟩ := take_got h hb ht
      refine ⟨_, hp.2, ?_⟩
      rw [appP_snoc]
      obtain ⟨cs, hu, hr, _⟩ := id hgot
      exact sim_got h hgot d hd (noKey_ne hp.1) _ _ Fv w (Kp.refl _ _) (fun g hg => .inl hg) ⟨cs, hu, hr⟩
    · exact hp.elim

/-! #### new variables -/
@[reducible] def Ty.zOk : Ty → Bool
  | .int _ => true
  | .bool => true
  | .str => true
  | .unit => true
  | .err => true
  | .prod a b => a.zOk && b.zOk
  | .slice _ => true
  | .own _ _ => true
  | _ => false
def Ty.zeroC : Ty → List Value
  | .int k => [.int k 0]
  | .bool => [.bool false]
  | .str => [.string ⟨#[]⟩]
  | .unit => []
  | .err => [.nilIface]
  | .prod a b => a.zeroC ++ b.zeroC
  | .slice _ => [.slice none 0 0]
  | .own _ _ => [.slice none 0 0]
  | _ => []
theorem wrap_zero (k : IntKind) : k.wrap 0 = 0 := by cases k <;> rfl
theorem zero_rep : ∀ (t : Ty) (w : World) (S : BS), t.zOk = true → Rep P t w S BS.bot t.dflt t.zeroC
  | .int k, _, _, _ => ⟨rfl, wrap_zero k⟩
  | .bool, _, _, _ => rfl
  | .str, _, _, _ => ⟨rfl, Nat.zero_le _⟩
  | .unit, _, _, _ => rfl
  | .err, _, _, _ => .inl ⟨rfl, rfl⟩
  | .prod a b, w, S, h => by
    simp only [Ty.zOk, Bool.and_eq_true] at h
    exact ⟨_, _, BS.bot, BS.bot, rfl, zero_rep a w S h.1, zero_rep b w S h.2, BS.dis_bot _, BS.sub_refl _, BS.sub_refl _⟩
  | .slice t, _, _, _ => ⟨none, 0, rfl, Nat.le_refl _, Nat.zero_le _, fun hn => absurd rfl hn⟩
  | .own e t, _, _, _ => .inl ⟨rfl, rfl⟩

def pAlloc (P : Program) (T : TypeId → Option Ty) (d : Tmp) (e : TypeId) (K : Patch → Prop) : Prop :=
  match T e with
  | some τ => τ.zOk = true ∧ pZero P e = some (τ.toV τ.zeroC) ∧ K [(d, .box ⟨τ, τ.dflt⟩, .new)]
  | none => False

/-- A new block with a datum of its own. -/
theorem sim_newbox (h : SimX P n w0 S0 F0 get a w S fp) {u0 : Value} {v : V} {pt : Patch} {Fv Sx : BS} (hgot : Got P get a w S fp u0 v pt Fv Sx) (d : Tmp) (hd : d < n.sz) (hdj : ∀ j s b, pt = [(j, s, b)] → j ≠ d) (e : TypeId) (u : Value) (hu : u = u0) :
    Sim P n w0 S0 F0 (appP (pt ++ [(d, .box v, .new)]) get) (a.put (some d) (.pointer (some ⟨w.heap.size, 0, none⟩))) (w.alloc (.cells u.cells e)) := by
  subst hu
  rw [appP_snoc]
  have hgot' := hgot
  obtain ⟨cs, rfl, hr, hc⟩ := hgot
  have hkp := Kp.alloc BS.bot w (.cells (v.t.toV cs).cells e)
  have hlt : ∀ g, Fv g → g < w.heap.size := by
    intro g hg
    rcases hc with ⟨_, rfl, _⟩ | ⟨j, s, b, Fr, _, _, _, _, hs1, _⟩
    · exact hg.elim
    · exact (h.fpb j g (hs1 g hg)).2
  have hltS : ∀ g, Sx g → g < w.heap.size := by
    intro g hg
    rcases hc with ⟨_, _, rfl⟩ | ⟨j, s, b, Fr, _, _, _, _, _, _, hs1, _⟩
    · exact hg.elim
    · exact (h.fpb j g (hs1 g hg)).2
  refine sim_got h hgot' d hd hdj _ _ (fun g => g = w.heap.size ∨ Fv g) _ hkp ?_ ?_
  · rintro g (rfl | hg)
    · exact .inr ⟨Nat.le_refl _, by simp⟩
    · exact .inl hg
  · refine ⟨w.heap.size, cs, e, Fv, rfl, ?_, .inl rfl, rep_keep _ hr ?_ ?_, fun g hg => .inr hg, fun hg => absurd (hlt _ hg) (Nat.lt_irrefl _)⟩
    · rw [toV_cells hr]; exact heap_alloc_new w _
    · exact hkp.keepS (BS.dis_bot _) (fun g hg => hg.elim (fun hg => (h.sb g hg).2) (hltS g))
    · exact hkp.keepS (BS.dis_bot _) hlt

theorem alloc_sim (h : SimX P n w0 S0 F0 get a w S fp) {T : TypeId → Option Ty} {d : Tmp} (hd : d < n.sz) {e : TypeId} {o : Oper} (ho : o.op = .alloc e) (hod : o.dst = some d) {K : Patch → Prop} {Q : Exit → Act → World → Prop} (hp : pAlloc P T d e K) : o.wp P a w (Nx P n w0 S0 F0 get K) Q := by
  unfold pAlloc at hp
  split at hp
  · rename_i τ hT
    obtain ⟨hz, hzero, hK⟩ := hp
    have hrun : (execOp a.eval o).run P w = .ok (.value (.pointer (some ⟨w.heap.size, 0, none⟩))) (w.alloc (.cells (τ.toV τ.zeroC).cells e)) := by
      unfold pZero at hzero
      obtain ⟨i, hi, hiz⟩ := Option.bind_eq_some_iff.1 hzero
      unfold execOp
      simp [ho, Instr.alloc, zeroValue, typeInfo, hi, hiz, newVar, newRow]
    refine wp_value hrun ⟨_, hK, ?_⟩
    rw [hod]
    have hgot : Got P get a w S fp (τ.toV τ.zeroC) ⟨τ, τ.dflt⟩ [] BS.bot BS.bot := ⟨_, rfl, zero_rep τ w _ hz, .inl ⟨rfl, rfl, rfl⟩⟩
    exact sim_newbox h hgot d hd (by simp) e _ rfl
  · exact hp.elim

def pBox (rd : Rd) (hint : Option Ty) (d : Tmp) (x : Operand) (K : Patch → Prop) : Prop :=
  match takeV rd hint x with | some (v, pt) => noKey d pt = true ∧ K (pt ++ [(d, .box v, .new)]) | none => False

theorem box_sim (h : SimX P n w0 S0 F0 get a w S fp) (hb : Below rd get) {hint : Option Ty} {d : Tmp} (hd : d < n.sz) {e : TypeId} {x : Operand} {o : Oper} (ho : o.op = .box e x) (hod : o.dst = some d) {K : Patch → Prop} {Q : Exit → Act → World → Prop} (hp : pBox rd hint d x K) : o.wp P a w (Nx P n w0 S0 F0 get K) Q := by
  unfold pBox at hp
  split at hp
  · rename_i v pt ht
    obtain ⟨Fv, hgot⟩ := take_got h hb ht
    have hrun : (execOp a.eval o).run P w = .ok (.value (.pointer (some ⟨w.heap.size, 0, none⟩))) (w.alloc (.cells (a.eval x).cells e)) := by
      unfold execOp
      simp [ho, Instr.box, newVar, newRow]
    refine wp_value hrun ⟨_, hp.2, ?_⟩
    rw [hod]
    exact sim_newbox h hgot d hd (noKey_ne hp.1) e _ rfl
  · exact hp.elim

/-! #### addresses -/
/-- The slot and the path that an address leads to, if it is not out of date. -/
def refOf (rd : Rd) (x : Operand) : Option (Tmp × List Step) :=
  match rdO rd x with
  | (.ref j p n m, _, _) => if (rd j).2.1 = n ∧ (fldOnly p = true ∨ (rd j).2.2 = m) then some (j, p) else none
  | (.box _, _, _) => match x with | .tmp j => some (j, []) | _ => none
  | _ => none

theorem refOf_ok (h : SimX P n w0 S0 F0 get a w S fp) (hb : Below rd get) {x : Operand} {j : Tmp} {p : List Step} (hx : refOf rd x = some (j, p)) {u : V} (hu : (rd j).1.rget p = some u) :
    get j = rd j ∧ RefOk w (rd j).1 (a.tmps.getD j undef) p (a.eval x) := by
  have hg : get j = rd j := (hb j).elim Eq.symm (fun he => by rw [he] at hu; simp [Slot.rget] at hu)
  refine ⟨hg, ?_⟩
  unfold refOf at hx
  split at hx
  · rename_i j' p' k m e1 e2 hx'
    split at hx
    · rename_i hc
      simp only [Option.some.injEq, Prod.mk.injEq] at hx
      obtain ⟨rfl, rfl⟩ := hx
      have hr := rdO_rep h hb hx' (by simp)
      obtain ⟨_, hr⟩ := hr
      rw [hg] at hr
      exact (hr hc.1).2 hc.2
    · cases hx
  · rename_i v e1 e2 hx'
    split at hx
    · rename_i j'
      simp only [Option.some.injEq, Prod.mk.injEq] at hx
      obtain ⟨rfl, rfl⟩ := hx
      have hr := rdO_rep h hb hx' (by simp)
      obtain ⟨g, cs, e, F', hu', _⟩ := hr
      have hu2 : a.tmps.getD j' undef = .pointer (some ⟨g, 0, none⟩) := hu'
      have hs : (rd j').1 = .box v := by have : rd j' = (.box v, e1, e2) := hx'; rw [this]
      rw [hs, hu2]
      exact ⟨by simp [Slot.rin, inR], g, 0, by simp [Slot.rloc, locAt], hu'⟩
    · cases hx
  · cases hx

def pLoad (P : Program) (rd : Rd) (d : Tmp) (t : TypeId) (x : Operand) (K : Patch → Prop) : Prop :=
  match rdO rd x with
  | (.val ⟨.cellp τ, y⟩, _, _) => pSize P t = some τ.sz ∧ pRow P t = some τ.isAg ∧ K [(d, .val ⟨τ, y⟩, .new)]
  | _ => match refOf rd x with
    | some (j, p) => match (rd j).1.rget p with
      | some u => pSize P t = some u.t.sz ∧ pRow P t = some u.t.isAg ∧ if u.t.free then K [(d, .val u, .new)] else j ≠ d ∧ K [(d, .ali j p (rd j).2.1 (rd j).2.2, .new)]
      | none => False
    | none => False

theorem load_sim (h : SimX P n w0 S0 F0 get a w S fp) (hb : Below rd get) {d : Tmp} (hd : d < n.sz) {t : TypeId} {x : Operand} {o : Oper} (ho : o.op = .load t x) (hod : o.dst = some d) {K : Patch → Prop} {Q : Exit → Act → World → Prop} (hp : pLoad P rd d t x K) : o.wp P a w (Nx P n w0 S0 F0 get K) Q := by
  unfold pLoad at hp
  have hexec : ∀ v, (Instr.loadAt t (a.eval x)).run P w = .ok v w → (execOp a.eval o).run P w = .ok (.value v) w := by
    intro v hv
    unfold execOp
    simp [ho, hv]
  split at hp
  · rename_i τ y e1 e2 hx
    obtain ⟨hs, hr, hK⟩ := hp
    have hrep := rdO_rep h hb hx (by simp)
    obtain ⟨cs, hu, g, og, ci, rfl, hSg, hrr, hc⟩ := hrep
    have hev : a.eval x = .pointer (some ⟨g, og, none⟩) := hu
    have hrun := hexec _ (by rw [hev]; exact run_loadAt' hc (rep_len _ hrr) hs hr)
    refine wp_value hrun ⟨_, hK, ?_⟩
    rw [hod]
    exact sim_val h d hd _ _ ⟨ci, rfl, hrr⟩
  · split at hp
    · rename_i j p hx
      split at hp
      · rename_i u hu
        obtain ⟨hs, hr, hK⟩ := hp
        obtain ⟨hg, hi, g, og, hl, hev⟩ := refOf_ok h hb hx hu
        have hj := h.slot j
        rw [hg] at hj
        obtain ⟨cs, Fv, hc, hrr, hsub⟩ := root_rep hj hi hu hl
        have hrun := hexec _ (by rw [hev]; exact run_loadAt' hc (rep_len _ hrr) hs hr)
        by_cases hf : u.t.free = true
        · simp only [hf, if_true] at hK
          refine wp_value hrun ⟨_, hK, ?_⟩
          rw [hod]
          exact sim_val h d hd _ _ ⟨cs, rfl, rep_free _ hf hrr⟩
        · simp only [hf, Bool.false_eq_true, if_false] at hK
          refine wp_value hrun ⟨_, hK.2, ?_⟩
          rw [hod]
          refine sim_val h d hd _ _ (srep_ali_put (F := BS.bot) (S := S) hK.1 ?_)
          refine ⟨by rw [hg]; exact Nat.le_refl _, fun _ => ⟨by rw [hg]; exact Nat.le_refl _, fun _ => ?_⟩⟩
          rw [hg]
          exact .inr ⟨hi, g, og, u, cs, hl, hu, by simpa using hf, hc, rep_len _ hrr, rfl⟩
      · exact hp.elim
    · exact hp.elim

/-- the offset of a field that is not of size 0 -/
def pFld (P : Program) (t : TypeId) (k : Nat) : Option Nat :=
  match P.underlying t with
  | some (.struct fs) => (fs[k]?).bind fun f => match P.info? f.type with | some i => if i.size = 0 then none else some f.offset | none => none
  | _ => none
theorem run_fieldAt' {s : TypeId} {k off : Nat} (h : pFld P s k = some off) (w : World) (g o : Nat) : (Instr.fieldAt s (.pointer (some ⟨g, o, none⟩)) k).run P w = .ok (.pointer (some ⟨g, o + off, none⟩)) w := by
  unfold pFld at h
  split at h
  · rename_i fs hu
    obtain ⟨f, hf, h⟩ := Option.bind_eq_some_iff.1 h
    split at h
    · rename_i i hi
      split at h
      · cases h
      · rename_i hsz
        simp only [Option.some.injEq] at h
        subst h
        have hadd := Addr.add_mid g o f.offset
        simp [Instr.fieldAt, run_underlying hu, hf, Instr.sureAddr, fieldPlace, sizeOf, typeInfo, hi, hsz, hadd]
    · cases h
  · cases h

def pFieldAddr (P : Program) (rd : Rd) (d : Tmp) (s : TypeId) (x : Operand) (k : Nat) (K : Patch → Prop) : Prop :=
  match rdO rd x with
  | (.val ⟨.cellp τ, y⟩, _, _) => match offT τ k, getAt τ y [.fld k] with
    | some off, some u => pFld P s k = some off ∧ K [(d, .val ⟨.cellp u.t, u.x⟩, .new)]
    | _, _ => False
  | _ => match refOf rd x with
    | some (j, p) => match (rd j).1.rget p with
      | some u => match offT u.t k with
        | some off => pFld P s k = some off ∧ j ≠ d ∧ K [(d, .ref j (p ++ [.fld k]) (rd j).2.1 (rd j).2.2, .new)]
        | none => False
      | none => False
    | none => False

theorem rloc_snoc {w : World} {root : Slot} {rv : Value} {p : List Step} {u : V} {g o : Nat} (s : Step) (hi : root.rin p) (hu : root.rget p = some u) (hl : root.rloc w rv p = some (g, o)) (hs : inR u.t u.x [s]) :
    root.rin (p ++ [s]) ∧ root.rget (p ++ [s]) = getAt u.t u.x [s] ∧ root.rloc w rv (p ++ [s]) = locAt u.t w g o [s] := by
  cases root with
  | box v =>
    simp only [Slot.rin, Slot.rget] at hi hu ⊢
    refine ⟨inR_snoc p _ _ u s hu hi hs, getAt_snoc p _ _ u s hu, ?_⟩
    cases rv with
    | pointer a =>
      cases a with
      | none => simp [Slot.rloc] at hl
      | some a => simp only [Slot.rloc] at hl ⊢; exact locAt_snoc p _ _ w _ _ _ _ u s hu hl
    | _ => simp [Slot.rloc] at hl
  | val v =>
    obtain ⟨t1, x1⟩ := v
    simp only [Slot.rin, Slot.rget] at hi hu ⊢
    refine ⟨inR_snoc p _ _ u s hu hi hs, getAt_snoc p _ _ u s hu, ?_⟩
    cases t1 with
    | own el t =>
      cases rv with
      | slice a len cap =>
        cases a with
        | none => simp [Slot.rloc] at hl
        | some a =>
          cases p with
          | nil => simp [Slot.rloc] at hl
          | cons q p =>
            cases q with
            | fld k => simp [Slot.rloc] at hl
            | idx i =>
              simp only [List.cons_append]
              simp only [getAt] at hu
              have hl' : locAt t w a.block (i * t.sz) p = some (g, o) := hl
              exact locAt_snoc p _ _ w _ _ _ _ u s hu hl'
      | _ => simp [Slot.rloc] at hl
    | _ => simp [Slot.rloc] at hl
  | _ => simp [Slot.rin] at hi

theorem fieldAddr_sim (h : SimX P n w0 S0 F0 get a w S fp) (hb : Below rd get) {d : Tmp} (hd : d < n.sz) {s : TypeId} {x : Operand} {k : Nat} {o : Oper} (ho : o.op = .fieldAddr s x k) (hod : o.dst = some d) {K : Patch → Prop} {Q : Exit → Act → World → Prop} (hp : pFieldAddr P rd d s x k K) : o.wp P a w (Nx P n w0 S0 F0 get K) Q := by
  unfold pFieldAddr at hp
  have hexec : ∀ v, (Instr.fieldAt s (a.eval x) k).run P w = .ok v w → (execOp a.eval o).run P w = .ok (.value v) w := by
    intro v hv
    unfold execOp
    simp [ho, hv]
  split at hp
  · rename_i τ y e1 e2 hx
    split at hp
    · rename_i off u hoff hu
      obtain ⟨hf, hK⟩ := hp
      have hrep := rdO_rep h hb hx (by simp)
      obtain ⟨cs, hev, g, og, ci, rfl, hSg, hrr, hc⟩ := hrep
      have hev : a.eval x = .pointer (some ⟨g, og, none⟩) := hev
      have hrun := hexec _ (by rw [hev]; exact run_fieldAt' hf w g og)
      refine wp_value hrun ⟨_, hK, ?_⟩
      rw [hod]
      refine sim_val h d hd _ _ ⟨[_], rfl, g, og + off, _, rfl, hSg, rep_fld k τ y off u hrr hoff hu, ?_⟩
      intro q v hq
      rw [List.getElem?_take] at hq
      split at hq
      · rw [List.getElem?_drop] at hq
        have := hc (off + q) v hq
        rwa [← Nat.add_assoc] at this
      · cases hq
    · exact hp.elim
  · split at hp
    · rename_i j p hx
      split at hp
      · rename_i u hu
        split at hp
        · rename_i off hoff
          obtain ⟨hf, hjd, hK⟩ := hp
          obtain ⟨hg, hi, g, og, hl, hev⟩ := refOf_ok h hb hx hu
          have hrun := hexec _ (by rw [hev]; exact run_fieldAt' hf w g og)
          refine wp_value hrun ⟨_, hK, ?_⟩
          rw [hod]
          obtain ⟨u', hu1, hu2, _⟩ := getAt_one k u.t u.x off hoff
          obtain ⟨q1, q2, q3⟩ := rloc_snoc (.fld k) hi hu hl hu2
          rw [locAt_one k u.t w g og off hoff] at q3
          refine sim_val h d hd _ _ (srep_ref_put (F := BS.bot) (S := S) hjd ?_)
          refine ⟨by rw [hg]; exact Nat.le_refl _, fun _ => ⟨by rw [hg]; exact Nat.le_refl _, fun _ => ?_⟩⟩
          rw [hg]
          exact ⟨q1, g, og + off, q3, rfl⟩
        · exact hp.elim
      · exact hp.elim
    · exact hp.elim
end
end Go.Tv
