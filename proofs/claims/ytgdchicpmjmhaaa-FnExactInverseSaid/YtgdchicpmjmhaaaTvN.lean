/-
  Rows, as operations on slots: append, literals, make. Conditions: none; plain definitions and lemmas.
-/
import Derived.Test.YtgdchicpmjmhaaaTvM
namespace Go.Tv
set_option linter.unusedVariables false
set_option linter.unusedSimpArgs false
variable {P : Program}
section
variable {n : Sz} {w0 : World} {S0 F0 : BS} {get rd : Rd} {a : Act} {w : World} {S : BS} {fp : Tmp → BS}

/-- what is read of an operand, to be appended -/
def srcV (rd : Rd) (t : Ty) (y : Operand) : Option (List t.den) :=
  match rowAt rd y with
  | some (.shared r) => coe (.slice r.t) (.slice t) r.xs
  | some (.held _ _ _ _ r) => if t.free then coe (.slice r.t) (.slice t) r.xs else none
  | none => match (rdO rd y).1 with
    | .nil => some []
    | .val ⟨.str, s⟩ => coe (.slice (.int .u8)) (.slice t) (s.map fun b => (b.toNat : Int))
    | _ => none

theorem els_shared {t : Ty} {S : BS} {g : Nat} : ∀ (xs : List t.den) (o : Nat), (∀ i (h : i < xs.length), ∃ ci, Rep P t w S BS.bot xs[i] ci ∧ CellsAt w g (o + i * t.sz) ci) → ∃ cells, Els P t w S (fun _ => BS.bot) xs cells ∧ CellsAt w g o cells
  | [], o, _ => ⟨[], ⟨by simp, fun i hi => absurd hi (Nat.not_lt_zero _)⟩, fun k v hk => by simp at hk⟩
  | x :: xs, o, h => by
    obtain ⟨c0, r0, k0⟩ := h 0 (by simp)
    obtain ⟨cs, hE, hC⟩ := els_shared xs (o + t.sz) (fun i hi => by
      obtain ⟨ci, r, k⟩ := h (i + 1) (by simpa using hi)
      refine ⟨ci, by simpa using r, ?_⟩
      rw [Nat.add_assoc, Nat.add_comm t.sz, ← Nat.succ_mul]
      exact k)
    simp only [List.getElem_cons_zero] at r0
    have hl := rep_len _ r0
    refine ⟨c0 ++ cs, ?_, ?_⟩
    · have h0 : Els P t w S (fun _ => BS.bot) [x] c0 := ⟨by simp [hl], fun i hi => by
        have : i = 0 := by simpa using hi
        subst this
        simpa [← hl] using r0⟩
      have := els_app h0 hE
      simpa using this
    · rw [Nat.zero_mul, Nat.add_zero] at k0
      intro k v hk
      by_cases hlt : k < c0.length
      · exact k0 k v (by rwa [List.getElem?_append_left hlt] at hk)
      · rw [List.getElem?_append_right (by omega)] at hk
        have := hC _ v hk
        rwa [hl, show o + t.sz + (k - t.sz) = o + k from by omega] at this

theorem els_held {t : Ty} {S : BS} {Fs : Nat → BS} {xs : List t.den} {g cap : Nat} {cur : Array Value} {e : TypeId} (hg : w.heap[g]? = some (.cells cur e (0, 0))) (h1 : xs.length ≤ cap) (h3 : cur.size = cap * t.sz)
    (he : ∀ i (h : i < xs.length), Rep P t w S (Fs i) xs[i] ((cur.toList.drop (i * t.sz)).take t.sz)) : Els P t w S Fs xs (cur.toList.take (xs.length * t.sz)) ∧ CellsAt w g 0 (cur.toList.take (xs.length * t.sz)) := by
  have hmul : xs.length * t.sz ≤ cap * t.sz := Nat.mul_le_mul_right _ h1
  refine ⟨⟨by simp; omega, fun i hi => ?_⟩, ?_⟩
  · have hm1 : (i + 1) * t.sz ≤ xs.length * t.sz := Nat.mul_le_mul_right _ hi
    rw [Nat.add_mul, Nat.one_mul] at hm1
    rw [← drop_take_of_take (l := cur.toList) (N := xs.length * t.sz) rfl (by omega)]
    exact he i hi
  · have := cellsAt_row (w := w) (n := xs.length * t.sz) (a := 0) hg
    simpa using this

theorem els_free {t : Ty} {S : BS} {Fs : Nat → BS} {xs : List t.den} {cells : List Value} (hf : t.free = true) (h : Els P t w S Fs xs cells) : Els P t w S (fun _ => BS.bot) xs cells := ⟨h.1, fun i hi => rep_free _ hf (h.2 i hi)⟩

def pKind (P : Program) (tx : TypeId) : Bool := match P.underlying tx with | some (.slice _) => true | some .string => true | _ => false
theorem pKind_some {tx : TypeId} (h : pKind P tx = true) : (∃ e', P.underlying tx = some (.slice e')) ∨ P.underlying tx = some .string := by
  unfold pKind at h
  split at h
  · rename_i e' h'; exact .inl ⟨e', h'⟩
  · rename_i h'; exact .inr h'
  · cases h

theorem src_of_row {t : Ty} {S : BS} {xs : List t.den} {Fs : Nat → BS} {cells : List Value} {tx : TypeId} {g o c : Nat} (hk : (∃ e', P.underlying tx = some (.slice e')) ∨ P.underlying tx = some .string) (hE : Els P t w S Fs xs cells) (hC : CellsAt w g o cells) :
    Src P t.sz tx (.slice (some ⟨g, o, none⟩) xs.length c) xs.length cells w :=
  have hc : ∀ j u, cells[j]? = some u → w.cell? ((⟨g, o, none⟩ : Addr).add j) = some u := fun j u hj => by rw [Addr.add_lit]; exact hC j u hj
  ⟨hk, fun _ => rfl, run_firstCells_some w t.sz _ _ _ c cells hE.1 hc, run_firstCells_some w.drew t.sz _ _ _ c cells hE.1 (by simpa using hc), hE.1, els_one hE⟩
theorem src_of_none {t : Ty} {tx : TypeId} {c : Nat} (hk : (∃ e', P.underlying tx = some (.slice e')) ∨ P.underlying tx = some .string) : Src P t.sz tx (.slice none 0 c) 0 [] w :=
  ⟨hk, fun _ => rfl, run_firstCells_none w t.sz 0 0 c, run_firstCells_none w.drew t.sz 0 0 c, by simp, fun _ h => by cases h⟩

theorem src_ok (h : SimX P n w0 S0 F0 get a w S fp) (hb : Below rd get) {t : Ty} {y : Operand} {ys : List t.den} (hy : srcV rd t y = some ys) {tx : TypeId} (hk : pKind P tx = true) :
    ∃ news, Src P t.sz tx (a.eval y) ys.length news w ∧ Els P t w S (fun _ => BS.bot) ys news := by
  have hk' := pKind_some hk
  unfold srcV at hy
  split at hy
  · rename_i r hr
    obtain ⟨cs, hev, A, c, rfl, h1, h2, h3⟩ := rowAt_shared h hb hr
    obtain ⟨he, hyx⟩ := coe_some hy
    obtain ⟨t', xs⟩ := r
    simp only [Ty.slice.injEq] at he
    subst he
    have hyx' : ys = xs := hyx
    subst hyx'
    rw [hev]
    show ∃ news, Src P t'.sz tx (.slice A ys.length c) ys.length news w ∧ _
    by_cases hx : ys = []
    · subst hx
      cases A with
      | none => exact ⟨[], src_of_none hk', by simp [Els]⟩
      | some ad => exact ⟨[], ⟨hk', fun _ => rfl, run_firstCells_some w t'.sz _ ad _ c [] (by simp) (by simp), run_firstCells_some w.drew t'.sz _ ad _ c [] (by simp) (by simp), by simp, fun _ h => by cases h⟩, by simp [Els]⟩
    · obtain ⟨g, o, rfl, hg, he⟩ := h3 hx
      obtain ⟨cells, hE, hC⟩ := els_shared ys o he
      exact ⟨cells, src_of_row hk' hE hC, hE⟩
  · rename_i j p k m r hr
    split at hy
    · rename_i hf
      obtain ⟨e, hg, hv, hu, _, cs, Fv, hxv, hrep, hsub, hel⟩ := rowAt_held h hb hr
      obtain ⟨he, hyx⟩ := coe_some hy
      obtain ⟨t', xs⟩ := r
      simp only [Ty.slice.injEq] at he
      subst he
      have hyx' : ys = xs := hyx
      subst hyx'
      rw [hxv]
      rcases hrep with ⟨rfl, hx0⟩ | ⟨gi, cap, cur, rfl, hFg, hgi, q1, q2, q3, Fs, hFs, hng, hdd, he⟩
      · have hx0' : ys = [] := hx0
        subst hx0'
        exact ⟨[], src_of_none hk', by simp [Els]⟩
      · obtain ⟨hE, hC⟩ := els_held (xs := ys) hgi q1 q3 he
        exact ⟨_, src_of_row hk' (els_free hf hE) hC, els_free hf hE⟩
    · cases hy
  · split at hy
    · rename_i hs
      simp only [Option.some.injEq] at hy
      subst hy
      have := rdO_rep (s := .nil) (nm := (rdO rd y).2) h hb (by rw [← hs]) (by simp)
      rw [show a.eval y = _ from this]
      exact ⟨[], src_of_none hk', by simp [Els]⟩
    · rename_i s hs
      have hev := str_eval h hb (x := y) (q := s) (by rw [hs]; rfl)
      obtain ⟨he, hyx⟩ := coe_some hy
      simp only [Ty.slice.injEq] at he
      subst he
      have hyx' : ys = (s.map fun b => (b.toNat : Int) : List Int) := hyx
      subst hyx'
      rw [hev.1]
      have hbl := byteCells_length ⟨s.toArray⟩
      have hsz : (⟨s.toArray⟩ : ByteArray).size = s.length := by simp [ByteArray.size]
      have hlen : (s.map fun b => (b.toNat : Int)).length = s.length := by simp
      refine ⟨byteCells ⟨s.toArray⟩, ?_, ?_⟩
      · have hfc : ∀ w' : World, (Builtin.firstCells 1 (⟨s.toArray⟩ : ByteArray).size (.string ⟨s.toArray⟩)).run P w' = .ok (byteCells ⟨s.toArray⟩).toArray w' := fun w' => firstCells_string _ w'
        refine ⟨hk', fun w' => ?_, ?_, ?_, ?_, ?_⟩
        · simp [Builtin.lenOf, hsz]
        · rw [hlen, ← hsz]; exact hfc w
        · rw [hlen, ← hsz]; exact hfc w.drew
        · rw [hbl, hsz, hlen]; simp [Ty.sz]
        · intro u hu
          obtain ⟨_, _, rfl⟩ := List.mem_map.1 hu
          rfl
      · refine ⟨by rw [hbl, hsz]; simp [Ty.sz], fun i hi => ?_⟩
        have hi' : i < s.length := by simpa using hi
        have hcell : ((byteCells ⟨s.toArray⟩).drop (i * 1)).take 1 = [Value.int .u8 (s[i].toNat : Int)] := by
          have : byteCells ⟨s.toArray⟩ = s.map fun b => Value.int .u8 b.toNat := by simp [byteCells]
          rw [this, Nat.mul_one]
          rw [List.drop_eq_getElem_cons (by simpa using hi')]
          simp
        show Rep P (.int .u8) w S BS.bot _ (((byteCells ⟨s.toArray⟩).drop (i * 1)).take 1)
        rw [hcell]
        refine ⟨by simp, ?_⟩
        have := s[i].toNat_lt
        simp [IntKind.wrap, IntKind.bits, IntKind.signed]
        omega
    · cases hy

/-! #### append -/
def pAppend (P : Program) (T : TypeId → Option Ty) (rd : Rd) (d : Tmp) (tT tx : TypeId) (x y : Operand) (K : Patch → Prop) : Prop :=
  match T tT with
  | some (.own e t) => pElem P tT = some e ∧ pSize P e = some t.sz ∧ 0 < t.sz ∧ (pZero P e).map (·.cells.size) = some t.sz ∧ pKind P tx = true ∧
    match takeV rd (some (.own e t)) x with
    | some (v, pt) => match coe v.t (.own e t) v.x, pBytes P e with
      | some xs, some by' => noKey d pt = true ∧
        match srcV rd t y with
        | some ys => ((List.length xs + List.length ys) * by' ≤ 140737488355328 ∧ List.length xs + List.length ys ≤ maxLen) ∧ K (pt ++ [(d, .val ⟨.own e t, (xs ++ ys : List t.den)⟩, .new)])
        | none => match takeV rd (some (.own e t)) y with
          | some (v2, pt2) => match coe v2.t (.own e t) v2.x with
            | some ys => noKey d pt2 = true ∧ keysApart pt pt2 = true ∧ ((List.length xs + List.length ys) * by' ≤ 140737488355328 ∧ List.length xs + List.length ys ≤ maxLen) ∧ K (pt ++ pt2 ++ [(d, .val ⟨.own e t, (xs ++ ys : List t.den)⟩, .new)])
            | none => False
          | none => False
      | _, _ => False
    | none => False
  | _ => False

theorem coe_v {v : V} {t : Ty} {x : t.den} (h : coe v.t t v.x = some x) : v = ⟨t, x⟩ := by
  obtain ⟨e, rfl⟩ := coe_some h
  obtain ⟨t', y⟩ := v
  have e' : t' = t := e
  subst e'
  rfl

theorem many_dis (h : SimX P n w0 S0 F0 get a w S fp) {us : List Value} {vs : List V} {pt : Patch} {Sx : BS} {Fv : Nat → BS} (hm : Many P get a w S fp us vs pt Sx Fv) (i : Nat) : BS.dis (BS.un S Sx) (Fv i) := by
  rintro g (hg | hg) hf
  · obtain ⟨e, _, he⟩ := hm.fv i g hf
    exact h.sapart e.1 g hg he
  · exact hm.sxd i g hg hf
theorem many_bd (h : SimX P n w0 S0 F0 get a w S fp) {us : List Value} {vs : List V} {pt : Patch} {Sx : BS} {Fv : Nat → BS} (hm : Many P get a w S fp us vs pt Sx Fv) : (∀ i g, Fv i g → g < w.heap.size) ∧ (∀ g, BS.un S Sx g → g < w.heap.size) := by
  refine ⟨fun i g hg => ?_, ?_⟩
  · obtain ⟨e, _, he⟩ := hm.fv i g hg
    exact (h.fpb e.1 g he).2
  · rintro g (hg | hg)
    · exact (h.sb g hg).2
    · obtain ⟨e, _, he⟩ := hm.sx g hg
      exact (h.fpb e.1 g he).2

theorem noKey_app {d : Tmp} {p q : Patch} (h1 : noKey d p = true) (h2 : noKey d q = true) : noKey d (p ++ q) = true := by
  unfold noKey at *
  rw [List.all_append, h1, h2]; rfl

theorem append_sim (h : SimX P n w0 S0 F0 get a w S fp) (hb : Below rd get) {T : TypeId → Option Ty} {d : Tmp} (hd : d < n.sz) {tT tx : TypeId} {x y : Operand} {o : Oper} (ho : o.op = .call { callee := .builtin .append, args := #[x, y], argTypes := #[tT, tx] }) (hod : o.dst = some d)
    {K : Patch → Prop} {Q : Exit → Act → World → Prop} (hp : pAppend P T rd d tT tx x y K) : o.wp P a w (Nx P n w0 S0 F0 get K) Q := by
  unfold pAppend at hp
  have fin : ∀ {v w'}, (Builtin.append_ #[tT, tx] o.type #[a.eval x, a.eval y]).run P w = .ok v w' → Nx P n w0 S0 F0 get K (a.put (some d) v) w' → o.wp P a w (Nx P n w0 S0 F0 get K) Q := by
    intro v w' hr hk
    refine wp_value (v := v) (w' := w') ?_ (by rw [hod]; exact hk)
    unfold execOp
    simp only [ho, resolve, invoke, builtin, Sem.run_bind, Sem.run_pure, Result.andThen_ok, List.map_toArray, List.map_cons, List.map_nil, hr]
  split at hp
  · rename_i e t hT
    obtain ⟨hel, hsz, hpos, hz, hk, hp⟩ := hp
    obtain ⟨z, hz, hzs⟩ := Option.map_eq_some_iff.1 hz
    split at hp
    · rename_i v pt ht
      split at hp
      · rename_i xs by' hco hby
        obtain ⟨hnk, hp⟩ := hp
        have hv := coe_v hco
        subst hv
        obtain ⟨F1, hgot⟩ := take_got h hb ht
        split at hp
        · rename_i ys hy
          obtain ⟨⟨hb1, hb2⟩, hK⟩ := hp
          obtain ⟨news, hs, hE⟩ := src_ok h hb hy hk
          have hm := many_cons h hgot many_nil (by intro e1 e2 _ h2; cases h2)
          simp only [List.append_nil] at hm
          obtain ⟨cs, hu0, hr0⟩ := hm.rep 0 (by simp)
          simp only [List.getElem?_cons_zero, Option.some.injEq, List.getElem_cons_zero] at hu0 hr0
          obtain ⟨v', w', G, hr, hkp, hG, hrep⟩ := append_core (S := BS.un S _) (F2 := BS.bot) (Fs2 := fun _ => BS.bot) (ty := o.type) hr0 hel hsz hz hzs hby hpos hs (fun _ => BS.sub_refl _) (fun _ _ _ => BS.dis_bot _)
            ⟨hE.1, fun i hi => rep_mono _ (hE.2 i hi) (fun g hg => .inl hg) (BS.sub_refl _)⟩ (BS.dis_bot _) (many_dis h hm 0) hb1 hb2 (many_bd h hm).2 ((many_bd h hm).1 0) (fun _ hg => hg.elim)
          rw [← hu0] at hr
          refine fin hr ⟨_, hK, sim_many h hm d hd hnk _ _ G BS.bot w' _ hkp (fun g hg => ⟨0, hg⟩) (fun g hg => ?_) (fun _ hg => hg.elim) (BS.bot_dis _) ⟨[v'], rfl, rep_mono _ hrep ?_ (BS.sub_refl _)⟩⟩
          · rcases hG g hg with hg | hg | hg
            · exact .inl ⟨0, hg⟩
            · exact hg.elim
            · exact .inr hg
          · exact fun g hg => hg.imp id .inl
        · split at hp
          · rename_i v2 pt2 ht2
            split at hp
            · rename_i ys hco2
              obtain ⟨hnk2, hka, ⟨hb1, hb2⟩, hK⟩ := hp
              have hv2 := coe_v hco2
              subst hv2
              obtain ⟨F2, hgot2⟩ := take_got h hb ht2
              have hm2 := many_cons h hgot2 many_nil (by intro e1 e2 _ h2; cases h2)
              have hm := many_cons h hgot hm2 (fun e1 e2 m1 m2 => by
                have := List.all_eq_true.1 (List.all_eq_true.1 hka e1 m1) e2 (by simpa using m2)
                simpa using this)
              simp only [List.append_nil] at hm
              obtain ⟨cs, hu0, hr0⟩ := hm.rep 0 (by simp)
              obtain ⟨cs1, hu1, hr1⟩ := hm.rep 1 (by simp)
              simp only [List.getElem?_cons_zero, List.getElem?_cons_succ, Option.some.injEq, List.getElem_cons_zero, List.getElem_cons_succ] at hu0 hr0 hu1 hr1
              have hsrc : ∃ news Fs2, Src P t.sz tx (a.eval y) (ys : List t.den).length news w ∧ (∀ i, BS.sub (Fs2 i) F2) ∧ (∀ i j, i ≠ j → BS.dis (Fs2 i) (Fs2 j)) ∧ Els P t w (BS.un S (BS.un BS.bot (BS.un BS.bot BS.bot))) Fs2 ys news := by
                rw [hu1]
                rcases hr1 with ⟨rfl, hx0⟩ | ⟨gi, cap, cur, rfl, hFg, hgi, q1, q2, q3, Fs, hFs, hng, hdd, he⟩
                · have hx0' : ys = [] := hx0
                  subst hx0'
                  exact ⟨[], fun _ => BS.bot, src_of_none (pKind_some hk), fun _ => BS.bot_sub _, fun _ _ _ => BS.dis_bot _, by simp [Els]⟩
                · obtain ⟨hE, hC⟩ := els_held (xs := ys) hgi q1 q3 he
                  exact ⟨_, Fs, src_of_row (pKind_some hk) hE hC, hFs, hdd, hE⟩
              obtain ⟨news, Fs2, hs, hF2, hdd2, hE⟩ := hsrc
              obtain ⟨v', w', G, hr, hkp, hG, hrep⟩ := append_core (ty := o.type) hr0 hel hsz hz hzs hby hpos hs hF2 hdd2 hE (hm.fvd 0 1 (by simp)) (many_dis h hm 0) hb1 hb2 (many_bd h hm).2 ((many_bd h hm).1 0) ((many_bd h hm).1 1)
              rw [← hu0] at hr
              refine fin hr ⟨_, hK, sim_many h hm d hd (noKey_app hnk hnk2) _ _ G BS.bot w' _ hkp (fun g hg => ⟨0, hg⟩) (fun g hg => ?_) (fun _ hg => hg.elim) (BS.bot_dis _) ⟨[v'], rfl, rep_mono _ hrep ?_ (BS.sub_refl _)⟩⟩
              · rcases hG g hg with hg | hg | hg
                · exact .inl ⟨0, hg⟩
                · exact .inl ⟨1, hg⟩
                · exact .inr hg
              · exact fun g hg => hg.imp id .inl
            · exact hp.elim
          · exact hp.elim
      · exact hp.elim
    · exact hp.elim
  · exact hp.elim
end
end Go.Tv
