/-
  Row literals, make, parts of tuples, choice, equality with nil. Conditions: none; plain definitions and lemmas.
-/
import Derived.Test.YtgdchicpmjmhaaaTvN
namespace Go.Tv
set_option linter.unusedVariables false
set_option linter.unusedSimpArgs false
variable {P : Program}

theorem fill_row (sz : Nat) : ∀ (us : List Value) (css : Nat → List Value) (k : Nat) (cells : Array Value), (∀ i (h : i < us.length), us[i].cells = (css i).toArray ∧ (css i).length = sz) → (k + us.length) * sz ≤ cells.size →
    ∃ cells' : Array Value, Instr.fill (fun i => some (i * sz, sz)) cells ((List.range' k us.length).zip us) = some cells' ∧ cells'.size = cells.size ∧ (∀ i, i < us.length → (cells'.toList.drop ((k + i) * sz)).take sz = css i) ∧
      ∀ a m, a + m ≤ k * sz → (cells'.toList.drop a).take m = (cells.toList.drop a).take m
  | [], css, k, cells, h, hle => ⟨cells, by simp [Instr.fill], rfl, fun i hi => absurd hi (Nat.not_lt_zero _), fun _ _ _ => rfl⟩
  | u :: us, css, k, cells, h, hle => by
    obtain ⟨h1, h2⟩ := h 0 (by simp)
    simp only [List.getElem_cons_zero] at h1
    have hle' : k * sz + (us.length + 1) * sz ≤ cells.size := by rw [← Nat.add_mul]; simpa using hle
    rw [Nat.add_mul, Nat.one_mul] at hle'
    have hfold := fold_seg (css 0) (k * sz) 0 cells (by rw [h2]; omega)
    have hsz : ((((css 0).zipIdx 0).foldl (fun cs (x : Value × Nat) => cs.setIfInBounds (k * sz + x.2) x.1) cells)).size = cells.size := by
      rw [← Array.length_toList, hfold]
      rw [seg_length (by simp [h2]; omega)]
      simp
    obtain ⟨cells', q1, q2, q3, q4⟩ := fill_row sz us (fun i => css (i + 1)) (k + 1) ((((css 0).zipIdx 0).foldl (fun cs (x : Value × Nat) => cs.setIfInBounds (k * sz + x.2) x.1) cells)) (fun i hi => by
      have := h (i + 1) (by simpa using hi)
      simpa using this) (by rw [hsz]; rw [Nat.add_mul, Nat.add_mul, Nat.one_mul]; omega)
    refine ⟨cells', ?_, q2.trans hsz, ?_, ?_⟩
    · simp only [List.length_cons, List.range'_succ, List.zip_cons_cons, Instr.fill]
      simp only [h1, List.size_toArray, h2]
      rw [if_neg (by simp; omega)]
      have hz : ((css 0).toArray.zipIdx.foldl (fun cs (x : Value × Nat) => cs.setIfInBounds (k * sz + x.2) x.1) cells) = ((css 0).zipIdx 0).foldl (fun cs (x : Value × Nat) => cs.setIfInBounds (k * sz + x.2) x.1) cells := by
        rw [← Array.foldl_toList]
        congr 1
        simp
      rw [← q1]
      congr 1
    · intro i hi
      cases i with
      | zero =>
        rw [Nat.add_zero, q4 (k * sz) sz (by rw [Nat.add_mul, Nat.one_mul]; exact Nat.le_refl _), hfold, Nat.add_zero, ← h2]
        exact seg_same (by simp [h2]; omega)
      | succ i =>
        have := q3 i (by simpa using hi)
        rw [show k + (i + 1) = k + 1 + i from by omega]
        exact this
    · intro b m hbm
      rw [q4 b m (by rw [Nat.add_mul]; omega), hfold, Nat.add_zero]
      exact seg_other (by simp [h2]; omega) (.inl hbm)

def coeAll (t : Ty) : List V → Option (List t.den)
  | [] => some []
  | v :: vs => (coe v.t t v.x).bind fun x => (coeAll t vs).map (x :: ·)
theorem coeAll_some {t : Ty} : ∀ {vs : List V} {xs : List t.den}, coeAll t vs = some xs → vs = xs.map (fun x => V.mk t x)
  | [], xs, h => by simp only [coeAll, Option.some.injEq] at h; subst h; rfl
  | v :: vs, xs, h => by
    simp only [coeAll, Option.bind_eq_some_iff, Option.map_eq_some_iff] at h
    obtain ⟨x, hx, ys, hy, rfl⟩ := h
    rw [coeAll_some hy, coe_v hx]; rfl

section
variable {n : Sz} {w0 : World} {S0 F0 : BS} {get rd : Rd} {a : Act} {w : World} {S : BS} {fp : Tmp → BS}

/-! #### a row literal -/
def pBuildSlice (P : Program) (T : TypeId → Option Ty) (rd : Rd) (d : Tmp) (tT : TypeId) (len : Nat) (parts : List (Nat × Operand)) (K : Patch → Prop) : Prop :=
  match T tT with
  | some (.own e t) => pElem P tT = some e ∧ pSize P e = some t.sz ∧ (pZero P e).isSome = true ∧
    match manyV rd (parts.map fun q => (!t.free, some t, q.2)) with
    | some (vs, pt) => match coeAll t vs with
      | some xs => parts.map (·.1) = List.range' 0 len ∧ len * t.sz ≤ 16777216 ∧ (len ≠ 0 → 0 < t.sz) ∧ noKey d pt = true ∧ K (pt ++ [(d, .val ⟨.own e t, xs⟩, .new)])
      | none => False
    | none => False
  | _ => False

theorem buildSlice_sim (h : SimX P n w0 S0 F0 get a w S fp) (hb : Below rd get) {T : TypeId → Option Ty} {d : Tmp} (hd : d < n.sz) {tT : TypeId} {len : Nat} {parts : Array (Nat × Operand)} {o : Oper} (ho : o.op = .buildSlice tT len parts) (hod : o.dst = some d) {K : Patch → Prop} {Q : Exit → Act → World → Prop} (hp : pBuildSlice P T rd d tT len parts.toList K) : o.wp P a w (Nx P n w0 S0 F0 get K) Q := by
  unfold pBuildSlice at hp
  split at hp
  · rename_i e t hT
    obtain ⟨hel, hsz, hz, hp⟩ := hp
    obtain ⟨z, hz⟩ := Option.isSome_iff_exists.1 hz
    split at hp
    · rename_i vs pt hm
      split at hp
      · rename_i xs hxs
        obtain ⟨hidx, h24, hpos, hnk, hK⟩ := hp
        have hvs := coeAll_some hxs
        obtain ⟨Sx, Fv, hmany⟩ := many_got h hb hm
        have ht := pElem_some hel
        obtain ⟨ie, hi, hisz⟩ := pSize_some hsz
        have hiz : ie.zero = some z := by unfold pZero at hz; rw [hi] at hz; exact hz
        have hxl : xs.length = len := by
          have h1 := hmany.len
          have h2 := congrArg List.length hidx
          rw [hvs] at h1
          simp at h1 h2
          omega
        have hus : ((parts.toList.map fun q => (!t.free, some t, q.2)).map fun q => a.eval q.2.2) = parts.toList.map fun q => a.eval q.2 := by simp
        rw [hus] at hmany
        have hpl : (parts.map fun (i, x) => (i, a.eval x)).toList = (List.range' 0 len).zip (parts.toList.map fun q => a.eval q.2) := by
          rw [← hidx, List.zip_map', Array.toList_map]
        have hlen : (parts.toList.map fun q => a.eval q.2).length = len := by rw [hmany.len, hvs]; simp [hxl]
        -- what the parts' cells are
        have hcs : ∃ css : Nat → List Value, ∀ i (hi : i < (parts.toList.map fun q => a.eval q.2).length), ((parts.toList.map fun q => a.eval q.2)[i]).cells = (css i).toArray ∧ (css i).length = t.sz ∧ ∀ hx : i < xs.length, Rep P t w (BS.un S Sx) (Fv i) xs[i] (css i) := by
          have : ∀ i, ∃ cs : List Value, ∀ (hi : i < (parts.toList.map fun q => a.eval q.2).length), ((parts.toList.map fun q => a.eval q.2)[i]).cells = cs.toArray ∧ cs.length = t.sz ∧ ∀ hx : i < xs.length, Rep P t w (BS.un S Sx) (Fv i) xs[i] cs := by
            intro i
            by_cases hi : i < xs.length
            · obtain ⟨cs, e1, e2⟩ := hmany.rep i (by rw [hvs]; simpa using hi)
              have hvi : vs[i]'(by rw [hvs]; simpa using hi) = ⟨t, xs[i]⟩ := by simp [hvs]
              rw [hvi] at e1 e2
              refine ⟨cs, fun hi' => ?_⟩
              rw [List.getElem?_eq_getElem hi'] at e1
              simp only [Option.some.injEq] at e1
              rw [e1]
              exact ⟨toV_cells e2, rep_len _ e2, fun _ => e2⟩
            · exact ⟨[], fun hi' => absurd (by rw [hlen] at hi'; omega) hi⟩
          exact ⟨fun i => Classical.choose (this i), fun i => Classical.choose_spec (this i)⟩
        obtain ⟨css, hcss⟩ := hcs
        obtain ⟨cells', q1, q2, q3, _⟩ := fill_row t.sz (parts.toList.map fun q => a.eval q.2) css 0 ((Array.range (len * ie.size)).map (z.cells[· % z.cells.size]!)) (fun i hi => ⟨(hcss i hi).1, (hcss i hi).2.1⟩) (by simp [hlen, hisz])
        rw [hlen] at q1 q3
        have hrun : (execOp a.eval o).run P w = .ok (.value (.slice (some ⟨w.heap.size, 0, none⟩) len len)) (w.alloc (.cells cells' e)) := by
          unfold execOp
          by_cases h0 : len * ie.size = 0
          · have hl0 : len = 0 := by
              rcases Nat.eq_zero_or_pos len with hx | hx
              · exact hx
              · have := hpos (by omega)
                rw [hisz] at h0
                exact absurd h0 (Nat.ne_of_gt (Nat.mul_pos hx this))
            have hpn : parts = #[] := by
              have := congrArg List.length hidx
              simp [hl0] at this
              exact this
            subst hpn
            subst hl0
            have : cells' = #[] := Array.eq_empty_of_size_eq_zero (by rw [q2]; simp)
            subst this
            simp [ho, Instr.buildSlice, run_underlying ht, sizeOf, typeInfo, hi, newRow, Instr.fill, Array.range_zero']
          · have := run_buildSlice w tT e len (parts.map fun (i, x) => (i, a.eval x)) cells' ie z ht hi hiz (by rw [hisz]; omega) h0 (by rw [hpl, hisz] at *; exact q1)
            simp only [ho, Sem.run_bind, this, Result.andThen_ok]
            rfl
        have hkp := Kp.alloc BS.bot w (.cells cells' e)
        obtain ⟨b1, b2⟩ := many_bd h hmany
        refine wp_value hrun ⟨_, hK, ?_⟩
        rw [hod]
        refine sim_many h hmany d hd hnk _ _ (fun g => g = w.heap.size ∨ ∃ i, Fv i g) BS.bot _ BS.bot hkp (fun _ hg => hg.elim) ?_ (fun _ hg => hg.elim) (BS.bot_dis _) ⟨[.slice (some ⟨w.heap.size, 0, none⟩) len len], rfl, ?_⟩
        · rintro g (rfl | hg)
          · exact .inr ⟨Nat.le_refl _, by simp⟩
          · exact .inl hg
        · have hsize : cells'.size = len * t.sz := by rw [q2]; simp [hisz]
          have hmax : len ≤ maxLen := by
            rcases Nat.eq_zero_or_pos len with hx | hx
            · omega
            · have := hpos (by omega)
              have : len * 1 ≤ len * t.sz := Nat.mul_le_mul_left _ this
              simp only [maxLen]; omega
          have hgl : ∀ i, i < xs.length → i < (parts.toList.map fun q => a.eval q.2).length := fun i hi => by rw [hlen, ← hxl]; exact hi
          rw [← hxl]
          show Rep P (.own e t) _ _ _ xs [.slice (some ⟨w.heap.size, 0, none⟩) xs.length xs.length]
          refine own_mk (xs := xs) (Fs := Fv) (cells := cells'.toList) (.inl rfl) (heap_alloc_new w _) (Nat.le_refl _) (by rw [hxl]; exact hmax) (by rw [hsize, hxl]) (fun i _ g hg => .inr ⟨i, hg⟩) (fun i _ hg => absurd (b1 i _ hg) (Nat.lt_irrefl _)) (fun i j _ _ hij => hmany.fvd i j hij) ⟨by simp [hsize, hxl], fun i hi => ?_⟩ (by rw [hxl, ← hsize, ← Array.length_toList, List.take_length])
          have h3 := q3 i (by rw [← hxl]; exact hi)
          rw [Nat.zero_add] at h3
          rw [h3]
          exact rep_mono _ (rep_keep _ ((hcss i (hgl i hi)).2.2 hi) (hkp.keepS (BS.dis_bot _) b2) (hkp.keepS (BS.dis_bot _) (b1 i))) (fun g hg => hg.imp id .inl) (BS.sub_refl _)
      · exact hp.elim
    · exact hp.elim
  · exact hp.elim

/-! #### make -/
def pMakeSlice (P : Program) (T : TypeId → Option Ty) (rd : Rd) (d : Tmp) (tT : TypeId) (l c : Operand) (K : Patch → Prop) : Prop :=
  match T tT, intS (rdO rd l).1, intS (rdO rd c).1 with
  | some (.own e t), some (_, ln), some (_, cp) => pElem P tT = some e ∧ pSize P e = some t.sz ∧ pZero P e = some (t.toV t.zeroC) ∧ t.zOk = true ∧
    match pBytes P e with
    | some by' => (0 ≤ ln ∧ ln ≤ cp ∧ (by' : Int) * cp ≤ 281474976710656 ∧ cp ≤ 9223372036854775807) ∧ K [(d, .val ⟨.own e t, (List.replicate ln.toNat t.dflt : List t.den)⟩, .new)]
    | none => False
  | _, _, _ => False

theorem makeSlice_sim (h : SimX P n w0 S0 F0 get a w S fp) (hb : Below rd get) {T : TypeId → Option Ty} {d : Tmp} (hd : d < n.sz) {tT : TypeId} {l c : Operand} {o : Oper} (ho : o.op = .makeSlice tT l c) (hod : o.dst = some d) {K : Patch → Prop} {Q : Exit → Act → World → Prop} (hp : pMakeSlice P T rd d tT l c K) : o.wp P a w (Nx P n w0 S0 F0 get K) Q := by
  unfold pMakeSlice at hp
  split at hp
  · rename_i e t kl ln kc cp hT hl hc
    obtain ⟨hel, hsz, hz, hzo, hp⟩ := hp
    split at hp
    · rename_i by' hby
      obtain ⟨⟨h0, hlc, hbb, h63⟩, hK⟩ := hp
      have ht := pElem_some hel
      obtain ⟨ie, hi, hisz⟩ := pSize_some hsz
      have hiz : ie.zero = some (t.toV t.zeroC) := by unfold pZero at hz; rw [hi] at hz; exact hz
      have hiby : ie.bytes = by' := by unfold pBytes at hby; rw [hi] at hby; simpa using hby
      have hzr := fun w S => zero_rep (P := P) t w S hzo
      have hzl := rep_len _ (hzr w BS.bot)
      have hzc : (t.toV t.zeroC).cells = t.zeroC.toArray := toV_cells (hzr w BS.bot)
      have hr := run_make (P := P) w tT e ie _ ht hi hiz kl kc ln cp h0 hlc (by rw [hiby]; exact hbb) h63
      have hrun : (execOp a.eval o).run P w = .ok (.value (.slice (some ⟨w.heap.size, 0, none⟩) ln.toNat cp.toNat)) (w.alloc (.cells (madeCells (t.toV t.zeroC).cells (cp.toNat * ie.size)) e)) := by
        unfold execOp
        simp only [ho, (int_eval h hb hl).1, (int_eval h hb hc).1, Sem.run_bind, hr, Result.andThen_ok]
        rfl
      refine wp_value hrun ⟨_, hK, ?_⟩
      rw [hod]
      refine sim_dst h d hd _ _ (fun g => g = w.heap.size) BS.bot _ (Kp.alloc BS.bot w _) ?_ (fun _ hg => hg.elim) (BS.bot_dis _) ⟨[.slice (some ⟨w.heap.size, 0, none⟩) ln.toNat cp.toNat], rfl, ?_⟩
      · rintro g rfl
        exact ⟨Nat.le_refl _, by simp⟩
      · have hln : (List.replicate ln.toNat t.dflt).length = ln.toNat := by simp
        have hle : ln.toNat ≤ cp.toNat := by omega
        rw [show Value.slice (some ⟨w.heap.size, 0, none⟩) ln.toNat cp.toNat = .slice (some ⟨w.heap.size, 0, none⟩) (List.replicate ln.toNat t.dflt).length cp.toNat from by rw [hln]]
        have hcell : ∀ i, i < cp.toNat → ((madeCells (t.toV t.zeroC).cells (cp.toNat * ie.size)).toList.drop (i * t.sz)).take t.sz = t.zeroC := by
          intro i hic
          have hmul : (i + 1) * t.sz ≤ cp.toNat * t.sz := Nat.mul_le_mul_right _ hic
          rw [Nat.add_mul, Nat.one_mul] at hmul
          rw [hzc, hisz]
          unfold madeCells
          apply List.ext_getElem
          · simp only [Array.toList_map, Array.toList_range, List.length_take, List.length_drop, List.length_map, List.length_range, hzl]
            omega
          · intro k hk1 hk2
            rw [hzl] at hk2
            simp only [Array.toList_map, Array.toList_range, List.getElem_take, List.getElem_drop, List.getElem_map, List.getElem_range, List.size_toArray, hzl]
            have hmod : (i * t.sz + k) % t.sz = k := by rw [Nat.mul_comm, Nat.mul_add_mod, Nat.mod_eq_of_lt hk2]
            rw [hmod]
            simp [hzl, hk2]
        refine own_mk (Fs := fun _ => BS.bot) (cells := ((madeCells (t.toV t.zeroC).cells (cp.toNat * ie.size)).toList.take ((List.replicate ln.toNat t.dflt).length * t.sz))) rfl (heap_alloc_new w _) (by rw [hln]; exact hle) (by simp only [maxLen]; omega) (by rw [size_madeCells, hisz]) (fun _ _ => BS.bot_sub _) (fun _ _ hx => hx) (fun _ _ _ _ _ => BS.dis_bot _) ⟨?_, ?_⟩ rfl
        · have hmul : ln.toNat * t.sz ≤ cp.toNat * t.sz := Nat.mul_le_mul_right _ hle
          have hmc : (madeCells (t.toV t.zeroC).cells (cp.toNat * ie.size)).toList.length = cp.toNat * t.sz := by rw [Array.length_toList, size_madeCells, hisz]
          rw [List.length_take, hmc]
          simp only [List.length_replicate]
          omega
        · intro i hi
          rw [hln] at hi
          have hmul : (i + 1) * t.sz ≤ ln.toNat * t.sz := Nat.mul_le_mul_right _ hi
          rw [Nat.add_mul, Nat.one_mul] at hmul
          rw [← drop_take_of_take (l := (madeCells (t.toV t.zeroC).cells (cp.toNat * ie.size)).toList) (N := (List.replicate ln.toNat t.dflt).length * t.sz) rfl (by rw [hln]; omega), hcell i (by omega)]
          rw [List.getElem_replicate]
          exact hzr _ _
    · exact hp.elim
  · exact hp.elim

/-! #### parts of tuples, choice, equality -/
def pExtract (rd : Rd) (d : Tmp) (x : Operand) (ix : Nat) (K : Patch → Prop) : Prop :=
  match rdO rd x, tmpO x with
  | (.tup vs, _, _), some j => match vs[ix]? with
    | some (some v) => j ≠ d ∧ K [(j, .tup (vs.set ix none), .new), (d, .val v, .new)]
    | _ => False
  | _, _ => False

theorem repT_get : ∀ (vs : List (Option V)) {w : World} {S F : BS} {us : List Value} {ix : Nat} {v : V}, RepT P w S F vs us → vs[ix]? = some (some v) →
    ∃ cs F1 F2, us[ix]? = some (v.t.toV cs) ∧ Rep P v.t w S F1 v.x cs ∧ RepT P w S F2 (vs.set ix none) us ∧ BS.dis F1 F2 ∧ BS.sub F1 F ∧ BS.sub F2 F
  | [], w, S, F, us, ix, v, h, hv => by simp at hv
  | none :: vs, w, S, F, us, ix, v, h, hv => by
    obtain ⟨u, us', rfl, h⟩ := h
    cases ix with
    | zero => simp at hv
    | succ ix =>
      obtain ⟨cs, F1, F2, q1, q2, q3, q4, q5, q6⟩ := repT_get vs h (by simpa using hv)
      exact ⟨cs, F1, F2, by simpa using q1, q2, ⟨u, us', rfl, q3⟩, q4, q5, q6⟩
  | some x :: vs, w, S, F, us, ix, v, h, hv => by
    obtain ⟨u, us', c, G1, G2, rfl, hu, hr, h, hd, h1, h2⟩ := h
    cases ix with
    | zero =>
      simp only [List.getElem?_cons_zero, Option.some.injEq] at hv
      subst hv
      exact ⟨c, G1, G2, by simp [hu], hr, ⟨u, us', rfl, h⟩, hd, h1, h2⟩
    | succ ix =>
      obtain ⟨cs, F1, F2, q1, q2, q3, q4, q5, q6⟩ := repT_get vs h (by simpa using hv)
      refine ⟨cs, F1, BS.un G1 F2, by simpa using q1, q2, ⟨u, us', c, G1, F2, rfl, hu, hr, q3, fun g a b => hd g a (q6 g b), fun _ a => .inl a, fun _ a => .inr a⟩, ?_, fun g a => h2 g (q5 g a), ?_⟩
      · rintro g a (b | b)
        · exact hd g b (q5 g a)
        · exact q4 g a b
      · rintro g (a | a)
        · exact h1 g a
        · exact h2 g (q6 g a)

theorem extract_sim (h : SimX P n w0 S0 F0 get a w S fp) (hb : Below rd get) {d : Tmp} (hd : d < n.sz) {x : Operand} {ix : Nat} {o : Oper} (ho : o.op = .extract x ix) (hod : o.dst = some d) {K : Patch → Prop} {Q : Exit → Act → World → Prop} (hp : pExtract rd d x ix K) : o.wp P a w (Nx P n w0 S0 F0 get K) Q := by
  unfold pExtract at hp
  split at hp
  · rename_i vs k m j hx hj
    split at hp
    · rename_i v hv
      obtain ⟨hjd, hK⟩ := hp
      obtain rfl := tmpO_some hj
      have hg := hb.eq (show rd j = _ from hx) (by simp)
      obtain ⟨us, hu, hr⟩ := rdO_rep h hb hx (by simp)
      obtain ⟨cs, F1, F2, q1, q2, q3, q4, q5, q6⟩ := repT_get vs hr hv
      have hrun : (execOp a.eval o).run P w = .ok (.value (v.t.toV cs)) w := by
        unfold execOp
        have hu' : a.eval (.tmp j) = .tuple us.toArray := hu
        simp [ho, Instr.extract, hu', q1]
      refine wp_value hrun ⟨_, hK, ?_⟩
      rw [hod]
      have hgot : Got P get a w S fp (v.t.toV cs) v [(j, .tup (vs.set ix none), .new)] F1 BS.bot :=
        ⟨cs, rfl, rep_mono _ q2 (fun g hg => .inl hg) (BS.sub_refl _), .inr ⟨j, _, _, F2, rfl, q4, BS.bot_dis _, BS.bot_dis _, q5, q6, BS.bot_sub _, rfl, ⟨us, hu, repT_mono _ q3 (fun g hg => .inl hg) (BS.sub_refl _)⟩, turn_new⟩⟩
      have := sim_got h hgot d hd (by rintro j' s b hh; simp only [List.cons.injEq, Prod.mk.injEq] at hh; rw [← hh.1.1]; exact hjd) (v.t.toV cs) (.val v) F1 w (Kp.refl _ _) (fun g hg => .inl hg) ⟨cs, rfl, rep_mono _ q2 (fun g hg => .inl hg) (BS.sub_refl _)⟩
      exact this
    · exact hp.elim
  · exact hp.elim

def pPick (rd : Rd) (d : Tmp) (c x y : Operand) (K : Patch → Prop) : Prop :=
  match boolS (rdO rd c).1, (rdO rd x).1, (rdO rd y).1 with
  | some b, .val v, .val v' => v.t.free = true ∧ v'.t.free = true ∧ K [(d, .val (if b then v else v'), .new)]
  | _, _, _ => False

theorem pick_sim (h : SimX P n w0 S0 F0 get a w S fp) (hb : Below rd get) {d : Tmp} (hd : d < n.sz) {c x y : Operand} {o : Oper} (ho : o.op = .pick c x y) (hod : o.dst = some d) {K : Patch → Prop} {Q : Exit → Act → World → Prop} (hp : pPick rd d c x y K) : o.wp P a w (Nx P n w0 S0 F0 get K) Q := by
  unfold pPick at hp
  split at hp
  · rename_i b v v' hc hx hy
    obtain ⟨hf, hf', hK⟩ := hp
    obtain ⟨cs, hu, hr⟩ := rdO_rep (s := .val v) (nm := (rdO rd x).2) h hb (by rw [← hx]) (by simp)
    obtain ⟨cs', hu', hr'⟩ := rdO_rep (s := .val v') (nm := (rdO rd y).2) h hb (by rw [← hy]) (by simp)
    have hcb := bool_eval h hb hc
    have hrun : (execOp a.eval o).run P w = .ok (.value (if b then a.eval x else a.eval y)) w := by
      unfold execOp
      simp [ho, hcb, asBool]
    refine wp_value hrun ⟨_, hK, ?_⟩
    rw [hod]
    cases b with
    | true => exact sim_val h d hd _ _ ⟨cs, hu, rep_free _ hf hr⟩
    | false => exact sim_val h d hd _ _ ⟨cs', hu', rep_free _ hf' hr'⟩
  · exact hp.elim
end
end Go.Tv
