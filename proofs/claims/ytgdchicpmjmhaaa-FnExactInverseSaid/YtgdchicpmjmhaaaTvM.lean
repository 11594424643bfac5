/-
  Rows: made, built, grown. Conditions: none; plain definitions and lemmas.
-/
import Derived.Test.YtgdchicpmjmhaaaTvL
import Derived.Deep.AppendSrc
import Derived.Laws.MakeOwn
import Derived.Great.BuildSlice
namespace Go.Tv
set_option linter.unusedVariables false
set_option linter.unusedSimpArgs false
variable {P : Program}

/-! ### cells of a row -/
/-- n data side by side -/
def Els (P : Program) (t : Ty) (w : World) (S : BS) (Fs : Nat → BS) (xs : List t.den) (cells : List Value) : Prop :=
  cells.length = xs.length * t.sz ∧ ∀ i (h : i < xs.length), Rep P t w S (Fs i) xs[i] ((cells.drop (i * t.sz)).take t.sz)

theorem els_one {t : Ty} {w : World} {S : BS} {Fs : Nat → BS} {xs : List t.den} {cells : List Value} (h : Els P t w S Fs xs cells) : ∀ u ∈ cells, u.oneCell' = true := by
  intro u hu
  obtain ⟨i, hi, hm⟩ := mem_rows h.1 hu
  exact rep_one _ (h.2 i hi) u hm
theorem drop_take_of_take {α : Type} {l m : List α} {N a n : Nat} (h : l.take N = m) (hle : a + n ≤ N) : (l.drop a).take n = (m.drop a).take n := by
  subst h
  rw [List.drop_take, List.take_take, Nat.min_eq_left (by omega)]
theorem els_app {t : Ty} {w : World} {S : BS} {F1 F2 : Nat → BS} {xs ys : List t.den} {c1 c2 : List Value} (h1 : Els P t w S F1 xs c1) (h2 : Els P t w S F2 ys c2) :
    Els P t w S (fun i => if i < xs.length then F1 i else F2 (i - xs.length)) (xs ++ ys) (c1 ++ c2) := by
  refine ⟨by simp [h1.1, h2.1, Nat.add_mul], fun i hi => ?_⟩
  have hl1 := h1.1
  by_cases hx : i < xs.length
  · have hmul : (i + 1) * t.sz ≤ xs.length * t.sz := Nat.mul_le_mul_right _ hx
    rw [Nat.add_mul, Nat.one_mul] at hmul
    simp only [if_pos hx]
    rw [List.getElem_append_left hx, List.drop_append_of_le_length (by omega), List.take_append_of_le_length (by simp; omega)]
    exact h1.2 i hx
  · simp only [if_neg hx]
    have hge : xs.length ≤ i := by omega
    have hi2 : i - xs.length < ys.length := by simp at hi; omega
    have hm : i * t.sz = xs.length * t.sz + (i - xs.length) * t.sz := by rw [← Nat.add_mul]; congr 1; omega
    rw [List.getElem_append_right hge, hm, List.drop_append, List.drop_of_length_le (by omega), hl1, Nat.add_sub_cancel_left, List.nil_append]
    exact h2.2 _ hi2

/-- what a row of one's own is, but for nil -/
theorem own_mk {t : Ty} {e : TypeId} {w : World} {S F : BS} {Fs : Nat → BS} {xs : List t.den} {cells : List Value} {g cap : Nat} {cur : Array Value} (hg : F g) (hh : w.heap[g]? = some (.cells cur e (0, 0))) (h1 : xs.length ≤ cap) (h2 : cap ≤ maxLen) (h3 : cur.size = cap * t.sz)
    (hF : ∀ i, i < xs.length → BS.sub (Fs i) F) (hng : ∀ i, i < xs.length → ¬ Fs i g) (hdd : ∀ i j, i < xs.length → j < xs.length → i ≠ j → BS.dis (Fs i) (Fs j)) (he : Els P t w S Fs xs cells) (hc : cur.toList.take (xs.length * t.sz) = cells) :
    Rep P (.own e t) w S F xs [.slice (some ⟨g, 0, none⟩) xs.length cap] := by
  refine .inr ⟨g, cap, cur, rfl, hg, hh, h1, h2, h3, fun i => if i < xs.length then Fs i else BS.bot, ?_, ?_, ?_, ?_⟩
  · intro i
    by_cases hi : i < xs.length
    · simp only [if_pos hi]; exact hF i hi
    · simp only [if_neg hi]; exact BS.bot_sub _
  · intro i
    by_cases hi : i < xs.length
    · simp only [if_pos hi]; exact hng i hi
    · simp only [if_neg hi]; exact fun x => x
  · intro i j hij
    by_cases hi : i < xs.length
    · by_cases hj : j < xs.length
      · simp only [if_pos hi, if_pos hj]; exact hdd i j hi hj hij
      · simp only [if_neg hj]; exact BS.dis_bot _
    · simp only [if_neg hi]; exact BS.bot_dis _
  · intro i hi
    simp only [if_pos hi]
    have hmul : (i + 1) * t.sz ≤ xs.length * t.sz := Nat.mul_le_mul_right _ hi
    rw [Nat.add_mul, Nat.one_mul] at hmul
    rw [drop_take_of_take hc (by omega)]
    exact he.2 i hi

/-- append onto a row of one's own -/
theorem append_core {t : Ty} {e tT tx ty : TypeId} {w : World} {S F1 F2 : BS} {xs ys : List t.den} {cs : List Value} {x : Value} {news : List Value} {Fs2 : Nat → BS} {z : Value} {by' : Nat}
    (hd : Rep P (.own e t) w S F1 xs cs) (hel : pElem P tT = some e) (hsz : pSize P e = some t.sz) (hz : pZero P e = some z) (hzs : z.cells.size = t.sz) (hby : pBytes P e = some by') (hpos : 0 < t.sz)
    (hs : Src P t.sz tx x ys.length news w) (hF2 : ∀ i, BS.sub (Fs2 i) F2) (hdd2 : ∀ i j, i ≠ j → BS.dis (Fs2 i) (Fs2 j)) (he2 : Els P t w S Fs2 ys news) (hdis : BS.dis F1 F2) (hSF : BS.dis S F1)
    (hb : (xs.length + ys.length) * by' ≤ 140737488355328) (hm : xs.length + ys.length ≤ maxLen)
    (bS : ∀ g, S g → g < w.heap.size) (b1 : ∀ g, F1 g → g < w.heap.size) (b2 : ∀ g, F2 g → g < w.heap.size) :
    ∃ v' w' G, (Builtin.append_ #[tT, tx] ty #[(Ty.own e t).toV cs, x]).run P w = .ok v' w' ∧ Kp F1 w w' ∧ (∀ g, G g → F1 g ∨ F2 g ∨ (w.heap.size ≤ g ∧ g < w'.heap.size)) ∧ Rep P (.own e t) w' S G (xs ++ ys : List t.den) [v'] := by
  have ht := pElem_some hel
  obtain ⟨ie, hi, hisz⟩ := pSize_some hsz
  have hiz : ie.zero = some z := by unfold pZero at hz; rw [hi] at hz; exact hz
  have hiby : ie.bytes = by' := by unfold pBytes at hby; rw [hi] at hby; simpa using hby
  subst hiby
  have hs' : Src P ie.size tx x ys.length news w := by rw [hisz]; exact hs
  have hsmall : xs.length + ys.length ≤ 9223372036854775807 := by simp only [maxLen] at hm; omega
  -- the arm that grows
  have grow : ∀ (base : Option Addr) (olds : List Value) (cap : Nat) (F : BS) (Fs1 : Nat → BS), cap < xs.length + ys.length → xs.length ≤ cap → BS.sub F F1 → (∀ i, BS.sub (Fs1 i) F) → (∀ i j, i ≠ j → BS.dis (Fs1 i) (Fs1 j)) → Els P t w S Fs1 xs olds →
      (Builtin.firstCells ie.size xs.length (.slice base xs.length cap)).run P w.drew = .ok olds.toArray w.drew →
      ∃ v' w' G, (Builtin.append_ #[tT, tx] ty #[.slice base xs.length cap, x]).run P w = .ok v' w' ∧ Kp F1 w w' ∧ (∀ g, G g → F1 g ∨ F2 g ∨ (w.heap.size ≤ g ∧ g < w'.heap.size)) ∧ Rep P (.own e t) w' S G (xs ++ ys : List t.den) [v'] := by
    intro base olds cap F Fs1 hcap hle hFF hF1 hdd1 he1 hold
    have hr := run_append_grow_src (P := P) w tT tx ty e ie z ht hi hiz base xs.length cap olds hold x ys.length news hs' hcap (by omega) (growslice_fits (by omega) hb)
    have hge := grownCap_ge w (xs.length + ys.length) cap e
    have hcm : grownCap w (xs.length + ys.length) cap e ≤ maxLen := grownCap_le_maxLen w (xs.length + ys.length) cap e hm
    have hel := els_app he1 he2
    have kS : ∀ B : BS, (∀ g, B g → g < w.heap.size) → KeepS B w (w.drew.alloc (.cells ((olds ++ news).toArray ++ Builtin.zeroCells z.cells (grownCap w (xs.length + ys.length) cap e - (xs.length + ys.length))) e)) :=
      fun B hB g hg => RowKit.Below.heap_alloc w.drew _ g (hB g hg)
    have hbF : ∀ i g, (if i < xs.length then Fs1 i else Fs2 (i - xs.length)) g → F1 g ∨ F2 g := by
      intro i g hg
      split at hg
      · exact .inl (hFF g (hF1 i g hg))
      · exact .inr (hF2 _ g hg)
    refine ⟨_, _, fun g => g = w.heap.size ∨ F1 g ∨ F2 g, hr, ⟨rfl, rfl, rfl, by simp, fun k hk _ => RowKit.Below.heap_alloc w.drew _ k hk⟩, ?_, ?_⟩
    · rintro g (rfl | hg | hg)
      · exact .inr (.inr ⟨Nat.le_refl _, by simp⟩)
      · exact .inl hg
      · exact .inr (.inl hg)
    · have hlen : (xs ++ ys).length = xs.length + ys.length := List.length_append
      rw [show xs.length + ys.length = (xs ++ ys).length from hlen.symm] at hr hge hcm kS ⊢
      refine own_mk (Fs := fun i => if i < xs.length then Fs1 i else Fs2 (i - xs.length)) (cells := olds ++ news) (.inl rfl) (heap_alloc_new w.drew _) hge hcm ?_ (fun i _ g hg => .inr (hbF i g hg)) ?_ ?_ ⟨hel.1, fun i hi => rep_keep _ (hel.2 i hi) (kS S bS) (kS _ (fun g hg => (hbF i g hg).elim (b1 g) (b2 g)))⟩ ?_
      · have := hel.1
        simp only [Array.size_append, List.size_toArray, size_zeroCells, hzs, this, ← Nat.add_mul]
        congr 1
        omega
      · intro i _ hg
        have := (hbF i _ hg).elim (b1 _) (b2 _)
        simp at this
      · intro i j hi hj hij g h1 h2
        by_cases hxi : i < xs.length
        · by_cases hxj : j < xs.length
          · simp only [if_pos hxi] at h1; simp only [if_pos hxj] at h2; exact hdd1 i j hij g h1 h2
          · simp only [if_pos hxi] at h1; simp only [if_neg hxj] at h2; exact hdis g (hFF g (hF1 i g h1)) (hF2 _ g h2)
        · by_cases hxj : j < xs.length
          · simp only [if_neg hxi] at h1; simp only [if_pos hxj] at h2; exact hdis g (hFF g (hF1 j g h2)) (hF2 _ g h1)
          · simp only [if_neg hxi] at h1; simp only [if_neg hxj] at h2; exact hdd2 _ _ (by omega) g h1 h2
      · rw [Array.toList_append, List.toList_toArray, ← hel.1]
        exact List.take_left
  rcases hd with ⟨rfl, hx0⟩ | ⟨g, cap, cur, rfl, hFg, hg, q1, q2, q3, Fs, hFs, hng, hdd, he⟩
  · have hx0' : xs = [] := hx0
    subst hx0'
    have htv : (Ty.own e t).toV [.slice none 0 0] = .slice none 0 0 := rfl
    rw [htv]
    by_cases hy : ys = []
    · subst hy
      refine ⟨.slice none 0 0, w, BS.bot, ?_, Kp.refl _ _, fun _ hg => hg.elim, .inl ⟨rfl, rfl⟩⟩
      have hn : news = [] := List.eq_nil_of_length_eq_zero (by have := he2.1; simpa using this)
      have hc := hs'.cells
      have hlenx : ∀ w', (Builtin.lenOf x).run P w' = .ok 0 w' := hs'.len
      rw [hn] at hc
      have hc' : (Builtin.firstCells ie.size 0 x).run P w = .ok #[] w := hc
      rcases hs'.kind with ⟨e', hk⟩ | hk <;> simp [Builtin.append_, run_underlying ht, run_underlying hk, sizeOf, typeInfo, hi, hlenx, hc']
    · have hyl : 0 < ys.length := List.length_pos_iff.2 hy
      exact grow none [] 0 BS.bot (fun _ => BS.bot) (by simpa using hyl) (Nat.le_refl _) (BS.bot_sub _) (fun _ => BS.sub_refl _) (fun _ _ _ => BS.dis_bot _) ⟨by simp, fun i hi => absurd hi (Nat.not_lt_zero _)⟩ (run_firstCells_none w.drew _ 0 0 0)
  · have htv : (Ty.own e t).toV [.slice (some ⟨g, 0, none⟩) (xs : List t.den).length cap] = .slice (some ⟨g, 0, none⟩) xs.length cap := rfl
    rw [htv]
    have holds : Els P t w S Fs xs (cur.toList.take (xs.length * t.sz)) := by
      have hmul : xs.length * t.sz ≤ cap * t.sz := Nat.mul_le_mul_right _ q1
      refine ⟨by simp; omega, fun i hi => ?_⟩
      have hm1 : (i + 1) * t.sz ≤ xs.length * t.sz := Nat.mul_le_mul_right _ hi
      rw [Nat.add_mul, Nat.one_mul] at hm1
      rw [← drop_take_of_take (l := cur.toList) (N := xs.length * t.sz) rfl (by omega)]
      exact he i hi
    by_cases hroom : xs.length + ys.length ≤ cap
    · have hmul : (xs.length + ys.length) * t.sz ≤ cap * t.sz := Nat.mul_le_mul_right _ hroom
      rw [Nat.add_mul] at hmul
      have hfit : xs.length * t.sz + news.length ≤ cur.size := by rw [he2.1, q3]; exact hmul
      have hcell : ∀ j, j < news.length → (w.cell? ⟨g, 0 + xs.length * ie.size + j, none⟩).isSome = true := fun j hj => by
        rw [cell_cur hg, hisz, List.getElem?_eq_getElem (by simp; omega)]; rfl
      have hfro : ∀ j, j < news.length → w.frozen? ⟨g, 0 + xs.length * ie.size + j, none⟩ = false := fun j hj => by
        simp [World.frozen?, hg]
      have hr := run_append_room_src (P := P) w tT tx ty e ie ht hi g 0 xs.length cap x ys.length news hs' hroom hcell hfro
      have hst := run_storeCells_cells (P := P) g (0 + xs.length * ie.size) news 0 w (by simpa using hcell) (by simpa using hfro) hs'.one
      have hst2 := run_storeCells_at P g (xs.length * ie.size) e news 0 cur w hg (by rw [hisz]; simpa using hfit) hs'.one
      rw [Nat.zero_add] at hst
      rw [hst] at hst2
      simp only [Nat.add_zero, Result.ok.injEq, true_and] at hst2
      rw [Nat.zero_add, hst2] at hr
      rw [hisz] at hr
      have hSg : ¬ S g := fun hx => hSF g hx hFg
      have hF2g : ∀ i, ¬ Fs2 i g := fun i hx => hdis g hFg (hF2 i g hx)
      have kS : ∀ B : BS, ¬ B g → ∀ c, KeepS B w (w.setRow g c) := fun B hB c b hb => setRow_other w g b _ (fun hx => hB (hx ▸ hb))
      have hel := els_app holds he2
      have hbF : ∀ i b, (if i < xs.length then Fs i else Fs2 (i - xs.length)) b → F1 b ∨ F2 b := by
        intro i b hb
        split at hb
        · exact .inl (hFs i b hb)
        · exact .inr (hF2 _ b hb)
      refine ⟨_, _, fun b => F1 b ∨ F2 b, hr, (kp_setRow w g _).mono (fun b hb => by rw [hb]; exact hFg), fun b hb => hb.imp id .inl, ?_⟩
      have hlen : (xs ++ ys).length = xs.length + ys.length := List.length_append
      rw [show xs.length + ys.length = (xs ++ ys).length from hlen.symm]
      refine own_mk (Fs := fun i => if i < xs.length then Fs i else Fs2 (i - xs.length)) (.inl hFg) (setRow_heap w g cur _ e _ hg) (by rw [hlen]; exact hroom) q2 ?_ (fun i _ b hb => hbF i b hb) ?_ ?_ ⟨hel.1, fun i hi => rep_keep _ (hel.2 i hi) (kS S hSg _) (kS _ ?_ _)⟩ ?_
      · simp only [List.size_toArray, List.length_append, List.length_take, List.length_drop, Array.length_toList]
        omega
      · intro i _ hb
        split at hb
        · exact hng i hb
        · exact hF2g _ hb
      · intro i j hi hj hij b h1 h2
        by_cases hxi : i < xs.length
        · by_cases hxj : j < xs.length
          · simp only [if_pos hxi] at h1; simp only [if_pos hxj] at h2; exact hdd i j hij b h1 h2
          · simp only [if_pos hxi] at h1; simp only [if_neg hxj] at h2; exact hdis b (hFs i b h1) (hF2 _ b h2)
        · by_cases hxj : j < xs.length
          · simp only [if_neg hxi] at h1; simp only [if_pos hxj] at h2; exact hdis b (hFs j b h2) (hF2 _ b h1)
          · simp only [if_neg hxi] at h1; simp only [if_neg hxj] at h2; exact hdd2 _ _ (by omega) b h1 h2
      · intro hb
        split at hb
        · exact hng i hb
        · exact hF2g _ hb
      · rw [List.toList_toArray, ← hel.1]
        have hl1 : (cur.toList.take (xs.length * t.sz) ++ news).length = xs.length * t.sz + news.length := by
          have := holds.1
          simp only [List.length_append, this]
        rw [hl1, ← hl1]
        exact List.take_left
    · have hfirst : (Builtin.firstCells ie.size xs.length (.slice (some ⟨g, 0, none⟩) xs.length cap)).run P w.drew = .ok (cur.toList.take (xs.length * t.sz)).toArray w.drew := by
        rw [hisz]
        refine run_firstCells_some w.drew _ _ ⟨g, 0, none⟩ _ cap _ holds.1 (fun j u hj => ?_)
        have := cellsAt_row (w := w) (n := xs.length * t.sz) (a := 0) hg j u (by simpa using hj)
        rw [Addr.add_lit]
        simpa using this
      exact grow _ _ cap F1 Fs (by omega) q1 (BS.sub_refl _) hFs hdd holds hfirst
end Go.Tv
