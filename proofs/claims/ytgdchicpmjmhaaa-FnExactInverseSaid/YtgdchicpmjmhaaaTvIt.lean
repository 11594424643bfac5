/-
  slices.Backward, by contract. Conditions: none.
-/
import Derived.Test.YtgdchicpmjmhaaaTvRg
import Derived.Test.YtgdchicpmjmhaaaTvS3
import Derived.RangeFuncBox
import Derived.OwnWalkIn
import Derived.TacticsInMore
import Derived.LoopNIn
import Derived.LoopIn
namespace Go.Tv
open Go.Proofs
set_option linter.unusedSimpArgs false
set_option linter.unusedVariables false
attribute [local go_sem] Oper.semAt_some

def cnt1 : Value → Nat
  | .int _ n => (n + 1).toNat
  | _ => 0

set_option maxRecDepth 100000 in
set_option maxHeartbeats 2000000 in
theorem back_in (l g0 o0 b off len cap : Nat) (Ad : Option Addr) (hAd : 0 < len → Ad = some ⟨b, off, none⟩) (ev : Nat → Nat → Value) (J : Nat → World → Prop) (Jx : World → Prop) (W : World)
    (hJc : ∀ k A, J k A → A.cell? ⟨g0, o0, none⟩ = some (.slice Ad len cap) ∧ ∀ i j, i < len → j < 4 → A.cell? ⟨b, off + i * 4 + j, none⟩ = some (ev i j))
    (hY : ∀ k A, k < len → J k A → YieldAt Fence.wide 0 Try.prog l #[.int .i64 ((len - 1 - k : Nat) : Int), .agg #[ev (len - 1 - k) 0, ev (len - 1 - k) 1, ev (len - 1 - k) 2, ev (len - 1 - k) 3]] A fun e B => (e = .returned (.bool true) ∧ J (k + 1) B) ∨ (e = .returned (.bool false) ∧ Jx B))
    (hlen : len ≤ maxLen) (h0 : J 0 W) :
    CallsIn Fence.wide 0 Try.prog 63 #[.func (.yield l) #[] #[], .pointer (some ⟨g0, o0, none⟩)] W fun e B => (∃ v, e = .returned v) ∧ (J len B ∨ Jx B) := by
  refine callsIn_of_wp Try.func63 rfl trivial ?_ rfl
  have hc0 := (hJc 0 W h0).1
  simp only [Try.ntmps63, List.size_toArray, List.length_cons, List.length_nil, Nat.reduceAdd, Nat.reduceSub, Array.replicate_succ, Array.replicate_zero, List.push_toArray, List.append_toArray, List.nil_append, List.cons_append]
  gi_wp2
  unfold maxLen at hlen
  have hw0 : RowKit.wrap64 ((len : Int) - 1) = (len : Int) - 1 := by
    simp [RowKit.wrap64]
    omega
  rw [hw0]
  gi_loopw [3] (fun i wr => ∃ k : Nat, k ≤ len ∧ i = .int .i64 ((len : Int) - 1 - k) ∧ J k wr) (fun i _ => cnt1 i)
  case atStart => exact ⟨0, Nat.zero_le _, by simp, h0⟩
  case round =>
    obtain ⟨k, hk, rfl, hJs⟩ := hrel
    obtain ⟨hcx, hld⟩ := hJc k wr hJs
    by_cases hlt : k < len
    · have hAd' := hAd (by omega)
      subst hAd'
      obtain ⟨fn, tmps, assign, body, hy, hR⟩ := hY k wr hlt hJs
      have e0 := hld (len - 1 - k) 0 (by omega) (by omega)
      have e1 := hld (len - 1 - k) 1 (by omega) (by omega)
      have e2 := hld (len - 1 - k) 2 (by omega) (by omega)
      have e3 := hld (len - 1 - k) 3 (by omega) (by omega)
      rw [Nat.add_zero] at e0
      clear hld hJc hY
      have e : (len : Int) - 1 - k = ((len - 1 - k : Nat) : Int) := by omega
      rw [e]
      have hlt2 : len - 1 - k < len := by omega
      gi_wp2
      refine ⟨rfl, hR.mono ?_⟩
      rintro e W3 (⟨rfl, hJ3⟩ | ⟨rfl, hJx3⟩)
      · gi_wp2
        go_roundw
        case rel =>
          refine ⟨k + 1, by omega, ?_, hJ3⟩
          have : RowKit.wrap64 (((len - 1 - k : Nat) : Int) - 1) = (len : Int) - 1 - ((k + 1 : Nat) : Int) := by
            simp [RowKit.wrap64]
            omega
          first | (simpa using this) | (simp; omega)
        case measure =>
          have : RowKit.wrap64 (((len - 1 - k : Nat) : Int) - 1) = ((len - 1 - k : Nat) : Int) - 1 := by
            simp [RowKit.wrap64]
            omega
          simp [cnt1, this]
      · gi_wp2
        refine bodyPost_ret (results_none rfl _ _ _) rfl ?_
        exact ⟨⟨_, rfl⟩, .inr hJx3⟩
    · obtain rfl : k = len := by omega
      gi_wp2
      go_end0
      exact ⟨⟨_, rfl⟩, .inl hJs⟩

/-- what a range backwards hands on -/
def backItems (xs : List ty61.den) : List (Int × ty61.den × Unit) := (List.range xs.length).map fun k => (((xs.length - 1 - k : Nat) : Int), xs.getD (xs.length - 1 - k) (0, 0, [], [], ()), ())
theorem backItems_len (xs : List ty61.den) : (backItems xs).length = xs.length := by simp [backItems]
@[go_sem] def clo63 : Clo := ⟨.iter true (.prod (.int .i64) (.prod ty61 .unit)), fun vs => match vs with
  | [v] => (coe v.t (.cellp (.slice ty61)) v.x).map fun xs => (True, backItems xs)
  | _ => none⟩
theorem clo63_ok : clo63.Ok Try.prog 63 := by
  refine ⟨rfl, ?_⟩
  intro vs pre x hof _ w S us hS hlen hrep
  match vs, us with
  | [v], [u] =>
    simp only [clo63, Option.map_eq_some_iff, Prod.mk.injEq] at hof
    obtain ⟨xs, hv, _, rfl⟩ := hof
    obtain ⟨cs, hu, hr⟩ := hrep 0 (by simp)
    simp only [List.getElem_cons_zero] at hu hr
    rw [coe_v hv] at hu hr
    have hr : Rep Try.prog (.cellp (.slice ty61)) w S BS.bot xs cs := hr
    obtain ⟨g0, o0, ci, rfl, hSg, hrs, hcs⟩ := hr
    have hu : u = .pointer (some ⟨g0, o0, none⟩) := hu
    subst hu
    obtain ⟨Ad, cap, rfl, hl1, hl2, hne⟩ := hrs
    obtain ⟨b, off, cf, hAd, hcf⟩ : ∃ (b off : Nat) (cf : Nat → List Value), (0 < (xs : List ty61.den).length → Ad = some ⟨b, off, none⟩) ∧ ∀ i (h : i < (xs : List ty61.den).length), S b ∧ Rep Try.prog ty61 w S BS.bot ((xs : List ty61.den)[i]) (cf i) ∧ CellsAt w b (off + i * 4) (cf i) := by
      by_cases h0 : 0 < (xs : List ty61.den).length
      · obtain ⟨b, off, hA, hSb, he⟩ := hne (fun h => by rw [h] at h0; exact absurd h0 (Nat.lt_irrefl _))
        refine ⟨b, off, fun i => if h : i < (xs : List ty61.den).length then Classical.choose (he i h) else [], fun _ => hA, fun i h => ⟨hSb, ?_⟩⟩
        simp only [h, dif_pos]
        exact Classical.choose_spec (he i h)
      · exact ⟨0, 0, fun _ => [], fun h => absurd h h0, fun i h => by omega⟩
    refine ⟨63, _, rfl, ⟨_, Try.func63, rfl, by decide⟩, fun w' hk _ => ?_⟩
    intro l J Jx h1 h2 h3 h4 h0
    rw [backItems_len]
    have h4len : ∀ i (h : i < (xs : List ty61.den).length), ∃ e0 e1 e2 e3, cf i = [e0, e1, e2, e3] := fun i h => by
      have hl := rep_len _ (hcf i h).2.1
      match hc : cf i, hl with
      | [e0, e1, e2, e3], _ => exact ⟨e0, e1, e2, e3, rfl⟩
    have hcell : ∀ k A, J k A → ∀ g, S g → A.heap[g]? = w.heap[g]? := fun k A hj g hg => ((h3 k A hj).2 g hg).trans (hk g hg)
    refine back_in l g0 o0 b off (xs : List ty61.den).length cap Ad hAd (fun i j => (cf i).getD j undef) J Jx w' (fun k A hj => ⟨?_, fun i j hi hj4 => ?_⟩) (fun k A hkl hj => ?_) (by omega) h0
    · have := (hcs.keep (hcell k A hj g0 hSg)) 0 _ rfl
      simpa using this
    · obtain ⟨e0, e1, e2, e3, he⟩ := h4len i hi
      obtain ⟨hSb, _, hc⟩ := hcf i hi
      have := (hc.keep (hcell k A hj b hSb)) j ((cf i).getD j undef) (by
        rw [he]
        match j, hj4 with
        | 0, _ => rfl
        | 1, _ => rfl
        | 2, _ => rfl
        | 3, _ => rfl)
      exact this
    · have hi : (xs : List ty61.den).length - 1 - k < (xs : List ty61.den).length := by omega
      obtain ⟨e0, e1, e2, e3, he⟩ := h4len _ hi
      obtain ⟨hSb, hri, hc⟩ := hcf _ hi
      have hit : (backItems xs)[k]'(by rw [backItems_len]; exact hkl) = ((((xs : List ty61.den).length - 1 - k : Nat) : Int), (xs : List ty61.den)[(xs : List ty61.den).length - 1 - k], ()) := by
        simp [backItems, List.getD_eq_getElem?_getD, hi]
      have hYY : ∃ c, [Value.int .i64 (((xs : List ty61.den).length - 1 - k : Nat) : Int), .agg #[e0, e1, e2, e3]] = argsOf (.prod (.int .i64) (.prod ty61 .unit)) c ∧ Rep Try.prog (.prod (.int .i64) (.prod ty61 .unit)) A S BS.bot ((backItems xs)[k]'(by rw [backItems_len]; exact hkl)) c := by
        refine ⟨[.int .i64 (((xs : List ty61.den).length - 1 - k : Nat) : Int), e0, e1, e2, e3], rfl, ?_⟩
        rw [hit]
        refine ⟨[.int .i64 _], [e0, e1, e2, e3], BS.bot, BS.bot, rfl, ⟨rfl, ?_⟩, ⟨[e0, e1, e2, e3], [], BS.bot, BS.bot, rfl, ?_, rfl, BS.dis_bot _, BS.sub_refl _, BS.sub_refl _⟩, BS.dis_bot _, BS.sub_refl _, BS.sub_refl _⟩
        · refine wrap_len ?_
          omega
        · rw [← he]
          exact rep_keep _ hri (fun g hg => hcell k A hj g hg) (fun _ hx => hx.elim)
      obtain ⟨fn, tmps, as', bd, q1, q2⟩ := h4 k A _ (by rw [backItems_len]; exact hkl) hj ⟨by rw [backItems_len]; exact hkl, hYY⟩
      rw [he]
      exact ⟨fn, tmps, as', bd, q1, q2.mono (fun e B hq => hq.2)⟩
  | [], [] => simp [clo63] at hof
  | [], _ :: _ => simp at hlen
  | _ :: _, [] => simp at hlen
  | _ :: _ :: _, _ => simp [clo63] at hof
  | [_], _ :: _ :: _ => simp at hlen
end Go.Tv
