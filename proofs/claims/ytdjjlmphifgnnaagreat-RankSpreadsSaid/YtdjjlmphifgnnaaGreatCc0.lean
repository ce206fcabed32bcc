/- Parts of one proof, joined: Flp, Flw, Flx. Conditions: those of each statement. -/
import Derived.WalkKit
import Derived.Test.YtdjjlmphifgnnaaGreatProg
import Derived.Test.YtdjjlmphifgnnaaGreatWWords
import Derived.WalkLawsBesides
import Derived.Laws.Externs
import Derived.Laws.FloatArith
import Derived.Laws.Bits64
import Derived.Laws.Bits64b
import Derived.Laws.BitsAllLaws
namespace Go.Proofs.YtdjjlmphifgnnaaGreat.Flt
set_option linter.unusedVariables false
set_option linter.unusedSimpArgs false
def nanP (b : Nat) : Bool := decide (9218868437227405312 < b % 9223372036854775808)
def canP (b : Nat) : Nat := if nanP b then 9221120237041090561 else if b % 9223372036854775808 = 0 then 0 else b
def keyP (b : Nat) : Nat := if nanP b then 0 else if canP b < 9223372036854775808 then canP b + 9223372036854775808 else 18446744073709551615 - canP b
def placeP (b : Nat) : Nat := if 9223372036854775807 < keyP b then keyP b - 1 else keyP b
/-- the word of a key, and whether there is one -/
def ofP (k : Nat) : Nat × Bool :=
  if k = 0 then (9221120237041090561, true) else
    let b := if 9223372036854775808 ≤ k then k - 9223372036854775808 else 18446744073709551615 - k
    if nanP b ∨ b = 9223372036854775808 then (0, false) else (b, true)
def atP (p : Nat) : Nat := (ofP (if 9223372036854775807 ≤ p then p + 1 else p)).1
def stepsP (a b : Nat) : Nat := if ¬ keyP a < keyP b then 0 else if nanP a then placeP b - placeP (18442240474082181120) else placeP b - placeP a - 1
def midP (a b : Nat) : Nat × Bool := if nanP a ∨ nanP b ∨ stepsP a b = 0 then (0, false) else (atP (placeP a + 1 + stepsP a b / 2), true)
theorem key_range {b : Nat} (hb : b < 18446744073709551616) (hn : nanP b = false) : 4503599627370495 ≤ keyP b ∧ keyP b ≤ 18442240474082181120 ∧ keyP b ≠ 9223372036854775807 := by
  have h : ¬ 9218868437227405312 < b % 9223372036854775808 := by simpa [nanP] using hn
  have hc : canP b = if b % 9223372036854775808 = 0 then 0 else b := by unfold canP; rw [hn]; rfl
  unfold keyP
  rw [hn, hc]
  simp only [Bool.false_eq_true, if_false]
  split <;> split <;> omega
theorem key_lt {b : Nat} (hb : b < 18446744073709551616) : keyP b < 18446744073709551616 := by
  cases hn : nanP b with
  | false => have := key_range hb hn; omega
  | true => unfold keyP; rw [hn]; simp only [if_true]; omega
theorem key_pos {b : Nat} (hb : b < 18446744073709551616) (hn : nanP b = false) : 0 < keyP b := by have := key_range hb hn; omega
/-- a word of every key between those of the infinities but one -/
theorem key_of {k : Nat} (h0 : 4503599627370495 ≤ k) (h1 : k ≤ 18442240474082181120) (h2 : k ≠ 9223372036854775807) : (ofP k).2 = true ∧ keyP (ofP k).1 = k ∧ (ofP k).1 < 18446744073709551616 ∧ nanP (ofP k).1 = false := by
  have hk0 : k ≠ 0 := by omega
  unfold ofP
  rw [if_neg hk0]
  simp only []
  by_cases hk : 9223372036854775808 ≤ k
  · rw [if_pos hk]
    have hn : nanP (k - 9223372036854775808) = false := by
      unfold nanP
      rw [decide_eq_false_iff_not]
      omega
    have hne : ¬ (nanP (k - 9223372036854775808) = true ∨ k - 9223372036854775808 = 9223372036854775808) := fun e => e.elim (fun e => by rw [hn] at e; cases e) (fun e => by omega)
    rw [if_neg hne]
    refine ⟨rfl, ?_, by simp only; omega, hn⟩
    have hc : canP (k - 9223372036854775808) = k - 9223372036854775808 := by
      unfold canP
      rw [hn]
      simp only [Bool.false_eq_true, if_false]
      split <;> omega
    unfold keyP
    rw [hn, hc]
    simp only [Bool.false_eq_true, if_false]
    rw [if_pos (by omega)]
    omega
  · rw [if_neg hk]
    have hn : nanP (18446744073709551615 - k) = false := by
      unfold nanP
      rw [decide_eq_false_iff_not]
      omega
    have hne : ¬ (nanP (18446744073709551615 - k) = true ∨ 18446744073709551615 - k = 9223372036854775808) := fun e => e.elim (fun e => by rw [hn] at e; cases e) (fun e => by omega)
    rw [if_neg hne]
    refine ⟨rfl, ?_, by simp only; omega, hn⟩
    have hc : canP (18446744073709551615 - k) = 18446744073709551615 - k := by
      unfold canP
      rw [hn]
      simp only [Bool.false_eq_true, if_false]
      rw [if_neg (by omega)]
    unfold keyP
    rw [hn, hc]
    simp only [Bool.false_eq_true, if_false]
    rw [if_neg (by omega)]
    omega
/-- what is told as the middle stands between -/
theorem mid_between {a b f : Nat} (ha : a < 18446744073709551616) (hb : b < 18446744073709551616) (h : midP a b = (f, true)) : keyP a < keyP f ∧ keyP f < keyP b ∧ nanP f = false ∧ f < 18446744073709551616 := by
  unfold midP at h
  split at h
  · cases h
  · next hc =>
    have hna : nanP a = false := by cases e : nanP a with
      | false => rfl
      | true => exact absurd (.inl e) hc
    have hnb : nanP b = false := by cases e : nanP b with
      | false => rfl
      | true => exact absurd (.inr (.inl e)) hc
    have hs : stepsP a b ≠ 0 := fun e => hc (.inr (.inr e))
    have ra := key_range ha hna
    have rb := key_range hb hnb
    have hlt : keyP a < keyP b := by
      refine Decidable.byContradiction fun e => hs ?_
      unfold stepsP
      rw [if_pos e]
    have hst : stepsP a b = placeP b - placeP a - 1 := by
      unfold stepsP
      rw [if_neg (by omega), hna]
      rfl
    have pa : placeP a = if 9223372036854775807 < keyP a then keyP a - 1 else keyP a := rfl
    have pb : placeP b = if 9223372036854775807 < keyP b then keyP b - 1 else keyP b := rfl
    injection h with h _
    unfold atP at h
    generalize placeP a = x at *
    generalize placeP b = y at *
    rw [hst] at h hs
    have hk := key_of (k := if 9223372036854775807 ≤ x + 1 + (y - x - 1) / 2 then x + 1 + (y - x - 1) / 2 + 1 else x + 1 + (y - x - 1) / 2) (by split <;> split at pa <;> split at pb <;> omega) (by split <;> split at pa <;> split at pb <;> omega) (by split <;> omega)
    rw [h] at hk
    obtain ⟨_, hk, h3, h4⟩ := hk
    refine ⟨?_, ?_, h4, h3⟩ <;> rw [hk] <;> split <;> split at pa <;> split at pb <;> omega
end Go.Proofs.YtdjjlmphifgnnaaGreat.Flt
namespace Go.Proofs.YtdjjlmphifgnnaaGreat
open Go.RowKit Go.Proofs.YtdjjlmphifgnnaaGreatW.PrintWords
open Flt (nanP canP keyP placeP ofP atP stepsP midP)
set_option linter.unusedVariables false
set_option linter.unusedSimpArgs false
/-! ### the order of words -/
theorem cmp_int (x : Int) : compare x x = .eq := by simp [compare, compareOfLessAndEq]
theorem cmp_nat (x : Nat) : compare x x = .eq := by simp [compare, compareOfLessAndEq]
theorem fl_read (b : Nat) : FloatKind.f64.format.read b = (let neg := b / 9223372036854775808 % 2 == 1; let rung := b % 9223372036854775808; if rung < 4503599627370496 then .number neg rung (-1074) else if rung < 9218868437227405312 then .number neg (4503599627370496 + rung % 4503599627370496) (-1074 + (rung / 4503599627370496 - 1 : Nat)) else if rung = 9218868437227405312 then .infinity neg else .nan neg (rung - 9218868437227405312)) := rfl
theorem fl_self (b : Nat) : (FloatKind.f64.format.order b b == some .eq) = !nanP b := by
  show ((FloatKind.f64.format.read b).order (FloatKind.f64.format.read b) == some .eq) = !nanP b
  rw [fl_read]
  unfold nanP
  generalize b % 9223372036854775808 = r
  generalize (b / 9223372036854775808 % 2 == 1) = s
  simp only []
  split
  · rw [decide_eq_false (by omega)]
    simp [Ieee.Datum.order, cmp_int, cmp_nat]
  · split
    · rw [decide_eq_false (by omega)]
      simp [Ieee.Datum.order, cmp_int, cmp_nat]
    · split
      · rw [decide_eq_false (by omega)]
        simp [Ieee.Datum.order, cmp_int, cmp_nat]
      · rw [decide_eq_true (by omega)]
        rfl
theorem fl_ne (b : Nat) : (FloatKind.f64.format.order b b != some .eq) = nanP b := by
  show (!(FloatKind.f64.format.order b b == some .eq)) = _
  rw [fl_self, Bool.not_not]
theorem fl_zero (b : Nat) (hn : nanP b = false) (h0 : b % 9223372036854775808 ≠ 0) : (FloatKind.f64.format.order b 0 == some .lt) = true ∨ (FloatKind.f64.format.order b 0 == some .gt) = true := by
  have e0 : FloatKind.f64.format.read 0 = .number false 0 (-1074) := by rw [fl_read]; rfl
  show ((FloatKind.f64.format.read b).order (FloatKind.f64.format.read 0) == some .lt) = true ∨ ((FloatKind.f64.format.read b).order (FloatKind.f64.format.read 0) == some .gt) = true
  rw [e0, fl_read]
  unfold nanP at hn
  rw [decide_eq_false_iff_not] at hn
  generalize b % 9223372036854775808 = r at *
  generalize (b / 9223372036854775808 % 2 == 1) = s
  have key : ∀ (s : Bool) (m : Nat) (i : Int), 0 < m → ((Ieee.Datum.number s m i).order (.number false 0 (-1074)) == some .lt) = true ∨ ((Ieee.Datum.number s m i).order (.number false 0 (-1074)) == some .gt) = true := by
    intro s m i hm
    have hp : 0 < m <<< (i - min i (-1074)).toNat := by
      rw [Nat.shiftLeft_eq]
      exact Nat.mul_pos hm (Nat.two_pow_pos _)
    have hz : ∀ k, Ieee.signed false 0 k = 0 := fun k => by simp [Ieee.signed]
    cases s
    · right
      have h1 : Ieee.signed false m (i - min i (-1074)).toNat = ((m <<< (i - min i (-1074)).toNat : Nat) : Int) := rfl
      simp only [Ieee.Datum.order, hz, h1]
      have h2 : compare ((m <<< (i - min i (-1074)).toNat : Nat) : Int) 0 = .gt := by
        simp only [compare, compareOfLessAndEq]
        rw [if_neg (by omega), if_neg (by omega)]
      rw [h2]
      rfl
    · left
      have h1 : Ieee.signed true m (i - min i (-1074)).toNat = -((m <<< (i - min i (-1074)).toNat : Nat) : Int) := rfl
      simp only [Ieee.Datum.order, hz, h1]
      have h2 : compare (-((m <<< (i - min i (-1074)).toNat : Nat) : Int)) 0 = .lt := by
        simp only [compare, compareOfLessAndEq]
        rw [if_pos (by omega)]
      rw [h2]
      rfl
  simp only []
  split
  · exact key _ _ _ (by omega)
  · split
    · exact key _ _ _ (by omega)
    · split
      · cases s
        · right; rfl
        · left; rfl
      · omega
/-! ### the library -/
theorem fbits (b : Nat) (w : World) : (callFunc 40 #[.float .f64 b]).run Tryz.prog w = .ok (.value (.int .u64 (b : Int))) w := by
  rw [run_callFunc_extern Tryz.func40 (by kernel_rfl) (by kernel_rfl) (by kernel_rfl) (e := Extern.MathFloatBits.float64bits) (by kernel_rfl)]
  rfl
theorem ffrom (b : Nat) (w : World) : (callFunc 59 #[.int .u64 (b : Int)]).run Tryz.prog w = .ok (.value (.float .f64 b)) w := by
  rw [run_callFunc_extern Tryz.func59 (by kernel_rfl) (by kernel_rfl) (by kernel_rfl) (e := Extern.MathFloatBits.float64frombits) (by kernel_rfl)]
  rfl
theorem unary_fneg (k : FloatKind) (b : Nat) : Op.unary .neg (.float k b) = pure (.float k (Op.negFloat k b)) := rfl
attribute [local go_sem] unary_fneg
theorem zero_cases {b : Nat} (hb : b < 18446744073709551616) (h : b % 9223372036854775808 = 0) : b = 0 ∨ b = 9223372036854775808 := by omega
theorem isinf_pos (b : Nat) (w : World) : Calls Tryz.prog 81 #[.float .f64 b, .int .i64 1] w fun e w' => e = .returned (.bool (FloatKind.f64.format.order b 9218868437227405311 == some .gt)) ∧ Drawn0 w w' := by
  go_enter Tryz.func81, Tryz.ntmps81
  go_wp2
  go_ret
  exact ⟨rfl, Drawn0.refl _⟩
theorem isinf_neg (b : Nat) (w : World) : Calls Tryz.prog 81 #[.float .f64 b, .int .i64 (-1)] w fun e w' => e = .returned (.bool (FloatKind.f64.format.order (Op.negFloat .f64 b) 9218868437227405311 == some .gt)) ∧ Drawn0 w w' := by
  go_enter Tryz.func81, Tryz.ntmps81
  go_wp2
  go_ret
  exact ⟨rfl, Drawn0.refl _⟩
theorem drawn_trans {w w1 w2 : World} (h : Drawn0 w w1) (k : Drawn0 w1 w2) : Drawn0 w w2 := by
  obtain ⟨m, rfl⟩ := k
  exact h.step m
/-- whether a word is a NaN's, nought's, or another's -/
def Cls (b : Nat) (c : Int) : Prop := if nanP b then c = 0 else if b % 9223372036854775808 = 0 then c = 3 else c ≠ 0 ∧ c ≠ 3
set_option maxHeartbeats 1000000 in
theorem class_calls (b : Nat) (hb : b < 18446744073709551616) (w : World) : Calls Tryz.prog 58 #[.float .f64 b] w fun e w' => ∃ c : Int, Cls b c ∧ e = .returned (.int .i64 c) ∧ Drawn0 w w' := by
  have H1 := fun w => isinf_pos b w
  have H2 := fun w => isinf_neg b w
  have hs := fl_ne b
  by_cases hn : nanP b = true
  · have hs2 : (FloatKind.f64.format.order b b != some .eq) = true := by rw [hs, hn]
    clear H1 H2 hs
    have HN := Aside0.mk hn
    clear hn
    go_enter Tryz.func58, Tryz.ntmps58
    go_wp2
    go_ret
    exact ⟨0, by unfold Cls; rw [if_pos HN.out], rfl, Drawn0.refl _⟩
  · have hn : nanP b = false := by simpa using hn
    have hs2 : (FloatKind.f64.format.order b b != some .eq) = false := by rw [hs, hn]
    have HN := Aside0.mk hn
    have HP := Aside0.mk H1
    have HM := Aside0.mk H2
    by_cases h0 : b % 9223372036854775808 = 0
    · have H0 := Aside0.mk h0
      have l1 : (FloatKind.f64.format.order b 0 == some .lt) = false := by rcases zero_cases hb h0 with rfl | rfl <;> decide
      have l2 : (FloatKind.f64.format.order b 0 == some .gt) = false := by rcases zero_cases hb h0 with rfl | rfl <;> decide
      have l3 : (FloatKind.f64.format.order b 9218868437227405311 == some .gt) = false := by rcases zero_cases hb h0 with rfl | rfl <;> decide
      have l4 : (FloatKind.f64.format.order (Op.negFloat .f64 b) 9218868437227405311 == some .gt) = false := by rcases zero_cases hb h0 with rfl | rfl <;> decide
      rw [l3] at HP
      rw [l4] at HM
      clear H1 H2 hs hn h0 l3 l4
      go_enter Tryz.func58, Tryz.ntmps58
      go_wp2_with (first
        | (go_at_call 81; refine Calls.mono (HM.out _) ?_; rintro e w1 ⟨rfl, hd⟩; have D1 := Aside0.mk hd; clear hd HM)
        | (go_at_call 81; refine Calls.mono (HP.out _) ?_; rintro e w2 ⟨rfl, hd⟩; have D2 := Aside0.mk hd; clear hd HP))
      go_ret
      exact ⟨3, by unfold Cls; rw [if_neg (by rw [HN.out]; decide), if_pos H0.out], rfl, drawn_trans D1.out D2.out⟩
    · have hz := fl_zero b hn h0
      have H0 := Aside0.mk h0
      generalize (FloatKind.f64.format.order (Op.negFloat .f64 b) 9218868437227405311 == some .gt) = r1 at HM
      generalize (FloatKind.f64.format.order b 9218868437227405311 == some .gt) = r2 at HP
      have hcl : ∀ c : Int, c ≠ 0 → c ≠ 3 → Cls b c := fun c h1 h2 => by unfold Cls; rw [if_neg (by rw [HN.out]; decide), if_neg H0.out]; exact ⟨h1, h2⟩
      have HCL := Aside0.mk hcl
      clear H1 H2 hs hn h0 hcl
      cases r1 with
      | true =>
        have HZ := Aside0.mk hz
        clear hz
        go_enter Tryz.func58, Tryz.ntmps58
        go_wp2_with (first
          | (go_at_call 81; refine Calls.mono (HM.out _) ?_; rintro e w1 ⟨rfl, hd⟩; have D1 := Aside0.mk hd; clear hd HM))
        go_ret
        exact ⟨1, HCL.out 1 (by decide) (by decide), rfl, D1.out⟩
      | false =>
        cases r2 with
        | true =>
          have HZ := Aside0.mk hz
          clear hz
          go_enter Tryz.func58, Tryz.ntmps58
          go_wp2_with (first
            | (go_at_call 81; refine Calls.mono (HM.out _) ?_; rintro e w1 ⟨rfl, hd⟩; have D1 := Aside0.mk hd; clear hd HM)
            | (go_at_call 81; refine Calls.mono (HP.out _) ?_; rintro e w2 ⟨rfl, hd⟩; have D2 := Aside0.mk hd; clear hd HP))
          go_ret
          exact ⟨5, HCL.out 5 (by decide) (by decide), rfl, drawn_trans D1.out D2.out⟩
        | false =>
          cases hr3 : (FloatKind.f64.format.order b 0 == some .lt) with
          | true =>
            clear hz
            go_enter Tryz.func58, Tryz.ntmps58
            go_wp2_with (first
              | (go_at_call 81; refine Calls.mono (HM.out _) ?_; rintro e w1 ⟨rfl, hd⟩; have D1 := Aside0.mk hd; clear hd HM)
              | (go_at_call 81; refine Calls.mono (HP.out _) ?_; rintro e w2 ⟨rfl, hd⟩; have D2 := Aside0.mk hd; clear hd HP))
            go_ret
            exact ⟨2, HCL.out 2 (by decide) (by decide), rfl, drawn_trans D1.out D2.out⟩
          | false =>
            have hr4 : (FloatKind.f64.format.order b 0 == some .gt) = true := by rcases hz with h | h; exact absurd (hr3.symm.trans h) (by decide); exact h
            clear hz
            go_enter Tryz.func58, Tryz.ntmps58
            go_wp2_with (first
              | (go_at_call 81; refine Calls.mono (HM.out _) ?_; rintro e w1 ⟨rfl, hd⟩; have D1 := Aside0.mk hd; clear hd HM)
              | (go_at_call 81; refine Calls.mono (HP.out _) ?_; rintro e w2 ⟨rfl, hd⟩; have D2 := Aside0.mk hd; clear hd HP))
            go_ret
            exact ⟨4, HCL.out 4 (by decide) (by decide), rfl, drawn_trans D1.out D2.out⟩
theorem canP_nan {b : Nat} (h : nanP b = true) : canP b = 9221120237041090561 := by unfold canP; rw [h]; rfl
theorem canP_zero {b : Nat} (h : nanP b = false) (h0 : b % 9223372036854775808 = 0) : canP b = 0 := by unfold canP; rw [h, if_neg (by decide), if_pos h0]
theorem canP_else {b : Nat} (h : nanP b = false) (h0 : b % 9223372036854775808 ≠ 0) : canP b = b := by unfold canP; rw [h, if_neg (by decide), if_neg h0]
theorem canP_lt {b : Nat} (hb : b < 18446744073709551616) : canP b < 18446744073709551616 := by unfold canP; split <;> (try split) <;> omega
set_option maxHeartbeats 1000000 in
theorem canon_calls (b : Nat) (hb : b < 18446744073709551616) (w : World) : Calls Tryz.prog 41 #[.float .f64 b] w fun e w' => e = .returned (.float .f64 (canP b)) ∧ Drawn0 w w' := by
  have HF := Aside0.mk (class_calls b hb w)
  have hfr := ffrom 9221120237041090561
  have hfr2 : ∀ w, (callFunc 59 #[.int .u64 9221120237041090561]).run Tryz.prog w = .ok (.value (.float .f64 9221120237041090561)) w := hfr
  clear hfr
  by_cases hn : nanP b = true
  · have HN := Aside0.mk hn
    clear hn
    go_enter Tryz.func41, Tryz.ntmps41
    go_wp2_with (first
      | (go_at_call 58; refine Calls.mono HF.out ?_; rintro e w1 ⟨c, hc, rfl, hd⟩; obtain rfl : c = 0 := (by unfold Cls at hc; rwa [if_pos HN.out] at hc); have D1 := Aside0.mk hd; clear hd hc))
    go_ret
    exact ⟨by rw [canP_nan HN.out]; rfl, D1.out⟩
  · have hn : nanP b = false := by simpa using hn
    have HN := Aside0.mk hn
    by_cases h0 : b % 9223372036854775808 = 0
    · have H0 := Aside0.mk h0
      clear hn h0
      go_enter Tryz.func41, Tryz.ntmps41
      go_wp2_with (first
        | (go_at_call 58; refine Calls.mono HF.out ?_; rintro e w1 ⟨c, hc, rfl, hd⟩; obtain rfl : c = 3 := (by unfold Cls at hc; rwa [if_neg (by rw [HN.out]; decide), if_pos H0.out] at hc); have D1 := Aside0.mk hd; clear hd hc))
      go_ret
      exact ⟨by rw [canP_zero HN.out H0.out]; rfl, D1.out⟩
    · have H0 := Aside0.mk h0
      clear hn h0
      go_enter Tryz.func41, Tryz.ntmps41
      go_wp2_with (first
        | (go_at_call 58; refine Calls.mono HF.out ?_; rintro e w1 ⟨c, hc, rfl, hd⟩; obtain ⟨c1, c2⟩ : c ≠ 0 ∧ c ≠ 3 := (by unfold Cls at hc; rwa [if_neg (by rw [HN.out]; decide), if_neg H0.out] at hc); have D1 := Aside0.mk hd; have c3 : (c == 0) = false := (by simpa using c1); have c4 : (c == 3) = false := (by simpa using c2); clear hd hc))
      go_ret
      exact ⟨by rw [canP_else HN.out H0.out]; rfl, D1.out⟩
theorem or_sign {c : Nat} (h : c < 9223372036854775808) : bits .or .u64 (c : Int) 9223372036854775808 = ((c + 9223372036854775808 : Nat) : Int) := by
  rw [show (9223372036854775808 : Int) = ((9223372036854775808 : Nat) : Int) from rfl, bits_or_u64_nat c _ (by omega) (by decide)]
  have := Nat.two_pow_add_eq_or_of_lt (i := 63) (b := c) (by omega) 1
  rw [Nat.or_comm, show (9223372036854775808 : Nat) = 2 ^ 63 * 1 from rfl, ← this, Nat.add_comm]
theorem nat_not {c : Nat} (h : c < 18446744073709551616) : 18446744073709551615 ^^^ c = 18446744073709551615 - c := by
  have e := congrArg BitVec.toNat (BitVec.allOnes_xor (x := BitVec.ofNat 64 c))
  have h1 : (BitVec.ofNat 64 c).toNat = c := by rw [BitVec.toNat_ofNat]; exact Nat.mod_eq_of_lt h
  rw [BitVec.toNat_xor] at e
  rw [BitVec.toNat_not] at e
  rw [h1] at e
  rw [BitVec.toNat_allOnes] at e
  have h2 : (2 ^ 64 - 1 : Nat) = 18446744073709551615 := by decide
  rw [h2] at e
  exact e
theorem xor_ones {c : Nat} (h : c < 18446744073709551616) : bits .xor .u64 18446744073709551615 (c : Int) = ((18446744073709551615 - c : Nat) : Int) := by
  rw [show (18446744073709551615 : Int) = ((18446744073709551615 : Nat) : Int) from rfl, bits_xor_u64_nat _ c (by decide) h, nat_not h]
theorem andnot_sign {c : Nat} (h : c < 18446744073709551616) (h2 : 9223372036854775808 ≤ c) : bits .andNot .u64 (c : Int) 9223372036854775808 = ((c - 9223372036854775808 : Nat) : Int) := by
  have e := u64_andNot_nat c 9223372036854775808 h (by decide)
  have f := Nat.and_two_pow_sub_one_eq_mod c 63
  have g : (2 ^ 63 - 1 : Nat) = 9223372036854775807 := by decide
  have g2 : (2 ^ 63 : Nat) = 9223372036854775808 := by decide
  have g3 : (18446744073709551615 - 9223372036854775808 : Nat) = 9223372036854775807 := by decide
  rw [g, g2] at f
  rw [g3, f, show c % 9223372036854775808 = c - 9223372036854775808 by omega] at e
  exact e
theorem unary_xor_u64 (n : Int) : Op.unary .xor (.int .u64 n) = Op.intBits .xor .u64 18446744073709551615 n := rfl
set_option maxHeartbeats 1000000 in
set_option maxRecDepth 100000 in
theorem key_calls (b : Nat) (hb : b < 18446744073709551616) (w : World) : Calls Tryz.prog 21 #[.float .f64 b] w fun e w' => e = .returned (.int .u64 (keyP b)) ∧ Drawn0 w w' := by
  have HF := Aside0.mk (fun w => canon_calls b hb w)
  have hfb := fbits (canP b)
  have hs := fl_ne b
  by_cases hn : nanP b = true
  · have hs2 : (FloatKind.f64.format.order b b != some .eq) = true := by rw [hs, hn]
    have HN := Aside0.mk hn
    clear hn hs hfb
    go_enter Tryz.func21, Tryz.ntmps21
    go_wp2
    go_ret
    exact ⟨by unfold keyP; rw [if_pos HN.out]; rfl, Drawn0.refl _⟩
  · have hn : nanP b = false := by simpa using hn
    have hs2 : (FloatKind.f64.format.order b b != some .eq) = false := by rw [hs, hn]
    have HN := Aside0.mk hn
    have hlt := canP_lt hb
    have HK : Aside0 (keyP b = if canP b < 9223372036854775808 then canP b + 9223372036854775808 else 18446744073709551615 - canP b) := ⟨by unfold keyP; rw [hn]; rfl⟩
    generalize canP b = c at *
    by_cases hc : c < 9223372036854775808
    · have hc2 : (c : Int) < 9223372036854775808 := by omega
      have ho := or_sign hc
      clear hn hs
      rw [if_pos hc] at HK
      go_enter Tryz.func21, Tryz.ntmps21
      go_wp2_with (first
        | (go_at_call 41; refine Calls.mono (HF.out _) ?_; rintro e w1 ⟨rfl, hd⟩; have D1 := Aside0.mk hd; clear hd))
      go_ret
      exact ⟨by rw [HK.out]; rfl, D1.out⟩
    · have hc2 : decide ((c : Int) < 9223372036854775808) = false := decide_eq_false (by omega)
      have hux : Op.unary .xor (.int .u64 (c : Int)) = Op.intBits .xor .u64 18446744073709551615 (c : Int) := rfl
      have ho := xor_ones hlt
      clear hn hs
      rw [if_neg hc] at HK
      generalize 18446744073709551615 - c = d at ho HK
      clear hc hlt hb
      go_enter Tryz.func21, Tryz.ntmps21
      go_wp2_with (first
        | (go_at_call 41; refine Calls.mono (HF.out _) ?_; rintro e w1 ⟨rfl, hd⟩; have D1 := Aside0.mk hd; clear hd))
      go_ret
      exact ⟨by rw [HK.out]; rfl, D1.out⟩
end Go.Proofs.YtdjjlmphifgnnaaGreat
namespace Go.Proofs.YtdjjlmphifgnnaaGreat
open Go.RowKit Go.Proofs.YtdjjlmphifgnnaaGreatW.PrintWords
open Flt (nanP canP keyP placeP ofP atP stepsP midP)
set_option linter.unusedVariables false
set_option linter.unusedSimpArgs false
theorem place_eq (b : Nat) : placeP b = if 9223372036854775807 < keyP b then keyP b - 1 else keyP b := rfl
theorem wrap_u64_nat {n : Nat} (h : n < 18446744073709551616) : IntKind.u64.wrap (n : Int) = (n : Int) := by rw [IntKind.wrap_u64]; omega
set_option maxHeartbeats 1000000 in
set_option maxRecDepth 100000 in
theorem place_calls (b : Nat) (hb : b < 18446744073709551616) (w : World) : Calls Tryz.prog 47 #[.float .f64 b] w fun e w' => e = .returned (.int .u64 (placeP b)) ∧ Drawn0 w w' := by
  have HF := Aside0.mk (fun w => key_calls b hb w)
  have hk := Flt.key_lt hb
  have HP := Aside0.mk (place_eq b)
  generalize placeP b = p at HP
  generalize keyP b = k at *
  by_cases hc : 9223372036854775807 < k
  · have hc2 : decide ((9223372036854775807 : Int) < (k : Int)) = true := decide_eq_true (by omega)
    have hw : IntKind.u64.wrap ((k : Int) - 1) = ((k - 1 : Nat) : Int) := by rw [IntKind.wrap_u64]; omega
    rw [if_pos hc] at HP
    rw [← HP.out] at hw
    clear hc hk hb
    go_enter Tryz.func47, Tryz.ntmps47
    go_wp2_with (first
      | (go_at_call 21; refine Calls.mono (HF.out _) ?_; rintro e w1 ⟨rfl, hd⟩; have D1 := Aside0.mk hd; clear hd))
    go_ret
    exact ⟨rfl, D1.out⟩
  · have hc2 : decide ((9223372036854775807 : Int) < (k : Int)) = false := decide_eq_false (by omega)
    rw [if_neg hc] at HP
    obtain rfl := HP.out
    clear hc hk hb
    go_enter Tryz.func47, Tryz.ntmps47
    go_wp2_with (first
      | (go_at_call 21; refine Calls.mono (HF.out _) ?_; rintro e w1 ⟨rfl, hd⟩; have D1 := Aside0.mk hd; clear hd))
    go_ret
    exact ⟨rfl, D1.out⟩
set_option maxHeartbeats 1000000 in
set_option maxRecDepth 100000 in
theorem less_calls (a b : Nat) (ha : a < 18446744073709551616) (hb : b < 18446744073709551616) (w : World) : Calls Tryz.prog 60 #[.float .f64 a, .float .f64 b] w fun e w' => e = .returned (.bool (decide (keyP a < keyP b))) ∧ Drawn0 w w' := by
  have HA := Aside0.mk (fun w => key_calls a ha w)
  have HB := Aside0.mk (fun w => key_calls b hb w)
  have hd : decide ((keyP a : Int) < (keyP b : Int)) = decide (keyP a < keyP b) := by congr 1; exact propext (by omega)
  generalize keyP a = x at *
  generalize keyP b = y at *
  clear ha hb
  go_enter Tryz.func60, Tryz.ntmps60
  go_wp2_with (first
    | (go_at_call 21; refine Calls.mono (HA.out _) ?_; rintro e w1 ⟨rfl, hd⟩; have D1 := Aside0.mk hd; clear hd HA)
    | (go_at_call 21; refine Calls.mono (HB.out _) ?_; rintro e w1 ⟨rfl, hd⟩; have D2 := Aside0.mk hd; clear hd HB))
  go_ret
  exact ⟨rfl, drawn_trans D1.out D2.out⟩
theorem ofP_hi {k : Nat} (h0 : 4503599627370495 ≤ k) (h1 : k ≤ 18442240474082181120) (hk : 9223372036854775808 ≤ k) : ofP k = (k - 9223372036854775808, true) ∧ nanP (k - 9223372036854775808) = false ∧ k - 9223372036854775808 < 9223372036854775808 := by
  have hn : nanP (k - 9223372036854775808) = false := by
    unfold nanP
    rw [decide_eq_false_iff_not]
    omega
  refine ⟨?_, hn, by omega⟩
  unfold ofP
  rw [if_neg (by omega)]
  simp only []
  rw [if_pos hk, if_neg (fun e => e.elim (fun e => by rw [hn] at e; cases e) (fun e => by omega))]
theorem ofP_lo {k : Nat} (h0 : 4503599627370495 ≤ k) (h2 : k < 9223372036854775807) : ofP k = (18446744073709551615 - k, true) ∧ nanP (18446744073709551615 - k) = false ∧ 18446744073709551615 - k < 18446744073709551616 ∧ 18446744073709551615 - k ≠ 9223372036854775808 := by
  have hn : nanP (18446744073709551615 - k) = false := by
    unfold nanP
    rw [decide_eq_false_iff_not]
    omega
  refine ⟨?_, hn, by omega, by omega⟩
  unfold ofP
  rw [if_neg (by omega)]
  simp only []
  rw [if_neg (show ¬ 9223372036854775808 ≤ k by omega), if_neg (fun e => e.elim (fun e => by rw [hn] at e; cases e) (fun e => by omega))]
set_option maxHeartbeats 1000000 in
set_option maxRecDepth 100000 in
theorem of_calls (k : Nat) (h0 : 4503599627370495 ≤ k) (h1 : k ≤ 18442240474082181120) (h2 : k ≠ 9223372036854775807) (w : World) : Calls Tryz.prog 61 #[.int .u64 (k : Int)] w fun e w' => e = .returned (.tuple #[.float .f64 (ofP k).1, .bool true]) ∧ Drawn0 w w' := by
  have z : ((k : Int) == 0) = false := by simp; omega
  have hmx : IntKind.u64.max = 18446744073709551615 := rfl
  have hx := xor_ones (c := k) (by omega)
  obtain ⟨x, hxx⟩ : ∃ x, 18446744073709551615 - k = x := ⟨_, rfl⟩
  rw [hxx] at hx
  by_cases hk : 9223372036854775808 ≤ k
  · obtain ⟨e1, e2, e3⟩ := ofP_hi h0 h1 hk
    have ha := andnot_sign (c := k) (by omega) hk
    have hc2 : decide ((9223372036854775808 : Int) ≤ (k : Int)) = true := decide_eq_true (by omega)
    generalize k - 9223372036854775808 = b at *
    have E1 := Aside0.mk e1
    have hs2 : (FloatKind.f64.format.order b b != some .eq) = false := by rw [fl_ne, e2]
    have hf := ffrom b
    have hb0 : ((b : Int) == 9223372036854775808) = false := by simp; omega
    clear e1 e2 e3 h0 h1 h2 hk hxx
    go_enter Tryz.func61, Tryz.ntmps61
    go_wp2
    go_ret2
    exact ⟨by rw [E1.out]; rfl, Drawn0.refl _⟩
  · obtain ⟨e1, e2, e3, e4⟩ := ofP_lo h0 (by omega)
    have hc2 : decide ((9223372036854775808 : Int) ≤ (k : Int)) = false := decide_eq_false (by omega)
    rw [hxx] at e1 e2 e3 e4
    have E1 := Aside0.mk e1
    have hs2 : (FloatKind.f64.format.order x x != some .eq) = false := by rw [fl_ne, e2]
    have hf := ffrom x
    have hb0 : ((x : Int) == 9223372036854775808) = false := by simp; omega
    clear e1 e2 e3 e4 h0 h1 h2 hk hxx
    go_enter Tryz.func61, Tryz.ntmps61
    go_wp2
    go_ret2
    exact ⟨by rw [E1.out]; rfl, Drawn0.refl _⟩
theorem atP_eq (p : Nat) : atP p = (ofP (if 9223372036854775807 ≤ p then p + 1 else p)).1 := rfl
set_option maxHeartbeats 1000000 in
set_option maxRecDepth 100000 in
theorem at_calls (p : Nat) (h0 : 4503599627370495 ≤ p) (h1 : p < 18442240474082181120) (w : World) : Calls Tryz.prog 46 #[.int .u64 (p : Int)] w fun e w' => e = .returned (.float .f64 (atP p)) ∧ Drawn0 w w' := by
  have HP := Aside0.mk (atP_eq p)
  by_cases hc : 9223372036854775807 ≤ p
  · have hc2 : decide ((9223372036854775807 : Int) ≤ (p : Int)) = true := decide_eq_true (by omega)
    have hw : IntKind.u64.wrap ((p : Int) + 1) = ((p + 1 : Nat) : Int) := by rw [IntKind.wrap_u64]; omega
    have HF := Aside0.mk (fun w => of_calls (p + 1) (by omega) (by omega) (by omega) w)
    rw [if_pos hc] at HP
    generalize p + 1 = q at *
    clear hc h0 h1
    go_enter Tryz.func46, Tryz.ntmps46
    go_wp2_with (first
      | (go_at_call 61; refine Calls.mono (HF.out _) ?_; rintro e w1 ⟨rfl, hd⟩; have D1 := Aside0.mk hd; clear hd))
    go_ret
    exact ⟨by rw [HP.out]; rfl, D1.out⟩
  · have hc2 : decide ((9223372036854775807 : Int) ≤ (p : Int)) = false := decide_eq_false (by omega)
    have HF := Aside0.mk (fun w => of_calls p (by omega) (by omega) (by omega) w)
    rw [if_neg hc] at HP
    clear hc h0 h1
    go_enter Tryz.func46, Tryz.ntmps46
    go_wp2_with (first
      | (go_at_call 61; refine Calls.mono (HF.out _) ?_; rintro e w1 ⟨rfl, hd⟩; have D1 := Aside0.mk hd; clear hd))
    go_ret
    exact ⟨by rw [HP.out]; rfl, D1.out⟩
theorem place_range {b : Nat} (hb : b < 18446744073709551616) (hn : nanP b = false) : 4503599627370495 ≤ placeP b ∧ placeP b < 18442240474082181120 := by
  have := Flt.key_range hb hn
  rw [place_eq]
  split <;> omega
theorem place_lt {a b : Nat} (ha : a < 18446744073709551616) (hb : b < 18446744073709551616) (h : nanP a = false) (h2 : nanP b = false) (hk : keyP a < keyP b) : placeP a < placeP b := by
  have h3 := Flt.key_range ha h
  have h4 := Flt.key_range hb h2
  rw [place_eq, place_eq]
  split <;> split <;> omega
set_option maxHeartbeats 1000000 in
set_option maxRecDepth 100000 in
theorem steps_calls (a b : Nat) (ha : a < 18446744073709551616) (hb : b < 18446744073709551616) (hna : nanP a = false) (hnb : nanP b = false) (w : World) : Calls Tryz.prog 45 #[.float .f64 a, .float .f64 b] w fun e w' => e = .returned (.int .u64 (stepsP a b)) ∧ Drawn0 w w' := by
  have HA := Aside0.mk (fun w => place_calls a ha w)
  have HB := Aside0.mk (fun w => place_calls b hb w)
  have HL := Aside0.mk (fun w => less_calls a b ha hb w)
  have hs2 : (FloatKind.f64.format.order a a != some .eq) = false := by rw [fl_ne, hna]
  by_cases hk : keyP a < keyP b
  · have hlt := place_lt ha hb hna hnb hk
    have r1 := place_range ha hna
    have r2 := place_range hb hnb
    have hs : Aside0 (stepsP a b = placeP b - placeP a - 1) := ⟨by unfold stepsP; rw [if_neg (by omega), hna]; rfl⟩
    have hd : decide (keyP a < keyP b) = true := decide_eq_true hk
    rw [hd] at HL
    have hw : IntKind.u64.wrap ((placeP b : Int) - (placeP a : Int)) = (placeP b : Int) - (placeP a : Int) := by rw [IntKind.wrap_u64]; omega
    have hw2 : IntKind.u64.wrap ((placeP b : Int) - (placeP a : Int) - 1) = (stepsP a b : Int) := by rw [IntKind.wrap_u64, hs.out]; omega
    generalize placeP a = x at *
    generalize placeP b = y at *
    generalize stepsP a b = n at *
    clear hna hnb hk hd hlt r1 r2 ha hb hs
    go_enter Tryz.func45, Tryz.ntmps45
    go_wp2_with (first
      | (go_at_call 47; refine Calls.mono (HA.out _) ?_; rintro e w1 ⟨rfl, hd⟩; have D1 := Aside0.mk hd; clear hd HA)
      | (go_at_call 47; refine Calls.mono (HB.out _) ?_; rintro e w2 ⟨rfl, hd⟩; have D2 := Aside0.mk hd; clear hd HB)
      | (go_at_call 60; refine Calls.mono (HL.out _) ?_; rintro e w3 ⟨rfl, hd⟩; have D3 := Aside0.mk hd; clear hd))
    go_ret
    exact ⟨rfl, drawn_trans D1.out (drawn_trans D2.out D3.out)⟩
  · have hs : Aside0 (stepsP a b = 0) := ⟨by unfold stepsP; rw [if_pos hk]⟩
    have hd : decide (keyP a < keyP b) = false := decide_eq_false hk
    rw [hd] at HL
    generalize placeP a = x at *
    generalize placeP b = y at *
    clear hna hnb hk hd ha hb
    go_enter Tryz.func45, Tryz.ntmps45
    go_wp2_with (first
      | (go_at_call 47; refine Calls.mono (HA.out _) ?_; rintro e w1 ⟨rfl, hd⟩; have D1 := Aside0.mk hd; clear hd HA)
      | (go_at_call 47; refine Calls.mono (HB.out _) ?_; rintro e w2 ⟨rfl, hd⟩; have D2 := Aside0.mk hd; clear hd HB)
      | (go_at_call 60; refine Calls.mono (HL.out _) ?_; rintro e w3 ⟨rfl, hd⟩; have D3 := Aside0.mk hd; clear hd))
    go_ret
    exact ⟨by rw [hs.out]; rfl, drawn_trans D1.out (drawn_trans D2.out D3.out)⟩
set_option maxHeartbeats 1000000 in
set_option maxRecDepth 100000 in
theorem mid_calls (a b : Nat) (ha : a < 18446744073709551616) (hb : b < 18446744073709551616) (hna : nanP a = false) (hnb : nanP b = false) (w : World) : Calls Tryz.prog 24 #[.float .f64 a, .float .f64 b] w fun e w' => e = .returned (.tuple #[.float .f64 (midP a b).1, .bool (midP a b).2]) ∧ Drawn0 w w' := by
  have HS := Aside0.mk (fun w => steps_calls a b ha hb hna hnb w)
  have HA := Aside0.mk (fun w => place_calls a ha w)
  have hs1 : (FloatKind.f64.format.order a a != some .eq) = false := by rw [fl_ne, hna]
  have hs2 : (FloatKind.f64.format.order b b != some .eq) = false := by rw [fl_ne, hnb]
  by_cases h0 : stepsP a b = 0
  · have HM : Aside0 (midP a b = (0, false)) := ⟨by unfold midP; rw [if_pos (.inr (.inr h0))]⟩
    rw [h0] at HS
    clear hna hnb h0 ha hb
    go_enter Tryz.func24, Tryz.ntmps24
    go_wp2_with (first
      | (go_at_call 45; refine Calls.mono (HS.out _) ?_; rintro e w1 ⟨rfl, hd⟩; have D1 := Aside0.mk hd; clear hd))
    go_ret2
    exact ⟨by rw [HM.out]; rfl, D1.out⟩
  · have HM : Aside0 (midP a b = (atP (placeP a + 1 + stepsP a b / 2), true)) := ⟨by unfold midP; rw [if_neg (fun e => e.elim (fun e => by rw [hna] at e; cases e) (fun e => e.elim (fun e => by rw [hnb] at e; cases e) h0))]⟩
    have hk : keyP a < keyP b := by
      refine Decidable.byContradiction fun e => h0 ?_
      unfold stepsP
      rw [if_pos e]
    have hst : stepsP a b = placeP b - placeP a - 1 := by unfold stepsP; rw [if_neg (by omega), hna]; rfl
    have r1 := place_range ha hna
    have r2 := place_range hb hnb
    have hlt := place_lt ha hb hna hnb hk
    generalize placeP a = x at *
    generalize placeP b = y at *
    generalize stepsP a b = n at *
    have HT := Aside0.mk (fun w => at_calls (x + 1 + n / 2) (by omega) (by omega) w)
    have w1 : IntKind.u64.wrap ((x : Int) + 1) = (x : Int) + 1 := by rw [IntKind.wrap_u64]; omega
    have w2 : IntKind.u64.wrap ((x : Int) + 1 + (n : Int) / 2) = ((x + 1 + n / 2 : Nat) : Int) := by rw [IntKind.wrap_u64]; omega
    have w3 : IntKind.u64.wrap ((n : Int) / 2) = (n : Int) / 2 := by rw [IntKind.wrap_u64]; omega
    have z : ((n : Int) == 0) = false := by simp; omega
    generalize x + 1 + n / 2 = p at *
    clear hna hnb h0 hk hst r1 r2 hlt ha hb
    go_enter Tryz.func24, Tryz.ntmps24
    go_wp2_with (first
      | (go_at_call 45; refine Calls.mono (HS.out _) ?_; rintro e w1 ⟨rfl, hd⟩; have D1 := Aside0.mk hd; clear hd)
      | (go_at_call 47; refine Calls.mono (HA.out _) ?_; rintro e w1 ⟨rfl, hd⟩; have D2 := Aside0.mk hd; clear hd)
      | (go_at_call 46; refine Calls.mono (HT.out _) ?_; rintro e w1 ⟨rfl, hd⟩; have D3 := Aside0.mk hd; clear hd))
    go_ret2
    exact ⟨by rw [HM.out]; rfl, drawn_trans D1.out (drawn_trans D2.out D3.out)⟩
set_option maxHeartbeats 1000000 in
theorem inf_calls (s : Int) (hs : s = 1 ∨ s = -1) (w : World) : Calls Tryz.prog 44 #[.int .i64 s] w fun e w' => e = .returned (.float .f64 (if s = 1 then 9218868437227405312 else 18442240474082181120)) ∧ Drawn0 w w' := by
  have h1 : ∀ w, (callFunc 59 #[.int .u64 9218868437227405312]).run Tryz.prog w = .ok (.value (.float .f64 9218868437227405312)) w := ffrom 9218868437227405312
  have h2 : ∀ w, (callFunc 59 #[.int .u64 18442240474082181120]).run Tryz.prog w = .ok (.value (.float .f64 18442240474082181120)) w := ffrom 18442240474082181120
  rcases hs with rfl | rfl
  · go_enter Tryz.func44, Tryz.ntmps44
    go_wp2
    go_ret
    exact ⟨rfl, Drawn0.refl _⟩
  · go_enter Tryz.func44, Tryz.ntmps44
    go_wp2
    go_ret
    exact ⟨rfl, Drawn0.refl _⟩
end Go.Proofs.YtdjjlmphifgnnaaGreat
