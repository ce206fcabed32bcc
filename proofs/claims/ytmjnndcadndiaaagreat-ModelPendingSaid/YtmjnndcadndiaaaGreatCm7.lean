/- Parts of one proof, joined: Flw, Flr. Conditions: those of each statement. -/
import Derived.Test.YtmjnndcadndiaaaGreatProg
import Derived.Test.YtmjnndcadndiaaaGreatCm6
import Derived.Test.YtmjnndcadndiaaaGreatWWords
import Derived.WalkLawsBesides
import Derived.Laws.Externs
import Derived.Laws.FloatArith
import Derived.Laws.Bits64
import Derived.Laws.Bits64b
import Derived.Laws.BitsAllLaws
namespace Go.Proofs.YtmjnndcadndiaaaGreat
open Go.RowKit Go.Proofs.YtmjnndcadndiaaaGreatW.PrintWords
open Flt (nanP canP keyP placeP ofP atP stepsP midP)
set_option linter.unusedVariables false
set_option linter.unusedSimpArgs false
/-! ### the order of words -/
theorem cmp_int (x : Int) : compare x x = .eq := by simp [compare, compareOfLessAndEq]
theorem cmp_nat (x : Nat) : compare x x = .eq := by simp [compare, compareOfLessAndEq]
theorem fl_read (b : Nat) : FloatKind.f64.format.read b = (let neg := b / 9223372036854775808 % 2 == 1; let rung := b % 9223372036854775808; if rung < 4503599627370496 then .number neg rung (-1074) else if rung < 9218868437227405312 then .number neg (4503599627370496 + rung % 4503599627370496) (-1074 + (rung / 4503599627370496 - 1 : Nat)) else if rung = 9218868437227405312 then .infinity neg else .nan neg (rung - 9218868437227405312)) := rfl
theorem fl_self (b : Nat) : (FloatKind.f64.format.order b b == some .eq) = !nanP b := by
  show ((FloatKind.f64.format.read b).order (FloatKind.f64.format.read b) == some .eq) = !nanP b
  rw [fl_read]
  unfold nanP
  generalize b % 9223372036854775808 = r
  generalize (b / 9223372036854775808 % 2 == 1) = s
  simp only []
  split
  · rw [decide_eq_false (by omega)]
    simp [Ieee.Datum.order, cmp_int, cmp_nat]
  · split
    · rw [decide_eq_false (by omega)]
      simp [Ieee.Datum.order, cmp_int, cmp_nat]
    · split
      · rw [decide_eq_false (by omega)]
        simp [Ieee.Datum.order, cmp_int, cmp_nat]
      · rw [decide_eq_true (by omega)]
        rfl
theorem fl_ne (b : Nat) : (FloatKind.f64.format.order b b != some .eq) = nanP b := by
  show (!(FloatKind.f64.format.order b b == some .eq)) = _
  rw [fl_self, Bool.not_not]
theorem fl_zero (b : Nat) (hn : nanP b = false) (h0 : b % 9223372036854775808 ≠ 0) : (FloatKind.f64.format.order b 0 == some .lt) = true ∨ (FloatKind.f64.format.order b 0 == some .gt) = true := by
  have e0 : FloatKind.f64.format.read 0 = .number false 0 (-1074) := by rw [fl_read]; rfl
  show ((FloatKind.f64.format.read b).order (FloatKind.f64.format.read 0) == some .lt) = true ∨ ((FloatKind.f64.format.read b).order (FloatKind.f64.format.read 0) == some .gt) = true
  rw [e0, fl_read]
  unfold nanP at hn
  rw [decide_eq_false_iff_not] at hn
  generalize b % 9223372036854775808 = r at *
  generalize (b / 9223372036854775808 % 2 == 1) = s
  have key : ∀ (s : Bool) (m : Nat) (i : Int), 0 < m → ((Ieee.Datum.number s m i).order (.number false 0 (-1074)) == some .lt) = true ∨ ((Ieee.Datum.number s m i).order (.number false 0 (-1074)) == some .gt) = true := by
    intro s m i hm
    have hp : 0 < m <<< (i - min i (-1074)).toNat := by
      rw [Nat.shiftLeft_eq]
      exact Nat.mul_pos hm (Nat.two_pow_pos _)
    have hz : ∀ k, Ieee.signed false 0 k = 0 := fun k => by simp [Ieee.signed]
    cases s
    · right
      have h1 : Ieee.signed false m (i - min i (-1074)).toNat = ((m <<< (i - min i (-1074)).toNat : Nat) : Int) := rfl
      simp only [Ieee.Datum.order, hz, h1]
      have h2 : compare ((m <<< (i - min i (-1074)).toNat : Nat) : Int) 0 = .gt := by
        simp only [compare, compareOfLessAndEq]
        rw [if_neg (by omega), if_neg (by omega)]
      rw [h2]
      rfl
    · left
      have h1 : Ieee.signed true m (i - min i (-1074)).toNat = -((m <<< (i - min i (-1074)).toNat : Nat) : Int) := rfl
      simp only [Ieee.Datum.order, hz, h1]
      have h2 : compare (-((m <<< (i - min i (-1074)).toNat : Nat) : Int)) 0 = .lt := by
        simp only [compare, compareOfLessAndEq]
        rw [if_pos (by omega)]
      rw [h2]
      rfl
  simp only []
  split
  · exact key _ _ _ (by omega)
  · split
    · exact key _ _ _ (by omega)
    · split
      · cases s
        · right; rfl
        · left; rfl
      · omega
/-! ### the library -/
theorem fbits (b : Nat) (w : World) : (callFunc 65 #[.float .f64 b]).run Tryz.prog w = .ok (.value (.int .u64 (b : Int))) w := by
  rw [run_callFunc_extern Tryz.func65 (by kernel_rfl) (by kernel_rfl) (by kernel_rfl) (e := Extern.MathFloatBits.float64bits) (by kernel_rfl)]
  rfl
theorem ffrom (b : Nat) (w : World) : (callFunc 66 #[.int .u64 (b : Int)]).run Tryz.prog w = .ok (.value (.float .f64 b)) w := by
  rw [run_callFunc_extern Tryz.func66 (by kernel_rfl) (by kernel_rfl) (by kernel_rfl) (e := Extern.MathFloatBits.float64frombits) (by kernel_rfl)]
  rfl
theorem unary_fneg (k : FloatKind) (b : Nat) : Op.unary .neg (.float k b) = pure (.float k (Op.negFloat k b)) := rfl
attribute [local go_sem] unary_fneg
theorem zero_cases {b : Nat} (hb : b < 18446744073709551616) (h : b % 9223372036854775808 = 0) : b = 0 ∨ b = 9223372036854775808 := by omega
theorem isinf_pos (b : Nat) (w : World) : Calls Tryz.prog 96 #[.float .f64 b, .int .i64 1] w fun e w' => e = .returned (.bool (FloatKind.f64.format.order b 9218868437227405311 == some .gt)) ∧ Drawn0 w w' := by
  go_enter Tryz.func96, Tryz.ntmps96
  go_wp2
  go_ret
  exact ⟨rfl, Drawn0.refl _⟩
theorem isinf_neg (b : Nat) (w : World) : Calls Tryz.prog 96 #[.float .f64 b, .int .i64 (-1)] w fun e w' => e = .returned (.bool (FloatKind.f64.format.order (Op.negFloat .f64 b) 9218868437227405311 == some .gt)) ∧ Drawn0 w w' := by
  go_enter Tryz.func96, Tryz.ntmps96
  go_wp2
  go_ret
  exact ⟨rfl, Drawn0.refl _⟩
theorem drawn_trans {w w1 w2 : World} (h : Drawn0 w w1) (k : Drawn0 w1 w2) : Drawn0 w w2 := by
  obtain ⟨m, rfl⟩ := k
  exact h.step m
/-- whether a word is a NaN's, nought's, or another's -/
def Cls (b : Nat) (c : Int) : Prop := if nanP b then c = 0 else if b % 9223372036854775808 = 0 then c = 3 else c ≠ 0 ∧ c ≠ 3
set_option maxHeartbeats 1000000 in
theorem class_calls (b : Nat) (hb : b < 18446744073709551616) (w : World) : Calls Tryz.prog 82 #[.float .f64 b] w fun e w' => ∃ c : Int, Cls b c ∧ e = .returned (.int .i64 c) ∧ Drawn0 w w' := by
  have H1 := fun w => isinf_pos b w
  have H2 := fun w => isinf_neg b w
  have hs := fl_ne b
  by_cases hn : nanP b = true
  · have hs2 : (FloatKind.f64.format.order b b != some .eq) = true := by rw [hs, hn]
    clear H1 H2 hs
    have HN := Aside0.mk hn
    clear hn
    go_enter Tryz.func82, Tryz.ntmps82
    go_wp2
    go_ret
    exact ⟨0, by unfold Cls; rw [if_pos HN.out], rfl, Drawn0.refl _⟩
  · have hn : nanP b = false := by simpa using hn
    have hs2 : (FloatKind.f64.format.order b b != some .eq) = false := by rw [hs, hn]
    have HN := Aside0.mk hn
    have HP := Aside0.mk H1
    have HM := Aside0.mk H2
    by_cases h0 : b % 9223372036854775808 = 0
    · have H0 := Aside0.mk h0
      have l1 : (FloatKind.f64.format.order b 0 == some .lt) = false := by rcases zero_cases hb h0 with rfl | rfl <;> decide
      have l2 : (FloatKind.f64.format.order b 0 == some .gt) = false := by rcases zero_cases hb h0 with rfl | rfl <;> decide
      have l3 : (FloatKind.f64.format.order b 9218868437227405311 == some .gt) = false := by rcases zero_cases hb h0 with rfl | rfl <;> decide
      have l4 : (FloatKind.f64.format.order (Op.negFloat .f64 b) 9218868437227405311 == some .gt) = false := by rcases zero_cases hb h0 with rfl | rfl <;> decide
      rw [l3] at HP
      rw [l4] at HM
      clear H1 H2 hs hn h0 l3 l4
      go_enter Tryz.func82, Tryz.ntmps82
      go_wp2_with (first
        | (go_at_call 96; refine Calls.mono (HM.out _) ?_; rintro e w1 ⟨rfl, hd⟩; have D1 := Aside0.mk hd; clear hd HM)
        | (go_at_call 96; refine Calls.mono (HP.out _) ?_; rintro e w2 ⟨rfl, hd⟩; have D2 := Aside0.mk hd; clear hd HP))
      go_ret
      exact ⟨3, by unfold Cls; rw [if_neg (by rw [HN.out]; decide), if_pos H0.out], rfl, drawn_trans D1.out D2.out⟩
    · have hz := fl_zero b hn h0
      have H0 := Aside0.mk h0
      generalize (FloatKind.f64.format.order (Op.negFloat .f64 b) 9218868437227405311 == some .gt) = r1 at HM
      generalize (FloatKind.f64.format.order b 9218868437227405311 == some .gt) = r2 at HP
      have hcl : ∀ c : Int, c ≠ 0 → c ≠ 3 → Cls b c := fun c h1 h2 => by unfold Cls; rw [if_neg (by rw [HN.out]; decide), if_neg H0.out]; exact ⟨h1, h2⟩
      have HCL := Aside0.mk hcl
      clear H1 H2 hs hn h0 hcl
      cases r1 with
      | true =>
        have HZ := Aside0.mk hz
        clear hz
        go_enter Tryz.func82, Tryz.ntmps82
        go_wp2_with (first
          | (go_at_call 96; refine Calls.mono (HM.out _) ?_; rintro e w1 ⟨rfl, hd⟩; have D1 := Aside0.mk hd; clear hd HM))
        go_ret
        exact ⟨1, HCL.out 1 (by decide) (by decide), rfl, D1.out⟩
      | false =>
        cases r2 with
        | true =>
          have HZ := Aside0.mk hz
          clear hz
          go_enter Tryz.func82, Tryz.ntmps82
          go_wp2_with (first
            | (go_at_call 96; refine Calls.mono (HM.out _) ?_; rintro e w1 ⟨rfl, hd⟩; have D1 := Aside0.mk hd; clear hd HM)
            | (go_at_call 96; refine Calls.mono (HP.out _) ?_; rintro e w2 ⟨rfl, hd⟩; have D2 := Aside0.mk hd; clear hd HP))
          go_ret
          exact ⟨5, HCL.out 5 (by decide) (by decide), rfl, drawn_trans D1.out D2.out⟩
        | false =>
          cases hr3 : (FloatKind.f64.format.order b 0 == some .lt) with
          | true =>
            clear hz
            go_enter Tryz.func82, Tryz.ntmps82
            go_wp2_with (first
              | (go_at_call 96; refine Calls.mono (HM.out _) ?_; rintro e w1 ⟨rfl, hd⟩; have D1 := Aside0.mk hd; clear hd HM)
              | (go_at_call 96; refine Calls.mono (HP.out _) ?_; rintro e w2 ⟨rfl, hd⟩; have D2 := Aside0.mk hd; clear hd HP))
            go_ret
            exact ⟨2, HCL.out 2 (by decide) (by decide), rfl, drawn_trans D1.out D2.out⟩
          | false =>
            have hr4 : (FloatKind.f64.format.order b 0 == some .gt) = true := by rcases hz with h | h; exact absurd (hr3.symm.trans h) (by decide); exact h
            clear hz
            go_enter Tryz.func82, Tryz.ntmps82
            go_wp2_with (first
              | (go_at_call 96; refine Calls.mono (HM.out _) ?_; rintro e w1 ⟨rfl, hd⟩; have D1 := Aside0.mk hd; clear hd HM)
              | (go_at_call 96; refine Calls.mono (HP.out _) ?_; rintro e w2 ⟨rfl, hd⟩; have D2 := Aside0.mk hd; clear hd HP))
            go_ret
            exact ⟨4, HCL.out 4 (by decide) (by decide), rfl, drawn_trans D1.out D2.out⟩
theorem canP_nan {b : Nat} (h : nanP b = true) : canP b = 9221120237041090561 := by unfold canP; rw [h]; rfl
theorem canP_zero {b : Nat} (h : nanP b = false) (h0 : b % 9223372036854775808 = 0) : canP b = 0 := by unfold canP; rw [h, if_neg (by decide), if_pos h0]
theorem canP_else {b : Nat} (h : nanP b = false) (h0 : b % 9223372036854775808 ≠ 0) : canP b = b := by unfold canP; rw [h, if_neg (by decide), if_neg h0]
theorem canP_lt {b : Nat} (hb : b < 18446744073709551616) : canP b < 18446744073709551616 := by unfold canP; split <;> (try split) <;> omega
set_option maxHeartbeats 1000000 in
theorem canon_calls (b : Nat) (hb : b < 18446744073709551616) (w : World) : Calls Tryz.prog 61 #[.float .f64 b] w fun e w' => e = .returned (.float .f64 (canP b)) ∧ Drawn0 w w' := by
  have HF := Aside0.mk (class_calls b hb w)
  have hfr := ffrom 9221120237041090561
  have hfr2 : ∀ w, (callFunc 66 #[.int .u64 9221120237041090561]).run Tryz.prog w = .ok (.value (.float .f64 9221120237041090561)) w := hfr
  clear hfr
  by_cases hn : nanP b = true
  · have HN := Aside0.mk hn
    clear hn
    go_enter Tryz.func61, Tryz.ntmps61
    go_wp2_with (first
      | (go_at_call 82; refine Calls.mono HF.out ?_; rintro e w1 ⟨c, hc, rfl, hd⟩; obtain rfl : c = 0 := (by unfold Cls at hc; rwa [if_pos HN.out] at hc); have D1 := Aside0.mk hd; clear hd hc))
    go_ret
    exact ⟨by rw [canP_nan HN.out]; rfl, D1.out⟩
  · have hn : nanP b = false := by simpa using hn
    have HN := Aside0.mk hn
    by_cases h0 : b % 9223372036854775808 = 0
    · have H0 := Aside0.mk h0
      clear hn h0
      go_enter Tryz.func61, Tryz.ntmps61
      go_wp2_with (first
        | (go_at_call 82; refine Calls.mono HF.out ?_; rintro e w1 ⟨c, hc, rfl, hd⟩; obtain rfl : c = 3 := (by unfold Cls at hc; rwa [if_neg (by rw [HN.out]; decide), if_pos H0.out] at hc); have D1 := Aside0.mk hd; clear hd hc))
      go_ret
      exact ⟨by rw [canP_zero HN.out H0.out]; rfl, D1.out⟩
    · have H0 := Aside0.mk h0
      clear hn h0
      go_enter Tryz.func61, Tryz.ntmps61
      go_wp2_with (first
        | (go_at_call 82; refine Calls.mono HF.out ?_; rintro e w1 ⟨c, hc, rfl, hd⟩; obtain ⟨c1, c2⟩ : c ≠ 0 ∧ c ≠ 3 := (by unfold Cls at hc; rwa [if_neg (by rw [HN.out]; decide), if_neg H0.out] at hc); have D1 := Aside0.mk hd; have c3 : (c == 0) = false := (by simpa using c1); have c4 : (c == 3) = false := (by simpa using c2); clear hd hc))
      go_ret
      exact ⟨by rw [canP_else HN.out H0.out]; rfl, D1.out⟩
theorem or_sign {c : Nat} (h : c < 9223372036854775808) : bits .or .u64 (c : Int) 9223372036854775808 = ((c + 9223372036854775808 : Nat) : Int) := by
  rw [show (9223372036854775808 : Int) = ((9223372036854775808 : Nat) : Int) from rfl, bits_or_u64_nat c _ (by omega) (by decide)]
  have := Nat.two_pow_add_eq_or_of_lt (i := 63) (b := c) (by omega) 1
  rw [Nat.or_comm, show (9223372036854775808 : Nat) = 2 ^ 63 * 1 from rfl, ← this, Nat.add_comm]
theorem nat_not {c : Nat} (h : c < 18446744073709551616) : 18446744073709551615 ^^^ c = 18446744073709551615 - c := by
  have e := congrArg BitVec.toNat (BitVec.allOnes_xor (x := BitVec.ofNat 64 c))
  have h1 : (BitVec.ofNat 64 c).toNat = c := by rw [BitVec.toNat_ofNat]; exact Nat.mod_eq_of_lt h
  rw [BitVec.toNat_xor] at e
  rw [BitVec.toNat_not] at e
  rw [h1] at e
  rw [BitVec.toNat_allOnes] at e
  have h2 : (2 ^ 64 - 1 : Nat) = 18446744073709551615 := by decide
  rw [h2] at e
  exact e
theorem xor_ones {c : Nat} (h : c < 18446744073709551616) : bits .xor .u64 18446744073709551615 (c : Int) = ((18446744073709551615 - c : Nat) : Int) := by
  rw [show (18446744073709551615 : Int) = ((18446744073709551615 : Nat) : Int) from rfl, bits_xor_u64_nat _ c (by decide) h, nat_not h]
theorem andnot_sign {c : Nat} (h : c < 18446744073709551616) (h2 : 9223372036854775808 ≤ c) : bits .andNot .u64 (c : Int) 9223372036854775808 = ((c - 9223372036854775808 : Nat) : Int) := by
  have e := u64_andNot_nat c 9223372036854775808 h (by decide)
  have f := Nat.and_two_pow_sub_one_eq_mod c 63
  have g : (2 ^ 63 - 1 : Nat) = 9223372036854775807 := by decide
  have g2 : (2 ^ 63 : Nat) = 9223372036854775808 := by decide
  have g3 : (18446744073709551615 - 9223372036854775808 : Nat) = 9223372036854775807 := by decide
  rw [g, g2] at f
  rw [g3, f, show c % 9223372036854775808 = c - 9223372036854775808 by omega] at e
  exact e
theorem unary_xor_u64 (n : Int) : Op.unary .xor (.int .u64 n) = Op.intBits .xor .u64 18446744073709551615 n := rfl
set_option maxHeartbeats 1000000 in
set_option maxRecDepth 100000 in
theorem key_calls (b : Nat) (hb : b < 18446744073709551616) (w : World) : Calls Tryz.prog 47 #[.float .f64 b] w fun e w' => e = .returned (.int .u64 (keyP b)) ∧ Drawn0 w w' := by
  have HF := Aside0.mk (fun w => canon_calls b hb w)
  have hfb := fbits (canP b)
  have hs := fl_ne b
  by_cases hn : nanP b = true
  · have hs2 : (FloatKind.f64.format.order b b != some .eq) = true := by rw [hs, hn]
    have HN := Aside0.mk hn
    clear hn hs hfb
    go_enter Tryz.func47, Tryz.ntmps47
    go_wp2
    go_ret
    exact ⟨by unfold keyP; rw [if_pos HN.out]; rfl, Drawn0.refl _⟩
  · have hn : nanP b = false := by simpa using hn
    have hs2 : (FloatKind.f64.format.order b b != some .eq) = false := by rw [hs, hn]
    have HN := Aside0.mk hn
    have hlt := canP_lt hb
    have HK : Aside0 (keyP b = if canP b < 9223372036854775808 then canP b + 9223372036854775808 else 18446744073709551615 - canP b) := ⟨by unfold keyP; rw [hn]; rfl⟩
    generalize canP b = c at *
    by_cases hc : c < 9223372036854775808
    · have hc2 : (c : Int) < 9223372036854775808 := by omega
      have ho := or_sign hc
      clear hn hs
      rw [if_pos hc] at HK
      go_enter Tryz.func47, Tryz.ntmps47
      go_wp2_with (first
        | (go_at_call 61; refine Calls.mono (HF.out _) ?_; rintro e w1 ⟨rfl, hd⟩; have D1 := Aside0.mk hd; clear hd))
      go_ret
      exact ⟨by rw [HK.out]; rfl, D1.out⟩
    · have hc2 : decide ((c : Int) < 9223372036854775808) = false := decide_eq_false (by omega)
      have hux : Op.unary .xor (.int .u64 (c : Int)) = Op.intBits .xor .u64 18446744073709551615 (c : Int) := rfl
      have ho := xor_ones hlt
      clear hn hs
      rw [if_neg hc] at HK
      generalize 18446744073709551615 - c = d at ho HK
      clear hc hlt hb
      go_enter Tryz.func47, Tryz.ntmps47
      go_wp2_with (first
        | (go_at_call 61; refine Calls.mono (HF.out _) ?_; rintro e w1 ⟨rfl, hd⟩; have D1 := Aside0.mk hd; clear hd))
      go_ret
      exact ⟨by rw [HK.out]; rfl, D1.out⟩
end Go.Proofs.YtmjnndcadndiaaaGreat
namespace Go.Proofs.YtmjnndcadndiaaaGreat
open Go.RowKit Go.Proofs.YtmjnndcadndiaaaGreatW.PrintWords
open Flt (nanP canP keyP)
set_option linter.unusedVariables false
set_option linter.unusedSimpArgs false
theorem rbits_calls (b : Nat) (w : World) : Calls Tryz.prog 49 #[.float .f64 b] w fun e w' => e = .returned (.int .u64 (b : Int)) ∧ Drawn0 w w' := by
  have hfb := fbits b
  go_enter Tryz.func49, Tryz.ntmps49
  go_wp2
  go_ret
  exact ⟨rfl, Drawn0.refl _⟩
theorem fl_zero_eq (b : Nat) (hn : nanP b = false) (h0 : b % 9223372036854775808 ≠ 0) : (FloatKind.f64.format.order b 0 == some .eq) = false := by
  rcases fl_zero b hn h0 with h | h
  · have e := beq_iff_eq.1 h
    rw [e]; rfl
  · have e := beq_iff_eq.1 h
    rw [e]; rfl
set_option maxHeartbeats 1000000 in
theorem rcanon_calls (b : Nat) (hb : b < 18446744073709551616) (w : World) : Calls Tryz.prog 50 #[.float .f64 b] w fun e w' => e = .returned (.float .f64 (canP b)) ∧ Drawn0 w w' := by
  have hfr2 : ∀ w, (callFunc 66 #[.int .u64 9221120237041090561]).run Tryz.prog w = .ok (.value (.float .f64 9221120237041090561)) w := ffrom 9221120237041090561
  have hs := fl_ne b
  by_cases hn : nanP b = true
  · have HN := Aside0.mk hn
    have hs2 : (FloatKind.f64.format.order b b != some .eq) = true := by rw [hs, hn]
    clear hn hs
    go_enter Tryz.func50, Tryz.ntmps50
    go_wp2
    go_ret
    exact ⟨by rw [canP_nan HN.out]; rfl, Drawn0.refl _⟩
  · have hn : nanP b = false := by simpa using hn
    have HN := Aside0.mk hn
    have hs2 : (FloatKind.f64.format.order b b != some .eq) = false := by rw [hs, hn]
    by_cases h0 : b % 9223372036854775808 = 0
    · have H0 := Aside0.mk h0
      have hz : (FloatKind.f64.format.order b 0 == some .eq) = true := by rcases zero_cases hb h0 with rfl | rfl <;> decide
      clear hn h0 hs
      go_enter Tryz.func50, Tryz.ntmps50
      go_wp2
      go_ret
      exact ⟨by rw [canP_zero HN.out H0.out]; rfl, Drawn0.refl _⟩
    · have H0 := Aside0.mk h0
      have hz := fl_zero_eq b hn h0
      clear hn h0 hs
      go_enter Tryz.func50, Tryz.ntmps50
      go_wp2
      go_ret
      exact ⟨by rw [canP_else HN.out H0.out]; rfl, Drawn0.refl _⟩
set_option maxHeartbeats 1000000 in
theorem rkey_calls (b : Nat) (hb : b < 18446744073709551616) (w : World) : Calls Tryz.prog 31 #[.float .f64 b] w fun e w' => e = .returned (.int .u64 (keyP b)) ∧ Drawn0 w w' := by
  have HF := Aside0.mk (fun w => rcanon_calls b hb w)
  have HG := Aside0.mk (fun w => rbits_calls (canP b) w)
  have hs := fl_ne b
  by_cases hn : nanP b = true
  · have hs2 : (FloatKind.f64.format.order b b != some .eq) = true := by rw [hs, hn]
    have HN := Aside0.mk hn
    clear hn hs
    go_enter Tryz.func31, Tryz.ntmps31
    go_wp2
    go_ret
    exact ⟨by unfold keyP; rw [if_pos HN.out]; rfl, Drawn0.refl _⟩
  · have hn : nanP b = false := by simpa using hn
    have hs2 : (FloatKind.f64.format.order b b != some .eq) = false := by rw [hs, hn]
    have HN := Aside0.mk hn
    have hlt := canP_lt hb
    have HK : Aside0 (keyP b = if canP b < 9223372036854775808 then canP b + 9223372036854775808 else 18446744073709551615 - canP b) := ⟨by unfold keyP; rw [hn]; rfl⟩
    generalize canP b = c at *
    by_cases hc : c < 9223372036854775808
    · clear hn hs
      rw [if_pos hc] at HK
      go_enter Tryz.func31, Tryz.ntmps31
      go_wp2_with (first
        | (go_at_call 50; refine Calls.mono (HF.out _) ?_; rintro e w1 ⟨rfl, hd⟩; have D1 := Aside0.mk hd; clear hd)
        | (go_at_call 49; refine Calls.mono (HG.out _) ?_; rintro e w2 ⟨rfl, hd⟩; have D2 := Aside0.mk (drawn_trans D1.out hd); clear hd))
      go_ret
      exact ⟨by rw [HK.out]; simp, D2.out⟩
    · clear hn hs
      rw [if_neg hc] at HK
      go_enter Tryz.func31, Tryz.ntmps31
      go_wp2_with (first
        | (go_at_call 50; refine Calls.mono (HF.out _) ?_; rintro e w1 ⟨rfl, hd⟩; have D1 := Aside0.mk hd; clear hd)
        | (go_at_call 49; refine Calls.mono (HG.out _) ?_; rintro e w2 ⟨rfl, hd⟩; have D2 := Aside0.mk (drawn_trans D1.out hd); clear hd))
      go_ret
      exact ⟨by rw [HK.out, show ((18446744073709551615 - c : Nat) : Int) = 18446744073709551615 - (c : Int) from by omega]; rfl, D2.out⟩
theorem rsame_calls (a b : Nat) (ha : a < 18446744073709551616) (hb : b < 18446744073709551616) (w : World) : Calls Tryz.prog 19 #[.float .f64 a, .float .f64 b] w fun e w' => e = .returned (.bool (decide (keyP a = keyP b))) ∧ Drawn0 w w' := by
  have HA := Aside0.mk (fun w => rkey_calls a ha w)
  have HB := Aside0.mk (fun w => rkey_calls b hb w)
  have HE : Aside0 (((keyP a : Int) == (keyP b : Int)) = decide (keyP a = keyP b)) := ⟨by rw [Bool.eq_iff_iff]; simp; omega⟩
  go_enter Tryz.func19, Tryz.ntmps19
  go_wp2_with (first
    | (go_at_call 31; (with_reducible refine Calls.mono (HA.out _) ?_); rintro e w1 ⟨rfl, hd⟩; have D1 := Aside0.mk hd; clear hd HA)
    | (go_at_call 31; (with_reducible refine Calls.mono (HB.out _) ?_); rintro e w2 ⟨rfl, hd⟩; have D2 := Aside0.mk (drawn_trans D1.out hd); clear hd HB))
  go_ret
  exact ⟨by rw [HE.out]; rfl, D2.out⟩
end Go.Proofs.YtmjnndcadndiaaaGreat
