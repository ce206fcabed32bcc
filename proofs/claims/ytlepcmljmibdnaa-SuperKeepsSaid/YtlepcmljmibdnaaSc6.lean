/- Parts of one proof, joined: Rt, Ru, Rv, Rw, Rx, Ry. Conditions: those of each statement. -/
import Derived.Test.YtlepcmljmibdnaaSc5
namespace Go.Proofs.Ytlepcmljmibdnaa
open Go.RowKit Go.Proofs.YtlepcmljmibdnaaW.PrintWords Go.Proofs.YtlepcmljmibdnaaW.PrintLast Go.Proofs.YtlepcmljmibdnaaW.PrintMore PWalOpens
set_option linter.unusedVariables false
set_option linter.unusedSimpArgs false
/-- one byte more of a number, high byte first -/
def bigS (a b : Int) : Int := Go.bits .or .u64 (a * 256 % 18446744073709551616) (b % 18446744073709551616)
def bigN (l : List Int) : Int := l.foldl bigS 0
theorem bigN_succ (l : List Int) (i : Nat) (n : Int) (h : l[i]? = some n) : bigN (l.take (i + 1)) = bigS (bigN (l.take i)) n := by
  unfold bigN
  rw [List.take_add_one, h, List.foldl_append]
  rfl
theorem gfixed_bad (w : World) (base B : Nat) (A : Option Addr) (c : Nat) (xs : List Int) (bad : Bool) (k : Nat) (hk : bad = true ∨ xs.length < k) (h : GK w base B A c xs bad) :
    Calls Try.prog 105 #[.pointer (some ⟨B, 0, none⟩), .int .i64 k] w fun e w' => e = .returned (.int .u64 0) ∧ GK w' base B none 0 [] true ∧ Chg w w' (fun k => k = B) := by
  have HT := Aside0.mk (gtake_bad w base B A c xs bad k hk h)
  clear h hk
  go_enter Try.func105, Try.ntmps105
  go_wp2_with (go_at_call 119; with_reducible refine HT.out.mono ?_; rintro e w1 ⟨rfl, hg, hc⟩; have HG1 := Aside0.mk hg; have HC1 := Aside0.mk hc; clear hg hc)
  go_loopg [5, 12] 0 (fun kq v5 v12 w' => v5 = .int .u64 0 ∧ v12 = .int .i64 0 ∧ w' = w1)
  case atStart => exact ⟨rfl, rfl, rfl⟩
  case round =>
    obtain ⟨rfl, rfl, rfl⟩ := hrel
    go_wp2
    go_ret
    exact ⟨rfl, HG1.out, HC1.out⟩
theorem gfixed_good (w : World) (base B : Nat) (ad : Addr) (c : Nat) (xs : List Int) (k : Nat) (hk : k ≤ xs.length) (hc63 : c ≤ 9223372036854775807) (hpl : ad.spot = none) (h : GK w base B (some ad) c xs false) :
    Calls Try.prog 105 #[.pointer (some ⟨B, 0, none⟩), .int .i64 k] w fun e w' => e = .returned (.int .u64 (bigN (xs.take k))) ∧ GX w' base B (xs.drop k) false ∧ Chg w w' (fun k => k = B) := by
  have HT := Aside0.mk (gtake_good w base B ad c xs k hk hc63 hpl h)
  have hkl : k ≤ 9223372036854775807 := by have := h.cap; omega
  obtain ⟨ys, hys⟩ : ∃ ys, xs.take k = ys := ⟨_, rfl⟩
  have hyl : ys.length = k := by rw [← hys, List.length_take]; omega
  rw [hys] at HT ⊢
  clear h hk hys
  subst hyl
  go_enter Try.func105, Try.ntmps105
  go_wp2_with (go_at_call 119; with_reducible refine HT.out.mono ?_; rintro e w1 ⟨rfl, hg, hC, hc⟩; have HG1 := Aside0.mk hg; have HR1 := Aside0.mk hC; have HC1 := Aside0.mk hc; clear hg hc hC)
  go_loopg [5, 12] ys.length (fun kq v5 v12 w' => ∃ i : Nat, v12 = .int .i64 (i : Int) ∧ v5 = .int .u64 (bigN (ys.take i)) ∧ Aside0 (i + kq = ys.length) ∧ w' = w1)
  case atStart => exact ⟨0, rfl, rfl, ⟨by omega⟩, rfl⟩
  case round =>
    obtain ⟨i, rfl, rfl, HI, rfl⟩ := hrel
    by_cases hi : i < ys.length
    · obtain ⟨n, hnn⟩ : ∃ n, ys[i]? = some n := ⟨_, List.getElem?_eq_getElem hi⟩
      obtain ⟨a2, e, x0⟩ := Kd.at_int HR1.out (i : Int) (by omega) (by omega)
      cases e
      rw [show rd ys (i : Int) = n by simp [rd, List.getD, hnn], Int.toNat_natCast] at x0
      have HNN := Aside0.mk hnn
      clear hnn
      go_wp2
      have hk1 := HI.out
      obtain ⟨gq, rfl⟩ : ∃ gq, gk = gq + 1 := ⟨gk - 1, by omega⟩
      go_roundg gq
      case rel => exact ⟨i + 1, by go_num, by rw [bigN_succ ys i n HNN.out]; rfl, ⟨by omega⟩, rfl⟩
      case measure => omega
    · have hi0 := HI.out
      obtain rfl : gk = 0 := by omega
      obtain rfl : i = ys.length := by omega
      clear hi0
      have hm : ¬ ((ys.length : Int) < (ys.length : Int)) := by omega
      go_wp2
      go_ret
      exact ⟨rfl, HG1.out, HC1.out⟩
end Go.Proofs.Ytlepcmljmibdnaa
namespace Go.Proofs.Ytlepcmljmibdnaa
open Go.RowKit Go.Proofs.YtlepcmljmibdnaaW.PrintWords Go.Proofs.YtlepcmljmibdnaaW.PrintLast Go.Proofs.YtlepcmljmibdnaaW.PrintMore PWalOpens
set_option linter.unusedVariables false
set_option linter.unusedSimpArgs false
theorem bigS_small (a b : Nat) (ha : a < 72057594037927936) (hb : b < 256) : bigS (a : Int) (b : Int) = (a : Int) * 256 + b := by
  unfold bigS Go.bits
  have e : ∀ x : Nat, x < 18446744073709551616 → BitVec.ofInt IntKind.u64.bits (x : Int) = BitVec.ofNat 64 x := fun x _ => by
    show BitVec.ofInt 64 (x : Int) = _
    rw [BitVec.ofInt_natCast]
  rw [show ((a : Int) * 256 % 18446744073709551616) = ((a * 256 : Nat) : Int) by omega, show ((b : Int) % 18446744073709551616) = (b : Int) by omega]
  have e1 := e (a * 256) (by omega)
  have e2 := e b (by omega)
  simp only [e1, e2]
  have e3 : (BitVec.ofNat 64 (a * 256) ||| BitVec.ofNat 64 b).toNat = a * 256 + b := by
    rw [BitVec.toNat_or]
    simp only [BitVec.toNat_ofNat]
    rw [Nat.mod_eq_of_lt (by omega), Nat.mod_eq_of_lt (by omega)]
    have := Nat.shiftLeft_add_eq_or_of_lt (i := 8) (b := b) hb a
    rw [Nat.shiftLeft_eq] at this
    exact this.symm
  have e4 : IntKind.u64.wrap (((BitVec.ofNat 64 (a * 256) ||| BitVec.ofNat 64 b).toNat : Nat) : Int) = (((BitVec.ofNat 64 (a * 256) ||| BitVec.ofNat 64 b).toNat : Nat) : Int) % 18446744073709551616 := rfl
  refine e4.trans ?_
  rw [e3]
  omega
theorem bigN_one (b : Int) (h0 : 0 ≤ b) (h : b < 256) : bigN [b] = b := by
  obtain ⟨n, rfl⟩ := Int.eq_ofNat_of_zero_le h0
  have := bigS_small 0 n (by omega) (by omega)
  show bigS 0 _ = _
  simpa using this
/-- high byte first: the value of a short row -/
theorem bigN_lowB (n : Int) (h0 : 0 ≤ n) (k : Nat) (hk : k ≤ 8) : bigN (lowB n k) = n % 256 ^ k := by
  obtain ⟨m, rfl⟩ := Int.eq_ofNat_of_zero_le h0
  have key : ∀ (j : Nat) (a : Nat), (a + 1) * 256 ^ j ≤ 18446744073709551616 → (lowB (m : Int) j).foldl bigS (a : Int) = ((a * 256 ^ j + m % 256 ^ j : Nat) : Int) := by
    intro j
    induction j with
    | zero => intro a _; simp [lowB, Nat.mod_one]
    | succ j ih =>
      intro a h2
      have hp : 1 ≤ 256 ^ j := Nat.pos_of_ne_zero (by simp)
      have hd : m / 256 ^ j % 256 < 256 := Nat.mod_lt _ (by omega)
      have ha : (a + 1) * 256 ≤ 18446744073709551616 := by
        refine Nat.le_trans ?_ h2
        rw [Nat.pow_succ, ← Nat.mul_assoc]
        have := Nat.mul_le_mul_left ((a + 1)) hp
        rw [Nat.mul_one] at this
        exact Nat.mul_le_mul_right 256 this
      have e : ((m : Int) / 256 ^ j) % 256 = ((m / 256 ^ j % 256 : Nat) : Int) := by
        rw [Int.natCast_emod, Int.natCast_ediv, Int.natCast_pow]
        rfl
      rw [lowB, List.foldl_cons, e, bigS_small a _ (by omega) hd]
      obtain ⟨d, hdd⟩ : ∃ d, m / 256 ^ j % 256 = d := ⟨_, rfl⟩
      have hm := Nat.mod_mul (x := m) (a := 256 ^ j) (b := 256)
      rw [hdd] at hd hm ⊢
      have h3 := ih (a * 256 + d) (by
        refine Nat.le_trans (Nat.mul_le_mul_right _ (show a * 256 + d + 1 ≤ (a + 1) * 256 by omega)) ?_
        rw [Nat.mul_assoc, Nat.mul_comm 256, ← Nat.pow_succ]
        exact h2)
      rw [show ((a : Int) * 256 + (d : Int)) = ((a * 256 + d : Nat) : Int) by omega, h3, Nat.pow_succ, hm, Nat.add_mul, Nat.mul_assoc, Nat.mul_comm 256, Nat.mul_comm d]
      congr 1
      omega
  have := key k 0 (by
    have : 256 ^ k ≤ 256 ^ 8 := Nat.pow_le_pow_right (by omega) hk
    omega)
  unfold bigN
  rw [show ((0 : Int)) = ((0 : Nat) : Int) from rfl, this, Nat.zero_mul, Nat.zero_add, Int.natCast_emod, Int.natCast_pow]
  rfl
end Go.Proofs.Ytlepcmljmibdnaa
namespace Go.Proofs.Ytlepcmljmibdnaa
open Go.RowKit Go.Proofs.YtlepcmljmibdnaaW.PrintWords Go.Proofs.YtlepcmljmibdnaaW.PrintLast Go.Proofs.YtlepcmljmibdnaaW.PrintMore PWalOpens
set_option linter.unusedVariables false
set_option linter.unusedSimpArgs false
theorem gx_ok (w : World) (base B : Nat) (xs : List Int) (bad b : Bool) (hb : (!bad) = b) (h : GX w base B xs bad) :
    Calls Try.prog 107 #[.pointer (some ⟨B, 0, none⟩)] w fun e w' => e = .returned (.bool b) ∧ w = w' := by
  obtain ⟨A, c, h, _⟩ := h
  exact gok_calls w base B A c xs bad b hb h
theorem gx_fail (w : World) (base B : Nat) (xs : List Int) (bad : Bool) (h : GX w base B xs bad) :
    Calls Try.prog 106 #[.pointer (some ⟨B, 0, none⟩)] w fun e w' => e = .returned (.tuple #[]) ∧ GX w' base B [] true ∧ Chg w w' (fun k => k = B) := by
  obtain ⟨A, c, h, _⟩ := h
  refine (gfail_calls w base B A c xs bad h).mono ?_
  rintro e w' ⟨rfl, h1, h2⟩
  exact ⟨rfl, .of_bad h1, h2⟩
theorem gx_fixed_ok (w : World) (base B : Nat) (xs r : List Int) (k : Nat) (kI v : Int) (hkI : (k : Int) = kI) (h1 : 1 ≤ k) (hk : k ≤ xs.length) (hv : bigN (xs.take k) = v) (hr : xs.drop k = r) (h : GX w base B xs false) :
    Calls Try.prog 105 #[.pointer (some ⟨B, 0, none⟩), .int .i64 kI] w fun e w' => e = .returned (.int .u64 v) ∧ GX w' base B r false ∧ Chg w w' (fun k => k = B) := by
  subst hkI hv hr
  obtain ⟨A, c, h, hc, hA, hs⟩ := h
  cases A with
  | none => rw [hA rfl] at hk; simp at hk; omega
  | some ad => exact gfixed_good w base B ad c xs k hk hc (hs ad rfl) h
theorem gx_fixed_no (w : World) (base B : Nat) (xs : List Int) (bad : Bool) (k : Nat) (kI : Int) (hkI : (k : Int) = kI) (hk : bad = true ∨ xs.length < k) (h : GX w base B xs bad) :
    Calls Try.prog 105 #[.pointer (some ⟨B, 0, none⟩), .int .i64 kI] w fun e w' => e = .returned (.int .u64 0) ∧ GX w' base B [] true ∧ Chg w w' (fun k => k = B) := by
  subst hkI
  obtain ⟨A, c, h, hc, hA, hs⟩ := h
  refine (gfixed_bad w base B A c xs bad k hk h).mono ?_
  rintro e w' ⟨rfl, h1, h2⟩
  exact ⟨rfl, .of_bad h1, h2⟩
theorem gN_no (w : World) (base B : Nat) (mx : Int) (h0 : 0 ≤ mx) (xs : List Int) (bad : Bool) (hb : bad = true ∨ xs.length < 1) (h : GX w base B xs bad) :
    Calls Try.prog 79 #[.pointer (some ⟨B, 0, none⟩), .int .u64 mx] w fun e w' => e = .returned (.int .u64 0) ∧ GX w' base B [] true ∧ Chg w w' (fun k => k = B) := by
  have H := Aside0.mk (gx_fixed_no w base B xs bad 1 1 rfl hb h)
  clear h hb
  go_enter Try.func79, Try.ntmps79
  go_wp2_with (first
    | (go_at_call 105; with_reducible refine H.out.mono ?_; rintro e w1 ⟨rfl, hg, hc⟩; have HG1 := Aside0.mk hg; have HC1 := Aside0.mk hc; clear hg hc)
    | (go_at_call 107; with_reducible refine (gx_ok w1 base B [] true false rfl HG1.out).mono ?_; rintro e w2 ⟨rfl, rfl⟩))
  go_ret
  exact ⟨rfl, HG1.out, HC1.out⟩
theorem gN_small (w : World) (base B : Nat) (mx b : Int) (r : List Int) (hb0 : 0 ≤ b) (hb : b < 128) (hm : b ≤ mx) (h : GX w base B (b :: r) false) :
    Calls Try.prog 79 #[.pointer (some ⟨B, 0, none⟩), .int .u64 mx] w fun e w' => e = .returned (.int .u64 b) ∧ GX w' base B r false ∧ Chg w w' (fun k => k = B) := by
  have H := Aside0.mk (gx_fixed_ok w base B (b :: r) r 1 1 b rfl (by omega) (by simp) (bigN_one b hb0 (by omega)) rfl h)
  clear h
  go_enter Try.func79, Try.ntmps79
  go_wp2_with (first
    | (go_at_call 105; with_reducible refine H.out.mono ?_; rintro e w1 ⟨rfl, hg, hc⟩; have HG1 := Aside0.mk hg; have HC1 := Aside0.mk hc; clear hg hc)
    | (go_at_call 107; with_reducible refine (gx_ok w1 base B r false true rfl HG1.out).mono ?_; rintro e w2 ⟨rfl, rfl⟩))
  go_ret
  exact ⟨rfl, HG1.out, HC1.out⟩
theorem gN_big (w : World) (base B : Nat) (mx b : Int) (r : List Int) (hb0 : 0 ≤ b) (hb : b < 128) (hm : mx < b) (h : GX w base B (b :: r) false) :
    Calls Try.prog 79 #[.pointer (some ⟨B, 0, none⟩), .int .u64 mx] w fun e w' => e = .returned (.int .u64 0) ∧ GX w' base B [] true ∧ Chg w w' (fun k => k = B) := by
  have H := Aside0.mk (gx_fixed_ok w base B (b :: r) r 1 1 b rfl (by omega) (by simp) (bigN_one b hb0 (by omega)) rfl h)
  clear h
  go_enter Try.func79, Try.ntmps79
  go_wp2_with (first
    | (go_at_call 105; with_reducible refine H.out.mono ?_; rintro e w1 ⟨rfl, hg, hc⟩; have HG1 := Aside0.mk hg; have HC1 := Aside0.mk hc; clear hg hc)
    | (go_at_call 106; with_reducible refine (gx_fail w1 base B r false HG1.out).mono ?_; rintro e w2 ⟨rfl, hg, hc⟩; have HG2 := Aside0.mk hg; have HC2 := Aside0.mk hc; clear hg hc)
    | (go_at_call 107; with_reducible refine (gx_ok w2 base B [] true false rfl HG2.out).mono ?_; rintro e w3 ⟨rfl, rfl⟩))
  go_ret
  exact ⟨rfl, HG2.out, HC1.out.trans HC2.out⟩
theorem gN_width (w : World) (base B : Nat) (mx b : Int) (r : List Int) (hb0 : 128 ≤ b) (hb : b < 256) (hm : b = 128 ∨ 136 < b) (h : GX w base B (b :: r) false) :
    Calls Try.prog 79 #[.pointer (some ⟨B, 0, none⟩), .int .u64 mx] w fun e w' => e = .returned (.int .u64 0) ∧ GX w' base B [] true ∧ Chg w w' (fun k => k = B) := by
  have H := Aside0.mk (gx_fixed_ok w base B (b :: r) r 1 1 b rfl (by omega) (by simp) (bigN_one b (by omega) (by omega)) rfl h)
  clear h
  by_cases h1 : b = 128
  · subst h1
    clear hm
    go_enter Try.func79, Try.ntmps79
    go_wp2_with (first
      | (go_at_call 105; with_reducible refine H.out.mono ?_; rintro e w1 ⟨rfl, hg, hc⟩; have HG1 := Aside0.mk hg; have HC1 := Aside0.mk hc; clear hg hc)
      | (go_at_call 106; with_reducible refine (gx_fail w1 base B r false HG1.out).mono ?_; rintro e w2 ⟨rfl, hg, hc⟩; have HG2 := Aside0.mk hg; have HC2 := Aside0.mk hc; clear hg hc))
    go_ret
    exact ⟨rfl, HG2.out, HC1.out.trans HC2.out⟩
  · have h2 : 136 < b := by omega
    clear hm h1
    go_enter Try.func79, Try.ntmps79
    go_wp2_with (first
      | (go_at_call 105; with_reducible refine H.out.mono ?_; rintro e w1 ⟨rfl, hg, hc⟩; have HG1 := Aside0.mk hg; have HC1 := Aside0.mk hc; clear hg hc)
      | (go_at_call 106; with_reducible refine (gx_fail w1 base B r false HG1.out).mono ?_; rintro e w2 ⟨rfl, hg, hc⟩; have HG2 := Aside0.mk hg; have HC2 := Aside0.mk hc; clear hg hc))
    go_ret
    exact ⟨rfl, HG2.out, HC1.out.trans HC2.out⟩
theorem gN_short (w : World) (base B : Nat) (mx b : Int) (h0 : 0 ≤ mx) (n : Nat) (r : List Int) (hb : (n : Int) = b - 128) (hn1 : 128 < b) (hn8 : b ≤ 136) (hm : r.length < n) (h : GX w base B (b :: r) false) :
    Calls Try.prog 79 #[.pointer (some ⟨B, 0, none⟩), .int .u64 mx] w fun e w' => e = .returned (.int .u64 0) ∧ GX w' base B [] true ∧ Chg w w' (fun k => k = B) := by
  have H := Aside0.mk (gx_fixed_ok w base B (b :: r) r 1 1 b rfl (by omega) (by simp) (bigN_one _ (by omega) (by omega)) rfl h)
  clear h
  have HM := Aside0.mk hm
  have HE := Aside0.mk hb
  clear hm hb
  go_enter Try.func79, Try.ntmps79
  go_wp2_with (first
    | (go_at_call 105; with_reducible refine H.out.mono ?_; rintro e w1 ⟨rfl, hg, hc⟩; have HG1 := Aside0.mk hg; have HC1 := Aside0.mk hc; clear hg hc)
    | (go_at_call 105; with_reducible refine (gx_fixed_no w1 base B r false n (b - 128) HE.out (.inr HM.out) HG1.out).mono ?_; rintro e w2 ⟨rfl, hg, hc⟩; have HG2 := Aside0.mk hg; have HC2 := Aside0.mk hc; clear hg hc)
    | (go_at_call 106; with_reducible refine (gx_fail w2 base B [] true HG2.out).mono ?_; rintro e w3 ⟨rfl, hg, hc⟩; have HG3 := Aside0.mk hg; have HC3 := Aside0.mk hc; clear hg hc)
    | (go_at_call 107; with_reducible refine (gx_ok w3 base B [] true false rfl HG3.out).mono ?_; rintro e w4 ⟨rfl, rfl⟩))
  go_ret
  exact ⟨rfl, HG3.out, (HC1.out.trans HC2.out).trans HC3.out⟩
theorem GX.drewN {w : World} {base B : Nat} {xs : List Int} {bad : Bool} (h : GX w base B xs bad) (n : Nat) : GX (w.drewN n) base B xs bad := by
  obtain ⟨A, c, h, hr⟩ := h
  exact ⟨A, c, ⟨h.blk, Kd.C_drewN h.C n, h.cap, h.away, h.hB⟩, hr⟩
theorem chg_drewN {w w' : World} {S : Nat → Prop} (h : Chg w w' S) (n : Nat) : Chg w (w'.drewN n) S := ⟨h.os, h.tape, h.output, h.size, h.block⟩
theorem gN_wide (w : World) (base B : Nat) (mx b x : Int) (n : Nat) (r : List Int) (hb : (n : Int) = b - 128) (hn1 : 128 < b) (hn8 : b ≤ 136) (hm : n ≤ r.length) (hx : bigN (r.take n) = x) (hx1 : 128 ≤ x) (hs : (szN x : Int) = b - 128) (hxm : x ≤ mx) (h : GX w base B (b :: r) false) :
    Calls Try.prog 79 #[.pointer (some ⟨B, 0, none⟩), .int .u64 mx] w fun e w' => e = .returned (.int .u64 x) ∧ GX w' base B (r.drop n) false ∧ Chg w w' (fun k => k = B) := by
  have H := Aside0.mk (gx_fixed_ok w base B (b :: r) r 1 1 b rfl (by omega) (by simp) (bigN_one _ (by omega) (by omega)) rfl h)
  clear h
  have HM := Aside0.mk hm
  have HE := Aside0.mk hb
  have HN1 := Aside0.mk (show 1 ≤ n by omega)
  have HX := Aside0.mk hx
  have HSZ := Aside0.mk (show codec_size.f 9 x = some (b - 128) from by rw [← hs]; exact size_f x (by omega))
  clear hm hb hx hs
  go_enter Try.func79, Try.ntmps79
  go_wp2_with (first
    | (go_at_call 105; with_reducible refine H.out.mono ?_; rintro e w1 ⟨rfl, hg, hc⟩; have HG1 := Aside0.mk hg; have HC1 := Aside0.mk hc; clear hg hc)
    | (go_at_call 105; with_reducible refine (gx_fixed_ok w1 base B r (r.drop n) n (b - 128) x HE.out HN1.out HM.out HX.out rfl HG1.out).mono ?_; rintro e w2 ⟨rfl, hg, hc⟩; have HG2 := Aside0.mk hg; have HC2 := Aside0.mk hc; clear hg hc)
    | (go_at_call 100; refine (codec_size.calls 9 x (b - 128) _ HSZ.out).mono ?_; rintro e w3 ⟨rfl, hd⟩; obtain ⟨nd, rfl⟩ := hd.out; have HG3 := Aside0.mk (HG2.out.drewN nd))
    | (go_at_call 107; with_reducible refine (gx_ok _ base B _ false true rfl HG3.out).mono ?_; rintro e w4 ⟨rfl, rfl⟩))
  go_ret
  exact ⟨rfl, HG3.out, chg_drewN (HC1.out.trans HC2.out) nd⟩
theorem gN_odd1 (w : World) (base B : Nat) (mx b x : Int) (n : Nat) (r : List Int) (hb : (n : Int) = b - 128) (hn1 : 128 < b) (hn8 : b ≤ 136) (hm : n ≤ r.length) (hx : bigN (r.take n) = x) (hx0 : 0 ≤ x) (hx1 : x < 128) (hxm : x ≤ mx) (h : GX w base B (b :: r) false) :
    Calls Try.prog 79 #[.pointer (some ⟨B, 0, none⟩), .int .u64 mx] w fun e w' => e = .returned (.int .u64 0) ∧ GX w' base B [] true ∧ Chg w w' (fun k => k = B) := by
  have H := Aside0.mk (gx_fixed_ok w base B (b :: r) r 1 1 b rfl (by omega) (by simp) (bigN_one _ (by omega) (by omega)) rfl h)
  clear h
  have HM := Aside0.mk hm
  have HE := Aside0.mk hb
  have HN1 := Aside0.mk (show 1 ≤ n by omega)
  have HX := Aside0.mk hx
  clear hm hb hx
  go_enter Try.func79, Try.ntmps79
  go_wp2_with (first
    | (go_at_call 105; with_reducible refine H.out.mono ?_; rintro e w1 ⟨rfl, hg, hc⟩; have HG1 := Aside0.mk hg; have HC1 := Aside0.mk hc; clear hg hc)
    | (go_at_call 105; with_reducible refine (gx_fixed_ok w1 base B r (r.drop n) n (b - 128) x HE.out HN1.out HM.out HX.out rfl HG1.out).mono ?_; rintro e w2 ⟨rfl, hg, hc⟩; have HG2 := Aside0.mk hg; have HC2 := Aside0.mk hc; clear hg hc)
    | (go_at_call 106; with_reducible refine (gx_fail _ base B (r.drop n) false HG2.out).mono ?_; rintro e w5 ⟨rfl, hg, hc⟩; have HG5 := Aside0.mk hg; have HC5 := Aside0.mk (HC2.out.trans hc); clear hg hc)
    | (go_at_call 107; with_reducible refine (gx_ok _ base B [] true false rfl HG5.out).mono ?_; rintro e w9 ⟨rfl, rfl⟩))
  go_ret
  exact ⟨rfl, HG5.out, HC1.out.trans HC5.out⟩
theorem gN_odd2 (w : World) (base B : Nat) (mx b x : Int) (n : Nat) (r : List Int) (hb : (n : Int) = b - 128) (hn1 : 128 < b) (hn8 : b ≤ 136) (hm : n ≤ r.length) (hx : bigN (r.take n) = x) (hx0 : 0 ≤ x) (hx1 : x < 128) (hxm : mx < x) (h : GX w base B (b :: r) false) :
    Calls Try.prog 79 #[.pointer (some ⟨B, 0, none⟩), .int .u64 mx] w fun e w' => e = .returned (.int .u64 0) ∧ GX w' base B [] true ∧ Chg w w' (fun k => k = B) := by
  have H := Aside0.mk (gx_fixed_ok w base B (b :: r) r 1 1 b rfl (by omega) (by simp) (bigN_one _ (by omega) (by omega)) rfl h)
  clear h
  have HM := Aside0.mk hm
  have HE := Aside0.mk hb
  have HN1 := Aside0.mk (show 1 ≤ n by omega)
  have HX := Aside0.mk hx
  clear hm hb hx
  go_enter Try.func79, Try.ntmps79
  go_wp2_with (first
    | (go_at_call 105; with_reducible refine H.out.mono ?_; rintro e w1 ⟨rfl, hg, hc⟩; have HG1 := Aside0.mk hg; have HC1 := Aside0.mk hc; clear hg hc)
    | (go_at_call 105; with_reducible refine (gx_fixed_ok w1 base B r (r.drop n) n (b - 128) x HE.out HN1.out HM.out HX.out rfl HG1.out).mono ?_; rintro e w2 ⟨rfl, hg, hc⟩; have HG2 := Aside0.mk hg; have HC2 := Aside0.mk hc; clear hg hc)
    | (go_at_call 106; with_reducible refine (gx_fail _ base B (r.drop n) false HG2.out).mono ?_; rintro e w5 ⟨rfl, hg, hc⟩; have HG5 := Aside0.mk hg; have HC5 := Aside0.mk (HC2.out.trans hc); clear hg hc)
    | (go_at_call 106; with_reducible refine (gx_fail _ base B [] true HG5.out).mono ?_; rintro e w6 ⟨rfl, hg, hc⟩; have HG6 := Aside0.mk hg; have HC6 := Aside0.mk (HC5.out.trans hc); clear hg hc)
    | (go_at_call 107; with_reducible refine (gx_ok _ base B [] true false rfl HG6.out).mono ?_; rintro e w9 ⟨rfl, rfl⟩))
  go_ret
  exact ⟨rfl, HG6.out, HC1.out.trans HC6.out⟩
theorem gN_odd3 (w : World) (base B : Nat) (mx b x : Int) (n : Nat) (r : List Int) (hb : (n : Int) = b - 128) (hn1 : 128 < b) (hn8 : b ≤ 136) (hm : n ≤ r.length) (hx : bigN (r.take n) = x) (hx0 : 0 ≤ x) (hx1 : 128 ≤ x) (hs : ¬ ((szN x : Int) = b - 128)) (hxm : x ≤ mx) (h : GX w base B (b :: r) false) :
    Calls Try.prog 79 #[.pointer (some ⟨B, 0, none⟩), .int .u64 mx] w fun e w' => e = .returned (.int .u64 0) ∧ GX w' base B [] true ∧ Chg w w' (fun k => k = B) := by
  have H := Aside0.mk (gx_fixed_ok w base B (b :: r) r 1 1 b rfl (by omega) (by simp) (bigN_one _ (by omega) (by omega)) rfl h)
  clear h
  have HM := Aside0.mk hm
  have HE := Aside0.mk hb
  have HN1 := Aside0.mk (show 1 ≤ n by omega)
  have HX := Aside0.mk hx
  have HSZ := Aside0.mk (size_f x hx0)
  obtain ⟨sx, hsx⟩ : ∃ sx : Int, (szN x : Int) = sx := ⟨_, rfl⟩
  rw [hsx] at HSZ hs
  have hne : (sx != b - 128) = true := by simpa using hs
  clear hm hb hx hsx hs
  go_enter Try.func79, Try.ntmps79
  go_wp2_with (first
    | (go_at_call 105; with_reducible refine H.out.mono ?_; rintro e w1 ⟨rfl, hg, hc⟩; have HG1 := Aside0.mk hg; have HC1 := Aside0.mk hc; clear hg hc)
    | (go_at_call 105; with_reducible refine (gx_fixed_ok w1 base B r (r.drop n) n (b - 128) x HE.out HN1.out HM.out HX.out rfl HG1.out).mono ?_; rintro e w2 ⟨rfl, hg, hc⟩; have HG2 := Aside0.mk hg; have HC2 := Aside0.mk hc; clear hg hc)
    | (go_at_call 100; refine (codec_size.calls 9 x sx _ HSZ.out).mono ?_; rintro e w3 ⟨rfl, hd⟩; obtain ⟨nd, rfl⟩ := hd.out; have HG3 := Aside0.mk (HG2.out.drewN nd); have HC3 := Aside0.mk (chg_drewN HC2.out nd))
    | (go_at_call 106; with_reducible refine (gx_fail _ base B (r.drop n) false HG3.out).mono ?_; rintro e w5 ⟨rfl, hg, hc⟩; have HG5 := Aside0.mk hg; have HC5 := Aside0.mk (HC3.out.trans hc); clear hg hc)
    | (go_at_call 107; with_reducible refine (gx_ok _ base B [] true false rfl HG5.out).mono ?_; rintro e w9 ⟨rfl, rfl⟩))
  go_ret
  exact ⟨rfl, HG5.out, HC1.out.trans HC5.out⟩
theorem gN_odd4 (w : World) (base B : Nat) (mx b x : Int) (n : Nat) (r : List Int) (hb : (n : Int) = b - 128) (hn1 : 128 < b) (hn8 : b ≤ 136) (hm : n ≤ r.length) (hx : bigN (r.take n) = x) (hx0 : 0 ≤ x) (hx1 : 128 ≤ x) (hs : ¬ ((szN x : Int) = b - 128)) (hxm : mx < x) (h : GX w base B (b :: r) false) :
    Calls Try.prog 79 #[.pointer (some ⟨B, 0, none⟩), .int .u64 mx] w fun e w' => e = .returned (.int .u64 0) ∧ GX w' base B [] true ∧ Chg w w' (fun k => k = B) := by
  have H := Aside0.mk (gx_fixed_ok w base B (b :: r) r 1 1 b rfl (by omega) (by simp) (bigN_one _ (by omega) (by omega)) rfl h)
  clear h
  have HM := Aside0.mk hm
  have HE := Aside0.mk hb
  have HN1 := Aside0.mk (show 1 ≤ n by omega)
  have HX := Aside0.mk hx
  have HSZ := Aside0.mk (size_f x hx0)
  obtain ⟨sx, hsx⟩ : ∃ sx : Int, (szN x : Int) = sx := ⟨_, rfl⟩
  rw [hsx] at HSZ hs
  have hne : (sx != b - 128) = true := by simpa using hs
  clear hm hb hx hsx hs
  go_enter Try.func79, Try.ntmps79
  go_wp2_with (first
    | (go_at_call 105; with_reducible refine H.out.mono ?_; rintro e w1 ⟨rfl, hg, hc⟩; have HG1 := Aside0.mk hg; have HC1 := Aside0.mk hc; clear hg hc)
    | (go_at_call 105; with_reducible refine (gx_fixed_ok w1 base B r (r.drop n) n (b - 128) x HE.out HN1.out HM.out HX.out rfl HG1.out).mono ?_; rintro e w2 ⟨rfl, hg, hc⟩; have HG2 := Aside0.mk hg; have HC2 := Aside0.mk hc; clear hg hc)
    | (go_at_call 100; refine (codec_size.calls 9 x sx _ HSZ.out).mono ?_; rintro e w3 ⟨rfl, hd⟩; obtain ⟨nd, rfl⟩ := hd.out; have HG3 := Aside0.mk (HG2.out.drewN nd); have HC3 := Aside0.mk (chg_drewN HC2.out nd))
    | (go_at_call 106; with_reducible refine (gx_fail _ base B (r.drop n) false HG3.out).mono ?_; rintro e w5 ⟨rfl, hg, hc⟩; have HG5 := Aside0.mk hg; have HC5 := Aside0.mk (HC3.out.trans hc); clear hg hc)
    | (go_at_call 106; with_reducible refine (gx_fail _ base B [] true HG5.out).mono ?_; rintro e w6 ⟨rfl, hg, hc⟩; have HG6 := Aside0.mk hg; have HC6 := Aside0.mk (HC5.out.trans hc); clear hg hc)
    | (go_at_call 107; with_reducible refine (gx_ok _ base B [] true false rfl HG6.out).mono ?_; rintro e w9 ⟨rfl, rfl⟩))
  go_ret
  exact ⟨rfl, HG6.out, HC1.out.trans HC6.out⟩
theorem gN_wbig (w : World) (base B : Nat) (mx b x : Int) (n : Nat) (r : List Int) (hb : (n : Int) = b - 128) (hn1 : 128 < b) (hn8 : b ≤ 136) (hm : n ≤ r.length) (hx : bigN (r.take n) = x) (hx0 : 0 ≤ x) (hx1 : 128 ≤ x) (hs : (szN x : Int) = b - 128) (hxm : mx < x) (h : GX w base B (b :: r) false) :
    Calls Try.prog 79 #[.pointer (some ⟨B, 0, none⟩), .int .u64 mx] w fun e w' => e = .returned (.int .u64 0) ∧ GX w' base B [] true ∧ Chg w w' (fun k => k = B) := by
  have H := Aside0.mk (gx_fixed_ok w base B (b :: r) r 1 1 b rfl (by omega) (by simp) (bigN_one _ (by omega) (by omega)) rfl h)
  clear h
  have HM := Aside0.mk hm
  have HE := Aside0.mk hb
  have HN1 := Aside0.mk (show 1 ≤ n by omega)
  have HX := Aside0.mk hx
  have HSZ := Aside0.mk (show codec_size.f 9 x = some (b - 128) from by rw [← hs]; exact size_f x (by omega))
  clear hm hb hx hs
  go_enter Try.func79, Try.ntmps79
  go_wp2_with (first
    | (go_at_call 105; with_reducible refine H.out.mono ?_; rintro e w1 ⟨rfl, hg, hc⟩; have HG1 := Aside0.mk hg; have HC1 := Aside0.mk hc; clear hg hc)
    | (go_at_call 105; with_reducible refine (gx_fixed_ok w1 base B r (r.drop n) n (b - 128) x HE.out HN1.out HM.out HX.out rfl HG1.out).mono ?_; rintro e w2 ⟨rfl, hg, hc⟩; have HG2 := Aside0.mk hg; have HC2 := Aside0.mk hc; clear hg hc)
    | (go_at_call 100; refine (codec_size.calls 9 x (b - 128) _ HSZ.out).mono ?_; rintro e w3 ⟨rfl, hd⟩; obtain ⟨nd, rfl⟩ := hd.out; have HG3 := Aside0.mk (HG2.out.drewN nd); have HC3 := Aside0.mk (chg_drewN HC2.out nd))
    | (go_at_call 106; with_reducible refine (gx_fail _ base B (r.drop n) false HG3.out).mono ?_; rintro e w5 ⟨rfl, hg, hc⟩; have HG5 := Aside0.mk hg; have HC5 := Aside0.mk (HC3.out.trans hc); clear hg hc)
    | (go_at_call 107; with_reducible refine (gx_ok _ base B [] true false rfl HG5.out).mono ?_; rintro e w9 ⟨rfl, rfl⟩))
  go_ret
  exact ⟨rfl, HG5.out, HC1.out.trans HC5.out⟩
end Go.Proofs.Ytlepcmljmibdnaa
namespace Go.Proofs.Ytlepcmljmibdnaa
open Go.RowKit Go.Proofs.YtlepcmljmibdnaaW.PrintWords Go.Proofs.YtlepcmljmibdnaaW.PrintLast Go.Proofs.YtlepcmljmibdnaaW.PrintMore PWalOpens
set_option linter.unusedVariables false
set_option linter.unusedSimpArgs false
theorem gread_calls (w : World) (A : Option Addr) (c : Nat) (b : List Int) (hl : b.length ≤ 1000000) (hn : A = none → b.length = 0 ∧ c = 0) (hC : (Kd.int .u8).C w A b.length b) :
    Calls Try.prog 78 #[.slice A b.length c] w fun e w' => ∃ B, e = .returned (.pointer (some ⟨B, 0, none⟩)) ∧ GX w' w.heap.size B b false ∧ Below w.heap.size w w' := by
  have H := Aside0.mk (clone_any w A c b hl hn hC)
  clear hn hC
  go_enter Try.func78, Try.ntmps78
  go_wp2_with (go_at_call 69; with_reducible refine H.out.mono ?_; rintro e w1 ⟨A1, c1, rfl, hr, hb⟩; have HR1 := Aside0.mk hr; have HB1 := Aside0.mk hb; clear hr hb)
  go_ret
  obtain ⟨_, _, h3⟩ := Kd.R_reads' HR1.out
  have h2 := (Kd.R_reads' HR1.out).2.1
  have hlt := Kd.R_lt HR1.out
  obtain ⟨_, inner, ho, _⟩ := HR1.out
  have hb2 := below_alloc HB1.out (.cells #[.slice A1 b.length c1, .bool false] 154)
  refine ⟨w1.heap.size, rfl, ⟨A1, c1, ⟨by rw [show (w1.alloc (.cells #[.slice A1 b.length c1, .bool false] 154)).heap = w1.heap.push (.cells #[.slice A1 b.length c1, .bool false] 154) from rfl]; simp, Kd.C_alloc h3 _, h2, fun ad e => ?_, HB1.out.size⟩, ?_, ?_, ?_⟩, hb2⟩
  · subst e
    have := hlt ad.block rfl
    omega
  · rcases ho.2 with ⟨e, _⟩ | ⟨g, cap, cur, e, _, _, _, hm, _⟩
    · injection e with e1 e2 e3; omega
    · injection e with e1 e2 e3; rw [e3]; exact Nat.le_trans hm (by decide)
  · intro e
    subst e
    rcases ho.2 with ⟨e, h0⟩ | ⟨g, cap, cur, e, _⟩
    · exact List.length_eq_zero_iff.mp h0
    · injection e with e1; cases e1
  · intro ad e
    subst e
    rcases ho.2 with ⟨e, _⟩ | ⟨g, cap, cur, e, _⟩
    · injection e with e1; cases e1
    · injection e with e1; cases e1; rfl
end Go.Proofs.Ytlepcmljmibdnaa
namespace Go.Proofs.Ytlepcmljmibdnaa
open Go.RowKit Go.Proofs.YtlepcmljmibdnaaW.PrintWords Go.Proofs.YtlepcmljmibdnaaW.PrintLast Go.Proofs.YtlepcmljmibdnaaW.PrintMore PWalOpens
set_option linter.unusedVariables false
set_option linter.unusedSimpArgs false
/-- the reference's reader at block B -/
structure HK (w : World) (base B : Nat) (A : Option Addr) (c : Nat) (xs : List Int) (bad : Bool) : Prop where
  blk : w.heap[B]? = some (.cells #[.slice A xs.length c, .bool bad] 124 (0, 0))
  C : (Kd.int .u8).C w A xs.length xs
  cap : xs.length ≤ c
  away : ∀ ad, A = some ad → ad.block < B
  hB : base ≤ B
def HX (w : World) (base B : Nat) (xs : List Int) (bad : Bool) : Prop := ∃ A c, HK w base B A c xs bad ∧ c ≤ 9223372036854775807 ∧ (A = none → xs = [])
theorem HX.keep {w w' : World} {base B : Nat} {xs : List Int} {bad : Bool} {S : Nat → Prop} (h : HX w base B xs bad) (hc : Chg w w' S) (hS : ∀ k, k ≤ B → ¬ S k) : HX w' base B xs bad := by
  obtain ⟨A, c, hk, hr⟩ := h
  have hl : B < w.heap.size := (Array.getElem?_eq_some_iff.1 hk.blk).1
  refine ⟨A, c, ⟨(hc.block B hl (hS B (Nat.le_refl _))).trans hk.blk, ?_, hk.cap, hk.away, hk.hB⟩, hr⟩
  exact Kd.C_foot_neS (fun h => h) hk.C (fun a e _ hb => hS _ (Nat.le_of_lt (hk.away a e)) hb) _ ⟨hc.size, fun i hi hn => hc.block i hi hn⟩
theorem HX.of_bad {w : World} {base B : Nat} (h : HK w base B none 0 [] true) : HX w base B [] true := ⟨none, 0, h, by omega, fun _ => rfl⟩
theorem hfail_calls (w : World) (base B : Nat) (A : Option Addr) (c : Nat) (xs : List Int) (bad : Bool) (h : HK w base B A c xs bad) :
    Calls Try.prog 111 #[.pointer (some ⟨B, 0, none⟩)] w fun e w' => e = .returned (.tuple #[]) ∧ HK w' base B none 0 [] true ∧ Chg w w' (fun k => k = B) := by
  have HG := Aside0.mk h
  obtain ⟨q0, q1, f0, f1⟩ := cells2 h.blk
  clear h
  go_enter Try.func111, Try.ntmps111
  go_wp2
  go_end0
  have ho := ((Only.refl w B).set (i := 1) (.bool true)).set (i := 0) (.slice none 0 0)
  exact ⟨rfl, ⟨set7 (set7 HG.out.blk 1 (.bool true)) 0 (.slice none 0 0), Kd.C_nil _ _, Nat.le_refl _, fun ad h => (by cases h), HG.out.hB⟩, ho.chg fun _ h => h⟩
theorem hnumber_bad (w : World) (base B : Nat) (A : Option Addr) (c : Nat) (xs : List Int) (bad : Bool) (k : Nat) (hk : xs.length < k) (h : HK w base B A c xs bad) :
    Calls Try.prog 110 #[.pointer (some ⟨B, 0, none⟩), .int .i64 k] w fun e w' => e = .returned (.int .u64 0) ∧ HK w' base B none 0 [] true ∧ Chg w w' (fun k => k = B) := by
  have HG := Aside0.mk h
  obtain ⟨q0, q1, f0, f1⟩ := cells2 h.blk
  have hk' : (xs.length : Int) < (k : Int) := by omega
  clear h hk
  go_enter Try.func110, Try.ntmps110
  go_wp2_with (go_at_call 111; with_reducible refine (hfail_calls w base B A c xs bad HG.out).mono ?_; rintro e w1 ⟨rfl, hg, hc⟩; have HG1 := Aside0.mk hg; have HC1 := Aside0.mk hc; clear hg hc)
  go_ret
  exact ⟨rfl, HG1.out, HC1.out⟩
def bigA (a b : Int) : Int := IntKind.u64.wrap (IntKind.u64.wrap (a * 256) + IntKind.u64.wrap b)
def bigM (l : List Int) : Int := l.foldl bigA 0
theorem bigM_succ (l : List Int) (i : Nat) (n : Int) (h : l[i]? = some n) : bigM (l.take (i + 1)) = bigA (bigM (l.take i)) n := by
  unfold bigM
  rw [List.take_add_one, h, List.foldl_append]
  rfl
theorem hnumber_good (w : World) (base B : Nat) (ad : Addr) (c : Nat) (xs : List Int) (k : Nat) (hk : k ≤ xs.length) (hc63 : c ≤ 9223372036854775807) (h : HK w base B (some ad) c xs false) :
    Calls Try.prog 110 #[.pointer (some ⟨B, 0, none⟩), .int .i64 k] w fun e w' => e = .returned (.int .u64 (bigM (xs.take k))) ∧ HX w' base B (xs.drop k) false ∧ Chg w w' (fun k => k = B) := by
  have HG := Aside0.mk h
  obtain ⟨q0, q1, f0, f1⟩ := cells2 h.blk
  have hcap : (xs.length : Int) ≤ (c : Int) := by have := h.cap; omega
  have hk1 : (k : Int) ≤ (xs.length : Int) := by omega
  have hk2 : ¬ ((xs.length : Int) < (k : Int)) := by omega
  have HR := Aside0.mk (Kd.C_take h.C hk)
  obtain ⟨ys, hys⟩ : ∃ ys, xs.take k = ys := ⟨_, rfl⟩
  have hyl : ys.length = k := by rw [← hys, List.length_take]; omega
  rw [hys] at HR ⊢
  have HY := Aside0.mk hys
  clear h hk hys
  subst hyl
  go_enter Try.func110, Try.ntmps110
  go_wp2
  go_loopg [5, 24] ys.length (fun kq v5 v24 w' => ∃ i : Nat, v24 = .int .i64 (i : Int) ∧ v5 = .int .u64 (bigM (ys.take i)) ∧ Aside0 (i + kq = ys.length) ∧ w' = w)
  case atStart => exact ⟨0, rfl, rfl, ⟨by omega⟩, rfl⟩
  case round =>
    obtain ⟨i, rfl, rfl, HI, rfl⟩ := hrel
    by_cases hi : i < ys.length
    · obtain ⟨n, hnn⟩ : ∃ n, ys[i]? = some n := ⟨_, List.getElem?_eq_getElem hi⟩
      obtain ⟨a2, e, x0⟩ := Kd.at_int HR.out (i : Int) (by omega) (by omega)
      cases e
      rw [show rd ys (i : Int) = n by simp [rd, List.getD, hnn], Int.toNat_natCast] at x0
      have HNN := Aside0.mk hnn
      clear hnn
      go_wp2
      have hk1 := HI.out
      obtain ⟨gq, rfl⟩ : ∃ gq, gk = gq + 1 := ⟨gk - 1, by omega⟩
      go_roundg gq
      case rel => exact ⟨i + 1, by go_num, by rw [bigM_succ ys i n HNN.out]; rfl, ⟨by omega⟩, rfl⟩
      case measure => omega
    · have hi0 := HI.out
      obtain rfl : gk = 0 := by omega
      obtain rfl : i = ys.length := by omega
      clear hi0
      have hm : ¬ ((ys.length : Int) < (ys.length : Int)) := by omega
      have hxl : ys.length ≤ xs.length := by rw [← HY.out, List.length_take]; omega
      by_cases hkc : ys.length = c
      · subst hkc
        clear hcap
        go_wp2
        go_ret
        have ho := (Only.refl wr B).set (i := 0) (.slice (some ad) (xs.length - ys.length) 0)
        have C1 := Kd.C_foot_neS (fun h => h) HG.out.C (fun a e _ hb => Nat.ne_of_lt (HG.out.away a e) hb) _ ho.kept
        have C2 := Kd.C_drop (m := ys.length) (c := ys.length) C1 hxl HG.out.cap
        rw [if_pos rfl] at C2
        refine ⟨?_, ⟨some ad, 0, ⟨?_, C2, ?_, fun a e => HG.out.away a e, HG.out.hB⟩, by omega, fun e => (by cases e)⟩, ho.chg fun _ h => h⟩
        · rfl
        · rw [List.length_drop]; exact set7 HG.out.blk 0 _
        · rw [List.length_drop]; have := HG.out.cap; omega
      · have hkc' : (ys.length : Int) < (c : Int) := by omega
        go_wp2
        go_ret
        have ho := (Only.refl wr B).set (i := 0) (.slice (some (ad.add ys.length)) (xs.length - ys.length) (c - ys.length))
        have C1 := Kd.C_foot_neS (fun h => h) HG.out.C (fun a e _ hb => Nat.ne_of_lt (HG.out.away a e) hb) _ ho.kept
        have C2 := Kd.C_drop (m := ys.length) (c := c) C1 hxl HG.out.cap
        rw [if_neg (by omega)] at C2
        have hm : ys.length * (Kd.int .u8).sz = ys.length := Nat.mul_one _
        simp only [Option.map_some, hm] at C2
        refine ⟨?_, ⟨some (ad.add ys.length), c - ys.length, ⟨?_, C2, ?_, ?_, HG.out.hB⟩, by omega, fun e => (by cases e)⟩, ho.chg fun _ h => h⟩
        · rfl
        · rw [List.length_drop]; exact set7 HG.out.blk 0 _
        · rw [List.length_drop]; have := HG.out.cap; omega
        · rintro a ⟨⟩; rw [add_block]; exact HG.out.away ad rfl
end Go.Proofs.Ytlepcmljmibdnaa
namespace Go.Proofs.Ytlepcmljmibdnaa
open Go.RowKit Go.Proofs.YtlepcmljmibdnaaW.PrintWords Go.Proofs.YtlepcmljmibdnaaW.PrintLast Go.Proofs.YtlepcmljmibdnaaW.PrintMore PWalOpens
set_option linter.unusedVariables false
set_option linter.unusedSimpArgs false
theorem HX.badc {w : World} {base B : Nat} {xs : List Int} {bad : Bool} (h : HX w base B xs bad) : w.cell? ⟨B, 1, none⟩ = some (.bool bad) := by
  obtain ⟨A, c, h, _⟩ := h
  exact (cells2 h.blk).2.1
theorem hx_fail (w : World) (base B : Nat) (xs : List Int) (bad : Bool) (h : HX w base B xs bad) :
    Calls Try.prog 111 #[.pointer (some ⟨B, 0, none⟩)] w fun e w' => e = .returned (.tuple #[]) ∧ HX w' base B [] true ∧ Chg w w' (fun k => k = B) := by
  obtain ⟨A, c, h, _⟩ := h
  refine (hfail_calls w base B A c xs bad h).mono ?_
  rintro e w' ⟨rfl, h1, h2⟩
  exact ⟨rfl, .of_bad h1, h2⟩
theorem hx_fixed_ok (w : World) (base B : Nat) (xs r : List Int) (k : Nat) (kI v : Int) (hkI : (k : Int) = kI) (h1 : 1 ≤ k) (hk : k ≤ xs.length) (hv : bigM (xs.take k) = v) (hr : xs.drop k = r) (h : HX w base B xs false) :
    Calls Try.prog 110 #[.pointer (some ⟨B, 0, none⟩), .int .i64 kI] w fun e w' => e = .returned (.int .u64 v) ∧ HX w' base B r false ∧ Chg w w' (fun k => k = B) := by
  subst hkI hv hr
  obtain ⟨A, c, h, hc, hA⟩ := h
  cases A with
  | none => rw [hA rfl] at hk; simp at hk; omega
  | some ad => exact hnumber_good w base B ad c xs k hk hc h
theorem hx_fixed_no (w : World) (base B : Nat) (xs : List Int) (bad : Bool) (k : Nat) (kI : Int) (hkI : (k : Int) = kI) (hk : xs.length < k) (h : HX w base B xs bad) :
    Calls Try.prog 110 #[.pointer (some ⟨B, 0, none⟩), .int .i64 kI] w fun e w' => e = .returned (.int .u64 0) ∧ HX w' base B [] true ∧ Chg w w' (fun k => k = B) := by
  subst hkI
  obtain ⟨A, c, h, hc, hA⟩ := h
  refine (hnumber_bad w base B A c xs bad k hk h).mono ?_
  rintro e w' ⟨rfl, h1, h2⟩
  exact ⟨rfl, .of_bad h1, h2⟩
theorem bigM_one (b : Int) (h0 : 0 ≤ b) (h : b < 256) : bigM [b] = b := by
  show ((0 * 256 % 18446744073709551616) + (b % 18446744073709551616)) % 18446744073709551616 = b
  omega
theorem hN_no (w : World) (base B : Nat) (mx : Int) (h0 : 0 ≤ mx) (xs : List Int) (bad : Bool) (hb : xs.length < 1) (h : HX w base B xs bad) :
    Calls Try.prog 83 #[.pointer (some ⟨B, 0, none⟩), .int .u64 mx] w fun e w' => e = .returned (.int .u64 0) ∧ HX w' base B [] true ∧ Chg w w' (fun k => k = B) := by
  have H := Aside0.mk (hx_fixed_no w base B xs bad 1 1 rfl hb h)
  clear h hb
  go_enter Try.func83, Try.ntmps83
  go_wp2_with (first
    | (go_at_call 110; with_reducible refine H.out.mono ?_; rintro e w1 ⟨rfl, hg, hc⟩; have HG1 := Aside0.mk hg; have c1 := hg.badc; have HC1 := Aside0.mk hc; clear hg hc))
  go_ret
  exact ⟨rfl, HG1.out, HC1.out⟩
theorem hN_small (w : World) (base B : Nat) (mx b : Int) (r : List Int) (hb0 : 0 ≤ b) (hb : b < 128) (hm : b ≤ mx) (h : HX w base B (b :: r) false) :
    Calls Try.prog 83 #[.pointer (some ⟨B, 0, none⟩), .int .u64 mx] w fun e w' => e = .returned (.int .u64 b) ∧ HX w' base B r false ∧ Chg w w' (fun k => k = B) := by
  have H := Aside0.mk (hx_fixed_ok w base B (b :: r) r 1 1 b rfl (by omega) (by simp) (bigM_one b hb0 (by omega)) rfl h)
  clear h
  go_enter Try.func83, Try.ntmps83
  go_wp2_with (first
    | (go_at_call 110; with_reducible refine H.out.mono ?_; rintro e w1 ⟨rfl, hg, hc⟩; have HG1 := Aside0.mk hg; have c1 := hg.badc; have HC1 := Aside0.mk hc; clear hg hc))
  go_ret
  exact ⟨rfl, HG1.out, HC1.out⟩
theorem hN_big (w : World) (base B : Nat) (mx b : Int) (r : List Int) (hb0 : 0 ≤ b) (hb : b < 128) (hm : mx < b) (h : HX w base B (b :: r) false) :
    Calls Try.prog 83 #[.pointer (some ⟨B, 0, none⟩), .int .u64 mx] w fun e w' => e = .returned (.int .u64 0) ∧ HX w' base B [] true ∧ Chg w w' (fun k => k = B) := by
  have H := Aside0.mk (hx_fixed_ok w base B (b :: r) r 1 1 b rfl (by omega) (by simp) (bigM_one b hb0 (by omega)) rfl h)
  clear h
  go_enter Try.func83, Try.ntmps83
  go_wp2_with (first
    | (go_at_call 110; with_reducible refine H.out.mono ?_; rintro e w1 ⟨rfl, hg, hc⟩; have HG1 := Aside0.mk hg; have c1 := hg.badc; have HC1 := Aside0.mk hc; clear hg hc)
    | (go_at_call 111; with_reducible refine (hx_fail w1 base B r false HG1.out).mono ?_; rintro e w2 ⟨rfl, hg, hc⟩; have HG2 := Aside0.mk hg; have c2 := hg.badc; have HC2 := Aside0.mk hc; clear hg hc))
  go_ret
  exact ⟨rfl, HG2.out, HC1.out.trans HC2.out⟩
theorem hN_width (w : World) (base B : Nat) (mx b : Int) (r : List Int) (hb0 : 128 ≤ b) (hb : b < 256) (hm : b = 128 ∨ 136 < b) (h : HX w base B (b :: r) false) :
    Calls Try.prog 83 #[.pointer (some ⟨B, 0, none⟩), .int .u64 mx] w fun e w' => e = .returned (.int .u64 0) ∧ HX w' base B [] true ∧ Chg w w' (fun k => k = B) := by
  have H := Aside0.mk (hx_fixed_ok w base B (b :: r) r 1 1 b rfl (by omega) (by simp) (bigM_one b (by omega) (by omega)) rfl h)
  clear h
  by_cases h1 : b = 128
  · subst h1
    clear hm
    go_enter Try.func83, Try.ntmps83
    go_wp2_with (first
      | (go_at_call 110; with_reducible refine H.out.mono ?_; rintro e w1 ⟨rfl, hg, hc⟩; have HG1 := Aside0.mk hg; have c1 := hg.badc; have HC1 := Aside0.mk hc; clear hg hc)
      | (go_at_call 111; with_reducible refine (hx_fail w1 base B r false HG1.out).mono ?_; rintro e w2 ⟨rfl, hg, hc⟩; have HG2 := Aside0.mk hg; have c2 := hg.badc; have HC2 := Aside0.mk hc; clear hg hc))
    go_ret
    exact ⟨rfl, HG2.out, HC1.out.trans HC2.out⟩
  · have h2 : 136 < b := by omega
    clear hm h1
    go_enter Try.func83, Try.ntmps83
    go_wp2_with (first
      | (go_at_call 110; with_reducible refine H.out.mono ?_; rintro e w1 ⟨rfl, hg, hc⟩; have HG1 := Aside0.mk hg; have c1 := hg.badc; have HC1 := Aside0.mk hc; clear hg hc)
      | (go_at_call 111; with_reducible refine (hx_fail w1 base B r false HG1.out).mono ?_; rintro e w2 ⟨rfl, hg, hc⟩; have HG2 := Aside0.mk hg; have c2 := hg.badc; have HC2 := Aside0.mk hc; clear hg hc))
    go_ret
    exact ⟨rfl, HG2.out, HC1.out.trans HC2.out⟩
theorem hN_short (w : World) (base B : Nat) (mx b : Int) (h0 : 0 ≤ mx) (n : Nat) (r : List Int) (hb : (n : Int) = b - 128) (hn1 : 128 < b) (hn8 : b ≤ 136) (hm : r.length < n) (h : HX w base B (b :: r) false) :
    Calls Try.prog 83 #[.pointer (some ⟨B, 0, none⟩), .int .u64 mx] w fun e w' => e = .returned (.int .u64 0) ∧ HX w' base B [] true ∧ Chg w w' (fun k => k = B) := by
  have H := Aside0.mk (hx_fixed_ok w base B (b :: r) r 1 1 b rfl (by omega) (by simp) (bigM_one _ (by omega) (by omega)) rfl h)
  clear h
  have HM := Aside0.mk hm
  have HE := Aside0.mk hb
  clear hm hb
  go_enter Try.func83, Try.ntmps83
  go_wp2_with (first
    | (go_at_call 110; with_reducible refine H.out.mono ?_; rintro e w1 ⟨rfl, hg, hc⟩; have HG1 := Aside0.mk hg; have c1 := hg.badc; have HC1 := Aside0.mk hc; clear hg hc)
    | (go_at_call 110; with_reducible refine (hx_fixed_no w1 base B r false n (b - 128) HE.out HM.out HG1.out).mono ?_; rintro e w2 ⟨rfl, hg, hc⟩; have HG2 := Aside0.mk hg; have c2 := hg.badc; have HC2 := Aside0.mk hc; clear hg hc)
    | (go_at_call 111; with_reducible refine (hx_fail w2 base B [] true HG2.out).mono ?_; rintro e w3 ⟨rfl, hg, hc⟩; have HG3 := Aside0.mk hg; have c3 := hg.badc; have HC3 := Aside0.mk hc; clear hg hc))
  go_ret
  exact ⟨rfl, HG3.out, (HC1.out.trans HC2.out).trans HC3.out⟩
theorem HX.drewN {w : World} {base B : Nat} {xs : List Int} {bad : Bool} (h : HX w base B xs bad) (n : Nat) : HX (w.drewN n) base B xs bad := by
  obtain ⟨A, c, h, hr⟩ := h
  exact ⟨A, c, ⟨h.blk, Kd.C_drewN h.C n, h.cap, h.away, h.hB⟩, hr⟩
theorem hN_wide (w : World) (base B : Nat) (mx b x : Int) (n : Nat) (r : List Int) (hb : (n : Int) = b - 128) (hn1 : 128 < b) (hn8 : b ≤ 136) (hm : n ≤ r.length) (hx : bigM (r.take n) = x) (hx1 : 128 ≤ x) (hs : (szN x : Int) = b - 128) (hxm : x ≤ mx) (h : HX w base B (b :: r) false) :
    Calls Try.prog 83 #[.pointer (some ⟨B, 0, none⟩), .int .u64 mx] w fun e w' => e = .returned (.int .u64 x) ∧ HX w' base B (r.drop n) false ∧ Chg w w' (fun k => k = B) := by
  have H := Aside0.mk (hx_fixed_ok w base B (b :: r) r 1 1 b rfl (by omega) (by simp) (bigM_one _ (by omega) (by omega)) rfl h)
  clear h
  have HM := Aside0.mk hm
  have HE := Aside0.mk hb
  have HN1 := Aside0.mk (show 1 ≤ n by omega)
  have HXX := Aside0.mk hx
  have HSZ := Aside0.mk (show factotumref01_wide.f 9 x = some (b - 128) from by rw [← hs]; exact wide_f x)
  clear hm hb hx hs
  go_enter Try.func83, Try.ntmps83
  go_wp2_with (first
    | (go_at_call 110; with_reducible refine H.out.mono ?_; rintro e w1 ⟨rfl, hg, hc⟩; have HG1 := Aside0.mk hg; have c1 := hg.badc; have HC1 := Aside0.mk hc; clear hg hc)
    | (go_at_call 110; with_reducible refine (hx_fixed_ok w1 base B r (r.drop n) n (b - 128) x HE.out HN1.out HM.out HXX.out rfl HG1.out).mono ?_; rintro e w2 ⟨rfl, hg, hc⟩; have HG2 := Aside0.mk hg; have c2 := hg.badc; have HC2 := Aside0.mk hc; clear hg hc)
    | (go_at_call 103; refine (factotumref01_wide.calls 9 x (b - 128) _ HSZ.out).mono ?_; rintro e w3 ⟨rfl, hd⟩; obtain ⟨nd, rfl⟩ := hd.out; have HG3 := Aside0.mk (HG2.out.drewN nd); have c3 := HG3.out.badc))
  go_ret
  exact ⟨rfl, HG3.out, chg_drewN (HC1.out.trans HC2.out) nd⟩
theorem hN_odd1 (w : World) (base B : Nat) (mx b x : Int) (n : Nat) (r : List Int) (hb : (n : Int) = b - 128) (hn1 : 128 < b) (hn8 : b ≤ 136) (hm : n ≤ r.length) (hx : bigM (r.take n) = x) (hx0 : 0 ≤ x) (hx1 : x < 128) (hxm : x ≤ mx) (h : HX w base B (b :: r) false) :
    Calls Try.prog 83 #[.pointer (some ⟨B, 0, none⟩), .int .u64 mx] w fun e w' => e = .returned (.int .u64 0) ∧ HX w' base B [] true ∧ Chg w w' (fun k => k = B) := by
  have H := Aside0.mk (hx_fixed_ok w base B (b :: r) r 1 1 b rfl (by omega) (by simp) (bigM_one _ (by omega) (by omega)) rfl h)
  clear h
  have HM := Aside0.mk hm
  have HE := Aside0.mk hb
  have HN1 := Aside0.mk (show 1 ≤ n by omega)
  have HXX := Aside0.mk hx
  clear hm hb hx
  go_enter Try.func83, Try.ntmps83
  go_wp2_with (first
    | (go_at_call 110; with_reducible refine H.out.mono ?_; rintro e w1 ⟨rfl, hg, hc⟩; have HG1 := Aside0.mk hg; have c1 := hg.badc; have HC1 := Aside0.mk hc; clear hg hc)
    | (go_at_call 110; with_reducible refine (hx_fixed_ok w1 base B r (r.drop n) n (b - 128) x HE.out HN1.out HM.out HXX.out rfl HG1.out).mono ?_; rintro e w2 ⟨rfl, hg, hc⟩; have HG2 := Aside0.mk hg; have c2 := hg.badc; have HC2 := Aside0.mk hc; clear hg hc)
    | (go_at_call 111; with_reducible refine (hx_fail _ base B (r.drop n) false HG2.out).mono ?_; rintro e w5 ⟨rfl, hg, hc⟩; have HG5 := Aside0.mk hg; have c5 := hg.badc; have HC5 := Aside0.mk (HC2.out.trans hc); clear hg hc))
  go_ret
  exact ⟨rfl, HG5.out, HC1.out.trans HC5.out⟩
theorem hN_odd2 (w : World) (base B : Nat) (mx b x : Int) (n : Nat) (r : List Int) (hb : (n : Int) = b - 128) (hn1 : 128 < b) (hn8 : b ≤ 136) (hm : n ≤ r.length) (hx : bigM (r.take n) = x) (hx0 : 0 ≤ x) (hx1 : x < 128) (hxm : mx < x) (h : HX w base B (b :: r) false) :
    Calls Try.prog 83 #[.pointer (some ⟨B, 0, none⟩), .int .u64 mx] w fun e w' => e = .returned (.int .u64 0) ∧ HX w' base B [] true ∧ Chg w w' (fun k => k = B) := by
  have H := Aside0.mk (hx_fixed_ok w base B (b :: r) r 1 1 b rfl (by omega) (by simp) (bigM_one _ (by omega) (by omega)) rfl h)
  clear h
  have HM := Aside0.mk hm
  have HE := Aside0.mk hb
  have HN1 := Aside0.mk (show 1 ≤ n by omega)
  have HXX := Aside0.mk hx
  clear hm hb hx
  go_enter Try.func83, Try.ntmps83
  go_wp2_with (first
    | (go_at_call 110; with_reducible refine H.out.mono ?_; rintro e w1 ⟨rfl, hg, hc⟩; have HG1 := Aside0.mk hg; have c1 := hg.badc; have HC1 := Aside0.mk hc; clear hg hc)
    | (go_at_call 110; with_reducible refine (hx_fixed_ok w1 base B r (r.drop n) n (b - 128) x HE.out HN1.out HM.out HXX.out rfl HG1.out).mono ?_; rintro e w2 ⟨rfl, hg, hc⟩; have HG2 := Aside0.mk hg; have c2 := hg.badc; have HC2 := Aside0.mk hc; clear hg hc)
    | (go_at_call 111; with_reducible refine (hx_fail _ base B (r.drop n) false HG2.out).mono ?_; rintro e w5 ⟨rfl, hg, hc⟩; have HG5 := Aside0.mk hg; have c5 := hg.badc; have HC5 := Aside0.mk (HC2.out.trans hc); clear hg hc)
    | (go_at_call 111; with_reducible refine (hx_fail _ base B [] true HG5.out).mono ?_; rintro e w6 ⟨rfl, hg, hc⟩; have HG6 := Aside0.mk hg; have c6 := hg.badc; have HC6 := Aside0.mk (HC5.out.trans hc); clear hg hc))
  go_ret
  exact ⟨rfl, HG6.out, HC1.out.trans HC6.out⟩
theorem hN_odd3 (w : World) (base B : Nat) (mx b x : Int) (n : Nat) (r : List Int) (hb : (n : Int) = b - 128) (hn1 : 128 < b) (hn8 : b ≤ 136) (hm : n ≤ r.length) (hx : bigM (r.take n) = x) (hx0 : 0 ≤ x) (hx1 : 128 ≤ x) (hs : ¬ ((szN x : Int) = b - 128)) (hxm : x ≤ mx) (h : HX w base B (b :: r) false) :
    Calls Try.prog 83 #[.pointer (some ⟨B, 0, none⟩), .int .u64 mx] w fun e w' => e = .returned (.int .u64 0) ∧ HX w' base B [] true ∧ Chg w w' (fun k => k = B) := by
  have H := Aside0.mk (hx_fixed_ok w base B (b :: r) r 1 1 b rfl (by omega) (by simp) (bigM_one _ (by omega) (by omega)) rfl h)
  clear h
  have HM := Aside0.mk hm
  have HE := Aside0.mk hb
  have HN1 := Aside0.mk (show 1 ≤ n by omega)
  have HXX := Aside0.mk hx
  have HSZ := Aside0.mk (wide_f x)
  obtain ⟨sx, hsx⟩ : ∃ sx : Int, (szN x : Int) = sx := ⟨_, rfl⟩
  rw [hsx] at HSZ hs
  have hne : (sx != b - 128) = true := by simpa using hs
  clear hm hb hx hsx hs
  go_enter Try.func83, Try.ntmps83
  go_wp2_with (first
    | (go_at_call 110; with_reducible refine H.out.mono ?_; rintro e w1 ⟨rfl, hg, hc⟩; have HG1 := Aside0.mk hg; have c1 := hg.badc; have HC1 := Aside0.mk hc; clear hg hc)
    | (go_at_call 110; with_reducible refine (hx_fixed_ok w1 base B r (r.drop n) n (b - 128) x HE.out HN1.out HM.out HXX.out rfl HG1.out).mono ?_; rintro e w2 ⟨rfl, hg, hc⟩; have HG2 := Aside0.mk hg; have c2 := hg.badc; have HC2 := Aside0.mk hc; clear hg hc)
    | (go_at_call 103; refine (factotumref01_wide.calls 9 x sx _ HSZ.out).mono ?_; rintro e w3 ⟨rfl, hd⟩; obtain ⟨nd, rfl⟩ := hd.out; have HG3 := Aside0.mk (HG2.out.drewN nd); have c3 := HG3.out.badc; have HC3 := Aside0.mk (chg_drewN HC2.out nd))
    | (go_at_call 111; with_reducible refine (hx_fail _ base B (r.drop n) false HG3.out).mono ?_; rintro e w5 ⟨rfl, hg, hc⟩; have HG5 := Aside0.mk hg; have c5 := hg.badc; have HC5 := Aside0.mk (HC3.out.trans hc); clear hg hc))
  go_ret
  exact ⟨rfl, HG5.out, HC1.out.trans HC5.out⟩
theorem hN_odd4 (w : World) (base B : Nat) (mx b x : Int) (n : Nat) (r : List Int) (hb : (n : Int) = b - 128) (hn1 : 128 < b) (hn8 : b ≤ 136) (hm : n ≤ r.length) (hx : bigM (r.take n) = x) (hx0 : 0 ≤ x) (hx1 : 128 ≤ x) (hs : ¬ ((szN x : Int) = b - 128)) (hxm : mx < x) (h : HX w base B (b :: r) false) :
    Calls Try.prog 83 #[.pointer (some ⟨B, 0, none⟩), .int .u64 mx] w fun e w' => e = .returned (.int .u64 0) ∧ HX w' base B [] true ∧ Chg w w' (fun k => k = B) := by
  have H := Aside0.mk (hx_fixed_ok w base B (b :: r) r 1 1 b rfl (by omega) (by simp) (bigM_one _ (by omega) (by omega)) rfl h)
  clear h
  have HM := Aside0.mk hm
  have HE := Aside0.mk hb
  have HN1 := Aside0.mk (show 1 ≤ n by omega)
  have HXX := Aside0.mk hx
  have HSZ := Aside0.mk (wide_f x)
  obtain ⟨sx, hsx⟩ : ∃ sx : Int, (szN x : Int) = sx := ⟨_, rfl⟩
  rw [hsx] at HSZ hs
  have hne : (sx != b - 128) = true := by simpa using hs
  clear hm hb hx hsx hs
  go_enter Try.func83, Try.ntmps83
  go_wp2_with (first
    | (go_at_call 110; with_reducible refine H.out.mono ?_; rintro e w1 ⟨rfl, hg, hc⟩; have HG1 := Aside0.mk hg; have c1 := hg.badc; have HC1 := Aside0.mk hc; clear hg hc)
    | (go_at_call 110; with_reducible refine (hx_fixed_ok w1 base B r (r.drop n) n (b - 128) x HE.out HN1.out HM.out HXX.out rfl HG1.out).mono ?_; rintro e w2 ⟨rfl, hg, hc⟩; have HG2 := Aside0.mk hg; have c2 := hg.badc; have HC2 := Aside0.mk hc; clear hg hc)
    | (go_at_call 103; refine (factotumref01_wide.calls 9 x sx _ HSZ.out).mono ?_; rintro e w3 ⟨rfl, hd⟩; obtain ⟨nd, rfl⟩ := hd.out; have HG3 := Aside0.mk (HG2.out.drewN nd); have c3 := HG3.out.badc; have HC3 := Aside0.mk (chg_drewN HC2.out nd))
    | (go_at_call 111; with_reducible refine (hx_fail _ base B (r.drop n) false HG3.out).mono ?_; rintro e w5 ⟨rfl, hg, hc⟩; have HG5 := Aside0.mk hg; have c5 := hg.badc; have HC5 := Aside0.mk (HC3.out.trans hc); clear hg hc)
    | (go_at_call 111; with_reducible refine (hx_fail _ base B [] true HG5.out).mono ?_; rintro e w6 ⟨rfl, hg, hc⟩; have HG6 := Aside0.mk hg; have c6 := hg.badc; have HC6 := Aside0.mk (HC5.out.trans hc); clear hg hc))
  go_ret
  exact ⟨rfl, HG6.out, HC1.out.trans HC6.out⟩
theorem hN_wbig (w : World) (base B : Nat) (mx b x : Int) (n : Nat) (r : List Int) (hb : (n : Int) = b - 128) (hn1 : 128 < b) (hn8 : b ≤ 136) (hm : n ≤ r.length) (hx : bigM (r.take n) = x) (hx0 : 0 ≤ x) (hx1 : 128 ≤ x) (hs : (szN x : Int) = b - 128) (hxm : mx < x) (h : HX w base B (b :: r) false) :
    Calls Try.prog 83 #[.pointer (some ⟨B, 0, none⟩), .int .u64 mx] w fun e w' => e = .returned (.int .u64 0) ∧ HX w' base B [] true ∧ Chg w w' (fun k => k = B) := by
  have H := Aside0.mk (hx_fixed_ok w base B (b :: r) r 1 1 b rfl (by omega) (by simp) (bigM_one _ (by omega) (by omega)) rfl h)
  clear h
  have HM := Aside0.mk hm
  have HE := Aside0.mk hb
  have HN1 := Aside0.mk (show 1 ≤ n by omega)
  have HXX := Aside0.mk hx
  have HSZ := Aside0.mk (show factotumref01_wide.f 9 x = some (b - 128) from by rw [← hs]; exact wide_f x)
  clear hm hb hx hs
  go_enter Try.func83, Try.ntmps83
  go_wp2_with (first
    | (go_at_call 110; with_reducible refine H.out.mono ?_; rintro e w1 ⟨rfl, hg, hc⟩; have HG1 := Aside0.mk hg; have c1 := hg.badc; have HC1 := Aside0.mk hc; clear hg hc)
    | (go_at_call 110; with_reducible refine (hx_fixed_ok w1 base B r (r.drop n) n (b - 128) x HE.out HN1.out HM.out HXX.out rfl HG1.out).mono ?_; rintro e w2 ⟨rfl, hg, hc⟩; have HG2 := Aside0.mk hg; have c2 := hg.badc; have HC2 := Aside0.mk hc; clear hg hc)
    | (go_at_call 103; refine (factotumref01_wide.calls 9 x (b - 128) _ HSZ.out).mono ?_; rintro e w3 ⟨rfl, hd⟩; obtain ⟨nd, rfl⟩ := hd.out; have HG3 := Aside0.mk (HG2.out.drewN nd); have c3 := HG3.out.badc; have HC3 := Aside0.mk (chg_drewN HC2.out nd))
    | (go_at_call 111; with_reducible refine (hx_fail _ base B (r.drop n) false HG3.out).mono ?_; rintro e w5 ⟨rfl, hg, hc⟩; have HG5 := Aside0.mk hg; have c5 := hg.badc; have HC5 := Aside0.mk (HC3.out.trans hc); clear hg hc))
  go_ret
  exact ⟨rfl, HG5.out, HC1.out.trans HC5.out⟩
end Go.Proofs.Ytlepcmljmibdnaa
