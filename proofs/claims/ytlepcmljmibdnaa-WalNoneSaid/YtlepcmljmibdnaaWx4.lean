/- Parts of one proof, joined: Ru, Rv, Rw, Rx, Ry, Rp, Rq. Conditions: those of each statement. -/
import Derived.Test.YtlepcmljmibdnaaWx3
namespace Go.Proofs.Ytlepcmljmibdnaa
open Go.RowKit Go.Proofs.YtlepcmljmibdnaaW.PrintWords Go.Proofs.YtlepcmljmibdnaaW.PrintLast Go.Proofs.YtlepcmljmibdnaaW.PrintMore PWalOpens
set_option linter.unusedVariables false
set_option linter.unusedSimpArgs false
theorem bigS_small (a b : Nat) (ha : a < 72057594037927936) (hb : b < 256) : bigS (a : Int) (b : Int) = (a : Int) * 256 + b := by
  unfold bigS Go.bits
  have e : ∀ x : Nat, x < 18446744073709551616 → BitVec.ofInt IntKind.u64.bits (x : Int) = BitVec.ofNat 64 x := fun x _ => by
    show BitVec.ofInt 64 (x : Int) = _
    rw [BitVec.ofInt_natCast]
  rw [show ((a : Int) * 256 % 18446744073709551616) = ((a * 256 : Nat) : Int) by omega, show ((b : Int) % 18446744073709551616) = (b : Int) by omega]
  have e1 := e (a * 256) (by omega)
  have e2 := e b (by omega)
  simp only [e1, e2]
  have e3 : (BitVec.ofNat 64 (a * 256) ||| BitVec.ofNat 64 b).toNat = a * 256 + b := by
    rw [BitVec.toNat_or]
    simp only [BitVec.toNat_ofNat]
    rw [Nat.mod_eq_of_lt (by omega), Nat.mod_eq_of_lt (by omega)]
    have := Nat.shiftLeft_add_eq_or_of_lt (i := 8) (b := b) hb a
    rw [Nat.shiftLeft_eq] at this
    exact this.symm
  have e4 : IntKind.u64.wrap (((BitVec.ofNat 64 (a * 256) ||| BitVec.ofNat 64 b).toNat : Nat) : Int) = (((BitVec.ofNat 64 (a * 256) ||| BitVec.ofNat 64 b).toNat : Nat) : Int) % 18446744073709551616 := rfl
  refine e4.trans ?_
  rw [e3]
  omega
theorem bigN_one (b : Int) (h0 : 0 ≤ b) (h : b < 256) : bigN [b] = b := by
  obtain ⟨n, rfl⟩ := Int.eq_ofNat_of_zero_le h0
  have := bigS_small 0 n (by omega) (by omega)
  show bigS 0 _ = _
  simpa using this
/-- high byte first: the value of a short row -/
theorem bigN_lowB (n : Int) (h0 : 0 ≤ n) (k : Nat) (hk : k ≤ 8) : bigN (lowB n k) = n % 256 ^ k := by
  obtain ⟨m, rfl⟩ := Int.eq_ofNat_of_zero_le h0
  have key : ∀ (j : Nat) (a : Nat), (a + 1) * 256 ^ j ≤ 18446744073709551616 → (lowB (m : Int) j).foldl bigS (a : Int) = ((a * 256 ^ j + m % 256 ^ j : Nat) : Int) := by
    intro j
    induction j with
    | zero => intro a _; simp [lowB, Nat.mod_one]
    | succ j ih =>
      intro a h2
      have hp : 1 ≤ 256 ^ j := Nat.pos_of_ne_zero (by simp)
      have hd : m / 256 ^ j % 256 < 256 := Nat.mod_lt _ (by omega)
      have ha : (a + 1) * 256 ≤ 18446744073709551616 := by
        refine Nat.le_trans ?_ h2
        rw [Nat.pow_succ, ← Nat.mul_assoc]
        have := Nat.mul_le_mul_left ((a + 1)) hp
        rw [Nat.mul_one] at this
        exact Nat.mul_le_mul_right 256 this
      have e : ((m : Int) / 256 ^ j) % 256 = ((m / 256 ^ j % 256 : Nat) : Int) := by
        rw [Int.natCast_emod, Int.natCast_ediv, Int.natCast_pow]
        rfl
      rw [lowB, List.foldl_cons, e, bigS_small a _ (by omega) hd]
      obtain ⟨d, hdd⟩ : ∃ d, m / 256 ^ j % 256 = d := ⟨_, rfl⟩
      have hm := Nat.mod_mul (x := m) (a := 256 ^ j) (b := 256)
      rw [hdd] at hd hm ⊢
      have h3 := ih (a * 256 + d) (by
        refine Nat.le_trans (Nat.mul_le_mul_right _ (show a * 256 + d + 1 ≤ (a + 1) * 256 by omega)) ?_
        rw [Nat.mul_assoc, Nat.mul_comm 256, ← Nat.pow_succ]
        exact h2)
      rw [show ((a : Int) * 256 + (d : Int)) = ((a * 256 + d : Nat) : Int) by omega, h3, Nat.pow_succ, hm, Nat.add_mul, Nat.mul_assoc, Nat.mul_comm 256, Nat.mul_comm d]
      congr 1
      omega
  have := key k 0 (by
    have : 256 ^ k ≤ 256 ^ 8 := Nat.pow_le_pow_right (by omega) hk
    omega)
  unfold bigN
  rw [show ((0 : Int)) = ((0 : Nat) : Int) from rfl, this, Nat.zero_mul, Nat.zero_add, Int.natCast_emod, Int.natCast_pow]
  rfl
end Go.Proofs.Ytlepcmljmibdnaa
namespace Go.Proofs.Ytlepcmljmibdnaa
open Go.RowKit Go.Proofs.YtlepcmljmibdnaaW.PrintWords Go.Proofs.YtlepcmljmibdnaaW.PrintLast Go.Proofs.YtlepcmljmibdnaaW.PrintMore PWalOpens
set_option linter.unusedVariables false
set_option linter.unusedSimpArgs false
theorem gx_ok (w : World) (base B : Nat) (xs : List Int) (bad b : Bool) (hb : (!bad) = b) (h : GX w base B xs bad) :
    Calls Try.prog 107 #[.pointer (some ⟨B, 0, none⟩)] w fun e w' => e = .returned (.bool b) ∧ w = w' := by
  obtain ⟨A, c, h, _⟩ := h
  exact gok_calls w base B A c xs bad b hb h
theorem gx_fail (w : World) (base B : Nat) (xs : List Int) (bad : Bool) (h : GX w base B xs bad) :
    Calls Try.prog 106 #[.pointer (some ⟨B, 0, none⟩)] w fun e w' => e = .returned (.tuple #[]) ∧ GX w' base B [] true ∧ Chg w w' (fun k => k = B) := by
  obtain ⟨A, c, h, _⟩ := h
  refine (gfail_calls w base B A c xs bad h).mono ?_
  rintro e w' ⟨rfl, h1, h2⟩
  exact ⟨rfl, .of_bad h1, h2⟩
theorem gx_fixed_ok (w : World) (base B : Nat) (xs r : List Int) (k : Nat) (kI v : Int) (hkI : (k : Int) = kI) (h1 : 1 ≤ k) (hk : k ≤ xs.length) (hv : bigN (xs.take k) = v) (hr : xs.drop k = r) (h : GX w base B xs false) :
    Calls Try.prog 105 #[.pointer (some ⟨B, 0, none⟩), .int .i64 kI] w fun e w' => e = .returned (.int .u64 v) ∧ GX w' base B r false ∧ Chg w w' (fun k => k = B) := by
  subst hkI hv hr
  obtain ⟨A, c, h, hc, hA, hs⟩ := h
  cases A with
  | none => rw [hA rfl] at hk; simp at hk; omega
  | some ad => exact gfixed_good w base B ad c xs k hk hc (hs ad rfl) h
theorem gx_fixed_no (w : World) (base B : Nat) (xs : List Int) (bad : Bool) (k : Nat) (kI : Int) (hkI : (k : Int) = kI) (hk : bad = true ∨ xs.length < k) (h : GX w base B xs bad) :
    Calls Try.prog 105 #[.pointer (some ⟨B, 0, none⟩), .int .i64 kI] w fun e w' => e = .returned (.int .u64 0) ∧ GX w' base B [] true ∧ Chg w w' (fun k => k = B) := by
  subst hkI
  obtain ⟨A, c, h, hc, hA, hs⟩ := h
  refine (gfixed_bad w base B A c xs bad k hk h).mono ?_
  rintro e w' ⟨rfl, h1, h2⟩
  exact ⟨rfl, .of_bad h1, h2⟩
theorem gN_no (w : World) (base B : Nat) (mx : Int) (h0 : 0 ≤ mx) (xs : List Int) (bad : Bool) (hb : bad = true ∨ xs.length < 1) (h : GX w base B xs bad) :
    Calls Try.prog 79 #[.pointer (some ⟨B, 0, none⟩), .int .u64 mx] w fun e w' => e = .returned (.int .u64 0) ∧ GX w' base B [] true ∧ Chg w w' (fun k => k = B) := by
  have H := Aside0.mk (gx_fixed_no w base B xs bad 1 1 rfl hb h)
  clear h hb
  go_enter Try.func79, Try.ntmps79
  go_wp2_with (first
    | (go_at_call 105; with_reducible refine H.out.mono ?_; rintro e w1 ⟨rfl, hg, hc⟩; have HG1 := Aside0.mk hg; have HC1 := Aside0.mk hc; clear hg hc)
    | (go_at_call 107; with_reducible refine (gx_ok w1 base B [] true false rfl HG1.out).mono ?_; rintro e w2 ⟨rfl, rfl⟩))
  go_ret
  exact ⟨rfl, HG1.out, HC1.out⟩
theorem gN_small (w : World) (base B : Nat) (mx b : Int) (r : List Int) (hb0 : 0 ≤ b) (hb : b < 128) (hm : b ≤ mx) (h : GX w base B (b :: r) false) :
    Calls Try.prog 79 #[.pointer (some ⟨B, 0, none⟩), .int .u64 mx] w fun e w' => e = .returned (.int .u64 b) ∧ GX w' base B r false ∧ Chg w w' (fun k => k = B) := by
  have H := Aside0.mk (gx_fixed_ok w base B (b :: r) r 1 1 b rfl (by omega) (by simp) (bigN_one b hb0 (by omega)) rfl h)
  clear h
  go_enter Try.func79, Try.ntmps79
  go_wp2_with (first
    | (go_at_call 105; with_reducible refine H.out.mono ?_; rintro e w1 ⟨rfl, hg, hc⟩; have HG1 := Aside0.mk hg; have HC1 := Aside0.mk hc; clear hg hc)
    | (go_at_call 107; with_reducible refine (gx_ok w1 base B r false true rfl HG1.out).mono ?_; rintro e w2 ⟨rfl, rfl⟩))
  go_ret
  exact ⟨rfl, HG1.out, HC1.out⟩
theorem gN_big (w : World) (base B : Nat) (mx b : Int) (r : List Int) (hb0 : 0 ≤ b) (hb : b < 128) (hm : mx < b) (h : GX w base B (b :: r) false) :
    Calls Try.prog 79 #[.pointer (some ⟨B, 0, none⟩), .int .u64 mx] w fun e w' => e = .returned (.int .u64 0) ∧ GX w' base B [] true ∧ Chg w w' (fun k => k = B) := by
  have H := Aside0.mk (gx_fixed_ok w base B (b :: r) r 1 1 b rfl (by omega) (by simp) (bigN_one b hb0 (by omega)) rfl h)
  clear h
  go_enter Try.func79, Try.ntmps79
  go_wp2_with (first
    | (go_at_call 105; with_reducible refine H.out.mono ?_; rintro e w1 ⟨rfl, hg, hc⟩; have HG1 := Aside0.mk hg; have HC1 := Aside0.mk hc; clear hg hc)
    | (go_at_call 106; with_reducible refine (gx_fail w1 base B r false HG1.out).mono ?_; rintro e w2 ⟨rfl, hg, hc⟩; have HG2 := Aside0.mk hg; have HC2 := Aside0.mk hc; clear hg hc)
    | (go_at_call 107; with_reducible refine (gx_ok w2 base B [] true false rfl HG2.out).mono ?_; rintro e w3 ⟨rfl, rfl⟩))
  go_ret
  exact ⟨rfl, HG2.out, HC1.out.trans HC2.out⟩
theorem gN_width (w : World) (base B : Nat) (mx b : Int) (r : List Int) (hb0 : 128 ≤ b) (hb : b < 256) (hm : b = 128 ∨ 136 < b) (h : GX w base B (b :: r) false) :
    Calls Try.prog 79 #[.pointer (some ⟨B, 0, none⟩), .int .u64 mx] w fun e w' => e = .returned (.int .u64 0) ∧ GX w' base B [] true ∧ Chg w w' (fun k => k = B) := by
  have H := Aside0.mk (gx_fixed_ok w base B (b :: r) r 1 1 b rfl (by omega) (by simp) (bigN_one b (by omega) (by omega)) rfl h)
  clear h
  by_cases h1 : b = 128
  · subst h1
    clear hm
    go_enter Try.func79, Try.ntmps79
    go_wp2_with (first
      | (go_at_call 105; with_reducible refine H.out.mono ?_; rintro e w1 ⟨rfl, hg, hc⟩; have HG1 := Aside0.mk hg; have HC1 := Aside0.mk hc; clear hg hc)
      | (go_at_call 106; with_reducible refine (gx_fail w1 base B r false HG1.out).mono ?_; rintro e w2 ⟨rfl, hg, hc⟩; have HG2 := Aside0.mk hg; have HC2 := Aside0.mk hc; clear hg hc))
    go_ret
    exact ⟨rfl, HG2.out, HC1.out.trans HC2.out⟩
  · have h2 : 136 < b := by omega
    clear hm h1
    go_enter Try.func79, Try.ntmps79
    go_wp2_with (first
      | (go_at_call 105; with_reducible refine H.out.mono ?_; rintro e w1 ⟨rfl, hg, hc⟩; have HG1 := Aside0.mk hg; have HC1 := Aside0.mk hc; clear hg hc)
      | (go_at_call 106; with_reducible refine (gx_fail w1 base B r false HG1.out).mono ?_; rintro e w2 ⟨rfl, hg, hc⟩; have HG2 := Aside0.mk hg; have HC2 := Aside0.mk hc; clear hg hc))
    go_ret
    exact ⟨rfl, HG2.out, HC1.out.trans HC2.out⟩
theorem gN_short (w : World) (base B : Nat) (mx b : Int) (h0 : 0 ≤ mx) (n : Nat) (r : List Int) (hb : (n : Int) = b - 128) (hn1 : 128 < b) (hn8 : b ≤ 136) (hm : r.length < n) (h : GX w base B (b :: r) false) :
    Calls Try.prog 79 #[.pointer (some ⟨B, 0, none⟩), .int .u64 mx] w fun e w' => e = .returned (.int .u64 0) ∧ GX w' base B [] true ∧ Chg w w' (fun k => k = B) := by
  have H := Aside0.mk (gx_fixed_ok w base B (b :: r) r 1 1 b rfl (by omega) (by simp) (bigN_one _ (by omega) (by omega)) rfl h)
  clear h
  have HM := Aside0.mk hm
  have HE := Aside0.mk hb
  clear hm hb
  go_enter Try.func79, Try.ntmps79
  go_wp2_with (first
    | (go_at_call 105; with_reducible refine H.out.mono ?_; rintro e w1 ⟨rfl, hg, hc⟩; have HG1 := Aside0.mk hg; have HC1 := Aside0.mk hc; clear hg hc)
    | (go_at_call 105; with_reducible refine (gx_fixed_no w1 base B r false n (b - 128) HE.out (.inr HM.out) HG1.out).mono ?_; rintro e w2 ⟨rfl, hg, hc⟩; have HG2 := Aside0.mk hg; have HC2 := Aside0.mk hc; clear hg hc)
    | (go_at_call 106; with_reducible refine (gx_fail w2 base B [] true HG2.out).mono ?_; rintro e w3 ⟨rfl, hg, hc⟩; have HG3 := Aside0.mk hg; have HC3 := Aside0.mk hc; clear hg hc)
    | (go_at_call 107; with_reducible refine (gx_ok w3 base B [] true false rfl HG3.out).mono ?_; rintro e w4 ⟨rfl, rfl⟩))
  go_ret
  exact ⟨rfl, HG3.out, (HC1.out.trans HC2.out).trans HC3.out⟩
theorem GX.drewN {w : World} {base B : Nat} {xs : List Int} {bad : Bool} (h : GX w base B xs bad) (n : Nat) : GX (w.drewN n) base B xs bad := by
  obtain ⟨A, c, h, hr⟩ := h
  exact ⟨A, c, ⟨h.blk, Kd.C_drewN h.C n, h.cap, h.away, h.hB⟩, hr⟩
theorem chg_drewN {w w' : World} {S : Nat → Prop} (h : Chg w w' S) (n : Nat) : Chg w (w'.drewN n) S := ⟨h.os, h.tape, h.output, h.size, h.block⟩
theorem gN_wide (w : World) (base B : Nat) (mx b x : Int) (n : Nat) (r : List Int) (hb : (n : Int) = b - 128) (hn1 : 128 < b) (hn8 : b ≤ 136) (hm : n ≤ r.length) (hx : bigN (r.take n) = x) (hx1 : 128 ≤ x) (hs : (szN x : Int) = b - 128) (hxm : x ≤ mx) (h : GX w base B (b :: r) false) :
    Calls Try.prog 79 #[.pointer (some ⟨B, 0, none⟩), .int .u64 mx] w fun e w' => e = .returned (.int .u64 x) ∧ GX w' base B (r.drop n) false ∧ Chg w w' (fun k => k = B) := by
  have H := Aside0.mk (gx_fixed_ok w base B (b :: r) r 1 1 b rfl (by omega) (by simp) (bigN_one _ (by omega) (by omega)) rfl h)
  clear h
  have HM := Aside0.mk hm
  have HE := Aside0.mk hb
  have HN1 := Aside0.mk (show 1 ≤ n by omega)
  have HX := Aside0.mk hx
  have HSZ := Aside0.mk (show codec_size.f 9 x = some (b - 128) from by rw [← hs]; exact size_f x (by omega))
  clear hm hb hx hs
  go_enter Try.func79, Try.ntmps79
  go_wp2_with (first
    | (go_at_call 105; with_reducible refine H.out.mono ?_; rintro e w1 ⟨rfl, hg, hc⟩; have HG1 := Aside0.mk hg; have HC1 := Aside0.mk hc; clear hg hc)
    | (go_at_call 105; with_reducible refine (gx_fixed_ok w1 base B r (r.drop n) n (b - 128) x HE.out HN1.out HM.out HX.out rfl HG1.out).mono ?_; rintro e w2 ⟨rfl, hg, hc⟩; have HG2 := Aside0.mk hg; have HC2 := Aside0.mk hc; clear hg hc)
    | (go_at_call 100; refine (codec_size.calls 9 x (b - 128) _ HSZ.out).mono ?_; rintro e w3 ⟨rfl, hd⟩; obtain ⟨nd, rfl⟩ := hd.out; have HG3 := Aside0.mk (HG2.out.drewN nd))
    | (go_at_call 107; with_reducible refine (gx_ok _ base B _ false true rfl HG3.out).mono ?_; rintro e w4 ⟨rfl, rfl⟩))
  go_ret
  exact ⟨rfl, HG3.out, chg_drewN (HC1.out.trans HC2.out) nd⟩
theorem gN_odd1 (w : World) (base B : Nat) (mx b x : Int) (n : Nat) (r : List Int) (hb : (n : Int) = b - 128) (hn1 : 128 < b) (hn8 : b ≤ 136) (hm : n ≤ r.length) (hx : bigN (r.take n) = x) (hx0 : 0 ≤ x) (hx1 : x < 128) (hxm : x ≤ mx) (h : GX w base B (b :: r) false) :
    Calls Try.prog 79 #[.pointer (some ⟨B, 0, none⟩), .int .u64 mx] w fun e w' => e = .returned (.int .u64 0) ∧ GX w' base B [] true ∧ Chg w w' (fun k => k = B) := by
  have H := Aside0.mk (gx_fixed_ok w base B (b :: r) r 1 1 b rfl (by omega) (by simp) (bigN_one _ (by omega) (by omega)) rfl h)
  clear h
  have HM := Aside0.mk hm
  have HE := Aside0.mk hb
  have HN1 := Aside0.mk (show 1 ≤ n by omega)
  have HX := Aside0.mk hx
  clear hm hb hx
  go_enter Try.func79, Try.ntmps79
  go_wp2_with (first
    | (go_at_call 105; with_reducible refine H.out.mono ?_; rintro e w1 ⟨rfl, hg, hc⟩; have HG1 := Aside0.mk hg; have HC1 := Aside0.mk hc; clear hg hc)
    | (go_at_call 105; with_reducible refine (gx_fixed_ok w1 base B r (r.drop n) n (b - 128) x HE.out HN1.out HM.out HX.out rfl HG1.out).mono ?_; rintro e w2 ⟨rfl, hg, hc⟩; have HG2 := Aside0.mk hg; have HC2 := Aside0.mk hc; clear hg hc)
    | (go_at_call 106; with_reducible refine (gx_fail _ base B (r.drop n) false HG2.out).mono ?_; rintro e w5 ⟨rfl, hg, hc⟩; have HG5 := Aside0.mk hg; have HC5 := Aside0.mk (HC2.out.trans hc); clear hg hc)
    | (go_at_call 107; with_reducible refine (gx_ok _ base B [] true false rfl HG5.out).mono ?_; rintro e w9 ⟨rfl, rfl⟩))
  go_ret
  exact ⟨rfl, HG5.out, HC1.out.trans HC5.out⟩
theorem gN_odd2 (w : World) (base B : Nat) (mx b x : Int) (n : Nat) (r : List Int) (hb : (n : Int) = b - 128) (hn1 : 128 < b) (hn8 : b ≤ 136) (hm : n ≤ r.length) (hx : bigN (r.take n) = x) (hx0 : 0 ≤ x) (hx1 : x < 128) (hxm : mx < x) (h : GX w base B (b :: r) false) :
    Calls Try.prog 79 #[.pointer (some ⟨B, 0, none⟩), .int .u64 mx] w fun e w' => e = .returned (.int .u64 0) ∧ GX w' base B [] true ∧ Chg w w' (fun k => k = B) := by
  have H := Aside0.mk (gx_fixed_ok w base B (b :: r) r 1 1 b rfl (by omega) (by simp) (bigN_one _ (by omega) (by omega)) rfl h)
  clear h
  have HM := Aside0.mk hm
  have HE := Aside0.mk hb
  have HN1 := Aside0.mk (show 1 ≤ n by omega)
  have HX := Aside0.mk hx
  clear hm hb hx
  go_enter Try.func79, Try.ntmps79
  go_wp2_with (first
    | (go_at_call 105; with_reducible refine H.out.mono ?_; rintro e w1 ⟨rfl, hg, hc⟩; have HG1 := Aside0.mk hg; have HC1 := Aside0.mk hc; clear hg hc)
    | (go_at_call 105; with_reducible refine (gx_fixed_ok w1 base B r (r.drop n) n (b - 128) x HE.out HN1.out HM.out HX.out rfl HG1.out).mono ?_; rintro e w2 ⟨rfl, hg, hc⟩; have HG2 := Aside0.mk hg; have HC2 := Aside0.mk hc; clear hg hc)
    | (go_at_call 106; with_reducible refine (gx_fail _ base B (r.drop n) false HG2.out).mono ?_; rintro e w5 ⟨rfl, hg, hc⟩; have HG5 := Aside0.mk hg; have HC5 := Aside0.mk (HC2.out.trans hc); clear hg hc)
    | (go_at_call 106; with_reducible refine (gx_fail _ base B [] true HG5.out).mono ?_; rintro e w6 ⟨rfl, hg, hc⟩; have HG6 := Aside0.mk hg; have HC6 := Aside0.mk (HC5.out.trans hc); clear hg hc)
    | (go_at_call 107; with_reducible refine (gx_ok _ base B [] true false rfl HG6.out).mono ?_; rintro e w9 ⟨rfl, rfl⟩))
  go_ret
  exact ⟨rfl, HG6.out, HC1.out.trans HC6.out⟩
theorem gN_odd3 (w : World) (base B : Nat) (mx b x : Int) (n : Nat) (r : List Int) (hb : (n : Int) = b - 128) (hn1 : 128 < b) (hn8 : b ≤ 136) (hm : n ≤ r.length) (hx : bigN (r.take n) = x) (hx0 : 0 ≤ x) (hx1 : 128 ≤ x) (hs : ¬ ((szN x : Int) = b - 128)) (hxm : x ≤ mx) (h : GX w base B (b :: r) false) :
    Calls Try.prog 79 #[.pointer (some ⟨B, 0, none⟩), .int .u64 mx] w fun e w' => e = .returned (.int .u64 0) ∧ GX w' base B [] true ∧ Chg w w' (fun k => k = B) := by
  have H := Aside0.mk (gx_fixed_ok w base B (b :: r) r 1 1 b rfl (by omega) (by simp) (bigN_one _ (by omega) (by omega)) rfl h)
  clear h
  have HM := Aside0.mk hm
  have HE := Aside0.mk hb
  have HN1 := Aside0.mk (show 1 ≤ n by omega)
  have HX := Aside0.mk hx
  have HSZ := Aside0.mk (size_f x hx0)
  obtain ⟨sx, hsx⟩ : ∃ sx : Int, (szN x : Int) = sx := ⟨_, rfl⟩
  rw [hsx] at HSZ hs
  have hne : (sx != b - 128) = true := by simpa using hs
  clear hm hb hx hsx hs
  go_enter Try.func79, Try.ntmps79
  go_wp2_with (first
    | (go_at_call 105; with_reducible refine H.out.mono ?_; rintro e w1 ⟨rfl, hg, hc⟩; have HG1 := Aside0.mk hg; have HC1 := Aside0.mk hc; clear hg hc)
    | (go_at_call 105; with_reducible refine (gx_fixed_ok w1 base B r (r.drop n) n (b - 128) x HE.out HN1.out HM.out HX.out rfl HG1.out).mono ?_; rintro e w2 ⟨rfl, hg, hc⟩; have HG2 := Aside0.mk hg; have HC2 := Aside0.mk hc; clear hg hc)
    | (go_at_call 100; refine (codec_size.calls 9 x sx _ HSZ.out).mono ?_; rintro e w3 ⟨rfl, hd⟩; obtain ⟨nd, rfl⟩ := hd.out; have HG3 := Aside0.mk (HG2.out.drewN nd); have HC3 := Aside0.mk (chg_drewN HC2.out nd))
    | (go_at_call 106; with_reducible refine (gx_fail _ base B (r.drop n) false HG3.out).mono ?_; rintro e w5 ⟨rfl, hg, hc⟩; have HG5 := Aside0.mk hg; have HC5 := Aside0.mk (HC3.out.trans hc); clear hg hc)
    | (go_at_call 107; with_reducible refine (gx_ok _ base B [] true false rfl HG5.out).mono ?_; rintro e w9 ⟨rfl, rfl⟩))
  go_ret
  exact ⟨rfl, HG5.out, HC1.out.trans HC5.out⟩
theorem gN_odd4 (w : World) (base B : Nat) (mx b x : Int) (n : Nat) (r : List Int) (hb : (n : Int) = b - 128) (hn1 : 128 < b) (hn8 : b ≤ 136) (hm : n ≤ r.length) (hx : bigN (r.take n) = x) (hx0 : 0 ≤ x) (hx1 : 128 ≤ x) (hs : ¬ ((szN x : Int) = b - 128)) (hxm : mx < x) (h : GX w base B (b :: r) false) :
    Calls Try.prog 79 #[.pointer (some ⟨B, 0, none⟩), .int .u64 mx] w fun e w' => e = .returned (.int .u64 0) ∧ GX w' base B [] true ∧ Chg w w' (fun k => k = B) := by
  have H := Aside0.mk (gx_fixed_ok w base B (b :: r) r 1 1 b rfl (by omega) (by simp) (bigN_one _ (by omega) (by omega)) rfl h)
  clear h
  have HM := Aside0.mk hm
  have HE := Aside0.mk hb
  have HN1 := Aside0.mk (show 1 ≤ n by omega)
  have HX := Aside0.mk hx
  have HSZ := Aside0.mk (size_f x hx0)
  obtain ⟨sx, hsx⟩ : ∃ sx : Int, (szN x : Int) = sx := ⟨_, rfl⟩
  rw [hsx] at HSZ hs
  have hne : (sx != b - 128) = true := by simpa using hs
  clear hm hb hx hsx hs
  go_enter Try.func79, Try.ntmps79
  go_wp2_with (first
    | (go_at_call 105; with_reducible refine H.out.mono ?_; rintro e w1 ⟨rfl, hg, hc⟩; have HG1 := Aside0.mk hg; have HC1 := Aside0.mk hc; clear hg hc)
    | (go_at_call 105; with_reducible refine (gx_fixed_ok w1 base B r (r.drop n) n (b - 128) x HE.out HN1.out HM.out HX.out rfl HG1.out).mono ?_; rintro e w2 ⟨rfl, hg, hc⟩; have HG2 := Aside0.mk hg; have HC2 := Aside0.mk hc; clear hg hc)
    | (go_at_call 100; refine (codec_size.calls 9 x sx _ HSZ.out).mono ?_; rintro e w3 ⟨rfl, hd⟩; obtain ⟨nd, rfl⟩ := hd.out; have HG3 := Aside0.mk (HG2.out.drewN nd); have HC3 := Aside0.mk (chg_drewN HC2.out nd))
    | (go_at_call 106; with_reducible refine (gx_fail _ base B (r.drop n) false HG3.out).mono ?_; rintro e w5 ⟨rfl, hg, hc⟩; have HG5 := Aside0.mk hg; have HC5 := Aside0.mk (HC3.out.trans hc); clear hg hc)
    | (go_at_call 106; with_reducible refine (gx_fail _ base B [] true HG5.out).mono ?_; rintro e w6 ⟨rfl, hg, hc⟩; have HG6 := Aside0.mk hg; have HC6 := Aside0.mk (HC5.out.trans hc); clear hg hc)
    | (go_at_call 107; with_reducible refine (gx_ok _ base B [] true false rfl HG6.out).mono ?_; rintro e w9 ⟨rfl, rfl⟩))
  go_ret
  exact ⟨rfl, HG6.out, HC1.out.trans HC6.out⟩
theorem gN_wbig (w : World) (base B : Nat) (mx b x : Int) (n : Nat) (r : List Int) (hb : (n : Int) = b - 128) (hn1 : 128 < b) (hn8 : b ≤ 136) (hm : n ≤ r.length) (hx : bigN (r.take n) = x) (hx0 : 0 ≤ x) (hx1 : 128 ≤ x) (hs : (szN x : Int) = b - 128) (hxm : mx < x) (h : GX w base B (b :: r) false) :
    Calls Try.prog 79 #[.pointer (some ⟨B, 0, none⟩), .int .u64 mx] w fun e w' => e = .returned (.int .u64 0) ∧ GX w' base B [] true ∧ Chg w w' (fun k => k = B) := by
  have H := Aside0.mk (gx_fixed_ok w base B (b :: r) r 1 1 b rfl (by omega) (by simp) (bigN_one _ (by omega) (by omega)) rfl h)
  clear h
  have HM := Aside0.mk hm
  have HE := Aside0.mk hb
  have HN1 := Aside0.mk (show 1 ≤ n by omega)
  have HX := Aside0.mk hx
  have HSZ := Aside0.mk (show codec_size.f 9 x = some (b - 128) from by rw [← hs]; exact size_f x (by omega))
  clear hm hb hx hs
  go_enter Try.func79, Try.ntmps79
  go_wp2_with (first
    | (go_at_call 105; with_reducible refine H.out.mono ?_; rintro e w1 ⟨rfl, hg, hc⟩; have HG1 := Aside0.mk hg; have HC1 := Aside0.mk hc; clear hg hc)
    | (go_at_call 105; with_reducible refine (gx_fixed_ok w1 base B r (r.drop n) n (b - 128) x HE.out HN1.out HM.out HX.out rfl HG1.out).mono ?_; rintro e w2 ⟨rfl, hg, hc⟩; have HG2 := Aside0.mk hg; have HC2 := Aside0.mk hc; clear hg hc)
    | (go_at_call 100; refine (codec_size.calls 9 x (b - 128) _ HSZ.out).mono ?_; rintro e w3 ⟨rfl, hd⟩; obtain ⟨nd, rfl⟩ := hd.out; have HG3 := Aside0.mk (HG2.out.drewN nd); have HC3 := Aside0.mk (chg_drewN HC2.out nd))
    | (go_at_call 106; with_reducible refine (gx_fail _ base B (r.drop n) false HG3.out).mono ?_; rintro e w5 ⟨rfl, hg, hc⟩; have HG5 := Aside0.mk hg; have HC5 := Aside0.mk (HC3.out.trans hc); clear hg hc)
    | (go_at_call 107; with_reducible refine (gx_ok _ base B [] true false rfl HG5.out).mono ?_; rintro e w9 ⟨rfl, rfl⟩))
  go_ret
  exact ⟨rfl, HG5.out, HC1.out.trans HC5.out⟩
end Go.Proofs.Ytlepcmljmibdnaa
namespace Go.Proofs.Ytlepcmljmibdnaa
open Go.RowKit Go.Proofs.YtlepcmljmibdnaaW.PrintWords Go.Proofs.YtlepcmljmibdnaaW.PrintLast Go.Proofs.YtlepcmljmibdnaaW.PrintMore PWalOpens
set_option linter.unusedVariables false
set_option linter.unusedSimpArgs false
theorem gread_calls (w : World) (A : Option Addr) (c : Nat) (b : List Int) (hl : b.length ≤ 1000000) (hn : A = none → b.length = 0 ∧ c = 0) (hC : (Kd.int .u8).C w A b.length b) :
    Calls Try.prog 78 #[.slice A b.length c] w fun e w' => ∃ B, e = .returned (.pointer (some ⟨B, 0, none⟩)) ∧ GX w' w.heap.size B b false ∧ Below w.heap.size w w' := by
  have H := Aside0.mk (clone_any w A c b hl hn hC)
  clear hn hC
  go_enter Try.func78, Try.ntmps78
  go_wp2_with (go_at_call 69; with_reducible refine H.out.mono ?_; rintro e w1 ⟨A1, c1, rfl, hr, hb⟩; have HR1 := Aside0.mk hr; have HB1 := Aside0.mk hb; clear hr hb)
  go_ret
  obtain ⟨_, _, h3⟩ := Kd.R_reads' HR1.out
  have h2 := (Kd.R_reads' HR1.out).2.1
  have hlt := Kd.R_lt HR1.out
  obtain ⟨_, inner, ho, _⟩ := HR1.out
  have hb2 := below_alloc HB1.out (.cells #[.slice A1 b.length c1, .bool false] 154)
  refine ⟨w1.heap.size, rfl, ⟨A1, c1, ⟨by rw [show (w1.alloc (.cells #[.slice A1 b.length c1, .bool false] 154)).heap = w1.heap.push (.cells #[.slice A1 b.length c1, .bool false] 154) from rfl]; simp, Kd.C_alloc h3 _, h2, fun ad e => ?_, HB1.out.size⟩, ?_, ?_, ?_⟩, hb2⟩
  · subst e
    have := hlt ad.block rfl
    omega
  · rcases ho.2 with ⟨e, _⟩ | ⟨g, cap, cur, e, _, _, _, hm, _⟩
    · injection e with e1 e2 e3; omega
    · injection e with e1 e2 e3; rw [e3]; exact Nat.le_trans hm (by decide)
  · intro e
    subst e
    rcases ho.2 with ⟨e, h0⟩ | ⟨g, cap, cur, e, _⟩
    · exact List.length_eq_zero_iff.mp h0
    · injection e with e1; cases e1
  · intro ad e
    subst e
    rcases ho.2 with ⟨e, _⟩ | ⟨g, cap, cur, e, _⟩
    · injection e with e1; cases e1
    · injection e with e1; cases e1; rfl
end Go.Proofs.Ytlepcmljmibdnaa
namespace Go.Proofs.Ytlepcmljmibdnaa
open Go.RowKit Go.Proofs.YtlepcmljmibdnaaW.PrintWords Go.Proofs.YtlepcmljmibdnaaW.PrintLast Go.Proofs.YtlepcmljmibdnaaW.PrintMore PWalOpens
set_option linter.unusedVariables false
set_option linter.unusedSimpArgs false
/-- the reference's reader at block B -/
structure HK (w : World) (base B : Nat) (A : Option Addr) (c : Nat) (xs : List Int) (bad : Bool) : Prop where
  blk : w.heap[B]? = some (.cells #[.slice A xs.length c, .bool bad] 124 (0, 0))
  C : (Kd.int .u8).C w A xs.length xs
  cap : xs.length ≤ c
  away : ∀ ad, A = some ad → ad.block < B
  hB : base ≤ B
def HX (w : World) (base B : Nat) (xs : List Int) (bad : Bool) : Prop := ∃ A c, HK w base B A c xs bad ∧ c ≤ 9223372036854775807 ∧ (A = none → xs = [])
def bigA (a b : Int) : Int := IntKind.u64.wrap (IntKind.u64.wrap (a * 256) + IntKind.u64.wrap b)
def bigM (l : List Int) : Int := l.foldl bigA 0
end Go.Proofs.Ytlepcmljmibdnaa
namespace Go.Proofs.Ytlepcmljmibdnaa
open Go.RowKit Go.Proofs.YtlepcmljmibdnaaW.PrintWords Go.Proofs.YtlepcmljmibdnaaW.PrintLast Go.Proofs.YtlepcmljmibdnaaW.PrintMore PWalOpens
set_option linter.unusedVariables false
set_option linter.unusedSimpArgs false
end Go.Proofs.Ytlepcmljmibdnaa
namespace Go.Proofs.Ytlepcmljmibdnaa
open Go.RowKit Go.Proofs.YtlepcmljmibdnaaW.PrintWords Go.Proofs.YtlepcmljmibdnaaW.PrintLast Go.Proofs.YtlepcmljmibdnaaW.PrintMore PWalOpens
set_option linter.unusedVariables false
set_option linter.unusedSimpArgs false
def isBytes (l : List Int) : Prop := ∀ x ∈ l, 0 ≤ x ∧ x < 256
theorem isBytes.take {l : List Int} (h : isBytes l) (n : Nat) : isBytes (l.take n) := fun x hx => h x (List.mem_of_mem_take hx)
theorem isBytes.drop {l : List Int} (h : isBytes l) (n : Nat) : isBytes (l.drop n) := fun x hx => h x (List.mem_of_mem_drop hx)
/-- what a reader answers: the number, what is left, whether it has failed -/
def rdN (xs : List Int) (bad : Bool) (mx : Int) : Int × List Int × Bool :=
  if bad then (0, [], true) else match xs with
  | [] => (0, [], true)
  | b :: r =>
    if b < 128 then (if b ≤ mx then (b, r, false) else (0, [], true))
    else if b = 128 ∨ 136 < b ∨ r.length < (b - 128).toNat then (0, [], true)
    else if bigN (r.take (b - 128).toNat) < 128 ∨ ¬ ((szN (bigN (r.take (b - 128).toNat)) : Int) = b - 128) ∨ mx < bigN (r.take (b - 128).toNat) then (0, [], true)
    else (bigN (r.take (b - 128).toNat), r.drop (b - 128).toNat, false)
/-- the bytes of a short row spell a number that has them for its lowest bytes -/
theorem bigN_bytes (l : List Int) (h : isBytes l) (h8 : l.length ≤ 8) : 0 ≤ bigN l ∧ bigN l < 256 ^ l.length ∧ lowB (bigN l) l.length = l := by
  have key : ∀ (l : List Int), isBytes l → ∀ a : Nat, (a + 1) * 256 ^ l.length ≤ 18446744073709551616 → ∃ m : Nat, l.foldl bigS (a : Int) = (m : Int) ∧ a * 256 ^ l.length ≤ m ∧ m < (a + 1) * 256 ^ l.length ∧ lowB (m : Int) l.length = l := by
    intro l
    induction l with
    | nil => intro _ a _; exact ⟨a, rfl, by simp, by simp, rfl⟩
    | cons x l ih =>
      intro hb a h2
      obtain ⟨hx0, hx1⟩ := hb x (by simp)
      obtain ⟨d, rfl⟩ := Int.eq_ofNat_of_zero_le hx0
      have hd : d < 256 := by omega
      have q2 : a * 256 + d + 1 ≤ (a + 1) * 256 := by clear h2; omega
      have hp : 1 ≤ 256 ^ l.length := Nat.pos_of_ne_zero (by simp)
      rw [List.length_cons, Nat.pow_succ, Nat.mul_comm (256 ^ l.length), ← Nat.mul_assoc] at h2
      have ha : (a + 1) * 256 ≤ 18446744073709551616 := by
        refine Nat.le_trans ?_ h2
        have := Nat.mul_le_mul_left ((a + 1) * 256) hp
        rwa [Nat.mul_one] at this
      obtain ⟨m, h3, h4, h5, h6⟩ := ih (fun y hy => hb y (by simp [hy])) (a * 256 + d) (Nat.le_trans (Nat.mul_le_mul_right _ q2) h2)
      refine ⟨m, ?_, ?_, ?_, ?_⟩
      · have ha2 : a < 72057594037927936 := by clear h2 h4 h5 h3; omega
        have e1 := bigS_small a d ha2 hd
        rw [show ((a : Int) * 256 + (d : Int)) = ((a * 256 + d : Nat) : Int) from by rw [Int.natCast_add, Int.natCast_mul]; rfl] at e1
        rw [List.foldl_cons, e1]
        exact h3
      · rw [List.length_cons, Nat.pow_succ, Nat.mul_comm (256 ^ l.length), ← Nat.mul_assoc]
        exact Nat.le_trans (Nat.mul_le_mul_right _ (Nat.le_add_right _ _)) h4
      · rw [List.length_cons, Nat.pow_succ, Nat.mul_comm (256 ^ l.length), ← Nat.mul_assoc]
        exact Nat.lt_of_lt_of_le h5 (Nat.mul_le_mul_right _ q2)
      · rw [List.length_cons, lowB, h6]
        congr 1
        have e : m / 256 ^ l.length = a * 256 + d := Nat.div_eq_of_lt_le h4 h5
        rw [show ((m : Int) / 256 ^ l.length) = ((m / 256 ^ l.length : Nat) : Int) by rw [Int.natCast_ediv, Int.natCast_pow]; rfl, e]
        clear h2 h3 h4 h5 h6 e ih
        omega
  have h256 : 256 ^ l.length ≤ 18446744073709551616 := Nat.le_trans (Nat.pow_le_pow_right (by omega) h8) (by decide)
  obtain ⟨m, h1, h2, h3, h4⟩ := key l h 0 (by simpa using h256)
  have e : bigN l = (m : Int) := h1
  rw [e]
  refine ⟨by omega, ?_, h4⟩
  have h5 : m < 256 ^ l.length := by simpa using h3
  have := Int.ofNat_lt.2 h5
  simpa using this
theorem rdN_bytes {xs r : List Int} {bad b' : Bool} {mx n : Int} (h : isBytes xs) (e : rdN xs bad mx = (n, r, b')) : isBytes r ∧ (b' = true → r = []) ∧ 0 ≤ n := by
  have nil : isBytes [] := fun x hx => by cases hx
  unfold rdN at e
  split at e
  · cases e; exact ⟨nil, fun _ => rfl, by omega⟩
  · cases xs with
    | nil => cases e; exact ⟨nil, fun _ => rfl, by omega⟩
    | cons b t =>
      have ht : isBytes t := fun x hx => h x (by simp [hx])
      have hb := h b (by simp)
      simp only at e
      split at e
      · split at e
        · cases e; exact ⟨ht, fun h => (by cases h), hb.1⟩
        · cases e; exact ⟨nil, fun _ => rfl, by omega⟩
      · split at e
        · cases e; exact ⟨nil, fun _ => rfl, by omega⟩
        · rename_i h8
          split at e
          · cases e; exact ⟨nil, fun _ => rfl, by omega⟩
          · cases e
            refine ⟨ht.drop _, fun h => (by cases h), (bigN_bytes _ (ht.take _) ?_).1⟩
            rw [List.length_take]; omega
/-- what was read is the number's own bytes -/
theorem rdN_canon {xs r : List Int} {mx n : Int} (h : isBytes xs) (e : rdN xs false mx = (n, r, false)) : xs = encN n ++ r ∧ 0 ≤ n ∧ n ≤ mx ∧ n < 18446744073709551616 := by
  unfold rdN at e
  rw [if_neg (by decide)] at e
  cases xs with
  | nil => cases e
  | cons b t =>
    have ht : isBytes t := fun x hx => h x (by simp [hx])
    have hb := h b (by simp)
    simp only at e
    split at e
    · split at e
      · cases e
        refine ⟨?_, hb.1, by assumption, by omega⟩
        unfold encN
        rw [if_pos (by assumption)]
        have : n % 256 = n := by omega
        simp [this]
      · cases e
    · split at e
      · cases e
      · rename_i h8
        split at e
        · cases e
        · rename_i h9
          injection e with e1 e2
          injection e2 with e2 e3
          have hl : (t.take (b - 128).toNat).length = (b - 128).toNat := by rw [List.length_take]; omega
          obtain ⟨p1, p2, p3⟩ := bigN_bytes (t.take (b - 128).toNat) (ht.take _) (by rw [hl]; omega)
          rw [hl] at p2 p3
          have p4 : (256 : Int) ^ (b - 128).toNat ≤ 18446744073709551616 := by
            have : 256 ^ (b - 128).toNat ≤ 256 ^ 8 := Nat.pow_le_pow_right (by omega) (by omega)
            have h2 := Int.ofNat_le.2 this
            simpa using h2
          rw [e1] at p1 p2 p3 h9
          refine ⟨?_, p1, by omega, by omega⟩
          have hsz : szN n = (b - 128).toNat := by omega
          unfold encN
          rw [if_neg (by omega), hsz, p3, ← e2]
          simp only [List.cons_append, List.take_append_drop]
          congr 1
          omega
theorem szN_pow (n : Int) (h0 : 0 ≤ n) (h : n < 18446744073709551616) : n < 256 ^ szN n := by
  unfold szN
  repeat' split
  all_goals (first | (show n < 256; omega) | (show n < 65536; omega) | (show n < 16777216; omega) | (show n < 4294967296; omega) | (show n < 1099511627776; omega) | (show n < 281474976710656; omega) | (show n < 72057594037927936; omega) | (show n < 18446744073709551616; omega))
theorem rdN_enc (n mx : Int) (r : List Int) (h0 : 0 ≤ n) (hm : n ≤ mx) (h : n < 18446744073709551616) : rdN (encN n ++ r) false mx = (n, r, false) := by
  unfold encN
  split
  · rename_i h1
    unfold rdN
    rw [if_neg (by decide)]
    have e : n % 256 = n := by omega
    simp only [List.cons_append, List.nil_append, e]
    rw [if_pos h1, if_pos hm]
  · rename_i h1
    have hs := szN_le n
    unfold rdN
    rw [if_neg (by decide)]
    simp only [List.cons_append]
    have e1 : ((128 : Int) + (szN n : Int) - 128).toNat = szN n := by omega
    have e2 : (lowB n (szN n) ++ r).take (szN n) = lowB n (szN n) := by rw [List.take_append_of_le_length (by rw [lowB_len]; exact Nat.le_refl _), List.take_of_length_le (by rw [lowB_len]; exact Nat.le_refl _)]
    have e3 : (lowB n (szN n) ++ r).drop (szN n) = r := by rw [List.drop_append_of_le_length (by rw [lowB_len]; exact Nat.le_refl _), List.drop_of_length_le (by rw [lowB_len]; exact Nat.le_refl _)]; rfl
    have e4 : bigN (lowB n (szN n)) = n := by
      rw [bigN_lowB n h0 _ hs.2]
      exact Int.emod_eq_of_lt h0 (szN_pow n h0 h)
    rw [if_neg (by omega), e1, e2, e3, e4, if_neg (by rw [List.length_append, lowB_len]; omega), if_neg (by omega)]
/-- a reader, as it is seen from w0 -/
structure GS (w0 w : World) (base B : Nat) (xs : List Int) (bad : Bool) : Prop where
  x : GX w base B xs bad
  chg : Chg w0 w (fun k => k = B)
  bytes : isBytes xs
  nb : bad = true → xs = []
theorem gN_any (w : World) (base B : Nat) (mx n : Int) (xs r : List Int) (bad b' : Bool) (h0 : 0 ≤ mx) (hby : isBytes xs) (e : rdN xs bad mx = (n, r, b')) (h : GX w base B xs bad) :
    Calls Try.prog 79 #[.pointer (some ⟨B, 0, none⟩), .int .u64 mx] w fun e w' => e = .returned (.int .u64 n) ∧ GX w' base B r b' ∧ Chg w w' (fun k => k = B) := by
  unfold rdN at e
  split at e
  · rename_i hb
    cases e
    exact gN_no w base B mx h0 xs bad (.inl hb) h
  · rename_i hb
    obtain rfl : bad = false := by simpa using hb
    cases xs with
    | nil => cases e; exact gN_no w base B mx h0 [] false (.inr (by simp)) h
    | cons b t =>
      have hbb := hby b (by simp)
      have ht : isBytes t := fun x hx => hby x (by simp [hx])
      simp only at e
      split at e
      · split at e
        · cases e; exact gN_small w base B mx _ _ hbb.1 (by assumption) (by assumption) h
        · cases e; exact gN_big w base B mx b t hbb.1 (by assumption) (by omega) h
      · split at e
        · rename_i h8
          cases e
          by_cases hw : b = 128 ∨ 136 < b
          · exact gN_width w base B mx b t (by omega) (by omega) hw h
          · exact gN_short w base B mx b h0 (b - 128).toNat t (by omega) (by omega) (by omega) (by omega) h
        · rename_i h8
          have hl : (t.take (b - 128).toNat).length = (b - 128).toNat := by rw [List.length_take]; omega
          obtain ⟨p1, p2, p3⟩ := bigN_bytes (t.take (b - 128).toNat) (ht.take _) (by rw [hl]; omega)
          split at e
          · rename_i h9
            cases e
            by_cases c1 : bigN (t.take (b - 128).toNat) < 128
            · by_cases c2 : bigN (t.take (b - 128).toNat) ≤ mx
              · exact gN_odd1 w base B mx b _ (b - 128).toNat t (by omega) (by omega) (by omega) (by omega) rfl p1 c1 c2 h
              · exact gN_odd2 w base B mx b _ (b - 128).toNat t (by omega) (by omega) (by omega) (by omega) rfl p1 c1 (by omega) h
            · by_cases c3 : (szN (bigN (t.take (b - 128).toNat)) : Int) = b - 128
              · exact gN_wbig w base B mx b _ (b - 128).toNat t (by omega) (by omega) (by omega) (by omega) rfl p1 (by omega) c3 (by omega) h
              · by_cases c2 : bigN (t.take (b - 128).toNat) ≤ mx
                · exact gN_odd3 w base B mx b _ (b - 128).toNat t (by omega) (by omega) (by omega) (by omega) rfl p1 (by omega) c3 c2 h
                · exact gN_odd4 w base B mx b _ (b - 128).toNat t (by omega) (by omega) (by omega) (by omega) rfl p1 (by omega) c3 (by omega) h
          · rename_i h9
            cases e
            exact gN_wide w base B mx b _ (b - 128).toNat t (by omega) (by omega) (by omega) (by omega) rfl (by omega) (by omega) (by omega) h
theorem GS.n {w0 w : World} {base B : Nat} {xs r : List Int} {bad b' : Bool} {mx n : Int} (h0 : 0 ≤ mx) (e : rdN xs bad mx = (n, r, b')) (h : GS w0 w base B xs bad) :
    Calls Try.prog 79 #[.pointer (some ⟨B, 0, none⟩), .int .u64 mx] w fun e w' => e = .returned (.int .u64 n) ∧ GS w0 w' base B r b' := by
  refine (gN_any w base B mx n xs r bad b' h0 h.bytes e h.x).mono ?_
  rintro e1 w' ⟨rfl, h1, h2⟩
  obtain ⟨q1, q2, _⟩ := rdN_bytes h.bytes e
  exact ⟨rfl, h1, h.chg.trans h2, q1, q2⟩
theorem GS.step {w0 w : World} {base B : Nat} {xs r : List Int} {bad b' : Bool} {mx n : Int} (h0 : 0 ≤ mx) (e : rdN xs bad mx = (n, r, b')) (h : GS w0 w base B xs bad) :
    Calls Try.prog 79 #[.pointer (some ⟨B, 0, none⟩), .int .u64 mx] w fun e w' => e = .returned (.int .u64 n) ∧ GS w0 w' base B r b' ∧ Chg w w' (fun k => k = B) := by
  refine (gN_any w base B mx n xs r bad b' h0 h.bytes e h.x).mono ?_
  rintro e1 w' ⟨rfl, h1, h2⟩
  obtain ⟨q1, q2, _⟩ := rdN_bytes h.bytes e
  exact ⟨rfl, ⟨h1, h.chg.trans h2, q1, q2⟩, h2⟩
theorem GS.grow {w0 w w' : World} {base B : Nat} {xs : List Int} {bad : Bool} {S : Nat → Prop} (h : GS w0 w base B xs bad) (hB : B < w0.heap.size) (hc : Chg w w' S) (hS : ∀ k, k < w0.heap.size → ¬ S k) : GS w0 w' base B xs bad :=
  ⟨h.x.keep hc fun k hk => hS k (Nat.lt_of_le_of_lt hk hB), ⟨hc.os.trans h.chg.os, hc.tape.trans h.chg.tape, hc.output.trans h.chg.output, Nat.le_trans h.chg.size hc.size, fun k hk hn => (hc.block k (Nat.lt_of_lt_of_le hk h.chg.size) (hS k hk)).trans (h.chg.block k hk hn)⟩, h.bytes, h.nb⟩
theorem GX.lt {w : World} {base B : Nat} {xs : List Int} {bad : Bool} (h : GX w base B xs bad) : B < w.heap.size := by
  obtain ⟨A, c, hk, _⟩ := h
  exact (Array.getElem?_eq_some_iff.1 hk.blk).1
theorem GS.refl {w : World} {base B : Nat} {xs : List Int} {bad : Bool} (h : GX w base B xs bad) (hb : isBytes xs) (nb : bad = true → xs = []) : GS w w base B xs bad := ⟨h, Chg.refl _ _, hb, nb⟩
theorem GS.left {w0 w : World} {base B : Nat} {xs : List Int} {bad : Bool} (n : Nat) (hn : xs.length = n) (h : GS w0 w base B xs bad) :
    Calls Try.prog 80 #[.pointer (some ⟨B, 0, none⟩)] w fun e w' => e = .returned (.int .i64 n) ∧ w = w' := by
  obtain ⟨A, c, hk, _⟩ := h.x
  refine gleft_calls w base B A c xs bad n ?_ hk
  subst hn
  cases bad with
  | true => rw [h.nb rfl]; rfl
  | false => rfl
end Go.Proofs.Ytlepcmljmibdnaa
namespace Go.Proofs.Ytlepcmljmibdnaa
open Go.RowKit Go.Proofs.YtlepcmljmibdnaaW.PrintWords Go.Proofs.YtlepcmljmibdnaaW.PrintLast Go.Proofs.YtlepcmljmibdnaaW.PrintMore PWalOpens
set_option linter.unusedVariables false
set_option linter.unusedSimpArgs false
structure HS (w0 w : World) (base B : Nat) (xs : List Int) (bad : Bool) : Prop where
  x : HX w base B xs bad
  chg : Chg w0 w (fun k => k = B)
  bytes : isBytes xs
  nb : bad = true → xs = []
end Go.Proofs.Ytlepcmljmibdnaa
