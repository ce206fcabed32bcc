/- Parts of one proof, joined: Rq, Nt, Up, Uo, Us, Ur, Sv, Dkp. Conditions: those of each statement. -/
import Derived.Test.YtlepcmljmibdnaaGreatQx3
import Derived.Test.YtlepcmljmibdnaaGreatQx2
namespace Go.Proofs.YtlepcmljmibdnaaGreat
open Go.RowKit Go.Proofs.YtlepcmljmibdnaaGreatW.PrintWords Go.Proofs.YtlepcmljmibdnaaGreatW.PrintLast Go.Proofs.YtlepcmljmibdnaaGreatW.PrintMore PWalOpens
set_option linter.unusedVariables false
set_option linter.unusedSimpArgs false
theorem bigA_small (a b : Nat) (ha : a < 72057594037927936) (hb : b < 256) : bigA (a : Int) (b : Int) = (a : Int) * 256 + b := by
  show (((a : Int) * 256 % 18446744073709551616) + ((b : Int) % 18446744073709551616)) % 18446744073709551616 = _
  omega
theorem bigM_eq (l : List Int) (h : isBytes l) (h8 : l.length ≤ 8) : bigM l = bigN l := by
  have key : ∀ (l : List Int), isBytes l → ∀ a : Nat, (a + 1) * 256 ^ l.length ≤ 18446744073709551616 → l.foldl bigA (a : Int) = l.foldl bigS (a : Int) := by
    intro l
    induction l with
    | nil => intro _ a _; rfl
    | cons x l ih =>
      intro hb a h2
      obtain ⟨hx0, hx1⟩ := hb x (by simp)
      obtain ⟨d, rfl⟩ := Int.eq_ofNat_of_zero_le hx0
      have hd : d < 256 := by omega
      have q2 : a * 256 + d + 1 ≤ (a + 1) * 256 := by clear h2; omega
      have hp : 1 ≤ 256 ^ l.length := Nat.pos_of_ne_zero (by simp)
      rw [List.length_cons, Nat.pow_succ, Nat.mul_comm (256 ^ l.length), ← Nat.mul_assoc] at h2
      have ha : (a + 1) * 256 ≤ 18446744073709551616 := by
        refine Nat.le_trans ?_ h2
        have := Nat.mul_le_mul_left ((a + 1) * 256) hp
        rwa [Nat.mul_one] at this
      have h3 := ih (fun y hy => hb y (by simp [hy])) (a * 256 + d) (Nat.le_trans (Nat.mul_le_mul_right _ q2) h2)
      have ha2 : a < 72057594037927936 := by clear h2; omega
      have e1 := bigS_small a d ha2 hd
      have e2 := bigA_small a d ha2 hd
      rw [show ((a : Int) * 256 + (d : Int)) = ((a * 256 + d : Nat) : Int) from by rw [Int.natCast_add, Int.natCast_mul]; rfl] at e1 e2
      rw [List.foldl_cons, List.foldl_cons, e1, e2]
      exact h3
  have h256 : 256 ^ l.length ≤ 18446744073709551616 := Nat.le_trans (Nat.pow_le_pow_right (by omega) h8) (by decide)
  exact key l h 0 (by simpa using h256)
structure HS (w0 w : World) (base B : Nat) (xs : List Int) (bad : Bool) : Prop where
  x : HX w base B xs bad
  chg : Chg w0 w (fun k => k = B)
  bytes : isBytes xs
  nb : bad = true → xs = []
theorem hN_any (w : World) (base B : Nat) (mx n : Int) (xs r : List Int) (bad b' : Bool) (h0 : 0 ≤ mx) (hby : isBytes xs) (nb : bad = true → xs = []) (e : rdN xs bad mx = (n, r, b')) (h : HX w base B xs bad) :
    Calls Tryz.prog 72 #[.pointer (some ⟨B, 0, none⟩), .int .u64 mx] w fun e w' => e = .returned (.int .u64 n) ∧ HX w' base B r b' ∧ Chg w w' (fun k => k = B) := by
  unfold rdN at e
  split at e
  · rename_i hb
    cases e
    have := nb hb
    exact hN_no w base B mx h0 xs bad (by rw [this]; simp) h
  · rename_i hb
    obtain rfl : bad = false := by simpa using hb
    cases xs with
    | nil => cases e; exact hN_no w base B mx h0 [] false (by simp) h
    | cons b t =>
      have hbb := hby b (by simp)
      have ht : isBytes t := fun x hx => hby x (by simp [hx])
      simp only at e
      split at e
      · split at e
        · cases e; exact hN_small w base B mx _ _ hbb.1 (by assumption) (by assumption) h
        · cases e; exact hN_big w base B mx b t hbb.1 (by assumption) (by omega) h
      · split at e
        · rename_i h8
          cases e
          by_cases hw : b = 128 ∨ 136 < b
          · exact hN_width w base B mx b t (by omega) (by omega) hw h
          · exact hN_short w base B mx b h0 (b - 128).toNat t (by omega) (by omega) (by omega) (by omega) h
        · rename_i h8
          have hl : (t.take (b - 128).toNat).length = (b - 128).toNat := by rw [List.length_take]; omega
          have hE := bigM_eq (t.take (b - 128).toNat) (ht.take _) (by rw [hl]; omega)
          obtain ⟨p1, p2, p3⟩ := bigN_bytes (t.take (b - 128).toNat) (ht.take _) (by rw [hl]; omega)
          split at e
          · rename_i h9
            cases e
            by_cases c1 : bigN (t.take (b - 128).toNat) < 128
            · by_cases c2 : bigN (t.take (b - 128).toNat) ≤ mx
              · exact hN_odd1 w base B mx b _ (b - 128).toNat t (by omega) (by omega) (by omega) (by omega) hE p1 c1 c2 h
              · exact hN_odd2 w base B mx b _ (b - 128).toNat t (by omega) (by omega) (by omega) (by omega) hE p1 c1 (by omega) h
            · by_cases c3 : (szN (bigN (t.take (b - 128).toNat)) : Int) = b - 128
              · exact hN_wbig w base B mx b _ (b - 128).toNat t (by omega) (by omega) (by omega) (by omega) hE p1 (by omega) c3 (by omega) h
              · by_cases c2 : bigN (t.take (b - 128).toNat) ≤ mx
                · exact hN_odd3 w base B mx b _ (b - 128).toNat t (by omega) (by omega) (by omega) (by omega) hE p1 (by omega) c3 c2 h
                · exact hN_odd4 w base B mx b _ (b - 128).toNat t (by omega) (by omega) (by omega) (by omega) hE p1 (by omega) c3 (by omega) h
          · rename_i h9
            cases e
            exact hN_wide w base B mx b _ (b - 128).toNat t (by omega) (by omega) (by omega) (by omega) hE (by omega) (by omega) (by omega) h
theorem HS.n {w0 w : World} {base B : Nat} {xs r : List Int} {bad b' : Bool} {mx n : Int} (h0 : 0 ≤ mx) (e : rdN xs bad mx = (n, r, b')) (h : HS w0 w base B xs bad) :
    Calls Tryz.prog 72 #[.pointer (some ⟨B, 0, none⟩), .int .u64 mx] w fun e w' => e = .returned (.int .u64 n) ∧ HS w0 w' base B r b' := by
  refine (hN_any w base B mx n xs r bad b' h0 h.bytes h.nb e h.x).mono ?_
  rintro e1 w' ⟨rfl, h1, h2⟩
  obtain ⟨q1, q2, _⟩ := rdN_bytes h.bytes e
  exact ⟨rfl, h1, h.chg.trans h2, q1, q2⟩
theorem HS.step {w0 w : World} {base B : Nat} {xs r : List Int} {bad b' : Bool} {mx n : Int} (h0 : 0 ≤ mx) (e : rdN xs bad mx = (n, r, b')) (h : HS w0 w base B xs bad) :
    Calls Tryz.prog 72 #[.pointer (some ⟨B, 0, none⟩), .int .u64 mx] w fun e w' => e = .returned (.int .u64 n) ∧ HS w0 w' base B r b' ∧ Chg w w' (fun k => k = B) := by
  refine (hN_any w base B mx n xs r bad b' h0 h.bytes h.nb e h.x).mono ?_
  rintro e1 w' ⟨rfl, h1, h2⟩
  obtain ⟨q1, q2, _⟩ := rdN_bytes h.bytes e
  exact ⟨rfl, ⟨h1, h.chg.trans h2, q1, q2⟩, h2⟩
theorem HS.grow {w0 w w' : World} {base B : Nat} {xs : List Int} {bad : Bool} {S : Nat → Prop} (h : HS w0 w base B xs bad) (hB : B < w0.heap.size) (hc : Chg w w' S) (hS : ∀ k, k < w0.heap.size → ¬ S k) : HS w0 w' base B xs bad :=
  ⟨h.x.keep hc fun k hk => hS k (Nat.lt_of_le_of_lt hk hB), ⟨hc.os.trans h.chg.os, hc.tape.trans h.chg.tape, hc.output.trans h.chg.output, Nat.le_trans h.chg.size hc.size, fun k hk hn => (hc.block k (Nat.lt_of_lt_of_le hk h.chg.size) (hS k hk)).trans (h.chg.block k hk hn)⟩, h.bytes, h.nb⟩
theorem HX.lt {w : World} {base B : Nat} {xs : List Int} {bad : Bool} (h : HX w base B xs bad) : B < w.heap.size := by
  obtain ⟨A, c, hk, _⟩ := h
  exact (Array.getElem?_eq_some_iff.1 hk.blk).1
end Go.Proofs.YtlepcmljmibdnaaGreat
namespace Go.Proofs.YtlepcmljmibdnaaGreat
open Go.RowKit Go.Proofs.YtlepcmljmibdnaaGreatW.PrintWords Go.Proofs.YtlepcmljmibdnaaGreatW.PrintLast Go.Proofs.YtlepcmljmibdnaaGreatW.PrintMore PWalOpens
set_option linter.unusedVariables false
set_option linter.unusedSimpArgs false
theorem nought1_yes (x : Int) (w : World) (h : x ≠ 0) : Calls Tryz.prog 143 #[.int .u8 x] w fun e w' => e = .returned (.bool true) ∧ w = w' := by
  have h1 : (x != 0) = true := by simpa using h
  clear h
  go_enter Tryz.func143, Tryz.ntmps143
  go_wp2
  go_ret
  exact ⟨rfl, rfl⟩
theorem nought1_no (w : World) : Calls Tryz.prog 143 #[.int .u8 0] w fun e w' => e = .returned (.bool false) ∧ w = w' := by
  go_enter Tryz.func143, Tryz.ntmps143
  go_wp2
  go_ret
  exact ⟨rfl, rfl⟩
def allZ (b : List Int) : Bool := b.all (fun x => x == 0)
def idxZ (b : List Int) : Int := if allZ b then -1 else b.findIdx (fun x => x != 0)
theorem idxZ_pos {b : List Int} {i : Nat} {x : Int} (hz : ∀ j y, j < i → b[j]? = some y → y = 0) (hx : b[i]? = some x) (h : x ≠ 0) : idxZ b = i := by
  have hm : x ∈ b := List.mem_of_getElem? hx
  have h0 : allZ b = false := by
    unfold allZ
    rw [List.all_eq_false]
    exact ⟨x, hm, by simpa using h⟩
  unfold idxZ
  rw [h0]
  simp only [Bool.false_eq_true, if_false]
  congr 1
  obtain ⟨hi, hxe⟩ := List.getElem?_eq_some_iff.1 hx
  refine (List.findIdx_eq hi).2 ⟨by rw [hxe]; simpa using h, fun j hj => ?_⟩
  have := hz j _ hj (List.getElem?_eq_getElem (by omega))
  simp [this]
theorem idxZ_neg {b : List Int} (hz : ∀ j y, j < b.length → b[j]? = some y → y = 0) : idxZ b = -1 := by
  unfold idxZ
  rw [if_pos]
  unfold allZ
  rw [List.all_eq_true]
  intro x hx
  obtain ⟨j, hj⟩ := List.mem_iff_getElem?.1 hx
  simpa using hz j x (List.getElem?_eq_some_iff.1 hj).1 hj
theorem idxZ_ge (b : List Int) : -1 ≤ idxZ b ∧ (decide (0 ≤ idxZ b) = !allZ b) := by
  unfold idxZ
  split
  · rename_i h; rw [h]; exact ⟨by omega, by simp⟩
  · rename_i h
    have : allZ b = false := by simpa using h
    rw [this]
    exact ⟨by omega, by simp⟩
theorem idxZ_calls (w : World) (A : Option Addr) (c : Nat) (b : List Int) (hl : b.length ≤ 1000000) (hC : (Kd.int .u8).C w A b.length b) :
    Calls Tryz.prog 157 #[.slice A b.length c, .func (Fn.func 143) #[] #[]] w fun e w' => e = .returned (.int .i64 (idxZ b)) ∧ w = w' := by
  have HC := Aside0.mk hC
  clear hC
  go_enter Tryz.func157, Tryz.ntmps157
  go_wp2
  go_loopg [8] b.length (fun kq v8 w' => ∃ i : Nat, v8 = .int .i64 (i : Int) ∧ Aside0 (i + kq = b.length) ∧ Aside0 (∀ j y, j < i → b[j]? = some y → y = 0) ∧ w' = w)
  case atStart => exact ⟨0, rfl, ⟨by omega⟩, ⟨fun j y h => by omega⟩, rfl⟩
  case round =>
    obtain ⟨i, rfl, HI, HZ, rfl⟩ := hrel
    by_cases hi : i < b.length
    · obtain ⟨x, hnn⟩ : ∃ x, b[i]? = some x := ⟨_, List.getElem?_eq_getElem hi⟩
      obtain ⟨a2, e, x0⟩ := Kd.at_int HC.out (i : Int) (by omega) (by omega)
      subst e
      rw [show rd b (i : Int) = x by simp [rd, List.getD, hnn], Int.toNat_natCast] at x0
      have HNN := Aside0.mk hnn
      clear hnn
      by_cases h : x = 0
      · subst h
        go_wp2_with (go_at_call 143; refine (nought1_no _).mono ?_; rintro e w' ⟨rfl, rfl⟩)
        have hk1 := HI.out
        obtain ⟨gq, rfl⟩ : ∃ gq, gk = gq + 1 := ⟨gk - 1, by omega⟩
        go_roundg gq
        case rel => exact ⟨i + 1, by go_num, ⟨by omega⟩, ⟨fun j y hj hy => by
          by_cases hji : j = i
          · subst hji; rw [HNN.out] at hy; exact (Option.some.inj hy).symm
          · exact HZ.out j y (by omega) hy⟩, rfl⟩
        case measure => omega
      · have HX := Aside0.mk h
        clear h
        go_wp2_with (go_at_call 143; refine (nought1_yes x _ HX.out).mono ?_; rintro e w' ⟨rfl, rfl⟩)
        go_ret
        rw [idxZ_pos HZ.out HNN.out HX.out]
        exact ⟨rfl, rfl⟩
    · have hi0 := HI.out
      obtain rfl : gk = 0 := by omega
      obtain rfl : i = b.length := by omega
      clear hi0
      have hm : ¬ ((b.length : Int) < (b.length : Int)) := by omega
      go_wp2
      go_ret
      rw [idxZ_neg HZ.out]
      exact ⟨rfl, rfl⟩
theorem noughts_calls (w : World) (A : Option Addr) (c : Nat) (b : List Int) (z : Bool) (hz : allZ b = z) (hl : b.length ≤ 1000000) (hC : (Kd.int .u8).C w A b.length b) :
    Calls Tryz.prog 134 #[.slice A b.length c] w fun e w' => e = .returned (.bool z) ∧ w = w' := by
  obtain ⟨r, hr⟩ : ∃ r, idxZ b = r := ⟨_, rfl⟩
  have h1 := idxZ_calls w A c b hl hC
  obtain ⟨h2, h3⟩ := idxZ_ge b
  rw [hr] at h1 h2 h3
  rw [hz] at h3
  have H1 := Aside0.mk h1
  have hc : Calls Tryz.prog 142 #[.slice A b.length c, .func (Fn.func 143) #[] #[]] w fun e w' => e = .returned (.bool (!z)) ∧ w = w' := by
    have H3 := Aside0.mk h3
    clear h1 h3 hr hC hz
    go_enter Tryz.func142, Tryz.ntmps142
    go_wp2_with (go_at_call 157; with_reducible refine H1.out.mono ?_; rintro e w' ⟨rfl, rfl⟩)
    go_ret
    exact ⟨by rw [← H3.out]; rfl, rfl⟩
  have HC := Aside0.mk hc
  clear h1 h3 hr hC hz hc
  go_enter Tryz.func134, Tryz.ntmps134
  go_wp2_with (go_at_call 142; with_reducible refine HC.out.mono ?_; rintro e w' ⟨rfl, rfl⟩)
  go_ret
  cases z <;> exact ⟨rfl, rfl⟩
end Go.Proofs.YtlepcmljmibdnaaGreat
namespace Go.Proofs.YtlepcmljmibdnaaGreat
open Go.RowKit Go.Proofs.YtlepcmljmibdnaaGreatW.PrintWords Go.Proofs.YtlepcmljmibdnaaGreatW.PrintLast Go.Proofs.YtlepcmljmibdnaaGreatW.PrintMore PWalOpens
set_option linter.unusedVariables false
set_option linter.unusedSimpArgs false
def full64 : Int := 18446744073709551615
/-- so many numbers, read -/
def readK : Nat → List Int → Bool → List Int × List Int × Bool
  | 0, xs, bad => ([], xs, bad)
  | k + 1, xs, bad => ((rdN xs bad full64).1 :: (readK k (rdN xs bad full64).2.1 (rdN xs bad full64).2.2).1, (readK k (rdN xs bad full64).2.1 (rdN xs bad full64).2.2).2)
theorem readK_len (k : Nat) : ∀ xs bad, (readK k xs bad).1.length = k := by
  induction k with
  | zero => intro _ _; rfl
  | succ k ih => intro xs bad; simp [readK, ih]
/-- one more at the end -/
theorem readK_snoc (k : Nat) : ∀ (xs : List Int) (bad : Bool), readK (k + 1) xs bad = ((readK k xs bad).1 ++ [(rdN (readK k xs bad).2.1 (readK k xs bad).2.2 full64).1], (rdN (readK k xs bad).2.1 (readK k xs bad).2.2 full64).2) := by
  induction k with
  | zero => intro xs bad; simp [readK]
  | succ k ih =>
    intro xs bad
    have h := ih (rdN xs bad full64).2.1 (rdN xs bad full64).2.2
    rw [show readK (k + 1 + 1) xs bad = ((rdN xs bad full64).1 :: (readK (k + 1) (rdN xs bad full64).2.1 (rdN xs bad full64).2.2).1, (readK (k + 1) (rdN xs bad full64).2.1 (rdN xs bad full64).2.2).2) from rfl, h]
    simp [readK]
theorem rdN_bad (xs : List Int) (mx : Int) : rdN xs true mx = (0, [], true) := by simp [rdN]
theorem rdN_range {xs : List Int} {bad : Bool} {mx : Int} (h : isBytes xs) (hm : 0 ≤ mx) (hm2 : mx ≤ full64) : 0 ≤ (rdN xs bad mx).1 ∧ (rdN xs bad mx).1 ≤ mx := by
  obtain ⟨n, r, b', e⟩ : ∃ n r b', rdN xs bad mx = (n, r, b') := ⟨_, _, _, rfl⟩
  have h1 := (rdN_bytes h e).2.2
  rw [e]
  refine ⟨h1, ?_⟩
  cases bad with
  | true => rw [rdN_bad] at e; cases e; exact hm
  | false =>
    cases b' with
    | false => exact (rdN_canon h e).2.2.1
    | true =>
      unfold rdN at e
      rw [if_neg (by decide)] at e
      cases xs with
      | nil => cases e; exact hm
      | cons b t =>
        simp only at e
        split at e
        · split at e
          · cases e
          · cases e; exact hm
        · split at e
          · cases e; exact hm
          · split at e
            · cases e; exact hm
            · cases e
theorem readK_bytes (k : Nat) : ∀ (xs : List Int) (bad : Bool), isBytes xs → (bad = true → xs = []) → isBytes (readK k xs bad).2.1 ∧ ((readK k xs bad).2.2 = true → (readK k xs bad).2.1 = []) ∧ (∀ n ∈ (readK k xs bad).1, 0 ≤ n ∧ n < 18446744073709551616) := by
  induction k with
  | zero => intro xs bad h hb; exact ⟨h, hb, fun n hn => by cases hn⟩
  | succ k ih =>
    intro xs bad h hb
    have e : rdN xs bad full64 = ((rdN xs bad full64).1, (rdN xs bad full64).2.1, (rdN xs bad full64).2.2) := rfl
    obtain ⟨h1, h2, _⟩ := rdN_bytes h e
    obtain ⟨h3, h4, h5⟩ := ih _ _ h1 h2
    refine ⟨h3, h4, fun n hn => ?_⟩
    rcases List.mem_cons.1 hn with rfl | hn
    · have := rdN_range (bad := bad) h (show (0 : Int) ≤ full64 by decide) (Int.le_refl full64)
      have e2 : full64 = 18446744073709551615 := rfl
      omega
    · exact h5 n hn
theorem readK_bad (k : Nat) : (readK k [] true).2 = ([], true) := by
  induction k with
  | zero => rfl
  | succ k ih => simp [readK, rdN_bad, ih]
theorem readK_canon (k : Nat) : ∀ (xs : List Int), isBytes xs → ∀ l r, readK k xs false = (l, r, false) → xs = encNs l ++ r := by
  induction k with
  | zero => intro xs h l r e; cases e; rfl
  | succ k ih =>
    intro xs h l r e
    obtain ⟨n, r1, b1, e1⟩ : ∃ n r1 b1, rdN xs false full64 = (n, r1, b1) := ⟨_, _, _, rfl⟩
    simp only [readK, e1] at e
    cases b1 with
    | true =>
      have h2 := (rdN_bytes h e1).2.1 rfl
      subst h2
      injection e with _ e
      rw [readK_bad] at e
      cases e
    | false =>
      obtain ⟨h2, _, _, _⟩ := rdN_canon h e1
      obtain ⟨l2, r2, b2, e2⟩ : ∃ l2 r2 b2, readK k r1 false = (l2, r2, b2) := ⟨_, _, _, rfl⟩
      rw [e2] at e
      simp only at e
      injection e with e3 e4
      injection e4 with e4 e5
      subst e4 e5
      have h3 := ih r1 (rdN_bytes h e1).1 l2 r2 e2
      rw [h2, h3, ← e3]
      simp [encNs]
theorem readK_enc (l : List Int) (r : List Int) (h : ∀ n ∈ l, 0 ≤ n ∧ n < 18446744073709551616) : readK l.length (encNs l ++ r) false = (l, r, false) := by
  induction l with
  | nil => rfl
  | cons n l ih =>
    have hn := h n (by simp)
    have e2 : full64 = 18446744073709551615 := rfl
    have h1 := rdN_enc n full64 (encNs l ++ r) hn.1 (by omega) hn.2
    have e : encNs (n :: l) ++ r = encN n ++ (encNs l ++ r) := by simp [encNs]
    rw [List.length_cons, e]
    simp only [readK, h1]
    rw [ih (fun m hm => h m (by simp [hm]))]
/-- what is read of a slot's bytes behind the first two: its number, how many, the numbers, what is left, whether it failed -/
def slotG (b : List Int) : Int × List Int × Bool := rdN (b.drop 2) false full64
def slotC (b : List Int) : Int × List Int × Bool := rdN (slotG b).2.1 (slotG b).2.2 4
def slotL (b : List Int) : List Int × List Int × Bool := readK (slotC b).1.toNat (slotC b).2.1 (slotC b).2.2
/-- does it hold -/
def slotV (b : List Int) : Bool := !(slotL b).2.2 && (slotB (slotG b).1 (slotL b).1).isPrefixOf b && allZ (b.drop (slotB (slotG b).1 (slotL b).1).length)
def unP (b : List Int) : Int × List Int × Int := if b.take 2 = [70, 83] then (if slotV b then ((slotG b).1, (slotL b).1, 0) else (0, [], 60)) else (0, [], 60)
theorem slotB_len (g : Int) (l : List Int) : (slotB g l).length = (slotF g l).length + 4 := by simp [slotB, be4]
theorem slot_parts (b : List Int) (h : isBytes b) : (0 ≤ (slotG b).1 ∧ (slotG b).1 < 18446744073709551616) ∧ (0 ≤ (slotC b).1 ∧ (slotC b).1 ≤ 4) ∧ (∀ n ∈ (slotL b).1, 0 ≤ n ∧ n < 18446744073709551616) ∧ (slotL b).1.length ≤ 4 ∧ ((slotL b).2.2 = true → (slotL b).2.1 = []) := by
  have e2 : full64 = 18446744073709551615 := rfl
  have h0 : isBytes (b.drop 2) := h.drop 2
  have e : rdN (b.drop 2) false full64 = ((slotG b).1, (slotG b).2.1, (slotG b).2.2) := rfl
  obtain ⟨h1, h2, _⟩ := rdN_bytes h0 e
  have h3 := rdN_range (bad := false) h0 (show (0 : Int) ≤ full64 by decide) (Int.le_refl full64)
  have e' : rdN (slotG b).2.1 (slotG b).2.2 4 = ((slotC b).1, (slotC b).2.1, (slotC b).2.2) := rfl
  obtain ⟨h4, h5, _⟩ := rdN_bytes h1 e'
  have h6 := rdN_range (bad := (slotG b).2.2) h1 (show (0 : Int) ≤ 4 by decide) (by omega)
  obtain ⟨h7, h8, h9⟩ := readK_bytes (slotC b).1.toNat _ _ h4 h5
  refine ⟨⟨h3.1, ?_⟩, h6, h9, ?_, h8⟩
  · have := h3.2
    unfold slotG; omega
  · unfold slotL
    rw [readK_len]
    have := h6.2
    unfold slotC at *
    omega
/-- what was read, read well: the bytes up to there are the slot's own -/
theorem slot_read (b : List Int) (h : isBytes b) (hm : b.take 2 = [70, 83]) (hb : (slotL b).2.2 = false) : b = slotF (slotG b).1 (slotL b).1 ++ (slotL b).2.1 ∧ (slotG b).2.2 = false := by
  have h0 : isBytes (b.drop 2) := h.drop 2
  have e : rdN (b.drop 2) false full64 = ((slotG b).1, (slotG b).2.1, (slotG b).2.2) := rfl
  obtain ⟨h1, h2, _⟩ := rdN_bytes h0 e
  have e' : rdN (slotG b).2.1 (slotG b).2.2 4 = ((slotC b).1, (slotC b).2.1, (slotC b).2.2) := rfl
  obtain ⟨h4, h5, _⟩ := rdN_bytes h1 e'
  have hc : (slotC b).2.2 = false := by
    cases hc : (slotC b).2.2 with
    | false => rfl
    | true =>
      have := h5 hc
      unfold slotL at hb
      rw [this, hc, readK_bad] at hb
      cases hb
  have hg : (slotG b).2.2 = false := by
    cases hg : (slotG b).2.2 with
    | false => rfl
    | true =>
      rw [hg, rdN_bad] at e'
      rw [show (slotC b).2.2 = true from (congrArg (fun z => z.2.2) e').symm] at hc
      cases hc
  rw [hg] at e e'
  rw [hc] at e'
  have p1 := (rdN_canon h0 e).1
  have p2 := (rdN_canon h1 e').1
  have e3 : readK (slotC b).1.toNat (slotC b).2.1 false = ((slotL b).1, (slotL b).2.1, false) := by
    have : slotL b = readK (slotC b).1.toNat (slotC b).2.1 (slotC b).2.2 := rfl
    rw [hc] at this
    rw [← this, ← hb]
  have p3 := readK_canon _ _ h4 _ _ e3
  have hl : ((slotL b).1.length : Int) = (slotC b).1 := by
    have : (slotL b).1.length = (slotC b).1.toNat := readK_len _ _ _
    have := (rdN_canon h1 e').2.1
    omega
  refine ⟨?_, hg⟩
  have p0 : b = [70, 83] ++ b.drop 2 := by rw [← hm, List.take_append_drop]
  generalize (slotG b).1 = g at *
  generalize (slotL b).1 = l at *
  generalize (slotL b).2.1 = r at *
  refine p0.trans ?_
  rw [p1, p2, p3]
  unfold slotF
  rw [hl]
  simp [encNs]
theorem slotV_short (b : List Int) (h : isBytes b) (hm : b.take 2 = [70, 83]) (hr : (slotL b).2.1.length < 4) : slotV b = false := by
  unfold slotV
  cases hb : (slotL b).2.2 with
  | true => rfl
  | false =>
    obtain ⟨h1, _⟩ := slot_read b h hm hb
    have h2 : (slotB (slotG b).1 (slotL b).1).isPrefixOf b = false := by
      rw [← Bool.not_eq_true, List.isPrefixOf_iff_prefix]
      intro hp
      have h3 := hp.length_le
      have h4 := congrArg List.length h1
      rw [List.length_append] at h4
      rw [slotB_len] at h3
      omega
    rw [h2]
    rfl
/-- as the program asks -/
theorem slotV_prog (b : List Int) (h : isBytes b) (hm : b.take 2 = [70, 83]) (hr : 4 ≤ (slotL b).2.1.length) :
    slotV b = (decide (slotB (slotG b).1 (slotL b).1 = b.take (b.length - (slotL b).2.1.length + 4)) && allZ (b.drop (b.length - (slotL b).2.1.length + 4))) := by
  unfold slotV
  have hb : (slotL b).2.2 = false := by
    cases hb : (slotL b).2.2 with
    | false => rfl
    | true => rw [(slot_parts b h).2.2.2.2 hb] at hr; simp at hr
  obtain ⟨h1, _⟩ := slot_read b h hm hb
  have h4 := congrArg List.length h1
  rw [List.length_append] at h4
  have hl : b.length - (slotL b).2.1.length + 4 = (slotB (slotG b).1 (slotL b).1).length := by rw [slotB_len]; omega
  rw [hb, hl]
  congr 1
  rw [Bool.eq_iff_iff]
  simp only [Bool.not_false, Bool.true_and, List.isPrefixOf_iff_prefix, decide_eq_true_eq]
  exact List.prefix_iff_eq_take
theorem unP_bytes (b : List Int) (h : isBytes b) {g : Int} {l : List Int} {e : Int} (hu : unP b = (g, l, e)) : (0 ≤ g ∧ g < 18446744073709551616) ∧ l.length ≤ 4 ∧ (∀ n ∈ l, 0 ≤ n ∧ n < 18446744073709551616) ∧ (e = 0 ∨ e = 60) := by
  obtain ⟨h1, _, h3, h4, _⟩ := slot_parts b h
  unfold unP at hu
  split at hu
  · split at hu
    · cases hu; exact ⟨h1, h4, h3, .inl rfl⟩
    · cases hu; exact ⟨by omega, by simp, fun n hn => (by cases hn), .inr rfl⟩
  · cases hu; exact ⟨by omega, by simp, fun n hn => (by cases hn), .inr rfl⟩
/-- a slot's own bytes, and noughts behind them -/
theorem unP_slot (g : Int) (l : List Int) (k : Nat) (hg : 0 ≤ g ∧ g < 18446744073709551616) (hl : l.length ≤ 4) (hn : ∀ n ∈ l, 0 ≤ n ∧ n < 18446744073709551616) : unP (slotB g l ++ List.replicate k 0) = (g, l, 0) := by
  have e2 : full64 = 18446744073709551615 := rfl
  obtain ⟨t, ht⟩ : ∃ t, be4 (crcB (slotF g l)) ++ List.replicate k 0 = t := ⟨_, rfl⟩
  have e : slotB g l ++ List.replicate k 0 = [70, 83] ++ (encN g ++ (encN (l.length : Int) ++ (encNs l ++ t))) := by
    obtain ⟨q, hq⟩ : ∃ q, be4 (crcB (slotF g l)) = q := ⟨_, rfl⟩
    rw [show slotB g l = slotF g l ++ q by rw [← hq]; rfl, ← ht, hq]
    unfold slotF
    simp [encNs]
  have d : (slotB g l ++ List.replicate k 0).drop 2 = encN g ++ (encN (l.length : Int) ++ (encNs l ++ t)) := by rw [e]; rfl
  have hG : slotG (slotB g l ++ List.replicate k 0) = (g, encN (l.length : Int) ++ (encNs l ++ t), false) := by
    unfold slotG; rw [d]; exact rdN_enc g full64 _ hg.1 (by omega) hg.2
  have hC : slotC (slotB g l ++ List.replicate k 0) = ((l.length : Int), encNs l ++ t, false) := by
    unfold slotC; rw [hG]; exact rdN_enc _ 4 _ (by omega) (by omega) (by omega)
  have hL : slotL (slotB g l ++ List.replicate k 0) = (l, t, false) := by
    unfold slotL; rw [hC]; exact readK_enc l t hn
  unfold unP
  rw [if_pos (by rw [e]; rfl), if_pos]
  · rw [hG, hL]
  · unfold slotV
    rw [hG, hL]
    simp [allZ, List.isPrefixOf_iff_prefix]
end Go.Proofs.YtlepcmljmibdnaaGreat
namespace Go.Proofs.YtlepcmljmibdnaaGreat
open Go.RowKit Go.Proofs.YtlepcmljmibdnaaGreatW.PrintWords Go.Proofs.YtlepcmljmibdnaaGreatW.PrintLast Go.Proofs.YtlepcmljmibdnaaGreatW.PrintMore PWalOpens
set_option linter.unusedVariables false
set_option linter.unusedSimpArgs false
/-- a slice of bytes that came in, or was made: what it reads as, and what its words are -/
structure SB (w : World) (A : Option Addr) (c : Nat) (b : List Int) : Prop where
  C : (Kd.int .u8).C w A b.length b
  cap : b.length ≤ c
  c63 : c ≤ 9223372036854775807
  none_ : A = none → b.length = 0 ∧ c = 0
theorem SB.move {w w' : World} {A : Option Addr} {c : Nat} {b : List Int} (h : SB w A c b) (hb : Below w.heap.size w w') : SB w' A c b := ⟨Kd.C_below h.C hb, h.cap, h.c63, h.none_⟩
theorem of_short (w : World) (A : Option Addr) (c : Nat) (b : List Int) (hl : b.length < 2) :
    Calls Tryz.prog 98 #[.slice A b.length c] w fun e w' => e = .returned (.tuple #[.int .u64 0, .slice none 0 0, .int .i64 60]) ∧ w = w' := by
  have h1 : decide ((b.length : Int) < 2) = true := by simp; omega
  go_enter Tryz.func98, Tryz.ntmps98
  go_wp2_with fail
  go_ret3
  exact ⟨rfl, rfl⟩
theorem u8_inj {a b : Int} (ha : 0 ≤ a ∧ a < 256) (hb : 0 ≤ b ∧ b < 256) (h : UInt8.ofNat a.toNat = UInt8.ofNat b.toNat) : a = b := by
  have := congrArg UInt8.toNat h
  simp only [UInt8.toNat_ofNat'] at this
  omega
theorem bytes_inj : ∀ (x y : List Int), isBytes x → isBytes y → (x.map fun n => UInt8.ofNat n.toNat) = (y.map fun n => UInt8.ofNat n.toNat) → x = y := by
  intro x
  induction x with
  | nil => intro y _ _ h; cases y with | nil => rfl | cons b y => simp at h
  | cons a x ih =>
    intro y hx hy h
    cases y with
    | nil => simp at h
    | cons b y =>
      simp only [List.map_cons, List.cons.injEq] at h
      rw [u8_inj (hx a (by simp)) (hy b (by simp)) h.1, ih y (fun n hn => hx n (by simp [hn])) (fun n hn => hy n (by simp [hn])) h.2]
theorem str_list (x : List Int) : (strOfNums x).toList = x.map fun n => UInt8.ofNat n.toNat := by rw [ByteArray.toList_eq]; rfl
theorem str_eq (x y : List Int) (hx : isBytes x) (hy : isBytes y) : ((strOfNums x).toList == (strOfNums y).toList) = decide (x = y) := by
  rw [str_list, str_list, Bool.eq_iff_iff, beq_iff_eq, decide_eq_true_eq]
  exact ⟨bytes_inj x y hx hy, fun h => by rw [h]⟩
theorem fs_isBytes : isBytes [70, 83] := by intro x hx; simp at hx; omega
set_option maxRecDepth 100000 in
theorem of_magic (w : World) (A : Option Addr) (c : Nat) (b : List Int) (hl : 2 ≤ b.length) (h : SB w A c b) (hby : isBytes b) (hm : b.take 2 ≠ [70, 83]) :
    Calls Tryz.prog 98 #[.slice A b.length c] w fun e w' => e = .returned (.tuple #[.int .u64 0, .slice none 0 0, .int .i64 60]) ∧ w = w' := by
  have h1 : decide ((b.length : Int) < 2) = false := by simp; omega
  have hcap := h.cap
  have hC := Kd.C_take h.C hl
  have e2 : (b.take 2).length = 2 := by rw [List.length_take]; omega
  rw [e2] at hC
  have hcv := Kd.C_string (c := c) Tryz.underlying58 Tryz.underlying5 Tryz.underlying9 hC
  have hne : ((strOfNums (b.take 2)).toList == (strOfNums [70, 83]).toList) = false := by
    rw [str_eq _ _ (hby.take 2) fs_isBytes]
    simpa using hm
  rw [show (strOfNums [70, 83]).toList = [70, 83] from str_list _] at hne
  obtain ⟨s, hs⟩ : ∃ s, strOfNums (b.take 2) = s := ⟨_, rfl⟩
  rw [hs] at hcv hne
  have hc2 : (2 : Int) ≤ (c : Int) := by omega
  have hl2 : (2 : Int) ≤ (b.length : Int) := by omega
  clear hC e2 h hm hby hs hl hcap
  go_enter Tryz.func98, Tryz.ntmps98
  go_wp2_with fail
  go_ret3
  exact ⟨rfl, rfl⟩
theorem SB.tail {w : World} {ad : Addr} {c k : Nat} {b : List Int} {A1 : Option Addr} (h : SB w (some ad) c b) (hk0 : 0 < k) (hk : k ≤ b.length) (hA : (if c = k then some ad else some { block := ad.block, off := ad.off + k }) = A1) : SB w A1 (c - k) (b.drop k) := by
  subst hA
  have C2 := Kd.C_drop (m := k) (c := c) h.C hk h.cap
  have hm : k * (Kd.int .u8).sz = k := Nat.mul_one k
  have e : (if c = k then some ad else Option.map (fun x => x.add (k * (Kd.int .u8).sz)) (some ad)) = (if c = k then some ad else some { block := ad.block, off := ad.off + k }) := by
    rw [hm]
    split
    · rfl
    · unfold Addr.add
      rw [Option.map_some, if_neg (by omega)]
  rw [e] at C2
  refine ⟨C2, by have := h.cap; rw [List.length_drop]; omega, by have := h.c63; omega, fun h0 => ?_⟩
  split at h0 <;> cases h0
theorem len_tail (b : List Int) (k : Nat) : (b.drop k).length = b.length - k := List.length_drop
/-- of numbers: from the reader's head on -/
def OfQ (w : World) (b : List Int) (e : Ending) (w' : World) : Prop := ∃ A c, e = .returned (.tuple #[.int .u64 (unP b).1, .slice A (unP b).2.1.length c, .int .i64 (unP b).2.2]) ∧ Kd.R (Kd.int .u64) 52 w' w.heap.size (fun k => w.heap.size ≤ k) (.slice A (unP b).2.1.length c) (unP b).2.1 ∧ Below w.heap.size w w'
theorem equalB_l : ∀ (k : Nat) (l0 l1 : List Int) (i : Nat), l0.length = l1.length → l0.length ≤ 1000000 → l0.length < k + i → i ≤ l0.length → slices_Equal_byte_byte.l0 k l0 l1 (l0.length : Int) (i : Int) = some (decide (l0.drop i = l1.drop i)) := by
  intro k
  induction k with
  | zero => intro l0 l1 i _ _ h h'; omega
  | succ k ih =>
    intro l0 l1 i he hl h h'
    rw [slices_Equal_byte_byte.l0]
    by_cases hi : i < l0.length
    · rw [if_pos (by omega), if_pos (by omega), if_pos (by omega), if_pos (by omega)]
      have h1 : l0[i]? = some l0[i] := List.getElem?_eq_getElem hi
      have h2 : l1[i]? = some (l1[i]'(by omega)) := List.getElem?_eq_getElem (by omega)
      rw [show rd l0 (i : Int) = l0[i] by simp [rd, List.getD, h1], show rd l1 (i : Int) = l1[i]'(by omega) by simp [rd, List.getD, h2]]
      rw [List.drop_eq_getElem_cons hi, List.drop_eq_getElem_cons (show i < l1.length by omega)]
      by_cases hx : l0[i] = l1[i]'(by omega)
      · rw [if_pos hx, show wrap64 ((i : Int) + 1) = ((i + 1 : Nat) : Int) by unfold wrap64; omega, ih l0 l1 (i + 1) he hl (by omega) (by omega)]
        rw [Option.some.injEq, decide_eq_decide, List.cons.injEq]
        exact ⟨fun h => ⟨hx, h⟩, fun h => h.2⟩
      · rw [if_neg hx, Option.some.injEq, eq_comm, decide_eq_false_iff_not, List.cons.injEq]
        exact fun h => hx h.1
    · rw [if_neg (by omega), List.drop_of_length_le (by omega), List.drop_of_length_le (by omega)]
      simp
theorem equalB_f (l0 l1 : List Int) (he : l0.length = l1.length) (hl : l0.length ≤ 1000000) : slices_Equal_byte_byte.f (l0.length + 1) l0 l1 = some (decide (l0 = l1)) := by
  unfold slices_Equal_byte_byte.f
  rw [if_pos (by omega)]
  have := equalB_l (l0.length + 1) l0 l1 0 he hl (by omega) (by omega)
  simpa using this
theorem ofEq (w : World) (A0 : Option Addr) (c0 : Nat) (l0 l1 : List Int) (r : Bool) (A1 : Option Addr) (c1 n : Nat) (h0 : l0.length = n) (h1 : l1.length = n) {w0 : World} {ok : Nat → Prop} (hr0 : Kd.R (Kd.int .u8) 5 w w0.heap.size ok (.slice A0 n c0) l0) (hr1 : (Kd.int .u8).C w A1 n l1) (hc1 : n ≤ c1) (h : slices_Equal_byte_byte.f (l0.length + 1) l0 l1 = some r) :
    Calls Tryz.prog 133 #[.slice A0 n c0, .slice A1 n c1] w fun e w' => e = .returned (.bool r) ∧ Drawn0 w w' := by
  obtain ⟨e1, e2, e3⟩ := Kd.R_reads' hr0
  subst h0
  have := slices_Equal_byte_byte.calls (l0.length + 1) A0 c0 l0 A1 c1 l1 r w e3 e2 (by rw [h1]; exact hr1) (by omega) h
  rwa [h1] at this
theorem ofZ (w : World) (A : Option Addr) (c : Nat) (b : List Int) (n : Nat) (z : Bool) (hz : allZ b = z) (hn : b.length = n) (hl : b.length ≤ 1000000) (h : SB w A c b) :
    Calls Tryz.prog 134 #[.slice A n c] w fun e w' => e = .returned (.bool z) ∧ w = w' := by
  subst hn
  exact noughts_calls w A c b z hz hl h.C
theorem bel_drewN {b : Nat} {w w' : World} (h : Below b w w') (n : Nat) : Below b w (w'.drewN n) := ⟨h.os, h.tape, h.output, h.size, h.block⟩
theorem drewN_below (w : World) (n : Nat) : Below w.heap.size w (w.drewN n) := ⟨rfl, rfl, rfl, Nat.le_refl _, fun _ _ => rfl⟩
theorem info56 : (Tryz.prog.info? 52).map (fun i => (i.zero, i.size, i.bytes)) = some (some (.int .u64 0), (Kd.int .u64).sz, 8) := by kernel_rfl
theorem GX.hB {w : World} {base B : Nat} {xs : List Int} {bad : Bool} (h : GX w base B xs bad) : base ≤ B := by
  obtain ⟨A, c, hk, _⟩ := h
  exact hk.hB
theorem R_at_B {α : Type} {d : Kd α} {e b1 B : Nat} {w w' : World} {v : Value} {xs : List α} (h : d.R e w b1 (fun _ => True) v xs) (hc : Chg w w' (fun k => k = B)) (hB : B < b1) : d.R e w' b1 (fun _ => True) v xs :=
  Kd.R_mono (Kd.R_step (Kd.R_bound h) (fun k hk hl => hc.block k hl (fun e => by have := hk.2.1; omega))) (fun _ _ => trivial)
theorem own_not {α : Type} {d : Kd α} {e b1 : Nat} {w : World} {v : Value} {xs : List α} (h : d.R e w b1 (fun _ => True) v xs) (k : Nat) (hk : k < b1) (he : some k = v.ownBlock) : False := by
  obtain ⟨inner, ho⟩ := Kd.R_own h
  have := own_base ho k he.symm
  omega
set_option maxRecDepth 100000 in
theorem of_main (w : World) (ad : Addr) (c : Nat) (b : List Int) (hl : 2 ≤ b.length) (hl2 : b.length ≤ 1000000) (h : SB w (some ad) c b) (hby : isBytes b) (hm : b.take 2 = [70, 83]) :
    Calls Tryz.prog 98 #[.slice (some ad) b.length c] w (OfQ w b) := by
  have h1 : decide ((b.length : Int) < 2) = false := by simp; omega
  have hcap := h.cap
  have hC := Kd.C_take h.C hl
  have e2 : (b.take 2).length = 2 := by rw [List.length_take]; omega
  rw [e2, hm] at hC
  have hcv := Kd.C_string (c := c) Tryz.underlying58 Tryz.underlying5 Tryz.underlying9 hC
  rw [show strOfNums [70, 83] = ⟨#[70, 83]⟩ from rfl] at hcv
  have hc2 : (2 : Int) ≤ (c : Int) := by omega
  have hl2 : (2 : Int) ≤ (b.length : Int) := by omega
  obtain ⟨A1, hA1⟩ : ∃ A1, (if c = 2 then some ad else some { block := ad.block, off := ad.off + 2 }) = A1 := ⟨_, rfl⟩
  have hT := h.tail (by decide) hl hA1
  have hR := gread_calls w A1 (c - 2) (b.drop 2) (by rw [len_tail]; omega) hT.none_ hT.C
  rw [len_tail] at hR
  have HR := Aside0.mk hR
  have H := Aside0.mk h
  have HBY := Aside0.mk hby
  have HM := Aside0.mk hm
  obtain ⟨pg, p4, pn, pl, pb⟩ := slot_parts b hby
  obtain ⟨g, r1, b1, e1⟩ : ∃ g r1 b1, slotG b = (g, r1, b1) := ⟨_, _, _, rfl⟩
  obtain ⟨n, r2, b2, e3⟩ : ∃ n r2 b2, slotC b = (n, r2, b2) := ⟨_, _, _, rfl⟩
  have E1 := Aside0.mk (show rdN (b.drop 2) false 18446744073709551615 = (g, r1, b1) from e1)
  have E2 := Aside0.mk (show rdN r1 b1 4 = (n, r2, b2) from by have := e3; unfold slotC at this; rwa [e1] at this)
  have EL := Aside0.mk (show slotL b = readK n.toNat r2 b2 from by unfold slotL; rw [e3])
  rw [e1] at pg
  rw [e3] at p4
  simp only at pg p4
  obtain ⟨N, rfl⟩ := Int.eq_ofNat_of_zero_le p4.1
  have hN4 : N ≤ 4 := by omega
  rw [Int.toNat_natCast] at EL
  have PG := Aside0.mk pg
  have PN := Aside0.mk pn
  have PL := Aside0.mk pl
  have PB := Aside0.mk pb
  have E0 := Aside0.mk e1
  clear hC e2 h hm hby hl hcap hT hR pg p4 pn pl pb e1 e3
  go_enter Tryz.func98, Tryz.ntmps98
  go_wp2_with (first
    | (go_at_call 66; with_reducible refine HR.out.mono ?_; rintro e w1 ⟨B, rfl, hg, hb⟩; have HG1 := Aside0.mk (GS.refl hg (HBY.out.drop 2) (fun h => by cases h)); have HB1 := Aside0.mk hb; clear hg hb)
    | (go_at_call 68; with_reducible refine (GS.n (by decide) E1.out HG1.out).mono ?_; rintro e w2 ⟨rfl, hg⟩; have HG2 := Aside0.mk hg; clear hg)
    | (go_at_call 68; with_reducible refine (GS.n (by decide) E2.out HG2.out).mono ?_; rintro e w3 ⟨rfl, hg⟩; have HG3 := Aside0.mk hg; clear hg))
  have HG4 := Aside0.mk (GS.refl HG3.out.x HG3.out.bytes HG3.out.nb)
  have HB3 := Aside0.mk (HB1.out.trans (HG3.out.chg.below HB1.out.size (fun k hk => by subst hk; exact HG3.out.x.hB)))
  have HBL := Aside0.mk HG3.out.x.lt
  go_loopg [3, 6] N (fun kq v3 v6 w' => ∃ (i : Nat), v6 = .int .u64 (kq : Int) ∧ Aside0 (i + kq = N) ∧ Aside0 (GS w3 w' w.heap.size B (readK i r2 b2).2.1 (readK i r2 b2).2.2) ∧ Aside0 (Kd.R (Kd.int .u64) 52 w' w3.heap.size (fun _ => True) v3 (readK i r2 b2).1))
  case atStart => exact ⟨0, rfl, ⟨by omega⟩, HG4, ⟨Kd.R_nil _ _ _ _ _⟩⟩
  case round =>
    obtain ⟨i, rfl, HI, HGr, HRr⟩ := hrel
    obtain ⟨A3, c3, rfl⟩ := Kd.R_slice HRr.out
    by_cases hk0 : gk = 0
    · subst hk0
      obtain rfl : i = N := by have := HI.out; omega
      have EQ := EL.out
      rw [← EQ] at HGr HRr ⊢
      have HV := Aside0.mk (slotV_short b HBY.out HM.out)
      have HVP := Aside0.mk (slotV_prog b HBY.out HM.out)
      have HRD := Aside0.mk (slot_read b HBY.out HM.out)
      have HUN := Aside0.mk (show unP b = if slotV b then ((slotG b).1, (slotL b).1, 0) else (0, [], 60) by unfold unP; rw [if_pos HM.out])
      rw [E0.out] at HVP HRD HUN
      simp only at HVP HRD HUN
      obtain ⟨l, hL1⟩ : ∃ l, (slotL b).1 = l := ⟨_, rfl⟩
      obtain ⟨r3, hL2⟩ : ∃ r3, (slotL b).2.1 = r3 := ⟨_, rfl⟩
      obtain ⟨b3, hL3⟩ : ∃ b3, (slotL b).2.2 = b3 := ⟨_, rfl⟩
      rw [hL1] at HRr HVP HRD HUN PN PL ⊢
      rw [hL2] at HGr HV HVP HRD PB
      rw [hL3] at HGr HRD PB
      clear EQ EL E0 E1 E2 hL1 hL2 hL3
      have HBr := Aside0.mk (HB3.out.trans (HGr.out.chg.below HB3.out.size (fun k hk => by subst hk; exact HGr.out.x.hB)))
      have hz : ¬ ((0 : Int) < ((0 : Nat) : Int)) := by omega
      by_cases hr4 : r3.length < 4
      · have HU := Aside0.mk (show unP b = (0, [], 60) from by rw [HUN.out, HV.out hr4]; rfl)
        have hr4' : (r3.length : Int) < 4 := by omega
        clear hr4
        go_wp2_with (go_at_call 113; with_reducible refine (GS.left r3.length rfl HGr.out).mono ?_; rintro e w' ⟨rfl, rfl⟩)
        go_ret3
        unfold OfQ
        rw [HU.out]
        exact ⟨none, 0, rfl, Kd.R_nil _ _ _ _ _, HBr.out⟩
      · have hr4' : ¬ ((r3.length : Int) < 4) := by omega
        have hb3 : b3 = false := by
          cases b3 with
          | false => rfl
          | true => rw [PB.out rfl] at hr4; simp at hr4
        obtain ⟨hbs, _⟩ := HRD.out hb3
        have hbl := congrArg List.length hbs
        rw [List.length_append] at hbl
        obtain ⟨sz, hsz⟩ : ∃ sz : Nat, b.length - r3.length = sz := ⟨_, rfl⟩
        have hvp := HVP.out (by omega)
        rw [hsz] at hvp
        have hsI : (b.length : Int) - (r3.length : Int) = (sz : Int) := by omega
        have hszc : (sz : Int) + 4 ≤ (c : Int) := by have := H.out.cap; omega
        have hszb : (sz : Int) + 4 ≤ (b.length : Int) := by omega
        have hlb6 : (b.drop (sz + 4)).length ≤ 1000000 := by rw [List.length_drop]; omega
        have hwl : (slotB g l).length = sz + 4 := by rw [slotB_len]; omega
        have hC4 := Kd.C_take H.out.C (m := sz + 4) (by omega)
        have hl4 : (b.take (sz + 4)).length = sz + 4 := by rw [List.length_take]; omega
        obtain ⟨want, hwant⟩ : ∃ want, slotB g l = want := ⟨_, rfl⟩
        obtain ⟨b4, hb4⟩ : ∃ b4, b.take (sz + 4) = b4 := ⟨_, rfl⟩
        rw [hwant] at hwl hvp
        rw [hb4] at hvp hC4 hl4
        have HEQ := Aside0.mk (equalB_f want b4 (by omega) (by omega))
        have HSL := Aside0.mk (slot_calls wr g l A3 c3 PG.out PN.out PL.out (Kd.R_reads' HRr.out).2.2)
        rw [hwant, hwl] at HSL
        rw [hl4] at hC4
        have HC4 := Aside0.mk hC4
        have HWL := Aside0.mk hwl
        have HL4 := Aside0.mk hl4
        obtain ⟨A5, hA5⟩ : ∃ A5, (if c = sz + 4 then some ad else some { block := ad.block, off := ad.off + (sz + 4) }) = A5 := ⟨_, rfl⟩
        have HT5 := Aside0.mk (H.out.tail (by omega) (by omega) hA5)
        clear hbs hbl hr4 hb3 hsz hwant hb4 hC4 hwl hl4
        have HLB := Aside0.mk hlb6
        by_cases hq : want = b4
        · have HEQ2 := Aside0.mk (show slices_Equal_byte_byte.f (want.length + 1) want b4 = some true from by rw [HEQ.out]; simp [hq])
          by_cases hzz : allZ (b.drop (sz + 4)) = true
          · have HU := Aside0.mk (show unP b = (g, l, 0) from by rw [HUN.out, hvp, hzz]; simp [hq])
            have HZ := Aside0.mk hzz
            clear hq hvp hzz hlb6
            go_wp2_with (first
              | (go_at_call 113; with_reducible refine (GS.left r3.length rfl HGr.out).mono ?_; rintro e w' ⟨rfl, rfl⟩) | (go_at_call 128; with_reducible refine HSL.out.mono ?_; rintro e w7 ⟨A7, c7, rfl, hr, hb⟩; have HR7 := Aside0.mk hr; have HB7 := Aside0.mk hb; have HW7 := Aside0.mk (HBr.out.trans (hb.mono HBr.out.size)); clear hr hb)
              | (go_at_call 133; go_loud (refine (ofEq w7 A7 c7 want b4 true (some ad) c (sz + 4) HWL.out HL4.out HR7.out (Kd.C_below HC4.out HW7.out) (by omega) HEQ2.out).mono ?_); rintro e w8 ⟨rfl, hd⟩; obtain ⟨nd, rfl⟩ := hd.out)
              | (go_at_call 134; go_loud (refine (ofZ (w7.drewN nd) A5 (c - (sz + 4)) (b.drop (sz + 4)) (b.length - (sz + 4)) true HZ.out (len_tail _ _) HLB.out (HT5.out.move (bel_drewN HW7.out nd))).mono ?_); rintro e w8 ⟨rfl, rfl⟩))
            go_ret3
            unfold OfQ
            rw [HU.out]
            exact ⟨A3, c3, rfl, Kd.R_mono (Kd.R_bound (Kd.R_lower (Kd.R_below (Kd.R_below HRr.out HB7.out) (drewN_below w7 nd)) HB3.out.size)) (fun k hk => hk.2.1), bel_drewN HW7.out nd⟩
          · have hzf : allZ (b.drop (sz + 4)) = false := by simpa using hzz
            have HU := Aside0.mk (show unP b = (0, [], 60) from by rw [HUN.out, hvp, hzf]; simp)
            have HZ := Aside0.mk hzf
            clear hq hvp hzz hlb6 hzf
            go_wp2_with (first
              | (go_at_call 113; with_reducible refine (GS.left r3.length rfl HGr.out).mono ?_; rintro e w' ⟨rfl, rfl⟩) | (go_at_call 128; with_reducible refine HSL.out.mono ?_; rintro e w7 ⟨A7, c7, rfl, hr, hb⟩; have HR7 := Aside0.mk hr; have HB7 := Aside0.mk hb; have HW7 := Aside0.mk (HBr.out.trans (hb.mono HBr.out.size)); clear hr hb)
              | (go_at_call 133; go_loud (refine (ofEq w7 A7 c7 want b4 true (some ad) c (sz + 4) HWL.out HL4.out HR7.out (Kd.C_below HC4.out HW7.out) (by omega) HEQ2.out).mono ?_); rintro e w8 ⟨rfl, hd⟩; obtain ⟨nd, rfl⟩ := hd.out)
              | (go_at_call 134; go_loud (refine (ofZ (w7.drewN nd) A5 (c - (sz + 4)) (b.drop (sz + 4)) (b.length - (sz + 4)) false HZ.out (len_tail _ _) HLB.out (HT5.out.move (bel_drewN HW7.out nd))).mono ?_); rintro e w8 ⟨rfl, rfl⟩))
            go_ret3
            unfold OfQ
            rw [HU.out]
            exact ⟨none, 0, rfl, Kd.R_nil _ _ _ _ _, bel_drewN HW7.out nd⟩
        · have HEQ2 := Aside0.mk (show slices_Equal_byte_byte.f (want.length + 1) want b4 = some false from by rw [HEQ.out]; simp [hq])
          have HU := Aside0.mk (show unP b = (0, [], 60) from by rw [HUN.out, hvp]; simp [hq])
          clear hq hvp hlb6
          go_wp2_with (first
            | (go_at_call 113; with_reducible refine (GS.left r3.length rfl HGr.out).mono ?_; rintro e w' ⟨rfl, rfl⟩) | (go_at_call 128; with_reducible refine HSL.out.mono ?_; rintro e w7 ⟨A7, c7, rfl, hr, hb⟩; have HR7 := Aside0.mk hr; have HB7 := Aside0.mk hb; have HW7 := Aside0.mk (HBr.out.trans (hb.mono HBr.out.size)); clear hr hb)
            | (go_at_call 133; go_loud (refine (ofEq w7 A7 c7 want b4 false (some ad) c (sz + 4) HWL.out HL4.out HR7.out (Kd.C_below HC4.out HW7.out) (by omega) HEQ2.out).mono ?_); rintro e w8 ⟨rfl, hd⟩; obtain ⟨nd, rfl⟩ := hd.out))
          go_ret3
          unfold OfQ
          rw [HU.out]
          exact ⟨none, 0, rfl, Kd.R_nil _ _ _ _ _, bel_drewN HW7.out nd⟩
    obtain ⟨x, rx, bx, hx⟩ : ∃ x rx bx, rdN (readK i r2 b2).2.1 (readK i r2 b2).2.2 18446744073709551615 = (x, rx, bx) := ⟨_, _, _, rfl⟩
    have HX := Aside0.mk hx
    have HSN := Aside0.mk (show readK (i + 1) r2 b2 = ((readK i r2 b2).1 ++ [x], rx, bx) from by rw [readK_snoc]; show (_ ++ [(rdN _ _ 18446744073709551615).1], (rdN _ _ 18446744073709551615).2) = _; rw [hx])
    clear hx
    have HLN := Aside0.mk (show ((readK i r2 b2).1.length + 1) * 8 ≤ 140737488355328 by rw [readK_len]; have := HI.out; omega)
    generalize readK i r2 b2 = st at *
    obtain ⟨l, xs, bad⟩ := st
    simp only at HX HSN HLN HGr HRr
    obtain ⟨gq, rfl⟩ : ∃ gq, gk = gq + 1 := ⟨gk - 1, by omega⟩
    clear hk0
    have hpos : (0 : Int) < ((gq + 1 : Nat) : Int) := by omega
    have hgq : ((gq + 1 : Nat) : Int) ≤ 4 := by have := HI.out; omega
    go_wp2_with (first
      | (go_at_call 68; with_reducible refine (GS.step (by decide) HX.out HGr.out).mono ?_; rintro e w5 ⟨rfl, hg, hc⟩; have HG5 := Aside0.mk hg; have HR5 := Aside0.mk (R_at_B HRr.out hc HBL.out); clear hg hc)
      | ((with_reducible refine gate_builtin (b := .append) (xs := #[.tmp 30, .tmp 33]) rfl ?_); at_builtin; go_loud (refine Kd.R_append (Kd.int .u64) (W := w5) (w0 := w5) w3.heap.size rfl (.tmp 30) (.tmp 33) 98 52 (.int .u64 0) 8 rfl Tryz.underlying98 info56 rfl (by decide) (by decide) _ l _ [.int .u64 _] (fun _ => True) (fun _ => False) rfl rfl rfl (fun _ h => h.elim) (fun _ _ => trivial) HR5.out (Below.refl _ _) HG5.out.chg.size HLN.out ?_); intro v1 w6 ho hb hg hat; have HG6 := Aside0.mk (HG5.out.grow HBL.out (chg_grown hg fun _ h => h) (fun k hk he => own_not HR5.out k hk he)); have HR6 := Aside0.mk ho; clear ho hb hg hat))
    go_roundg gq
    case rel => exact ⟨i + 1, by go_num, ⟨by have := HI.out; omega⟩, ⟨by rw [HSN.out]; exact HG6.out⟩, ⟨by rw [HSN.out]; exact HR6.out⟩⟩
    case measure => omega
theorem of_calls (w : World) (A : Option Addr) (c : Nat) (b : List Int) (hl2 : b.length ≤ 1000000) (h : SB w A c b) (hby : isBytes b) :
    Calls Tryz.prog 98 #[.slice A b.length c] w (OfQ w b) := by
  have bad : b.take 2 ≠ [70, 83] → ∀ e w', (e = .returned (.tuple #[.int .u64 0, .slice none 0 0, .int .i64 60]) ∧ w = w') → OfQ w b e w' := by
    intro hm e w' h
    obtain ⟨rfl, rfl⟩ := h
    have hu : unP b = (0, [], 60) := by unfold unP; rw [if_neg hm]
    unfold OfQ
    rw [hu]
    exact ⟨none, 0, rfl, Kd.R_nil _ _ _ _ _, Below.refl _ _⟩
  by_cases hl : b.length < 2
  · have hm : b.take 2 ≠ [70, 83] := fun e => by
      have := congrArg List.length e
      rw [List.length_take] at this
      simp at this
      omega
    exact (of_short w A c b hl).mono (bad hm)
  · by_cases hm : b.take 2 = [70, 83]
    · cases A with
      | none => have := (h.none_ rfl).1; omega
      | some ad => exact of_main w ad c b (by omega) hl2 h hby hm
    · exact (of_magic w A c b (by omega) h hby hm).mono (bad hm)
end Go.Proofs.YtlepcmljmibdnaaGreat
namespace Go.Proofs.YtlepcmljmibdnaaGreat
open Go.RowKit Go.Proofs.YtlepcmljmibdnaaGreatW.PrintWords Go.Proofs.YtlepcmljmibdnaaGreatW.PrintLast Go.Proofs.YtlepcmljmibdnaaGreatW.PrintMore PWalOpens
set_option linter.unusedVariables false
set_option linter.unusedSimpArgs false
theorem fixedF (l : List Int) (n : Int) (k : Nat) (hk : k ≤ 8) (hl : l.length + 9 ≤ 140737488355328) : factotumref01_Fixed.f 9 l n (k : Int) = some (l ++ lowB n k) := by
  unfold factotumref01_Fixed.f
  rw [show wrap64 ((k : Int) - 1) = (k : Int) - 1 by unfold wrap64; omega]
  have key : ∀ m, factotumref01_Fixed.l0 (k + 1 + m) l n ((k : Int) - 1) = some (l ++ lowB n k) := by
    intro m
    induction m with
    | zero => exact fixed_l k _ n hk (by omega)
    | succ m ih => exact factotumref01_Fixed.mono_l _ _ _ _ _ ih
  have := key (8 - k)
  rwa [show k + 1 + (8 - k) = 9 by omega] at this
/-- a row of one's own: all of it from b on -/
def OwnB (w : World) (b : Nat) (v : Value) (xs : List Int) : Prop := Kd.R (Kd.int .u8) 5 w b (fun k => b ≤ k) v xs
theorem OwnB.low {w : World} {b b' : Nat} {v : Value} {xs : List Int} (h : OwnB w b v xs) (hb : b' ≤ b) : OwnB w b' v xs := Kd.R_mono (Kd.R_lower h hb) (fun k hk => Nat.le_trans hb hk)
theorem alloc_keep {w : World} {g : Nat} {o o' : Obj} (h : w.heap[g]? = some o) : (w.alloc o').heap[g]? = some o := (Below.alloc (Below.refl w.heap.size w) (Nat.le_refl _) o').block g (Array.getElem?_eq_some_iff.1 h).1 |>.trans h
set_option maxRecDepth 100000 in
theorem refN_lit (w : World) (g : Nat) (n : Int) (fr : Nat × Nat) (hn : 0 ≤ n ∧ n < 18446744073709551616) (r : List Int) (hr : [70, 83] ++ encN n = r) (hg : w.heap[g]? = some (.cells (encs (Value.int .u8) [70, 83]).toArray 5 fr)) :
    Calls Tryz.prog 79 #[.slice (some ⟨g, 0, none⟩) 2 2, .int .u64 n] w fun e w' => ∃ v, e = .returned v ∧ OwnB w' w.heap.size v r ∧ Below w.heap.size w w' := by
  have HGG := Aside0.mk hg
  have hgl : g < w.heap.size := (Array.getElem?_eq_some_iff.1 hg).1
  have HGL := Aside0.mk hgl
  obtain ⟨hn0, hn1⟩ := hn
  have HR := Aside0.mk hr
  have H1 := Aside0.mk (show 1 ≤ 1000000 by omega)
  have H3 := Aside0.mk (show 2 + 1 ≤ 1000000 by omega)
  clear hg hgl hr
  by_cases h128 : n < 128
  · have HE := Aside0.mk (show encN n = [n] by unfold encN; rw [if_pos h128]; congr 1; omega)
    go_enter Tryz.func79, Tryz.ntmps79
    go_wp2_with (first
      | ((with_reducible refine gate_builtin (b := .append) (xs := #[.tmp 8, .tmp 11]) rfl ?_); obtain ⟨v6, w6, hrun, hR6, hB6⟩ := append_lit (w.alloc (.cells #[.int .u8 (n)] 5)) 58 g fr [70, 83] [n] ⟨w.heap.size, 0, none⟩ 1 (alloc_keep HGG.out) (sec_C _ _ [n] 5 (0, 0) H1.out (heap_alloc_new w _)) Nat.one_pos H3.out; go_loud (refine Kd.event_run rfl (ex_append rfl rfl rfl hrun) ?_); simp only [Act.put, List.setIfInBounds_toArray, List.set_cons_succ, List.set_cons_zero]; have HR6 := Aside0.mk hR6; have HB6 := Aside0.mk hB6; clear hR6 hB6 hrun))
    go_ret
    have hb := Below.alloc (Below.refl w.heap.size w) (Nat.le_refl _) (.cells #[.int .u8 (n)] 5)
    rw [← HR.out, HE.out]
    exact ⟨v6, rfl, OwnB.low HR6.out (by rw [alloc_size]; omega), hb.trans (HB6.out.mono (by rw [alloc_size]; omega))⟩
  · have hs := szN_le n
    have HSZ := Aside0.mk (wide_f n)
    have HF := Aside0.mk (fixedF ([70, 83] ++ [128 + (szN n : Int)]) n (szN n) hs.2 (by simp))
    have HE := Aside0.mk (show encN n = (128 + (szN n : Int)) :: lowB n (szN n) by unfold encN; rw [if_neg h128])
    go_enter Tryz.func79, Tryz.ntmps79
    go_wp2_with (first
      | (go_at_call 117; refine (factotumref01_wide.calls 9 n (szN n) _ HSZ.out).mono ?_; rintro e w3 ⟨rfl, hd⟩; obtain ⟨nd, rfl⟩ := hd.out)
      | ((with_reducible refine gate_builtin (b := .append) (xs := #[.tmp 15, .tmp 19]) rfl ?_); obtain ⟨v6, w6, hrun, hR6, hB6⟩ := append_lit ((w.drewN nd).alloc (.cells #[.int .u8 (128 + (szN n : Int))] 5)) 58 g fr [70, 83] [128 + (szN n : Int)] ⟨w.heap.size, 0, none⟩ 1 (alloc_keep (w := w.drewN nd) HGG.out) (sec_C _ _ [128 + (szN n : Int)] 5 (0, 0) H1.out (heap_alloc_new (w.drewN nd) _)) Nat.one_pos H3.out; go_loud (refine Kd.event_run rfl (ex_append rfl rfl rfl hrun) ?_); simp only [Act.put, List.setIfInBounds_toArray, List.set_cons_succ, List.set_cons_zero]; have hb := Below.alloc (Below.refl (w.drewN nd).heap.size (w.drewN nd)) (Nat.le_refl _) (.cells #[.int .u8 (128 + (szN n : Int))] 5); have HB6 := Aside0.mk ((bel_drewN (Below.refl w.heap.size w) nd).trans (hb.trans (hB6.mono (by rw [alloc_size]; exact Nat.le_succ _)))); have HR6 := Aside0.mk (OwnB.low hR6 (by rw [alloc_size]; exact Nat.le_succ _)); clear hR6 hB6 hrun hb)
      | (go_at_call 119; go_loud (refine (factotumref01_Fixed.calls 9 (fun k => w.heap.size ≤ k) v6 ([70, 83] ++ [128 + (szN n : Int)]) n (szN n) (([70, 83] ++ [128 + (szN n : Int)]) ++ lowB n (szN n)) w w6 HB6.out HR6.out HF.out).mono ?_); rintro e w7 ⟨v7, rfl, hr, hb, _⟩; have HB7 := Aside0.mk hb; have HR7 := Aside0.mk (show OwnB w7 w.heap.size v7 _ from Kd.R_mono hr (fun k hk => hk.elim id (fun hk => Nat.le_trans HB6.out.size hk))); clear hr hb))
    go_ret
    have e : ([70, 83] ++ [128 + (szN n : Int)]) ++ lowB n (szN n) = r := by rw [← HR.out, HE.out]; rfl
    rw [← e]
    exact ⟨v7, rfl, HR7.out, HB7.out⟩
theorem lowB4 (c : Int) : lowB c 4 = be4 c := by
  have e : c / 256 ^ 0 = c := by rw [Int.pow_zero, Int.ediv_one]
  show [c / 256 ^ 3 % 256, c / 256 ^ 2 % 256, c / 256 ^ 1 % 256, c / 256 ^ 0 % 256] = _
  rw [e]
  rfl
theorem rslot_long (w : World) (gen : Int) (l : List Int) (A : Option Addr) (c : Nat) (hl : 4 < l.length) :
    Calls Tryz.prog 131 #[.int .u64 gen, .slice A l.length c] w fun e w' => e = .returned (.tuple #[.slice none 0 0, .int .i64 2]) ∧ w = w' := by
  have h : (4 : Int) < (l.length : Int) := by omega
  go_enter Tryz.func131, Tryz.ntmps131
  go_wp2
  go_ret2
  exact ⟨rfl, rfl⟩
theorem slot_long (w : World) (gen : Int) (l : List Int) (A : Option Addr) (c : Nat) (hl : 4 < l.length) :
    Calls Tryz.prog 128 #[.int .u64 gen, .slice A l.length c] w fun e w' => e = .returned (.tuple #[.slice none 0 0, .int .i64 2]) ∧ w = w' := by
  have h : (4 : Int) < (l.length : Int) := by omega
  go_enter Tryz.func128, Tryz.ntmps128
  go_wp2
  go_ret2
  exact ⟨rfl, rfl⟩
/-- one number more behind a row of one's own -/
theorem refN_own (w0 w : World) (v : Value) (xs : List Int) (n : Int) (r : List Int) (hr : xs ++ encN n = r) (hn : 0 ≤ n) (hl : xs.length ≤ 1000000) (hb : Below w0.heap.size w0 w) (h : OwnB w w0.heap.size v xs) :
    Calls Tryz.prog 79 #[v, .int .u64 n] w fun e w' => ∃ v', e = .returned v' ∧ OwnB w' w0.heap.size v' r ∧ Below w0.heap.size w0 w' := by
  subst hr
  refine (factotumref01_N.calls 9 (fun k => w0.heap.size ≤ k) v xs n (xs ++ encN n) w0 w hb h (refN_f xs n hn (by omega))).mono ?_
  rintro e w' ⟨v', rfl, hr, hb', _⟩
  exact ⟨v', rfl, Kd.R_mono hr (fun k hk => hk.elim id (fun hk => Nat.le_trans hb.size hk)), hb'⟩
set_option maxRecDepth 100000 in
theorem rslot_calls (w : World) (gen : Int) (l : List Int) (A : Option Addr) (c : Nat) (hg : 0 ≤ gen ∧ gen < 18446744073709551616) (hn : ∀ n ∈ l, 0 ≤ n ∧ n < 18446744073709551616) (hl : l.length ≤ 4) (hC : (Kd.int .u64).C w A l.length l) :
    Calls Tryz.prog 131 #[.int .u64 gen, .slice A l.length c] w fun e w' => ∃ A' c', e = .returned (.tuple #[.slice A' (slotB gen l).length c', .int .i64 0]) ∧ OwnB w' w.heap.size (.slice A' (slotB gen l).length c') (slotB gen l) ∧ Below w.heap.size w w' := by
  have hcv := fun (w : World) (C : Array Value) (n c : Nat) => Lib.run_convert_bytes_const (P := Tryz.prog) w 58 5 C n c Tryz.underlying58 Tryz.underlying5
  have HC := Aside0.mk hC
  have HN := Aside0.mk hn
  have HG := Aside0.mk hg
  have hli : (l.length : Int) ≤ 4 := by omega
  have HL := Aside0.mk hl
  obtain ⟨f0, hf0⟩ : ∃ f0, [70, 83] ++ encN gen = f0 := ⟨_, rfl⟩
  obtain ⟨f1, hf1⟩ : ∃ f1, f0 ++ encN (l.length : Int) = f1 := ⟨_, rfl⟩
  have q0 := encN_len gen
  have q1 := encN_len (l.length : Int)
  have l0 := congrArg List.length hf0
  have l1 := congrArg List.length hf1
  rw [List.length_append] at l0 l1
  have hfl : f1.length ≤ 100 := by simp at l0; omega
  have HF0 := Aside0.mk hf0
  have HF1 := Aside0.mk hf1
  have HFL := Aside0.mk hfl
  have HL0 := Aside0.mk (show f0.length ≤ 1000000 by simp at l0; omega)
  have HFIN := Aside0.mk (show f1 ++ encNs l = slotF gen l by rw [← hf1, ← hf0]; unfold slotF; simp [encNs])
  have HBY := Aside0.mk (show isBytes (slotF gen l) from fs_bytes gen l hg hn hl)
  have HI := Aside0.mk (show (0 : Int) ≤ l.length by omega)
  have H75 := Aside0.mk (refN_lit (w.alloc (.cells #[.int .u8 70, .int .u8 83] 5 (2, 3))) w.heap.size gen (2, 3) hg f0 hf0 (heap_alloc_new w _))
  clear hC hn hg hl q0 q1 l0 l1 hfl hf0 hf1
  go_enter Tryz.func131, Tryz.ntmps131
  go_wp2_with (first
    | (go_at_call 79; with_reducible refine H75.out.mono ?_; rintro e w3 ⟨v3, rfl, hr, hb⟩; have HB3 := Aside0.mk ((Below.alloc (Below.refl w.heap.size w) (Nat.le_refl _) _).trans (hb.mono (by rw [alloc_size]; exact Nat.le_succ _))); have HR3 := Aside0.mk (OwnB.low hr (by rw [alloc_size]; exact Nat.le_succ _)); clear hr hb)
    | (go_at_call 79; with_reducible refine (refN_own w w3 v3 f0 (l.length : Int) f1 HF1.out HI.out HL0.out HB3.out HR3.out).mono ?_; rintro e w4 ⟨v4, rfl, hr, hb⟩; have HB4 := Aside0.mk hb; have HR4 := Aside0.mk hr; clear hr hb))
  have HL4' := Aside0.mk (Nat.le_of_lt_succ (Nat.lt_succ_of_le HL.out))
  go_loopg [6, 22] l.length (fun kq v6 v22 w' => ∃ (i : Nat), v22 = .int .i64 (i : Int) ∧ Aside0 (i + kq = l.length) ∧ Aside0 (OwnB w' w.heap.size v6 (f1 ++ encNs (l.take i))) ∧ Aside0 (Below w.heap.size w w'))
  case atStart => exact ⟨0, rfl, ⟨by omega⟩, ⟨by rw [List.take_zero]; simp only [encNs, List.flatMap_nil, List.append_nil]; exact HR4.out⟩, HB4⟩
  case round =>
    obtain ⟨i, rfl, HI, HR, HB⟩ := hrel
    have h9 := encNs_len (l.take i)
    have h9' : (l.take i).length ≤ l.length := by rw [List.length_take]; omega
    have HLI := Aside0.mk (show (f1 ++ encNs (l.take i)).length ≤ 1000000 by rw [List.length_append]; have := HFL.out; have := HL.out; omega)
    clear h9 h9'
    by_cases hi : i < l.length
    · obtain ⟨n, hnn⟩ : ∃ n, l[i]? = some n := ⟨_, List.getElem?_eq_getElem hi⟩
      obtain ⟨hn0, hn1⟩ := HN.out n (List.mem_of_getElem? hnn)
      obtain ⟨ad, e, x0⟩ := Kd.at_int (Kd.C_below HC.out HB.out) (i : Int) (by omega) (by omega)
      subst e
      rw [show rd l (i : Int) = n by simp [rd, List.getD, hnn], Int.toNat_natCast] at x0
      have HNN := Aside0.mk (show (f1 ++ encNs (l.take i)) ++ encN n = f1 ++ encNs (l.take (i + 1)) by rw [encNs_succ l i n hnn, List.append_assoc])
      have HN0 := Aside0.mk hn0
      clear hnn
      go_wp2_with (go_at_call 79; with_reducible refine (refN_own w wr _ _ n _ HNN.out HN0.out HLI.out HB.out HR.out).mono ?_; rintro e w5 ⟨v5, rfl, hr, hb⟩; have HB5 := Aside0.mk hb; have HR5 := Aside0.mk hr; clear hr hb)
      have hk1 := HI.out
      obtain ⟨gq, rfl⟩ : ∃ gq, gk = gq + 1 := ⟨gk - 1, by omega⟩
      go_roundg gq
      case rel => exact ⟨i + 1, by go_num, ⟨by omega⟩, HR5, HB5⟩
      case measure => omega
    · have hi0 := HI.out
      obtain rfl : gk = 0 := by omega
      obtain rfl : i = l.length := by omega
      clear hi0
      have hm : ¬ ((l.length : Int) < (l.length : Int)) := by omega
      rw [List.take_length, HFIN.out] at HR HLI
      obtain ⟨A6, c6, hv6⟩ := Kd.R_slice HR.out
      subst hv6
      obtain ⟨fs, hfs⟩ : ∃ fs, slotF gen l = fs := ⟨_, rfl⟩
      rw [hfs] at HR HLI HBY ⊢
      have HFS := Aside0.mk (show fs ++ be4 (crcB fs) = slotB gen l by rw [← hfs]; rfl)
      have HCRC := Aside0.mk (sum32_f fs HBY.out (Nat.le_trans HLI.out (by omega)))
      have HFX := Aside0.mk (show factotumref01_Fixed.f 9 fs (crcB fs) 4 = some (slotB gen l) from by rw [show (4 : Int) = ((4 : Nat) : Int) from rfl, fixedF fs (crcB fs) 4 (by omega) (Nat.le_trans (Nat.add_le_add_right HLI.out 9) (by omega)), lowB4, HFS.out])
      have HQ := Aside0.mk (Kd.R_reads' HR.out)
      obtain ⟨hk0, hk1⟩ := crcB_lt fs
      obtain ⟨cq, hcq⟩ : ∃ cq, crcB fs = cq := ⟨_, rfl⟩
      rw [hcq] at hk0 hk1 HCRC HFX
      clear hfs
      go_wp2_with (first
        | (go_at_call 136; (with_reducible refine (factotumref01_Sum32.calls (fs.length + 10) A6 c6 fs cq _ HQ.out.2.2 HQ.out.2.1 HCRC.out).mono ?_); rintro e w7 ⟨rfl, hd⟩; obtain ⟨nd, rfl⟩ := hd.out; have HR7 := Aside0.mk (Kd.R_below HR.out (drewN_below wr nd)); have HB7 := Aside0.mk (bel_drewN HB.out nd))
        | (go_at_call 119; go_loud (refine (factotumref01_Fixed.calls 9 (fun k => w.heap.size ≤ k) _ fs cq 4 (slotB gen l) w (wr.drewN nd) HB7.out HR7.out HFX.out).mono ?_); rintro e w8 ⟨v8, rfl, hr, hb, _⟩; have HB8 := Aside0.mk hb; have HR8 := Aside0.mk (show OwnB w8 w.heap.size v8 _ from Kd.R_mono hr (fun k hk => hk.elim id (fun hk => Nat.le_trans HB7.out.size hk))); clear hr hb))
      obtain ⟨A8, c8, hv8⟩ := Kd.R_slice HR8.out
      subst hv8
      go_ret2
      exact ⟨A8, c8, rfl, HR8.out, HB8.out⟩
end Go.Proofs.YtlepcmljmibdnaaGreat
namespace Go.Proofs.YtlepcmljmibdnaaGreat
open Go.RowKit Go.Proofs.YtlepcmljmibdnaaGreatW.PrintWords Go.Proofs.YtlepcmljmibdnaaGreatW.PrintLast Go.Proofs.YtlepcmljmibdnaaGreatW.PrintMore PWalOpens
set_option linter.unusedVariables false
set_option linter.unusedSimpArgs false
theorem un_short (w : World) (A : Option Addr) (c : Nat) (b : List Int) (hl : b.length < 2) :
    Calls Tryz.prog 102 #[.slice A b.length c] w fun e w' => e = .returned (.tuple #[.int .u64 0, .slice none 0 0, .int .i64 60]) ∧ w = w' := by
  have h1 : decide ((b.length : Int) < 2) = true := by simp; omega
  go_enter Tryz.func102, Tryz.ntmps102
  go_wp2_with fail
  go_ret3
  exact ⟨rfl, rfl⟩
theorem un_first (w : World) (A : Option Addr) (c : Nat) (b : List Int) (x : Int) (hl : 2 ≤ b.length) (hx : b[0]? = some x) (hne : x ≠ 70) (hC : (Kd.int .u8).C w A b.length b) :
    Calls Tryz.prog 102 #[.slice A b.length c] w fun e w' => e = .returned (.tuple #[.int .u64 0, .slice none 0 0, .int .i64 60]) ∧ w = w' := by
  have h1 : decide ((b.length : Int) < 2) = false := by simp; omega
  obtain ⟨ad, e, x0⟩ := Kd.at_int hC (0 : Int) (by omega) (by omega)
  subst e
  rw [show rd b 0 = x by simp [rd, List.getD, hx], show ad.add (Int.toNat 0) = ad from rfl] at x0
  have hq : (x == 70) = false := by simpa using hne
  have hq2 : (x != 70) = true := by simpa using hne
  have hl0 : 0 < b.length := by omega
  clear hx hC
  go_enter Tryz.func102, Tryz.ntmps102
  go_wp2_with fail
  go_ret3
  exact ⟨rfl, rfl⟩
theorem un_second (w : World) (A : Option Addr) (c : Nat) (b : List Int) (x : Int) (hl : 2 ≤ b.length) (hx0 : b[0]? = some 70) (hx : b[1]? = some x) (hne : x ≠ 83) (hC : (Kd.int .u8).C w A b.length b) :
    Calls Tryz.prog 102 #[.slice A b.length c] w fun e w' => e = .returned (.tuple #[.int .u64 0, .slice none 0 0, .int .i64 60]) ∧ w = w' := by
  have h1 : decide ((b.length : Int) < 2) = false := by simp; omega
  obtain ⟨ad, e, x0⟩ := Kd.at_int hC (0 : Int) (by omega) (by omega)
  obtain ⟨ad1, e1, x1⟩ := Kd.at_int hC (1 : Int) (by omega) (by omega)
  subst e
  obtain rfl := Option.some.inj e1
  rw [show rd b 0 = 70 by simp [rd, List.getD, hx0], show ad.add (Int.toNat 0) = ad from rfl] at x0
  rw [show rd b 1 = x by simp [rd, List.getD, hx], show ad.add (Int.toNat 1) = { block := ad.block, off := ad.off + 1 } from rfl] at x1
  have hq : (x == 83) = false := by simpa using hne
  have hl0 : 0 < b.length := by omega
  have hl1 : 1 < b.length := by omega
  clear hx0 hx hne hC e1
  go_enter Tryz.func102, Tryz.ntmps102
  go_wp2_with fail
  go_ret3
  exact ⟨rfl, rfl⟩
theorem HX_new {w : World} {ad : Addr} {c : Nat} {b : List Int} {A1 : Option Addr} (h : SB w (some ad) c b) (hk : 2 ≤ b.length) (hA : (if c = 2 then some ad else some { block := ad.block, off := ad.off + 2 }) = A1) :
    HX (w.alloc (.cells #[.slice A1 (b.length - 2) (c - 2), .bool false] 135)) w.heap.size w.heap.size (b.drop 2) false := by
  have hT := h.tail (by decide) hk hA
  have hc0 : ∃ v, w.cell? ad = some v := by
    obtain ⟨a2, e, x0⟩ := Kd.at_int h.C (0 : Int) (by omega) (by omega)
    cases e
    exact ⟨_, x0⟩
  obtain ⟨v, hv⟩ := hc0
  have hlt := block_lt_of_cell hv
  refine ⟨A1, c - 2, ⟨by rw [len_tail]; exact heap_alloc_new w _, Kd.C_below hT.C (Below.alloc (Below.refl _ _) (Nat.le_refl _) _), hT.cap, fun a e => ?_, Nat.le_refl _⟩, hT.c63, fun e => List.eq_nil_of_length_eq_zero (hT.none_ e).1⟩
  subst e
  split at hA
  · cases hA; exact hlt
  · cases hA; exact hlt
theorem HX.hB {w : World} {base B : Nat} {xs : List Int} {bad : Bool} (h : HX w base B xs bad) : base ≤ B := by
  obtain ⟨A, c, hk, _⟩ := h
  exact hk.hB
theorem SB.tail' {w : World} {ad : Addr} {c k : Nat} {b : List Int} {A1 : Option Addr} (h : SB w (some ad) c b) (hk0 : 0 < k) (hk : k ≤ b.length) (hA : (if c = k then some ad else some (ad.add k)) = A1) : SB w A1 (c - k) (b.drop k) := by
  refine h.tail hk0 hk ?_
  rw [← hA]
  unfold Addr.add
  rw [if_neg (show ¬ k = 0 by omega)]
theorem be4_bytes (c : Int) : isBytes (be4 c) := by rw [← lowB4]; exact lowB_bytes c 4
theorem slotB_bytes (g : Int) (l : List Int) (hg : 0 ≤ g ∧ g < 18446744073709551616) (hn : ∀ n ∈ l, 0 ≤ n ∧ n < 18446744073709551616) (hl : l.length ≤ 4) : isBytes (slotB g l) := by
  intro x hx
  unfold slotB at hx
  rcases List.mem_append.1 hx with hx | hx
  · exact fs_bytes g l hg hn hl x hx
  · exact be4_bytes _ x hx
theorem slotB_ne (g : Int) (l : List Int) : slotB g l ≠ [] := by
  intro h
  have := congrArg List.length h
  rw [slotB_len] at this
  simp at this
def UnQ (w : World) (b : List Int) (e : Ending) (w' : World) : Prop := ∃ A c, e = .returned (.tuple #[.int .u64 (unP b).1, .slice A (unP b).2.1.length c, .int .i64 (unP b).2.2]) ∧ Kd.R (Kd.int .u64) 52 w' w.heap.size (fun k => w.heap.size ≤ k) (.slice A (unP b).2.1.length c) (unP b).2.1 ∧ Below w.heap.size w w'
set_option maxRecDepth 100000 in
set_option maxHeartbeats 1000000 in
theorem un_main (w : World) (ad : Addr) (c : Nat) (b : List Int) (hl : 2 ≤ b.length) (hl2 : b.length ≤ 1000000) (h : SB w (some ad) c b) (hby : isBytes b) (hm : b.take 2 = [70, 83]) :
    Calls Tryz.prog 102 #[.slice (some ad) b.length c] w (UnQ w b) := by
  have h1 : decide ((b.length : Int) < 2) = false := by simp; omega
  have hcap := h.cap
  obtain ⟨ad0, e, x0⟩ := Kd.at_int h.C (0 : Int) (by omega) (by omega)
  obtain ⟨ad1, e1, x1⟩ := Kd.at_int h.C (1 : Int) (by omega) (by omega)
  cases e
  cases e1
  have hb0 : b[0]? = some 70 := by have := congrArg (·[0]?) hm; simpa [List.getElem?_take] using this
  have hb1 : b[1]? = some 83 := by have := congrArg (·[1]?) hm; simpa [List.getElem?_take] using this
  rw [show rd b 0 = 70 by simp [rd, List.getD, hb0], show ad.add (Int.toNat 0) = ad from rfl] at x0
  rw [show rd b 1 = 83 by simp [rd, List.getD, hb1], show ad.add (Int.toNat 1) = { block := ad.block, off := ad.off + 1 } from rfl] at x1
  have hl0 : 0 < b.length := by omega
  have hl1 : 1 < b.length := by omega
  have hc2 : (2 : Int) ≤ (c : Int) := by omega
  have hl2' : (2 : Int) ≤ (b.length : Int) := by omega
  obtain ⟨A1, hA1⟩ : ∃ A1, (if c = 2 then some ad else some { block := ad.block, off := ad.off + 2 }) = A1 := ⟨_, rfl⟩
  have HG1 := Aside0.mk (⟨HX_new h hl hA1, Chg.refl _ _, hby.drop 2, fun h => (by cases h)⟩ : HS _ _ w.heap.size w.heap.size (b.drop 2) false)
  have HB1 := Aside0.mk (Below.alloc (Below.refl w.heap.size w) (Nat.le_refl _) (.cells #[.slice A1 (b.length - 2) (c - 2), .bool false] 135))
  have H := Aside0.mk h
  have HBY := Aside0.mk hby
  have HM := Aside0.mk hm
  obtain ⟨pg, p4, pn, pl, pb⟩ := slot_parts b hby
  obtain ⟨g, r1, b1, e1⟩ : ∃ g r1 b1, slotG b = (g, r1, b1) := ⟨_, _, _, rfl⟩
  obtain ⟨n, r2, b2, e3⟩ : ∃ n r2 b2, slotC b = (n, r2, b2) := ⟨_, _, _, rfl⟩
  have E1 := Aside0.mk (show rdN (b.drop 2) false 18446744073709551615 = (g, r1, b1) from e1)
  have E2 := Aside0.mk (show rdN r1 b1 4 = (n, r2, b2) from by have := e3; unfold slotC at this; rwa [e1] at this)
  have EL := Aside0.mk (show slotL b = readK n.toNat r2 b2 from by unfold slotL; rw [e3])
  rw [e1] at pg
  rw [e3] at p4
  simp only at pg p4
  obtain ⟨N, rfl⟩ := Int.eq_ofNat_of_zero_le p4.1
  have hN4 : N ≤ 4 := by omega
  rw [Int.toNat_natCast] at EL
  have PG := Aside0.mk pg
  have PN := Aside0.mk pn
  have PL := Aside0.mk pl
  have PB := Aside0.mk pb
  have E0 := Aside0.mk e1
  have HN4 := Aside0.mk hN4
  clear h hm hby hl hcap pg p4 pn pl pb e1 e3 hb0 hb1
  go_enter Tryz.func102, Tryz.ntmps102
  go_wp2_with (first
    | (go_at_call 72; (with_reducible refine (HS.n (by decide) E1.out HG1.out).mono ?_); rintro e w2 ⟨rfl, hg⟩; have HG2 := Aside0.mk hg; clear hg)
    | (go_at_call 72; (with_reducible refine (HS.n (by decide) E2.out HG2.out).mono ?_); rintro e w3 ⟨rfl, hg⟩; have HG3 := Aside0.mk hg; clear hg))
  have HG4 := Aside0.mk (⟨HG3.out.x, Chg.refl _ _, HG3.out.bytes, HG3.out.nb⟩ : HS w3 w3 _ _ _ _)
  have HB3 := Aside0.mk (HB1.out.trans (HG3.out.chg.below HB1.out.size (fun k hk => by subst hk; exact HG3.out.x.hB)))
  have HBL := Aside0.mk HG3.out.x.lt
  go_loopg [8, 9] N (fun kq v8 v9 w' => ∃ (i : Nat), v9 = .int .u64 (i : Int) ∧ Aside0 (i + kq = N) ∧ Aside0 (HS w3 w' w.heap.size w.heap.size (readK i r2 b2).2.1 (readK i r2 b2).2.2) ∧ Aside0 (Kd.R (Kd.int .u64) 52 w' w3.heap.size (fun _ => True) v8 (readK i r2 b2).1))
  case atStart => exact ⟨0, rfl, ⟨by omega⟩, HG4, ⟨Kd.R_nil _ _ _ _ _⟩⟩
  case round =>
    obtain ⟨i, rfl, HI, HGr, HRr⟩ := hrel
    obtain ⟨A3, c3, rfl⟩ := Kd.R_slice HRr.out
    by_cases hk0 : gk = 0
    · subst hk0
      obtain rfl : i = N := by have := HI.out; omega
      have EQ := EL.out
      rw [← EQ] at HGr HRr ⊢
      have HRD := Aside0.mk (slot_read b HBY.out HM.out)
      have HUN := Aside0.mk (show unP b = if slotV b then ((slotG b).1, (slotL b).1, 0) else (0, [], 60) by unfold unP; rw [if_pos HM.out])
      have HVV := Aside0.mk (show slotV b = (!(slotL b).2.2 && (slotB (slotG b).1 (slotL b).1).isPrefixOf b && allZ (b.drop (slotB (slotG b).1 (slotL b).1).length)) from rfl)
      rw [E0.out] at HRD HUN HVV
      simp only at HRD HUN HVV
      obtain ⟨l, hL1⟩ : ∃ l, (slotL b).1 = l := ⟨_, rfl⟩
      obtain ⟨r3, hL2⟩ : ∃ r3, (slotL b).2.1 = r3 := ⟨_, rfl⟩
      obtain ⟨b3, hL3⟩ : ∃ b3, (slotL b).2.2 = b3 := ⟨_, rfl⟩
      rw [hL1] at HRr HRD HUN PN PL HVV ⊢
      rw [hL2] at HGr HRD PB
      rw [hL3] at HGr HRD PB HVV
      clear EQ EL E0 E1 E2 hL1 hL2 hL3
      have HBr := Aside0.mk (HB3.out.trans (HGr.out.chg.below HB3.out.size (fun k hk => by subst hk; exact HGr.out.x.hB)))
      have hz : ¬ ((i : Int) < (i : Int)) := by omega
      obtain ⟨want, hwant⟩ : ∃ want, slotB g l = want := ⟨_, rfl⟩
      have HSL := Aside0.mk (rslot_calls wr g l A3 c3 PG.out PN.out PL.out (Kd.R_reads' HRr.out).2.2)
      rw [hwant] at HSL HVV
      cases b3 with
      | true =>
        have HU := Aside0.mk (show unP b = (0, [], 60) from by rw [HUN.out, HVV.out]; simp)
        go_wp2_with (first
          | (go_at_call 131; (with_reducible refine HSL.out.mono ?_); rintro e w7 ⟨A7, c7, rfl, hr, hb⟩; have HR7 := Aside0.mk hr; have HB7 := Aside0.mk hb; have HW7 := Aside0.mk (HBr.out.trans (hb.mono HBr.out.size)); have HG7 := (HGr.out.x.keep (Chg.of_below hb) (fun _ _ h => h)).badc; clear hr hb))
        go_quiet (fail)
        go_wp2
        go_ret3
        unfold UnQ
        rw [HU.out]
        exact ⟨none, 0, rfl, Kd.R_nil _ _ _ _ _, bel_drewN HW7.out _⟩
      | false =>
        by_cases hwl : b.length < want.length
        · have HU := Aside0.mk (show unP b = (0, [], 60) from by
            have : want.isPrefixOf b = false := by
              rw [← Bool.not_eq_true, List.isPrefixOf_iff_prefix]
              intro hp
              have := hp.length_le
              omega
            rw [HUN.out, HVV.out, this]; simp)
          have hwl1 : decide (b.length < want.length) = true := by simpa using hwl
          have hwl2 : (b.length : Int) < (want.length : Int) := by omega
          clear hwl
          go_wp2_with (first
            | (go_at_call 131; (with_reducible refine HSL.out.mono ?_); rintro e w7 ⟨A7, c7, rfl, hr, hb⟩; have HR7 := Aside0.mk hr; have HB7 := Aside0.mk hb; have HW7 := Aside0.mk (HBr.out.trans (hb.mono HBr.out.size)); have HG7 := (HGr.out.x.keep (Chg.of_below hb) (fun _ _ h => h)).badc; clear hr hb))
          go_quiet (fail)
          go_wp2
          go_ret3
          unfold UnQ
          rw [HU.out]
          exact ⟨none, 0, rfl, Kd.R_nil _ _ _ _ _, bel_drewN HW7.out _⟩
        · have hwl0 : want.length ≤ b.length := by omega
          have HWB := Aside0.mk (show isBytes want from by rw [← hwant]; exact slotB_bytes g l PG.out PN.out PL.out)
          have hwl1 : decide (b.length < want.length) = false := by simpa using hwl0
          have hwl2 : (want.length : Int) ≤ (b.length : Int) := by omega
          have hwc : (want.length : Int) ≤ (c : Int) := by have := H.out.cap; omega
          have HC4 := Aside0.mk (Kd.C_take H.out.C hwl0)
          have hl4 : (b.take want.length).length = want.length := by rw [List.length_take]; omega
          rw [hl4] at HC4
          have HWL := Aside0.mk hwl0
          obtain ⟨b4, hb4⟩ : ∃ b4, b.take want.length = b4 := ⟨_, rfl⟩
          rw [hb4] at HC4
          have HBY4 := Aside0.mk (show isBytes b4 from by rw [← hb4]; exact HBY.out.take _)
          have HWP := Aside0.mk (List.length_pos_iff.2 (slotB_ne g l))
          rw [hwant] at HWP
          have HPF := Aside0.mk (show want.isPrefixOf b = decide (want = b4) from by
            rw [Bool.eq_iff_iff, List.isPrefixOf_iff_prefix, decide_eq_true_eq, ← hb4]
            exact List.prefix_iff_eq_take)
          clear hwl hwl0 hl4 hb4 hwant
          go_wp2_with (first
            | (go_at_call 131; (with_reducible refine HSL.out.mono ?_); rintro e w7 ⟨A7, c7, rfl, hr, hb⟩; have HR7 := Aside0.mk hr; have HB7 := Aside0.mk hb; have HW7 := Aside0.mk (HBr.out.trans (hb.mono HBr.out.size)); have HG7 := (HGr.out.x.keep (Chg.of_below hb) (fun _ _ h => h)).badc; clear hr hb))
          have hC1 := (Kd.R_reads' HR7.out).2.2
          have hcv1 : ∀ k, (convert 58 9 (.slice A7 want.length c7)).run Tryz.prog (w7.drewN k) = .ok (.string (strOfNums want)) (w7.drewN k) := fun k => Kd.C_string Tryz.underlying58 Tryz.underlying5 Tryz.underlying9 (Kd.C_drewN hC1 k)
          have hC2 := Kd.C_below HC4.out HW7.out
          have hcv2 : ∀ k, (convert 58 9 (.slice (some ad) want.length c)).run Tryz.prog (w7.drewN k) = .ok (.string (strOfNums b4)) (w7.drewN k) := fun k => Kd.C_string Tryz.underlying58 Tryz.underlying5 Tryz.underlying9 (Kd.C_drewN hC2 k)
          have hse := str_eq want b4 HWB.out HBY4.out
          obtain ⟨s1, hs1⟩ : ∃ s1, strOfNums want = s1 := ⟨_, rfl⟩
          obtain ⟨s2, hs2⟩ : ∃ s2, strOfNums b4 = s2 := ⟨_, rfl⟩
          rw [hs1] at hcv1 hse
          rw [hs2] at hcv2 hse
          clear hs1 hs2 hC1 hC2
          by_cases hq : want = b4
          · have hse' : (s1.toList == s2.toList) = true := by rw [hse]; simpa using hq
            have HPF2 := Aside0.mk (show want.isPrefixOf b = true from by rw [HPF.out]; simpa using hq)
            obtain ⟨A5, hA5⟩ : ∃ A5, (if c = want.length then some ad else some (ad.add want.length)) = A5 := ⟨_, rfl⟩
            have HT5 := Aside0.mk ((H.out.tail' HWP.out HWL.out hA5).move HW7.out)
            have HUN2 := Aside0.mk (show unP b = if allZ (b.drop want.length) then (g, l, 0) else (0, [], 60) from by rw [HUN.out, HVV.out, HPF2.out]; simp)
            obtain ⟨zs, hzs⟩ : ∃ zs, b.drop want.length = zs := ⟨_, rfl⟩
            have hzl : b.length - want.length = zs.length := by rw [← hzs, len_tail]
            rw [hzs] at HT5 HUN2
            have HZL := Aside0.mk (show zs.length ≤ 1000000 by rw [← hzl]; omega)
            have HZE := Aside0.mk hzl
            clear hse hq hzs
            go_quiet (fail)
            go_wp2
            obtain ⟨wq, hwq⟩ : ∃ wq, w7.drewN nq = wq := ⟨_, rfl⟩
            have HTQ := Aside0.mk (Kd.C_drewN HT5.out.C nq)
            have HWQ := Aside0.mk (bel_drewN HW7.out nq)
            have HRQ := Aside0.mk (Kd.R_below (Kd.R_below HRr.out HB7.out) (drewN_below w7 nq))
            rw [hwq] at HTQ HWQ HRQ ⊢
            clear hwq
            go_loopg [79] zs.length (fun kq v79 w' => ∃ i : Nat, v79 = .int .i64 (i : Int) ∧ Aside0 (i + kq = zs.length) ∧ Aside0 (∀ j y, j < i → zs[j]? = some y → y = 0) ∧ w' = wq)
            case atStart => exact ⟨0, rfl, ⟨by omega⟩, ⟨fun j y h => by omega⟩, rfl⟩
            case round =>
              obtain ⟨i, rfl, HI, HZ, rfl⟩ := hrel
              by_cases hi : i < zs.length
              · obtain ⟨x, hnn⟩ : ∃ x, zs[i]? = some x := ⟨_, List.getElem?_eq_getElem hi⟩
                obtain ⟨a2, e, x0⟩ := Kd.at_int HTQ.out (i : Int) (by omega) (by omega)
                subst e
                rw [show rd zs (i : Int) = x by simp [rd, List.getD, hnn], Int.toNat_natCast] at x0
                have HNN := Aside0.mk hnn
                clear hnn
                by_cases h : x = 0
                · subst h
                  go_wp2
                  have hk1 := HI.out
                  obtain ⟨gq, rfl⟩ : ∃ gq, gk = gq + 1 := ⟨gk - 1, by omega⟩
                  go_roundg gq
                  case rel => exact ⟨i + 1, by go_num, ⟨by omega⟩, ⟨fun j y hj hy => by
                    by_cases hji : j = i
                    · subst hji; rw [HNN.out] at hy; exact (Option.some.inj hy).symm
                    · exact HZ.out j y (by omega) hy⟩, rfl⟩
                  case measure => omega
                · have HU := Aside0.mk (show unP b = (0, [], 60) from by
                    rw [HUN2.out, if_neg]
                    intro hz
                    unfold allZ at hz
                    rw [List.all_eq_true] at hz
                    exact h (by simpa using hz x (List.mem_of_getElem? HNN.out)))
                  have h2 : (x != 0) = true := by simpa using h
                  have h3 : (x == 0) = false := by simpa using h
                  go_wp2
                  go_ret3
                  unfold UnQ
                  rw [HU.out]
                  exact ⟨none, 0, rfl, Kd.R_nil _ _ _ _ _, HWQ.out⟩
              · have hi0 := HI.out
                obtain rfl : gk = 0 := by omega
                obtain rfl : i = zs.length := by omega
                clear hi0
                have hm : ¬ ((zs.length : Int) < (zs.length : Int)) := by omega
                have HU := Aside0.mk (show unP b = (g, l, 0) from by
                  rw [HUN2.out, if_pos]
                  unfold allZ
                  rw [List.all_eq_true]
                  intro x hx
                  obtain ⟨j, hj⟩ := List.mem_iff_getElem?.1 hx
                  simpa using HZ.out j x (List.getElem?_eq_some_iff.1 hj).1 hj)
                go_wp2
                go_ret3
                unfold UnQ
                rw [HU.out]
                exact ⟨A3, c3, rfl, Kd.R_mono (Kd.R_bound (Kd.R_lower HRQ.out HB3.out.size)) (fun k hk => hk.2.1), HWQ.out⟩
          · have hse' : (s1.toList == s2.toList) = false := by rw [hse]; simpa using hq
            have HU := Aside0.mk (show unP b = (0, [], 60) from by rw [HUN.out, HVV.out, HPF.out]; simp [hq])
            clear hse hq
            go_quiet (fail)
            go_wp2
            go_ret3
            unfold UnQ
            rw [HU.out]
            exact ⟨none, 0, rfl, Kd.R_nil _ _ _ _ _, bel_drewN HW7.out _⟩
    obtain ⟨x, rx, bx, hx⟩ : ∃ x rx bx, rdN (readK i r2 b2).2.1 (readK i r2 b2).2.2 18446744073709551615 = (x, rx, bx) := ⟨_, _, _, rfl⟩
    have HXX := Aside0.mk hx
    have HSN := Aside0.mk (show readK (i + 1) r2 b2 = ((readK i r2 b2).1 ++ [x], rx, bx) from by rw [readK_snoc]; show (_ ++ [(rdN _ _ 18446744073709551615).1], (rdN _ _ 18446744073709551615).2) = _; rw [hx])
    clear hx
    have HLN := Aside0.mk (show ((readK i r2 b2).1.length + 1) * 8 ≤ 140737488355328 by rw [readK_len]; have := HI.out; omega)
    generalize readK i r2 b2 = st at *
    obtain ⟨l, xs, bad⟩ := st
    simp only at HXX HSN HLN HGr HRr
    obtain ⟨gq, rfl⟩ : ∃ gq, gk = gq + 1 := ⟨gk - 1, by omega⟩
    clear hk0
    have hpos : (i : Int) < (N : Int) := by have := HI.out; omega
    have hgq : (i : Int) ≤ 4 := by have := HI.out; have := HN4.out; omega
    go_wp2_with (first
      | (go_at_call 72; with_reducible refine (HS.step (by decide) HXX.out HGr.out).mono ?_; rintro e w5 ⟨rfl, hg, hc⟩; have HG5 := Aside0.mk hg; have HR5 := Aside0.mk (R_at_B HRr.out hc HBL.out); clear hg hc)
      | ((with_reducible refine gate_builtin (b := .append) (xs := #[.tmp 42, .tmp 45]) rfl ?_); at_builtin; go_loud (refine Kd.R_append (Kd.int .u64) (W := w5) (w0 := w5) w3.heap.size rfl (.tmp 42) (.tmp 45) 98 52 (.int .u64 0) 8 rfl Tryz.underlying98 info56 rfl (by decide) (by decide) _ l _ [.int .u64 _] (fun _ => True) (fun _ => False) rfl rfl rfl (fun _ h => h.elim) (fun _ _ => trivial) HR5.out (Below.refl _ _) HG5.out.chg.size HLN.out ?_); intro v1 w6 ho hb hg hat; have HG6 := Aside0.mk (HG5.out.grow HBL.out (chg_grown hg fun _ h => h) (fun k hk he => own_not HR5.out k hk he)); have HR6 := Aside0.mk ho; clear ho hb hg hat))
    go_roundg gq
    case rel => exact ⟨i + 1, by go_num, ⟨by have := HI.out; omega⟩, ⟨by rw [HSN.out]; exact HG6.out⟩, ⟨by rw [HSN.out]; exact HR6.out⟩⟩
    case measure => omega
theorem un_calls (w : World) (A : Option Addr) (c : Nat) (b : List Int) (hl2 : b.length ≤ 1000000) (h : SB w A c b) (hby : isBytes b) :
    Calls Tryz.prog 102 #[.slice A b.length c] w (UnQ w b) := by
  have bad : b.take 2 ≠ [70, 83] → ∀ e w', (e = .returned (.tuple #[.int .u64 0, .slice none 0 0, .int .i64 60]) ∧ w = w') → UnQ w b e w' := by
    intro hm e w' h
    obtain ⟨rfl, rfl⟩ := h
    have hu : unP b = (0, [], 60) := by unfold unP; rw [if_neg hm]
    unfold UnQ
    rw [hu]
    exact ⟨none, 0, rfl, Kd.R_nil _ _ _ _ _, Below.refl _ _⟩
  by_cases hl : b.length < 2
  · have hm : b.take 2 ≠ [70, 83] := fun e => by
      have := congrArg List.length e
      rw [List.length_take] at this
      simp at this
      omega
    exact (un_short w A c b hl).mono (bad hm)
  · obtain ⟨x, hx⟩ : ∃ x, b[0]? = some x := ⟨_, List.getElem?_eq_getElem (by omega)⟩
    obtain ⟨y, hy⟩ : ∃ y, b[1]? = some y := ⟨_, List.getElem?_eq_getElem (by omega)⟩
    have ht : b.take 2 = [x, y] := by
      rw [show (2 : Nat) = 1 + 1 from rfl, List.take_add_one, hy, show (1 : Nat) = 0 + 1 from rfl, List.take_add_one, hx]
      rfl
    by_cases h1 : x = 70
    · subst h1
      by_cases h2 : y = 83
      · subst h2
        cases A with
        | none => have := (h.none_ rfl).1; omega
        | some ad => exact un_main w ad c b (by omega) hl2 h hby ht
      · exact (un_second w A c b y (by omega) hx hy h2 h.C).mono (bad (by rw [ht]; simp [h2]))
    · exact (un_first w A c b x (by omega) hx h1 h.C).mono (bad (by rw [ht]; simp [h1]))
end Go.Proofs.YtlepcmljmibdnaaGreat
namespace Go.Proofs.YtlepcmljmibdnaaGreat
open Go.RowKit Go.Proofs.YtlepcmljmibdnaaGreatW.PrintWords Go.Proofs.YtlepcmljmibdnaaGreatW.PrintLast Go.Proofs.YtlepcmljmibdnaaGreatW.PrintMore PWalOpens
set_option linter.unusedVariables false
set_option linter.unusedSimpArgs false
theorem ex_copy {P : Program} {W w1 : World} {o : Oper} {ρ : Operand → Value} {d s : Operand} {t : TypeId} {v : Value} (ho : o.op = .call { callee := .builtin .copy, args := #[d, s], argTypes := #[t, t] }) {vd vs : Value} (hd : ρ d = vd) (hs : ρ s = vs)
    (hrun : (Builtin.copy_ #[t, t] o.type #[vd, vs]).run P W = .ok v w1) : (execOp ρ o).run P W = .ok (.value v) w1 := by
  subst hd; subst hs
  simp [execOp, ho, resolve, invoke, builtin, hrun, Result.andThen]
/-- bytes copied into sixty-four noughts -/
theorem run_copy_sec (W : World) (b : List Int) (hb : b.length ≤ 64) (A : Option Addr) (c : Nat) (ty : TypeId) (hC : (Kd.int .u8).C (W.alloc (.cells (secC zsec) 121)) A b.length b) :
    (Builtin.copy_ #[58, 58] ty #[.slice (some ⟨W.heap.size, 0, none⟩) 64 64, .slice A b.length c]).run Tryz.prog (W.alloc (.cells (secC zsec) 121)) = .ok (goInt b.length) (W.alloc (.cells (secC (pad b)) 121)) := by
  have hR := Kd.reads_of_C (enc := Value.int .u8) (d := (0 : Int)) (h1 := fun _ => rfl) hC
  by_cases h0 : b.length = 0
  · obtain rfl : b = [] := List.eq_nil_of_length_eq_zero h0
    exact run_copy_none (P := Tryz.prog) _ 58 58 ty 5 _ A 64 64 0 c Tryz.underlying58 (by kernel_rfl) rfl
  · obtain ⟨ad, rfl, hc⟩ := hR.2.2 (by omega)
    have hl : (encs (Value.int .u8) b).length = b.length := encs_length _
    have h := run_copy_row (P := Tryz.prog) (W.alloc (.cells (secC zsec) 121)) 58 58 ty 5 W.heap.size 0 64 64 ad b.length c (secC zsec) 121 (encs (Value.int .u8) b) Tryz.underlying58 (by kernel_rfl) (heap_alloc_new W _)
      (by rw [hl]; exact (Nat.min_eq_left hb).symm) (by
        intro j v hj
        have hj' : j < b.length := by have := (List.getElem?_eq_some_iff.1 hj).1; omega
        rw [encs_get (d := 0) b j hj'] at hj
        obtain rfl := Option.some.inj hj
        exact hc j hj') (by rw [hl, sec_size _ (by rfl)]; omega) (by intro v hv; simp only [encs, List.mem_map] at hv; obtain ⟨a, _, rfl⟩ := hv; rfl)
    rw [h, Arr.setRow_alloc, hl]
    have e : ((secC zsec).toList.take 0 ++ encs (Value.int .u8) b ++ (secC zsec).toList.drop (0 + b.length)).toArray = secC (pad b) := by
      unfold secC pad
      rw [Nat.zero_add]
      simp only [List.take_zero, List.nil_append, encs_append]
      rw [show (encs (Value.int .u8) zsec).drop b.length = encs (Value.int .u8) (List.replicate (64 - b.length) 0) by unfold encs zsec; rw [List.map_replicate, List.drop_replicate, List.map_replicate]]
    rw [e]
theorem pad_take (b : List Int) : (pad b).take b.length = b := by
  unfold pad
  rw [List.take_append_of_le_length (Nat.le_refl _), List.take_length]
theorem slotB_64 (g : Int) (l : List Int) (hl : l.length ≤ 4) : (slotB g l).length ≤ 64 := by
  have h1 := encNs_len l
  have h2 := encNs_len [g, (l.length : Int)]
  rw [slotB_len]
  unfold slotF
  simp only [List.length_append, List.length_cons, List.length_nil] at h2 ⊢
  omega
noncomputable def saveP (D : PD) (g : Int) (l : List Int) : PD × Int :=
  if 4 < l.length then (D, 2) else if (flushP D).2 ≠ 0 then flushP D else
    if (writeP (flushP D).1 (g % 2) (slotB g l)).2 ≠ 0 then writeP (flushP D).1 (g % 2) (slotB g l) else flushP (writeP (flushP D).1 (g % 2) (slotB g l)).1
def SvQ (w : World) (B M Bd : Nat) (vc : Value) (D' : PD) (e : Int) (r : Ending) (w' : World) : Prop := r = .returned (.int .i64 e) ∧ ∃ vc', At w (FP B M Bd vc) w' B M Bd vc' D'
section
variable {w : World} {base B M Bd : Nat} {vc : Value} {D D1 D2 D3 : PD} {g : Int} {l : List Int} {A : Option Addr} {c : Nat} {e : Int}
theorem save_long (hl : 4 < l.length) (h : DK w base B M Bd vc D) : Calls Tryz.prog 94 #[.pointer (some ⟨B, 0, none⟩), .int .u64 g, .slice A l.length c] w (SvQ w B M Bd vc D 2) := by
  have HD := Aside0.mk (At.refl h)
  have HS := Aside0.mk (slot_long w g l A c hl)
  clear h hl
  go_enter Tryz.func94, Tryz.ntmps94
  go_wp2_with (first
    | (go_at_call 128; (with_reducible refine HS.out.mono ?_); rintro e w2 ⟨rfl, rfl⟩))
  go_ret
  exact ⟨rfl, vc, HD.out⟩
theorem save_f1 (he : e ≠ 0) (hf : flushP D = (D1, e)) (hg : 0 ≤ g ∧ g < 18446744073709551616) (hn : ∀ n ∈ l, 0 ≤ n ∧ n < 18446744073709551616) (hl : l.length ≤ 4) (hC : (Kd.int .u64).C w A l.length l) (hc : D.cache.length ≤ 1000) (h : DK w base B M Bd vc D) : Calls Tryz.prog 94 #[.pointer (some ⟨B, 0, none⟩), .int .u64 g, .slice A l.length c] w (SvQ w B M Bd vc D1 e) := by
  have HD := Aside0.mk (At.refl h)
  have HS := Aside0.mk (slot_calls w g l A c hg hn hl hC)
  have HC := Aside0.mk hc
  have HF := Aside0.mk hf
  have hb : (e != 0) = true := by simpa using he
  clear h hl hg hn hC hc hf
  go_enter Tryz.func94, Tryz.ntmps94
  go_wp2_with (first
    | (go_at_call 128; (with_reducible refine HS.out.mono ?_); rintro e w2 ⟨A2, c2, rfl, hr, hb⟩; have HR2 := Aside0.mk hr; have HD2 := Aside0.mk (HD.out.grow (.of_below hb)); clear hr hb)
    | (go_at_call 129; (with_reducible refine (at_flush _ HF.out HC.out HD2.out).mono ?_); rintro e w3 ⟨rfl, vc3, hd⟩; have HD3 := Aside0.mk hd; clear hd))
  go_ret
  exact ⟨rfl, vc3, HD3.out⟩
theorem R_past {α : Type} {d : Kd α} {e : Nat} {w0 w w' : World} {v : Value} {xs : List α} {S : Nat → Prop} (h : d.R e w w0.heap.size (fun k => w0.heap.size ≤ k) v xs) (hc : Chg w w' S) (hs : ∀ k, S k → k < w0.heap.size) : d.R e w' w0.heap.size (fun k => w0.heap.size ≤ k) v xs :=
  Kd.R_step h (fun k hk hl => hc.block k hl (fun hf => absurd (hs k hf) (Nat.not_lt.2 hk)))
theorem sec_pad {w w' : World} {B M Bd : Nat} {vc : Value} {D : PD} {b : List Int} (hb : b.length ≤ 64) (h : DK w 0 B M Bd vc D) (hc : Chg (w.alloc (.cells (secC (pad b)) 121)) w' (FP B M Bd vc)) : (Kd.int .u8).C w' (some ⟨w.heap.size, 0, none⟩) b.length b := by
  have hl : (pad b).length = 64 := pad_length b hb
  have h1 : w'.heap[w.heap.size]? = some (.cells (secC (pad b)) 121 (0, 0)) := (hc.block _ (by rw [alloc_size]; exact Nat.lt_succ_self _) (fun hf => Nat.lt_irrefl _ (h.fp _ hf).2)).trans (heap_alloc_new w _)
  have h2 := Kd.C_take (m := b.length) (sec_C w' w.heap.size (pad b) 121 (0, 0) (by omega) h1) (by omega)
  rwa [pad_take] at h2
set_option maxRecDepth 100000 in
theorem save_go (hf : flushP D = (D1, 0)) (hw : writeP D1 (g % 2) (slotB g l) = (D2, 0)) (hf3 : flushP D2 = (D3, e)) (hg : 0 ≤ g ∧ g < 18446744073709551616) (hn : ∀ n ∈ l, 0 ≤ n ∧ n < 18446744073709551616) (hl : l.length ≤ 4) (hC : (Kd.int .u64).C w A l.length l) (hc : D.cache.length ≤ 1000) (hc3 : D1.cache.length ≤ 1000 ∧ D2.cache.length ≤ 1000) (h : DK w base B M Bd vc D) : Calls Tryz.prog 94 #[.pointer (some ⟨B, 0, none⟩), .int .u64 g, .slice A l.length c] w (SvQ w B M Bd vc D3 e) := by
  have HD := Aside0.mk (At.refl h)
  have HFP := Aside0.mk (fun k hk => (h.fp k hk).2)
  have HC3 := Aside0.mk hc3
  have HW := Aside0.mk hw
  have HF3 := Aside0.mk hf3
  have hw64 := slotB_64 g l hl
  obtain ⟨want, hwant⟩ : ∃ want, slotB g l = want := ⟨_, rfl⟩
  have HS := Aside0.mk (slot_calls w g l A c hg hn hl hC)
  rw [hwant] at HS HW hw64
  have HW64 := Aside0.mk hw64
  have hw64i : (want.length : Int) ≤ 64 := by omega
  have HC := Aside0.mk hc
  have HF := Aside0.mk hf
  obtain ⟨hg0, hg1⟩ := hg
  clear h hl hn hC hc hf hc3 hw hf3 hwant hw64
  go_enter Tryz.func94, Tryz.ntmps94
  go_wp2_with (first
    | (go_at_call 128; (with_reducible refine HS.out.mono ?_); rintro e w2 ⟨A2, c2, rfl, hr, hb⟩; have HR2 := Aside0.mk hr; have HD2 := Aside0.mk (HD.out.grow (.of_below hb)); clear hr hb)
    | (go_at_call 129; (with_reducible refine (at_flush _ HF.out HC.out (At.refl HD2.out.dk)).mono ?_); rintro e w3 ⟨rfl, vc3, hd⟩; have HD3 := Aside0.mk (HD2.out.then_ hd); have HR3 := Aside0.mk (R_past HR2.out hd.chg HFP.out); clear hd)
    | ((with_reducible refine gate_builtin (b := .copy) (xs := #[.tmp 28, .tmp 29]) rfl ?_); go_loud (refine Kd.event_run rfl (ex_copy rfl rfl rfl (run_copy_sec w3 want HW64.out A2 c2 3 (Kd.C_below (Kd.R_reads' HR3.out).2.2 (Below.alloc (Below.refl _ _) (Nat.le_refl _) _)))) ?_); simp only [Act.put, List.setIfInBounds_toArray, List.set_cons_succ, List.set_cons_zero]; have HD4 := Aside0.mk (HD3.out.grow (.of_below (Below.alloc (Below.refl _ _) (Nat.le_refl _) (.cells (secC (pad want)) 121)))); have HK4 := Aside0.mk (At.refl HD4.out.dk); have HB4 := Aside0.mk (fun (w' : World) (hc : Chg (w3.alloc (.cells (secC (pad want)) 121)) w' (FP B M Bd vc3)) => sec_pad HW64.out HD3.out.dk hc))
    | (go_at_call 93; go_loud (refine (at_write (g % 2) 0 (some ⟨w3.heap.size, 0, none⟩) 64 want HW.out HC3.out.1 HB4.out HK4.out).mono ?_); rintro e w5 ⟨rfl, vc5, hd⟩; have HD5 := Aside0.mk (HD4.out.then_ hd); clear hd)
    | (go_at_call 129; (with_reducible refine (at_flush _ HF3.out HC3.out.2 HD5.out).mono ?_); rintro e w6 ⟨rfl, vc6, hd⟩; have HD6 := Aside0.mk hd; clear hd))
  go_ret
  exact ⟨rfl, vc6, HD6.out⟩
set_option maxRecDepth 100000 in
theorem save_w (he : e ≠ 0) (hf : flushP D = (D1, 0)) (hw : writeP D1 (g % 2) (slotB g l) = (D2, e)) (hg : 0 ≤ g ∧ g < 18446744073709551616) (hn : ∀ n ∈ l, 0 ≤ n ∧ n < 18446744073709551616) (hl : l.length ≤ 4) (hC : (Kd.int .u64).C w A l.length l) (hc : D.cache.length ≤ 1000) (hc3 : D1.cache.length ≤ 1000 ∧ D2.cache.length ≤ 1000) (h : DK w base B M Bd vc D) : Calls Tryz.prog 94 #[.pointer (some ⟨B, 0, none⟩), .int .u64 g, .slice A l.length c] w (SvQ w B M Bd vc D2 e) := by
  have HD := Aside0.mk (At.refl h)
  have HFP := Aside0.mk (fun k hk => (h.fp k hk).2)
  have HC3 := Aside0.mk hc3
  have HW := Aside0.mk hw
  have hbe : (e != 0) = true := by simpa using he
  have hw64 := slotB_64 g l hl
  obtain ⟨want, hwant⟩ : ∃ want, slotB g l = want := ⟨_, rfl⟩
  have HS := Aside0.mk (slot_calls w g l A c hg hn hl hC)
  rw [hwant] at HS HW hw64
  have HW64 := Aside0.mk hw64
  have hw64i : (want.length : Int) ≤ 64 := by omega
  have HC := Aside0.mk hc
  have HF := Aside0.mk hf
  obtain ⟨hg0, hg1⟩ := hg
  clear h hl hn hC hc hf hc3 hw hwant hw64
  go_enter Tryz.func94, Tryz.ntmps94
  go_wp2_with (first
    | (go_at_call 128; (with_reducible refine HS.out.mono ?_); rintro e w2 ⟨A2, c2, rfl, hr, hb⟩; have HR2 := Aside0.mk hr; have HD2 := Aside0.mk (HD.out.grow (.of_below hb)); clear hr hb)
    | (go_at_call 129; (with_reducible refine (at_flush _ HF.out HC.out (At.refl HD2.out.dk)).mono ?_); rintro e w3 ⟨rfl, vc3, hd⟩; have HD3 := Aside0.mk (HD2.out.then_ hd); have HR3 := Aside0.mk (R_past HR2.out hd.chg HFP.out); clear hd)
    | ((with_reducible refine gate_builtin (b := .copy) (xs := #[.tmp 28, .tmp 29]) rfl ?_); go_loud (refine Kd.event_run rfl (ex_copy rfl rfl rfl (run_copy_sec w3 want HW64.out A2 c2 3 (Kd.C_below (Kd.R_reads' HR3.out).2.2 (Below.alloc (Below.refl _ _) (Nat.le_refl _) _)))) ?_); simp only [Act.put, List.setIfInBounds_toArray, List.set_cons_succ, List.set_cons_zero]; have HD4 := Aside0.mk (HD3.out.grow (.of_below (Below.alloc (Below.refl _ _) (Nat.le_refl _) (.cells (secC (pad want)) 121)))); have HK4 := Aside0.mk (At.refl HD4.out.dk); have HB4 := Aside0.mk (fun (w' : World) (hc : Chg (w3.alloc (.cells (secC (pad want)) 121)) w' (FP B M Bd vc3)) => sec_pad HW64.out HD3.out.dk hc))
    | (go_at_call 93; go_loud (refine (at_write (g % 2) e (some ⟨w3.heap.size, 0, none⟩) 64 want HW.out HC3.out.1 HB4.out HK4.out).mono ?_); rintro e' w5 ⟨rfl, vc5, hd⟩; have HD5 := Aside0.mk (HD4.out.then_ hd); clear hd))
  go_ret
  exact ⟨rfl, vc5, HD5.out⟩
theorem save_calls (hsv : saveP D g l = (D1, e)) (hg : 0 ≤ g ∧ g < 18446744073709551616) (hn : ∀ n ∈ l, 0 ≤ n ∧ n < 18446744073709551616) (hC : (Kd.int .u64).C w A l.length l) (hc : D.cache.length ≤ 900) (h : DK w base B M Bd vc D) :
    Calls Tryz.prog 94 #[.pointer (some ⟨B, 0, none⟩), .int .u64 g, .slice A l.length c] w (SvQ w B M Bd vc D1 e) := by
  unfold saveP at hsv
  split at hsv
  · cases hsv
    exact save_long (by assumption) h
  · rename_i hl
    have q1 := flushP_cache D
    have q2 := writeP_cache (flushP D).1 (g % 2) (slotB g l)
    obtain ⟨Da, ea, hf⟩ : ∃ Da ea, flushP D = (Da, ea) := ⟨_, _, rfl⟩
    rw [hf] at hsv q1 q2
    simp only at hsv q1 q2
    obtain ⟨Db, eb, hw⟩ : ∃ Db eb, writeP Da (g % 2) (slotB g l) = (Db, eb) := ⟨_, _, rfl⟩
    rw [hw] at hsv q2
    simp only at hsv q2
    split at hsv
    · cases hsv
      exact save_f1 (by assumption) hf hg hn (by omega) hC (by omega) h
    · rename_i he
      obtain rfl : ea = 0 := by simpa using he
      split at hsv
      · cases hsv
        exact save_w (by assumption) hf hw hg hn (by omega) hC (by omega) ⟨by omega, by omega⟩ h
      · rename_i he
        obtain rfl : eb = 0 := by simpa using he
        exact save_go hf hw hsv hg hn (by omega) hC (by omega) ⟨by omega, by omega⟩ h
end
end Go.Proofs.YtlepcmljmibdnaaGreat
namespace Go.Proofs.YtlepcmljmibdnaaGreat
open Go.RowKit Go.Proofs.YtlepcmljmibdnaaGreatW.PrintWords Go.Proofs.YtlepcmljmibdnaaGreatW.PrintLast Go.Proofs.YtlepcmljmibdnaaGreatW.PrintMore PDiskArms
set_option linter.unusedVariables false
set_option linter.unusedSimpArgs false
theorem keepAll_more (D : PD) (l : List (Int × List Int)) : (keepAll D l).n = D.n ∧ (keepAll D l).bad = D.bad := by
  induction l generalizing D with
  | nil => exact ⟨rfl, rfl⟩
  | cons x l ih => exact ih (keepP D x)
theorem keepP_at (D : PD) (p : Int × List Int) (i : Int) : ((keepP D p).kept i).getD zsec = if i = p.1 then p.2 else (D.kept i).getD zsec := by
  unfold keepP
  simp only
  by_cases h : i = p.1
  · rw [if_pos h, if_pos h]
    by_cases hz : p.2 = zsec
    · rw [if_pos hz, hz]; rfl
    · rw [if_neg hz]; rfl
  · rw [if_neg h, if_neg h]
theorem sel_same (D : PD) (l : List (Int × List Int)) (ks : List Bool) (k : Nat) : (sel D l ks k).n = D.n ∧ (sel D l ks k).bad = D.bad := by
  induction k with
  | zero => exact ⟨rfl, rfl⟩
  | succ k ih => unfold sel; split <;> exact ih
end Go.Proofs.YtlepcmljmibdnaaGreat
