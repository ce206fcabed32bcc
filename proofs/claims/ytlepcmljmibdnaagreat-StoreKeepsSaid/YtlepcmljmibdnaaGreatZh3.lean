/- Parts of one proof, joined: Nt, Up, Uo, Za, Ze, Zf, Zb, Dkp, Tc, Us. Conditions: those of each statement. -/
import Derived.Test.YtlepcmljmibdnaaGreatZh2
import Derived.Deep.DeepCutAuto
import Derived.Test.YtlepcmljmibdnaaGreatZhFPStoreRecordsx0
import Derived.Test.YtlepcmljmibdnaaGreatZh1
namespace Go.Proofs.YtlepcmljmibdnaaGreat
open Go.RowKit Go.Proofs.YtlepcmljmibdnaaGreatW.PrintWords Go.Proofs.YtlepcmljmibdnaaGreatW.PrintLast Go.Proofs.YtlepcmljmibdnaaGreatW.PrintMore PWalOpens
set_option linter.unusedVariables false
set_option linter.unusedSimpArgs false
theorem nought1_yes (x : Int) (w : World) (h : x ≠ 0) : Calls Tryz.prog 143 #[.int .u8 x] w fun e w' => e = .returned (.bool true) ∧ w = w' := by
  have h1 : (x != 0) = true := by simpa using h
  clear h
  go_enter Tryz.func143, Tryz.ntmps143
  go_wp2
  go_ret
  exact ⟨rfl, rfl⟩
theorem nought1_no (w : World) : Calls Tryz.prog 143 #[.int .u8 0] w fun e w' => e = .returned (.bool false) ∧ w = w' := by
  go_enter Tryz.func143, Tryz.ntmps143
  go_wp2
  go_ret
  exact ⟨rfl, rfl⟩
def allZ (b : List Int) : Bool := b.all (fun x => x == 0)
def idxZ (b : List Int) : Int := if allZ b then -1 else b.findIdx (fun x => x != 0)
theorem idxZ_pos {b : List Int} {i : Nat} {x : Int} (hz : ∀ j y, j < i → b[j]? = some y → y = 0) (hx : b[i]? = some x) (h : x ≠ 0) : idxZ b = i := by
  have hm : x ∈ b := List.mem_of_getElem? hx
  have h0 : allZ b = false := by
    unfold allZ
    rw [List.all_eq_false]
    exact ⟨x, hm, by simpa using h⟩
  unfold idxZ
  rw [h0]
  simp only [Bool.false_eq_true, if_false]
  congr 1
  obtain ⟨hi, hxe⟩ := List.getElem?_eq_some_iff.1 hx
  refine (List.findIdx_eq hi).2 ⟨by rw [hxe]; simpa using h, fun j hj => ?_⟩
  have := hz j _ hj (List.getElem?_eq_getElem (by omega))
  simp [this]
theorem idxZ_neg {b : List Int} (hz : ∀ j y, j < b.length → b[j]? = some y → y = 0) : idxZ b = -1 := by
  unfold idxZ
  rw [if_pos]
  unfold allZ
  rw [List.all_eq_true]
  intro x hx
  obtain ⟨j, hj⟩ := List.mem_iff_getElem?.1 hx
  simpa using hz j x (List.getElem?_eq_some_iff.1 hj).1 hj
theorem idxZ_ge (b : List Int) : -1 ≤ idxZ b ∧ (decide (0 ≤ idxZ b) = !allZ b) := by
  unfold idxZ
  split
  · rename_i h; rw [h]; exact ⟨by omega, by simp⟩
  · rename_i h
    have : allZ b = false := by simpa using h
    rw [this]
    exact ⟨by omega, by simp⟩
theorem idxZ_calls (w : World) (A : Option Addr) (c : Nat) (b : List Int) (hl : b.length ≤ 1000000) (hC : (Kd.int .u8).C w A b.length b) :
    Calls Tryz.prog 157 #[.slice A b.length c, .func (Fn.func 143) #[] #[]] w fun e w' => e = .returned (.int .i64 (idxZ b)) ∧ w = w' := by
  have HC := Aside0.mk hC
  clear hC
  go_enter Tryz.func157, Tryz.ntmps157
  go_wp2
  go_loopg [8] b.length (fun kq v8 w' => ∃ i : Nat, v8 = .int .i64 (i : Int) ∧ Aside0 (i + kq = b.length) ∧ Aside0 (∀ j y, j < i → b[j]? = some y → y = 0) ∧ w' = w)
  case atStart => exact ⟨0, rfl, ⟨by omega⟩, ⟨fun j y h => by omega⟩, rfl⟩
  case round =>
    obtain ⟨i, rfl, HI, HZ, rfl⟩ := hrel
    by_cases hi : i < b.length
    · obtain ⟨x, hnn⟩ : ∃ x, b[i]? = some x := ⟨_, List.getElem?_eq_getElem hi⟩
      obtain ⟨a2, e, x0⟩ := Kd.at_int HC.out (i : Int) (by omega) (by omega)
      subst e
      rw [show rd b (i : Int) = x by simp [rd, List.getD, hnn], Int.toNat_natCast] at x0
      have HNN := Aside0.mk hnn
      clear hnn
      by_cases h : x = 0
      · subst h
        go_wp2_with (go_at_call 143; refine (nought1_no _).mono ?_; rintro e w' ⟨rfl, rfl⟩)
        have hk1 := HI.out
        obtain ⟨gq, rfl⟩ : ∃ gq, gk = gq + 1 := ⟨gk - 1, by omega⟩
        go_roundg gq
        case rel => exact ⟨i + 1, by go_num, ⟨by omega⟩, ⟨fun j y hj hy => by
          by_cases hji : j = i
          · subst hji; rw [HNN.out] at hy; exact (Option.some.inj hy).symm
          · exact HZ.out j y (by omega) hy⟩, rfl⟩
        case measure => omega
      · have HX := Aside0.mk h
        clear h
        go_wp2_with (go_at_call 143; refine (nought1_yes x _ HX.out).mono ?_; rintro e w' ⟨rfl, rfl⟩)
        go_ret
        rw [idxZ_pos HZ.out HNN.out HX.out]
        exact ⟨rfl, rfl⟩
    · have hi0 := HI.out
      obtain rfl : gk = 0 := by omega
      obtain rfl : i = b.length := by omega
      clear hi0
      have hm : ¬ ((b.length : Int) < (b.length : Int)) := by omega
      go_wp2
      go_ret
      rw [idxZ_neg HZ.out]
      exact ⟨rfl, rfl⟩
theorem noughts_calls (w : World) (A : Option Addr) (c : Nat) (b : List Int) (z : Bool) (hz : allZ b = z) (hl : b.length ≤ 1000000) (hC : (Kd.int .u8).C w A b.length b) :
    Calls Tryz.prog 134 #[.slice A b.length c] w fun e w' => e = .returned (.bool z) ∧ w = w' := by
  obtain ⟨r, hr⟩ : ∃ r, idxZ b = r := ⟨_, rfl⟩
  have h1 := idxZ_calls w A c b hl hC
  obtain ⟨h2, h3⟩ := idxZ_ge b
  rw [hr] at h1 h2 h3
  rw [hz] at h3
  have H1 := Aside0.mk h1
  have hc : Calls Tryz.prog 142 #[.slice A b.length c, .func (Fn.func 143) #[] #[]] w fun e w' => e = .returned (.bool (!z)) ∧ w = w' := by
    have H3 := Aside0.mk h3
    clear h1 h3 hr hC hz
    go_enter Tryz.func142, Tryz.ntmps142
    go_wp2_with (go_at_call 157; with_reducible refine H1.out.mono ?_; rintro e w' ⟨rfl, rfl⟩)
    go_ret
    exact ⟨by rw [← H3.out]; rfl, rfl⟩
  have HC := Aside0.mk hc
  clear h1 h3 hr hC hz hc
  go_enter Tryz.func134, Tryz.ntmps134
  go_wp2_with (go_at_call 142; with_reducible refine HC.out.mono ?_; rintro e w' ⟨rfl, rfl⟩)
  go_ret
  cases z <;> exact ⟨rfl, rfl⟩
end Go.Proofs.YtlepcmljmibdnaaGreat
namespace Go.Proofs.YtlepcmljmibdnaaGreat
open Go.RowKit Go.Proofs.YtlepcmljmibdnaaGreatW.PrintWords Go.Proofs.YtlepcmljmibdnaaGreatW.PrintLast Go.Proofs.YtlepcmljmibdnaaGreatW.PrintMore PWalOpens
set_option linter.unusedVariables false
set_option linter.unusedSimpArgs false
def full64 : Int := 18446744073709551615
/-- so many numbers, read -/
def readK : Nat → List Int → Bool → List Int × List Int × Bool
  | 0, xs, bad => ([], xs, bad)
  | k + 1, xs, bad => ((rdN xs bad full64).1 :: (readK k (rdN xs bad full64).2.1 (rdN xs bad full64).2.2).1, (readK k (rdN xs bad full64).2.1 (rdN xs bad full64).2.2).2)
theorem readK_len (k : Nat) : ∀ xs bad, (readK k xs bad).1.length = k := by
  induction k with
  | zero => intro _ _; rfl
  | succ k ih => intro xs bad; simp [readK, ih]
/-- one more at the end -/
theorem readK_snoc (k : Nat) : ∀ (xs : List Int) (bad : Bool), readK (k + 1) xs bad = ((readK k xs bad).1 ++ [(rdN (readK k xs bad).2.1 (readK k xs bad).2.2 full64).1], (rdN (readK k xs bad).2.1 (readK k xs bad).2.2 full64).2) := by
  induction k with
  | zero => intro xs bad; simp [readK]
  | succ k ih =>
    intro xs bad
    have h := ih (rdN xs bad full64).2.1 (rdN xs bad full64).2.2
    rw [show readK (k + 1 + 1) xs bad = ((rdN xs bad full64).1 :: (readK (k + 1) (rdN xs bad full64).2.1 (rdN xs bad full64).2.2).1, (readK (k + 1) (rdN xs bad full64).2.1 (rdN xs bad full64).2.2).2) from rfl, h]
    simp [readK]
theorem rdN_bad (xs : List Int) (mx : Int) : rdN xs true mx = (0, [], true) := by simp [rdN]
theorem rdN_range {xs : List Int} {bad : Bool} {mx : Int} (h : isBytes xs) (hm : 0 ≤ mx) (hm2 : mx ≤ full64) : 0 ≤ (rdN xs bad mx).1 ∧ (rdN xs bad mx).1 ≤ mx := by
  obtain ⟨n, r, b', e⟩ : ∃ n r b', rdN xs bad mx = (n, r, b') := ⟨_, _, _, rfl⟩
  have h1 := (rdN_bytes h e).2.2
  rw [e]
  refine ⟨h1, ?_⟩
  cases bad with
  | true => rw [rdN_bad] at e; cases e; exact hm
  | false =>
    cases b' with
    | false => exact (rdN_canon h e).2.2.1
    | true =>
      unfold rdN at e
      rw [if_neg (by decide)] at e
      cases xs with
      | nil => cases e; exact hm
      | cons b t =>
        simp only at e
        split at e
        · split at e
          · cases e
          · cases e; exact hm
        · split at e
          · cases e; exact hm
          · split at e
            · cases e; exact hm
            · cases e
theorem readK_bytes (k : Nat) : ∀ (xs : List Int) (bad : Bool), isBytes xs → (bad = true → xs = []) → isBytes (readK k xs bad).2.1 ∧ ((readK k xs bad).2.2 = true → (readK k xs bad).2.1 = []) ∧ (∀ n ∈ (readK k xs bad).1, 0 ≤ n ∧ n < 18446744073709551616) := by
  induction k with
  | zero => intro xs bad h hb; exact ⟨h, hb, fun n hn => by cases hn⟩
  | succ k ih =>
    intro xs bad h hb
    have e : rdN xs bad full64 = ((rdN xs bad full64).1, (rdN xs bad full64).2.1, (rdN xs bad full64).2.2) := rfl
    obtain ⟨h1, h2, _⟩ := rdN_bytes h e
    obtain ⟨h3, h4, h5⟩ := ih _ _ h1 h2
    refine ⟨h3, h4, fun n hn => ?_⟩
    rcases List.mem_cons.1 hn with rfl | hn
    · have := rdN_range (bad := bad) h (show (0 : Int) ≤ full64 by decide) (Int.le_refl full64)
      have e2 : full64 = 18446744073709551615 := rfl
      omega
    · exact h5 n hn
theorem readK_bad (k : Nat) : (readK k [] true).2 = ([], true) := by
  induction k with
  | zero => rfl
  | succ k ih => simp [readK, rdN_bad, ih]
theorem readK_canon (k : Nat) : ∀ (xs : List Int), isBytes xs → ∀ l r, readK k xs false = (l, r, false) → xs = encNs l ++ r := by
  induction k with
  | zero => intro xs h l r e; cases e; rfl
  | succ k ih =>
    intro xs h l r e
    obtain ⟨n, r1, b1, e1⟩ : ∃ n r1 b1, rdN xs false full64 = (n, r1, b1) := ⟨_, _, _, rfl⟩
    simp only [readK, e1] at e
    cases b1 with
    | true =>
      have h2 := (rdN_bytes h e1).2.1 rfl
      subst h2
      injection e with _ e
      rw [readK_bad] at e
      cases e
    | false =>
      obtain ⟨h2, _, _, _⟩ := rdN_canon h e1
      obtain ⟨l2, r2, b2, e2⟩ : ∃ l2 r2 b2, readK k r1 false = (l2, r2, b2) := ⟨_, _, _, rfl⟩
      rw [e2] at e
      simp only at e
      injection e with e3 e4
      injection e4 with e4 e5
      subst e4 e5
      have h3 := ih r1 (rdN_bytes h e1).1 l2 r2 e2
      rw [h2, h3, ← e3]
      simp [encNs]
theorem readK_enc (l : List Int) (r : List Int) (h : ∀ n ∈ l, 0 ≤ n ∧ n < 18446744073709551616) : readK l.length (encNs l ++ r) false = (l, r, false) := by
  induction l with
  | nil => rfl
  | cons n l ih =>
    have hn := h n (by simp)
    have e2 : full64 = 18446744073709551615 := rfl
    have h1 := rdN_enc n full64 (encNs l ++ r) hn.1 (by omega) hn.2
    have e : encNs (n :: l) ++ r = encN n ++ (encNs l ++ r) := by simp [encNs]
    rw [List.length_cons, e]
    simp only [readK, h1]
    rw [ih (fun m hm => h m (by simp [hm]))]
/-- what is read of a slot's bytes behind the first two: its number, how many, the numbers, what is left, whether it failed -/
def slotG (b : List Int) : Int × List Int × Bool := rdN (b.drop 2) false full64
def slotC (b : List Int) : Int × List Int × Bool := rdN (slotG b).2.1 (slotG b).2.2 4
def slotL (b : List Int) : List Int × List Int × Bool := readK (slotC b).1.toNat (slotC b).2.1 (slotC b).2.2
/-- does it hold -/
def slotV (b : List Int) : Bool := !(slotL b).2.2 && (slotB (slotG b).1 (slotL b).1).isPrefixOf b && allZ (b.drop (slotB (slotG b).1 (slotL b).1).length)
def unP (b : List Int) : Int × List Int × Int := if b.take 2 = [70, 83] then (if slotV b then ((slotG b).1, (slotL b).1, 0) else (0, [], 60)) else (0, [], 60)
theorem slotB_len (g : Int) (l : List Int) : (slotB g l).length = (slotF g l).length + 4 := by simp [slotB, be4]
theorem slot_parts (b : List Int) (h : isBytes b) : (0 ≤ (slotG b).1 ∧ (slotG b).1 < 18446744073709551616) ∧ (0 ≤ (slotC b).1 ∧ (slotC b).1 ≤ 4) ∧ (∀ n ∈ (slotL b).1, 0 ≤ n ∧ n < 18446744073709551616) ∧ (slotL b).1.length ≤ 4 ∧ ((slotL b).2.2 = true → (slotL b).2.1 = []) := by
  have e2 : full64 = 18446744073709551615 := rfl
  have h0 : isBytes (b.drop 2) := h.drop 2
  have e : rdN (b.drop 2) false full64 = ((slotG b).1, (slotG b).2.1, (slotG b).2.2) := rfl
  obtain ⟨h1, h2, _⟩ := rdN_bytes h0 e
  have h3 := rdN_range (bad := false) h0 (show (0 : Int) ≤ full64 by decide) (Int.le_refl full64)
  have e' : rdN (slotG b).2.1 (slotG b).2.2 4 = ((slotC b).1, (slotC b).2.1, (slotC b).2.2) := rfl
  obtain ⟨h4, h5, _⟩ := rdN_bytes h1 e'
  have h6 := rdN_range (bad := (slotG b).2.2) h1 (show (0 : Int) ≤ 4 by decide) (by omega)
  obtain ⟨h7, h8, h9⟩ := readK_bytes (slotC b).1.toNat _ _ h4 h5
  refine ⟨⟨h3.1, ?_⟩, h6, h9, ?_, h8⟩
  · have := h3.2
    unfold slotG; omega
  · unfold slotL
    rw [readK_len]
    have := h6.2
    unfold slotC at *
    omega
/-- what was read, read well: the bytes up to there are the slot's own -/
theorem slot_read (b : List Int) (h : isBytes b) (hm : b.take 2 = [70, 83]) (hb : (slotL b).2.2 = false) : b = slotF (slotG b).1 (slotL b).1 ++ (slotL b).2.1 ∧ (slotG b).2.2 = false := by
  have h0 : isBytes (b.drop 2) := h.drop 2
  have e : rdN (b.drop 2) false full64 = ((slotG b).1, (slotG b).2.1, (slotG b).2.2) := rfl
  obtain ⟨h1, h2, _⟩ := rdN_bytes h0 e
  have e' : rdN (slotG b).2.1 (slotG b).2.2 4 = ((slotC b).1, (slotC b).2.1, (slotC b).2.2) := rfl
  obtain ⟨h4, h5, _⟩ := rdN_bytes h1 e'
  have hc : (slotC b).2.2 = false := by
    cases hc : (slotC b).2.2 with
    | false => rfl
    | true =>
      have := h5 hc
      unfold slotL at hb
      rw [this, hc, readK_bad] at hb
      cases hb
  have hg : (slotG b).2.2 = false := by
    cases hg : (slotG b).2.2 with
    | false => rfl
    | true =>
      rw [hg, rdN_bad] at e'
      rw [show (slotC b).2.2 = true from (congrArg (fun z => z.2.2) e').symm] at hc
      cases hc
  rw [hg] at e e'
  rw [hc] at e'
  have p1 := (rdN_canon h0 e).1
  have p2 := (rdN_canon h1 e').1
  have e3 : readK (slotC b).1.toNat (slotC b).2.1 false = ((slotL b).1, (slotL b).2.1, false) := by
    have : slotL b = readK (slotC b).1.toNat (slotC b).2.1 (slotC b).2.2 := rfl
    rw [hc] at this
    rw [← this, ← hb]
  have p3 := readK_canon _ _ h4 _ _ e3
  have hl : ((slotL b).1.length : Int) = (slotC b).1 := by
    have : (slotL b).1.length = (slotC b).1.toNat := readK_len _ _ _
    have := (rdN_canon h1 e').2.1
    omega
  refine ⟨?_, hg⟩
  have p0 : b = [70, 83] ++ b.drop 2 := by rw [← hm, List.take_append_drop]
  generalize (slotG b).1 = g at *
  generalize (slotL b).1 = l at *
  generalize (slotL b).2.1 = r at *
  refine p0.trans ?_
  rw [p1, p2, p3]
  unfold slotF
  rw [hl]
  simp [encNs]
theorem slotV_short (b : List Int) (h : isBytes b) (hm : b.take 2 = [70, 83]) (hr : (slotL b).2.1.length < 4) : slotV b = false := by
  unfold slotV
  cases hb : (slotL b).2.2 with
  | true => rfl
  | false =>
    obtain ⟨h1, _⟩ := slot_read b h hm hb
    have h2 : (slotB (slotG b).1 (slotL b).1).isPrefixOf b = false := by
      rw [← Bool.not_eq_true, List.isPrefixOf_iff_prefix]
      intro hp
      have h3 := hp.length_le
      have h4 := congrArg List.length h1
      rw [List.length_append] at h4
      rw [slotB_len] at h3
      omega
    rw [h2]
    rfl
/-- as the program asks -/
theorem slotV_prog (b : List Int) (h : isBytes b) (hm : b.take 2 = [70, 83]) (hr : 4 ≤ (slotL b).2.1.length) :
    slotV b = (decide (slotB (slotG b).1 (slotL b).1 = b.take (b.length - (slotL b).2.1.length + 4)) && allZ (b.drop (b.length - (slotL b).2.1.length + 4))) := by
  unfold slotV
  have hb : (slotL b).2.2 = false := by
    cases hb : (slotL b).2.2 with
    | false => rfl
    | true => rw [(slot_parts b h).2.2.2.2 hb] at hr; simp at hr
  obtain ⟨h1, _⟩ := slot_read b h hm hb
  have h4 := congrArg List.length h1
  rw [List.length_append] at h4
  have hl : b.length - (slotL b).2.1.length + 4 = (slotB (slotG b).1 (slotL b).1).length := by rw [slotB_len]; omega
  rw [hb, hl]
  congr 1
  rw [Bool.eq_iff_iff]
  simp only [Bool.not_false, Bool.true_and, List.isPrefixOf_iff_prefix, decide_eq_true_eq]
  exact List.prefix_iff_eq_take
theorem unP_bytes (b : List Int) (h : isBytes b) {g : Int} {l : List Int} {e : Int} (hu : unP b = (g, l, e)) : (0 ≤ g ∧ g < 18446744073709551616) ∧ l.length ≤ 4 ∧ (∀ n ∈ l, 0 ≤ n ∧ n < 18446744073709551616) ∧ (e = 0 ∨ e = 60) := by
  obtain ⟨h1, _, h3, h4, _⟩ := slot_parts b h
  unfold unP at hu
  split at hu
  · split at hu
    · cases hu; exact ⟨h1, h4, h3, .inl rfl⟩
    · cases hu; exact ⟨by omega, by simp, fun n hn => (by cases hn), .inr rfl⟩
  · cases hu; exact ⟨by omega, by simp, fun n hn => (by cases hn), .inr rfl⟩
/-- a slot's own bytes, and noughts behind them -/
theorem unP_slot (g : Int) (l : List Int) (k : Nat) (hg : 0 ≤ g ∧ g < 18446744073709551616) (hl : l.length ≤ 4) (hn : ∀ n ∈ l, 0 ≤ n ∧ n < 18446744073709551616) : unP (slotB g l ++ List.replicate k 0) = (g, l, 0) := by
  have e2 : full64 = 18446744073709551615 := rfl
  obtain ⟨t, ht⟩ : ∃ t, be4 (crcB (slotF g l)) ++ List.replicate k 0 = t := ⟨_, rfl⟩
  have e : slotB g l ++ List.replicate k 0 = [70, 83] ++ (encN g ++ (encN (l.length : Int) ++ (encNs l ++ t))) := by
    obtain ⟨q, hq⟩ : ∃ q, be4 (crcB (slotF g l)) = q := ⟨_, rfl⟩
    rw [show slotB g l = slotF g l ++ q by rw [← hq]; rfl, ← ht, hq]
    unfold slotF
    simp [encNs]
  have d : (slotB g l ++ List.replicate k 0).drop 2 = encN g ++ (encN (l.length : Int) ++ (encNs l ++ t)) := by rw [e]; rfl
  have hG : slotG (slotB g l ++ List.replicate k 0) = (g, encN (l.length : Int) ++ (encNs l ++ t), false) := by
    unfold slotG; rw [d]; exact rdN_enc g full64 _ hg.1 (by omega) hg.2
  have hC : slotC (slotB g l ++ List.replicate k 0) = ((l.length : Int), encNs l ++ t, false) := by
    unfold slotC; rw [hG]; exact rdN_enc _ 4 _ (by omega) (by omega) (by omega)
  have hL : slotL (slotB g l ++ List.replicate k 0) = (l, t, false) := by
    unfold slotL; rw [hC]; exact readK_enc l t hn
  unfold unP
  rw [if_pos (by rw [e]; rfl), if_pos]
  · rw [hG, hL]
  · unfold slotV
    rw [hG, hL]
    simp [allZ, List.isPrefixOf_iff_prefix]
end Go.Proofs.YtlepcmljmibdnaaGreat
namespace Go.Proofs.YtlepcmljmibdnaaGreat
open Go.RowKit Go.Proofs.YtlepcmljmibdnaaGreatW.PrintWords Go.Proofs.YtlepcmljmibdnaaGreatW.PrintLast Go.Proofs.YtlepcmljmibdnaaGreatW.PrintMore PWalOpens
set_option linter.unusedVariables false
set_option linter.unusedSimpArgs false
/-- a slice of bytes that came in, or was made: what it reads as, and what its words are -/
structure SB (w : World) (A : Option Addr) (c : Nat) (b : List Int) : Prop where
  C : (Kd.int .u8).C w A b.length b
  cap : b.length ≤ c
  c63 : c ≤ 9223372036854775807
  none_ : A = none → b.length = 0 ∧ c = 0
theorem SB.move {w w' : World} {A : Option Addr} {c : Nat} {b : List Int} (h : SB w A c b) (hb : Below w.heap.size w w') : SB w' A c b := ⟨Kd.C_below h.C hb, h.cap, h.c63, h.none_⟩
theorem of_short (w : World) (A : Option Addr) (c : Nat) (b : List Int) (hl : b.length < 2) :
    Calls Tryz.prog 98 #[.slice A b.length c] w fun e w' => e = .returned (.tuple #[.int .u64 0, .slice none 0 0, .int .i64 60]) ∧ w = w' := by
  have h1 : decide ((b.length : Int) < 2) = true := by simp; omega
  go_enter Tryz.func98, Tryz.ntmps98
  go_wp2_with fail
  go_ret3
  exact ⟨rfl, rfl⟩
theorem u8_inj {a b : Int} (ha : 0 ≤ a ∧ a < 256) (hb : 0 ≤ b ∧ b < 256) (h : UInt8.ofNat a.toNat = UInt8.ofNat b.toNat) : a = b := by
  have := congrArg UInt8.toNat h
  simp only [UInt8.toNat_ofNat'] at this
  omega
theorem bytes_inj : ∀ (x y : List Int), isBytes x → isBytes y → (x.map fun n => UInt8.ofNat n.toNat) = (y.map fun n => UInt8.ofNat n.toNat) → x = y := by
  intro x
  induction x with
  | nil => intro y _ _ h; cases y with | nil => rfl | cons b y => simp at h
  | cons a x ih =>
    intro y hx hy h
    cases y with
    | nil => simp at h
    | cons b y =>
      simp only [List.map_cons, List.cons.injEq] at h
      rw [u8_inj (hx a (by simp)) (hy b (by simp)) h.1, ih y (fun n hn => hx n (by simp [hn])) (fun n hn => hy n (by simp [hn])) h.2]
theorem str_list (x : List Int) : (strOfNums x).toList = x.map fun n => UInt8.ofNat n.toNat := by rw [ByteArray.toList_eq]; rfl
theorem str_eq (x y : List Int) (hx : isBytes x) (hy : isBytes y) : ((strOfNums x).toList == (strOfNums y).toList) = decide (x = y) := by
  rw [str_list, str_list, Bool.eq_iff_iff, beq_iff_eq, decide_eq_true_eq]
  exact ⟨bytes_inj x y hx hy, fun h => by rw [h]⟩
theorem fs_isBytes : isBytes [70, 83] := by intro x hx; simp at hx; omega
set_option maxRecDepth 100000 in
theorem of_magic (w : World) (A : Option Addr) (c : Nat) (b : List Int) (hl : 2 ≤ b.length) (h : SB w A c b) (hby : isBytes b) (hm : b.take 2 ≠ [70, 83]) :
    Calls Tryz.prog 98 #[.slice A b.length c] w fun e w' => e = .returned (.tuple #[.int .u64 0, .slice none 0 0, .int .i64 60]) ∧ w = w' := by
  have h1 : decide ((b.length : Int) < 2) = false := by simp; omega
  have hcap := h.cap
  have hC := Kd.C_take h.C hl
  have e2 : (b.take 2).length = 2 := by rw [List.length_take]; omega
  rw [e2] at hC
  have hcv := Kd.C_string (c := c) Tryz.underlying58 Tryz.underlying5 Tryz.underlying9 hC
  have hne : ((strOfNums (b.take 2)).toList == (strOfNums [70, 83]).toList) = false := by
    rw [str_eq _ _ (hby.take 2) fs_isBytes]
    simpa using hm
  rw [show (strOfNums [70, 83]).toList = [70, 83] from str_list _] at hne
  obtain ⟨s, hs⟩ : ∃ s, strOfNums (b.take 2) = s := ⟨_, rfl⟩
  rw [hs] at hcv hne
  have hc2 : (2 : Int) ≤ (c : Int) := by omega
  have hl2 : (2 : Int) ≤ (b.length : Int) := by omega
  clear hC e2 h hm hby hs hl hcap
  go_enter Tryz.func98, Tryz.ntmps98
  go_wp2_with fail
  go_ret3
  exact ⟨rfl, rfl⟩
theorem SB.tail {w : World} {ad : Addr} {c k : Nat} {b : List Int} {A1 : Option Addr} (h : SB w (some ad) c b) (hk0 : 0 < k) (hk : k ≤ b.length) (hA : (if c = k then some ad else some { block := ad.block, off := ad.off + k }) = A1) : SB w A1 (c - k) (b.drop k) := by
  subst hA
  have C2 := Kd.C_drop (m := k) (c := c) h.C hk h.cap
  have hm : k * (Kd.int .u8).sz = k := Nat.mul_one k
  have e : (if c = k then some ad else Option.map (fun x => x.add (k * (Kd.int .u8).sz)) (some ad)) = (if c = k then some ad else some { block := ad.block, off := ad.off + k }) := by
    rw [hm]
    split
    · rfl
    · unfold Addr.add
      rw [Option.map_some, if_neg (by omega)]
  rw [e] at C2
  refine ⟨C2, by have := h.cap; rw [List.length_drop]; omega, by have := h.c63; omega, fun h0 => ?_⟩
  split at h0 <;> cases h0
theorem len_tail (b : List Int) (k : Nat) : (b.drop k).length = b.length - k := List.length_drop
/-- of numbers: from the reader's head on -/
def OfQ (w : World) (b : List Int) (e : Ending) (w' : World) : Prop := ∃ A c, e = .returned (.tuple #[.int .u64 (unP b).1, .slice A (unP b).2.1.length c, .int .i64 (unP b).2.2]) ∧ Kd.R (Kd.int .u64) 52 w' w.heap.size (fun k => w.heap.size ≤ k) (.slice A (unP b).2.1.length c) (unP b).2.1 ∧ Below w.heap.size w w'
theorem equalB_l : ∀ (k : Nat) (l0 l1 : List Int) (i : Nat), l0.length = l1.length → l0.length ≤ 1000000 → l0.length < k + i → i ≤ l0.length → slices_Equal_byte_byte.l0 k l0 l1 (l0.length : Int) (i : Int) = some (decide (l0.drop i = l1.drop i)) := by
  intro k
  induction k with
  | zero => intro l0 l1 i _ _ h h'; omega
  | succ k ih =>
    intro l0 l1 i he hl h h'
    rw [slices_Equal_byte_byte.l0]
    by_cases hi : i < l0.length
    · rw [if_pos (by omega), if_pos (by omega), if_pos (by omega), if_pos (by omega)]
      have h1 : l0[i]? = some l0[i] := List.getElem?_eq_getElem hi
      have h2 : l1[i]? = some (l1[i]'(by omega)) := List.getElem?_eq_getElem (by omega)
      rw [show rd l0 (i : Int) = l0[i] by simp [rd, List.getD, h1], show rd l1 (i : Int) = l1[i]'(by omega) by simp [rd, List.getD, h2]]
      rw [List.drop_eq_getElem_cons hi, List.drop_eq_getElem_cons (show i < l1.length by omega)]
      by_cases hx : l0[i] = l1[i]'(by omega)
      · rw [if_pos hx, show wrap64 ((i : Int) + 1) = ((i + 1 : Nat) : Int) by unfold wrap64; omega, ih l0 l1 (i + 1) he hl (by omega) (by omega)]
        rw [Option.some.injEq, decide_eq_decide, List.cons.injEq]
        exact ⟨fun h => ⟨hx, h⟩, fun h => h.2⟩
      · rw [if_neg hx, Option.some.injEq, eq_comm, decide_eq_false_iff_not, List.cons.injEq]
        exact fun h => hx h.1
    · rw [if_neg (by omega), List.drop_of_length_le (by omega), List.drop_of_length_le (by omega)]
      simp
theorem equalB_f (l0 l1 : List Int) (he : l0.length = l1.length) (hl : l0.length ≤ 1000000) : slices_Equal_byte_byte.f (l0.length + 1) l0 l1 = some (decide (l0 = l1)) := by
  unfold slices_Equal_byte_byte.f
  rw [if_pos (by omega)]
  have := equalB_l (l0.length + 1) l0 l1 0 he hl (by omega) (by omega)
  simpa using this
theorem ofEq (w : World) (A0 : Option Addr) (c0 : Nat) (l0 l1 : List Int) (r : Bool) (A1 : Option Addr) (c1 n : Nat) (h0 : l0.length = n) (h1 : l1.length = n) {w0 : World} {ok : Nat → Prop} (hr0 : Kd.R (Kd.int .u8) 5 w w0.heap.size ok (.slice A0 n c0) l0) (hr1 : (Kd.int .u8).C w A1 n l1) (hc1 : n ≤ c1) (h : slices_Equal_byte_byte.f (l0.length + 1) l0 l1 = some r) :
    Calls Tryz.prog 133 #[.slice A0 n c0, .slice A1 n c1] w fun e w' => e = .returned (.bool r) ∧ Drawn0 w w' := by
  obtain ⟨e1, e2, e3⟩ := Kd.R_reads' hr0
  subst h0
  have := slices_Equal_byte_byte.calls (l0.length + 1) A0 c0 l0 A1 c1 l1 r w e3 e2 (by rw [h1]; exact hr1) (by omega) h
  rwa [h1] at this
theorem ofZ (w : World) (A : Option Addr) (c : Nat) (b : List Int) (n : Nat) (z : Bool) (hz : allZ b = z) (hn : b.length = n) (hl : b.length ≤ 1000000) (h : SB w A c b) :
    Calls Tryz.prog 134 #[.slice A n c] w fun e w' => e = .returned (.bool z) ∧ w = w' := by
  subst hn
  exact noughts_calls w A c b z hz hl h.C
theorem bel_drewN {b : Nat} {w w' : World} (h : Below b w w') (n : Nat) : Below b w (w'.drewN n) := ⟨h.os, h.tape, h.output, h.size, h.block⟩
theorem drewN_below (w : World) (n : Nat) : Below w.heap.size w (w.drewN n) := ⟨rfl, rfl, rfl, Nat.le_refl _, fun _ _ => rfl⟩
theorem info56 : (Tryz.prog.info? 52).map (fun i => (i.zero, i.size, i.bytes)) = some (some (.int .u64 0), (Kd.int .u64).sz, 8) := by kernel_rfl
theorem GX.hB {w : World} {base B : Nat} {xs : List Int} {bad : Bool} (h : GX w base B xs bad) : base ≤ B := by
  obtain ⟨A, c, hk, _⟩ := h
  exact hk.hB
theorem R_at_B {α : Type} {d : Kd α} {e b1 B : Nat} {w w' : World} {v : Value} {xs : List α} (h : d.R e w b1 (fun _ => True) v xs) (hc : Chg w w' (fun k => k = B)) (hB : B < b1) : d.R e w' b1 (fun _ => True) v xs :=
  Kd.R_mono (Kd.R_step (Kd.R_bound h) (fun k hk hl => hc.block k hl (fun e => by have := hk.2.1; omega))) (fun _ _ => trivial)
theorem own_not {α : Type} {d : Kd α} {e b1 : Nat} {w : World} {v : Value} {xs : List α} (h : d.R e w b1 (fun _ => True) v xs) (k : Nat) (hk : k < b1) (he : some k = v.ownBlock) : False := by
  obtain ⟨inner, ho⟩ := Kd.R_own h
  have := own_base ho k he.symm
  omega
set_option maxRecDepth 100000 in
theorem of_main (w : World) (ad : Addr) (c : Nat) (b : List Int) (hl : 2 ≤ b.length) (hl2 : b.length ≤ 1000000) (h : SB w (some ad) c b) (hby : isBytes b) (hm : b.take 2 = [70, 83]) :
    Calls Tryz.prog 98 #[.slice (some ad) b.length c] w (OfQ w b) := by
  have h1 : decide ((b.length : Int) < 2) = false := by simp; omega
  have hcap := h.cap
  have hC := Kd.C_take h.C hl
  have e2 : (b.take 2).length = 2 := by rw [List.length_take]; omega
  rw [e2, hm] at hC
  have hcv := Kd.C_string (c := c) Tryz.underlying58 Tryz.underlying5 Tryz.underlying9 hC
  rw [show strOfNums [70, 83] = ⟨#[70, 83]⟩ from rfl] at hcv
  have hc2 : (2 : Int) ≤ (c : Int) := by omega
  have hl2 : (2 : Int) ≤ (b.length : Int) := by omega
  obtain ⟨A1, hA1⟩ : ∃ A1, (if c = 2 then some ad else some { block := ad.block, off := ad.off + 2 }) = A1 := ⟨_, rfl⟩
  have hT := h.tail (by decide) hl hA1
  have hR := gread_calls w A1 (c - 2) (b.drop 2) (by rw [len_tail]; omega) hT.none_ hT.C
  rw [len_tail] at hR
  have HR := Aside0.mk hR
  have H := Aside0.mk h
  have HBY := Aside0.mk hby
  have HM := Aside0.mk hm
  obtain ⟨pg, p4, pn, pl, pb⟩ := slot_parts b hby
  obtain ⟨g, r1, b1, e1⟩ : ∃ g r1 b1, slotG b = (g, r1, b1) := ⟨_, _, _, rfl⟩
  obtain ⟨n, r2, b2, e3⟩ : ∃ n r2 b2, slotC b = (n, r2, b2) := ⟨_, _, _, rfl⟩
  have E1 := Aside0.mk (show rdN (b.drop 2) false 18446744073709551615 = (g, r1, b1) from e1)
  have E2 := Aside0.mk (show rdN r1 b1 4 = (n, r2, b2) from by have := e3; unfold slotC at this; rwa [e1] at this)
  have EL := Aside0.mk (show slotL b = readK n.toNat r2 b2 from by unfold slotL; rw [e3])
  rw [e1] at pg
  rw [e3] at p4
  simp only at pg p4
  obtain ⟨N, rfl⟩ := Int.eq_ofNat_of_zero_le p4.1
  have hN4 : N ≤ 4 := by omega
  rw [Int.toNat_natCast] at EL
  have PG := Aside0.mk pg
  have PN := Aside0.mk pn
  have PL := Aside0.mk pl
  have PB := Aside0.mk pb
  have E0 := Aside0.mk e1
  clear hC e2 h hm hby hl hcap hT hR pg p4 pn pl pb e1 e3
  go_enter Tryz.func98, Tryz.ntmps98
  go_wp2_with (first
    | (go_at_call 66; with_reducible refine HR.out.mono ?_; rintro e w1 ⟨B, rfl, hg, hb⟩; have HG1 := Aside0.mk (GS.refl hg (HBY.out.drop 2) (fun h => by cases h)); have HB1 := Aside0.mk hb; clear hg hb)
    | (go_at_call 68; with_reducible refine (GS.n (by decide) E1.out HG1.out).mono ?_; rintro e w2 ⟨rfl, hg⟩; have HG2 := Aside0.mk hg; clear hg)
    | (go_at_call 68; with_reducible refine (GS.n (by decide) E2.out HG2.out).mono ?_; rintro e w3 ⟨rfl, hg⟩; have HG3 := Aside0.mk hg; clear hg))
  have HG4 := Aside0.mk (GS.refl HG3.out.x HG3.out.bytes HG3.out.nb)
  have HB3 := Aside0.mk (HB1.out.trans (HG3.out.chg.below HB1.out.size (fun k hk => by subst hk; exact HG3.out.x.hB)))
  have HBL := Aside0.mk HG3.out.x.lt
  go_loopg [3, 6] N (fun kq v3 v6 w' => ∃ (i : Nat), v6 = .int .u64 (kq : Int) ∧ Aside0 (i + kq = N) ∧ Aside0 (GS w3 w' w.heap.size B (readK i r2 b2).2.1 (readK i r2 b2).2.2) ∧ Aside0 (Kd.R (Kd.int .u64) 52 w' w3.heap.size (fun _ => True) v3 (readK i r2 b2).1))
  case atStart => exact ⟨0, rfl, ⟨by omega⟩, HG4, ⟨Kd.R_nil _ _ _ _ _⟩⟩
  case round =>
    obtain ⟨i, rfl, HI, HGr, HRr⟩ := hrel
    obtain ⟨A3, c3, rfl⟩ := Kd.R_slice HRr.out
    by_cases hk0 : gk = 0
    · subst hk0
      obtain rfl : i = N := by have := HI.out; omega
      have EQ := EL.out
      rw [← EQ] at HGr HRr ⊢
      have HV := Aside0.mk (slotV_short b HBY.out HM.out)
      have HVP := Aside0.mk (slotV_prog b HBY.out HM.out)
      have HRD := Aside0.mk (slot_read b HBY.out HM.out)
      have HUN := Aside0.mk (show unP b = if slotV b then ((slotG b).1, (slotL b).1, 0) else (0, [], 60) by unfold unP; rw [if_pos HM.out])
      rw [E0.out] at HVP HRD HUN
      simp only at HVP HRD HUN
      obtain ⟨l, hL1⟩ : ∃ l, (slotL b).1 = l := ⟨_, rfl⟩
      obtain ⟨r3, hL2⟩ : ∃ r3, (slotL b).2.1 = r3 := ⟨_, rfl⟩
      obtain ⟨b3, hL3⟩ : ∃ b3, (slotL b).2.2 = b3 := ⟨_, rfl⟩
      rw [hL1] at HRr HVP HRD HUN PN PL ⊢
      rw [hL2] at HGr HV HVP HRD PB
      rw [hL3] at HGr HRD PB
      clear EQ EL E0 E1 E2 hL1 hL2 hL3
      have HBr := Aside0.mk (HB3.out.trans (HGr.out.chg.below HB3.out.size (fun k hk => by subst hk; exact HGr.out.x.hB)))
      have hz : ¬ ((0 : Int) < ((0 : Nat) : Int)) := by omega
      by_cases hr4 : r3.length < 4
      · have HU := Aside0.mk (show unP b = (0, [], 60) from by rw [HUN.out, HV.out hr4]; rfl)
        have hr4' : (r3.length : Int) < 4 := by omega
        clear hr4
        go_wp2_with (go_at_call 113; with_reducible refine (GS.left r3.length rfl HGr.out).mono ?_; rintro e w' ⟨rfl, rfl⟩)
        go_ret3
        unfold OfQ
        rw [HU.out]
        exact ⟨none, 0, rfl, Kd.R_nil _ _ _ _ _, HBr.out⟩
      · have hr4' : ¬ ((r3.length : Int) < 4) := by omega
        have hb3 : b3 = false := by
          cases b3 with
          | false => rfl
          | true => rw [PB.out rfl] at hr4; simp at hr4
        obtain ⟨hbs, _⟩ := HRD.out hb3
        have hbl := congrArg List.length hbs
        rw [List.length_append] at hbl
        obtain ⟨sz, hsz⟩ : ∃ sz : Nat, b.length - r3.length = sz := ⟨_, rfl⟩
        have hvp := HVP.out (by omega)
        rw [hsz] at hvp
        have hsI : (b.length : Int) - (r3.length : Int) = (sz : Int) := by omega
        have hszc : (sz : Int) + 4 ≤ (c : Int) := by have := H.out.cap; omega
        have hszb : (sz : Int) + 4 ≤ (b.length : Int) := by omega
        have hlb6 : (b.drop (sz + 4)).length ≤ 1000000 := by rw [List.length_drop]; omega
        have hwl : (slotB g l).length = sz + 4 := by rw [slotB_len]; omega
        have hC4 := Kd.C_take H.out.C (m := sz + 4) (by omega)
        have hl4 : (b.take (sz + 4)).length = sz + 4 := by rw [List.length_take]; omega
        obtain ⟨want, hwant⟩ : ∃ want, slotB g l = want := ⟨_, rfl⟩
        obtain ⟨b4, hb4⟩ : ∃ b4, b.take (sz + 4) = b4 := ⟨_, rfl⟩
        rw [hwant] at hwl hvp
        rw [hb4] at hvp hC4 hl4
        have HEQ := Aside0.mk (equalB_f want b4 (by omega) (by omega))
        have HSL := Aside0.mk (slot_calls wr g l A3 c3 PG.out PN.out PL.out (Kd.R_reads' HRr.out).2.2)
        rw [hwant, hwl] at HSL
        rw [hl4] at hC4
        have HC4 := Aside0.mk hC4
        have HWL := Aside0.mk hwl
        have HL4 := Aside0.mk hl4
        obtain ⟨A5, hA5⟩ : ∃ A5, (if c = sz + 4 then some ad else some { block := ad.block, off := ad.off + (sz + 4) }) = A5 := ⟨_, rfl⟩
        have HT5 := Aside0.mk (H.out.tail (by omega) (by omega) hA5)
        clear hbs hbl hr4 hb3 hsz hwant hb4 hC4 hwl hl4
        have HLB := Aside0.mk hlb6
        by_cases hq : want = b4
        · have HEQ2 := Aside0.mk (show slices_Equal_byte_byte.f (want.length + 1) want b4 = some true from by rw [HEQ.out]; simp [hq])
          by_cases hzz : allZ (b.drop (sz + 4)) = true
          · have HU := Aside0.mk (show unP b = (g, l, 0) from by rw [HUN.out, hvp, hzz]; simp [hq])
            have HZ := Aside0.mk hzz
            clear hq hvp hzz hlb6
            go_wp2_with (first
              | (go_at_call 113; with_reducible refine (GS.left r3.length rfl HGr.out).mono ?_; rintro e w' ⟨rfl, rfl⟩) | (go_at_call 128; with_reducible refine HSL.out.mono ?_; rintro e w7 ⟨A7, c7, rfl, hr, hb⟩; have HR7 := Aside0.mk hr; have HB7 := Aside0.mk hb; have HW7 := Aside0.mk (HBr.out.trans (hb.mono HBr.out.size)); clear hr hb)
              | (go_at_call 133; go_loud (refine (ofEq w7 A7 c7 want b4 true (some ad) c (sz + 4) HWL.out HL4.out HR7.out (Kd.C_below HC4.out HW7.out) (by omega) HEQ2.out).mono ?_); rintro e w8 ⟨rfl, hd⟩; obtain ⟨nd, rfl⟩ := hd.out)
              | (go_at_call 134; go_loud (refine (ofZ (w7.drewN nd) A5 (c - (sz + 4)) (b.drop (sz + 4)) (b.length - (sz + 4)) true HZ.out (len_tail _ _) HLB.out (HT5.out.move (bel_drewN HW7.out nd))).mono ?_); rintro e w8 ⟨rfl, rfl⟩))
            go_ret3
            unfold OfQ
            rw [HU.out]
            exact ⟨A3, c3, rfl, Kd.R_mono (Kd.R_bound (Kd.R_lower (Kd.R_below (Kd.R_below HRr.out HB7.out) (drewN_below w7 nd)) HB3.out.size)) (fun k hk => hk.2.1), bel_drewN HW7.out nd⟩
          · have hzf : allZ (b.drop (sz + 4)) = false := by simpa using hzz
            have HU := Aside0.mk (show unP b = (0, [], 60) from by rw [HUN.out, hvp, hzf]; simp)
            have HZ := Aside0.mk hzf
            clear hq hvp hzz hlb6 hzf
            go_wp2_with (first
              | (go_at_call 113; with_reducible refine (GS.left r3.length rfl HGr.out).mono ?_; rintro e w' ⟨rfl, rfl⟩) | (go_at_call 128; with_reducible refine HSL.out.mono ?_; rintro e w7 ⟨A7, c7, rfl, hr, hb⟩; have HR7 := Aside0.mk hr; have HB7 := Aside0.mk hb; have HW7 := Aside0.mk (HBr.out.trans (hb.mono HBr.out.size)); clear hr hb)
              | (go_at_call 133; go_loud (refine (ofEq w7 A7 c7 want b4 true (some ad) c (sz + 4) HWL.out HL4.out HR7.out (Kd.C_below HC4.out HW7.out) (by omega) HEQ2.out).mono ?_); rintro e w8 ⟨rfl, hd⟩; obtain ⟨nd, rfl⟩ := hd.out)
              | (go_at_call 134; go_loud (refine (ofZ (w7.drewN nd) A5 (c - (sz + 4)) (b.drop (sz + 4)) (b.length - (sz + 4)) false HZ.out (len_tail _ _) HLB.out (HT5.out.move (bel_drewN HW7.out nd))).mono ?_); rintro e w8 ⟨rfl, rfl⟩))
            go_ret3
            unfold OfQ
            rw [HU.out]
            exact ⟨none, 0, rfl, Kd.R_nil _ _ _ _ _, bel_drewN HW7.out nd⟩
        · have HEQ2 := Aside0.mk (show slices_Equal_byte_byte.f (want.length + 1) want b4 = some false from by rw [HEQ.out]; simp [hq])
          have HU := Aside0.mk (show unP b = (0, [], 60) from by rw [HUN.out, hvp]; simp [hq])
          clear hq hvp hlb6
          go_wp2_with (first
            | (go_at_call 113; with_reducible refine (GS.left r3.length rfl HGr.out).mono ?_; rintro e w' ⟨rfl, rfl⟩) | (go_at_call 128; with_reducible refine HSL.out.mono ?_; rintro e w7 ⟨A7, c7, rfl, hr, hb⟩; have HR7 := Aside0.mk hr; have HB7 := Aside0.mk hb; have HW7 := Aside0.mk (HBr.out.trans (hb.mono HBr.out.size)); clear hr hb)
            | (go_at_call 133; go_loud (refine (ofEq w7 A7 c7 want b4 false (some ad) c (sz + 4) HWL.out HL4.out HR7.out (Kd.C_below HC4.out HW7.out) (by omega) HEQ2.out).mono ?_); rintro e w8 ⟨rfl, hd⟩; obtain ⟨nd, rfl⟩ := hd.out))
          go_ret3
          unfold OfQ
          rw [HU.out]
          exact ⟨none, 0, rfl, Kd.R_nil _ _ _ _ _, bel_drewN HW7.out nd⟩
    obtain ⟨x, rx, bx, hx⟩ : ∃ x rx bx, rdN (readK i r2 b2).2.1 (readK i r2 b2).2.2 18446744073709551615 = (x, rx, bx) := ⟨_, _, _, rfl⟩
    have HX := Aside0.mk hx
    have HSN := Aside0.mk (show readK (i + 1) r2 b2 = ((readK i r2 b2).1 ++ [x], rx, bx) from by rw [readK_snoc]; show (_ ++ [(rdN _ _ 18446744073709551615).1], (rdN _ _ 18446744073709551615).2) = _; rw [hx])
    clear hx
    have HLN := Aside0.mk (show ((readK i r2 b2).1.length + 1) * 8 ≤ 140737488355328 by rw [readK_len]; have := HI.out; omega)
    generalize readK i r2 b2 = st at *
    obtain ⟨l, xs, bad⟩ := st
    simp only at HX HSN HLN HGr HRr
    obtain ⟨gq, rfl⟩ : ∃ gq, gk = gq + 1 := ⟨gk - 1, by omega⟩
    clear hk0
    have hpos : (0 : Int) < ((gq + 1 : Nat) : Int) := by omega
    have hgq : ((gq + 1 : Nat) : Int) ≤ 4 := by have := HI.out; omega
    go_wp2_with (first
      | (go_at_call 68; with_reducible refine (GS.step (by decide) HX.out HGr.out).mono ?_; rintro e w5 ⟨rfl, hg, hc⟩; have HG5 := Aside0.mk hg; have HR5 := Aside0.mk (R_at_B HRr.out hc HBL.out); clear hg hc)
      | ((with_reducible refine gate_builtin (b := .append) (xs := #[.tmp 30, .tmp 33]) rfl ?_); at_builtin; go_loud (refine Kd.R_append (Kd.int .u64) (W := w5) (w0 := w5) w3.heap.size rfl (.tmp 30) (.tmp 33) 98 52 (.int .u64 0) 8 rfl Tryz.underlying98 info56 rfl (by decide) (by decide) _ l _ [.int .u64 _] (fun _ => True) (fun _ => False) rfl rfl rfl (fun _ h => h.elim) (fun _ _ => trivial) HR5.out (Below.refl _ _) HG5.out.chg.size HLN.out ?_); intro v1 w6 ho hb hg hat; have HG6 := Aside0.mk (HG5.out.grow HBL.out (chg_grown hg fun _ h => h) (fun k hk he => own_not HR5.out k hk he)); have HR6 := Aside0.mk ho; clear ho hb hg hat))
    go_roundg gq
    case rel => exact ⟨i + 1, by go_num, ⟨by have := HI.out; omega⟩, ⟨by rw [HSN.out]; exact HG6.out⟩, ⟨by rw [HSN.out]; exact HR6.out⟩⟩
    case measure => omega
theorem of_calls (w : World) (A : Option Addr) (c : Nat) (b : List Int) (hl2 : b.length ≤ 1000000) (h : SB w A c b) (hby : isBytes b) :
    Calls Tryz.prog 98 #[.slice A b.length c] w (OfQ w b) := by
  have bad : b.take 2 ≠ [70, 83] → ∀ e w', (e = .returned (.tuple #[.int .u64 0, .slice none 0 0, .int .i64 60]) ∧ w = w') → OfQ w b e w' := by
    intro hm e w' h
    obtain ⟨rfl, rfl⟩ := h
    have hu : unP b = (0, [], 60) := by unfold unP; rw [if_neg hm]
    unfold OfQ
    rw [hu]
    exact ⟨none, 0, rfl, Kd.R_nil _ _ _ _ _, Below.refl _ _⟩
  by_cases hl : b.length < 2
  · have hm : b.take 2 ≠ [70, 83] := fun e => by
      have := congrArg List.length e
      rw [List.length_take] at this
      simp at this
      omega
    exact (of_short w A c b hl).mono (bad hm)
  · by_cases hm : b.take 2 = [70, 83]
    · cases A with
      | none => have := (h.none_ rfl).1; omega
      | some ad => exact of_main w ad c b (by omega) hl2 h hby hm
    · exact (of_magic w A c b (by omega) h hby hm).mono (bad hm)
end Go.Proofs.YtlepcmljmibdnaaGreat
namespace Go.Proofs.YtlepcmljmibdnaaGreat
open Go.RowKit Go.Proofs.YtlepcmljmibdnaaGreatW.PrintWords Go.Proofs.YtlepcmljmibdnaaGreatW.PrintLast Go.Proofs.YtlepcmljmibdnaaGreatW.PrintMore PWalOpens
set_option linter.unusedVariables false
set_option linter.unusedSimpArgs false
def flagB (is : Bool) : List Int := [if is then 1 else 0]
def textB (b : List Int) : List Int := encN (b.length : Int) ++ b
theorem encNs_one (n : Int) : encNs [n] = encN n := by simp [encNs]
section
variable {w : World} {base B : Nat} {v : Value} {xs : List Int}
theorem wN_one (n : Int) (hn : 0 ≤ n ∧ n < 18446744073709551616) (hl : xs.length ≤ 800000) (h : WK w base B v xs) :
    Calls Tryz.prog 76 #[.pointer (some ⟨B, 0, none⟩), .slice (some ⟨w.heap.size, 0, none⟩) 1 1] (w.alloc (.cells #[.int .u64 n] 52)) fun e w' => e = .returned (.tuple #[]) ∧ ∃ v', WT w w' base B v v' (xs ++ encN n) := by
  have hb1 := Below.alloc (Below.refl w.heap.size w) (Nat.le_refl _) (.cells #[.int .u64 n] 52)
  have hS : ¬ FW B v w.heap.size := fun hk => absurd (h.fp_lt _ hk).2 (Nat.lt_irrefl _)
  refine (wN_calls (w.alloc (.cells (encs (Value.int .u64) [n]).toArray 52)) base B v xs [n] (some ⟨w.heap.size, 0, none⟩) 1 (by simp; exact hn) (by simp; omega) (h.fresh hb1) (fun w' hc => lit_Cu w [n] _ (by simp) hS w' hc)).mono ?_
  rintro e w' ⟨rfl, v', ht⟩
  rw [encNs_one] at ht
  exact ⟨rfl, v', (⟨h.fresh hb1, .of_below hb1, fun _ _ h => h⟩ : WT w _ base B v v xs).trans ht⟩
theorem wFlag_calls (is : Bool) (hl : xs.length ≤ 800000) (h : WK w base B v xs) :
    Calls Tryz.prog 75 #[.pointer (some ⟨B, 0, none⟩), .bool is] w fun e w' => e = .returned (.tuple #[]) ∧ ∃ v', WT w w' base B v v' (xs ++ flagB is) := by
  cases is with
  | false =>
    have HN := Aside0.mk (wN_one 0 (by omega) hl h)
    clear h hl
    go_enter Tryz.func75, Tryz.ntmps75
    go_wp2_with (go_at_call 76; (with_reducible refine HN.out.mono ?_); rintro e w' ⟨rfl, v', ht⟩; have HT := Aside0.mk ht; clear ht)
    go_end0
    exact ⟨rfl, v', HT.out⟩
  | true =>
    have HN := Aside0.mk (wN_one 1 (by omega) hl h)
    clear h hl
    go_enter Tryz.func75, Tryz.ntmps75
    go_wp2_with (go_at_call 76; (with_reducible refine HN.out.mono ?_); rintro e w' ⟨rfl, v', ht⟩; have HT := Aside0.mk ht; clear ht)
    ((try simp only [Exit.inBlock, Exit.then]); refine bodyPost_ret (results_none rfl _ _ _) rfl ?_)
    exact ⟨rfl, v', HT.out⟩
theorem wB_calls (b : List Int) (A : Option Addr) (c : Nat) (hl : xs.length ≤ 700000 ∧ b.length ≤ 90000) (h : WK w base B v xs) (hC : ∀ w', Chg w w' (FW B v) → (Kd.int .u8).C w' A b.length b) :
    Calls Tryz.prog 77 #[.pointer (some ⟨B, 0, none⟩), .slice A b.length c] w fun e w' => e = .returned (.tuple #[]) ∧ ∃ v', WT w w' base B v v' (xs ++ textB b) := by
  have HN := Aside0.mk (wN_one (b.length : Int) (by omega) (by omega) h)
  have HC := Aside0.mk hC
  have hen := encN_len (b.length : Int)
  have HL := Aside0.mk (show ((xs ++ encN (b.length : Int)).length + b.length) * 1 ≤ 140737488355328 by rw [List.length_append]; omega)
  obtain ⟨m, hm⟩ : ∃ m, b.length = m := ⟨_, rfl⟩
  have hm1 : (m : Int) ≤ 90000 := by omega
  have HM := Aside0.mk hm
  rw [hm] at HN HL ⊢
  clear h hl hC hen hm
  go_enter Tryz.func77, Tryz.ntmps77
  go_wp2_with (first
    | (go_at_call 76; (with_reducible refine HN.out.mono ?_); rintro e w2 ⟨rfl, v2, ht⟩; have HT := Aside0.mk ht; obtain ⟨q0, f0⟩ := cells1 ht.k.blk; clear ht)
    | ((with_reducible refine gate_builtin (b := .append) (xs := #[.tmp 16, .tmp 17]) rfl ?_); at_builtin; go_loud (refine Kd.R_append_rows (Kd.int .u8) (W := w2) (w0 := w2) base rfl (.tmp 16) (.tmp 17) 58 5 (.int .u8 0) 1 rfl Tryz.underlying58 info5w rfl (by decide) (by decide) v2 (xs ++ encN (m : Int)) b A m c (fun _ => True) (fun _ => False) rfl rfl HT.out.k.R (by have := HC.out w2 HT.out.chg; rw [HM.out] at this; exact this) (fun _ _ h => h) (fun _ h => h.elim) (fun _ _ => trivial) (Below.refl _ _) HT.out.k.base_le HL.out ?_); intro v1 w4 ho hb hg hat; have hput := HT.out.k.put (chg_grown hg fun _ h => h) ho hat; obtain ⟨r0, g0⟩ := cells1 ((hg.block B HT.out.k.lt HT.out.k.ne).trans HT.out.k.blk); obtain ⟨A1, n1, c1, rfl⟩ := R_slice3 ho; have HPUT := Aside0.mk hput; clear hput ho hb hg hat))
  go_end0
  refine ⟨rfl, .slice A1 n1 c1, ?_⟩
  have h1 := HT.out.trans HPUT.out
  unfold textB
  rw [HM.out, ← List.append_assoc]
  exact h1
end
end Go.Proofs.YtlepcmljmibdnaaGreat
namespace Go.Proofs.YtlepcmljmibdnaaGreat
open Go.RowKit Go.Proofs.YtlepcmljmibdnaaGreatW.PrintWords Go.Proofs.YtlepcmljmibdnaaGreatW.PrintLast Go.Proofs.YtlepcmljmibdnaaGreatW.PrintMore PWalOpens
attribute [local go_sem] max2_int min2_int max_two min_two max_three min_three max_four min_four   -- for this text's walks alone
set_option linter.unusedVariables false
set_option linter.unusedSimpArgs false
/-- what B answers: the bytes, what is left, whether it has failed -/
def rdB (xs : List Int) (bad : Bool) (mx : Int) : List Int × List Int × Bool :=
  if (rdN xs bad mx).2.2 = true ∨ ((rdN xs bad mx).2.1.length : Int) < (rdN xs bad mx).1 then ([], [], true) else ((rdN xs bad mx).2.1.take (rdN xs bad mx).1.toNat, (rdN xs bad mx).2.1.drop (rdN xs bad mx).1.toNat, false)
theorem rdN_zero {xs r : List Int} {bad : Bool} {mx n : Int} (e : rdN xs bad mx = (n, r, true)) : n = 0 ∧ r = [] := by
  unfold rdN at e
  split at e
  · cases e; exact ⟨rfl, rfl⟩
  · cases xs with
    | nil => cases e; exact ⟨rfl, rfl⟩
    | cons b t =>
      simp only at e
      split at e
      · split at e
        · cases e
        · cases e; exact ⟨rfl, rfl⟩
      · split at e
        · cases e; exact ⟨rfl, rfl⟩
        · split at e
          · cases e; exact ⟨rfl, rfl⟩
          · cases e
theorem rdN_le (xs : List Int) (bad : Bool) (mx : Int) : (rdN xs bad mx).2.1.length ≤ xs.length := by
  unfold rdN
  split
  · simp
  · cases xs with
    | nil => simp
    | cons b t =>
      simp only
      split
      · split <;> simp
      · split
        · simp
        · split
          · simp
          · simp only [List.length_drop, List.length_cons]
            omega
section
variable {w w' : World} {base B : Nat} {xs r : List Int} {bad b' : Bool} {n mx : Int}
theorem gFlag_any (hby : isBytes xs) (e : rdN xs bad 1 = (n, r, b')) (h : GX w base B xs bad) :
    Calls Tryz.prog 67 #[.pointer (some ⟨B, 0, none⟩)] w fun e w' => e = .returned (.bool (n == 1)) ∧ GX w' base B r b' ∧ Chg w w' (fun k => k = B) := by
  have HN := Aside0.mk (gN_any w base B 1 n xs r bad b' (by decide) hby e h)
  clear h e hby
  go_enter Tryz.func67, Tryz.ntmps67
  go_wp2_with (go_at_call 68; (with_reducible refine HN.out.mono ?_); rintro e w' ⟨rfl, hg, hc⟩; have HG := Aside0.mk hg; have HC := Aside0.mk hc; clear hg hc)
  go_ret
  exact ⟨rfl, HG.out, HC.out⟩
theorem gEnd_any (v : Int) (hv : (if bad = true ∨ 0 < xs.length then 20 else 0) = v) (h : GX w base B xs bad) :
    Calls Tryz.prog 70 #[.pointer (some ⟨B, 0, none⟩)] w fun e w' => e = .returned (.int .i64 v) ∧ w = w' := by
  obtain ⟨A, c, hk, _⟩ := h
  obtain ⟨q0, q1, f0, f1⟩ := cells2 hk.blk
  have HK := Aside0.mk hk
  clear hk
  cases bad with
  | true =>
    obtain rfl : v = 20 := by simpa using hv.symm
    clear hv
    go_enter Tryz.func70, Tryz.ntmps70
    go_wp2_with (go_at_call 112; with_reducible refine (gok_calls w base B A c xs true false rfl HK.out).mono ?_; rintro e w' ⟨rfl, rfl⟩)
    go_ret
    exact ⟨rfl, rfl⟩
  | false =>
    by_cases hl : 0 < xs.length
    · obtain rfl : v = 20 := by rw [if_pos (.inr hl)] at hv; exact hv.symm
      have b1 : decide ((0 : Int) < (xs.length : Int)) = true := decide_eq_true (by omega)
      clear hv
      go_enter Tryz.func70, Tryz.ntmps70
      go_wp2_with (go_at_call 112; with_reducible refine (gok_calls w base B A c xs false true rfl HK.out).mono ?_; rintro e w' ⟨rfl, rfl⟩)
      go_ret
      exact ⟨rfl, rfl⟩
    · have hx : xs = [] := List.eq_nil_of_length_eq_zero (by omega)
      subst hx
      obtain rfl : v = 0 := by simpa using hv.symm
      clear hl hv
      go_enter Tryz.func70, Tryz.ntmps70
      go_wp2_with (go_at_call 112; with_reducible refine (gok_calls w base B A c [] false true rfl HK.out).mono ?_; rintro e w' ⟨rfl, rfl⟩)
      go_ret
      exact ⟨rfl, rfl⟩
theorem gtake_nil (c : Nat) (hc : c ≤ 9223372036854775807) (h : GK w base B none c [] false) :
    Calls Tryz.prog 114 #[.pointer (some ⟨B, 0, none⟩), .int .i64 0] w fun e w' => e = .returned (.slice none 0 0) ∧ GX w' base B [] false ∧ Chg w w' (fun k => k = B) := by
  have HG := Aside0.mk h
  have HC := Aside0.mk hc
  obtain ⟨q0, q1, f0, f1⟩ := cells2 h.blk
  clear h hc
  cases c with
  | zero =>
    go_enter Tryz.func114, Tryz.ntmps114
    go_wp2_with (first
      | (go_at_call 112; with_reducible refine (gok_calls w base B none 0 [] false true rfl HG.out).mono ?_; rintro e w' ⟨rfl, rfl⟩))
    go_ret
    have ho := (Only.refl w B).set (i := 0) (.slice none 0 0)
    exact ⟨rfl, ⟨none, 0, ⟨set7 HG.out.blk 0 (.slice none 0 0), Kd.C_nil _ _, Nat.le_refl _, fun ad h => (by cases h), HG.out.hB⟩, by omega, fun _ => rfl, fun ad e => by cases e⟩, ho.chg fun _ h => h⟩
  | succ c =>
    go_enter Tryz.func114, Tryz.ntmps114
    go_wp2_with (first
      | (go_at_call 112; with_reducible refine (gok_calls w base B none (c + 1) [] false true rfl HG.out).mono ?_; rintro e w' ⟨rfl, rfl⟩))
    go_ret
    have ho := (Only.refl w B).set (i := 0) (.slice none 0 (c + 1))
    exact ⟨rfl, ⟨none, c + 1, ⟨set7 HG.out.blk 0 (.slice none 0 (c + 1)), Kd.C_nil _ _, Nat.zero_le _, fun ad h => (by cases h), HG.out.hB⟩, HC.out, fun _ => rfl, fun ad e => by cases e⟩, ho.chg fun _ h => h⟩
theorem gx_left (n : Nat) (hn : (if bad then 0 else xs.length) = n) (h : GX w base B xs bad) :
    Calls Tryz.prog 113 #[.pointer (some ⟨B, 0, none⟩)] w fun e w' => e = .returned (.int .i64 n) ∧ w = w' := by
  obtain ⟨A, c, hk, _⟩ := h
  exact gleft_calls w base B A c xs bad n hn hk
theorem gx_take_no (k : Nat) (kI : Int) (hkI : (k : Int) = kI) (hk : bad = true ∨ xs.length < k) (h : GX w base B xs bad) :
    Calls Tryz.prog 114 #[.pointer (some ⟨B, 0, none⟩), .int .i64 kI] w fun e w' => e = .returned (.slice none 0 0) ∧ GX w' base B [] true ∧ Chg w w' (fun k => k = B) := by
  subst hkI
  obtain ⟨A, c, h, _⟩ := h
  refine (gtake_bad w base B A c xs bad k hk h).mono ?_
  rintro e w' ⟨rfl, h1, h2⟩
  exact ⟨rfl, .of_bad h1, h2⟩
theorem gx_take_ok (k : Nat) (kI : Int) (hkI : (k : Int) = kI) (hk : k ≤ xs.length) (h : GX w base B xs false) :
    Calls Tryz.prog 114 #[.pointer (some ⟨B, 0, none⟩), .int .i64 kI] w fun e w' => ∃ A c, e = .returned (.slice A k c) ∧ (A = none → k = 0 ∧ c = 0) ∧ GX w' base B (xs.drop k) false ∧ (Kd.int .u8).C w' A k (xs.take k) ∧ Chg w w' (fun k => k = B) := by
  subst hkI
  obtain ⟨A, c, h, hc, hA, hs⟩ := h
  cases A with
  | none =>
    obtain rfl := hA rfl
    have hk0 : k = 0 := by simpa using hk
    subst hk0
    refine (gtake_nil c hc h).mono ?_
    rintro e w' ⟨rfl, h1, h2⟩
    exact ⟨none, 0, rfl, fun _ => ⟨rfl, rfl⟩, h1, Kd.C_nil _ _, h2⟩
  | some ad =>
    refine (gtake_good w base B ad c xs k hk hc (hs ad rfl) h).mono ?_
    rintro e w' ⟨rfl, h1, h2, h3⟩
    exact ⟨some ad, k, rfl, (fun h => by cases h), h1, h2, h3⟩
theorem clone_len (b : List Int) (A : Option Addr) (n c : Nat) (hb : b.length = n) (hl : n ≤ 1000000) (hn : A = none → n = 0 ∧ c = 0) (hC : (Kd.int .u8).C w A n b) :
    Calls Tryz.prog 86 #[.slice A n c] w fun e w' => ∃ A' c', e = .returned (.slice A' n c') ∧ Kd.R (Kd.int .u8) 5 w' w.heap.size (fun k => w.heap.size ≤ k) (.slice A' n c') b ∧ Below w.heap.size w w' := by
  subst hb
  exact clone_any w A c b hl hn hC
/-- what the bytes are cloned to -/
def GBQ (w : World) (base B : Nat) (out r : List Int) (bad : Bool) (e : Ending) (w' : World) : Prop :=
  ∃ A c, e = .returned (.slice A out.length c) ∧ Kd.R (Kd.int .u8) 5 w' w.heap.size (fun k => w.heap.size ≤ k) (.slice A out.length c) out ∧ GX w' base B r bad ∧ Chg w w' (fun k => k = B)
theorem gB_any (hm : 0 ≤ mx ∧ mx ≤ 90000) (hby : isBytes xs) (hl : xs.length ≤ 900000) {out r2 : List Int} {b2 : Bool} (e : rdB xs bad mx = (out, r2, b2)) (h : GX w base B xs bad) :
    Calls Tryz.prog 69 #[.pointer (some ⟨B, 0, none⟩), .int .i64 mx] w (GBQ w base B out r2 b2) := by
  obtain ⟨n, r, b', hn⟩ : ∃ n r b', rdN xs bad mx = (n, r, b') := ⟨_, _, _, rfl⟩
  have hB := h.lt
  have HN := Aside0.mk (gN_any w base B mx n xs r bad b' hm.1 hby hn h)
  obtain ⟨hrb, hrn, hn0⟩ := rdN_bytes hby hn
  have hrange := rdN_range (bad := bad) hby hm.1 (by unfold full64; omega : mx ≤ full64)
  rw [hn] at hrange
  simp only at hrange
  unfold rdB at e
  rw [hn] at e
  simp only at e
  have hmin : min n 9223372036854775807 = n := by omega
  have hmx0 : decide (mx < 0) = false := decide_eq_false (by omega)
  cases b' with
  | true =>
    obtain ⟨rfl, rfl⟩ := rdN_zero hn
    rw [if_pos (.inl rfl)] at e
    cases e
    clear h hby hl hn hrb hrn hn0 hrange
    go_enter Tryz.func69, Tryz.ntmps69
    go_wp2_with (first
      | (go_at_call 68; (with_reducible refine HN.out.mono ?_); rintro e w1 ⟨rfl, hg, hc⟩; have HG := Aside0.mk hg; have HC := Aside0.mk hc; clear hg hc)
      | (go_at_call 113; (with_reducible refine (gx_left 0 rfl HG.out).mono ?_); rintro e w2 ⟨rfl, rfl⟩)
      | (go_at_call 114; (with_reducible refine (gx_take_no 0 0 rfl (.inl rfl) HG.out).mono ?_); rintro e w3 ⟨rfl, hg, hc⟩; have HG3 := Aside0.mk hg; have HC3 := Aside0.mk (HC.out.trans hc); clear hg hc)
      | (go_at_call 86; (with_reducible refine (clone_len [] none 0 0 rfl (by decide) (fun _ => ⟨rfl, rfl⟩) (Kd.C_nil _ _)).mono ?_); rintro e w4 ⟨A4, c4, rfl, hr, hb⟩; have HR4 := Aside0.mk hr; have HB4 := Aside0.mk hb; clear hr hb))
    go_ret
    exact ⟨A4, c4, rfl, Kd.R_mono (Kd.R_lower HR4.out HC3.out.size) (fun k hk => Nat.le_trans HC3.out.size hk), HG3.out.keep (S := fun _ => False) (.of_below HB4.out) (fun _ _ h => h), HC3.out.trans (.of_below HB4.out)⟩
  | false =>
    by_cases hlt : (r.length : Int) < n
    · rw [if_pos (.inr hlt)] at e
      cases e
      have b1 : decide ((r.length : Int) < n) = true := decide_eq_true hlt
      obtain ⟨m, rfl⟩ := Int.eq_ofNat_of_zero_le hn0
      have hm2 : (m : Int) ≤ 90000 := by omega
      have HLT := Aside0.mk (show r.length < m by omega)
      have hr90 : (r.length : Int) ≤ 90000 := by omega
      obtain ⟨p, hp⟩ : ∃ p, r.length = p := ⟨_, rfl⟩
      have HP := Aside0.mk (show (if false = true then 0 else r.length) = p from hp)
      rw [hp] at b1 hr90 hlt
      clear h hby hl hn hrb hrn hn0 hrange hp
      go_enter Tryz.func69, Tryz.ntmps69
      go_wp2_with (first
        | (go_at_call 68; (with_reducible refine HN.out.mono ?_); rintro e w1 ⟨rfl, hg, hc⟩; have HG := Aside0.mk hg; have HC := Aside0.mk hc; clear hg hc)
        | (go_at_call 113; (with_reducible refine (gx_left p HP.out HG.out).mono ?_); rintro e w2 ⟨rfl, rfl⟩)
        | (go_at_call 110; (with_reducible refine (gx_fail _ _ _ _ _ HG.out).mono ?_); rintro e w2 ⟨rfl, hg, hc⟩; have HG2 := Aside0.mk hg; have HC2 := Aside0.mk (HC.out.trans hc); clear hg hc)
        | (go_at_call 114; (with_reducible refine (gx_take_no m (m : Int) rfl (.inl rfl) HG2.out).mono ?_); rintro e w3 ⟨rfl, hg, hc⟩; have HG3 := Aside0.mk hg; have HC3 := Aside0.mk (HC2.out.trans hc); clear hg hc)
        | (go_at_call 86; (with_reducible refine (clone_len [] none 0 0 rfl (by decide) (fun _ => ⟨rfl, rfl⟩) (Kd.C_nil _ _)).mono ?_); rintro e w4 ⟨A4, c4, rfl, hr, hb⟩; have HR4 := Aside0.mk hr; have HB4 := Aside0.mk hb; clear hr hb))
      go_ret
      exact ⟨A4, c4, rfl, Kd.R_mono (Kd.R_lower HR4.out HC3.out.size) (fun k hk => Nat.le_trans HC3.out.size hk), HG3.out.keep (S := fun _ => False) (.of_below HB4.out) (fun _ _ h => h), HC3.out.trans (.of_below HB4.out)⟩
    · rw [if_neg (fun h => h.elim (fun h => by cases h) hlt)] at e
      cases e
      obtain ⟨m, rfl⟩ := Int.eq_ofNat_of_zero_le hn0
      rw [Int.toNat_natCast]
      have hm2 : (m : Int) ≤ 90000 := by omega
      have b1 : decide ((r.length : Int) < (m : Int)) = false := decide_eq_false hlt
      have HLE := Aside0.mk (show m ≤ r.length by omega)
      obtain ⟨p, hp⟩ : ∃ p, r.length = p := ⟨_, rfl⟩
      have hrl : (p : Int) ≤ 1000000 := by
        have h9 := rdN_le xs bad mx
        rw [hn] at h9
        simp only at h9
        omega
      have HP := Aside0.mk (show (if false = true then 0 else r.length) = p from hp)
      have HTL := Aside0.mk (show (r.take m).length = m by rw [List.length_take]; omega)
      have HM6 := Aside0.mk (show m ≤ 1000000 by omega)
      rw [hp] at b1 hlt
      clear h hby hl hn hrb hrn hn0 hrange hp
      go_enter Tryz.func69, Tryz.ntmps69
      go_wp2_with (first
        | (go_at_call 68; (with_reducible refine HN.out.mono ?_); rintro e w1 ⟨rfl, hg, hc⟩; have HG := Aside0.mk hg; have HC := Aside0.mk hc; clear hg hc)
        | (go_at_call 113; (with_reducible refine (gx_left p HP.out HG.out).mono ?_); rintro e w2 ⟨rfl, rfl⟩)
        | (go_at_call 114; (with_reducible refine (gx_take_ok m (m : Int) rfl HLE.out HG.out).mono ?_); rintro e w3 ⟨A3, c3, rfl, hn, hg, hC, hc⟩; have HN3 := Aside0.mk hn; have HG3 := Aside0.mk hg; have HCC := Aside0.mk hC; have HC3 := Aside0.mk (HC.out.trans hc); clear hn hg hC hc)
        | (go_at_call 86; (with_reducible refine (clone_len (r.take m) A3 m c3 HTL.out HM6.out HN3.out HCC.out).mono ?_); rintro e w4 ⟨A4, c4, rfl, hr, hb⟩; have HR4 := Aside0.mk hr; have HB4 := Aside0.mk hb; clear hr hb))
      go_ret
      refine ⟨A4, c4, by rw [HTL.out]; rfl, ?_, HG3.out.keep (S := fun _ => False) (.of_below HB4.out) (fun _ _ h => h), HC3.out.trans (.of_below HB4.out)⟩
      rw [HTL.out]
      exact Kd.R_mono (Kd.R_lower HR4.out HC3.out.size) (fun k hk => Nat.le_trans HC3.out.size hk)
end
end Go.Proofs.YtlepcmljmibdnaaGreat
namespace Go.Proofs.YtlepcmljmibdnaaGreat
open Go.RowKit Go.Proofs.YtlepcmljmibdnaaGreatW.PrintWords Go.Proofs.YtlepcmljmibdnaaGreatW.PrintLast Go.Proofs.YtlepcmljmibdnaaGreatW.PrintMore PWalOpens
set_option linter.unusedVariables false
set_option linter.unusedSimpArgs false
section
variable {w w' : World} {base B : Nat} {xs r : List Int} {bad b' : Bool} {n mx : Int}
def HBQ (w : World) (base B : Nat) (out r : List Int) (bad : Bool) (e : Ending) (w' : World) : Prop :=
  ∃ v', e = .returned v' ∧ Kd.R (Kd.int .u8) 5 w' w.heap.size (fun _ => True) v' out ∧ HX w' base B r bad ∧ Chg w w' (fun k => k = B)
end
end Go.Proofs.YtlepcmljmibdnaaGreat
namespace Go.Proofs.YtlepcmljmibdnaaGreat
open Go.RowKit Go.Proofs.YtlepcmljmibdnaaGreatW.PrintWords Go.Proofs.YtlepcmljmibdnaaGreatW.PrintLast Go.Proofs.YtlepcmljmibdnaaGreatW.PrintMore PWalOpens
open PStoreRecords (S66 k66 rd_T66 at_T66 z66)
set_option linter.unusedVariables false
set_option linter.unusedSimpArgs false
def putB (p : S66) : List Int := textB (bytesOf p.f0) ++ (flagB p.f2 ++ textB (if p.f2 then [] else p.f1))
def recH (all : Bool) (l : List S66) (i : Nat) : List Int := flagB all ++ encN (l.length : Int) ++ (l.take i).flatMap putB
def recB (all : Bool) (l : List S66) : List Int := recH all l l.length
theorem recH_succ (all : Bool) (l : List S66) (i : Nat) (x : S66) (hx : l[i]? = some x) : recH all l (i + 1) = recH all l i ++ putB x := by
  unfold recH
  rw [List.take_add_one, hx, List.flatMap_append]
  simp
theorem recH_len (all : Bool) (l : List S66) (i : Nat) : (recH all l i).length ≤ (recB all l).length := by
  unfold recB recH
  have h : l.flatMap putB = (l.take i).flatMap putB ++ (l.drop i).flatMap putB := by rw [← List.flatMap_append, List.take_append_drop]
  simp only [List.length_append, List.take_length]
  rw [h, List.length_append]
  omega
theorem rd_getT (l : List S66) (i : Nat) (hi : i < l.length) : l[i]? = some (rd_T66 l (i : Int)) := by
  simp [rd_T66, hi]
theorem bytes_C {w w' : World} {s : ByteArray} (hs : s.size ≤ 1000000) {S : Nat → Prop} (hS : ¬ S w.heap.size) (hc : Chg (Lib.bytesWorld w 5 s) w' S) : (Kd.int .u8).C w' (some ⟨w.heap.size, 0, none⟩) (bytesOf s).length (bytesOf s) := by
  have hb := bytes_reads w 5 s (by omega)
  have h := hc.block w.heap.size (by rw [Lib.bytesWorld_size]; omega) hS
  rw [bytesOf_length]
  refine Kd.C_of_reads (d := (0 : Int)) (h1 := fun _ => rfl) (enc := Value.int .u8) ⟨bytesOf_length s, by omega, fun hp => ?_⟩
  obtain ⟨ad, e, hcell⟩ := hb.2.2 hp
  obtain rfl := Option.some.inj e
  refine ⟨_, rfl, fun j hj => ?_⟩
  rw [← hcell j hj]
  have e : (⟨w.heap.size, 0, none⟩ : Addr).add j = ⟨w.heap.size, j, none⟩ := by unfold Addr.add; split <;> simp_all
  rw [e]
  unfold World.cell?
  rw [h]
theorem bytes_below1 (w : World) (s : ByteArray) : Below w.heap.size w (Lib.bytesWorld w 5 s) := bytes_below (Below.refl _ _) (Nat.le_refl _) 5 s
/-- a put's own box -/
theorem box3 {w w2 : World} {a0 a1 a2 : Value} {S : Nat → Prop} (hc : Chg (w.alloc (.cells #[a0, a1, a2] 66)) w2 S) (hS : ¬ S w.heap.size) : w2.cell? ⟨w.heap.size, 0, none⟩ = some a0 ∧ w2.cell? ⟨w.heap.size, 1, none⟩ = some a1 ∧ w2.cell? ⟨w.heap.size, 2, none⟩ = some a2 := by
  have h := (hc.block w.heap.size (by rw [alloc_size]; omega) hS).trans (heap_alloc_new w _)
  refine ⟨?_, ?_, ?_⟩ <;> (unfold World.cell?; rw [h]; rfl)
section
variable {w w1 : World} {base B : Nat} {v v1 : Value} {xs ys : List Int}
theorem wB_next (b : List Int) (A : Option Addr) (n c : Nat) (hn : b.length = n) (hl : ys.length ≤ 700000 ∧ n ≤ 90000) (h : WT w w1 base B v v1 ys) (hC : ∀ w', Chg w1 w' (FW B v1) → (Kd.int .u8).C w' A n b) :
    Calls Tryz.prog 77 #[.pointer (some ⟨B, 0, none⟩), .slice A n c] w1 fun e w' => e = .returned (.tuple #[]) ∧ ∃ v', WT w w' base B v v' (ys ++ textB b) := by
  subst hn
  refine (wB_calls b A c hl h.k hC).mono ?_
  rintro e w' ⟨rfl, v', ht⟩
  exact ⟨rfl, v', h.trans ht⟩
theorem wFlag_next (is : Bool) (hl : ys.length ≤ 800000) (h : WT w w1 base B v v1 ys) :
    Calls Tryz.prog 75 #[.pointer (some ⟨B, 0, none⟩), .bool is] w1 fun e w' => e = .returned (.tuple #[]) ∧ ∃ v', WT w w' base B v v' (ys ++ flagB is) := by
  refine (wFlag_calls is hl h.k).mono ?_
  rintro e w' ⟨rfl, v', ht⟩
  exact ⟨rfl, v', h.trans ht⟩
theorem WT.fresh (h : WT w w1 base B v v1 ys) {w2 : World} (hb : Below w1.heap.size w1 w2) : WT w w2 base B v v1 ys := h.trans ⟨h.k.fresh hb, .of_below hb, fun _ _ h => h⟩
end
set_option maxRecDepth 100000 in
set_option maxHeartbeats 4000000 in
theorem srecord_calls (w : World) (all : Bool) (A : Option Addr) (c : Nat) (l : List S66) (hl : l.length ≤ c) (hs : ∀ p ∈ l, p.f0.size ≤ 60000 ∧ p.f1.length ≤ 60000) (ht : (recB all l).length ≤ 600000) (hC : k66.C w A l.length l) :
    Calls Tryz.prog 34 #[.bool all, .slice A l.length c] w fun e w' => ∃ A' c', e = .returned (.slice A' (recB all l).length c') ∧ Kd.R (Kd.int .u8) 5 w' w.heap.size (fun k => w.heap.size ≤ k) (.slice A' (recB all l).length c') (recB all l) ∧ Below w.heap.size w w' := by
  have HC := Aside0.mk hC
  have HS := Aside0.mk hs
  have HT := Aside0.mk ht
  have hm := hC.2.1
  have HB0 := Aside0.mk (Below.alloc (Below.refl w.heap.size w) (Nat.le_refl _) (.cells #[.slice none 0 0] 138))
  have HW0 := Aside0.mk (show WT (w.alloc (.cells #[.slice none 0 0] 138)) (w.alloc (.cells #[.slice none 0 0] 138)) w.heap.size w.heap.size (.slice none 0 0) (.slice none 0 0) [] from WT.refl (WK_new w))
  have HLN := Aside0.mk (show (0 : Int) ≤ (l.length : Int) ∧ (l.length : Int) < 18446744073709551616 by omega)
  clear hC hs ht
  have hm2 : (l.length : Int) ≤ 9223372036854775807 := by omega
  go_enter Tryz.func34, Tryz.ntmps34
  go_wp2_with (first
    | (go_at_call 75; (with_reducible refine (wFlag_next all (by decide) HW0.out).mono ?_); rintro e w1 ⟨rfl, v1, ht⟩; rw [List.nil_append] at ht; have HT1 := Aside0.mk ht; clear ht)
    | (go_at_call 76; (with_reducible refine (wN_one (l.length : Int) HLN.out (by simp [flagB]) HT1.out.k).mono ?_); rintro e w2 ⟨rfl, v2, ht⟩; have HT2 := Aside0.mk (HT1.out.trans ht); clear ht))
  go_loopg [21] l.length (fun kq v21 w' => ∃ (i : Nat) (v' : Value), v21 = .int .i64 (i : Int) ∧ Aside0 (i + kq = l.length) ∧ Aside0 (WK w' w.heap.size w.heap.size v' (recH all l i)) ∧ Aside0 (Below w.heap.size w w'))
  case atStart => exact ⟨0, v2, rfl, ⟨by omega⟩, ⟨by have := HT2.out.k; unfold recH; rw [List.take_zero]; simpa using this⟩, ⟨HB0.out.trans (HT2.out.below HW0.out.k)⟩⟩
  case round =>
    clear HT1 HT2 HW0 HB0
    obtain ⟨i, v', rfl, HI, HK, HB⟩ := hrel
    by_cases hi : i < l.length
    · obtain ⟨ad, A1, c1, e, x0, x1, x2, hl1, hc1⟩ := at_T66 HC.out (i : Int) (by omega) (by omega)
      subst e
      have hx := rd_getT l i hi
      generalize rd_T66 l (i : Int) = x at x0 x1 x2 hl1 hc1 hx
      rw [Int.toNat_natCast] at x0 x1 x2
      replace x0 := (HB.out.cell (World.block_lt_of_cell? w _ x0)).trans x0
      replace x1 := (HB.out.cell (World.block_lt_of_cell? w _ x1)).trans x1
      replace x2 := (HB.out.cell (World.block_lt_of_cell? w _ x2)).trans x2
      have hsz := HS.out x (List.mem_of_getElem? hx)
      have HSUC := Aside0.mk (recH_succ all l i x hx)
      have hlen := recH_len all l (i + 1)
      rw [HSUC.out, List.length_append] at hlen
      have hT := HT.out
      obtain ⟨s, b, gone⟩ := x
      simp only at x0 x1 x2 hl1 hc1 hsz
      have kb := print_bytes (P := Tryz.prog) 9 58 5 Tryz.underlying9 Tryz.underlying58 Tryz.underlying5 s
      have HBL := Aside0.mk (bytesOf_length s)
      have hput : (putB ⟨s, b, gone⟩).length ≤ 600000 - (recH all l i).length := by omega
      have HL1 := Aside0.mk (show (recH all l i).length ≤ 700000 ∧ s.size ≤ 90000 by omega)
      have HL2 := Aside0.mk (show (recH all l i ++ textB (bytesOf s)).length ≤ 700000 by
        rw [List.length_append]; unfold putB at hput; simp only [List.length_append] at hput; omega)
      have HL3 := Aside0.mk (show (recH all l i ++ textB (bytesOf s) ++ flagB gone).length ≤ 700000 by
        rw [List.length_append, List.length_append]; unfold putB at hput; simp only [List.length_append] at hput; omega)
      have HBS := Aside0.mk (show b.length ≤ 90000 by omega)
      have HCB := Aside0.mk hc1
      have HFW := Aside0.mk (show ¬ FW w.heap.size v' wr.heap.size from fun h => absurd (HK.out.fp_lt _ h).2 (Nat.lt_irrefl _))
      have hbel := Below.alloc (Below.refl wr.heap.size wr) (Nat.le_refl _) (.cells #[.string s, .slice A1 b.length c1, .bool gone] 66)
      have HA := Aside0.mk (WT.refl (HK.out.fresh hbel))
      have HBA := Aside0.mk (HB.out.trans (hbel.mono HB.out.size))
      have HB1 := Aside0.mk (HA.out.fresh (bytes_below1 _ s))
      have HNF := Aside0.mk (show ∀ w', Chg (Lib.bytesWorld (wr.alloc (.cells #[.string s, .slice A1 b.length c1, .bool gone] 66)) 5 s) w' (FW w.heap.size v') → (Kd.int .u8).C w' (some ⟨wr.heap.size + 1, 0, none⟩) s.size (bytesOf s) from fun w' hc => by
        have := bytes_C (by omega) (fun h => absurd (HA.out.k.fp_lt _ h).2 (Nat.lt_irrefl _)) hc
        rwa [bytesOf_length, alloc_size] at this)
      clear hlen hT hput hsz hx hc1 hbel hl1
      cases gone with
      | true =>
        go_wp2_with (first
          | (go_at_call 77; (with_reducible refine (wB_next (bytesOf s) _ s.size _ HBL.out HL1.out HB1.out HNF.out).mono ?_); rintro e w2 ⟨rfl, v2, ht⟩; have HT2 := Aside0.mk ht; obtain ⟨y0, y1, y2⟩ := box3 ht.chg HFW.out; clear ht)
          | (go_at_call 75; (with_reducible refine (wFlag_next true (Nat.le_trans HL2.out (by decide)) HT2.out).mono ?_); rintro e w3 ⟨rfl, v3, ht⟩; have HT3 := Aside0.mk ht; obtain ⟨z0, z1, z2⟩ := box3 ht.chg HFW.out; clear ht)
          | (go_at_call 77; (with_reducible refine (wB_next [] none 0 0 rfl ⟨HL3.out, by decide⟩ HT3.out (fun w' _ => Kd.C_nil _ _)).mono ?_); rintro e w4 ⟨rfl, v4, ht⟩; have HT4 := Aside0.mk ht; clear ht))
        have hk1 := HI.out
        obtain ⟨gq, rfl⟩ : ∃ gq, gk = gq + 1 := ⟨gk - 1, by omega⟩
        go_roundg gq
        case rel => exact ⟨i + 1, _, by go_num, ⟨by omega⟩, ⟨by rw [HSUC.out]; have := HT4.out.k; unfold putB; simpa [List.append_assoc] using this⟩, ⟨HBA.out.trans (HT4.out.below HA.out.k)⟩⟩
        case measure => omega
      | false =>
        go_wp2_with (first
          | (go_at_call 77; (with_reducible refine (wB_next (bytesOf s) _ s.size _ HBL.out HL1.out HB1.out HNF.out).mono ?_); rintro e w2 ⟨rfl, v2, ht⟩; have HT2 := Aside0.mk ht; obtain ⟨y0, y1, y2⟩ := box3 ht.chg HFW.out; clear ht)
          | (go_at_call 75; (with_reducible refine (wFlag_next false (Nat.le_trans HL2.out (by decide)) HT2.out).mono ?_); rintro e w3 ⟨rfl, v3, ht⟩; have HT3 := Aside0.mk ht; obtain ⟨z0, z1, z2⟩ := box3 ht.chg HFW.out; clear ht)
          | (go_at_call 77; (with_reducible refine (wB_next b A1 b.length c1 rfl ⟨HL3.out, HBS.out⟩ HT3.out (fun w' hc => Kd.C_below HCB.out (HBA.out.trans ((HT3.out.below HA.out.k).trans (hc.below HT3.out.k.base_le fun k hf => (HT3.out.k.fp_lt k hf).1))))).mono ?_); rintro e w4 ⟨rfl, v4, ht⟩; have HT4 := Aside0.mk ht; clear ht))
        have hk1 := HI.out
        obtain ⟨gq, rfl⟩ : ∃ gq, gk = gq + 1 := ⟨gk - 1, by omega⟩
        go_roundg gq
        case rel => exact ⟨i + 1, _, by go_num, ⟨by omega⟩, ⟨by rw [HSUC.out]; have := HT4.out.k; unfold putB; simpa [List.append_assoc] using this⟩, ⟨HBA.out.trans (HT4.out.below HA.out.k)⟩⟩
        case measure => omega
    · have hi0 := HI.out
      obtain rfl : gk = 0 := by omega
      obtain rfl : i = l.length := by omega
      clear hi0
      have hm3 : ¬ ((l.length : Int) < (l.length : Int)) := by omega
      have HBY := Aside0.mk (wBytes_calls wr w.heap.size w.heap.size v' (recB all l) (Nat.le_trans HT.out (by decide)) HK.out)
      go_wp2_with (first
        | (go_at_call 78; (with_reducible refine HBY.out.mono ?_); rintro e w5 ⟨A5, c5, rfl, hr, hb⟩; have HR5 := Aside0.mk hr; have HB5 := Aside0.mk hb; clear hr hb))
      go_ret
      exact ⟨A5, c5, rfl, Kd.R_mono (Kd.R_lower HR5.out HB.out.size) (fun k hk => Nat.le_trans HB.out.size hk), HB.out.trans (HB5.out.mono HB.out.size)⟩
end Go.Proofs.YtlepcmljmibdnaaGreat
namespace Go.Proofs.YtlepcmljmibdnaaGreat
open Go.RowKit Go.Proofs.YtlepcmljmibdnaaGreatW.PrintWords Go.Proofs.YtlepcmljmibdnaaGreatW.PrintLast Go.Proofs.YtlepcmljmibdnaaGreatW.PrintMore PDiskArms
set_option linter.unusedVariables false
set_option linter.unusedSimpArgs false
theorem keepP_at (D : PD) (p : Int × List Int) (i : Int) : ((keepP D p).kept i).getD zsec = if i = p.1 then p.2 else (D.kept i).getD zsec := by
  unfold keepP
  simp only
  by_cases h : i = p.1
  · rw [if_pos h, if_pos h]
    by_cases hz : p.2 = zsec
    · rw [if_pos hz, hz]; rfl
    · rw [if_neg hz]; rfl
  · rw [if_neg h, if_neg h]
end Go.Proofs.YtlepcmljmibdnaaGreat
namespace Go.Proofs.YtlepcmljmibdnaaGreat
open Go.RowKit Go.Proofs.YtlepcmljmibdnaaGreatW.PrintWords Go.Proofs.YtlepcmljmibdnaaGreatW.PrintLast Go.Proofs.YtlepcmljmibdnaaGreatW.PrintMore PDiskArms
set_option linter.unusedVariables false
set_option linter.unusedSimpArgs false
/-- nothing below base, and no block but those of kind T, has changed -/
structure TC (base : Nat) (T : Nat → Obj → Prop) (w w' : World) : Prop where
  low : Below base w w'
  blk : ∀ (k : Nat) (o : Obj), w.heap[k]? = some o → ¬ T k o → w'.heap[k]? = some o
section
variable {base : Nat} {T T' : Nat → Obj → Prop} {a b c : World}
theorem TC.refl (base : Nat) (T : Nat → Obj → Prop) (w : World) : TC base T w w := ⟨Below.refl _ _, fun _ _ h _ => h⟩
theorem TC.trans (h : TC base T a b) (k : TC base T b c) : TC base T a c := ⟨h.low.trans k.low, fun i o ho hn => k.blk i o (h.blk i o ho hn) hn⟩
theorem TC.mono (h : TC base T a b) (ht : ∀ k o, T k o → T' k o) : TC base T' a b := ⟨h.low, fun i o ho hn => h.blk i o ho (fun e => hn (ht i o e))⟩
theorem TC.lower {base' : Nat} (h : TC base T a b) (hb : base' ≤ base) : TC base' T a b := ⟨h.low.mono hb, h.blk⟩
theorem TC.of_chg {S : Nat → Prop} (h : Chg a b S) (hb : base ≤ a.heap.size) (hs : ∀ k, S k → k < a.heap.size → base ≤ k ∧ ∃ o, a.heap[k]? = some o ∧ T k o) : TC base T a b :=
  ⟨⟨h.os, h.tape, h.output, h.size, fun k hk => h.block k (by omega) (fun e => by have := (hs k e (by omega)).1; omega)⟩, fun k o ho hn => by
    have hk : k < a.heap.size := (Array.getElem?_eq_some_iff.1 ho).1
    rw [h.block k hk (fun e => by
      obtain ⟨_, o', ho', ht⟩ := hs k e hk
      rw [ho] at ho'
      obtain rfl := Option.some.inj ho'
      exact hn ht)]
    exact ho⟩
theorem TC.of_below (h : Below a.heap.size a b) (hb : base ≤ a.heap.size) : TC base T a b :=
  ⟨h.mono hb, fun k o ho _ => (h.block k (Array.getElem?_eq_some_iff.1 ho).1).trans ho⟩
theorem TC.drew (h : TC base T a b) : TC base T a b.drew := ⟨h.low.drew, h.blk⟩
theorem TC.grown {row : Option Nat} (h : a.grownBy b row) (hs : ∀ k, some k = row → base ≤ k ∧ ∃ o, a.heap[k]? = some o ∧ T k o) (hb : base ≤ a.heap.size) : TC base T a b :=
  .of_chg (chg_grown h (S := fun k => some k = row) (fun k hk => hk)) hb (fun k hk _ => hs k hk)
theorem TC.set {g j : Nat} {o : Obj} (hg : a.heap[g]? = some o) (ht : T g o) (hb : base ≤ g) (u : Value) : TC base T a (a.setCell ⟨g, j, none⟩ u) :=
  .of_chg (((Only.refl a g).set (i := j) u).chg (S := fun k => k = g) fun _ h => h) (by have := (Array.getElem?_eq_some_iff.1 hg).1; omega) (fun k hk _ => by subst hk; exact ⟨hb, o, hg, ht⟩)
theorem R_tc {α : Type} {d : Kd α} {e : Nat} {ok : Nat → Prop} {v : Value} {xs : List α} (h : d.R e a base ok v xs) {base' : Nat} (hc : TC base' T a b) (ht : ∀ q, q ∈ e :: d.E → ∀ k cells, ¬ T k (.cells cells q (0, 0))) : d.R e b base ok v xs :=
  Kd.R_mono (Kd.R_move (Kd.R_bound h) (fun k hk => by
    obtain ⟨_, _, _, q, hq, cells, hce⟩ := hk
    rw [hce]
    exact hc.blk k _ hce (ht q hq k cells))) (fun _ hk => hk.1)
end
/-- the blocks of a disk -/
def isDisk (M Bd : Nat) (k : Nat) (o : Obj) : Prop := match o with
  | .cells _ t _ => t = 90 ∨ t = 124
  | .map _ _ => k = M ∨ k = Bd
  | _ => False
theorem DK.tc {w w' : World} {base B M Bd : Nat} {vc : Value} {D : PD} (h : DK w base B M Bd vc D) (hc : Chg w w' (FP B M Bd vc)) : TC base (isDisk M Bd) w w' := by
  refine .of_chg hc h.base_le fun k hk hl => ⟨(h.fp k hk).1, ?_⟩
  rcases hk with rfl | rfl | rfl | hk
  · exact ⟨_, h.blk, .inl rfl⟩
  · obtain ⟨es, cl, he, _⟩ := h.kept
    exact ⟨_, he, .inl rfl⟩
  · obtain ⟨es, cl, he, _⟩ := h.bad
    exact ⟨_, he, .inr rfl⟩
  · obtain ⟨inner, ho⟩ := Kd.R_own h.cache
    obtain ⟨cells, hc⟩ := own_typed ho k hk.symm
    exact ⟨_, hc, .inr rfl⟩
theorem DK.tkeep {w w' : World} {base base' B M Bd : Nat} {vc : Value} {D : PD} {T : Nat → Obj → Prop} (h : DK w base B M Bd vc D) (hc : TC base' T w w') (ht : ∀ k o, isDisk M Bd k o → ¬ T k o) : DK w' base B M Bd vc D := by
  obtain ⟨e1, c1, hk1, hr1⟩ := h.kept
  obtain ⟨e2, c2, hk2, hr2⟩ := h.bad
  refine ⟨hc.blk B _ h.blk (ht _ _ (.inl rfl)), ⟨e1, c1, hc.blk M _ hk1 (ht _ _ (.inl rfl)), hr1⟩, ⟨e2, c2, hc.blk Bd _ hk2 (ht _ _ (.inr rfl)), hr2⟩, R_tc h.cache hc ?_, h.hB, h.hM, h.hBd, h.hne, h.sec, h.hn, h.hl⟩
  intro q hq k cells
  have : q = 124 := by
    have : (124 :: wrK.E) = [124] := by rfl
    rw [this] at hq
    simpa using hq
  subst this
  exact ht _ _ (.inr rfl)

/-! ### the reference's disk -/
structure RX where
  S : List (List Int)
  cache : List (Int × List Int)
  bad : List Bool
  left : Int
  dead : Bool
def bytesK : Kd (List Int) := Kd.slice 5 (Kd.int .u8)
def rwrK : Kd (Int × List Int) := Kd.pair (Kd.int .i64) bytesK
def isRef (_ : Nat) (o : Obj) : Prop := match o with
  | .cells _ t _ => t = 93 ∨ t = 58 ∨ t = 4
  | _ => False
structure RM (w : World) (base B : Nat) (vS vC vB : Value) (X : RX) : Prop where
  blk : w.heap[B]? = some (.cells #[vS, vC, vB, .int .i64 X.left, .bool X.dead] 93 (0, 0))
  S : Kd.R bytesK 58 w base (fun _ => True) vS X.S
  C : Kd.R rwrK 127 w base (fun _ => True) vC X.cache
  bad : Kd.R Kd.bool 4 w base (fun _ => True) vB X.bad
  hB : base ≤ B
structure XOk (X : RX) : Prop where
  s64 : ∀ s ∈ X.S, s.length = 64
  c64 : ∀ p ∈ X.cache, p.2.length = 64 ∧ 0 ≤ p.1 ∧ p.1 < X.S.length
  hb : X.bad.length = X.S.length
  hl : -1 ≤ X.left ∧ X.left ≤ 9223372036854775807
  hn : X.S.length ≤ 4096
structure RK (w : World) (base B : Nat) (vS vC vB : Value) (X : RX) : Prop extends RM w base B vS vC vB X where
  ok : XOk X
theorem q29 : ∀ q, q ∈ 58 :: bytesK.E → q = 58 ∨ q = 5 := by
  intro q hq
  rw [show 58 :: bytesK.E = [58, 5] from rfl] at hq
  simpa using hq
theorem own_cells {α : Type} {d : Kd α} {e : Nat} {w : World} {base : Nat} {v : Value} {xs : List α} {ok : Nat → Prop} (hr : Kd.R d e w base ok v xs) (k : Nat) (hk : some k = v.ownBlock) : base ≤ k ∧ ∃ cells, w.heap[k]? = some (.cells cells e (0, 0)) := by
  obtain ⟨inner, ho⟩ := Kd.R_own hr
  exact ⟨own_base ho k hk.symm, own_typed ho k hk.symm⟩
def ractX (X : RX) : RX × Int := if X.dead || X.left == 0 then ({ X with dead := true }, 50) else if 0 < X.left then ({ X with left := X.left - 1 }, 0) else (X, 0)
def rarmX (X : RX) (n : Int) : RX := { X with left := if 0 ≤ n then n else -1 }
end Go.Proofs.YtlepcmljmibdnaaGreat
namespace Go.Proofs.YtlepcmljmibdnaaGreat
open Go.RowKit Go.Proofs.YtlepcmljmibdnaaGreatW.PrintWords Go.Proofs.YtlepcmljmibdnaaGreatW.PrintLast Go.Proofs.YtlepcmljmibdnaaGreatW.PrintMore PWalOpens
set_option linter.unusedVariables false
set_option linter.unusedSimpArgs false
/-- a row of one's own: all of it from b on -/
def OwnB (w : World) (b : Nat) (v : Value) (xs : List Int) : Prop := Kd.R (Kd.int .u8) 5 w b (fun k => b ≤ k) v xs
theorem OwnB.low {w : World} {b b' : Nat} {v : Value} {xs : List Int} (h : OwnB w b v xs) (hb : b' ≤ b) : OwnB w b' v xs := Kd.R_mono (Kd.R_lower h hb) (fun k hk => Nat.le_trans hb hk)
theorem lowB4 (c : Int) : lowB c 4 = be4 c := by
  have e : c / 256 ^ 0 = c := by rw [Int.pow_zero, Int.ediv_one]
  show [c / 256 ^ 3 % 256, c / 256 ^ 2 % 256, c / 256 ^ 1 % 256, c / 256 ^ 0 % 256] = _
  rw [e]
  rfl
theorem slot_long (w : World) (gen : Int) (l : List Int) (A : Option Addr) (c : Nat) (hl : 4 < l.length) :
    Calls Tryz.prog 128 #[.int .u64 gen, .slice A l.length c] w fun e w' => e = .returned (.tuple #[.slice none 0 0, .int .i64 2]) ∧ w = w' := by
  have h : (4 : Int) < (l.length : Int) := by omega
  go_enter Tryz.func128, Tryz.ntmps128
  go_wp2
  go_ret2
  exact ⟨rfl, rfl⟩
end Go.Proofs.YtlepcmljmibdnaaGreat
