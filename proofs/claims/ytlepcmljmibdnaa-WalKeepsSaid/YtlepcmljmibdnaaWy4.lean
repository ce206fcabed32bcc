/- Parts of one proof, joined: Rw, Rx, Ry, Rp, Rq, Nt, Up. Conditions: those of each statement. -/
import Derived.Test.YtlepcmljmibdnaaWy3
namespace Go.Proofs.Ytlepcmljmibdnaa
open Go.RowKit Go.Proofs.YtlepcmljmibdnaaW.PrintWords Go.Proofs.YtlepcmljmibdnaaW.PrintLast Go.Proofs.YtlepcmljmibdnaaW.PrintMore PWalOpens
set_option linter.unusedVariables false
set_option linter.unusedSimpArgs false
theorem gread_calls (w : World) (A : Option Addr) (c : Nat) (b : List Int) (hl : b.length ≤ 1000000) (hn : A = none → b.length = 0 ∧ c = 0) (hC : (Kd.int .u8).C w A b.length b) :
    Calls Try.prog 78 #[.slice A b.length c] w fun e w' => ∃ B, e = .returned (.pointer (some ⟨B, 0, none⟩)) ∧ GX w' w.heap.size B b false ∧ Below w.heap.size w w' := by
  have H := Aside0.mk (clone_any w A c b hl hn hC)
  clear hn hC
  go_enter Try.func78, Try.ntmps78
  go_wp2_with (go_at_call 69; with_reducible refine H.out.mono ?_; rintro e w1 ⟨A1, c1, rfl, hr, hb⟩; have HR1 := Aside0.mk hr; have HB1 := Aside0.mk hb; clear hr hb)
  go_ret
  obtain ⟨_, _, h3⟩ := Kd.R_reads' HR1.out
  have h2 := (Kd.R_reads' HR1.out).2.1
  have hlt := Kd.R_lt HR1.out
  obtain ⟨_, inner, ho, _⟩ := HR1.out
  have hb2 := below_alloc HB1.out (.cells #[.slice A1 b.length c1, .bool false] 154)
  refine ⟨w1.heap.size, rfl, ⟨A1, c1, ⟨by rw [show (w1.alloc (.cells #[.slice A1 b.length c1, .bool false] 154)).heap = w1.heap.push (.cells #[.slice A1 b.length c1, .bool false] 154) from rfl]; simp, Kd.C_alloc h3 _, h2, fun ad e => ?_, HB1.out.size⟩, ?_, ?_, ?_⟩, hb2⟩
  · subst e
    have := hlt ad.block rfl
    omega
  · rcases ho.2 with ⟨e, _⟩ | ⟨g, cap, cur, e, _, _, _, hm, _⟩
    · injection e with e1 e2 e3; omega
    · injection e with e1 e2 e3; rw [e3]; exact Nat.le_trans hm (by decide)
  · intro e
    subst e
    rcases ho.2 with ⟨e, h0⟩ | ⟨g, cap, cur, e, _⟩
    · exact List.length_eq_zero_iff.mp h0
    · injection e with e1; cases e1
  · intro ad e
    subst e
    rcases ho.2 with ⟨e, _⟩ | ⟨g, cap, cur, e, _⟩
    · injection e with e1; cases e1
    · injection e with e1; cases e1; rfl
end Go.Proofs.Ytlepcmljmibdnaa
namespace Go.Proofs.Ytlepcmljmibdnaa
open Go.RowKit Go.Proofs.YtlepcmljmibdnaaW.PrintWords Go.Proofs.YtlepcmljmibdnaaW.PrintLast Go.Proofs.YtlepcmljmibdnaaW.PrintMore PWalOpens
set_option linter.unusedVariables false
set_option linter.unusedSimpArgs false
/-- the reference's reader at block B -/
structure HK (w : World) (base B : Nat) (A : Option Addr) (c : Nat) (xs : List Int) (bad : Bool) : Prop where
  blk : w.heap[B]? = some (.cells #[.slice A xs.length c, .bool bad] 124 (0, 0))
  C : (Kd.int .u8).C w A xs.length xs
  cap : xs.length ≤ c
  away : ∀ ad, A = some ad → ad.block < B
  hB : base ≤ B
def HX (w : World) (base B : Nat) (xs : List Int) (bad : Bool) : Prop := ∃ A c, HK w base B A c xs bad ∧ c ≤ 9223372036854775807 ∧ (A = none → xs = [])
def bigA (a b : Int) : Int := IntKind.u64.wrap (IntKind.u64.wrap (a * 256) + IntKind.u64.wrap b)
def bigM (l : List Int) : Int := l.foldl bigA 0
end Go.Proofs.Ytlepcmljmibdnaa
namespace Go.Proofs.Ytlepcmljmibdnaa
open Go.RowKit Go.Proofs.YtlepcmljmibdnaaW.PrintWords Go.Proofs.YtlepcmljmibdnaaW.PrintLast Go.Proofs.YtlepcmljmibdnaaW.PrintMore PWalOpens
set_option linter.unusedVariables false
set_option linter.unusedSimpArgs false
end Go.Proofs.Ytlepcmljmibdnaa
namespace Go.Proofs.Ytlepcmljmibdnaa
open Go.RowKit Go.Proofs.YtlepcmljmibdnaaW.PrintWords Go.Proofs.YtlepcmljmibdnaaW.PrintLast Go.Proofs.YtlepcmljmibdnaaW.PrintMore PWalOpens
set_option linter.unusedVariables false
set_option linter.unusedSimpArgs false
def isBytes (l : List Int) : Prop := ∀ x ∈ l, 0 ≤ x ∧ x < 256
theorem isBytes.take {l : List Int} (h : isBytes l) (n : Nat) : isBytes (l.take n) := fun x hx => h x (List.mem_of_mem_take hx)
theorem isBytes.drop {l : List Int} (h : isBytes l) (n : Nat) : isBytes (l.drop n) := fun x hx => h x (List.mem_of_mem_drop hx)
/-- what a reader answers: the number, what is left, whether it has failed -/
def rdN (xs : List Int) (bad : Bool) (mx : Int) : Int × List Int × Bool :=
  if bad then (0, [], true) else match xs with
  | [] => (0, [], true)
  | b :: r =>
    if b < 128 then (if b ≤ mx then (b, r, false) else (0, [], true))
    else if b = 128 ∨ 136 < b ∨ r.length < (b - 128).toNat then (0, [], true)
    else if bigN (r.take (b - 128).toNat) < 128 ∨ ¬ ((szN (bigN (r.take (b - 128).toNat)) : Int) = b - 128) ∨ mx < bigN (r.take (b - 128).toNat) then (0, [], true)
    else (bigN (r.take (b - 128).toNat), r.drop (b - 128).toNat, false)
/-- the bytes of a short row spell a number that has them for its lowest bytes -/
theorem bigN_bytes (l : List Int) (h : isBytes l) (h8 : l.length ≤ 8) : 0 ≤ bigN l ∧ bigN l < 256 ^ l.length ∧ lowB (bigN l) l.length = l := by
  have key : ∀ (l : List Int), isBytes l → ∀ a : Nat, (a + 1) * 256 ^ l.length ≤ 18446744073709551616 → ∃ m : Nat, l.foldl bigS (a : Int) = (m : Int) ∧ a * 256 ^ l.length ≤ m ∧ m < (a + 1) * 256 ^ l.length ∧ lowB (m : Int) l.length = l := by
    intro l
    induction l with
    | nil => intro _ a _; exact ⟨a, rfl, by simp, by simp, rfl⟩
    | cons x l ih =>
      intro hb a h2
      obtain ⟨hx0, hx1⟩ := hb x (by simp)
      obtain ⟨d, rfl⟩ := Int.eq_ofNat_of_zero_le hx0
      have hd : d < 256 := by omega
      have q2 : a * 256 + d + 1 ≤ (a + 1) * 256 := by clear h2; omega
      have hp : 1 ≤ 256 ^ l.length := Nat.pos_of_ne_zero (by simp)
      rw [List.length_cons, Nat.pow_succ, Nat.mul_comm (256 ^ l.length), ← Nat.mul_assoc] at h2
      have ha : (a + 1) * 256 ≤ 18446744073709551616 := by
        refine Nat.le_trans ?_ h2
        have := Nat.mul_le_mul_left ((a + 1) * 256) hp
        rwa [Nat.mul_one] at this
      obtain ⟨m, h3, h4, h5, h6⟩ := ih (fun y hy => hb y (by simp [hy])) (a * 256 + d) (Nat.le_trans (Nat.mul_le_mul_right _ q2) h2)
      refine ⟨m, ?_, ?_, ?_, ?_⟩
      · have ha2 : a < 72057594037927936 := by clear h2 h4 h5 h3; omega
        have e1 := bigS_small a d ha2 hd
        rw [show ((a : Int) * 256 + (d : Int)) = ((a * 256 + d : Nat) : Int) from by rw [Int.natCast_add, Int.natCast_mul]; rfl] at e1
        rw [List.foldl_cons, e1]
        exact h3
      · rw [List.length_cons, Nat.pow_succ, Nat.mul_comm (256 ^ l.length), ← Nat.mul_assoc]
        exact Nat.le_trans (Nat.mul_le_mul_right _ (Nat.le_add_right _ _)) h4
      · rw [List.length_cons, Nat.pow_succ, Nat.mul_comm (256 ^ l.length), ← Nat.mul_assoc]
        exact Nat.lt_of_lt_of_le h5 (Nat.mul_le_mul_right _ q2)
      · rw [List.length_cons, lowB, h6]
        congr 1
        have e : m / 256 ^ l.length = a * 256 + d := Nat.div_eq_of_lt_le h4 h5
        rw [show ((m : Int) / 256 ^ l.length) = ((m / 256 ^ l.length : Nat) : Int) by rw [Int.natCast_ediv, Int.natCast_pow]; rfl, e]
        clear h2 h3 h4 h5 h6 e ih
        omega
  have h256 : 256 ^ l.length ≤ 18446744073709551616 := Nat.le_trans (Nat.pow_le_pow_right (by omega) h8) (by decide)
  obtain ⟨m, h1, h2, h3, h4⟩ := key l h 0 (by simpa using h256)
  have e : bigN l = (m : Int) := h1
  rw [e]
  refine ⟨by omega, ?_, h4⟩
  have h5 : m < 256 ^ l.length := by simpa using h3
  have := Int.ofNat_lt.2 h5
  simpa using this
theorem rdN_bytes {xs r : List Int} {bad b' : Bool} {mx n : Int} (h : isBytes xs) (e : rdN xs bad mx = (n, r, b')) : isBytes r ∧ (b' = true → r = []) ∧ 0 ≤ n := by
  have nil : isBytes [] := fun x hx => by cases hx
  unfold rdN at e
  split at e
  · cases e; exact ⟨nil, fun _ => rfl, by omega⟩
  · cases xs with
    | nil => cases e; exact ⟨nil, fun _ => rfl, by omega⟩
    | cons b t =>
      have ht : isBytes t := fun x hx => h x (by simp [hx])
      have hb := h b (by simp)
      simp only at e
      split at e
      · split at e
        · cases e; exact ⟨ht, fun h => (by cases h), hb.1⟩
        · cases e; exact ⟨nil, fun _ => rfl, by omega⟩
      · split at e
        · cases e; exact ⟨nil, fun _ => rfl, by omega⟩
        · rename_i h8
          split at e
          · cases e; exact ⟨nil, fun _ => rfl, by omega⟩
          · cases e
            refine ⟨ht.drop _, fun h => (by cases h), (bigN_bytes _ (ht.take _) ?_).1⟩
            rw [List.length_take]; omega
/-- what was read is the number's own bytes -/
theorem rdN_canon {xs r : List Int} {mx n : Int} (h : isBytes xs) (e : rdN xs false mx = (n, r, false)) : xs = encN n ++ r ∧ 0 ≤ n ∧ n ≤ mx ∧ n < 18446744073709551616 := by
  unfold rdN at e
  rw [if_neg (by decide)] at e
  cases xs with
  | nil => cases e
  | cons b t =>
    have ht : isBytes t := fun x hx => h x (by simp [hx])
    have hb := h b (by simp)
    simp only at e
    split at e
    · split at e
      · cases e
        refine ⟨?_, hb.1, by assumption, by omega⟩
        unfold encN
        rw [if_pos (by assumption)]
        have : n % 256 = n := by omega
        simp [this]
      · cases e
    · split at e
      · cases e
      · rename_i h8
        split at e
        · cases e
        · rename_i h9
          injection e with e1 e2
          injection e2 with e2 e3
          have hl : (t.take (b - 128).toNat).length = (b - 128).toNat := by rw [List.length_take]; omega
          obtain ⟨p1, p2, p3⟩ := bigN_bytes (t.take (b - 128).toNat) (ht.take _) (by rw [hl]; omega)
          rw [hl] at p2 p3
          have p4 : (256 : Int) ^ (b - 128).toNat ≤ 18446744073709551616 := by
            have : 256 ^ (b - 128).toNat ≤ 256 ^ 8 := Nat.pow_le_pow_right (by omega) (by omega)
            have h2 := Int.ofNat_le.2 this
            simpa using h2
          rw [e1] at p1 p2 p3 h9
          refine ⟨?_, p1, by omega, by omega⟩
          have hsz : szN n = (b - 128).toNat := by omega
          unfold encN
          rw [if_neg (by omega), hsz, p3, ← e2]
          simp only [List.cons_append, List.take_append_drop]
          congr 1
          omega
theorem szN_pow (n : Int) (h0 : 0 ≤ n) (h : n < 18446744073709551616) : n < 256 ^ szN n := by
  unfold szN
  repeat' split
  all_goals (first | (show n < 256; omega) | (show n < 65536; omega) | (show n < 16777216; omega) | (show n < 4294967296; omega) | (show n < 1099511627776; omega) | (show n < 281474976710656; omega) | (show n < 72057594037927936; omega) | (show n < 18446744073709551616; omega))
theorem rdN_enc (n mx : Int) (r : List Int) (h0 : 0 ≤ n) (hm : n ≤ mx) (h : n < 18446744073709551616) : rdN (encN n ++ r) false mx = (n, r, false) := by
  unfold encN
  split
  · rename_i h1
    unfold rdN
    rw [if_neg (by decide)]
    have e : n % 256 = n := by omega
    simp only [List.cons_append, List.nil_append, e]
    rw [if_pos h1, if_pos hm]
  · rename_i h1
    have hs := szN_le n
    unfold rdN
    rw [if_neg (by decide)]
    simp only [List.cons_append]
    have e1 : ((128 : Int) + (szN n : Int) - 128).toNat = szN n := by omega
    have e2 : (lowB n (szN n) ++ r).take (szN n) = lowB n (szN n) := by rw [List.take_append_of_le_length (by rw [lowB_len]; exact Nat.le_refl _), List.take_of_length_le (by rw [lowB_len]; exact Nat.le_refl _)]
    have e3 : (lowB n (szN n) ++ r).drop (szN n) = r := by rw [List.drop_append_of_le_length (by rw [lowB_len]; exact Nat.le_refl _), List.drop_of_length_le (by rw [lowB_len]; exact Nat.le_refl _)]; rfl
    have e4 : bigN (lowB n (szN n)) = n := by
      rw [bigN_lowB n h0 _ hs.2]
      exact Int.emod_eq_of_lt h0 (szN_pow n h0 h)
    rw [if_neg (by omega), e1, e2, e3, e4, if_neg (by rw [List.length_append, lowB_len]; omega), if_neg (by omega)]
/-- a reader, as it is seen from w0 -/
structure GS (w0 w : World) (base B : Nat) (xs : List Int) (bad : Bool) : Prop where
  x : GX w base B xs bad
  chg : Chg w0 w (fun k => k = B)
  bytes : isBytes xs
  nb : bad = true → xs = []
theorem gN_any (w : World) (base B : Nat) (mx n : Int) (xs r : List Int) (bad b' : Bool) (h0 : 0 ≤ mx) (hby : isBytes xs) (e : rdN xs bad mx = (n, r, b')) (h : GX w base B xs bad) :
    Calls Try.prog 79 #[.pointer (some ⟨B, 0, none⟩), .int .u64 mx] w fun e w' => e = .returned (.int .u64 n) ∧ GX w' base B r b' ∧ Chg w w' (fun k => k = B) := by
  unfold rdN at e
  split at e
  · rename_i hb
    cases e
    exact gN_no w base B mx h0 xs bad (.inl hb) h
  · rename_i hb
    obtain rfl : bad = false := by simpa using hb
    cases xs with
    | nil => cases e; exact gN_no w base B mx h0 [] false (.inr (by simp)) h
    | cons b t =>
      have hbb := hby b (by simp)
      have ht : isBytes t := fun x hx => hby x (by simp [hx])
      simp only at e
      split at e
      · split at e
        · cases e; exact gN_small w base B mx _ _ hbb.1 (by assumption) (by assumption) h
        · cases e; exact gN_big w base B mx b t hbb.1 (by assumption) (by omega) h
      · split at e
        · rename_i h8
          cases e
          by_cases hw : b = 128 ∨ 136 < b
          · exact gN_width w base B mx b t (by omega) (by omega) hw h
          · exact gN_short w base B mx b h0 (b - 128).toNat t (by omega) (by omega) (by omega) (by omega) h
        · rename_i h8
          have hl : (t.take (b - 128).toNat).length = (b - 128).toNat := by rw [List.length_take]; omega
          obtain ⟨p1, p2, p3⟩ := bigN_bytes (t.take (b - 128).toNat) (ht.take _) (by rw [hl]; omega)
          split at e
          · rename_i h9
            cases e
            by_cases c1 : bigN (t.take (b - 128).toNat) < 128
            · by_cases c2 : bigN (t.take (b - 128).toNat) ≤ mx
              · exact gN_odd1 w base B mx b _ (b - 128).toNat t (by omega) (by omega) (by omega) (by omega) rfl p1 c1 c2 h
              · exact gN_odd2 w base B mx b _ (b - 128).toNat t (by omega) (by omega) (by omega) (by omega) rfl p1 c1 (by omega) h
            · by_cases c3 : (szN (bigN (t.take (b - 128).toNat)) : Int) = b - 128
              · exact gN_wbig w base B mx b _ (b - 128).toNat t (by omega) (by omega) (by omega) (by omega) rfl p1 (by omega) c3 (by omega) h
              · by_cases c2 : bigN (t.take (b - 128).toNat) ≤ mx
                · exact gN_odd3 w base B mx b _ (b - 128).toNat t (by omega) (by omega) (by omega) (by omega) rfl p1 (by omega) c3 c2 h
                · exact gN_odd4 w base B mx b _ (b - 128).toNat t (by omega) (by omega) (by omega) (by omega) rfl p1 (by omega) c3 (by omega) h
          · rename_i h9
            cases e
            exact gN_wide w base B mx b _ (b - 128).toNat t (by omega) (by omega) (by omega) (by omega) rfl (by omega) (by omega) (by omega) h
theorem GS.n {w0 w : World} {base B : Nat} {xs r : List Int} {bad b' : Bool} {mx n : Int} (h0 : 0 ≤ mx) (e : rdN xs bad mx = (n, r, b')) (h : GS w0 w base B xs bad) :
    Calls Try.prog 79 #[.pointer (some ⟨B, 0, none⟩), .int .u64 mx] w fun e w' => e = .returned (.int .u64 n) ∧ GS w0 w' base B r b' := by
  refine (gN_any w base B mx n xs r bad b' h0 h.bytes e h.x).mono ?_
  rintro e1 w' ⟨rfl, h1, h2⟩
  obtain ⟨q1, q2, _⟩ := rdN_bytes h.bytes e
  exact ⟨rfl, h1, h.chg.trans h2, q1, q2⟩
theorem GS.step {w0 w : World} {base B : Nat} {xs r : List Int} {bad b' : Bool} {mx n : Int} (h0 : 0 ≤ mx) (e : rdN xs bad mx = (n, r, b')) (h : GS w0 w base B xs bad) :
    Calls Try.prog 79 #[.pointer (some ⟨B, 0, none⟩), .int .u64 mx] w fun e w' => e = .returned (.int .u64 n) ∧ GS w0 w' base B r b' ∧ Chg w w' (fun k => k = B) := by
  refine (gN_any w base B mx n xs r bad b' h0 h.bytes e h.x).mono ?_
  rintro e1 w' ⟨rfl, h1, h2⟩
  obtain ⟨q1, q2, _⟩ := rdN_bytes h.bytes e
  exact ⟨rfl, ⟨h1, h.chg.trans h2, q1, q2⟩, h2⟩
theorem GS.grow {w0 w w' : World} {base B : Nat} {xs : List Int} {bad : Bool} {S : Nat → Prop} (h : GS w0 w base B xs bad) (hB : B < w0.heap.size) (hc : Chg w w' S) (hS : ∀ k, k < w0.heap.size → ¬ S k) : GS w0 w' base B xs bad :=
  ⟨h.x.keep hc fun k hk => hS k (Nat.lt_of_le_of_lt hk hB), ⟨hc.os.trans h.chg.os, hc.tape.trans h.chg.tape, hc.output.trans h.chg.output, Nat.le_trans h.chg.size hc.size, fun k hk hn => (hc.block k (Nat.lt_of_lt_of_le hk h.chg.size) (hS k hk)).trans (h.chg.block k hk hn)⟩, h.bytes, h.nb⟩
theorem GX.lt {w : World} {base B : Nat} {xs : List Int} {bad : Bool} (h : GX w base B xs bad) : B < w.heap.size := by
  obtain ⟨A, c, hk, _⟩ := h
  exact (Array.getElem?_eq_some_iff.1 hk.blk).1
theorem GS.refl {w : World} {base B : Nat} {xs : List Int} {bad : Bool} (h : GX w base B xs bad) (hb : isBytes xs) (nb : bad = true → xs = []) : GS w w base B xs bad := ⟨h, Chg.refl _ _, hb, nb⟩
theorem GS.left {w0 w : World} {base B : Nat} {xs : List Int} {bad : Bool} (n : Nat) (hn : xs.length = n) (h : GS w0 w base B xs bad) :
    Calls Try.prog 80 #[.pointer (some ⟨B, 0, none⟩)] w fun e w' => e = .returned (.int .i64 n) ∧ w = w' := by
  obtain ⟨A, c, hk, _⟩ := h.x
  refine gleft_calls w base B A c xs bad n ?_ hk
  subst hn
  cases bad with
  | true => rw [h.nb rfl]; rfl
  | false => rfl
end Go.Proofs.Ytlepcmljmibdnaa
namespace Go.Proofs.Ytlepcmljmibdnaa
open Go.RowKit Go.Proofs.YtlepcmljmibdnaaW.PrintWords Go.Proofs.YtlepcmljmibdnaaW.PrintLast Go.Proofs.YtlepcmljmibdnaaW.PrintMore PWalOpens
set_option linter.unusedVariables false
set_option linter.unusedSimpArgs false
structure HS (w0 w : World) (base B : Nat) (xs : List Int) (bad : Bool) : Prop where
  x : HX w base B xs bad
  chg : Chg w0 w (fun k => k = B)
  bytes : isBytes xs
  nb : bad = true → xs = []
end Go.Proofs.Ytlepcmljmibdnaa
namespace Go.Proofs.Ytlepcmljmibdnaa
open Go.RowKit Go.Proofs.YtlepcmljmibdnaaW.PrintWords Go.Proofs.YtlepcmljmibdnaaW.PrintLast Go.Proofs.YtlepcmljmibdnaaW.PrintMore PWalOpens
set_option linter.unusedVariables false
set_option linter.unusedSimpArgs false
theorem nought1_yes (x : Int) (w : World) (h : x ≠ 0) : Calls Try.prog 109 #[.int .u8 x] w fun e w' => e = .returned (.bool true) ∧ w = w' := by
  have h1 : (x != 0) = true := by simpa using h
  clear h
  go_enter Try.func109, Try.ntmps109
  go_wp2
  go_ret
  exact ⟨rfl, rfl⟩
theorem nought1_no (w : World) : Calls Try.prog 109 #[.int .u8 0] w fun e w' => e = .returned (.bool false) ∧ w = w' := by
  go_enter Try.func109, Try.ntmps109
  go_wp2
  go_ret
  exact ⟨rfl, rfl⟩
def allZ (b : List Int) : Bool := b.all (fun x => x == 0)
def idxZ (b : List Int) : Int := if allZ b then -1 else b.findIdx (fun x => x != 0)
theorem idxZ_pos {b : List Int} {i : Nat} {x : Int} (hz : ∀ j y, j < i → b[j]? = some y → y = 0) (hx : b[i]? = some x) (h : x ≠ 0) : idxZ b = i := by
  have hm : x ∈ b := List.mem_of_getElem? hx
  have h0 : allZ b = false := by
    unfold allZ
    rw [List.all_eq_false]
    exact ⟨x, hm, by simpa using h⟩
  unfold idxZ
  rw [h0]
  simp only [Bool.false_eq_true, if_false]
  congr 1
  obtain ⟨hi, hxe⟩ := List.getElem?_eq_some_iff.1 hx
  refine (List.findIdx_eq hi).2 ⟨by rw [hxe]; simpa using h, fun j hj => ?_⟩
  have := hz j _ hj (List.getElem?_eq_getElem (by omega))
  simp [this]
theorem idxZ_neg {b : List Int} (hz : ∀ j y, j < b.length → b[j]? = some y → y = 0) : idxZ b = -1 := by
  unfold idxZ
  rw [if_pos]
  unfold allZ
  rw [List.all_eq_true]
  intro x hx
  obtain ⟨j, hj⟩ := List.mem_iff_getElem?.1 hx
  simpa using hz j x (List.getElem?_eq_some_iff.1 hj).1 hj
theorem idxZ_ge (b : List Int) : -1 ≤ idxZ b ∧ (decide (0 ≤ idxZ b) = !allZ b) := by
  unfold idxZ
  split
  · rename_i h; rw [h]; exact ⟨by omega, by simp⟩
  · rename_i h
    have : allZ b = false := by simpa using h
    rw [this]
    exact ⟨by omega, by simp⟩
theorem idxZ_calls (w : World) (A : Option Addr) (c : Nat) (b : List Int) (hl : b.length ≤ 1000000) (hC : (Kd.int .u8).C w A b.length b) :
    Calls Try.prog 120 #[.slice A b.length c, .func (Fn.func 109) #[] #[]] w fun e w' => e = .returned (.int .i64 (idxZ b)) ∧ w = w' := by
  have HC := Aside0.mk hC
  clear hC
  go_enter Try.func120, Try.ntmps120
  go_wp2
  go_loopg [8] b.length (fun kq v8 w' => ∃ i : Nat, v8 = .int .i64 (i : Int) ∧ Aside0 (i + kq = b.length) ∧ Aside0 (∀ j y, j < i → b[j]? = some y → y = 0) ∧ w' = w)
  case atStart => exact ⟨0, rfl, ⟨by omega⟩, ⟨fun j y h => by omega⟩, rfl⟩
  case round =>
    obtain ⟨i, rfl, HI, HZ, rfl⟩ := hrel
    by_cases hi : i < b.length
    · obtain ⟨x, hnn⟩ : ∃ x, b[i]? = some x := ⟨_, List.getElem?_eq_getElem hi⟩
      obtain ⟨a2, e, x0⟩ := Kd.at_int HC.out (i : Int) (by omega) (by omega)
      subst e
      rw [show rd b (i : Int) = x by simp [rd, List.getD, hnn], Int.toNat_natCast] at x0
      have HNN := Aside0.mk hnn
      clear hnn
      by_cases h : x = 0
      · subst h
        go_wp2_with (go_at_call 109; refine (nought1_no _).mono ?_; rintro e w' ⟨rfl, rfl⟩)
        have hk1 := HI.out
        obtain ⟨gq, rfl⟩ : ∃ gq, gk = gq + 1 := ⟨gk - 1, by omega⟩
        go_roundg gq
        case rel => exact ⟨i + 1, by go_num, ⟨by omega⟩, ⟨fun j y hj hy => by
          by_cases hji : j = i
          · subst hji; rw [HNN.out] at hy; exact (Option.some.inj hy).symm
          · exact HZ.out j y (by omega) hy⟩, rfl⟩
        case measure => omega
      · have HX := Aside0.mk h
        clear h
        go_wp2_with (go_at_call 109; refine (nought1_yes x _ HX.out).mono ?_; rintro e w' ⟨rfl, rfl⟩)
        go_ret
        rw [idxZ_pos HZ.out HNN.out HX.out]
        exact ⟨rfl, rfl⟩
    · have hi0 := HI.out
      obtain rfl : gk = 0 := by omega
      obtain rfl : i = b.length := by omega
      clear hi0
      have hm : ¬ ((b.length : Int) < (b.length : Int)) := by omega
      go_wp2
      go_ret
      rw [idxZ_neg HZ.out]
      exact ⟨rfl, rfl⟩
theorem noughts_calls (w : World) (A : Option Addr) (c : Nat) (b : List Int) (z : Bool) (hz : allZ b = z) (hl : b.length ≤ 1000000) (hC : (Kd.int .u8).C w A b.length b) :
    Calls Try.prog 82 #[.slice A b.length c] w fun e w' => e = .returned (.bool z) ∧ w = w' := by
  obtain ⟨r, hr⟩ : ∃ r, idxZ b = r := ⟨_, rfl⟩
  have h1 := idxZ_calls w A c b hl hC
  obtain ⟨h2, h3⟩ := idxZ_ge b
  rw [hr] at h1 h2 h3
  rw [hz] at h3
  have H1 := Aside0.mk h1
  have hc : Calls Try.prog 108 #[.slice A b.length c, .func (Fn.func 109) #[] #[]] w fun e w' => e = .returned (.bool (!z)) ∧ w = w' := by
    have H3 := Aside0.mk h3
    clear h1 h3 hr hC hz
    go_enter Try.func108, Try.ntmps108
    go_wp2_with (go_at_call 120; with_reducible refine H1.out.mono ?_; rintro e w' ⟨rfl, rfl⟩)
    go_ret
    exact ⟨by rw [← H3.out]; rfl, rfl⟩
  have HC := Aside0.mk hc
  clear h1 h3 hr hC hz hc
  go_enter Try.func82, Try.ntmps82
  go_wp2_with (go_at_call 108; with_reducible refine HC.out.mono ?_; rintro e w' ⟨rfl, rfl⟩)
  go_ret
  cases z <;> exact ⟨rfl, rfl⟩
end Go.Proofs.Ytlepcmljmibdnaa
namespace Go.Proofs.Ytlepcmljmibdnaa
open Go.RowKit Go.Proofs.YtlepcmljmibdnaaW.PrintWords Go.Proofs.YtlepcmljmibdnaaW.PrintLast Go.Proofs.YtlepcmljmibdnaaW.PrintMore PWalOpens
set_option linter.unusedVariables false
set_option linter.unusedSimpArgs false
def full64 : Int := 18446744073709551615
/-- so many numbers, read -/
def readK : Nat → List Int → Bool → List Int × List Int × Bool
  | 0, xs, bad => ([], xs, bad)
  | k + 1, xs, bad => ((rdN xs bad full64).1 :: (readK k (rdN xs bad full64).2.1 (rdN xs bad full64).2.2).1, (readK k (rdN xs bad full64).2.1 (rdN xs bad full64).2.2).2)
theorem readK_len (k : Nat) : ∀ xs bad, (readK k xs bad).1.length = k := by
  induction k with
  | zero => intro _ _; rfl
  | succ k ih => intro xs bad; simp [readK, ih]
/-- one more at the end -/
theorem readK_snoc (k : Nat) : ∀ (xs : List Int) (bad : Bool), readK (k + 1) xs bad = ((readK k xs bad).1 ++ [(rdN (readK k xs bad).2.1 (readK k xs bad).2.2 full64).1], (rdN (readK k xs bad).2.1 (readK k xs bad).2.2 full64).2) := by
  induction k with
  | zero => intro xs bad; simp [readK]
  | succ k ih =>
    intro xs bad
    have h := ih (rdN xs bad full64).2.1 (rdN xs bad full64).2.2
    rw [show readK (k + 1 + 1) xs bad = ((rdN xs bad full64).1 :: (readK (k + 1) (rdN xs bad full64).2.1 (rdN xs bad full64).2.2).1, (readK (k + 1) (rdN xs bad full64).2.1 (rdN xs bad full64).2.2).2) from rfl, h]
    simp [readK]
theorem rdN_bad (xs : List Int) (mx : Int) : rdN xs true mx = (0, [], true) := by simp [rdN]
theorem rdN_range {xs : List Int} {bad : Bool} {mx : Int} (h : isBytes xs) (hm : 0 ≤ mx) (hm2 : mx ≤ full64) : 0 ≤ (rdN xs bad mx).1 ∧ (rdN xs bad mx).1 ≤ mx := by
  obtain ⟨n, r, b', e⟩ : ∃ n r b', rdN xs bad mx = (n, r, b') := ⟨_, _, _, rfl⟩
  have h1 := (rdN_bytes h e).2.2
  rw [e]
  refine ⟨h1, ?_⟩
  cases bad with
  | true => rw [rdN_bad] at e; cases e; exact hm
  | false =>
    cases b' with
    | false => exact (rdN_canon h e).2.2.1
    | true =>
      unfold rdN at e
      rw [if_neg (by decide)] at e
      cases xs with
      | nil => cases e; exact hm
      | cons b t =>
        simp only at e
        split at e
        · split at e
          · cases e
          · cases e; exact hm
        · split at e
          · cases e; exact hm
          · split at e
            · cases e; exact hm
            · cases e
theorem readK_bytes (k : Nat) : ∀ (xs : List Int) (bad : Bool), isBytes xs → (bad = true → xs = []) → isBytes (readK k xs bad).2.1 ∧ ((readK k xs bad).2.2 = true → (readK k xs bad).2.1 = []) ∧ (∀ n ∈ (readK k xs bad).1, 0 ≤ n ∧ n < 18446744073709551616) := by
  induction k with
  | zero => intro xs bad h hb; exact ⟨h, hb, fun n hn => by cases hn⟩
  | succ k ih =>
    intro xs bad h hb
    have e : rdN xs bad full64 = ((rdN xs bad full64).1, (rdN xs bad full64).2.1, (rdN xs bad full64).2.2) := rfl
    obtain ⟨h1, h2, _⟩ := rdN_bytes h e
    obtain ⟨h3, h4, h5⟩ := ih _ _ h1 h2
    refine ⟨h3, h4, fun n hn => ?_⟩
    rcases List.mem_cons.1 hn with rfl | hn
    · have := rdN_range (bad := bad) h (show (0 : Int) ≤ full64 by decide) (Int.le_refl full64)
      have e2 : full64 = 18446744073709551615 := rfl
      omega
    · exact h5 n hn
theorem readK_bad (k : Nat) : (readK k [] true).2 = ([], true) := by
  induction k with
  | zero => rfl
  | succ k ih => simp [readK, rdN_bad, ih]
theorem readK_canon (k : Nat) : ∀ (xs : List Int), isBytes xs → ∀ l r, readK k xs false = (l, r, false) → xs = encNs l ++ r := by
  induction k with
  | zero => intro xs h l r e; cases e; rfl
  | succ k ih =>
    intro xs h l r e
    obtain ⟨n, r1, b1, e1⟩ : ∃ n r1 b1, rdN xs false full64 = (n, r1, b1) := ⟨_, _, _, rfl⟩
    simp only [readK, e1] at e
    cases b1 with
    | true =>
      have h2 := (rdN_bytes h e1).2.1 rfl
      subst h2
      injection e with _ e
      rw [readK_bad] at e
      cases e
    | false =>
      obtain ⟨h2, _, _, _⟩ := rdN_canon h e1
      obtain ⟨l2, r2, b2, e2⟩ : ∃ l2 r2 b2, readK k r1 false = (l2, r2, b2) := ⟨_, _, _, rfl⟩
      rw [e2] at e
      simp only at e
      injection e with e3 e4
      injection e4 with e4 e5
      subst e4 e5
      have h3 := ih r1 (rdN_bytes h e1).1 l2 r2 e2
      rw [h2, h3, ← e3]
      simp [encNs]
theorem readK_enc (l : List Int) (r : List Int) (h : ∀ n ∈ l, 0 ≤ n ∧ n < 18446744073709551616) : readK l.length (encNs l ++ r) false = (l, r, false) := by
  induction l with
  | nil => rfl
  | cons n l ih =>
    have hn := h n (by simp)
    have e2 : full64 = 18446744073709551615 := rfl
    have h1 := rdN_enc n full64 (encNs l ++ r) hn.1 (by omega) hn.2
    have e : encNs (n :: l) ++ r = encN n ++ (encNs l ++ r) := by simp [encNs]
    rw [List.length_cons, e]
    simp only [readK, h1]
    rw [ih (fun m hm => h m (by simp [hm]))]
/-- what is read of a slot's bytes behind the first two: its number, how many, the numbers, what is left, whether it failed -/
def slotG (b : List Int) : Int × List Int × Bool := rdN (b.drop 2) false full64
def slotC (b : List Int) : Int × List Int × Bool := rdN (slotG b).2.1 (slotG b).2.2 4
def slotL (b : List Int) : List Int × List Int × Bool := readK (slotC b).1.toNat (slotC b).2.1 (slotC b).2.2
/-- does it hold -/
def slotV (b : List Int) : Bool := !(slotL b).2.2 && (slotB (slotG b).1 (slotL b).1).isPrefixOf b && allZ (b.drop (slotB (slotG b).1 (slotL b).1).length)
def unP (b : List Int) : Int × List Int × Int := if b.take 2 = [70, 83] then (if slotV b then ((slotG b).1, (slotL b).1, 0) else (0, [], 60)) else (0, [], 60)
theorem slotB_len (g : Int) (l : List Int) : (slotB g l).length = (slotF g l).length + 4 := by simp [slotB, be4]
theorem slot_parts (b : List Int) (h : isBytes b) : (0 ≤ (slotG b).1 ∧ (slotG b).1 < 18446744073709551616) ∧ (0 ≤ (slotC b).1 ∧ (slotC b).1 ≤ 4) ∧ (∀ n ∈ (slotL b).1, 0 ≤ n ∧ n < 18446744073709551616) ∧ (slotL b).1.length ≤ 4 ∧ ((slotL b).2.2 = true → (slotL b).2.1 = []) := by
  have e2 : full64 = 18446744073709551615 := rfl
  have h0 : isBytes (b.drop 2) := h.drop 2
  have e : rdN (b.drop 2) false full64 = ((slotG b).1, (slotG b).2.1, (slotG b).2.2) := rfl
  obtain ⟨h1, h2, _⟩ := rdN_bytes h0 e
  have h3 := rdN_range (bad := false) h0 (show (0 : Int) ≤ full64 by decide) (Int.le_refl full64)
  have e' : rdN (slotG b).2.1 (slotG b).2.2 4 = ((slotC b).1, (slotC b).2.1, (slotC b).2.2) := rfl
  obtain ⟨h4, h5, _⟩ := rdN_bytes h1 e'
  have h6 := rdN_range (bad := (slotG b).2.2) h1 (show (0 : Int) ≤ 4 by decide) (by omega)
  obtain ⟨h7, h8, h9⟩ := readK_bytes (slotC b).1.toNat _ _ h4 h5
  refine ⟨⟨h3.1, ?_⟩, h6, h9, ?_, h8⟩
  · have := h3.2
    unfold slotG; omega
  · unfold slotL
    rw [readK_len]
    have := h6.2
    unfold slotC at *
    omega
/-- what was read, read well: the bytes up to there are the slot's own -/
theorem slot_read (b : List Int) (h : isBytes b) (hm : b.take 2 = [70, 83]) (hb : (slotL b).2.2 = false) : b = slotF (slotG b).1 (slotL b).1 ++ (slotL b).2.1 ∧ (slotG b).2.2 = false := by
  have h0 : isBytes (b.drop 2) := h.drop 2
  have e : rdN (b.drop 2) false full64 = ((slotG b).1, (slotG b).2.1, (slotG b).2.2) := rfl
  obtain ⟨h1, h2, _⟩ := rdN_bytes h0 e
  have e' : rdN (slotG b).2.1 (slotG b).2.2 4 = ((slotC b).1, (slotC b).2.1, (slotC b).2.2) := rfl
  obtain ⟨h4, h5, _⟩ := rdN_bytes h1 e'
  have hc : (slotC b).2.2 = false := by
    cases hc : (slotC b).2.2 with
    | false => rfl
    | true =>
      have := h5 hc
      unfold slotL at hb
      rw [this, hc, readK_bad] at hb
      cases hb
  have hg : (slotG b).2.2 = false := by
    cases hg : (slotG b).2.2 with
    | false => rfl
    | true =>
      rw [hg, rdN_bad] at e'
      rw [show (slotC b).2.2 = true from (congrArg (fun z => z.2.2) e').symm] at hc
      cases hc
  rw [hg] at e e'
  rw [hc] at e'
  have p1 := (rdN_canon h0 e).1
  have p2 := (rdN_canon h1 e').1
  have e3 : readK (slotC b).1.toNat (slotC b).2.1 false = ((slotL b).1, (slotL b).2.1, false) := by
    have : slotL b = readK (slotC b).1.toNat (slotC b).2.1 (slotC b).2.2 := rfl
    rw [hc] at this
    rw [← this, ← hb]
  have p3 := readK_canon _ _ h4 _ _ e3
  have hl : ((slotL b).1.length : Int) = (slotC b).1 := by
    have : (slotL b).1.length = (slotC b).1.toNat := readK_len _ _ _
    have := (rdN_canon h1 e').2.1
    omega
  refine ⟨?_, hg⟩
  have p0 : b = [70, 83] ++ b.drop 2 := by rw [← hm, List.take_append_drop]
  generalize (slotG b).1 = g at *
  generalize (slotL b).1 = l at *
  generalize (slotL b).2.1 = r at *
  refine p0.trans ?_
  rw [p1, p2, p3]
  unfold slotF
  rw [hl]
  simp [encNs]
theorem slotV_short (b : List Int) (h : isBytes b) (hm : b.take 2 = [70, 83]) (hr : (slotL b).2.1.length < 4) : slotV b = false := by
  unfold slotV
  cases hb : (slotL b).2.2 with
  | true => rfl
  | false =>
    obtain ⟨h1, _⟩ := slot_read b h hm hb
    have h2 : (slotB (slotG b).1 (slotL b).1).isPrefixOf b = false := by
      rw [← Bool.not_eq_true, List.isPrefixOf_iff_prefix]
      intro hp
      have h3 := hp.length_le
      have h4 := congrArg List.length h1
      rw [List.length_append] at h4
      rw [slotB_len] at h3
      omega
    rw [h2]
    rfl
/-- as the program asks -/
theorem slotV_prog (b : List Int) (h : isBytes b) (hm : b.take 2 = [70, 83]) (hr : 4 ≤ (slotL b).2.1.length) :
    slotV b = (decide (slotB (slotG b).1 (slotL b).1 = b.take (b.length - (slotL b).2.1.length + 4)) && allZ (b.drop (b.length - (slotL b).2.1.length + 4))) := by
  unfold slotV
  have hb : (slotL b).2.2 = false := by
    cases hb : (slotL b).2.2 with
    | false => rfl
    | true => rw [(slot_parts b h).2.2.2.2 hb] at hr; simp at hr
  obtain ⟨h1, _⟩ := slot_read b h hm hb
  have h4 := congrArg List.length h1
  rw [List.length_append] at h4
  have hl : b.length - (slotL b).2.1.length + 4 = (slotB (slotG b).1 (slotL b).1).length := by rw [slotB_len]; omega
  rw [hb, hl]
  congr 1
  rw [Bool.eq_iff_iff]
  simp only [Bool.not_false, Bool.true_and, List.isPrefixOf_iff_prefix, decide_eq_true_eq]
  exact List.prefix_iff_eq_take
theorem unP_bytes (b : List Int) (h : isBytes b) {g : Int} {l : List Int} {e : Int} (hu : unP b = (g, l, e)) : (0 ≤ g ∧ g < 18446744073709551616) ∧ l.length ≤ 4 ∧ (∀ n ∈ l, 0 ≤ n ∧ n < 18446744073709551616) ∧ (e = 0 ∨ e = 60) := by
  obtain ⟨h1, _, h3, h4, _⟩ := slot_parts b h
  unfold unP at hu
  split at hu
  · split at hu
    · cases hu; exact ⟨h1, h4, h3, .inl rfl⟩
    · cases hu; exact ⟨by omega, by simp, fun n hn => (by cases hn), .inr rfl⟩
  · cases hu; exact ⟨by omega, by simp, fun n hn => (by cases hn), .inr rfl⟩
/-- a slot's own bytes, and noughts behind them -/
theorem unP_slot (g : Int) (l : List Int) (k : Nat) (hg : 0 ≤ g ∧ g < 18446744073709551616) (hl : l.length ≤ 4) (hn : ∀ n ∈ l, 0 ≤ n ∧ n < 18446744073709551616) : unP (slotB g l ++ List.replicate k 0) = (g, l, 0) := by
  have e2 : full64 = 18446744073709551615 := rfl
  obtain ⟨t, ht⟩ : ∃ t, be4 (crcB (slotF g l)) ++ List.replicate k 0 = t := ⟨_, rfl⟩
  have e : slotB g l ++ List.replicate k 0 = [70, 83] ++ (encN g ++ (encN (l.length : Int) ++ (encNs l ++ t))) := by
    obtain ⟨q, hq⟩ : ∃ q, be4 (crcB (slotF g l)) = q := ⟨_, rfl⟩
    rw [show slotB g l = slotF g l ++ q by rw [← hq]; rfl, ← ht, hq]
    unfold slotF
    simp [encNs]
  have d : (slotB g l ++ List.replicate k 0).drop 2 = encN g ++ (encN (l.length : Int) ++ (encNs l ++ t)) := by rw [e]; rfl
  have hG : slotG (slotB g l ++ List.replicate k 0) = (g, encN (l.length : Int) ++ (encNs l ++ t), false) := by
    unfold slotG; rw [d]; exact rdN_enc g full64 _ hg.1 (by omega) hg.2
  have hC : slotC (slotB g l ++ List.replicate k 0) = ((l.length : Int), encNs l ++ t, false) := by
    unfold slotC; rw [hG]; exact rdN_enc _ 4 _ (by omega) (by omega) (by omega)
  have hL : slotL (slotB g l ++ List.replicate k 0) = (l, t, false) := by
    unfold slotL; rw [hC]; exact readK_enc l t hn
  unfold unP
  rw [if_pos (by rw [e]; rfl), if_pos]
  · rw [hG, hL]
  · unfold slotV
    rw [hG, hL]
    simp [allZ, List.isPrefixOf_iff_prefix]
end Go.Proofs.Ytlepcmljmibdnaa
