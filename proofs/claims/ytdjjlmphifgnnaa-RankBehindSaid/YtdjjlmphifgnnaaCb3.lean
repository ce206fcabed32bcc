/- Parts of one proof, joined: Sua. Conditions: those of each statement. -/
import Derived.Test.YtdjjlmphifgnnaaCb2
namespace Go.Proofs.Ytdjjlmphifgnnaa
open Go.Shelf Go.RowKit Go.Lib Go.Sort
open Stb (mrg Pre Sorted)
set_option linter.unusedVariables false
set_option linter.unusedSimpArgs false
theorem swk_eq {α : Type} [Inhabited α] {enc : α → List Value} {k : Nat} {w0 w : World} {blk off : Nat} {L L' : List α} (h : L = L') (S : SWK enc k w0 blk off L.toArray w) : SWK enc k w0 blk off L'.toArray w := h ▸ S
theorem mrg_flat {α : Type} {le : α → α → Bool} {X Y : List α} (h : X = [] ∨ Y = []) : mrg le X Y = X ++ Y := by
  rcases h with rfl | rfl
  · rw [Stb.mrg_nil]; rfl
  · rw [Stb.mrg_nil2, List.append_nil]
theorem sym_parts {α : Type} {le : α → α → Bool} (hp : Pre le) {xs ys : List α} (h1 : Sorted le xs) (h2 : Sorted le ys) (a m b mid s0 r0 c e : Nat) (hm : m = a + xs.length) (hb : b = m + ys.length) (hmid : 2 * mid ≤ a + b ∧ a + b < 2 * mid + 2)
    (hs : (mid < m ∧ s0 + b = mid + m ∧ r0 = mid) ∨ (m ≤ mid ∧ s0 = a ∧ r0 = m)) (hc : s0 ≤ c ∧ c ≤ r0) (he : e + c = mid + m)
    (H1 : c = s0 ∨ ∀ x y, xs[c - 1 - a]? = some x → ys[e - m]? = some y → le x y = true) (H2 : c = r0 ∨ ∀ x y, xs[c - a]? = some x → ys[e - 1 - m]? = some y → le x y = false) :
    ∃ X1 X2 Y1 Y2, xs = X1 ++ X2 ∧ ys = Y1 ++ Y2 ∧ X1.length + a = c ∧ Y1.length + m = e ∧ mrg le xs ys = mrg le X1 Y1 ++ mrg le X2 Y2 := by
  obtain ⟨k1, k2, k3, k4, h⟩ := Stb.sym_cut hp h1 h2 a m b mid s0 r0 c e hm hb hmid hs hc he H1 H2
  exact ⟨xs.take (c - a), xs.drop (c - a), ys.take (e - m), ys.drop (e - m), (List.take_append_drop _ _).symm, (List.take_append_drop _ _).symm, by rw [List.length_take]; omega, by rw [List.length_take]; omega, h⟩
set_option maxHeartbeats 4000000 in
set_option maxRecDepth 1000000 in
theorem sym_far {α : Type} [Inhabited α] (k : Nat) (zE : ∀ w, (Go.sizeOf 34).run Try.prog w = .ok k w) (enc : α → List Value) (cf : α → α → Int) (hp : Pre (leOf cf)) (g : Nat) (cb : Array Value) (blk off cap : Nat) (d0 : Array α) (pre xs ys post : List α) (w0 w : World) (N a m b : Nat) (hN : (pre ++ xs ++ ys ++ post).length = N) (ha : pre.length = a) (hm : a + xs.length = m) (hb : m + ys.length = b) (h2 : 2 ≤ xs.length) (h3 : 2 ≤ ys.length)
    (eg : ∀ args w, (callFunc g args).run Try.prog w = .ok (.enter g args) w) (hC : CmpLays Try.prog g cb enc k cf blk off N w0)
    (R : RowK enc k w0 blk off d0) (hs : d0.size = N) (S : SWK enc k w0 blk off (pre ++ xs ++ ys ++ post).toArray w) (hsz : N < 2305843009213693952) (hs1 : Sorted (leOf cf) xs) (hs2 : Sorted (leOf cf) ys) (mid : Nat) (hmid : (a + b) / 2 = mid) (hway : mid < m)
    (ih : ∀ (pre xs' ys' post : List α) (w : World) (a m b : Nat), xs'.length + ys'.length < xs.length + ys.length → (pre ++ xs' ++ ys' ++ post).length = N → pre.length = a → a + xs'.length = m → m + ys'.length = b → 0 < xs'.length → 0 < ys'.length → SWK enc k w0 blk off (pre ++ xs' ++ ys' ++ post).toArray w → Sorted (leOf cf) xs' → Sorted (leOf cf) ys' →
      Calls Try.prog 50 #[.slice (some ⟨blk, off, none⟩) N cap, .int .i64 a, .int .i64 m, .int .i64 b, .func (.func g) #[] cb] w fun e w' => e = .returned (.tuple #[]) ∧ SWK enc k w0 blk off (pre ++ mrg (leOf cf) xs' ys' ++ post).toArray w') :
    Calls Try.prog 50 #[.slice (some ⟨blk, off, none⟩) N cap, .int .i64 a, .int .i64 m, .int .i64 b, .func (.func g) #[] cb] w fun e w' => e = .returned (.tuple #[]) ∧ SWK enc k w0 blk off (pre ++ mrg (leOf cf) xs ys ++ post).toArray w' := by
  have S0 : Aside (SWK enc k w0 blk off (pre ++ xs ++ ys ++ post).toArray w) := S
  have HL : Aside (pre.length = a ∧ a + xs.length = m ∧ m + ys.length = b ∧ 2 ≤ xs.length ∧ 2 ≤ ys.length) := ⟨ha, hm, hb, h2, h3⟩
  have hN' : Aside ((pre ++ xs ++ ys ++ post).length = N) := hN
  have HSO : Aside (Sorted (leOf cf) xs ∧ Sorted (leOf cf) ys) := ⟨hs1, hs2⟩
  have IH : Aside _ := ih
  have hbN : b ≤ N := by simp only [List.length_append] at hN; omega
  have hmb : m + 2 ≤ b := by omega
  have ham : a + 2 ≤ m := by omega
  have mixed : Try.prog.follows .mixedOrders = true := by kernel_rfl
  have c1 : IntKind.i64.wrap ((m : Int) - (a : Int)) = (m : Int) - (a : Int) := by rw [IntKind.wrap_i64]; omega
  have c2 : ((m : Int) - (a : Int) == 1) = false := by simp; omega
  have c3 : IntKind.i64.wrap ((b : Int) - (m : Int)) = (b : Int) - (m : Int) := by rw [IntKind.wrap_i64]; omega
  have c4 : ((b : Int) - (m : Int) == 1) = false := by simp; omega
  have e1 : ((a : Int) + (b : Int)) / 2 = (mid : Int) := by omega
  have hmm : 2 * mid ≤ a + b ∧ a + b < 2 * mid + 2 := by omega
  have c5 : IntKind.i64.wrap ((mid : Int) + (m : Int) - (b : Int)) = (mid : Int) + (m : Int) - (b : Int) := by rw [IntKind.wrap_i64]; omega
  have c6 : IntKind.i64.wrap ((mid : Int) + (m : Int) - 1) = (mid : Int) + (m : Int) - 1 := by rw [IntKind.wrap_i64]; omega
  have w1 : (mid : Int) < (m : Int) := by omega
  obtain ⟨s0, hs0⟩ : ∃ s0 : Nat, s0 + b = mid + m := ⟨mid + m - b, by omega⟩
  obtain ⟨r0, hr0⟩ : ∃ r0 : Nat, r0 = mid := ⟨_, rfl⟩
  have c7 : (mid : Int) + (m : Int) - (b : Int) = (s0 : Int) := by omega
  clear S hN ha hm hb hs1 hs2 h2 h3 ih
  go_enter Try.func50, Try.ntmps50
  go_wp2
  go_loopg [20, 21] (r0 - s0) (fun kx s20 s21 wr => ∃ (c r : Nat), s20 = .int .i64 (c : Int) ∧ s21 = .int .i64 (r : Int) ∧ s0 ≤ c ∧ c ≤ r ∧ r ≤ r0 ∧ r - c ≤ kx ∧ Aside ((c = s0 ∨ ∀ x y, xs[c - 1 - a]? = some x → ys[mid + m - c - m]? = some y → leOf cf x y = true) ∧ (r = r0 ∨ ∀ x y, xs[r - a]? = some x → ys[mid + m - r - 1 - m]? = some y → leOf cf x y = false)) ∧ Aside (SWK enc k w0 blk off (pre ++ xs ++ ys ++ post).toArray wr))
  case atStart => exact ⟨s0, r0, by go_num, by go_num, Nat.le_refl _, by omega, Nat.le_refl _, Nat.le_refl _, ⟨.inl rfl, .inl rfl⟩, S0⟩
  case round =>
    clear c1 c2 c3 c4
    obtain ⟨c, r, rfl, rfl, hsc, hcr, hrr, hkx, HQ, S1⟩ := hrel
    by_cases hlt : c < r
    · have q1 : (c : Int) < (r : Int) := by omega
      go_wp2_with fail
      obtain ⟨q, hq, hpq, hqr⟩ : ∃ q : Nat, ((c : Int) + (r : Int)) / 2 = (q : Int) ∧ c ≤ q ∧ q < r := ⟨(c + r) / 2, by omega, by omega, by omega⟩
      rw [hq]
      obtain ⟨h1, h2, h3, h4, h5⟩ := HL.out
      obtain ⟨z, hz⟩ : ∃ z : Nat, mid + m - 1 - q = z := ⟨_, rfl⟩
      have hz1 : m ≤ z ∧ z < b ∧ a ≤ q ∧ q < m ∧ z + q + 1 = mid + m := by omega
      obtain ⟨x, hx⟩ : ∃ x, xs[q - a]? = some x := ⟨xs[q - a]'(by omega), List.getElem?_eq_getElem _⟩
      obtain ⟨y, hy⟩ : ∃ y, ys[z - m]? = some y := ⟨ys[z - m]'(by omega), List.getElem?_eq_getElem _⟩
      obtain ⟨dk, hdk⟩ : ∃ dk, (pre ++ xs ++ ys ++ post).toArray = dk := ⟨_, rfl⟩
      have hsz2 : dk.size = N := by rw [← hdk, ← hN'.out]; simp
      have dx : dk[q]! = x := by
        rw [← hdk, List.getElem!_toArray, List.getElem!_eq_getElem?_getD, List.append_assoc, List.append_assoc, List.getElem?_append_right (by omega), show q - pre.length = q - a by omega, List.getElem?_append_left (by omega), hx]
        rfl
      have dy : dk[z]! = y := by
        rw [← hdk, List.getElem!_toArray, List.getElem!_eq_getElem?_getD, List.append_assoc, List.getElem?_append_right (by simp; omega), show z - (pre ++ xs).length = z - m by simp; omega, List.getElem?_append_left (by omega), hy]
        rfl
      rw [hdk] at S1
      have la := S1.out.ld R (by omega) Try.prog z (by omega)
      have lb := S1.out.ld R (by omega) Try.prog q (by omega)
      rw [dy] at la
      rw [dx] at lb
      have hc := S1.out.cmp hC (by omega) y x
      have r1 : IntKind.i64.wrap ((mid : Int) + (m : Int) - 1 - (q : Int)) = (mid : Int) + (m : Int) - 1 - (q : Int) := by rw [IntKind.wrap_i64]; omega
      have pa : (0 : Int) ≤ (mid : Int) + (m : Int) - 1 - (q : Int) := by omega
      have ba : (mid : Int) + (m : Int) - 1 - (q : Int) < (N : Int) := by omega
      have pa2 : (q : Int) ≤ (mid : Int) + (m : Int) - 1 := by omega
      have ea : ((mid : Int) + (m : Int) - 1 - (q : Int)).toNat = z := by omega
      have pb : (0 : Int) ≤ (q : Int) := by omega
      have bb : (q : Int) < (N : Int) := by omega
      have eb : ((q : Int)).toNat = q := by omega
      have HX : Aside (xs[q - a]? = some x ∧ ys[z - m]? = some y ∧ (m ≤ z ∧ z < b ∧ a ≤ q ∧ q < m ∧ z + q + 1 = mid + m)) := ⟨hx, hy, hz1⟩
      have HDK : Aside ((pre ++ xs ++ ys ++ post).toArray = dk) := hdk
      clear hx hy hdk dy dx hq h1 h2 h3 h4 h5 hz1 hz
      by_cases hlv : cf y x < 0
      · have hd : decide (cf y x < 0) = true := decide_eq_true hlv
        go_quiet_grown (first | (go_at_fn g; refine Calls.grown_of (hc _ _)))
        have SV : Aside (SWK enc k w0 blk off dk (grow (wr.drewN nq) osq)) := S1.out.grown nq osq
        clear la lb hc S1
        generalize grow (wr.drewN nq) osq = wv at SV ⊢
        clear nq osq
        obtain ⟨gq, rfl⟩ : ∃ gq, gk = gq + 1 := ⟨gk - 1, by omega⟩
        go_wp2
        go_roundg gq
        case measure => omega
        case rel =>
          obtain ⟨f1, f2, f3⟩ := HX.out
          exact ⟨c, q, rfl, rfl, hsc, hpq, by omega, by omega, ⟨HQ.out.1, .inr fun u v hu hv => by rw [f1] at hu; injection hu with hu; subst hu; rw [show mid + m - q - 1 - m = z - m by omega, f2] at hv; injection hv with hv; subst hv; simp [leOf, hlv]⟩, (show SWK _ _ _ _ _ _ _ from by rw [HDK.out]; exact SV.out)⟩
      · have hd : decide (cf y x < 0) = false := decide_eq_false hlv
        go_quiet_grown (first | (go_at_fn g; refine Calls.grown_of (hc _ _)))
        have SV : Aside (SWK enc k w0 blk off dk (grow (wr.drewN nq) osq)) := S1.out.grown nq osq
        clear la lb hc S1
        generalize grow (wr.drewN nq) osq = wv at SV ⊢
        clear nq osq
        obtain ⟨gq, rfl⟩ : ∃ gq, gk = gq + 1 := ⟨gk - 1, by omega⟩
        go_wp2
        go_roundg gq
        case measure => omega
        case rel =>
          obtain ⟨f1, f2, f3⟩ := HX.out
          exact ⟨q + 1, r, by go_num, rfl, by omega, by omega, hrr, by omega, ⟨.inr fun u v hu hv => by rw [Nat.add_sub_cancel, f1] at hu; injection hu with hu; subst hu; rw [show mid + m - (q + 1) - m = z - m by omega, f2] at hv; injection hv with hv; subst hv; simp [leOf, hlv], HQ.out.2⟩, (show SWK _ _ _ _ _ _ _ from by rw [HDK.out]; exact SV.out)⟩
    · obtain rfl : c = r := by omega
      have q1 : ¬ ((c : Int) < (c : Int)) := by omega
      obtain ⟨h1, h2, h3, h4, h5⟩ := HL.out
      obtain ⟨e, he⟩ : ∃ e : Nat, e + c = mid + m := ⟨mid + m - c, by omega⟩
      obtain ⟨X1, X2, Y1, Y2, eX, eY, lX, lY, hcut⟩ := sym_parts hp HSO.out.1 HSO.out.2 a m b mid s0 r0 c e h2.symm h3.symm ⟨by omega, by omega⟩ (.inl ⟨hway, hs0, hr0⟩) ⟨hsc, hrr⟩ he (by have := HQ.out.1; rwa [show mid + m - c - m = e - m by omega] at this) (by have := HQ.out.2; rwa [show mid + m - c - 1 - m = e - 1 - m by omega] at this)
      clear HQ
      subst eX eY
      have es : IntKind.i64.wrap ((mid : Int) + (m : Int) - (c : Int)) = (e : Int) := by rw [IntKind.wrap_i64]; omega
      have so := HSO.out
      have sX1 : Sorted (leOf cf) X1 := (List.pairwise_append.1 so.1).1
      have sX2 : Sorted (leOf cf) X2 := (List.pairwise_append.1 so.1).2.1
      have sY1 : Sorted (leOf cf) Y1 := (List.pairwise_append.1 so.2).1
      have sY2 : Sorted (leOf cf) Y2 := (List.pairwise_append.1 so.2).2.1
      rw [List.length_append] at h2 h4
      rw [List.length_append] at h3 h5
      have hn := hN'.out
      simp only [List.length_append] at hn
      have lM := Stb.mrg_length (le := leOf cf) _ X1 Y1 (Nat.le_refl _)
      have HF : Aside (pre.length = a ∧ X1.length + a = c ∧ X2.length + c = m ∧ Y1.length + m = e ∧ Y2.length + e = b ∧ c + Y1.length = mid ∧ mid + X2.length = e ∧ pre.length + (mrg (leOf cf) X1 Y1).length = mid ∧ b + post.length = N ∧ 0 < X1.length + X2.length ∧ 0 < Y1.length + Y2.length) := ⟨h1, lX, by omega, lY, by omega, by omega, by omega, by omega, by omega, by omega, by omega⟩
      have HSS : Aside (Sorted (leOf cf) X1 ∧ Sorted (leOf cf) X2 ∧ Sorted (leOf cf) Y1 ∧ Sorted (leOf cf) Y2) := ⟨sX1, sX2, sY1, sY2⟩
      have HCUT : Aside (mrg (leOf cf) (X1 ++ X2) (Y1 ++ Y2) = mrg (leOf cf) X1 Y1 ++ mrg (leOf cf) X2 Y2) := hcut
      have bA : a ≤ c := by omega
      have bB : c ≤ m := by omega
      have bC : m ≤ e := by omega
      have bD : e ≤ b := by omega
      have bE : c ≤ mid := by omega
      have bF : mid ≤ e := by omega
      have iAB : a = c → X1 = [] := fun h => List.eq_nil_of_length_eq_zero (by omega)
      have iBC : c = m → X2 = [] := fun h => List.eq_nil_of_length_eq_zero (by omega)
      have iCE : m = e → Y1 = [] := fun h => List.eq_nil_of_length_eq_zero (by omega)
      have iEB : e = b → Y2 = [] := fun h => List.eq_nil_of_length_eq_zero (by omega)
      have HI : Aside _ := And.intro iAB (And.intro iBC (And.intro iCE iEB))
      have g1 : (m < e) = (c < mid) := by simp; omega
      have g2 : (c < m) = (mid < e) := by simp; omega
      have HNE : Aside ((c < m ↔ mid < e) ∧ (m < e ↔ c < mid)) := ⟨by omega, by omega⟩
      clear h1 h2 h3 h4 h5 so sX1 sX2 sY1 sY2 lX lY lM hn hcut iAB iBC iCE iEB g1 g2 he
      rcases Nat.lt_or_ge a c with hA | hA <;> rcases Nat.lt_or_ge m e with hB | hB <;> rcases Nat.lt_or_ge c m with hC | hC <;> rcases Nat.lt_or_ge e b with hD | hD
      · skip
        have f1 : ((a : Int) < (c : Int)) := by omega
        have f2 : ((m : Int) < (e : Int)) := by omega
        have f3 : ((c : Int) < (m : Int)) := by omega
        have f4 : ((e : Int) < (b : Int)) := by omega
        have f5 : ((c : Int) < (mid : Int)) := by have := HNE.out; omega
        have f6 : ((mid : Int) < (e : Int)) := by have := HNE.out; omega
        obtain ⟨j1, j2, j3, j4⟩ := HI.out
        have HROT : Aside _ := rotate_calls k zE enc g cb blk off cap d0 (pre ++ X1) X2 Y1 (Y2 ++ post) (by have := HF.out; omega) (by have := HF.out; omega) w0 wr N c m e (by have := HF.out; simp only [List.length_append]; omega) (by have := HF.out; simp only [List.length_append]; omega) (by have := HF.out; omega) (by have := HF.out; omega) R hs (swk_eq (by simp [List.append_assoc]) S1.out) (by omega)
        clear j1 j2 j3 j4 hA hB hC hD
        go_wp2_with (first
          | (go_at_call 53; refine Calls.mono HROT.out ?_; rintro e1 w2 ⟨rfl, hS⟩; have T1 : Aside (SWK enc k w0 blk off (pre ++ X1 ++ Y1 ++ (X2 ++ (Y2 ++ post))).toArray w2) := swk_eq (by simp [List.append_assoc]) hS; clear hS HROT)
          | (go_at_call 50; have HCC := IH.out pre X1 Y1 (X2 ++ (Y2 ++ post)) _ a c mid (by have := HF.out; have := HI.out; simp only [List.length_append]; omega) (by have := HF.out; simp only [List.length_append]; omega) HF.out.1 (by have := HF.out; omega) (by have := HF.out; omega) (by have := HF.out; omega) (by have := HF.out; omega) T1.out HSS.out.1 HSS.out.2.2.1; refine Calls.mono HCC ?_; clear HCC; rintro e1 w3 ⟨rfl, hS⟩; have T2 : Aside (SWK enc k w0 blk off (pre ++ mrg (leOf cf) X1 Y1 ++ X2 ++ Y2 ++ post).toArray w3) := swk_eq (by simp [List.append_assoc]) hS; clear hS T1)
          | (go_at_call 50; have HCC := IH.out (pre ++ mrg (leOf cf) X1 Y1) X2 Y2 post _ mid e b (by have := HF.out; simp only [List.length_append]; omega) (by have := HF.out; simp only [List.length_append]; omega) (by have := HF.out; simp only [List.length_append]; omega) (by have := HF.out; omega) (by have := HF.out; omega) (by have := HF.out; omega) (by have := HF.out; omega) T2.out HSS.out.2.1 HSS.out.2.2.2; refine Calls.mono HCC ?_; clear HCC; rintro e1 w4 ⟨rfl, hS⟩; have T3 : Aside _ := hS; clear hS T2))
        go_end0
        exact ⟨rfl, swk_eq (by rw [HCUT.out]; simp [List.append_assoc]) T3.out⟩
      · skip
        have f1 : ((a : Int) < (c : Int)) := by omega
        have f2 : ((m : Int) < (e : Int)) := by omega
        have f3 : ((c : Int) < (m : Int)) := by omega
        have f4 : ¬ ((e : Int) < (b : Int)) := by omega
        have f5 : ((c : Int) < (mid : Int)) := by have := HNE.out; omega
        have f6 : ((mid : Int) < (e : Int)) := by have := HNE.out; omega
        obtain ⟨j1, j2, j3, j4⟩ := HI.out
        have ZD : Aside (Y2 = []) := j4 (by omega)
        have HROT : Aside _ := rotate_calls k zE enc g cb blk off cap d0 (pre ++ X1) X2 Y1 (Y2 ++ post) (by have := HF.out; omega) (by have := HF.out; omega) w0 wr N c m e (by have := HF.out; simp only [List.length_append]; omega) (by have := HF.out; simp only [List.length_append]; omega) (by have := HF.out; omega) (by have := HF.out; omega) R hs (swk_eq (by simp [List.append_assoc]) S1.out) (by omega)
        clear j1 j2 j3 j4 hA hB hC hD
        go_wp2_with (first
          | (go_at_call 53; refine Calls.mono HROT.out ?_; rintro e1 w2 ⟨rfl, hS⟩; have T1 : Aside (SWK enc k w0 blk off (pre ++ X1 ++ Y1 ++ (X2 ++ (Y2 ++ post))).toArray w2) := swk_eq (by simp [List.append_assoc]) hS; clear hS HROT)
          | (go_at_call 50; have HCC := IH.out pre X1 Y1 (X2 ++ (Y2 ++ post)) _ a c mid (by have := HF.out; have := HI.out; simp only [List.length_append]; omega) (by have := HF.out; simp only [List.length_append]; omega) HF.out.1 (by have := HF.out; omega) (by have := HF.out; omega) (by have := HF.out; omega) (by have := HF.out; omega) T1.out HSS.out.1 HSS.out.2.2.1; refine Calls.mono HCC ?_; clear HCC; rintro e1 w3 ⟨rfl, hS⟩; have T2 : Aside (SWK enc k w0 blk off (pre ++ mrg (leOf cf) X1 Y1 ++ X2 ++ Y2 ++ post).toArray w3) := swk_eq (by simp [List.append_assoc]) hS; have T3 : Aside (SWK enc k w0 blk off (pre ++ mrg (leOf cf) X1 Y1 ++ mrg (leOf cf) X2 Y2 ++ post).toArray w3) := swk_eq (by rw [mrg_flat (.inr ZD.out)]; simp [List.append_assoc]) T2.out; clear hS T1))
        go_end0
        exact ⟨rfl, swk_eq (by rw [HCUT.out]; simp [List.append_assoc]) T3.out⟩
      · exfalso; have := HF.out; omega
      · exfalso; have := HF.out; omega
      · skip
        have f1 : ((a : Int) < (c : Int)) := by omega
        have f2 : ¬ ((m : Int) < (e : Int)) := by omega
        have f3 : ((c : Int) < (m : Int)) := by omega
        have f4 : ((e : Int) < (b : Int)) := by omega
        have f5 : ¬ ((c : Int) < (mid : Int)) := by have := HNE.out; omega
        have f6 : ((mid : Int) < (e : Int)) := by have := HNE.out; omega
        obtain ⟨j1, j2, j3, j4⟩ := HI.out
        have ZB : Aside (Y1 = []) := j3 (by omega)
        have T1 : Aside (SWK enc k w0 blk off (pre ++ X1 ++ Y1 ++ (X2 ++ (Y2 ++ post))).toArray wr) := swk_eq (by rw [ZB.out]; simp [List.append_assoc]) S1.out
        have T2 : Aside (SWK enc k w0 blk off (pre ++ mrg (leOf cf) X1 Y1 ++ X2 ++ Y2 ++ post).toArray wr) := swk_eq (by rw [mrg_flat (.inr ZB.out)]; simp [List.append_assoc]) T1.out
        clear j1 j2 j3 j4 hA hB hC hD
        go_wp2_with (first
          | (go_at_call 50; have HCC := IH.out (pre ++ mrg (leOf cf) X1 Y1) X2 Y2 post _ mid e b (by have := HF.out; simp only [List.length_append]; omega) (by have := HF.out; simp only [List.length_append]; omega) (by have := HF.out; simp only [List.length_append]; omega) (by have := HF.out; omega) (by have := HF.out; omega) (by have := HF.out; omega) (by have := HF.out; omega) T2.out HSS.out.2.1 HSS.out.2.2.2; refine Calls.mono HCC ?_; clear HCC; rintro e1 w4 ⟨rfl, hS⟩; have T3 : Aside _ := hS; clear hS T2))
        go_end0
        exact ⟨rfl, swk_eq (by rw [HCUT.out]; simp [List.append_assoc]) T3.out⟩
      · exfalso; have := HF.out; omega
      · exfalso; have := HF.out; omega
      · exfalso; have := HF.out; omega
      · skip
        have f1 : ¬ ((a : Int) < (c : Int)) := by omega
        have f2 : ((m : Int) < (e : Int)) := by omega
        have f3 : ((c : Int) < (m : Int)) := by omega
        have f4 : ((e : Int) < (b : Int)) := by omega
        have f5 : ((c : Int) < (mid : Int)) := by have := HNE.out; omega
        have f6 : ((mid : Int) < (e : Int)) := by have := HNE.out; omega
        obtain ⟨j1, j2, j3, j4⟩ := HI.out
        have ZA : Aside (X1 = []) := j1 (by omega)
        have HROT : Aside _ := rotate_calls k zE enc g cb blk off cap d0 (pre ++ X1) X2 Y1 (Y2 ++ post) (by have := HF.out; omega) (by have := HF.out; omega) w0 wr N c m e (by have := HF.out; simp only [List.length_append]; omega) (by have := HF.out; simp only [List.length_append]; omega) (by have := HF.out; omega) (by have := HF.out; omega) R hs (swk_eq (by simp [List.append_assoc]) S1.out) (by omega)
        clear j1 j2 j3 j4 hA hB hC hD
        go_wp2_with (first
          | (go_at_call 53; refine Calls.mono HROT.out ?_; rintro e1 w2 ⟨rfl, hS⟩; have T1 : Aside (SWK enc k w0 blk off (pre ++ X1 ++ Y1 ++ (X2 ++ (Y2 ++ post))).toArray w2) := swk_eq (by simp [List.append_assoc]) hS; have T2 : Aside (SWK enc k w0 blk off (pre ++ mrg (leOf cf) X1 Y1 ++ X2 ++ Y2 ++ post).toArray w2) := swk_eq (by rw [mrg_flat (.inl ZA.out)]; simp [List.append_assoc]) T1.out; clear hS HROT)
          | (go_at_call 50; have HCC := IH.out (pre ++ mrg (leOf cf) X1 Y1) X2 Y2 post _ mid e b (by have := HF.out; simp only [List.length_append]; omega) (by have := HF.out; simp only [List.length_append]; omega) (by have := HF.out; simp only [List.length_append]; omega) (by have := HF.out; omega) (by have := HF.out; omega) (by have := HF.out; omega) (by have := HF.out; omega) T2.out HSS.out.2.1 HSS.out.2.2.2; refine Calls.mono HCC ?_; clear HCC; rintro e1 w4 ⟨rfl, hS⟩; have T3 : Aside _ := hS; clear hS T2))
        go_end0
        exact ⟨rfl, swk_eq (by rw [HCUT.out]; simp [List.append_assoc]) T3.out⟩
      · skip
        have f1 : ¬ ((a : Int) < (c : Int)) := by omega
        have f2 : ((m : Int) < (e : Int)) := by omega
        have f3 : ((c : Int) < (m : Int)) := by omega
        have f4 : ¬ ((e : Int) < (b : Int)) := by omega
        have f5 : ((c : Int) < (mid : Int)) := by have := HNE.out; omega
        have f6 : ((mid : Int) < (e : Int)) := by have := HNE.out; omega
        obtain ⟨j1, j2, j3, j4⟩ := HI.out
        have ZA : Aside (X1 = []) := j1 (by omega)
        have ZD : Aside (Y2 = []) := j4 (by omega)
        have HROT : Aside _ := rotate_calls k zE enc g cb blk off cap d0 (pre ++ X1) X2 Y1 (Y2 ++ post) (by have := HF.out; omega) (by have := HF.out; omega) w0 wr N c m e (by have := HF.out; simp only [List.length_append]; omega) (by have := HF.out; simp only [List.length_append]; omega) (by have := HF.out; omega) (by have := HF.out; omega) R hs (swk_eq (by simp [List.append_assoc]) S1.out) (by omega)
        clear j1 j2 j3 j4 hA hB hC hD
        go_wp2_with (first
          | (go_at_call 53; refine Calls.mono HROT.out ?_; rintro e1 w2 ⟨rfl, hS⟩; have T1 : Aside (SWK enc k w0 blk off (pre ++ X1 ++ Y1 ++ (X2 ++ (Y2 ++ post))).toArray w2) := swk_eq (by simp [List.append_assoc]) hS; have T2 : Aside (SWK enc k w0 blk off (pre ++ mrg (leOf cf) X1 Y1 ++ X2 ++ Y2 ++ post).toArray w2) := swk_eq (by rw [mrg_flat (.inl ZA.out)]; simp [List.append_assoc]) T1.out; have T3 : Aside (SWK enc k w0 blk off (pre ++ mrg (leOf cf) X1 Y1 ++ mrg (leOf cf) X2 Y2 ++ post).toArray w2) := swk_eq (by rw [mrg_flat (.inr ZD.out)]; simp [List.append_assoc]) T2.out; clear hS HROT))
        go_end0
        exact ⟨rfl, swk_eq (by rw [HCUT.out]; simp [List.append_assoc]) T3.out⟩
      · exfalso; have := HF.out; omega
      · exfalso; have := HF.out; omega
      · skip
        have f1 : ¬ ((a : Int) < (c : Int)) := by omega
        have f2 : ¬ ((m : Int) < (e : Int)) := by omega
        have f3 : ((c : Int) < (m : Int)) := by omega
        have f4 : ((e : Int) < (b : Int)) := by omega
        have f5 : ¬ ((c : Int) < (mid : Int)) := by have := HNE.out; omega
        have f6 : ((mid : Int) < (e : Int)) := by have := HNE.out; omega
        obtain ⟨j1, j2, j3, j4⟩ := HI.out
        have ZA : Aside (X1 = []) := j1 (by omega)
        have ZB : Aside (Y1 = []) := j3 (by omega)
        have T1 : Aside (SWK enc k w0 blk off (pre ++ X1 ++ Y1 ++ (X2 ++ (Y2 ++ post))).toArray wr) := swk_eq (by rw [ZB.out]; simp [List.append_assoc]) S1.out
        have T2 : Aside (SWK enc k w0 blk off (pre ++ mrg (leOf cf) X1 Y1 ++ X2 ++ Y2 ++ post).toArray wr) := swk_eq (by rw [mrg_flat (.inl ZA.out)]; simp [List.append_assoc]) T1.out
        clear j1 j2 j3 j4 hA hB hC hD
        go_wp2_with (first
          | (go_at_call 50; have HCC := IH.out (pre ++ mrg (leOf cf) X1 Y1) X2 Y2 post _ mid e b (by have := HF.out; simp only [List.length_append]; omega) (by have := HF.out; simp only [List.length_append]; omega) (by have := HF.out; simp only [List.length_append]; omega) (by have := HF.out; omega) (by have := HF.out; omega) (by have := HF.out; omega) (by have := HF.out; omega) T2.out HSS.out.2.1 HSS.out.2.2.2; refine Calls.mono HCC ?_; clear HCC; rintro e1 w4 ⟨rfl, hS⟩; have T3 : Aside _ := hS; clear hS T2))
        go_end0
        exact ⟨rfl, swk_eq (by rw [HCUT.out]; simp [List.append_assoc]) T3.out⟩
      · exfalso; have := HF.out; omega
      · exfalso; have := HF.out; omega
      · exfalso; have := HF.out; omega
end Go.Proofs.Ytdjjlmphifgnnaa
