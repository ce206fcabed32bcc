/- Parts of one proof, joined: Sub, Psu, Shr, Suc. Conditions: those of each statement. -/
import Derived.Test.YtdjjlmphifgnnaaGreatCc2
import Derived.Test.YtdjjlmphifgnnaaGreatCc1
import Derived.Sort.WalkA
import Derived.Shelf.SlSortCmp.InsertionK
import Derived.Shelf.SlGeneric
import Derived.Ground.SlsfProg
import Derived.Test.YtdjjlmphifgnnaaGreatChecked
namespace Go.Proofs.YtdjjlmphifgnnaaGreat
open Go.Shelf Go.RowKit Go.Lib Go.Sort
open Stb (mrg Pre Sorted)
set_option linter.unusedVariables false
set_option linter.unusedSimpArgs false
set_option maxHeartbeats 4000000 in
set_option maxRecDepth 1000000 in
theorem sym_near {α : Type} [Inhabited α] (k : Nat) (zE : ∀ w, (Go.sizeOf 36).run Tryz.prog w = .ok k w) (enc : α → List Value) (cf : α → α → Int) (hp : Pre (leOf cf)) (g : Nat) (cb : Array Value) (blk off cap : Nat) (d0 : Array α) (pre xs ys post : List α) (w0 w : World) (N a m b : Nat) (hN : (pre ++ xs ++ ys ++ post).length = N) (ha : pre.length = a) (hm : a + xs.length = m) (hb : m + ys.length = b) (h2 : 2 ≤ xs.length) (h3 : 2 ≤ ys.length)
    (eg : ∀ args w, (callFunc g args).run Tryz.prog w = .ok (.enter g args) w) (hC : CmpLays Tryz.prog g cb enc k cf blk off N w0)
    (R : RowK enc k w0 blk off d0) (hs : d0.size = N) (S : SWK enc k w0 blk off (pre ++ xs ++ ys ++ post).toArray w) (hsz : N < 2305843009213693952) (hs1 : Sorted (leOf cf) xs) (hs2 : Sorted (leOf cf) ys) (mid : Nat) (hmid : (a + b) / 2 = mid) (hway : m ≤ mid)
    (ih : ∀ (pre xs' ys' post : List α) (w : World) (a m b : Nat), xs'.length + ys'.length < xs.length + ys.length → (pre ++ xs' ++ ys' ++ post).length = N → pre.length = a → a + xs'.length = m → m + ys'.length = b → 0 < xs'.length → 0 < ys'.length → SWK enc k w0 blk off (pre ++ xs' ++ ys' ++ post).toArray w → Sorted (leOf cf) xs' → Sorted (leOf cf) ys' →
      Calls Tryz.prog 57 #[.slice (some ⟨blk, off, none⟩) N cap, .int .i64 a, .int .i64 m, .int .i64 b, .func (.func g) #[] cb] w fun e w' => e = .returned (.tuple #[]) ∧ SWK enc k w0 blk off (pre ++ mrg (leOf cf) xs' ys' ++ post).toArray w') :
    Calls Tryz.prog 57 #[.slice (some ⟨blk, off, none⟩) N cap, .int .i64 a, .int .i64 m, .int .i64 b, .func (.func g) #[] cb] w fun e w' => e = .returned (.tuple #[]) ∧ SWK enc k w0 blk off (pre ++ mrg (leOf cf) xs ys ++ post).toArray w' := by
  have S0 : Aside (SWK enc k w0 blk off (pre ++ xs ++ ys ++ post).toArray w) := S
  have HL : Aside (pre.length = a ∧ a + xs.length = m ∧ m + ys.length = b ∧ 2 ≤ xs.length ∧ 2 ≤ ys.length) := ⟨ha, hm, hb, h2, h3⟩
  have hN' : Aside ((pre ++ xs ++ ys ++ post).length = N) := hN
  have HSO : Aside (Sorted (leOf cf) xs ∧ Sorted (leOf cf) ys) := ⟨hs1, hs2⟩
  have IH : Aside _ := ih
  have hbN : b ≤ N := by simp only [List.length_append] at hN; omega
  have hmb : m + 2 ≤ b := by omega
  have ham : a + 2 ≤ m := by omega
  have mixed : Tryz.prog.follows .mixedOrders = true := by kernel_rfl
  have c1 : IntKind.i64.wrap ((m : Int) - (a : Int)) = (m : Int) - (a : Int) := by rw [IntKind.wrap_i64]; omega
  have c2 : ((m : Int) - (a : Int) == 1) = false := by simp; omega
  have c3 : IntKind.i64.wrap ((b : Int) - (m : Int)) = (b : Int) - (m : Int) := by rw [IntKind.wrap_i64]; omega
  have c4 : ((b : Int) - (m : Int) == 1) = false := by simp; omega
  have e1 : ((a : Int) + (b : Int)) / 2 = (mid : Int) := by omega
  have hmm : 2 * mid ≤ a + b ∧ a + b < 2 * mid + 2 := by omega
  have c5 : IntKind.i64.wrap ((mid : Int) + (m : Int) - (b : Int)) = (mid : Int) + (m : Int) - (b : Int) := by rw [IntKind.wrap_i64]; omega
  have c6 : IntKind.i64.wrap ((mid : Int) + (m : Int) - 1) = (mid : Int) + (m : Int) - 1 := by rw [IntKind.wrap_i64]; omega
  have w1 : ¬ ((mid : Int) < (m : Int)) := by omega
  obtain ⟨s0, hs0⟩ : ∃ s0 : Nat, s0 = a := ⟨_, rfl⟩
  obtain ⟨r0, hr0⟩ : ∃ r0 : Nat, r0 = m := ⟨_, rfl⟩
  clear S hN ha hm hb hs1 hs2 h2 h3 ih
  go_enter Tryz.func57, Tryz.ntmps57
  go_wp2
  go_loopg [20, 21] (r0 - s0) (fun kx s20 s21 wr => ∃ (c r : Nat), s20 = .int .i64 (c : Int) ∧ s21 = .int .i64 (r : Int) ∧ s0 ≤ c ∧ c ≤ r ∧ r ≤ r0 ∧ r - c ≤ kx ∧ Aside ((c = s0 ∨ ∀ x y, xs[c - 1 - a]? = some x → ys[mid + m - c - m]? = some y → leOf cf x y = true) ∧ (r = r0 ∨ ∀ x y, xs[r - a]? = some x → ys[mid + m - r - 1 - m]? = some y → leOf cf x y = false)) ∧ Aside (SWK enc k w0 blk off (pre ++ xs ++ ys ++ post).toArray wr))
  case atStart => exact ⟨s0, r0, by go_num, by go_num, Nat.le_refl _, by omega, Nat.le_refl _, Nat.le_refl _, ⟨.inl rfl, .inl rfl⟩, S0⟩
  case round =>
    clear c1 c2 c3 c4
    obtain ⟨c, r, rfl, rfl, hsc, hcr, hrr, hkx, HQ, S1⟩ := hrel
    by_cases hlt : c < r
    · have q1 : (c : Int) < (r : Int) := by omega
      go_wp2_with fail
      obtain ⟨q, hq, hpq, hqr⟩ : ∃ q : Nat, ((c : Int) + (r : Int)) / 2 = (q : Int) ∧ c ≤ q ∧ q < r := ⟨(c + r) / 2, by omega, by omega, by omega⟩
      rw [hq]
      obtain ⟨h1, h2, h3, h4, h5⟩ := HL.out
      obtain ⟨z, hz⟩ : ∃ z : Nat, mid + m - 1 - q = z := ⟨_, rfl⟩
      have hz1 : m ≤ z ∧ z < b ∧ a ≤ q ∧ q < m ∧ z + q + 1 = mid + m := by omega
      obtain ⟨x, hx⟩ : ∃ x, xs[q - a]? = some x := ⟨xs[q - a]'(by omega), List.getElem?_eq_getElem _⟩
      obtain ⟨y, hy⟩ : ∃ y, ys[z - m]? = some y := ⟨ys[z - m]'(by omega), List.getElem?_eq_getElem _⟩
      obtain ⟨dk, hdk⟩ : ∃ dk, (pre ++ xs ++ ys ++ post).toArray = dk := ⟨_, rfl⟩
      have hsz2 : dk.size = N := by rw [← hdk, ← hN'.out]; simp
      have dx : dk[q]! = x := by
        rw [← hdk, List.getElem!_toArray, List.getElem!_eq_getElem?_getD, List.append_assoc, List.append_assoc, List.getElem?_append_right (by omega), show q - pre.length = q - a by omega, List.getElem?_append_left (by omega), hx]
        rfl
      have dy : dk[z]! = y := by
        rw [← hdk, List.getElem!_toArray, List.getElem!_eq_getElem?_getD, List.append_assoc, List.getElem?_append_right (by simp; omega), show z - (pre ++ xs).length = z - m by simp; omega, List.getElem?_append_left (by omega), hy]
        rfl
      rw [hdk] at S1
      have la := S1.out.ld R (by omega) Tryz.prog z (by omega)
      have lb := S1.out.ld R (by omega) Tryz.prog q (by omega)
      rw [dy] at la
      rw [dx] at lb
      have hc := S1.out.cmp hC (by omega) y x
      have r1 : IntKind.i64.wrap ((mid : Int) + (m : Int) - 1 - (q : Int)) = (mid : Int) + (m : Int) - 1 - (q : Int) := by rw [IntKind.wrap_i64]; omega
      have pa : (0 : Int) ≤ (mid : Int) + (m : Int) - 1 - (q : Int) := by omega
      have ba : (mid : Int) + (m : Int) - 1 - (q : Int) < (N : Int) := by omega
      have pa2 : (q : Int) ≤ (mid : Int) + (m : Int) - 1 := by omega
      have ea : ((mid : Int) + (m : Int) - 1 - (q : Int)).toNat = z := by omega
      have pb : (0 : Int) ≤ (q : Int) := by omega
      have bb : (q : Int) < (N : Int) := by omega
      have eb : ((q : Int)).toNat = q := by omega
      have HX : Aside (xs[q - a]? = some x ∧ ys[z - m]? = some y ∧ (m ≤ z ∧ z < b ∧ a ≤ q ∧ q < m ∧ z + q + 1 = mid + m)) := ⟨hx, hy, hz1⟩
      have HDK : Aside ((pre ++ xs ++ ys ++ post).toArray = dk) := hdk
      clear hx hy hdk dy dx hq h1 h2 h3 h4 h5 hz1 hz
      by_cases hlv : cf y x < 0
      · have hd : decide (cf y x < 0) = true := decide_eq_true hlv
        go_quiet_grown (first | (go_at_fn g; refine Calls.grown_of (hc _ _)))
        have SV : Aside (SWK enc k w0 blk off dk (grow (wr.drewN nq) osq)) := S1.out.grown nq osq
        clear la lb hc S1
        generalize grow (wr.drewN nq) osq = wv at SV ⊢
        clear nq osq
        obtain ⟨gq, rfl⟩ : ∃ gq, gk = gq + 1 := ⟨gk - 1, by omega⟩
        go_wp2
        go_roundg gq
        case measure => omega
        case rel =>
          obtain ⟨f1, f2, f3⟩ := HX.out
          exact ⟨c, q, rfl, rfl, hsc, hpq, by omega, by omega, ⟨HQ.out.1, .inr fun u v hu hv => by rw [f1] at hu; injection hu with hu; subst hu; rw [show mid + m - q - 1 - m = z - m by omega, f2] at hv; injection hv with hv; subst hv; simp [leOf, hlv]⟩, (show SWK _ _ _ _ _ _ _ from by rw [HDK.out]; exact SV.out)⟩
      · have hd : decide (cf y x < 0) = false := decide_eq_false hlv
        go_quiet_grown (first | (go_at_fn g; refine Calls.grown_of (hc _ _)))
        have SV : Aside (SWK enc k w0 blk off dk (grow (wr.drewN nq) osq)) := S1.out.grown nq osq
        clear la lb hc S1
        generalize grow (wr.drewN nq) osq = wv at SV ⊢
        clear nq osq
        obtain ⟨gq, rfl⟩ : ∃ gq, gk = gq + 1 := ⟨gk - 1, by omega⟩
        go_wp2
        go_roundg gq
        case measure => omega
        case rel =>
          obtain ⟨f1, f2, f3⟩ := HX.out
          exact ⟨q + 1, r, by go_num, rfl, by omega, by omega, hrr, by omega, ⟨.inr fun u v hu hv => by rw [Nat.add_sub_cancel, f1] at hu; injection hu with hu; subst hu; rw [show mid + m - (q + 1) - m = z - m by omega, f2] at hv; injection hv with hv; subst hv; simp [leOf, hlv], HQ.out.2⟩, (show SWK _ _ _ _ _ _ _ from by rw [HDK.out]; exact SV.out)⟩
    · obtain rfl : c = r := by omega
      have q1 : ¬ ((c : Int) < (c : Int)) := by omega
      obtain ⟨h1, h2, h3, h4, h5⟩ := HL.out
      obtain ⟨e, he⟩ : ∃ e : Nat, e + c = mid + m := ⟨mid + m - c, by omega⟩
      obtain ⟨X1, X2, Y1, Y2, eX, eY, lX, lY, hcut⟩ := sym_parts hp HSO.out.1 HSO.out.2 a m b mid s0 r0 c e h2.symm h3.symm ⟨by omega, by omega⟩ (.inr ⟨hway, hs0, hr0⟩) ⟨hsc, hrr⟩ he (by have := HQ.out.1; rwa [show mid + m - c - m = e - m by omega] at this) (by have := HQ.out.2; rwa [show mid + m - c - 1 - m = e - 1 - m by omega] at this)
      clear HQ
      subst eX eY
      have es : IntKind.i64.wrap ((mid : Int) + (m : Int) - (c : Int)) = (e : Int) := by rw [IntKind.wrap_i64]; omega
      have so := HSO.out
      have sX1 : Sorted (leOf cf) X1 := (List.pairwise_append.1 so.1).1
      have sX2 : Sorted (leOf cf) X2 := (List.pairwise_append.1 so.1).2.1
      have sY1 : Sorted (leOf cf) Y1 := (List.pairwise_append.1 so.2).1
      have sY2 : Sorted (leOf cf) Y2 := (List.pairwise_append.1 so.2).2.1
      rw [List.length_append] at h2 h4
      rw [List.length_append] at h3 h5
      have hn := hN'.out
      simp only [List.length_append] at hn
      have lM := Stb.mrg_length (le := leOf cf) _ X1 Y1 (Nat.le_refl _)
      have HF : Aside (pre.length = a ∧ X1.length + a = c ∧ X2.length + c = m ∧ Y1.length + m = e ∧ Y2.length + e = b ∧ c + Y1.length = mid ∧ mid + X2.length = e ∧ pre.length + (mrg (leOf cf) X1 Y1).length = mid ∧ b + post.length = N ∧ 0 < X1.length + X2.length ∧ 0 < Y1.length + Y2.length) := ⟨h1, lX, by omega, lY, by omega, by omega, by omega, by omega, by omega, by omega, by omega⟩
      have HSS : Aside (Sorted (leOf cf) X1 ∧ Sorted (leOf cf) X2 ∧ Sorted (leOf cf) Y1 ∧ Sorted (leOf cf) Y2) := ⟨sX1, sX2, sY1, sY2⟩
      have HCUT : Aside (mrg (leOf cf) (X1 ++ X2) (Y1 ++ Y2) = mrg (leOf cf) X1 Y1 ++ mrg (leOf cf) X2 Y2) := hcut
      have bA : a ≤ c := by omega
      have bB : c ≤ m := by omega
      have bC : m ≤ e := by omega
      have bD : e ≤ b := by omega
      have bE : c ≤ mid := by omega
      have bF : mid ≤ e := by omega
      have iAB : a = c → X1 = [] := fun h => List.eq_nil_of_length_eq_zero (by omega)
      have iBC : c = m → X2 = [] := fun h => List.eq_nil_of_length_eq_zero (by omega)
      have iCE : m = e → Y1 = [] := fun h => List.eq_nil_of_length_eq_zero (by omega)
      have iEB : e = b → Y2 = [] := fun h => List.eq_nil_of_length_eq_zero (by omega)
      have HI : Aside _ := And.intro iAB (And.intro iBC (And.intro iCE iEB))
      have g1 : (m < e) = (c < mid) := by simp; omega
      have g2 : (c < m) = (mid < e) := by simp; omega
      have HNE : Aside ((c < m ↔ mid < e) ∧ (m < e ↔ c < mid)) := ⟨by omega, by omega⟩
      clear h1 h2 h3 h4 h5 so sX1 sX2 sY1 sY2 lX lY lM hn hcut iAB iBC iCE iEB g1 g2 he
      rcases Nat.lt_or_ge a c with hA | hA <;> rcases Nat.lt_or_ge m e with hB | hB <;> rcases Nat.lt_or_ge c m with hC | hC <;> rcases Nat.lt_or_ge e b with hD | hD
      · skip
        have f1 : ((a : Int) < (c : Int)) := by omega
        have f2 : ((m : Int) < (e : Int)) := by omega
        have f3 : ((c : Int) < (m : Int)) := by omega
        have f4 : ((e : Int) < (b : Int)) := by omega
        have f5 : ((c : Int) < (mid : Int)) := by have := HNE.out; omega
        have f6 : ((mid : Int) < (e : Int)) := by have := HNE.out; omega
        obtain ⟨j1, j2, j3, j4⟩ := HI.out
        have HROT : Aside _ := rotate_calls k zE enc g cb blk off cap d0 (pre ++ X1) X2 Y1 (Y2 ++ post) (by have := HF.out; omega) (by have := HF.out; omega) w0 wr N c m e (by have := HF.out; simp only [List.length_append]; omega) (by have := HF.out; simp only [List.length_append]; omega) (by have := HF.out; omega) (by have := HF.out; omega) R hs (swk_eq (by simp [List.append_assoc]) S1.out) (by omega)
        clear j1 j2 j3 j4 hA hB hC hD
        go_wp2_with (first
          | (go_at_call 80; refine Calls.mono HROT.out ?_; rintro e1 w2 ⟨rfl, hS⟩; have T1 : Aside (SWK enc k w0 blk off (pre ++ X1 ++ Y1 ++ (X2 ++ (Y2 ++ post))).toArray w2) := swk_eq (by simp [List.append_assoc]) hS; clear hS HROT)
          | (go_at_call 57; have HCC := IH.out pre X1 Y1 (X2 ++ (Y2 ++ post)) _ a c mid (by have := HF.out; have := HI.out; simp only [List.length_append]; omega) (by have := HF.out; simp only [List.length_append]; omega) HF.out.1 (by have := HF.out; omega) (by have := HF.out; omega) (by have := HF.out; omega) (by have := HF.out; omega) T1.out HSS.out.1 HSS.out.2.2.1; refine Calls.mono HCC ?_; clear HCC; rintro e1 w3 ⟨rfl, hS⟩; have T2 : Aside (SWK enc k w0 blk off (pre ++ mrg (leOf cf) X1 Y1 ++ X2 ++ Y2 ++ post).toArray w3) := swk_eq (by simp [List.append_assoc]) hS; clear hS T1)
          | (go_at_call 57; have HCC := IH.out (pre ++ mrg (leOf cf) X1 Y1) X2 Y2 post _ mid e b (by have := HF.out; simp only [List.length_append]; omega) (by have := HF.out; simp only [List.length_append]; omega) (by have := HF.out; simp only [List.length_append]; omega) (by have := HF.out; omega) (by have := HF.out; omega) (by have := HF.out; omega) (by have := HF.out; omega) T2.out HSS.out.2.1 HSS.out.2.2.2; refine Calls.mono HCC ?_; clear HCC; rintro e1 w4 ⟨rfl, hS⟩; have T3 : Aside _ := hS; clear hS T2))
        go_end0
        exact ⟨rfl, swk_eq (by rw [HCUT.out]; simp [List.append_assoc]) T3.out⟩
      · skip
        have f1 : ((a : Int) < (c : Int)) := by omega
        have f2 : ((m : Int) < (e : Int)) := by omega
        have f3 : ((c : Int) < (m : Int)) := by omega
        have f4 : ¬ ((e : Int) < (b : Int)) := by omega
        have f5 : ((c : Int) < (mid : Int)) := by have := HNE.out; omega
        have f6 : ((mid : Int) < (e : Int)) := by have := HNE.out; omega
        obtain ⟨j1, j2, j3, j4⟩ := HI.out
        have ZD : Aside (Y2 = []) := j4 (by omega)
        have HROT : Aside _ := rotate_calls k zE enc g cb blk off cap d0 (pre ++ X1) X2 Y1 (Y2 ++ post) (by have := HF.out; omega) (by have := HF.out; omega) w0 wr N c m e (by have := HF.out; simp only [List.length_append]; omega) (by have := HF.out; simp only [List.length_append]; omega) (by have := HF.out; omega) (by have := HF.out; omega) R hs (swk_eq (by simp [List.append_assoc]) S1.out) (by omega)
        clear j1 j2 j3 j4 hA hB hC hD
        go_wp2_with (first
          | (go_at_call 80; refine Calls.mono HROT.out ?_; rintro e1 w2 ⟨rfl, hS⟩; have T1 : Aside (SWK enc k w0 blk off (pre ++ X1 ++ Y1 ++ (X2 ++ (Y2 ++ post))).toArray w2) := swk_eq (by simp [List.append_assoc]) hS; clear hS HROT)
          | (go_at_call 57; have HCC := IH.out pre X1 Y1 (X2 ++ (Y2 ++ post)) _ a c mid (by have := HF.out; have := HI.out; simp only [List.length_append]; omega) (by have := HF.out; simp only [List.length_append]; omega) HF.out.1 (by have := HF.out; omega) (by have := HF.out; omega) (by have := HF.out; omega) (by have := HF.out; omega) T1.out HSS.out.1 HSS.out.2.2.1; refine Calls.mono HCC ?_; clear HCC; rintro e1 w3 ⟨rfl, hS⟩; have T2 : Aside (SWK enc k w0 blk off (pre ++ mrg (leOf cf) X1 Y1 ++ X2 ++ Y2 ++ post).toArray w3) := swk_eq (by simp [List.append_assoc]) hS; have T3 : Aside (SWK enc k w0 blk off (pre ++ mrg (leOf cf) X1 Y1 ++ mrg (leOf cf) X2 Y2 ++ post).toArray w3) := swk_eq (by rw [mrg_flat (.inr ZD.out)]; simp [List.append_assoc]) T2.out; clear hS T1))
        go_end0
        exact ⟨rfl, swk_eq (by rw [HCUT.out]; simp [List.append_assoc]) T3.out⟩
      · skip
        have f1 : ((a : Int) < (c : Int)) := by omega
        have f2 : ((m : Int) < (e : Int)) := by omega
        have f3 : ¬ ((c : Int) < (m : Int)) := by omega
        have f4 : ((e : Int) < (b : Int)) := by omega
        have f5 : ((c : Int) < (mid : Int)) := by have := HNE.out; omega
        have f6 : ¬ ((mid : Int) < (e : Int)) := by have := HNE.out; omega
        obtain ⟨j1, j2, j3, j4⟩ := HI.out
        have ZC : Aside (X2 = []) := j2 (by omega)
        have T1 : Aside (SWK enc k w0 blk off (pre ++ X1 ++ Y1 ++ (X2 ++ (Y2 ++ post))).toArray wr) := swk_eq (by rw [ZC.out]; simp [List.append_assoc]) S1.out
        clear j1 j2 j3 j4 hA hB hC hD
        go_wp2_with (first
          | (go_at_call 57; have HCC := IH.out pre X1 Y1 (X2 ++ (Y2 ++ post)) _ a c mid (by have := HF.out; have := HI.out; simp only [List.length_append]; omega) (by have := HF.out; simp only [List.length_append]; omega) HF.out.1 (by have := HF.out; omega) (by have := HF.out; omega) (by have := HF.out; omega) (by have := HF.out; omega) T1.out HSS.out.1 HSS.out.2.2.1; refine Calls.mono HCC ?_; clear HCC; rintro e1 w3 ⟨rfl, hS⟩; have T2 : Aside (SWK enc k w0 blk off (pre ++ mrg (leOf cf) X1 Y1 ++ X2 ++ Y2 ++ post).toArray w3) := swk_eq (by simp [List.append_assoc]) hS; have T3 : Aside (SWK enc k w0 blk off (pre ++ mrg (leOf cf) X1 Y1 ++ mrg (leOf cf) X2 Y2 ++ post).toArray w3) := swk_eq (by rw [mrg_flat (.inl ZC.out)]; simp [List.append_assoc]) T2.out; clear hS T1))
        go_end0
        exact ⟨rfl, swk_eq (by rw [HCUT.out]; simp [List.append_assoc]) T3.out⟩
      · exfalso; have := HF.out; omega
      · exfalso; have := HF.out; omega
      · exfalso; have := HF.out; omega
      · skip
        have f1 : ((a : Int) < (c : Int)) := by omega
        have f2 : ¬ ((m : Int) < (e : Int)) := by omega
        have f3 : ¬ ((c : Int) < (m : Int)) := by omega
        have f4 : ((e : Int) < (b : Int)) := by omega
        have f5 : ¬ ((c : Int) < (mid : Int)) := by have := HNE.out; omega
        have f6 : ¬ ((mid : Int) < (e : Int)) := by have := HNE.out; omega
        obtain ⟨j1, j2, j3, j4⟩ := HI.out
        have ZB : Aside (Y1 = []) := j3 (by omega)
        have ZC : Aside (X2 = []) := j2 (by omega)
        have T1 : Aside (SWK enc k w0 blk off (pre ++ X1 ++ Y1 ++ (X2 ++ (Y2 ++ post))).toArray wr) := swk_eq (by rw [ZC.out]; simp [List.append_assoc]) S1.out
        have T2 : Aside (SWK enc k w0 blk off (pre ++ mrg (leOf cf) X1 Y1 ++ X2 ++ Y2 ++ post).toArray wr) := swk_eq (by rw [mrg_flat (.inr ZB.out)]; simp [List.append_assoc]) T1.out
        have T3 : Aside (SWK enc k w0 blk off (pre ++ mrg (leOf cf) X1 Y1 ++ mrg (leOf cf) X2 Y2 ++ post).toArray wr) := swk_eq (by rw [mrg_flat (.inl ZC.out)]; simp [List.append_assoc]) T2.out
        clear j1 j2 j3 j4 hA hB hC hD
        go_wp2_with (first
          | fail)
        go_end0
        exact ⟨rfl, swk_eq (by rw [HCUT.out]; simp [List.append_assoc]) T3.out⟩
      · exfalso; have := HF.out; omega
      · skip
        have f1 : ¬ ((a : Int) < (c : Int)) := by omega
        have f2 : ((m : Int) < (e : Int)) := by omega
        have f3 : ((c : Int) < (m : Int)) := by omega
        have f4 : ((e : Int) < (b : Int)) := by omega
        have f5 : ((c : Int) < (mid : Int)) := by have := HNE.out; omega
        have f6 : ((mid : Int) < (e : Int)) := by have := HNE.out; omega
        obtain ⟨j1, j2, j3, j4⟩ := HI.out
        have ZA : Aside (X1 = []) := j1 (by omega)
        have HROT : Aside _ := rotate_calls k zE enc g cb blk off cap d0 (pre ++ X1) X2 Y1 (Y2 ++ post) (by have := HF.out; omega) (by have := HF.out; omega) w0 wr N c m e (by have := HF.out; simp only [List.length_append]; omega) (by have := HF.out; simp only [List.length_append]; omega) (by have := HF.out; omega) (by have := HF.out; omega) R hs (swk_eq (by simp [List.append_assoc]) S1.out) (by omega)
        clear j1 j2 j3 j4 hA hB hC hD
        go_wp2_with (first
          | (go_at_call 80; refine Calls.mono HROT.out ?_; rintro e1 w2 ⟨rfl, hS⟩; have T1 : Aside (SWK enc k w0 blk off (pre ++ X1 ++ Y1 ++ (X2 ++ (Y2 ++ post))).toArray w2) := swk_eq (by simp [List.append_assoc]) hS; have T2 : Aside (SWK enc k w0 blk off (pre ++ mrg (leOf cf) X1 Y1 ++ X2 ++ Y2 ++ post).toArray w2) := swk_eq (by rw [mrg_flat (.inl ZA.out)]; simp [List.append_assoc]) T1.out; clear hS HROT)
          | (go_at_call 57; have HCC := IH.out (pre ++ mrg (leOf cf) X1 Y1) X2 Y2 post _ mid e b (by have := HF.out; simp only [List.length_append]; omega) (by have := HF.out; simp only [List.length_append]; omega) (by have := HF.out; simp only [List.length_append]; omega) (by have := HF.out; omega) (by have := HF.out; omega) (by have := HF.out; omega) (by have := HF.out; omega) T2.out HSS.out.2.1 HSS.out.2.2.2; refine Calls.mono HCC ?_; clear HCC; rintro e1 w4 ⟨rfl, hS⟩; have T3 : Aside _ := hS; clear hS T2))
        go_end0
        exact ⟨rfl, swk_eq (by rw [HCUT.out]; simp [List.append_assoc]) T3.out⟩
      · skip
        have f1 : ¬ ((a : Int) < (c : Int)) := by omega
        have f2 : ((m : Int) < (e : Int)) := by omega
        have f3 : ((c : Int) < (m : Int)) := by omega
        have f4 : ¬ ((e : Int) < (b : Int)) := by omega
        have f5 : ((c : Int) < (mid : Int)) := by have := HNE.out; omega
        have f6 : ((mid : Int) < (e : Int)) := by have := HNE.out; omega
        obtain ⟨j1, j2, j3, j4⟩ := HI.out
        have ZA : Aside (X1 = []) := j1 (by omega)
        have ZD : Aside (Y2 = []) := j4 (by omega)
        have HROT : Aside _ := rotate_calls k zE enc g cb blk off cap d0 (pre ++ X1) X2 Y1 (Y2 ++ post) (by have := HF.out; omega) (by have := HF.out; omega) w0 wr N c m e (by have := HF.out; simp only [List.length_append]; omega) (by have := HF.out; simp only [List.length_append]; omega) (by have := HF.out; omega) (by have := HF.out; omega) R hs (swk_eq (by simp [List.append_assoc]) S1.out) (by omega)
        clear j1 j2 j3 j4 hA hB hC hD
        go_wp2_with (first
          | (go_at_call 80; refine Calls.mono HROT.out ?_; rintro e1 w2 ⟨rfl, hS⟩; have T1 : Aside (SWK enc k w0 blk off (pre ++ X1 ++ Y1 ++ (X2 ++ (Y2 ++ post))).toArray w2) := swk_eq (by simp [List.append_assoc]) hS; have T2 : Aside (SWK enc k w0 blk off (pre ++ mrg (leOf cf) X1 Y1 ++ X2 ++ Y2 ++ post).toArray w2) := swk_eq (by rw [mrg_flat (.inl ZA.out)]; simp [List.append_assoc]) T1.out; have T3 : Aside (SWK enc k w0 blk off (pre ++ mrg (leOf cf) X1 Y1 ++ mrg (leOf cf) X2 Y2 ++ post).toArray w2) := swk_eq (by rw [mrg_flat (.inr ZD.out)]; simp [List.append_assoc]) T2.out; clear hS HROT))
        go_end0
        exact ⟨rfl, swk_eq (by rw [HCUT.out]; simp [List.append_assoc]) T3.out⟩
      · exfalso; have := HF.out; omega
      · exfalso; have := HF.out; omega
      · exfalso; have := HF.out; omega
      · exfalso; have := HF.out; omega
      · exfalso; have := HF.out; omega
      · exfalso; have := HF.out; omega
end Go.Proofs.YtdjjlmphifgnnaaGreat
namespace Go.Proofs.YtdjjlmphifgnnaaGreat.Stb
open Go.Sort
set_option linter.unusedVariables false
set_option linter.unusedSimpArgs false
set_option linter.unusedSectionVars false
set_option linter.unnecessarySimpa false
variable {α : Type} [Inhabited α] {le : α → α → Bool}
theorem at_mid (P : List α) (x : α) (Q : List α) : (P ++ x :: Q).toArray[P.length]! = x := by simp
theorem swp_next (P : List α) (x y : α) (Q : List α) : swp (P ++ x :: y :: Q).toArray (P.length + 1) P.length = (P ++ y :: x :: Q).toArray := by
  unfold swp
  apply Array.ext'
  have e1 : (P ++ x :: y :: Q).toArray[P.length]! = x := by simp
  have e2 : (P ++ x :: y :: Q).toArray[P.length + 1]! = y := by
    have := at_mid (P ++ [x]) y Q
    simpa using this
  rw [e1, e2]
  simp only [Array.toList_setIfInBounds]
  show ((P ++ x :: y :: Q).set (P.length + 1) x).set P.length y = P ++ y :: x :: Q
  rw [List.set_append_right _ _ (by omega), show P.length + 1 - P.length = 1 by omega]
  show (P ++ x :: x :: Q).set P.length y = _
  rw [List.set_append_right _ _ (Nat.le_refl _), Nat.sub_self]
  rfl
/-- one element set into sorted ones ahead of it: insertion sort's inner loop -/
theorem insInner_mrg (hp : Pre le) (lt : α → α → Bool) (hlt : ∀ a b, le a b = !lt b a) (P : List α) (y : α) (a : Nat) (ha : P.length = a) : ∀ (n : Nat) (xs : List α) (Q : List α), xs.length = n → Sorted le xs → insInner lt a (a + n) (P ++ xs ++ y :: Q).toArray = (P ++ mrg le xs [y] ++ Q).toArray := by
  intro n
  induction n with
  | zero =>
    intro xs Q h hs
    obtain rfl : xs = [] := List.eq_nil_of_length_eq_zero h
    rw [mrg_nil]
    cases a with
    | zero => simp [insInner]
    | succ a => simp [insInner]
  | succ n ih =>
    intro xs Q h hs
    have hne : xs ≠ [] := fun e => by rw [e] at h; cases h
    obtain ⟨ys, x, rfl⟩ : ∃ ys x, xs = ys ++ [x] := ⟨xs.dropLast, xs.getLast hne, (List.dropLast_concat_getLast hne).symm⟩
    have hn : ys.length = n := by simpa using h
    have hs1 : Sorted le ys := (List.pairwise_append.1 hs).1
    have e1 : (P ++ (ys ++ [x]) ++ y :: Q).toArray[a + (n + 1)]! = y := by
      have := at_mid (P ++ ys ++ [x]) y Q
      simpa [ha, hn, List.append_assoc] using this
    have e2 : (P ++ (ys ++ [x]) ++ y :: Q).toArray[a + n]! = x := by
      have := at_mid (P ++ ys) x (y :: Q)
      simpa [ha, hn, List.append_assoc] using this
    have e3 : swp (P ++ (ys ++ [x]) ++ y :: Q).toArray (a + n + 1) (a + n) = (P ++ ys ++ y :: x :: Q).toArray := by
      have := swp_next (P ++ ys) x y Q
      simpa [ha, hn, List.append_assoc] using this
    show insInner lt a ((a + n) + 1) _ = _
    rw [insInner]
    rw [show a + n + 1 = a + (n + 1) by omega, e1, e2, show a + (n + 1) = a + n + 1 by omega, e3]
    have hd : decide (a + n + 1 > a) = true := decide_eq_true (by omega)
    rw [hd, Bool.true_and]
    by_cases hl : lt y x = true
    · rw [if_pos hl, ih ys (x :: Q) hn hs1]
      have hle : le x y = false := by rw [hlt, hl]; rfl
      have e := mrg_split (le := le) _ ys [y] [x] [] (Nat.le_refl _) (fun a _ b hb => by cases hb) (fun b hb a ha => by
        rw [List.mem_singleton.1 hb, List.mem_singleton.1 ha]; exact hle)
      rw [List.append_nil] at e
      rw [e, mrg_nil2]
      simp
    · rw [if_neg hl]
      have hle : le x y = true := by
        rw [hlt]
        cases h : lt y x with
        | true => exact absurd h hl
        | false => rfl
      have e := mrg_last hp (y := y) hs (ys ++ [x]).length (Nat.le_refl _) (fun z h0 hz => by
        simp at hz
        subst hz
        exact hle) (fun z hz => by simp at hz)
      rw [e, List.take_of_length_le (Nat.le_refl _), List.drop_eq_nil_of_le (Nat.le_refl _)]
      simp
theorem insOuter_stb (hp : Pre le) (lt : α → α → Bool) (hlt : ∀ a b, le a b = !lt b a) (P : List α) (a b : Nat) (ha : P.length = a) (R : List α) : ∀ (k : Nat) (xs ys : List α), ys.length = k → b = a + xs.length + ys.length → insOuter lt a b (a + xs.length) (P ++ stb le xs ++ ys ++ R).toArray = (P ++ stb le (xs ++ ys) ++ R).toArray := by
  intro k
  induction k with
  | zero =>
    intro xs ys h hb
    obtain rfl : ys = [] := List.eq_nil_of_length_eq_zero h
    rw [insOuter, if_neg (by simp at hb; omega)]
    simp
  | succ k ih =>
    intro xs ys h hb
    obtain ⟨y, ys, rfl⟩ : ∃ y t, ys = y :: t := by
      cases ys with
      | nil => cases h
      | cons y t => exact ⟨y, t, rfl⟩
    rw [insOuter, if_pos (by rw [hb]; simp)]
    have hl : (stb le xs).length = xs.length := (stb_perm xs).length_eq
    have e := insInner_mrg hp lt hlt P y a ha xs.length (stb le xs) (ys ++ R) hl (stb_sorted hp xs)
    rw [← stb_snoc] at e
    have e2 := ih (xs ++ [y]) ys (by simpa using h) (by rw [hb]; simp; omega)
    rw [show P ++ stb le xs ++ y :: ys ++ R = P ++ stb le xs ++ y :: (ys ++ R) by simp, e]
    rw [show (xs ++ [y]).length = xs.length + 1 by simp, show a + (xs.length + 1) = a + xs.length + 1 by omega] at e2
    rw [show P ++ stb le (xs ++ [y]) ++ (ys ++ R) = P ++ stb le (xs ++ [y]) ++ ys ++ R by simp, e2]
    simp
/-- insertion sort of a part of a row is the stable sort of that part -/
theorem insertionSort_stb (hp : Pre le) (lt : α → α → Bool) (hlt : ∀ a b, le a b = !lt b a) (P xs R : List α) (a b : Nat) (ha : P.length = a) (hb : a + xs.length = b) : insertionSort lt (P ++ xs ++ R).toArray a b = (P ++ stb le xs ++ R).toArray := by
  unfold insertionSort
  cases xs with
  | nil => rw [insOuter, if_neg (by simp at hb; omega)]; simp [stb]
  | cons x xs =>
    have e := insOuter_stb hp lt hlt P a b ha R xs.length [x] xs rfl (by rw [← hb]; simp; omega)
    have h1 : stb le [x] = [x] := by simp [stb, mrg_nil]
    rw [h1] at e
    simpa using e
/-- blocks of s, each sorted; behind n whole ones the rest -/
def bl (le : α → α → Bool) (s : Nat) : Nat → List α → List α
  | 0, L => stb le L
  | n + 1, L => stb le (L.take s) ++ bl le s n (L.drop s)
theorem stb_length (L : List α) : (stb le L).length = L.length := (stb_perm L).length_eq
theorem bl_length (s : Nat) : ∀ (n : Nat) (L : List α), (bl le s n L).length = L.length
  | 0, L => stb_length L
  | n + 1, L => by
    rw [bl, List.length_append, stb_length, bl_length s n, List.length_take, List.length_drop]
    omega
theorem bl_two (hp : Pre le) (s : Nat) (L : List α) : mrg le (stb le (L.take s)) (stb le ((L.drop s).take s)) = stb le (L.take (2 * s)) := by
  rw [← stb_append hp]
  congr 1
  rw [show 2 * s = s + s by omega, List.take_add]
theorem bl_rest (hp : Pre le) (s : Nat) (L : List α) : mrg le (stb le (L.take s)) (stb le (L.drop s)) = stb le L := by
  rw [← stb_append hp, List.take_append_drop]
end Go.Proofs.YtdjjlmphifgnnaaGreat.Stb
namespace Go.Proofs
open Go.Shelf
def Tryz.shIns_ren : Go.Shelf.Ren := ⟨fun | 20 => 56 | n => n, fun | 24 => 36 | 22 => 23 | 3 => 3 | 25 => 53 | 4 => 4 | 0 => 0 | n => n, fun | n => n⟩
theorem Tryz.shIns : Go.Proofs.SlLaysF0.n20 Tryz.prog Tryz.shIns_ren := {
  mixed := by kernel_rfl
  f20 := ⟨Tryz.f56.name, by decide, Tryz.func56.trans (congrArg some (by kernel_rfl))⟩
  t0 := Tryz.underlying0
  a0 := Tryz.isAgg0
  z0 := Tryz.sizeOf0
  v0 := Tryz.zeroValue0
  t3 := Tryz.underlying3
  a3 := Tryz.isAgg3
  z3 := Tryz.sizeOf3
  v3 := Tryz.zeroValue3
  t4 := Tryz.underlying4
  a4 := Tryz.isAgg4
  z4 := Tryz.sizeOf4
  v4 := Tryz.zeroValue4
  t22 := Tryz.underlying23
  a22 := Tryz.isAgg23
  z22 := Tryz.sizeOf23
  v22 := Tryz.zeroValue23
  t25 := Tryz.underlying53
  a25 := Tryz.isAgg53
  z25 := Tryz.sizeOf53
  v25 := Tryz.zeroValue53 }
end Go.Proofs
namespace Go.Proofs.YtdjjlmphifgnnaaGreat
open Go.Shelf Go.RowKit Go.Lib Go.Sort
open Stb (mrg Pre Sorted stb)
set_option linter.unusedVariables false
set_option linter.unusedSimpArgs false
theorem sym_calls {α : Type} [Inhabited α] (k : Nat) (zE : ∀ w, (Go.sizeOf 36).run Tryz.prog w = .ok k w) (enc : α → List Value) (cf : α → α → Int) (hp : Pre (leOf cf)) (g : Nat) (cb : Array Value) (blk off cap : Nat) (d0 : Array α) (w0 : World) (N : Nat)
    (eg : ∀ args w, (callFunc g args).run Tryz.prog w = .ok (.enter g args) w) (hC : CmpLays Tryz.prog g cb enc k cf blk off N w0)
    (R : RowK enc k w0 blk off d0) (hs : d0.size = N) (hsz : N < 2305843009213693952) :
    ∀ (n : Nat) (pre xs ys post : List α) (w : World) (a m b : Nat), xs.length + ys.length ≤ n → (pre ++ xs ++ ys ++ post).length = N → pre.length = a → a + xs.length = m → m + ys.length = b → 0 < xs.length → 0 < ys.length → SWK enc k w0 blk off (pre ++ xs ++ ys ++ post).toArray w → Sorted (leOf cf) xs → Sorted (leOf cf) ys →
      Calls Tryz.prog 57 #[.slice (some ⟨blk, off, none⟩) N cap, .int .i64 a, .int .i64 m, .int .i64 b, .func (.func g) #[] cb] w fun e w' => e = .returned (.tuple #[]) ∧ SWK enc k w0 blk off (pre ++ mrg (leOf cf) xs ys ++ post).toArray w' := by
  intro n
  induction n with
  | zero => intro pre xs ys post w a m b h _ _ _ _ h1; omega
  | succ n ih =>
    intro pre xs ys post w a m b h hN ha hm hb h1 h2 S s1 s2
    by_cases hx : xs.length = 1
    · obtain ⟨x, rfl⟩ : ∃ x, xs = [x] := by
        cases xs with
        | nil => cases hx
        | cons x t => exact ⟨x, by rw [List.eq_nil_of_length_eq_zero (show t.length = 0 by simpa using hx)]⟩
      exact sym_ahead k zE enc cf hp g cb blk off cap d0 pre ys post x w0 w N a m b hN ha (by simpa using hm) hb eg hC R hs S (by omega) s2
    · by_cases hy : ys.length = 1
      · obtain ⟨y, rfl⟩ : ∃ y, ys = [y] := by
          cases ys with
          | nil => cases hy
          | cons y t => exact ⟨y, by rw [List.eq_nil_of_length_eq_zero (show t.length = 0 by simpa using hy)]⟩
        exact sym_behind k zE enc cf hp g cb blk off cap d0 pre xs post y w0 w N a m b hN ha hm (by simpa using hb) (by omega) eg hC R hs S (by omega) s1
      · have IH : ∀ (pre xs' ys' post : List α) (w : World) (a m b : Nat), xs'.length + ys'.length < xs.length + ys.length → (pre ++ xs' ++ ys' ++ post).length = N → pre.length = a → a + xs'.length = m → m + ys'.length = b → 0 < xs'.length → 0 < ys'.length → SWK enc k w0 blk off (pre ++ xs' ++ ys' ++ post).toArray w → Sorted (leOf cf) xs' → Sorted (leOf cf) ys' →
            Calls Tryz.prog 57 #[.slice (some ⟨blk, off, none⟩) N cap, .int .i64 a, .int .i64 m, .int .i64 b, .func (.func g) #[] cb] w fun e w' => e = .returned (.tuple #[]) ∧ SWK enc k w0 blk off (pre ++ mrg (leOf cf) xs' ys' ++ post).toArray w' := fun pre xs' ys' post w a m b hl => ih pre xs' ys' post w a m b (by omega)
        by_cases hw : (a + b) / 2 < m
        · exact sym_far k zE enc cf hp g cb blk off cap d0 pre xs ys post w0 w N a m b hN ha hm hb (by omega) (by omega) eg hC R hs S hsz s1 s2 _ rfl hw IH
        · exact sym_near k zE enc cf hp g cb blk off cap d0 pre xs ys post w0 w N a m b hN ha hm hb (by omega) (by omega) eg hC R hs S hsz s1 s2 _ rfl (by omega) IH
theorem ins_calls {α : Type} [Inhabited α] (k : Nat) (aE : ∀ w, (isAgg 36).run Tryz.prog w = .ok true w) (zE : ∀ w, (Go.sizeOf 36).run Tryz.prog w = .ok k w) (enc : α → List Value) (cf : α → α → Int) (hp : Pre (leOf cf)) (g : Nat) (cb : Array Value) (blk off cap : Nat) (d0 : Array α) (w0 : World) (N : Nat)
    (eg : ∀ args w, (callFunc g args).run Tryz.prog w = .ok (.enter g args) w) (hC : CmpLays Tryz.prog g cb enc k cf blk off N w0)
    (R : RowK enc k w0 blk off d0) (hs : d0.size = N) (hsz : N < 2305843009213693952) (pre xs post : List α) (w : World) (a b : Nat) (hN : (pre ++ xs ++ post).length = N) (ha : pre.length = a) (hb : a + xs.length = b) (S : SWK enc k w0 blk off (pre ++ xs ++ post).toArray w) :
      Calls Tryz.prog 56 #[.slice (some ⟨blk, off, none⟩) N cap, .int .i64 a, .int .i64 b, .func (.func g) #[] cb] w fun e w' => e = .returned (.tuple #[]) ∧ SWK enc k w0 blk off (pre ++ stb (leOf cf) xs ++ post).toArray w' := by
  have hsz1 : (pre ++ xs ++ post).toArray.size = N := by simpa using hN
  have hC1 : CmpLays Tryz.prog g cb enc k cf blk off (pre ++ xs ++ post).toArray.size w := fun m os dk hdk x y => by
    obtain ⟨n0, os0, rfl⟩ := S
    rw [sortWorldK_on enc k w0 blk off n0 m (pre ++ xs ++ post).toArray dk os0 os R.hblk hdk]
    exact hC _ _ dk (by omega) x y
  have h := AnyQ.insertionSortCmpFunc Tryz.shIns k aE zE enc R.hk R.h1 cf g cb blk off cap a b (pre ++ xs ++ post).toArray w eg hC1 (S.holds R.hblk R.hH (by omega)) (S.lt R.hblk) (by omega) (by rw [hsz1, ← hN]; simp; omega) (by omega)
  rw [Stb.insertionSort_stb hp (ltOf cf) (fun a b => rfl) pre xs post a b ha hb, hsz1] at h
  refine Calls.mono h ?_
  rintro e w' ⟨rfl, n, os, rfl⟩
  exact ⟨rfl, S.on R.hblk n _ os (by simp [Stb.stb_length])⟩
end Go.Proofs.YtdjjlmphifgnnaaGreat
