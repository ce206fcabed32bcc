/- Parts of one proof, joined: Sty, Stz, Sua. Conditions: those of each statement. -/
import Derived.Test.YtdjjlmphifgnnaaGreatCc1
namespace Go.Proofs.YtdjjlmphifgnnaaGreat
open Go.Shelf Go.RowKit Go.Lib Go.Sort
open Stb (mrg Pre Sorted)
set_option linter.unusedVariables false
set_option linter.unusedSimpArgs false
def leOf {α : Type} (cf : α → α → Int) (a b : α) : Bool := !decide (cf b a < 0)
set_option maxHeartbeats 4000000 in
set_option maxRecDepth 1000000 in
/-- one element ahead of sorted ones -/
theorem sym_ahead {α : Type} [Inhabited α] (k : Nat) (zE : ∀ w, (Go.sizeOf 36).run Tryz.prog w = .ok k w) (enc : α → List Value) (cf : α → α → Int) (hp : Pre (leOf cf)) (g : Nat) (cb : Array Value) (blk off cap : Nat) (d0 : Array α) (pre ys post : List α) (x : α) (w0 w : World) (N a m b : Nat) (hN : (pre ++ [x] ++ ys ++ post).length = N) (ha : pre.length = a) (hm : a + 1 = m) (hb : m + ys.length = b)
    (eg : ∀ args w, (callFunc g args).run Tryz.prog w = .ok (.enter g args) w) (hC : CmpLays Tryz.prog g cb enc k cf blk off N w0)
    (R : RowK enc k w0 blk off d0) (hs : d0.size = N) (S : SWK enc k w0 blk off (pre ++ [x] ++ ys ++ post).toArray w) (hsz : N < 4611686018427387904) (hsort : Sorted (leOf cf) ys) :
    Calls Tryz.prog 57 #[.slice (some ⟨blk, off, none⟩) N cap, .int .i64 a, .int .i64 m, .int .i64 b, .func (.func g) #[] cb] w fun e w' => e = .returned (.tuple #[]) ∧ SWK enc k w0 blk off (pre ++ mrg (leOf cf) [x] ys ++ post).toArray w' := by
  have S0 : Aside (SWK enc k w0 blk off (pre ++ [x] ++ ys ++ post).toArray w) := S
  have HL : Aside (pre.length = a ∧ a + 1 = m ∧ m + ys.length = b) := ⟨ha, hm, hb⟩
  have hN' : Aside ((pre ++ [x] ++ ys ++ post).length = N) := hN
  have HSO : Aside (Sorted (leOf cf) ys) := hsort
  have hbN : b ≤ N := by simp only [List.length_append, List.length_singleton] at hN; omega
  have hmb : m ≤ b := by omega
  have ham : a + 1 ≤ m := by omega
  have mixed : Tryz.prog.follows .mixedOrders = true := by kernel_rfl
  have c1 : IntKind.i64.wrap ((m : Int) - (a : Int)) = 1 := by rw [IntKind.wrap_i64]; omega
  have c2 : ((m : Int) - (a : Int) == 1) = true := by simp; omega
  clear S hN ha hm hb hsort
  go_enter Tryz.func57, Tryz.ntmps57
  go_wp2
  go_loopg [10, 11] (b - m) (fun kx s10 s11 wr => ∃ (p r : Nat), s10 = .int .i64 ((m + p : Nat) : Int) ∧ s11 = .int .i64 ((m + r : Nat) : Int) ∧ p ≤ r ∧ m + r ≤ b ∧ r - p ≤ kx ∧ Aside ((0 < p → ∀ y, ys[p - 1]? = some y → leOf cf x y = false) ∧ (∀ y, ys[r]? = some y → leOf cf x y = true)) ∧ Aside (SWK enc k w0 blk off (pre ++ [x] ++ ys ++ post).toArray wr))
  case atStart => exact ⟨0, b - m, by go_num, by go_num, by omega, by omega, by omega, ⟨fun h => by omega, fun y hy => by have h1 := (List.getElem?_eq_some_iff.1 hy).1; have := HL.out; omega⟩, S0⟩
  case round =>
    obtain ⟨p, r, rfl, rfl, hpr, hrb, hkx, HQ, S1⟩ := hrel
    by_cases hlt : p < r
    · have q1 : ((m + p : Nat) : Int) < ((m + r : Nat) : Int) := by omega
      go_wp2_with fail
      obtain ⟨q, hq, hpq, hqr⟩ : ∃ q : Nat, ((m : Int) + (p : Int) + ((m : Int) + (r : Int))) / 2 = (m : Int) + (q : Int) ∧ p ≤ q ∧ q < r := ⟨(p + r) / 2, by omega, by omega, by omega⟩
      rw [hq]
      obtain ⟨h1, h2, h3⟩ := HL.out
      obtain ⟨y, hy⟩ : ∃ y, ys[q]? = some y := ⟨ys[q]'(by omega), List.getElem?_eq_getElem _⟩
      obtain ⟨dk, hdk⟩ : ∃ dk, (pre ++ [x] ++ ys ++ post).toArray = dk := ⟨_, rfl⟩
      have hsz2 : dk.size = N := by rw [← hdk, ← hN'.out]; simp
      have dy : dk[m + q]! = y := by
        rw [← hdk, List.getElem!_toArray, List.getElem!_eq_getElem?_getD, List.append_assoc, List.getElem?_append_right (by simp; omega), show m + q - (pre ++ [x]).length = q by simp; omega, List.getElem?_append_left (List.getElem?_eq_some_iff.1 hy).1, hy]
        rfl
      have dx : dk[a]! = x := by
        rw [← hdk, List.getElem!_toArray, List.getElem!_eq_getElem?_getD, List.append_assoc, List.append_assoc, List.getElem?_append_right (by omega), show a - pre.length = 0 by omega]
        rfl
      rw [hdk] at S1
      have la := S1.out.ld R (by omega) Tryz.prog (m + q) (by omega)
      have lb := S1.out.ld R (by omega) Tryz.prog a (by omega)
      rw [dy] at la
      rw [dx] at lb
      have hc := S1.out.cmp hC (by omega) y x
      have pa : (0 : Int) ≤ (m : Int) + (q : Int) := by omega
      have ba : (m : Int) + (q : Int) < (N : Int) := by omega
      have ea : ((m : Int) + (q : Int)).toNat = m + q := by omega
      have pb : (0 : Int) ≤ (a : Int) := by omega
      have bb : (a : Int) < (N : Int) := by omega
      have eb : ((a : Int)).toNat = a := by omega
      have HY : Aside (ys[q]? = some y) := hy
      have HDK : Aside ((pre ++ [x] ++ ys ++ post).toArray = dk) := hdk
      clear hy hdk dy dx hq h1 h2 h3
      by_cases hlv : cf y x < 0
      · have hd : decide (cf y x < 0) = true := decide_eq_true hlv
        go_quiet_grown (first | (go_at_fn g; refine Calls.grown_of (hc _ _)))
        have SV : Aside (SWK enc k w0 blk off dk (grow (wr.drewN nq) osq)) := S1.out.grown nq osq
        clear la lb hc S1
        generalize grow (wr.drewN nq) osq = wv at SV ⊢
        clear nq osq
        obtain ⟨gq, rfl⟩ : ∃ gq, gk = gq + 1 := ⟨gk - 1, by omega⟩
        go_wp2
        go_roundg gq
        case measure => omega
        case rel => exact ⟨q + 1, r, by go_num, rfl, by omega, hrb, by omega, ⟨fun _ z hz => by rw [Nat.add_sub_cancel, HY.out] at hz; injection hz with hz; subst hz; simp [leOf, hlv], HQ.out.2⟩, (show SWK _ _ _ _ _ _ _ from by rw [HDK.out]; exact SV.out)⟩
      · have hd : decide (cf y x < 0) = false := decide_eq_false hlv
        go_quiet_grown (first | (go_at_fn g; refine Calls.grown_of (hc _ _)))
        have SV : Aside (SWK enc k w0 blk off dk (grow (wr.drewN nq) osq)) := S1.out.grown nq osq
        clear la lb hc S1
        generalize grow (wr.drewN nq) osq = wv at SV ⊢
        clear nq osq
        obtain ⟨gq, rfl⟩ : ∃ gq, gk = gq + 1 := ⟨gk - 1, by omega⟩
        go_wp2
        go_roundg gq
        case measure => omega
        case rel => exact ⟨p, q, rfl, rfl, hpq, by omega, by omega, ⟨HQ.out.1, fun z hz => by rw [HY.out] at hz; injection hz with hz; subst hz; simp [leOf, hlv]⟩, (show SWK _ _ _ _ _ _ _ from by rw [HDK.out]; exact SV.out)⟩
    · obtain rfl : p = r := by omega
      have hmq : ¬ ((m : Int) + (p : Int) < (m : Int) + (p : Int)) := by omega
      have w1 : IntKind.i64.wrap ((m : Int) + (p : Int) - 1) = (m : Int) + (p : Int) - 1 := by rw [IntKind.wrap_i64]; omega
      go_wp2
      have hj0 := HL.out
      go_loopg [13] p (fun ky s13 wr2 => ∃ (t : Nat), s13 = .int .i64 ((a + t : Nat) : Int) ∧ t + ky = p ∧ Aside (SWK enc k w0 blk off (pre ++ ys.take t ++ [x] ++ ys.drop t ++ post).toArray wr2))
      case atStart => exact ⟨0, by go_num, by omega, (show SWK _ _ _ _ _ _ _ from by simpa using S1.out)⟩
      case round =>
        obtain ⟨t, rfl, htk, S3⟩ := hrel
        by_cases htp : t < p
        · have q2 : (a : Int) + (t : Int) < (m : Int) + (p : Int) - 1 := by omega
          obtain ⟨y, hy⟩ : ∃ y, ys[t]? = some y := ⟨ys[t]'(by omega), List.getElem?_eq_getElem _⟩
          have hdr : ys.drop t = y :: ys.drop (t + 1) := by
            rw [List.drop_eq_getElem_cons (List.getElem?_eq_some_iff.1 hy).1, (List.getElem?_eq_some_iff.1 hy).2]
          have htk1 : ys.take (t + 1) = ys.take t ++ [y] := by rw [List.take_add_one, hy]; rfl
          obtain ⟨dk, hdk⟩ : ∃ dk, (pre ++ ys.take t ++ [x] ++ ys.drop t ++ post).toArray = dk := ⟨_, rfl⟩
          have hsz2 : dk.size = N := by
            rw [← hdk, ← hN'.out]
            simp only [List.size_toArray, List.length_append, List.length_take, List.length_drop, List.length_singleton]
            omega
          have hla : (pre ++ ys.take t).length = a + t := by rw [List.length_append, List.length_take]; omega
          have hsw : swp dk (a + t) (a + t + 1) = (pre ++ ys.take (t + 1) ++ [x] ++ ys.drop (t + 1) ++ post).toArray := by
            have e := swp_list (pre ++ ys.take t) [] (ys.drop (t + 1) ++ post) x y
            rw [hla] at e
            rw [← hdk, hdr, htk1]
            simpa [List.append_assoc] using e
          rw [hdk] at S3
          have S4 : Aside (SWK enc k w0 blk off (swp dk (a + t) (a + t + 1)) ((wr.drew.setCells blk (off + (a + t) * k) (enc dk[a + t + 1]!)).setCells blk (off + (a + t + 1) * k) (enc dk[a + t]!))) := S3.out.swapped R (a + t) (a + t + 1) (by omega) (by omega)
          have la := S3.out.ld1 R (by omega) Tryz.prog (a + t) (by omega)
          have lb := S3.out.ld1 R (by omega) Tryz.prog (a + t + 1) (by omega)
          have sa := S3.out.st1 R (by omega) Tryz.prog (a + t) (by omega) dk[a + t + 1]!
          have sb := S3.out.st2 R (by omega) Tryz.prog (a + t) (a + t + 1) (by omega) (by omega) dk[a + t + 1]! dk[a + t]!
          have na : (enc dk[a + t]!).length = k := R.hk _
          have nb : (enc dk[a + t + 1]!).length = k := R.hk _
          have HSW : Aside _ := hsw
          generalize enc dk[a + t]! = cI at S4 la sb na
          generalize enc dk[a + t + 1]! = cJ at S4 lb sa sb nb
          clear S3 hdk hsw hy hdr htk1 hla hj0
          have pa : (0 : Int) ≤ (a : Int) + (t : Int) := by omega
          have pb : (0 : Int) ≤ (a : Int) + (t : Int) + 1 := by omega
          have ba : (a : Int) + (t : Int) < (N : Int) := by omega
          have bb : (a : Int) + (t : Int) + 1 < (N : Int) := by omega
          have ea : ((a : Int) + (t : Int)).toNat = a + t := by omega
          have eb : ((a : Int) + (t : Int) + 1).toNat = a + t + 1 := by omega
          have ra : IntKind.i64.wrap ((a : Int) + (t : Int) + 1) = (a : Int) + (t : Int) + 1 := by rw [IntKind.wrap_i64]; omega
          go_wp2_with fail
          go_big_region_o
          clear la lb sa sb
          generalize (wr.drew.setCells blk (off + (a + t) * k) cJ).setCells blk (off + (a + t + 1) * k) cI = w2 at S4 ⊢
          obtain ⟨gq, rfl⟩ : ∃ gq, gk = gq + 1 := ⟨gk - 1, by omega⟩
          go_wp2
          go_roundg gq
          case measure => omega
          case rel => exact ⟨t + 1, by go_num, by omega, (show SWK _ _ _ _ _ _ _ from by rw [← HSW.out]; exact S4.out)⟩
        · obtain rfl : t = p := by omega
          have q2 : ¬ ((a : Int) + (t : Int) < (m : Int) + (t : Int) - 1) := by omega
          go_wp2
          refine bodyPost_ret (results_none rfl _ _ _) rfl ?_
          refine ⟨rfl, ?_⟩
          obtain ⟨g1, g2, g3⟩ := HL.out
          rw [Stb.mrg_one hp HSO.out t (by omega) (fun b hb => HQ.out.2 b hb) (fun b h0 hb => HQ.out.1 h0 b hb)]
          have := S3.out
          simpa [List.append_assoc] using this
end Go.Proofs.YtdjjlmphifgnnaaGreat
namespace Go.Proofs.YtdjjlmphifgnnaaGreat
open Go.Shelf Go.RowKit Go.Lib Go.Sort
open Stb (mrg Pre Sorted)
set_option linter.unusedVariables false
set_option linter.unusedSimpArgs false
theorem swp_list2 {α : Type} [Inhabited α] (A B C : List α) (x y : α) : swp (A ++ x :: B ++ y :: C).toArray (A.length + 1 + B.length) A.length = (A ++ y :: B ++ x :: C).toArray := by
  rw [← swp_list A B C x y]
  unfold swp
  apply Array.ext'
  simp only [Array.toList_setIfInBounds]
  rw [List.set_comm _ _ (show A.length + 1 + B.length ≠ A.length by omega)]
set_option maxHeartbeats 4000000 in
set_option maxRecDepth 1000000 in
/-- one element behind sorted ones -/
theorem sym_behind {α : Type} [Inhabited α] (k : Nat) (zE : ∀ w, (Go.sizeOf 36).run Tryz.prog w = .ok k w) (enc : α → List Value) (cf : α → α → Int) (hp : Pre (leOf cf)) (g : Nat) (cb : Array Value) (blk off cap : Nat) (d0 : Array α) (pre xs post : List α) (y : α) (w0 w : World) (N a m b : Nat) (hN : (pre ++ xs ++ [y] ++ post).length = N) (ha : pre.length = a) (hm : a + xs.length = m) (hb : m + 1 = b) (h2 : 2 ≤ xs.length)
    (eg : ∀ args w, (callFunc g args).run Tryz.prog w = .ok (.enter g args) w) (hC : CmpLays Tryz.prog g cb enc k cf blk off N w0)
    (R : RowK enc k w0 blk off d0) (hs : d0.size = N) (S : SWK enc k w0 blk off (pre ++ xs ++ [y] ++ post).toArray w) (hsz : N < 4611686018427387904) (hsort : Sorted (leOf cf) xs) :
    Calls Tryz.prog 57 #[.slice (some ⟨blk, off, none⟩) N cap, .int .i64 a, .int .i64 m, .int .i64 b, .func (.func g) #[] cb] w fun e w' => e = .returned (.tuple #[]) ∧ SWK enc k w0 blk off (pre ++ mrg (leOf cf) xs [y] ++ post).toArray w' := by
  have S0 : Aside (SWK enc k w0 blk off (pre ++ xs ++ [y] ++ post).toArray w) := S
  obtain ⟨n, hn⟩ : ∃ n, xs.length = n := ⟨_, rfl⟩
  have HL : Aside (pre.length = a ∧ a + n = m ∧ m + 1 = b ∧ xs.length = n) := ⟨ha, by omega, hb, hn⟩
  have hN' : Aside ((pre ++ xs ++ [y] ++ post).length = N) := hN
  have HSO : Aside (Sorted (leOf cf) xs) := hsort
  have hbN : b ≤ N := by simp only [List.length_append, List.length_singleton] at hN; omega
  have hmb : m + 1 ≤ b := by omega
  have ham : a + 2 ≤ m := by omega
  have mixed : Tryz.prog.follows .mixedOrders = true := by kernel_rfl
  have c1 : IntKind.i64.wrap ((m : Int) - (a : Int)) = (m : Int) - (a : Int) := by rw [IntKind.wrap_i64]; omega
  have c2 : ((m : Int) - (a : Int) == 1) = false := by simp; omega
  have c3 : IntKind.i64.wrap ((b : Int) - (m : Int)) = (b : Int) - (m : Int) := by rw [IntKind.wrap_i64]; omega
  have c4 : ((b : Int) - (m : Int) == 1) = true := by simp; omega
  clear S hN ha hm hb hsort h2 hn
  go_enter Tryz.func57, Tryz.ntmps57
  go_wp2
  go_loopg [14, 15] (m - a) (fun kx s14 s15 wr => ∃ (p r : Nat), s14 = .int .i64 ((a + p : Nat) : Int) ∧ s15 = .int .i64 ((a + r : Nat) : Int) ∧ p ≤ r ∧ a + r ≤ m ∧ r - p ≤ kx ∧ Aside ((0 < p → ∀ x, xs[p - 1]? = some x → leOf cf x y = true) ∧ (∀ x, xs[r]? = some x → leOf cf x y = false)) ∧ Aside (SWK enc k w0 blk off (pre ++ xs ++ [y] ++ post).toArray wr))
  case atStart => exact ⟨0, m - a, by go_num, by go_num, by omega, by omega, by omega, ⟨fun h => by omega, fun z hz => by have h1 := (List.getElem?_eq_some_iff.1 hz).1; have := HL.out; omega⟩, S0⟩
  case round =>
    clear c1 c2 c3 c4
    obtain ⟨p, r, rfl, rfl, hpr, hrb, hkx, HQ, S1⟩ := hrel
    by_cases hlt : p < r
    · have q1 : ((a + p : Nat) : Int) < ((a + r : Nat) : Int) := by omega
      go_wp2_with fail
      obtain ⟨q, hq, hpq, hqr⟩ : ∃ q : Nat, ((a : Int) + (p : Int) + ((a : Int) + (r : Int))) / 2 = (a : Int) + (q : Int) ∧ p ≤ q ∧ q < r := ⟨(p + r) / 2, by omega, by omega, by omega⟩
      rw [hq]
      obtain ⟨h1, h2, h3, h4⟩ := HL.out
      obtain ⟨x, hx⟩ : ∃ x, xs[q]? = some x := ⟨xs[q]'(by omega), List.getElem?_eq_getElem _⟩
      obtain ⟨dk, hdk⟩ : ∃ dk, (pre ++ xs ++ [y] ++ post).toArray = dk := ⟨_, rfl⟩
      have hsz2 : dk.size = N := by rw [← hdk, ← hN'.out]; simp
      have dx : dk[a + q]! = x := by
        rw [← hdk, List.getElem!_toArray, List.getElem!_eq_getElem?_getD, List.append_assoc, List.append_assoc, List.getElem?_append_right (by omega), show a + q - pre.length = q by omega, List.getElem?_append_left (List.getElem?_eq_some_iff.1 hx).1, hx]
        rfl
      have dy : dk[m]! = y := by
        rw [← hdk, List.getElem!_toArray, List.getElem!_eq_getElem?_getD, List.append_assoc, List.getElem?_append_right (by simp; omega), show m - (pre ++ xs).length = 0 by simp; omega]
        rfl
      rw [hdk] at S1
      have la := S1.out.ld R (by omega) Tryz.prog (a + q) (by omega)
      have lb := S1.out.ld R (by omega) Tryz.prog m (by omega)
      rw [dx] at la
      rw [dy] at lb
      have hc := S1.out.cmp hC (by omega) y x
      have pa : (0 : Int) ≤ (a : Int) + (q : Int) := by omega
      have ba : (a : Int) + (q : Int) < (N : Int) := by omega
      have ea : ((a : Int) + (q : Int)).toNat = a + q := by omega
      have pb : (0 : Int) ≤ (m : Int) := by omega
      have bb : (m : Int) < (N : Int) := by omega
      have eb : ((m : Int)).toNat = m := by omega
      have HX : Aside (xs[q]? = some x) := hx
      have HDK : Aside ((pre ++ xs ++ [y] ++ post).toArray = dk) := hdk
      clear hx hdk dy dx hq h1 h2 h3 h4
      by_cases hlv : cf y x < 0
      · have hd : decide (cf y x < 0) = true := decide_eq_true hlv
        go_quiet_grown (first | (go_at_fn g; refine Calls.grown_of (hc _ _)))
        have SV : Aside (SWK enc k w0 blk off dk (grow (wr.drewN nq) osq)) := S1.out.grown nq osq
        clear la lb hc S1
        generalize grow (wr.drewN nq) osq = wv at SV ⊢
        clear nq osq
        obtain ⟨gq, rfl⟩ : ∃ gq, gk = gq + 1 := ⟨gk - 1, by omega⟩
        go_wp2
        go_roundg gq
        case measure => omega
        case rel => exact ⟨p, q, rfl, rfl, hpq, by omega, by omega, ⟨HQ.out.1, fun z hz => by rw [HX.out] at hz; injection hz with hz; subst hz; simp [leOf, hlv]⟩, (show SWK _ _ _ _ _ _ _ from by rw [HDK.out]; exact SV.out)⟩
      · have hd : decide (cf y x < 0) = false := decide_eq_false hlv
        go_quiet_grown (first | (go_at_fn g; refine Calls.grown_of (hc _ _)))
        have SV : Aside (SWK enc k w0 blk off dk (grow (wr.drewN nq) osq)) := S1.out.grown nq osq
        clear la lb hc S1
        generalize grow (wr.drewN nq) osq = wv at SV ⊢
        clear nq osq
        obtain ⟨gq, rfl⟩ : ∃ gq, gk = gq + 1 := ⟨gk - 1, by omega⟩
        go_wp2
        go_roundg gq
        case measure => omega
        case rel => exact ⟨q + 1, r, by go_num, rfl, by omega, hrb, by omega, ⟨fun _ z hz => by rw [Nat.add_sub_cancel, HX.out] at hz; injection hz with hz; subst hz; simp [leOf, hlv], HQ.out.2⟩, (show SWK _ _ _ _ _ _ _ from by rw [HDK.out]; exact SV.out)⟩
    · obtain rfl : p = r := by omega
      have hmq : ¬ ((a : Int) + (p : Int) < (a : Int) + (p : Int)) := by omega
      go_wp2
      have hj0 := HL.out
      go_loopg [17] (n - p) (fun ky s17 wr2 => ∃ (t : Nat), s17 = .int .i64 ((a + t : Nat) : Int) ∧ p ≤ t ∧ t ≤ n ∧ t - p ≤ ky ∧ Aside (SWK enc k w0 blk off (pre ++ xs.take t ++ [y] ++ xs.drop t ++ post).toArray wr2))
      case atStart => exact ⟨n, by go_num, by omega, Nat.le_refl _, by omega, (show SWK _ _ _ _ _ _ _ from by rw [List.take_of_length_le (by omega), List.drop_eq_nil_of_le (by omega)]; simpa using S1.out)⟩
      case round =>
        obtain ⟨t, rfl, hpt, htn, htk, S3⟩ := hrel
        by_cases htp : p < t
        · obtain ⟨t, rfl⟩ : ∃ t', t = t' + 1 := ⟨t - 1, by omega⟩
          have q2 : (a : Int) + (p : Int) < (a : Int) + ((t : Int) + 1) := by omega
          have q3 : (a : Int) + (p : Int) < (a : Int) + (t : Int) + 1 := by omega
          obtain ⟨x, hx⟩ : ∃ x, xs[t]? = some x := ⟨xs[t]'(by omega), List.getElem?_eq_getElem _⟩
          have hdr : xs.drop t = x :: xs.drop (t + 1) := by
            rw [List.drop_eq_getElem_cons (List.getElem?_eq_some_iff.1 hx).1, (List.getElem?_eq_some_iff.1 hx).2]
          have htk1 : xs.take (t + 1) = xs.take t ++ [x] := by rw [List.take_add_one, hx]; rfl
          obtain ⟨dk, hdk⟩ : ∃ dk, (pre ++ xs.take (t + 1) ++ [y] ++ xs.drop (t + 1) ++ post).toArray = dk := ⟨_, rfl⟩
          have hsz2 : dk.size = N := by
            rw [← hdk, ← hN'.out]
            simp only [List.size_toArray, List.length_append, List.length_take, List.length_drop, List.length_singleton]
            omega
          have hla : (pre ++ xs.take t).length = a + t := by rw [List.length_append, List.length_take]; omega
          have hsw : swp dk (a + t + 1) (a + t) = (pre ++ xs.take t ++ [y] ++ xs.drop t ++ post).toArray := by
            have e := swp_list2 (pre ++ xs.take t) [] (xs.drop (t + 1) ++ post) x y
            rw [hla] at e
            rw [← hdk, hdr, htk1]
            simpa [List.append_assoc] using e
          rw [hdk] at S3
          have S4 : Aside (SWK enc k w0 blk off (swp dk (a + t + 1) (a + t)) ((wr.drew.setCells blk (off + (a + t + 1) * k) (enc dk[a + t]!)).setCells blk (off + (a + t) * k) (enc dk[a + t + 1]!))) := S3.out.swapped R (a + t + 1) (a + t) (by omega) (by omega)
          have la := S3.out.ld1 R (by omega) Tryz.prog (a + t) (by omega)
          have lb := S3.out.ld1 R (by omega) Tryz.prog (a + t + 1) (by omega)
          have sa := S3.out.st1 R (by omega) Tryz.prog (a + t + 1) (by omega) dk[a + t]!
          have sb := S3.out.st2 R (by omega) Tryz.prog (a + t + 1) (a + t) (by omega) (by omega) dk[a + t]! dk[a + t + 1]!
          have na : (enc dk[a + t]!).length = k := R.hk _
          have nb : (enc dk[a + t + 1]!).length = k := R.hk _
          have HSW : Aside _ := hsw
          generalize enc dk[a + t]! = cI at S4 la sa sb na
          generalize enc dk[a + t + 1]! = cJ at S4 lb sb nb
          have hj1 : a + n = m := hj0.2.1
          clear S3 hdk hsw hx hdr htk1 hla hj0
          have pa : (0 : Int) ≤ (a : Int) + (t : Int) := by omega
          have pb : (0 : Int) ≤ (a : Int) + ((t : Int) + 1) := by omega
          have ba : (a : Int) + (t : Int) < (N : Int) := by omega
          have bb : (a : Int) + ((t : Int) + 1) < (N : Int) := by omega
          have ea : ((a : Int) + (t : Int)).toNat = a + t := by omega
          have eb : ((a : Int) + ((t : Int) + 1)).toNat = a + t + 1 := by omega
          have ra : IntKind.i64.wrap ((a : Int) + ((t : Int) + 1) - 1) = (a : Int) + (t : Int) := by rw [IntKind.wrap_i64]; omega
          go_wp2_with fail
          go_big_region_o
          clear la lb sa sb
          generalize (wr.drew.setCells blk (off + (a + t + 1) * k) cI).setCells blk (off + (a + t) * k) cJ = w2 at S4 ⊢
          obtain ⟨gq, rfl⟩ : ∃ gq, gk = gq + 1 := ⟨gk - 1, by omega⟩
          have rb : IntKind.i64.wrap ((a + (t + 1) : Nat) - 1 : Int) = (a : Int) + (t : Int) := by rw [IntKind.wrap_i64]; omega
          go_wp2
          go_roundg gq
          case measure => omega
          case rel => exact ⟨t, by go_num, by omega, by omega, by omega, (show SWK _ _ _ _ _ _ _ from by rw [← HSW.out]; exact S4.out)⟩
        · obtain rfl : t = p := by omega
          have q2 : ¬ ((a : Int) + (t : Int) < (a : Int) + (t : Int)) := by omega
          go_wp2
          refine bodyPost_ret (results_none rfl _ _ _) rfl ?_
          refine ⟨rfl, ?_⟩
          obtain ⟨g1, g2, g3, g4⟩ := HL.out
          rw [Stb.mrg_last hp HSO.out t (by omega) (fun z h0 hz => HQ.out.1 h0 z hz) (fun z hz => HQ.out.2 z hz)]
          have := S3.out
          simpa [List.append_assoc] using this
end Go.Proofs.YtdjjlmphifgnnaaGreat
namespace Go.Proofs.YtdjjlmphifgnnaaGreat
open Go.Shelf Go.RowKit Go.Lib Go.Sort
open Stb (mrg Pre Sorted)
set_option linter.unusedVariables false
set_option linter.unusedSimpArgs false
theorem swk_eq {α : Type} [Inhabited α] {enc : α → List Value} {k : Nat} {w0 w : World} {blk off : Nat} {L L' : List α} (h : L = L') (S : SWK enc k w0 blk off L.toArray w) : SWK enc k w0 blk off L'.toArray w := h ▸ S
theorem mrg_flat {α : Type} {le : α → α → Bool} {X Y : List α} (h : X = [] ∨ Y = []) : mrg le X Y = X ++ Y := by
  rcases h with rfl | rfl
  · rw [Stb.mrg_nil]; rfl
  · rw [Stb.mrg_nil2, List.append_nil]
theorem sym_parts {α : Type} {le : α → α → Bool} (hp : Pre le) {xs ys : List α} (h1 : Sorted le xs) (h2 : Sorted le ys) (a m b mid s0 r0 c e : Nat) (hm : m = a + xs.length) (hb : b = m + ys.length) (hmid : 2 * mid ≤ a + b ∧ a + b < 2 * mid + 2)
    (hs : (mid < m ∧ s0 + b = mid + m ∧ r0 = mid) ∨ (m ≤ mid ∧ s0 = a ∧ r0 = m)) (hc : s0 ≤ c ∧ c ≤ r0) (he : e + c = mid + m)
    (H1 : c = s0 ∨ ∀ x y, xs[c - 1 - a]? = some x → ys[e - m]? = some y → le x y = true) (H2 : c = r0 ∨ ∀ x y, xs[c - a]? = some x → ys[e - 1 - m]? = some y → le x y = false) :
    ∃ X1 X2 Y1 Y2, xs = X1 ++ X2 ∧ ys = Y1 ++ Y2 ∧ X1.length + a = c ∧ Y1.length + m = e ∧ mrg le xs ys = mrg le X1 Y1 ++ mrg le X2 Y2 := by
  obtain ⟨k1, k2, k3, k4, h⟩ := Stb.sym_cut hp h1 h2 a m b mid s0 r0 c e hm hb hmid hs hc he H1 H2
  exact ⟨xs.take (c - a), xs.drop (c - a), ys.take (e - m), ys.drop (e - m), (List.take_append_drop _ _).symm, (List.take_append_drop _ _).symm, by rw [List.length_take]; omega, by rw [List.length_take]; omega, h⟩
set_option maxHeartbeats 4000000 in
set_option maxRecDepth 1000000 in
theorem sym_far {α : Type} [Inhabited α] (k : Nat) (zE : ∀ w, (Go.sizeOf 36).run Tryz.prog w = .ok k w) (enc : α → List Value) (cf : α → α → Int) (hp : Pre (leOf cf)) (g : Nat) (cb : Array Value) (blk off cap : Nat) (d0 : Array α) (pre xs ys post : List α) (w0 w : World) (N a m b : Nat) (hN : (pre ++ xs ++ ys ++ post).length = N) (ha : pre.length = a) (hm : a + xs.length = m) (hb : m + ys.length = b) (h2 : 2 ≤ xs.length) (h3 : 2 ≤ ys.length)
    (eg : ∀ args w, (callFunc g args).run Tryz.prog w = .ok (.enter g args) w) (hC : CmpLays Tryz.prog g cb enc k cf blk off N w0)
    (R : RowK enc k w0 blk off d0) (hs : d0.size = N) (S : SWK enc k w0 blk off (pre ++ xs ++ ys ++ post).toArray w) (hsz : N < 2305843009213693952) (hs1 : Sorted (leOf cf) xs) (hs2 : Sorted (leOf cf) ys) (mid : Nat) (hmid : (a + b) / 2 = mid) (hway : mid < m)
    (ih : ∀ (pre xs' ys' post : List α) (w : World) (a m b : Nat), xs'.length + ys'.length < xs.length + ys.length → (pre ++ xs' ++ ys' ++ post).length = N → pre.length = a → a + xs'.length = m → m + ys'.length = b → 0 < xs'.length → 0 < ys'.length → SWK enc k w0 blk off (pre ++ xs' ++ ys' ++ post).toArray w → Sorted (leOf cf) xs' → Sorted (leOf cf) ys' →
      Calls Tryz.prog 57 #[.slice (some ⟨blk, off, none⟩) N cap, .int .i64 a, .int .i64 m, .int .i64 b, .func (.func g) #[] cb] w fun e w' => e = .returned (.tuple #[]) ∧ SWK enc k w0 blk off (pre ++ mrg (leOf cf) xs' ys' ++ post).toArray w') :
    Calls Tryz.prog 57 #[.slice (some ⟨blk, off, none⟩) N cap, .int .i64 a, .int .i64 m, .int .i64 b, .func (.func g) #[] cb] w fun e w' => e = .returned (.tuple #[]) ∧ SWK enc k w0 blk off (pre ++ mrg (leOf cf) xs ys ++ post).toArray w' := by
  have S0 : Aside (SWK enc k w0 blk off (pre ++ xs ++ ys ++ post).toArray w) := S
  have HL : Aside (pre.length = a ∧ a + xs.length = m ∧ m + ys.length = b ∧ 2 ≤ xs.length ∧ 2 ≤ ys.length) := ⟨ha, hm, hb, h2, h3⟩
  have hN' : Aside ((pre ++ xs ++ ys ++ post).length = N) := hN
  have HSO : Aside (Sorted (leOf cf) xs ∧ Sorted (leOf cf) ys) := ⟨hs1, hs2⟩
  have IH : Aside _ := ih
  have hbN : b ≤ N := by simp only [List.length_append] at hN; omega
  have hmb : m + 2 ≤ b := by omega
  have ham : a + 2 ≤ m := by omega
  have mixed : Tryz.prog.follows .mixedOrders = true := by kernel_rfl
  have c1 : IntKind.i64.wrap ((m : Int) - (a : Int)) = (m : Int) - (a : Int) := by rw [IntKind.wrap_i64]; omega
  have c2 : ((m : Int) - (a : Int) == 1) = false := by simp; omega
  have c3 : IntKind.i64.wrap ((b : Int) - (m : Int)) = (b : Int) - (m : Int) := by rw [IntKind.wrap_i64]; omega
  have c4 : ((b : Int) - (m : Int) == 1) = false := by simp; omega
  have e1 : ((a : Int) + (b : Int)) / 2 = (mid : Int) := by omega
  have hmm : 2 * mid ≤ a + b ∧ a + b < 2 * mid + 2 := by omega
  have c5 : IntKind.i64.wrap ((mid : Int) + (m : Int) - (b : Int)) = (mid : Int) + (m : Int) - (b : Int) := by rw [IntKind.wrap_i64]; omega
  have c6 : IntKind.i64.wrap ((mid : Int) + (m : Int) - 1) = (mid : Int) + (m : Int) - 1 := by rw [IntKind.wrap_i64]; omega
  have w1 : (mid : Int) < (m : Int) := by omega
  obtain ⟨s0, hs0⟩ : ∃ s0 : Nat, s0 + b = mid + m := ⟨mid + m - b, by omega⟩
  obtain ⟨r0, hr0⟩ : ∃ r0 : Nat, r0 = mid := ⟨_, rfl⟩
  have c7 : (mid : Int) + (m : Int) - (b : Int) = (s0 : Int) := by omega
  clear S hN ha hm hb hs1 hs2 h2 h3 ih
  go_enter Tryz.func57, Tryz.ntmps57
  go_wp2
  go_loopg [20, 21] (r0 - s0) (fun kx s20 s21 wr => ∃ (c r : Nat), s20 = .int .i64 (c : Int) ∧ s21 = .int .i64 (r : Int) ∧ s0 ≤ c ∧ c ≤ r ∧ r ≤ r0 ∧ r - c ≤ kx ∧ Aside ((c = s0 ∨ ∀ x y, xs[c - 1 - a]? = some x → ys[mid + m - c - m]? = some y → leOf cf x y = true) ∧ (r = r0 ∨ ∀ x y, xs[r - a]? = some x → ys[mid + m - r - 1 - m]? = some y → leOf cf x y = false)) ∧ Aside (SWK enc k w0 blk off (pre ++ xs ++ ys ++ post).toArray wr))
  case atStart => exact ⟨s0, r0, by go_num, by go_num, Nat.le_refl _, by omega, Nat.le_refl _, Nat.le_refl _, ⟨.inl rfl, .inl rfl⟩, S0⟩
  case round =>
    clear c1 c2 c3 c4
    obtain ⟨c, r, rfl, rfl, hsc, hcr, hrr, hkx, HQ, S1⟩ := hrel
    by_cases hlt : c < r
    · have q1 : (c : Int) < (r : Int) := by omega
      go_wp2_with fail
      obtain ⟨q, hq, hpq, hqr⟩ : ∃ q : Nat, ((c : Int) + (r : Int)) / 2 = (q : Int) ∧ c ≤ q ∧ q < r := ⟨(c + r) / 2, by omega, by omega, by omega⟩
      rw [hq]
      obtain ⟨h1, h2, h3, h4, h5⟩ := HL.out
      obtain ⟨z, hz⟩ : ∃ z : Nat, mid + m - 1 - q = z := ⟨_, rfl⟩
      have hz1 : m ≤ z ∧ z < b ∧ a ≤ q ∧ q < m ∧ z + q + 1 = mid + m := by omega
      obtain ⟨x, hx⟩ : ∃ x, xs[q - a]? = some x := ⟨xs[q - a]'(by omega), List.getElem?_eq_getElem _⟩
      obtain ⟨y, hy⟩ : ∃ y, ys[z - m]? = some y := ⟨ys[z - m]'(by omega), List.getElem?_eq_getElem _⟩
      obtain ⟨dk, hdk⟩ : ∃ dk, (pre ++ xs ++ ys ++ post).toArray = dk := ⟨_, rfl⟩
      have hsz2 : dk.size = N := by rw [← hdk, ← hN'.out]; simp
      have dx : dk[q]! = x := by
        rw [← hdk, List.getElem!_toArray, List.getElem!_eq_getElem?_getD, List.append_assoc, List.append_assoc, List.getElem?_append_right (by omega), show q - pre.length = q - a by omega, List.getElem?_append_left (by omega), hx]
        rfl
      have dy : dk[z]! = y := by
        rw [← hdk, List.getElem!_toArray, List.getElem!_eq_getElem?_getD, List.append_assoc, List.getElem?_append_right (by simp; omega), show z - (pre ++ xs).length = z - m by simp; omega, List.getElem?_append_left (by omega), hy]
        rfl
      rw [hdk] at S1
      have la := S1.out.ld R (by omega) Tryz.prog z (by omega)
      have lb := S1.out.ld R (by omega) Tryz.prog q (by omega)
      rw [dy] at la
      rw [dx] at lb
      have hc := S1.out.cmp hC (by omega) y x
      have r1 : IntKind.i64.wrap ((mid : Int) + (m : Int) - 1 - (q : Int)) = (mid : Int) + (m : Int) - 1 - (q : Int) := by rw [IntKind.wrap_i64]; omega
      have pa : (0 : Int) ≤ (mid : Int) + (m : Int) - 1 - (q : Int) := by omega
      have ba : (mid : Int) + (m : Int) - 1 - (q : Int) < (N : Int) := by omega
      have pa2 : (q : Int) ≤ (mid : Int) + (m : Int) - 1 := by omega
      have ea : ((mid : Int) + (m : Int) - 1 - (q : Int)).toNat = z := by omega
      have pb : (0 : Int) ≤ (q : Int) := by omega
      have bb : (q : Int) < (N : Int) := by omega
      have eb : ((q : Int)).toNat = q := by omega
      have HX : Aside (xs[q - a]? = some x ∧ ys[z - m]? = some y ∧ (m ≤ z ∧ z < b ∧ a ≤ q ∧ q < m ∧ z + q + 1 = mid + m)) := ⟨hx, hy, hz1⟩
      have HDK : Aside ((pre ++ xs ++ ys ++ post).toArray = dk) := hdk
      clear hx hy hdk dy dx hq h1 h2 h3 h4 h5 hz1 hz
      by_cases hlv : cf y x < 0
      · have hd : decide (cf y x < 0) = true := decide_eq_true hlv
        go_quiet_grown (first | (go_at_fn g; refine Calls.grown_of (hc _ _)))
        have SV : Aside (SWK enc k w0 blk off dk (grow (wr.drewN nq) osq)) := S1.out.grown nq osq
        clear la lb hc S1
        generalize grow (wr.drewN nq) osq = wv at SV ⊢
        clear nq osq
        obtain ⟨gq, rfl⟩ : ∃ gq, gk = gq + 1 := ⟨gk - 1, by omega⟩
        go_wp2
        go_roundg gq
        case measure => omega
        case rel =>
          obtain ⟨f1, f2, f3⟩ := HX.out
          exact ⟨c, q, rfl, rfl, hsc, hpq, by omega, by omega, ⟨HQ.out.1, .inr fun u v hu hv => by rw [f1] at hu; injection hu with hu; subst hu; rw [show mid + m - q - 1 - m = z - m by omega, f2] at hv; injection hv with hv; subst hv; simp [leOf, hlv]⟩, (show SWK _ _ _ _ _ _ _ from by rw [HDK.out]; exact SV.out)⟩
      · have hd : decide (cf y x < 0) = false := decide_eq_false hlv
        go_quiet_grown (first | (go_at_fn g; refine Calls.grown_of (hc _ _)))
        have SV : Aside (SWK enc k w0 blk off dk (grow (wr.drewN nq) osq)) := S1.out.grown nq osq
        clear la lb hc S1
        generalize grow (wr.drewN nq) osq = wv at SV ⊢
        clear nq osq
        obtain ⟨gq, rfl⟩ : ∃ gq, gk = gq + 1 := ⟨gk - 1, by omega⟩
        go_wp2
        go_roundg gq
        case measure => omega
        case rel =>
          obtain ⟨f1, f2, f3⟩ := HX.out
          exact ⟨q + 1, r, by go_num, rfl, by omega, by omega, hrr, by omega, ⟨.inr fun u v hu hv => by rw [Nat.add_sub_cancel, f1] at hu; injection hu with hu; subst hu; rw [show mid + m - (q + 1) - m = z - m by omega, f2] at hv; injection hv with hv; subst hv; simp [leOf, hlv], HQ.out.2⟩, (show SWK _ _ _ _ _ _ _ from by rw [HDK.out]; exact SV.out)⟩
    · obtain rfl : c = r := by omega
      have q1 : ¬ ((c : Int) < (c : Int)) := by omega
      obtain ⟨h1, h2, h3, h4, h5⟩ := HL.out
      obtain ⟨e, he⟩ : ∃ e : Nat, e + c = mid + m := ⟨mid + m - c, by omega⟩
      obtain ⟨X1, X2, Y1, Y2, eX, eY, lX, lY, hcut⟩ := sym_parts hp HSO.out.1 HSO.out.2 a m b mid s0 r0 c e h2.symm h3.symm ⟨by omega, by omega⟩ (.inl ⟨hway, hs0, hr0⟩) ⟨hsc, hrr⟩ he (by have := HQ.out.1; rwa [show mid + m - c - m = e - m by omega] at this) (by have := HQ.out.2; rwa [show mid + m - c - 1 - m = e - 1 - m by omega] at this)
      clear HQ
      subst eX eY
      have es : IntKind.i64.wrap ((mid : Int) + (m : Int) - (c : Int)) = (e : Int) := by rw [IntKind.wrap_i64]; omega
      have so := HSO.out
      have sX1 : Sorted (leOf cf) X1 := (List.pairwise_append.1 so.1).1
      have sX2 : Sorted (leOf cf) X2 := (List.pairwise_append.1 so.1).2.1
      have sY1 : Sorted (leOf cf) Y1 := (List.pairwise_append.1 so.2).1
      have sY2 : Sorted (leOf cf) Y2 := (List.pairwise_append.1 so.2).2.1
      rw [List.length_append] at h2 h4
      rw [List.length_append] at h3 h5
      have hn := hN'.out
      simp only [List.length_append] at hn
      have lM := Stb.mrg_length (le := leOf cf) _ X1 Y1 (Nat.le_refl _)
      have HF : Aside (pre.length = a ∧ X1.length + a = c ∧ X2.length + c = m ∧ Y1.length + m = e ∧ Y2.length + e = b ∧ c + Y1.length = mid ∧ mid + X2.length = e ∧ pre.length + (mrg (leOf cf) X1 Y1).length = mid ∧ b + post.length = N ∧ 0 < X1.length + X2.length ∧ 0 < Y1.length + Y2.length) := ⟨h1, lX, by omega, lY, by omega, by omega, by omega, by omega, by omega, by omega, by omega⟩
      have HSS : Aside (Sorted (leOf cf) X1 ∧ Sorted (leOf cf) X2 ∧ Sorted (leOf cf) Y1 ∧ Sorted (leOf cf) Y2) := ⟨sX1, sX2, sY1, sY2⟩
      have HCUT : Aside (mrg (leOf cf) (X1 ++ X2) (Y1 ++ Y2) = mrg (leOf cf) X1 Y1 ++ mrg (leOf cf) X2 Y2) := hcut
      have bA : a ≤ c := by omega
      have bB : c ≤ m := by omega
      have bC : m ≤ e := by omega
      have bD : e ≤ b := by omega
      have bE : c ≤ mid := by omega
      have bF : mid ≤ e := by omega
      have iAB : a = c → X1 = [] := fun h => List.eq_nil_of_length_eq_zero (by omega)
      have iBC : c = m → X2 = [] := fun h => List.eq_nil_of_length_eq_zero (by omega)
      have iCE : m = e → Y1 = [] := fun h => List.eq_nil_of_length_eq_zero (by omega)
      have iEB : e = b → Y2 = [] := fun h => List.eq_nil_of_length_eq_zero (by omega)
      have HI : Aside _ := And.intro iAB (And.intro iBC (And.intro iCE iEB))
      have g1 : (m < e) = (c < mid) := by simp; omega
      have g2 : (c < m) = (mid < e) := by simp; omega
      have HNE : Aside ((c < m ↔ mid < e) ∧ (m < e ↔ c < mid)) := ⟨by omega, by omega⟩
      clear h1 h2 h3 h4 h5 so sX1 sX2 sY1 sY2 lX lY lM hn hcut iAB iBC iCE iEB g1 g2 he
      rcases Nat.lt_or_ge a c with hA | hA <;> rcases Nat.lt_or_ge m e with hB | hB <;> rcases Nat.lt_or_ge c m with hC | hC <;> rcases Nat.lt_or_ge e b with hD | hD
      · skip
        have f1 : ((a : Int) < (c : Int)) := by omega
        have f2 : ((m : Int) < (e : Int)) := by omega
        have f3 : ((c : Int) < (m : Int)) := by omega
        have f4 : ((e : Int) < (b : Int)) := by omega
        have f5 : ((c : Int) < (mid : Int)) := by have := HNE.out; omega
        have f6 : ((mid : Int) < (e : Int)) := by have := HNE.out; omega
        obtain ⟨j1, j2, j3, j4⟩ := HI.out
        have HROT : Aside _ := rotate_calls k zE enc g cb blk off cap d0 (pre ++ X1) X2 Y1 (Y2 ++ post) (by have := HF.out; omega) (by have := HF.out; omega) w0 wr N c m e (by have := HF.out; simp only [List.length_append]; omega) (by have := HF.out; simp only [List.length_append]; omega) (by have := HF.out; omega) (by have := HF.out; omega) R hs (swk_eq (by simp [List.append_assoc]) S1.out) (by omega)
        clear j1 j2 j3 j4 hA hB hC hD
        go_wp2_with (first
          | (go_at_call 80; refine Calls.mono HROT.out ?_; rintro e1 w2 ⟨rfl, hS⟩; have T1 : Aside (SWK enc k w0 blk off (pre ++ X1 ++ Y1 ++ (X2 ++ (Y2 ++ post))).toArray w2) := swk_eq (by simp [List.append_assoc]) hS; clear hS HROT)
          | (go_at_call 57; have HCC := IH.out pre X1 Y1 (X2 ++ (Y2 ++ post)) _ a c mid (by have := HF.out; have := HI.out; simp only [List.length_append]; omega) (by have := HF.out; simp only [List.length_append]; omega) HF.out.1 (by have := HF.out; omega) (by have := HF.out; omega) (by have := HF.out; omega) (by have := HF.out; omega) T1.out HSS.out.1 HSS.out.2.2.1; refine Calls.mono HCC ?_; clear HCC; rintro e1 w3 ⟨rfl, hS⟩; have T2 : Aside (SWK enc k w0 blk off (pre ++ mrg (leOf cf) X1 Y1 ++ X2 ++ Y2 ++ post).toArray w3) := swk_eq (by simp [List.append_assoc]) hS; clear hS T1)
          | (go_at_call 57; have HCC := IH.out (pre ++ mrg (leOf cf) X1 Y1) X2 Y2 post _ mid e b (by have := HF.out; simp only [List.length_append]; omega) (by have := HF.out; simp only [List.length_append]; omega) (by have := HF.out; simp only [List.length_append]; omega) (by have := HF.out; omega) (by have := HF.out; omega) (by have := HF.out; omega) (by have := HF.out; omega) T2.out HSS.out.2.1 HSS.out.2.2.2; refine Calls.mono HCC ?_; clear HCC; rintro e1 w4 ⟨rfl, hS⟩; have T3 : Aside _ := hS; clear hS T2))
        go_end0
        exact ⟨rfl, swk_eq (by rw [HCUT.out]; simp [List.append_assoc]) T3.out⟩
      · skip
        have f1 : ((a : Int) < (c : Int)) := by omega
        have f2 : ((m : Int) < (e : Int)) := by omega
        have f3 : ((c : Int) < (m : Int)) := by omega
        have f4 : ¬ ((e : Int) < (b : Int)) := by omega
        have f5 : ((c : Int) < (mid : Int)) := by have := HNE.out; omega
        have f6 : ((mid : Int) < (e : Int)) := by have := HNE.out; omega
        obtain ⟨j1, j2, j3, j4⟩ := HI.out
        have ZD : Aside (Y2 = []) := j4 (by omega)
        have HROT : Aside _ := rotate_calls k zE enc g cb blk off cap d0 (pre ++ X1) X2 Y1 (Y2 ++ post) (by have := HF.out; omega) (by have := HF.out; omega) w0 wr N c m e (by have := HF.out; simp only [List.length_append]; omega) (by have := HF.out; simp only [List.length_append]; omega) (by have := HF.out; omega) (by have := HF.out; omega) R hs (swk_eq (by simp [List.append_assoc]) S1.out) (by omega)
        clear j1 j2 j3 j4 hA hB hC hD
        go_wp2_with (first
          | (go_at_call 80; refine Calls.mono HROT.out ?_; rintro e1 w2 ⟨rfl, hS⟩; have T1 : Aside (SWK enc k w0 blk off (pre ++ X1 ++ Y1 ++ (X2 ++ (Y2 ++ post))).toArray w2) := swk_eq (by simp [List.append_assoc]) hS; clear hS HROT)
          | (go_at_call 57; have HCC := IH.out pre X1 Y1 (X2 ++ (Y2 ++ post)) _ a c mid (by have := HF.out; have := HI.out; simp only [List.length_append]; omega) (by have := HF.out; simp only [List.length_append]; omega) HF.out.1 (by have := HF.out; omega) (by have := HF.out; omega) (by have := HF.out; omega) (by have := HF.out; omega) T1.out HSS.out.1 HSS.out.2.2.1; refine Calls.mono HCC ?_; clear HCC; rintro e1 w3 ⟨rfl, hS⟩; have T2 : Aside (SWK enc k w0 blk off (pre ++ mrg (leOf cf) X1 Y1 ++ X2 ++ Y2 ++ post).toArray w3) := swk_eq (by simp [List.append_assoc]) hS; have T3 : Aside (SWK enc k w0 blk off (pre ++ mrg (leOf cf) X1 Y1 ++ mrg (leOf cf) X2 Y2 ++ post).toArray w3) := swk_eq (by rw [mrg_flat (.inr ZD.out)]; simp [List.append_assoc]) T2.out; clear hS T1))
        go_end0
        exact ⟨rfl, swk_eq (by rw [HCUT.out]; simp [List.append_assoc]) T3.out⟩
      · exfalso; have := HF.out; omega
      · exfalso; have := HF.out; omega
      · skip
        have f1 : ((a : Int) < (c : Int)) := by omega
        have f2 : ¬ ((m : Int) < (e : Int)) := by omega
        have f3 : ((c : Int) < (m : Int)) := by omega
        have f4 : ((e : Int) < (b : Int)) := by omega
        have f5 : ¬ ((c : Int) < (mid : Int)) := by have := HNE.out; omega
        have f6 : ((mid : Int) < (e : Int)) := by have := HNE.out; omega
        obtain ⟨j1, j2, j3, j4⟩ := HI.out
        have ZB : Aside (Y1 = []) := j3 (by omega)
        have T1 : Aside (SWK enc k w0 blk off (pre ++ X1 ++ Y1 ++ (X2 ++ (Y2 ++ post))).toArray wr) := swk_eq (by rw [ZB.out]; simp [List.append_assoc]) S1.out
        have T2 : Aside (SWK enc k w0 blk off (pre ++ mrg (leOf cf) X1 Y1 ++ X2 ++ Y2 ++ post).toArray wr) := swk_eq (by rw [mrg_flat (.inr ZB.out)]; simp [List.append_assoc]) T1.out
        clear j1 j2 j3 j4 hA hB hC hD
        go_wp2_with (first
          | (go_at_call 57; have HCC := IH.out (pre ++ mrg (leOf cf) X1 Y1) X2 Y2 post _ mid e b (by have := HF.out; simp only [List.length_append]; omega) (by have := HF.out; simp only [List.length_append]; omega) (by have := HF.out; simp only [List.length_append]; omega) (by have := HF.out; omega) (by have := HF.out; omega) (by have := HF.out; omega) (by have := HF.out; omega) T2.out HSS.out.2.1 HSS.out.2.2.2; refine Calls.mono HCC ?_; clear HCC; rintro e1 w4 ⟨rfl, hS⟩; have T3 : Aside _ := hS; clear hS T2))
        go_end0
        exact ⟨rfl, swk_eq (by rw [HCUT.out]; simp [List.append_assoc]) T3.out⟩
      · exfalso; have := HF.out; omega
      · exfalso; have := HF.out; omega
      · exfalso; have := HF.out; omega
      · skip
        have f1 : ¬ ((a : Int) < (c : Int)) := by omega
        have f2 : ((m : Int) < (e : Int)) := by omega
        have f3 : ((c : Int) < (m : Int)) := by omega
        have f4 : ((e : Int) < (b : Int)) := by omega
        have f5 : ((c : Int) < (mid : Int)) := by have := HNE.out; omega
        have f6 : ((mid : Int) < (e : Int)) := by have := HNE.out; omega
        obtain ⟨j1, j2, j3, j4⟩ := HI.out
        have ZA : Aside (X1 = []) := j1 (by omega)
        have HROT : Aside _ := rotate_calls k zE enc g cb blk off cap d0 (pre ++ X1) X2 Y1 (Y2 ++ post) (by have := HF.out; omega) (by have := HF.out; omega) w0 wr N c m e (by have := HF.out; simp only [List.length_append]; omega) (by have := HF.out; simp only [List.length_append]; omega) (by have := HF.out; omega) (by have := HF.out; omega) R hs (swk_eq (by simp [List.append_assoc]) S1.out) (by omega)
        clear j1 j2 j3 j4 hA hB hC hD
        go_wp2_with (first
          | (go_at_call 80; refine Calls.mono HROT.out ?_; rintro e1 w2 ⟨rfl, hS⟩; have T1 : Aside (SWK enc k w0 blk off (pre ++ X1 ++ Y1 ++ (X2 ++ (Y2 ++ post))).toArray w2) := swk_eq (by simp [List.append_assoc]) hS; have T2 : Aside (SWK enc k w0 blk off (pre ++ mrg (leOf cf) X1 Y1 ++ X2 ++ Y2 ++ post).toArray w2) := swk_eq (by rw [mrg_flat (.inl ZA.out)]; simp [List.append_assoc]) T1.out; clear hS HROT)
          | (go_at_call 57; have HCC := IH.out (pre ++ mrg (leOf cf) X1 Y1) X2 Y2 post _ mid e b (by have := HF.out; simp only [List.length_append]; omega) (by have := HF.out; simp only [List.length_append]; omega) (by have := HF.out; simp only [List.length_append]; omega) (by have := HF.out; omega) (by have := HF.out; omega) (by have := HF.out; omega) (by have := HF.out; omega) T2.out HSS.out.2.1 HSS.out.2.2.2; refine Calls.mono HCC ?_; clear HCC; rintro e1 w4 ⟨rfl, hS⟩; have T3 : Aside _ := hS; clear hS T2))
        go_end0
        exact ⟨rfl, swk_eq (by rw [HCUT.out]; simp [List.append_assoc]) T3.out⟩
      · skip
        have f1 : ¬ ((a : Int) < (c : Int)) := by omega
        have f2 : ((m : Int) < (e : Int)) := by omega
        have f3 : ((c : Int) < (m : Int)) := by omega
        have f4 : ¬ ((e : Int) < (b : Int)) := by omega
        have f5 : ((c : Int) < (mid : Int)) := by have := HNE.out; omega
        have f6 : ((mid : Int) < (e : Int)) := by have := HNE.out; omega
        obtain ⟨j1, j2, j3, j4⟩ := HI.out
        have ZA : Aside (X1 = []) := j1 (by omega)
        have ZD : Aside (Y2 = []) := j4 (by omega)
        have HROT : Aside _ := rotate_calls k zE enc g cb blk off cap d0 (pre ++ X1) X2 Y1 (Y2 ++ post) (by have := HF.out; omega) (by have := HF.out; omega) w0 wr N c m e (by have := HF.out; simp only [List.length_append]; omega) (by have := HF.out; simp only [List.length_append]; omega) (by have := HF.out; omega) (by have := HF.out; omega) R hs (swk_eq (by simp [List.append_assoc]) S1.out) (by omega)
        clear j1 j2 j3 j4 hA hB hC hD
        go_wp2_with (first
          | (go_at_call 80; refine Calls.mono HROT.out ?_; rintro e1 w2 ⟨rfl, hS⟩; have T1 : Aside (SWK enc k w0 blk off (pre ++ X1 ++ Y1 ++ (X2 ++ (Y2 ++ post))).toArray w2) := swk_eq (by simp [List.append_assoc]) hS; have T2 : Aside (SWK enc k w0 blk off (pre ++ mrg (leOf cf) X1 Y1 ++ X2 ++ Y2 ++ post).toArray w2) := swk_eq (by rw [mrg_flat (.inl ZA.out)]; simp [List.append_assoc]) T1.out; have T3 : Aside (SWK enc k w0 blk off (pre ++ mrg (leOf cf) X1 Y1 ++ mrg (leOf cf) X2 Y2 ++ post).toArray w2) := swk_eq (by rw [mrg_flat (.inr ZD.out)]; simp [List.append_assoc]) T2.out; clear hS HROT))
        go_end0
        exact ⟨rfl, swk_eq (by rw [HCUT.out]; simp [List.append_assoc]) T3.out⟩
      · exfalso; have := HF.out; omega
      · exfalso; have := HF.out; omega
      · skip
        have f1 : ¬ ((a : Int) < (c : Int)) := by omega
        have f2 : ¬ ((m : Int) < (e : Int)) := by omega
        have f3 : ((c : Int) < (m : Int)) := by omega
        have f4 : ((e : Int) < (b : Int)) := by omega
        have f5 : ¬ ((c : Int) < (mid : Int)) := by have := HNE.out; omega
        have f6 : ((mid : Int) < (e : Int)) := by have := HNE.out; omega
        obtain ⟨j1, j2, j3, j4⟩ := HI.out
        have ZA : Aside (X1 = []) := j1 (by omega)
        have ZB : Aside (Y1 = []) := j3 (by omega)
        have T1 : Aside (SWK enc k w0 blk off (pre ++ X1 ++ Y1 ++ (X2 ++ (Y2 ++ post))).toArray wr) := swk_eq (by rw [ZB.out]; simp [List.append_assoc]) S1.out
        have T2 : Aside (SWK enc k w0 blk off (pre ++ mrg (leOf cf) X1 Y1 ++ X2 ++ Y2 ++ post).toArray wr) := swk_eq (by rw [mrg_flat (.inl ZA.out)]; simp [List.append_assoc]) T1.out
        clear j1 j2 j3 j4 hA hB hC hD
        go_wp2_with (first
          | (go_at_call 57; have HCC := IH.out (pre ++ mrg (leOf cf) X1 Y1) X2 Y2 post _ mid e b (by have := HF.out; simp only [List.length_append]; omega) (by have := HF.out; simp only [List.length_append]; omega) (by have := HF.out; simp only [List.length_append]; omega) (by have := HF.out; omega) (by have := HF.out; omega) (by have := HF.out; omega) (by have := HF.out; omega) T2.out HSS.out.2.1 HSS.out.2.2.2; refine Calls.mono HCC ?_; clear HCC; rintro e1 w4 ⟨rfl, hS⟩; have T3 : Aside _ := hS; clear hS T2))
        go_end0
        exact ⟨rfl, swk_eq (by rw [HCUT.out]; simp [List.append_assoc]) T3.out⟩
      · exfalso; have := HF.out; omega
      · exfalso; have := HF.out; omega
      · exfalso; have := HF.out; omega
end Go.Proofs.YtdjjlmphifgnnaaGreat
