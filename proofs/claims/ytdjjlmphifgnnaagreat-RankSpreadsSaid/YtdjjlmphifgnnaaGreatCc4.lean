/- Parts of one proof, joined: Sud, Sue, Calm. Conditions: those of each statement. -/
import Derived.Test.YtdjjlmphifgnnaaGreatCc3
import Derived.OrdersHeld
import Derived.Below
import Derived.Deep.RegionHeld3
namespace Go.Proofs.YtdjjlmphifgnnaaGreat.Stb
def Cnt (s j len : Nat) : Prop := j * s ≤ len ∧ len < j * s + s
theorem cnt_one {s j len : Nat} (h : Cnt s j len) (h2 : s ≤ len) : ∃ i, j = i + 1 ∧ Cnt s i (len - s) := by
  obtain ⟨h1, h3⟩ := h
  cases j with
  | zero => simp at h3; omega
  | succ i =>
    rw [Nat.add_mul, Nat.one_mul] at h1 h3
    exact ⟨i, rfl, by omega, by omega⟩
theorem cnt_zero {s j len : Nat} (h : Cnt s j len) (h2 : len < s) : j = 0 := by
  obtain ⟨h1, h3⟩ := h
  cases j with
  | zero => rfl
  | succ i =>
    rw [Nat.add_mul, Nat.one_mul] at h1 h3
    omega
theorem cnt_two {s j len : Nat} (h : Cnt s j len) (h2 : 2 * s ≤ len) : ∃ i, j = i + 2 ∧ Cnt s i (len - 2 * s) := by
  obtain ⟨i, rfl, h3⟩ := cnt_one h (by omega)
  obtain ⟨l, rfl, h4⟩ := cnt_one h3 (by omega)
  exact ⟨l, rfl, by rwa [show len - 2 * s = len - s - s by omega]⟩
theorem cnt_half {s j len : Nat} (h : Cnt s j len) : Cnt (2 * s) (j / 2) len := by
  obtain ⟨h1, h3⟩ := h
  have e : j = 2 * (j / 2) ∨ j = 2 * (j / 2) + 1 := by omega
  generalize j / 2 = i at e ⊢
  unfold Cnt
  rw [Nat.mul_left_comm]
  rcases e with rfl | rfl
  · rw [Nat.mul_assoc] at h1 h3; exact ⟨by omega, by omega⟩
  · rw [Nat.add_mul, Nat.mul_assoc, Nat.one_mul] at h1 h3; exact ⟨by omega, by omega⟩
theorem cnt_div {s : Nat} (hs : 0 < s) (len : Nat) : Cnt s (len / s) len := by
  have := Nat.div_add_mod len s
  have := Nat.mod_lt len hs
  unfold Cnt
  rw [Nat.mul_comm]
  omega
variable {α : Type} {le : α → α → Bool}
theorem stb_nil : stb le ([] : List α) = [] := rfl
theorem bl_end {s q : Nat} {L : List α} (h : Cnt s q L.length) (hl : L.length ≤ s) : bl le s q L = stb le L := by
  by_cases h2 : L.length < s
  · rw [cnt_zero h h2]; rfl
  · obtain ⟨i, rfl, h4⟩ := cnt_one h (by omega)
    by_cases h3 : 0 < s
    · rw [cnt_zero h4 (by omega)]
      show stb le (L.take s) ++ stb le (L.drop s) = _
      rw [List.take_of_length_le hl, List.drop_eq_nil_of_le hl, stb_nil, List.append_nil]
    · exfalso; have h5 := h4.2; obtain rfl : s = 0 := by omega
      rw [Nat.mul_zero] at h5; omega
end Go.Proofs.YtdjjlmphifgnnaaGreat.Stb
namespace Go.Proofs.YtdjjlmphifgnnaaGreat
open Go.Shelf Go.RowKit Go.Lib Go.Sort
open Stb (mrg Pre Sorted stb bl Cnt)
set_option linter.unusedVariables false
set_option linter.unusedSimpArgs false
set_option maxHeartbeats 4000000 in
set_option maxRecDepth 1000000 in
theorem stable_calls {α : Type} [Inhabited α] (k : Nat) (aE : ∀ w, (isAgg 36).run Tryz.prog w = .ok true w) (zE : ∀ w, (Go.sizeOf 36).run Tryz.prog w = .ok k w) (enc : α → List Value) (cf : α → α → Int) (hp : Pre (leOf cf)) (g : Nat) (cb : Array Value) (blk off cap : Nat) (d0 : Array α) (w0 : World) (N : Nat)
    (eg : ∀ args w, (callFunc g args).run Tryz.prog w = .ok (.enter g args) w) (hC : CmpLays Tryz.prog g cb enc k cf blk off N w0)
    (R : RowK enc k w0 blk off d0) (hs : d0.size = N) (hsz : N < 1000000000000000000) (L : List α) (w : World) (hL : L.length = N) (S : SWK enc k w0 blk off L.toArray w) :
      Calls Tryz.prog 38 #[.slice (some ⟨blk, off, none⟩) N cap, .int .i64 N, .func (.func g) #[] cb] w fun e w' => e = .returned (.tuple #[]) ∧ SWK enc k w0 blk off (stb (leOf cf) L).toArray w' := by
  have S0 : Aside (SWK enc k w0 blk off L.toArray w) := S
  have HL : Aside (L.length = N) := hL
  have INS : Aside _ := @ins_calls α _ k aE zE enc cf hp g cb blk off cap d0 w0 N eg hC R hs (by omega)
  have SYM : Aside _ := @sym_calls α _ k zE enc cf hp g cb blk off cap d0 w0 N eg hC R hs (by omega)
  clear S hL
  go_enter Tryz.func38, Tryz.ntmps38
  go_wp2
  go_loopg [7, 8] N (fun kx s7 s8 wr => ∃ (a j : Nat) (D Q : List α), s7 = .int .i64 (a : Int) ∧ s8 = .int .i64 ((a + 20 : Nat) : Int) ∧ a ≤ N ∧ N - a ≤ kx ∧ Aside (D.length = a ∧ a + Q.length = N ∧ Cnt 20 j Q.length ∧ D ++ bl (leOf cf) 20 j Q = bl (leOf cf) 20 (N / 20) L) ∧ Aside (SWK enc k w0 blk off (D ++ Q).toArray wr))
  case atStart => exact ⟨0, N / 20, [], L, by go_num, by go_num, Nat.zero_le _, by omega, ⟨rfl, by have := HL.out; omega, by rw [HL.out]; exact Stb.cnt_div (by decide) N, rfl⟩, S0⟩
  case round =>
    obtain ⟨a, j, D, Q, rfl, rfl, haN, hkx, HQ, S1⟩ := hrel
    by_cases hb : a + 20 ≤ N
    · have q1 : (a : Int) + 20 ≤ (N : Int) := by omega
      obtain ⟨h1, h2, h3, h4⟩ := HQ.out
      obtain ⟨i, rfl, h3⟩ := Stb.cnt_one h3 (by omega)
      have HQ2 : Aside ((D ++ stb (leOf cf) (Q.take 20)).length = a + 20 ∧ a + 20 + (Q.drop 20).length = N ∧ Cnt 20 i (Q.drop 20).length ∧ (D ++ stb (leOf cf) (Q.take 20)) ++ bl (leOf cf) 20 i (Q.drop 20) = bl (leOf cf) 20 (N / 20) L) := ⟨by rw [List.length_append, Stb.stb_length, List.length_take]; omega, by rw [List.length_drop]; omega, by rwa [List.length_drop], by rw [← h4, bl]; simp⟩
      have HC : Aside _ := INS.out D (Q.take 20) (Q.drop 20) wr a (a + 20) (by simp only [List.length_append, List.length_take, List.length_drop]; omega) h1 (by rw [List.length_take]; omega) (swk_eq (by simp) S1.out)
      clear h1 h2 h3 h4 HQ
      have r1 : IntKind.i64.wrap ((a : Int) + 20 + 20) = (a : Int) + 20 + 20 := by rw [IntKind.wrap_i64]; omega
      go_wp2_with (first
        | (go_at_call 56; refine Calls.mono HC.out ?_; rintro e w2 ⟨rfl, hS⟩; have S2 : Aside _ := hS; clear hS))
      obtain ⟨gq, rfl⟩ : ∃ gq, gk = gq + 1 := ⟨gk - 1, by omega⟩
      go_roundg gq
      case measure => omega
      case rel => exact ⟨a + 20, i, D ++ stb (leOf cf) (Q.take 20), Q.drop 20, by go_num, by go_num, by omega, by omega, HQ2, S2⟩
    · have q1 : ¬ ((a : Int) + 20 ≤ (N : Int)) := by omega
      obtain ⟨h1, h2, h3, h4⟩ := HQ.out
      have hj := Stb.cnt_zero h3 (by omega)
      subst hj
      have HC : Aside _ := INS.out D Q [] wr a N (by simp only [List.length_append, List.length_nil]; omega) h1 h2 (swk_eq (by simp) S1.out)
      have HE : Aside (D ++ stb (leOf cf) Q ++ [] = bl (leOf cf) 20 (N / 20) L) := by show _ = _; rw [← h4, bl, List.append_nil]
      clear h1 h2 h3 h4 HQ
      go_wp2_with (first
        | (go_at_call 56; refine Calls.mono HC.out ?_; rintro e w2 ⟨rfl, hS⟩; have S2 : Aside _ := hS; clear hS))
      go_loopg [6, 7, 8, 9] N (fun ky s6 s7 s8 s9 wr2 => ∃ (s q : Nat), s6 = .int .i64 (s : Int) ∧ 20 ≤ s ∧ s ≤ 2 * N + 20 ∧ N - s ≤ ky ∧ Aside (Cnt s q N) ∧ Aside (SWK enc k w0 blk off (bl (leOf cf) s q L).toArray wr2))
      case atStart => exact ⟨20, N / 20, by go_num, Nat.le_refl _, by omega, by omega, Stb.cnt_div (by decide) N, (show SWK _ _ _ _ _ _ _ from swk_eq HE.out S2.out)⟩
      case round =>
        obtain ⟨s, q, rfl, hs20, hs2, hky, HN, S3⟩ := hrel
        by_cases hsN : s < N
        · have q2 : (s : Int) < (N : Int) := by omega
          have r2 : IntKind.i64.wrap (2 * (s : Int)) = 2 * (s : Int) := by rw [IntKind.wrap_i64]; omega
          have r3 : IntKind.i64.wrap ((s : Int) * 2) = (s : Int) * 2 := by rw [IntKind.wrap_i64]; omega
          obtain ⟨go, rfl⟩ : ∃ go, go = gk := ⟨_, rfl⟩
          obtain ⟨wo, rfl⟩ : ∃ wo, wo = wr := ⟨_, rfl⟩
          go_wp2
          go_loopg [7, 8] N (fun kz s7 s8 wr3 => ∃ (a j : Nat) (D Q : List α), s7 = .int .i64 (a : Int) ∧ s8 = .int .i64 ((a + 2 * s : Nat) : Int) ∧ a ≤ N ∧ N - a ≤ kz ∧ Aside (D.length = a ∧ a + Q.length = N ∧ Cnt s j Q.length ∧ D ++ bl (leOf cf) (2 * s) (j / 2) Q = bl (leOf cf) (2 * s) (q / 2) L) ∧ Aside (SWK enc k w0 blk off (D ++ bl (leOf cf) s j Q).toArray wr3))
          case atStart => exact ⟨0, q, [], L, by go_num, by go_num, Nat.zero_le _, by omega, ⟨rfl, by have := HL.out; omega, by rw [HL.out]; exact HN.out, rfl⟩, (show SWK _ _ _ _ _ _ _ from S3.out)⟩
          case round =>
            obtain ⟨a, j, D, Q, rfl, rfl, haN, hkz, HQ, S4⟩ := hrel
            have r4 : IntKind.i64.wrap ((a : Int) + (s : Int)) = (a : Int) + (s : Int) := by rw [IntKind.wrap_i64]; omega
            have r5 : IntKind.i64.wrap ((a : Int) + 2 * (s : Int) + 2 * (s : Int)) = (a : Int) + 2 * (s : Int) + 2 * (s : Int) := by rw [IntKind.wrap_i64]; omega
            by_cases hb2 : a + 2 * s ≤ N
            · have q3 : (a : Int) + 2 * (s : Int) ≤ (N : Int) := by omega
              obtain ⟨h1, h2, h3, h4⟩ := HQ.out
              obtain ⟨i, rfl, h3⟩ := Stb.cnt_two h3 (by omega)
              have e2 : bl (leOf cf) (2 * s) ((i + 2) / 2) Q = stb (leOf cf) (Q.take (2 * s)) ++ bl (leOf cf) (2 * s) (i / 2) (Q.drop (2 * s)) := by rw [show (i + 2) / 2 = i / 2 + 1 by omega]; rfl
              have e3 : bl (leOf cf) s (i + 2) Q = stb (leOf cf) (Q.take s) ++ (stb (leOf cf) ((Q.drop s).take s) ++ bl (leOf cf) s i (Q.drop (2 * s))) := by rw [show 2 * s = s + s by omega, ← List.drop_drop]; rfl
              have HQ2 : Aside ((D ++ stb (leOf cf) (Q.take (2 * s))).length = a + 2 * s ∧ a + 2 * s + (Q.drop (2 * s)).length = N ∧ Cnt s i (Q.drop (2 * s)).length ∧ (D ++ stb (leOf cf) (Q.take (2 * s))) ++ bl (leOf cf) (2 * s) (i / 2) (Q.drop (2 * s)) = bl (leOf cf) (2 * s) (q / 2) L) := ⟨by rw [List.length_append, Stb.stb_length, List.length_take]; omega, by rw [List.length_drop]; omega, by rwa [List.length_drop], by rw [← h4, e2]; simp⟩
              have HC : Aside _ := SYM.out N D (stb (leOf cf) (Q.take s)) (stb (leOf cf) ((Q.drop s).take s)) (bl (leOf cf) s i (Q.drop (2 * s))) wr a (a + s) (a + 2 * s) (by simp only [Stb.stb_length, List.length_take, List.length_drop]; omega) (by simp only [List.length_append, Stb.stb_length, Stb.bl_length, List.length_take, List.length_drop]; omega) h1 (by rw [Stb.stb_length, List.length_take]; omega) (by rw [Stb.stb_length, List.length_take, List.length_drop]; omega) (by rw [Stb.stb_length, List.length_take]; omega) (by rw [Stb.stb_length, List.length_take, List.length_drop]; omega) (swk_eq (by rw [e3]; simp) S4.out) (Stb.stb_sorted hp _) (Stb.stb_sorted hp _)
              have HE2 : Aside (D ++ mrg (leOf cf) (stb (leOf cf) (Q.take s)) (stb (leOf cf) ((Q.drop s).take s)) ++ bl (leOf cf) s i (Q.drop (2 * s)) = D ++ stb (leOf cf) (Q.take (2 * s)) ++ bl (leOf cf) s i (Q.drop (2 * s))) := by show _ = _; rw [Stb.bl_two hp]
              clear h1 h2 h3 h4 HQ e2 e3
              go_wp2_with (first
                | (go_at_call 57; refine Calls.mono HC.out ?_; rintro e w4 ⟨rfl, hS⟩; have S5 : Aside _ := hS; clear hS))
              obtain ⟨gq, rfl⟩ : ∃ gq, gk = gq + 1 := ⟨gk - 1, by omega⟩
              go_roundg gq
              case measure => omega
              case rel => exact ⟨a + 2 * s, i, D ++ stb (leOf cf) (Q.take (2 * s)), Q.drop (2 * s), by go_num, by go_num, by omega, by omega, HQ2, (show SWK _ _ _ _ _ _ _ from swk_eq HE2.out S5.out)⟩
            · have q3 : ¬ ((a : Int) + 2 * (s : Int) ≤ (N : Int)) := by omega
              obtain ⟨h1, h2, h3, h4⟩ := HQ.out
              by_cases hm : a + s < N
              · have q4 : (a : Int) + (s : Int) < (N : Int) := by omega
                obtain ⟨i, rfl, h5⟩ := Stb.cnt_one h3 (by omega)
                have hi := Stb.cnt_zero h5 (by omega)
                subst hi
                have HC : Aside _ := SYM.out N D (stb (leOf cf) (Q.take s)) (stb (leOf cf) (Q.drop s)) [] wr a (a + s) N (by simp only [Stb.stb_length, List.length_take, List.length_drop]; omega) (by simp only [List.length_append, Stb.stb_length, List.length_take, List.length_drop, List.length_nil]; omega) h1 (by rw [Stb.stb_length, List.length_take]; omega) (by rw [Stb.stb_length, List.length_drop]; omega) (by rw [Stb.stb_length, List.length_take]; omega) (by rw [Stb.stb_length, List.length_drop]; omega) (swk_eq (by simp [bl]) S4.out) (Stb.stb_sorted hp _) (Stb.stb_sorted hp _)
                have HE2 : Aside (D ++ mrg (leOf cf) (stb (leOf cf) (Q.take s)) (stb (leOf cf) (Q.drop s)) ++ [] = bl (leOf cf) (2 * s) (q / 2) L) := by show _ = _; rw [Stb.bl_rest hp, ← h4, List.append_nil]; rfl
                have HN2 : Aside (Cnt (2 * s) (q / 2) N) := Stb.cnt_half HN.out
                clear h1 h2 h3 h4 h5 HQ
                go_wp2_with (first
                  | (go_at_call 57; refine Calls.mono HC.out ?_; rintro e w4 ⟨rfl, hS⟩; have S5 : Aside _ := hS; clear hS))
                obtain ⟨gq, rfl⟩ : ∃ gq, go = gq + 1 := ⟨go - 1, by omega⟩
                go_roundg gq
                case measure => omega
                case rel => exact ⟨2 * s, q / 2, by go_num, by omega, by omega, by omega, HN2, (show SWK _ _ _ _ _ _ _ from swk_eq HE2.out S5.out)⟩
              · have q4 : ¬ ((a : Int) + (s : Int) < (N : Int)) := by omega
                have HE2 : Aside (D ++ bl (leOf cf) s j Q = bl (leOf cf) (2 * s) (q / 2) L) := by
                  show _ = _
                  rw [← h4, Stb.bl_end h3 (by omega), Stb.bl_end (Stb.cnt_half h3) (by omega)]
                have HN2 : Aside (Cnt (2 * s) (q / 2) N) := Stb.cnt_half HN.out
                clear h1 h2 h3 h4 HQ
                go_wp2
                obtain ⟨gq, rfl⟩ : ∃ gq, go = gq + 1 := ⟨go - 1, by omega⟩
                go_roundg gq
                case measure => omega
                case rel => exact ⟨2 * s, q / 2, by go_num, by omega, by omega, by omega, HN2, (show SWK _ _ _ _ _ _ _ from swk_eq HE2.out S4.out)⟩
        · have q2 : ¬ ((s : Int) < (N : Int)) := by omega
          go_wp2
          go_end0
          exact ⟨rfl, swk_eq (Stb.bl_end (by rw [HL.out]; exact HN.out) (by rw [HL.out]; omega)) S3.out⟩
end Go.Proofs.YtdjjlmphifgnnaaGreat
namespace Go.Proofs.YtdjjlmphifgnnaaGreat
open Go.Shelf Go.RowKit Go.Lib Go.Sort
open Stb (mrg Pre Sorted stb bl Cnt)
set_option linter.unusedVariables false
set_option linter.unusedSimpArgs false
set_option maxHeartbeats 2000000 in
set_option maxRecDepth 100000 in
theorem sortStable_calls {α : Type} [Inhabited α] (k : Nat) (aE : ∀ w, (isAgg 36).run Tryz.prog w = .ok true w) (zE : ∀ w, (Go.sizeOf 36).run Tryz.prog w = .ok k w) (enc : α → List Value) (cf : α → α → Int) (hp : Pre (leOf cf)) (g : Nat) (cb : Array Value) (blk off cap : Nat) (d0 : Array α) (w0 : World) (N : Nat)
    (eg : ∀ args w, (callFunc g args).run Tryz.prog w = .ok (.enter g args) w) (hC : CmpLays Tryz.prog g cb enc k cf blk off N w0)
    (R : RowK enc k w0 blk off d0) (hs : d0.size = N) (hsz : N < 1000000000000000000) (L : List α) (w : World) (hL : L.length = N) (S : SWK enc k w0 blk off L.toArray w) :
      Calls Tryz.prog 17 #[.slice (some ⟨blk, off, none⟩) N cap, .func (.func g) #[] cb] w fun e w' => e = .returned (.tuple #[]) ∧ SWK enc k w0 blk off (stb (leOf cf) L).toArray w' := by
  have HC : Aside _ := stable_calls k aE zE enc cf hp g cb blk off cap d0 w0 N eg hC R hs hsz L w hL S
  clear S hL hC eg
  go_enter Tryz.func17, Tryz.ntmps17
  go_wp2_with (first
    | (go_at_call 38; refine Calls.mono HC.out ?_; rintro e w4 ⟨rfl, hS⟩; have S5 : Aside _ := hS; clear hS))
  go_end0
  exact ⟨rfl, S5.out⟩
set_option maxHeartbeats 2000000 in
theorem insSort_none (p : Option Addr) (cap : Nat) (fv : Value) (w : World) :
    Calls Tryz.prog 56 #[.slice p 0 cap, .int .i64 0, .int .i64 0, fv] w fun e w' => e = .returned (.tuple #[]) ∧ w' = w := by
  go_enter Tryz.func56, Tryz.ntmps56
  go_wp2
  refine wp_loop_rounds 1 ?_
  rw [rounds_succ]
  go_wp2
  go_end0
  exact ⟨rfl, rfl⟩
set_option maxHeartbeats 2000000 in
theorem stable_none (p : Option Addr) (cap : Nat) (fv : Value) (w : World) :
    Calls Tryz.prog 38 #[.slice p 0 cap, .int .i64 0, fv] w fun e w' => e = .returned (.tuple #[]) ∧ w' = w := by
  have HC : Aside _ := insSort_none p cap fv
  go_enter Tryz.func38, Tryz.ntmps38
  go_wp2
  refine wp_loop_rounds 1 ?_
  rw [rounds_succ]
  go_wp2_with (first
    | (go_at_call 56; refine Calls.mono (HC.out _) ?_; rintro e w4 ⟨rfl, rfl⟩))
  refine wp_loop_rounds 1 ?_
  rw [rounds_succ]
  go_wp2
  go_end0
  exact ⟨rfl, rfl⟩
set_option maxHeartbeats 2000000 in
theorem sortStable_none (p : Option Addr) (cap : Nat) (fv : Value) (w : World) :
    Calls Tryz.prog 17 #[.slice p 0 cap, fv] w fun e w' => e = .returned (.tuple #[]) ∧ w' = w := by
  have HC : Aside _ := stable_none p cap fv
  go_enter Tryz.func17, Tryz.ntmps17
  go_wp2_with (first
    | (go_at_call 38; refine Calls.mono (HC.out _) ?_; rintro e w4 ⟨rfl, rfl⟩))
  go_end0
  exact ⟨rfl, rfl⟩
end Go.Proofs.YtdjjlmphifgnnaaGreat
namespace Go.Calm
open Go.RowKit
section
variable {P : Program} {ops : Array Oper} {Q : Exit → Act → World → Prop} {md : Region.Mode} {xs : List Nat}

/-- j waits for i, through others or not. -/
def waitsT (md : Region.Mode) (ops : Array Oper) : Nat → Nat → Nat → Bool
  | 0, _, _ => false
  | n + 1, j, i => match ops[j]? with
    | some o => o.after.any fun e => Region.binds md e && (e.on == i || waitsT md ops n e.on i)
    | none => false

def Closed (md : Region.Mode) (ops : Array Oper) (listed : Array Bool) : Prop :=
  ∀ j o, ops[j]? = some o → listed.getD j false = true → ∀ e ∈ o.after, Region.binds md e = true → listed.getD e.on false = true

theorem waits_listed {listed : Array Bool} (hc : Closed md ops listed) {i : Nat} : ∀ (n j : Nat), waitsT md ops n j i = true → listed.getD j false = true → listed.getD i false = true
  | 0, _, h, _ => by simp [waitsT] at h
  | n + 1, j, h, hl => by
    simp only [waitsT] at h
    cases ho : ops[j]? with
    | none => simp [ho] at h
    | some o =>
      simp only [ho] at h
      obtain ⟨e, he, hb⟩ := Array.any_eq_true'.1 h
      simp only [Bool.and_eq_true, Bool.or_eq_true, beq_iff_eq] at hb
      have h1 := hc j o ho hl e he hb.1
      rcases hb.2 with h2 | h2
      · rw [← h2]; exact h1
      · exact waits_listed hc n e.on h2 h1
theorem waits_ready {listed : Array Bool} (hc : Closed md ops listed) {i j n : Nat} (hj : j ∈ Region.ready md ops listed) (h : waitsT md ops n j i = true) : listed.getD i false = true := by
  obtain ⟨_, o, ho, hall⟩ := mem_ready.1 hj
  cases n with
  | zero => simp [waitsT] at h
  | succ n =>
    simp only [waitsT, ho] at h
    obtain ⟨e, he, hb⟩ := Array.any_eq_true'.1 h
    simp only [Bool.and_eq_true, Bool.or_eq_true, beq_iff_eq] at hb
    have h1 := hall e he hb.1
    rcases hb.2 with h2 | h2
    · rw [← h2]; exact h1
    · exact waits_listed hc n e.on h2 h1
theorem Closed.set {listed : Array Bool} (hc : Closed md ops listed) {i : Nat} (hi : i ∈ Region.ready md ops listed) : Closed md ops (listed.setIfInBounds i true) := by
  intro j o ho hl e he hb
  by_cases hij : i = j
  · subst hij
    obtain ⟨_, o', ho', hall⟩ := mem_ready.1 hi
    rw [ho] at ho'
    obtain rfl := Option.some.inj ho'
    exact getD_set_true (hall e he hb)
  · rw [getD_set_ne false hij] at hl
    exact getD_set_true (hc j o ho hl e he hb)

/-- Whatever order: behind each operation that is no free writer (xs) memory has only grown. -/
def wpAnyG (P : Program) (md : Region.Mode) (ops : Array Oper) (Q : Exit → Act → World → Prop) (xs : List Nat) : Nat → Array Bool → Act → World → Prop
  | 0, listed, a, w => Region.ready md ops listed = [] ∧ Q .normal a w
  | fuel + 1, listed, a, w =>
    (Region.ready md ops listed = [] → Q .normal a w) ∧
    ∀ i ∈ Region.ready md ops listed, wpOp P ops Q i (fun a' w' => (i ∉ xs → Below w.heap.size w w') ∧ wpAnyG P md ops Q xs fuel (listed.setIfInBounds i true) a' w') a w
theorem wpAny_of_G : ∀ (fuel : Nat) (listed : Array Bool) (a : Act) (w : World), wpAnyG P md ops Q xs fuel listed a w → wpAny P md ops Q fuel listed a w
  | 0, _, _, _, h => h
  | fuel + 1, _, _, _, h => ⟨h.1, fun i hi => wpOp_mono (fun a' w' h' => wpAny_of_G fuel _ a' w' h'.2) (h.2 i hi)⟩

def Holds (pl : Bool) (w : World) (W : World) : Prop := pl = true ∨ Below w.heap.size w W
theorem Holds.refl (pl : Bool) (w : World) : Holds pl w w := .inr (Below.refl _ _)
theorem Holds.next {pl : Bool} {w w1 W : World} (hb : pl = true ∨ Below w.heap.size w w1) (h : Holds pl w1 W) : Holds pl w W := by
  rcases hb with hb | hb
  · exact .inl hb
  · rcases h with h | h
    · exact .inl h
    · exact .inr (hb.trans (h.mono hb.size))
theorem yields_next {pl : Bool} {w w1 : World} {o : Oper} {v : Value} {a : Act} (hb : pl = true ∨ Below w.heap.size w w1) (h : YieldsIf P ops (Holds pl w) o v a) : YieldsIf P ops (Holds pl w1) o v a :=
  h.imp (fun ⟨h1, h2⟩ => ⟨h1, fun W hW => h2 W (hW.next hb)⟩) id

theorem first {i : Nat} {oi : Oper} {v : Value} {pl : Bool} (hi : ops[i]? = some oi) (hsel : ∀ (j : Nat) (o : Oper) cs b, ops[j]? = some o → o.op ≠ .select cs b)
    (hQ : ∀ c a w, Q (.panic c) (a.put oi.dst v) w → Q (.panic c) a w) (hix : i ∉ xs) (n : Nat) :
    ∀ (fuel : Nat) (listed : Array Bool) (a : Act) (w : World), Closed md ops listed →
      (pl = true ∨ ∀ j ∈ xs, listed.getD j true = false → waitsT md ops n j i = true) →
      (∀ j oj, ops[j]? = some oj → j ≠ i → listed.getD j true = false → (∀ e ∈ oj.after, Region.binds md e = true → e.on ≠ i) → oi.apart ops oj = true) →
      i ∈ Region.ready md ops listed → YieldsIf P ops (Holds pl w) oi v a →
      wpAnyG P md ops Q xs fuel (listed.setIfInBounds i true) (a.put oi.dst v) w → wpAnyG P md ops Q xs (fuel + 1) listed a w := by
  intro fuel
  induction fuel with
  | zero =>
    intro listed a w _ _ _ hr hy H
    refine ⟨fun h => (by rw [h] at hr; cases hr), fun j hj => ?_⟩
    by_cases hji : j = i
    · subst hji; exact hy.wpOp hi (Holds.refl _ _) ⟨fun _ => Below.refl _ _, H⟩
    · have := ready_mono hj hji
      rw [H.1] at this
      cases this
  | succ fuel ih =>
    intro listed a w hcl hX hfree hr hy H
    refine ⟨fun h => (by rw [h] at hr; cases hr), fun j hj => ?_⟩
    by_cases hji : j = i
    · subst hji; exact hy.wpOp hi (Holds.refl _ _) ⟨fun _ => Below.refl _ _, H⟩
    · have h1 := H.2 j (ready_mono hj hji)
      obtain ⟨hjun, oj, hoj, hall⟩ := mem_ready.1 hj
      have hiun : listed.getD i false = false := by
        have h0 := (mem_ready.1 hr).1
        rcases Nat.lt_or_ge i listed.size with h' | h'
        · simp [h'] at h0 ⊢; exact h0
        · simp [Array.getElem?_eq_none h']
      have hnot : ∀ e ∈ oj.after, Region.binds md e = true → e.on ≠ i := fun e he hb heq => by
        have h1 := hall e he hb
        rw [heq, hiun] at h1
        cases h1
      have hgrow : ∀ w', (j ∉ xs → Below w.heap.size w w') → (pl = true ∨ Below w.heap.size w w') := fun w' hw' => by
        rcases hX with hX | hX
        · exact .inl hX
        · refine .inr (hw' fun hjx => ?_)
          have := waits_ready hcl hj (hX j hjx hjun)
          rw [hiun] at this
          cases this
      have h2 := wpOp_putIf hoj (hfree j oj hoj hji hjun hnot) (fun cs b => hsel i oi cs b hi) (fun cs b => hsel j oj cs b hoj) hQ hy h1
      have hfree' : ∀ k ok, ops[k]? = some ok → k ≠ i → (listed.setIfInBounds j true).getD k true = false →
          (∀ e ∈ ok.after, Region.binds md e = true → e.on ≠ i) → oi.apart ops ok = true := fun k ok hk hki hun hno => by
        refine hfree k ok hk hki ?_ hno
        by_cases hjk : j = k
        · subst hjk; exact hjun
        · rw [getD_set_ne true hjk] at hun; exact hun
      have hX' : pl = true ∨ ∀ k ∈ xs, (listed.setIfInBounds j true).getD k true = false → waitsT md ops n k i = true := by
        refine hX.imp id fun hX k hk hun => hX k hk ?_
        by_cases hjk : j = k
        · subst hjk; exact hjun
        · rw [getD_set_ne true hjk] at hun; exact hun
      refine wpOp_mono (fun a' w' h3 => ⟨h3.2.1, ih (listed.setIfInBounds j true) a' w' (hcl.set hj) hX' hfree' (ready_mono hr (Ne.symm hji)) (yields_next (hgrow w' h3.2.1) h3.1) ?_⟩) h2
      rw [Array.setIfInBounds_comm _ _ hji]
      exact h3.2.2

/-- What an operation is in the chosen order: plain (0), a reading (1), what grows or writes (2). -/
def wpG (P : Program) (ops : Array Oper) (Q : Exit → Act → World → Prop) (xs : List Nat) : List (Nat × Nat) → Act → World → Prop
  | [], a, w => Q .normal a w
  | (i, 2) :: rest, a, w => wpOp P ops Q i (fun a' w' => (i ∉ xs → Below w.heap.size w w') ∧ wpG P ops Q xs rest a' w') a w
  | (i, k) :: rest, a, w => ∃ o v, ops[i]? = some o ∧ YieldsIf P ops (Holds (k == 0) w) o v a ∧ wpG P ops Q xs rest (a.put o.dst v) w

def okB (md : Region.Mode) (ops : Array Oper) (xs : List Nat) : Array Bool → List (Nat × Nat) → Bool
  | listed, [] => (Region.ready md ops listed).isEmpty
  | listed, (i, 2) :: rest => Region.ready md ops listed == [i] && okB md ops xs (listed.setIfInBounds i true) rest
  | listed, (i, k) :: rest => (Region.ready md ops listed).contains i && Region.free md ops listed i && !xs.contains i &&
      (k == 0 || xs.all fun j => listed.getD j true || waitsT md ops ops.size j i) && okB md ops xs (listed.setIfInBounds i true) rest

theorem anyG_of_wpG (hs : Region.noSelect ops = true) (hQ : ∀ c a w, ¬ Q (.panic c) a w) : ∀ (l : List (Nat × Nat)) (listed : Array Bool) (a : Act) (w : World), Closed md ops listed →
    okB md ops xs listed l = true → wpG P ops Q xs l a w → wpAnyG P md ops Q xs l.length listed a w
  | [], listed, a, w, _, hB, h => ⟨by simpa [okB] using hB, h⟩
  | (i, k) :: rest, listed, a, w, hc, hB, h => by
    by_cases hk : k = 2
    · subst hk
      simp only [okB, Bool.and_eq_true, beq_iff_eq] at hB
      have hi : i ∈ Region.ready md ops listed := by rw [hB.1]; simp
      refine ⟨fun h0 => (by rw [h0] at hi; cases hi), fun j hj => ?_⟩
      rw [hB.1] at hj
      obtain rfl : j = i := by simpa using hj
      exact wpOp_mono (fun a' w' h' => ⟨h'.1, anyG_of_wpG hs hQ rest _ a' w' (hc.set hi) hB.2 h'.2⟩) h
    · have hB' : (((Region.ready md ops listed).contains i && Region.free md ops listed i && !xs.contains i &&
          (k == 0 || xs.all fun j => listed.getD j true || waitsT md ops ops.size j i)) && okB md ops xs (listed.setIfInBounds i true) rest) = true := by
        match k, hk, hB with
        | 0, _, hB => exact hB
        | 1, _, hB => exact hB
        | k + 3, _, hB => exact hB
      have h' : ∃ o v, ops[i]? = some o ∧ YieldsIf P ops (Holds (k == 0) w) o v a ∧ wpG P ops Q xs rest (a.put o.dst v) w := by
        match k, hk, h with
        | 0, _, h => exact h
        | 1, _, h => exact h
        | k + 3, _, h => exact h
      simp only [Bool.and_eq_true, Bool.not_eq_true', Bool.or_eq_true] at hB'
      obtain ⟨⟨⟨⟨h1, h2⟩, h3⟩, h4⟩, h5⟩ := hB'
      obtain ⟨o, v, ho, hy, hr⟩ := h'
      have hi : i ∈ Region.ready md ops listed := by simpa using h1
      refine first ho (Region.noSelect_spec hs) (fun c a w hp => absurd hp (hQ c _ w)) (by simpa using h3) ops.size rest.length listed a w hc ?_ (Region.free_spec ho h2) hi hy
        (anyG_of_wpG hs hQ rest _ _ w (hc.set hi) h5 hr)
      rcases h4 with h4 | h4
      · exact .inl h4
      · refine .inr fun j hj hun => ?_
        have := List.all_eq_true.1 h4 j hj
        simpa [hun] using this

theorem closed_none (m : Nat) : Closed md ops (Array.replicate m false) := by
  intro j o _ hl
  rw [show (Array.replicate m false).getD j false = false by
    rcases Nat.lt_or_ge j m with h | h <;> simp [h]] at hl
  cases hl

/-- THE LAW: a region that draws, walked in the order l: pairs of an operation's number and its kind. -/
theorem wp_calm {id : Nat} {a : Act} {w : World} {os : List Oper} (xs : List Nat) (l : List (Nat × Nat)) (hm : P.follows .mixedOrders = true)
    (hB : (Region.noSelect os.toArray && l.length == os.length && okB .any os.toArray xs (Array.replicate os.length false) l) = true)
    (h : wpG P os.toArray (NoPanic Q) xs l a w.drew) : (Code.region id os.toArray true).wp P Q a w := by
  simp only [Bool.and_eq_true, beq_iff_eq] at hB
  refine wp_region_noPanic (wp_region_any hm ?_)
  have h1 := anyG_of_wpG (md := .any) hB.1.1 (fun c a w hp => hp) l (Array.replicate os.length false) a w.drew (closed_none _) hB.2 h
  have h2 := wpAny_of_G _ _ _ _ h1
  rw [hB.1.2] at h2
  simpa using h2
end

section
variable {P : Program} {ops : Array Oper} {Q : Exit → Act → World → Prop} {xs : List Nat} {a : Act} {w : World} {i : Nat} {rest : List (Nat × Nat)}
theorem done (h : Q .normal a w) : wpG P ops (NoPanic Q) xs [] a w := h
theorem plain {o : Oper} (ho : ops[i]? = some o) (v : Value) (hw : Region.wanted o (yielded ops a.tmps) = true) (hr : ∀ W, (execOp a.eval o).run P W = .ok (.value v) W)
    (h : wpG P ops Q xs rest (a.put o.dst v) w) : wpG P ops Q xs ((i, 0) :: rest) a w := ⟨o, v, ho, .inl ⟨hw, fun W _ => hr W⟩, h⟩
theorem reads {o : Oper} (ho : ops[i]? = some o) (v : Value) (hw : Region.wanted o (yielded ops a.tmps) = true) (hr : ∀ W, Below w.heap.size w W → (execOp a.eval o).run P W = .ok (.value v) W)
    (h : wpG P ops Q xs rest (a.put o.dst v) w) : wpG P ops Q xs ((i, 1) :: rest) a w :=
  ⟨o, v, ho, .inl ⟨hw, fun W hW => hr W (hW.resolve_left (by simp))⟩, h⟩
theorem acts {o : Oper} (ho : ops[i]? = some o) (hw : Region.wanted o (yielded ops a.tmps) = true)
    (h : ∀ K : Act → World → Prop, (∀ a' w', (i ∉ xs → Below w.heap.size w w') → wpG P ops Q xs rest a' w' → K a' w') → o.wp P a w K Q) : wpG P ops Q xs ((i, 2) :: rest) a w := by
  show wpOp P ops Q i _ a w
  unfold wpOp
  simp only [ho, hw, if_true]
  exact .inl (h _ fun a' w' h1 h2 => ⟨h1, h2⟩)
theorem step {o : Oper} (ho : ops[i]? = some o)
    (h : ∀ K : Act → World → Prop, (∀ a' w', (i ∉ xs → Below w.heap.size w w') → wpG P ops Q xs rest a' w' → K a' w') → if Region.wanted o (yielded ops a.tmps) = true then o.wp P a w K Q else K (a.put o.dst undef) w) :
    wpG P ops Q xs ((i, 2) :: rest) a w := by
  show wpOp P ops Q i _ a w
  unfold wpOp
  simp only [ho]
  by_cases hw : Region.wanted o (yielded ops a.tmps) = true
  · have := h (fun a' w' => (i ∉ xs → Below w.heap.size w w') ∧ wpG P ops Q xs rest a' w') (fun a' w' h1 h2 => ⟨h1, h2⟩)
    rw [if_pos hw] at this ⊢
    exact .inl this
  · have := h (fun a' w' => (i ∉ xs → Below w.heap.size w w') ∧ wpG P ops Q xs rest a' w') (fun a' w' h1 h2 => ⟨h1, h2⟩)
    rw [if_neg hw] at this ⊢
    exact this
end
end Go.Calm
