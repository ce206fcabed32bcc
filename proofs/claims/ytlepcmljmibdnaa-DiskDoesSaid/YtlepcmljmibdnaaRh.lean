/- The reference's disk: Fault, Read. Conditions: those of each statement. -/
import Derived.Test.YtlepcmljmibdnaaRg
namespace Go.Proofs.Ytlepcmljmibdnaa
open Go.RowKit Go.Proofs.YtlepcmljmibdnaaW.PrintWords Go.Proofs.YtlepcmljmibdnaaW.PrintLast Go.Proofs.YtlepcmljmibdnaaW.PrintMore PDiskArms
set_option linter.unusedVariables false
set_option linter.unusedSimpArgs false
section
variable {w : World} {base B : Nat} {vS vC vB : Value} {X : RX}
theorem rb_at (h : RM w base B vS vC vB X) (k : Nat) (b : Bool) (hk : X.bad[k]? = some b) :
    ∃ g c, vB = .slice (some ⟨g, 0, none⟩) X.bad.length c ∧ w.cell? ⟨g, k, none⟩ = some (.bool b) ∧ w.frozen? ⟨g, k, none⟩ = false := by
  have hl : k < X.bad.length := (List.getElem?_eq_some_iff.1 hk).1
  obtain ⟨g, c, hv⟩ := R_addr h.bad (by omega)
  have hS := h.bad
  rw [hv] at hS
  obtain ⟨c', hcl, hM, hcc, hf⟩ := Kd.R_elem hS b (k : Int) (by omega) (by omega)
  have e : X.bad.getD (k : Int).toNat b = b := by simp [List.getD, hk]
  rw [e] at hM
  have hM' : c' = [.bool b] := hM
  subst hM'
  have h1 := hcc 0 _ rfl
  have h2 := hf 0
  rw [Int.toNat_natCast, show Kd.bool.sz = 1 from rfl, Nat.mul_one, Nat.add_zero] at h1 h2
  exact ⟨g, c, hv, h1, h2⟩
theorem RM.putB {g n c : Nat} (h : RM w base B vS vC (.slice (some ⟨g, 0, none⟩) n c) X) (a : Nat) (ha : a < n) (b : Bool) :
    RM (w.setCell ⟨g, a, none⟩ (.bool b)) base B vS vC (.slice (some ⟨g, 0, none⟩) n c) { X with bad := X.bad.set a b } ∧ TC base isRef w (w.setCell ⟨g, a, none⟩ (.bool b)) := by
  obtain ⟨k1, hg⟩ := R_put1 (okp := fun _ => False) rfl h.bad a ha b (.bool b) rfl (fun k hk => hk.elim)
  obtain ⟨hb, cells, hcl⟩ := own_cells h.bad g rfl
  have hc : Chg w (w.setCell ⟨g, a, none⟩ (.bool b)) (fun k => some k = some g) := chg_grown hg fun _ h => h
  have hs : ∀ k, some k = some g → k < w.heap.size → ∃ t cells, w.heap[k]? = some (.cells cells t (0, 0)) ∧ t = 4 := fun k hk _ => by
    obtain rfl := Option.some.inj hk
    exact ⟨_, cells, hcl, rfl⟩
  have hne : ¬ some B = some g := fun e => by
    obtain rfl := Option.some.inj e
    rw [h.blk] at hcl
    simp at hcl
  refine ⟨⟨(hc.block B h.lt hne).trans h.blk, R_types_chg h.S hc fun k hk hl => ?_, R_types_chg h.C hc fun k hk hl => ?_, k1, h.hB⟩, .of_chg hc h.base_le fun k hk _ => ?_⟩
  · obtain ⟨t, c, h1, rfl⟩ := hs k hk hl
    exact ⟨_, c, h1, fun q hq => by rcases q29 q hq with h | h <;> simp [h]⟩
  · obtain ⟨t, c, h1, rfl⟩ := hs k hk hl
    exact ⟨_, c, h1, fun q hq => by rcases q106 q hq with h | h <;> simp [h]⟩
  · obtain rfl := Option.some.inj hk
    exact ⟨hb, _, hcl, .inr (.inr rfl)⟩
end
def rfaultX (X : RX) (at_ : Int) (on : Bool) : RX := if inB at_ X.S.length = false then X else { X with bad := X.bad.set at_.toNat on }
theorem rfault_calls (w : World) (base B : Nat) (vS vC vB : Value) (X : RX) (at_ : Int) (on : Bool) (h : RK w base B vS vC vB X) :
    Calls Try.prog 32 #[.pointer (some ⟨B, 0, none⟩), .int .i64 at_, .bool on] w fun e w' => e = .returned (.tuple #[]) ∧ RK w' base B vS vC vB (rfaultX X at_ on) ∧ TC base isRef w w' := by
  have HR := Aside0.mk h
  have q2 := (cells5 h.blk).1.2.2.1
  by_cases hi : inB at_ X.S.length = false
  · have HI := Aside0.mk hi
    have hf : rfaultX X at_ on = X := by unfold rfaultX; rw [if_pos hi]
    rw [hf]
    clear hf hi h q2
    go_enter Try.func32, Try.ntmps32
    go_wp2_with (first | (go_at_call 70; with_reducible refine (rhas_calls w base B vS vC vB X at_ false HI.out HR.out).mono ?_; rintro e w' ⟨rfl, rfl⟩))
    go_end0
    exact ⟨rfl, HR.out, TC.refl _ _ _⟩
  · have hi0 : inB at_ X.S.length = true := by simpa using hi
    have HI := Aside0.mk hi0
    have hf : rfaultX X at_ on = { X with bad := X.bad.set at_.toNat on } := by unfold rfaultX; rw [if_neg hi]
    rw [hf]
    have hr : 0 ≤ at_ ∧ at_ < X.S.length := by unfold inB at hi0; exact of_decide_eq_true hi0
    obtain ⟨a, rfl⟩ : ∃ a : Nat, at_ = (a : Int) := ⟨at_.toNat, by omega⟩
    have hal : a < X.bad.length := by rw [h.ok.hb]; omega
    obtain ⟨b, hb⟩ : ∃ b, X.bad[a]? = some b := ⟨_, List.getElem?_eq_getElem hal⟩
    obtain ⟨g, c, rfl, y0, yf⟩ := rb_at h.toRM a b hb
    have HAL := Aside0.mk hal
    have hali : (a : Int) < (X.bad.length : Int) := by omega
    clear hf hi h hi0 hr hb hal
    go_enter Try.func32, Try.ntmps32
    go_wp2_with (first | (go_at_call 70; with_reducible refine (rhas_calls w base B vS vC _ X (a : Int) true HI.out HR.out).mono ?_; rintro e w' ⟨rfl, rfl⟩))
    go_end0
    obtain ⟨k1, k2⟩ := HR.out.toRM.putB a HAL.out on
    exact ⟨rfl, ⟨k1, ⟨HR.out.ok.s64, HR.out.ok.c64, by simp [HR.out.ok.hb], HR.out.ok.hl, HR.out.ok.hn⟩⟩, k2⟩
def rreadX (X : RX) (at_ : Int) : List Int × Int :=
  if X.dead then ([], 50) else if inB at_ X.S.length = false then ([], 1) else if X.bad.getD at_.toNat false then ([], 52) else (readL (X.S.getD at_.toNat []) X.cache at_, 0)
set_option maxHeartbeats 1000000 in
theorem rread_calls (w : World) (base B : Nat) (vS vC vB : Value) (X : RX) (at_ r : Int) (s : List Int) (hx : rreadX X at_ = (s, r)) (h : RK w base B vS vC vB X) (hl : X.cache.length ≤ 1000) :
    Calls Try.prog 27 #[.pointer (some ⟨B, 0, none⟩), .int .i64 at_] w fun e w' => ∃ A c, e = .returned (.tuple #[.slice A s.length c, .int .i64 r]) ∧ Kd.R (Kd.int .u8) 5 w' w.heap.size (fun k => w.heap.size ≤ k) (.slice A s.length c) s ∧ Below w.heap.size w w' := by
  have HR := Aside0.mk h
  obtain ⟨⟨q0, q1, q2, q3, q4⟩, _⟩ := cells5 h.blk
  by_cases hd : X.dead = true
  · rw [hd] at q4
    have hf : rreadX X at_ = ([], 50) := by unfold rreadX; rw [if_pos hd]
    obtain ⟨rfl, rfl⟩ := Prod.mk.inj (hf.symm.trans hx)
    clear hf hx hd h q0 q1 q2 q3
    go_enter Try.func27, Try.ntmps27
    go_wp2
    go_ret2
    exact ⟨none, 0, rfl, Kd.R_nil _ _ _ _ _, Below.refl _ _⟩
  have hd0 : X.dead = false := by simpa using hd
  rw [hd0] at q4
  by_cases hi : inB at_ X.S.length = false
  · have HI := Aside0.mk hi
    have hf : rreadX X at_ = ([], 1) := by unfold rreadX; rw [if_neg hd, if_pos hi]
    obtain ⟨rfl, rfl⟩ := Prod.mk.inj (hf.symm.trans hx)
    clear hf hx hd h q0 q1 q2 q3 hi hd0
    go_enter Try.func27, Try.ntmps27
    go_wp2_with (first | (go_at_call 70; with_reducible refine (rhas_calls w base B vS vC vB X at_ false HI.out HR.out).mono ?_; rintro e w' ⟨rfl, rfl⟩))
    go_ret2
    exact ⟨none, 0, rfl, Kd.R_nil _ _ _ _ _, Below.refl _ _⟩
  have hi0 : inB at_ X.S.length = true := by simpa using hi
  have HI := Aside0.mk hi0
  have hr : 0 ≤ at_ ∧ at_ < X.S.length := by unfold inB at hi0; exact of_decide_eq_true hi0
  obtain ⟨a, rfl⟩ : ∃ a : Nat, at_ = (a : Int) := ⟨at_.toNat, by omega⟩
  have hal : a < X.bad.length := by rw [h.ok.hb]; omega
  obtain ⟨b, hb⟩ : ∃ b, X.bad[a]? = some b := ⟨_, List.getElem?_eq_getElem hal⟩
  obtain ⟨gb, cb, rfl, y0, yf⟩ := rb_at h.toRM a b hb
  have hali : (a : Int) < (X.bad.length : Int) := by omega
  have hgb : X.bad.getD a false = b := by simp [List.getD, hb]
  cases b with
  | true =>
    have hf : rreadX X (a : Int) = ([], 52) := by unfold rreadX; rw [if_neg hd, if_neg hi, Int.toNat_natCast, if_pos hgb]
    obtain ⟨rfl, rfl⟩ := Prod.mk.inj (hf.symm.trans hx)
    clear hf hx hd h q0 q1 q3 hi hd0 hi0 hr hb hal yf hgb
    go_enter Try.func27, Try.ntmps27
    go_wp2_with (first | (go_at_call 70; with_reducible refine (rhas_calls w base B vS vC _ X (a : Int) true HI.out HR.out).mono ?_; rintro e w' ⟨rfl, rfl⟩))
    go_ret2
    exact ⟨none, 0, rfl, Kd.R_nil _ _ _ _ _, Below.refl _ _⟩
  | false =>
    obtain ⟨s0, hs0⟩ : ∃ s0, X.S[a]? = some s0 := ⟨_, List.getElem?_eq_getElem (by omega)⟩
    have hf : rreadX X (a : Int) = (readL s0 X.cache a, 0) := by unfold rreadX; rw [if_neg hd, if_neg hi, Int.toNat_natCast, if_neg (by rw [hgb]; simp)]; simp [List.getD, hs0]
    obtain ⟨hsr, rfl⟩ := Prod.mk.inj (hf.symm.trans hx)
    have HSR := Aside0.mk hsr
    obtain ⟨gs, cs, As, cis, rfl, z0, _, hM0⟩ := rs_at h.toRM a s0 hs0
    have HC0 : Aside0 ((Kd.int .u8).C w As s0.length s0) := ⟨by obtain ⟨v, hv, hR⟩ := hM0; obtain rfl := List.head_eq_of_cons_eq hv; exact (Kd.R_reads' hR).2.2⟩
    have hsl : (a : Int) < (X.S.length : Int) := by omega
    obtain ⟨Ac, cc, rfl⟩ := Kd.R_slice h.C
    have HS64 := Aside0.mk (h.ok.s64 s0 (List.mem_of_getElem? hs0))
    clear hf hx hd h q3 hi hd0 hi0 hr hb hal yf hgb hM0 hs0 hsr
    go_enter Try.func27, Try.ntmps27
    go_wp2_with (first | (go_at_call 70; with_reducible refine (rhas_calls w base B _ _ _ X (a : Int) true HI.out HR.out).mono ?_; rintro e w' ⟨rfl, rfl⟩))
    clear q0 q1 q2 q4 y0 z0 hali hsl
    go_loopg [6, 36] X.cache.length (fun kq v6 v36 w' => ∃ (i : Nat) (A : Option Addr) (c : Nat) (s : List Int), v36 = .int .i64 (i : Int) ∧ v6 = .slice A s.length c ∧ Aside0 (i + kq = X.cache.length) ∧ Aside0 ((Kd.int .u8).C w' A s.length s) ∧ Aside0 (readL s0 (X.cache.take i) a = s) ∧ Aside0 (Below w.heap.size w w') ∧ Aside0 (s.length = 64))
    case atStart => exact ⟨0, As, cis, s0, rfl, rfl, ⟨by omega⟩, HC0, ⟨rfl⟩, ⟨Below.refl _ _⟩, HS64⟩
    case round =>
      obtain ⟨i, A, c, s1, rfl, rfl, HIq, HC1, HRL, HBr, H64⟩ := hrel
      by_cases hi : i < X.cache.length
      · obtain ⟨p, hp⟩ : ∃ p, X.cache[i]? = some p := ⟨_, List.getElem?_eq_getElem hi⟩
        obtain ⟨g, c', A1, ci, hvc, x0, x1, hM⟩ := rc_at (HR.out.toRM.fresh HBr.out) i p hp
        injection hvc with hv1 hv2 hv3
        subst hv1
        subst hv3
        have HP := Aside0.mk hp
        have HP64 := Aside0.mk (HR.out.ok.c64 p (List.mem_of_getElem? hp)).1
        have HCp : Aside0 ((Kd.int .u8).C wr A1 p.2.length p.2) := ⟨by obtain ⟨v, hv, hR⟩ := hM; obtain rfl := List.head_eq_of_cons_eq hv; exact (Kd.R_reads' hR).2.2⟩
        clear hv2 hp hM
        have hbw := Below.alloc (Below.refl wr.heap.size wr) (Nat.le_refl _) (.cells #[.int .i64 p.1, .slice A1 p.2.length ci] 106)
        have HBW := Aside0.mk hbw
        clear hbw
        by_cases hpa : p.1 = (a : Int)
        · have HPA := Aside0.mk hpa
          have hpa' : (p.1 == (a : Int)) = true := by simpa using hpa
          clear hpa
          go_wp2
          have hk1 := HIq.out
          obtain ⟨gq, rfl⟩ : ∃ gq, gk = gq + 1 := ⟨gk - 1, by omega⟩
          go_roundg gq
          case rel => exact ⟨i + 1, A1, ci, p.2, by go_num, rfl, ⟨by omega⟩, ⟨Kd.C_below HCp.out HBW.out⟩, ⟨by rw [readL_succ s0 X.cache a i p HP.out, if_pos HPA.out]⟩, ⟨HBr.out.trans (HBW.out.mono HBr.out.size)⟩, HP64⟩
          case measure => omega
        · have HPA := Aside0.mk hpa
          have hpa' : (p.1 == (a : Int)) = false := by simpa using hpa
          clear hpa
          go_wp2
          have hk1 := HIq.out
          obtain ⟨gq, rfl⟩ : ∃ gq, gk = gq + 1 := ⟨gk - 1, by omega⟩
          go_roundg gq
          case rel => exact ⟨i + 1, A, c, s1, by go_num, rfl, ⟨by omega⟩, ⟨Kd.C_below HC1.out HBW.out⟩, ⟨by rw [readL_succ s0 X.cache a i p HP.out, if_neg HPA.out]; exact HRL.out⟩, ⟨HBr.out.trans (HBW.out.mono HBr.out.size)⟩, H64⟩
          case measure => omega
      · have hi0 := HIq.out
        obtain rfl : gk = 0 := by omega
        obtain rfl : i = X.cache.length := by omega
        clear hi0
        have hm : ¬ ((X.cache.length : Int) < (X.cache.length : Int)) := by omega
        obtain rfl : s1 = s := by have := HRL.out; rw [List.take_length, HSR.out] at this; exact this.symm
        go_wp2_with (first | ((with_reducible refine gate_builtin (b := .append) (xs := #[.const (.slice none 0 0), .tmp 47]) rfl ?_); at_builtin; refine Kd.R_append_rows (Kd.int .u8) (W := wr) (w0 := wr) wr.heap.size rfl (.const (.slice none 0 0)) (.tmp 47) 29 5 (.int .u8 0) 1 rfl Try.underlying29 info5e rfl (by decide) (by decide) (.slice none 0 0) [] s1 A s1.length c (fun _ => True) (fun _ => False) rfl rfl (Kd.R_nil _ _ _ _ _) HC1.out (fun _ _ h => h) (fun _ h => h.elim) (fun _ _ => trivial) (Below.refl _ _) (Nat.le_refl _) (by rw [H64.out]; decide) ?_; intro v2 w6 ho hb hg hat; rw [List.nil_append] at ho; obtain ⟨A2, c2, hv2⟩ := Kd.R_slice ho; subst hv2; have HR2 := Aside0.mk ho; have HB2 := Aside0.mk hb; clear ho hb hg hat))
        go_ret2
        exact ⟨_, _, rfl, Kd.R_mono (Kd.R_bound (Kd.R_lower HR2.out HBr.out.size)) (fun k hk => hk.2.1), HBr.out.trans (HB2.out.mono HBr.out.size)⟩
end Go.Proofs.Ytlepcmljmibdnaa
