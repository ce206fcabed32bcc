/- Parts of one proof, joined: Cn, Ad, Ct, Aq, Rz, Rm, Xa, Xb, Xc, Xd, Xe. Conditions: those of each statement. -/
import Derived.Test.YtlepcmljmibdnaaGreatZh7
import Derived.Lib.SmallJoins
import Derived.Lib.SlBytesConst
namespace Go.Proofs.YtlepcmljmibdnaaGreat
open Go.RowKit Go.Proofs.YtlepcmljmibdnaaGreatW.PrintWords Go.Proofs.YtlepcmljmibdnaaGreatW.PrintLast Go.Proofs.YtlepcmljmibdnaaGreatW.PrintMore PWalOpens
set_option linter.unusedVariables false
set_option linter.unusedSimpArgs false
theorem grow_none (w : World) : Calls Tryz.prog 107 #[.slice none 0 0, .int .i64 0] w fun e w' => e = .returned (.slice none 0 0) ∧ w = w' := by
  go_enter Tryz.func107, Tryz.ntmps107
  go_wp2
  go_ret
  exact ⟨rfl, rfl⟩
set_option maxRecDepth 100000 in
theorem grow_some (w : World) (n : Nat) (hn : 0 < n ∧ n ≤ 1000000) : Calls Tryz.prog 107 #[.slice none 0 0, .int .i64 n] w fun e w' => ∃ v, e = .returned v ∧ Kd.R (Kd.int .u64) 52 w' w.heap.size (fun _ => True) v [] ∧ Below w.heap.size w w' := by
  have h1 : decide ((n : Int) < 0) = false := by simp
  have h2 : decide (0 < (n : Int)) = true := by simp; omega
  have hn1 : n ≤ 1000000 := hn.2
  have h3 : 0 < n := hn.1
  have HN := Aside0.mk hn
  clear hn
  go_enter Tryz.func107, Tryz.ntmps107
  go_wp2_with (first
    | ((with_reducible refine gate_builtin (b := .append) (xs := #[.tmp 20, .tmp 21]) rfl ?_); at_builtin; go_loud (refine Kd.R_append_zeros (Kd.int .u64) (w0 := w) w.heap.size rfl (.tmp 20) (.tmp 21) 98 3 52 (.int .u64 0) 8 rfl Tryz.underlying98 Tryz.underlying3 info56 rfl (by decide) (by decide) (.slice none 0 0) [] 0 (n : Int) (fun _ => True) rfl rfl rfl (fun _ _ => trivial) (Kd.R_nil _ _ _ _ _) (by omega) (Below.refl _ _) (Nat.le_refl _) (by simp; omega) ?_); intro v1 w1 ho hb hg hat; obtain ⟨A1, n1, c1, hv1⟩ := R_slice3 ho; subst hv1; have HO1 := Aside0.mk ho; have HB1 := Aside0.mk hb; clear ho hb hg hat))
  go_ret
  have h5 := Kd.R_take HO1.out (m := 0) (Nat.zero_le _)
  rw [List.take_zero] at h5
  exact ⟨_, rfl, h5, HB1.out⟩
theorem grow_calls (w : World) (n : Nat) (hn : n ≤ 1000000) : Calls Tryz.prog 107 #[.slice none 0 0, .int .i64 n] w fun e w' => ∃ v, e = .returned v ∧ Kd.R (Kd.int .u64) 52 w' w.heap.size (fun _ => True) v [] ∧ Below w.heap.size w w' := by
  by_cases h : n = 0
  · subst h
    refine (grow_none w).mono ?_
    rintro e w' ⟨rfl, rfl⟩
    exact ⟨_, rfl, Kd.R_nil _ _ _ _ _, Below.refl _ _⟩
  · exact grow_some w n ⟨by omega, hn⟩
set_option maxRecDepth 100000 in
theorem concat_calls (w : World) (b : Nat) (A1 A2 : Option Addr) (c1 c2 : Nat) (l1 l2 : List Int) (hb : w.heap[b]? = some (.cells #[.slice A1 l1.length c1, .slice A2 l2.length c2] 98 (0, 0))) (hC1 : (Kd.int .u64).C w A1 l1.length l1) (hC2 : (Kd.int .u64).C w A2 l2.length l2) (hl : l1.length + l2.length ≤ 1000000) :
    Calls Tryz.prog 58 #[.slice (some ⟨b, 0, none⟩) 2 2] w fun e w' => ∃ v, e = .returned v ∧ Kd.R (Kd.int .u64) 52 w' w.heap.size (fun _ => True) v (l1 ++ l2) ∧ Below w.heap.size w w' := by
  have HB := Aside0.mk hb
  have H1 := Aside0.mk hC1
  have H2 := Aside0.mk hC2
  have HL := Aside0.mk hl
  obtain ⟨p1, p2, _⟩ := cells2 hb
  have g1 : l1.length ≤ 1000000 := by omega
  have g2 : l2.length ≤ 1000000 := by omega
  clear hb hC1 hC2
  go_enter Tryz.func58, Tryz.ntmps58
  go_wp2
  go_loopg [3, 11] 2 (fun kq v3 v11 w' => w' = w ∧ ((kq = 2 ∧ v11 = .int .i64 0 ∧ v3 = .int .i64 0) ∨ (kq = 1 ∧ v11 = .int .i64 1 ∧ v3 = .int .i64 (l1.length : Int)) ∨ (kq = 0 ∧ v11 = .int .i64 2 ∧ v3 = .int .i64 ((l1.length : Int) + (l2.length : Int)))))
  case atStart => exact ⟨rfl, .inl ⟨rfl, rfl, rfl⟩⟩
  case round =>
    obtain ⟨hw, h⟩ := hrel
    subst wr
    rcases h with ⟨rfl, rfl, rfl⟩ | ⟨rfl, rfl, rfl⟩ | ⟨rfl, rfl, rfl⟩
    · go_wp2
      go_roundg 1
      case rel => exact ⟨rfl, .inr (.inl ⟨rfl, rfl, by simp⟩)⟩
      case measure => omega
    · go_wp2
      go_roundg 0
      case rel => exact ⟨rfl, .inr (.inr ⟨rfl, rfl, by simp⟩)⟩
      case measure => omega
    · have HG := Aside0.mk (grow_calls w (l1.length + l2.length) hl)
      rw [Int.natCast_add] at HG
      go_wp2_with (go_at_call 107; (with_reducible refine HG.out.mono ?_); rintro e w3 ⟨v3, rfl, hr, hb3⟩; have HR3 := Aside0.mk hr; have HB3 := Aside0.mk hb3; clear hr hb3)
      go_loopg [6, 27] 2 (fun kq v6 v27 wq => Aside0 (Below w.heap.size w wq) ∧ ((kq = 2 ∧ v27 = .int .i64 0 ∧ Aside0 (Kd.R (Kd.int .u64) 52 wq w.heap.size (fun _ => True) v6 [])) ∨ (kq = 1 ∧ v27 = .int .i64 1 ∧ Aside0 (Kd.R (Kd.int .u64) 52 wq w.heap.size (fun _ => True) v6 l1)) ∨ (kq = 0 ∧ v27 = .int .i64 2 ∧ Aside0 (Kd.R (Kd.int .u64) 52 wq w.heap.size (fun _ => True) v6 (l1 ++ l2)))))
      case atStart => exact ⟨HB3, .inl ⟨rfl, rfl, HR3⟩⟩
      case round =>
        obtain ⟨HBq, h⟩ := hrel
        obtain ⟨r1, r2, _⟩ := cells2 ((HBq.out.block _ (Array.getElem?_eq_some_iff.1 HB.out).1).trans HB.out)
        rcases h with ⟨rfl, rfl, HR⟩ | ⟨rfl, rfl, HR⟩ | ⟨rfl, rfl, HR⟩
        · have HZ := Aside0.mk (show (([] : List Int).length + l1.length) * 8 ≤ 140737488355328 from by simp; omega)
          obtain ⟨A6, c6, rfl⟩ := Kd.R_slice HR.out
          go_wp2_with (first | ((with_reducible refine gate_builtin (b := .append) (xs := #[.tmp 31, .tmp 32]) rfl ?_); at_builtin; go_loud (refine Kd.R_append_rows (Kd.int .u64) (W := wr) (w0 := wr) w.heap.size rfl (.tmp 31) (.tmp 32) 98 52 (.int .u64 0) 8 rfl Tryz.underlying98 info56 rfl (by decide) (by decide) _ ([] : List Int) l1 A1 l1.length c1 (fun _ => True) (fun _ => False) rfl rfl HR.out (Kd.C_below H1.out HBq.out) (fun _ _ h => h) (fun _ h => h.elim) (fun _ _ => trivial) (Below.refl _ _) HBq.out.size HZ.out ?_); intro v5 w5 ho hb hg hat; have HO5 := Aside0.mk ho; have HB5 := Aside0.mk (HBq.out.trans hb); clear ho hb hg hat))
          go_roundg 1
          case rel => exact ⟨HB5, .inr (.inl ⟨rfl, rfl, HO5⟩)⟩
          case measure => omega
        · have HZ := Aside0.mk (show (l1.length + l2.length) * 8 ≤ 140737488355328 from by omega)
          obtain ⟨A6, c6, rfl⟩ := Kd.R_slice HR.out
          go_wp2_with (first | ((with_reducible refine gate_builtin (b := .append) (xs := #[.tmp 31, .tmp 32]) rfl ?_); at_builtin; go_loud (refine Kd.R_append_rows (Kd.int .u64) (W := wr) (w0 := wr) w.heap.size rfl (.tmp 31) (.tmp 32) 98 52 (.int .u64 0) 8 rfl Tryz.underlying98 info56 rfl (by decide) (by decide) _ l1 l2 A2 l2.length c2 (fun _ => True) (fun _ => False) rfl rfl HR.out (Kd.C_below H2.out HBq.out) (fun _ _ h => h) (fun _ h => h.elim) (fun _ _ => trivial) (Below.refl _ _) HBq.out.size HZ.out ?_); intro v5 w5 ho hb hg hat; have HO5 := Aside0.mk ho; have HB5 := Aside0.mk (HBq.out.trans hb); clear ho hb hg hat))
          go_roundg 0
          case rel => exact ⟨HB5, .inr (.inr ⟨rfl, rfl, HO5⟩)⟩
          case measure => omega
        · obtain ⟨A6, c6, rfl⟩ := Kd.R_slice HR.out
          go_wp2
          go_ret
          have HRl := HR.out
          rw [List.length_append] at HRl
          exact ⟨_, rfl, HRl, HBq.out⟩
end Go.Proofs.YtlepcmljmibdnaaGreat
namespace Go.Proofs.YtlepcmljmibdnaaGreat
open Go.RowKit Go.Proofs.YtlepcmljmibdnaaGreatW.PrintWords Go.Proofs.YtlepcmljmibdnaaGreatW.PrintLast Go.Proofs.YtlepcmljmibdnaaGreatW.PrintMore PWalOpens
set_option linter.unusedVariables false
set_option linter.unusedSimpArgs false
section
variable {n0 : Nat} {w w' : World} {Wb B M Bd : Nat} {vc vs v1 : Value} {D D1 D2 : PD} {gen head tail h1 t1 : Int} {S S1 st : List Int} {over : Bool} {s e e2 : Int}
def AddQ (n0 : Nat) (w : World) (Wb B M Bd : Nat) (D1 D2 : PD) (gen head tail : Int) (S st : List Int) (s e e2 : Int) (r : Ending) (w' : World) : Prop :=
  TC n0 (isWD M Bd) w w' ∧ ∃ vc' vs',
    (e ≠ 0 → (e = 2 ∨ e = 51) → r = .returned (.int .i64 e) ∧ WV n0 w' Wb B M Bd vc' vs' D1 gen head tail S false) ∧
    (e ≠ 0 → (e ≠ 2 ∧ e ≠ 51) → r = .returned (.int .i64 50) ∧ WV n0 w' Wb B M Bd vc' vs' D1 gen head tail S true) ∧
    (e = 0 → e2 = 0 → r = .returned (.int .i64 0) ∧ WV n0 w' Wb B M Bd vc' vs' D2 (gen + 1) head s (S ++ st) false) ∧
    (e = 0 → e2 ≠ 0 → r = .returned (.int .i64 50) ∧ WV n0 w' Wb B M Bd vc' vs' D2 gen head tail S true)
theorem ret_code {er : Ending} {e2 : Int} {P Q : Prop} (h1 : e2 = 0 → er = .returned (.int .i64 0) ∧ P) (h2 : e2 ≠ 0 → er = .returned (.int .i64 50) ∧ Q) : ∃ x, er = .returned (.int .i64 x) := by
  by_cases h : e2 = 0
  · exact ⟨_, (h1 h).1⟩
  · exact ⟨_, (h2 h).1⟩
/-- lay, seen by the wal -/
theorem lay_wv {A : Option Addr} {c : Nat} {R : List (List Int)} {r f : Int} (hr : ringP D = r) (hR : RecsOK R) (hf : r - (tail - head) = f) (hres : layP D r f tail R = (D1, st, s, e))
    (ht : 0 ≤ head ∧ head ≤ tail ∧ tail < 18446744073709540000 ∧ tail - head ≤ 4094) (hl : D.cache.length ≤ 20000) (h : WV n0 w Wb B M Bd vc vs D gen head tail S over)
    (hT : ∀ W, TC n0 (isWD M Bd) w W → bytesK.C W A R.length R) :
    Calls Tryz.prog 55 #[.pointer (some ⟨Wb, 0, none⟩), .slice A R.length c] w fun x w' => ∃ A' c' vc', x = .returned (.tuple #[.slice A' st.length c', .int .u64 s, .int .i64 e]) ∧ Kd.R (Kd.int .u64) 52 w' w.heap.size (fun _ => True) (.slice A' st.length c') st ∧ WV n0 w' Wb B M Bd vc' vs D1 gen head tail S over ∧ TC n0 (isWD M Bd) w w' := by
  refine (lay_calls A c R r f (D1, st, s, e) hr hR hf hres ht (by omega) h.blk h.away (h.dk.low 0 (Nat.zero_le _)) (fun W hc => hT W ((h.dk.tc hc).mono fun _ _ h => .inl h))).mono ?_
  rintro x w' ⟨v, rfl, hst, vc', ha⟩
  obtain ⟨A', c', rfl⟩ := Kd.R_slice hst
  have h5 := h.disk ha
  exact ⟨A', c', vc', rfl, hst, h5.1, h5.2.mono fun _ _ h => .inl h⟩
set_option maxHeartbeats 1000000 in
theorem add_calls {A : Option Addr} {c : Nat} {R : List (List Int)} {r f : Int} (hr : ringP D = r) (hR : RecsOK R) (hf : r - (tail - head) = f) (hres : layP D r f tail R = (D1, st, s, e)) (hsv : saveP D1 (gen + 1) [head, s] = (D2, e2))
    (ht : 0 ≤ head ∧ head ≤ tail ∧ tail < 18446744073709540000 ∧ tail - head ≤ 4094) (hg : 0 ≤ gen ∧ gen < 18446744073709551615) (hs : 0 ≤ s ∧ s < 18446744073709551616) (hl : D.cache.length ≤ 20000) (hl1 : D1.cache.length ≤ 30000) (hS : S.length + st.length ≤ 1000000) (h : WV n0 w Wb B M Bd vc vs D gen head tail S false)
    (hT : ∀ W, TC n0 (isWD M Bd) w W → bytesK.C W A R.length R) :
    Calls Tryz.prog 15 #[.pointer (some ⟨Wb, 0, none⟩), .slice A R.length c] w (AddQ n0 w Wb B M Bd D1 D2 gen head tail S st s e e2) := by
  obtain ⟨As, cs, rfl⟩ := Kd.R_slice h.st
  have HK := Aside0.mk (wok_calls h.blk)
  have HLY := Aside0.mk (lay_wv (c := c) hr hR hf hres ht hl h hT)
  have HH := Aside0.mk h
  have HSV := Aside0.mk hsv
  have HS := Aside0.mk hS
  have HL1 := Aside0.mk hl1
  have HHD := Aside0.mk (show 0 ≤ head ∧ head < 18446744073709551616 from by omega)
  have HN0 := Aside0.mk (show n0 ≤ w.heap.size from h.dk.base_le)
  simp only [Bool.not_false, Bool.and_self] at HK
  clear h hr hR hf hres hT hsv hS ht
  by_cases he : e = 0
  · subst he
    go_enter Tryz.func15, Tryz.ntmps15
    go_wp2_with (first
      | (go_at_call 54; (with_reducible refine HK.out.mono ?_); rintro e w' ⟨rfl, rfl⟩)
      | (go_at_call 55; (with_reducible refine HLY.out.mono ?_); rintro e w1 ⟨A1, c1, vc1, rfl, hst, hv, htc⟩; have HST := Aside0.mk hst; have HV := Aside0.mk hv; have HTC := Aside0.mk htc; clear hst hv htc))
    obtain ⟨⟨q0, q1, q2, q3, q4, q5, q6⟩, _⟩ := cells7 HV.out.blk
    clear q0 q1 q3 q5 q6
    obtain ⟨W2, hW2⟩ : ∃ W2, (w1.alloc (.cells #[.slice As S.length cs, .slice A1 st.length c1] 98)).drew = W2 := ⟨_, rfl⟩
    have HB2 := Aside0.mk (show Below w1.heap.size w1 W2 from by rw [← hW2]; exact ((Below.refl w1.heap.size w1).alloc (Nat.le_refl _) _).drew)
    have HCC := Aside0.mk (concat_calls W2 w1.heap.size As A1 cs c1 S st (by rw [← hW2]; exact heap_alloc_new w1 _) (Kd.C_below (Kd.R_reads' HV.out.st).2.2 HB2.out) (Kd.C_below (Kd.R_reads' HST.out).2.2 HB2.out) HS.out)
    have HW2 := Aside0.mk hW2
    clear hW2
    go_wp2
    refine Fork.wp_fork (Fork.Lo.rel 0) [13] [] (.one 0 0 (.one 1 0 (.one 2 0 (.one 3 0 (.one 5 0 (.one 6 0 (.one 7 0 (.one 8 0 (.one 10 0 (.one 4 1 (.one 9 1 (.one 11 2 (.one 12 2 (.one 13 2 (.one 14 0 .nil))))))))))))))) (by kernel_rfl) (by kernel_rfl) ?_
    generalize hops : List.toArray (_ : List Oper) = ops
    have HO := Aside0.mk hops
    clear hops
    iterate 9 ((refine Fork.plain (Fork.at_ HO.out rfl) _ rfl (fun W => by go_simp; exact rfl) ?_); simp only [Act.put, List.setIfInBounds_toArray, List.set_cons_succ, List.set_cons_zero])
    refine Fork.reads (Fork.at_ HO.out rfl) _ rfl (fun W hW => Arr.ex_load1 rfl rfl (by kernel_rfl) (Fork.bel_cell hW (by assumption))) ?_
    simp only [Act.put, List.setIfInBounds_toArray, List.set_cons_succ, List.set_cons_zero]
    refine Fork.reads (Fork.at_ HO.out rfl) _ rfl (fun W hW => Arr.ex_load1 rfl rfl (by kernel_rfl) (Fork.bel_cell hW (by assumption))) ?_
    simp only [Act.put, List.setIfInBounds_toArray, List.set_cons_succ, List.set_cons_zero]
    refine Fork.step (Fork.at_ HO.out rfl) (fun K hK => ?_)
    go_simp
    refine hK _ _ (.of_new ((Below.refl _ _).alloc (Nat.le_refl _) _) (Nat.zero_le _)) ?_
    clear hK K
    try simp only [Act.put, List.setIfInBounds_toArray, List.set_cons_succ, List.set_cons_zero]
    refine Fork.step (Fork.at_ HO.out rfl) (fun K hK => ?_)
    go_simp
    rw [HW2.out]
    (with_reducible refine HCC.out.mono ?_)
    rintro er w3 ⟨v3, rfl, hr3, hb3⟩
    refine hK _ _ (.of_new (by rw [HW2.out]; exact hb3) (Nat.zero_le _)) ?_
    clear hK K
    have HR3 := Aside0.mk (Kd.R_lower hr3 (Nat.le_trans HN0.out (Nat.le_trans HTC.out.low.size HB2.out.size)))
    have HV3 := Aside0.mk (HV.out.fresh (HB2.out.trans (hb3.mono HB2.out.size)))
    have HB3 := Aside0.mk (HB2.out.trans (hb3.mono HB2.out.size))
    clear hr3 hb3
    try simp only [Act.put, List.setIfInBounds_toArray, List.set_cons_succ, List.set_cons_zero]
    refine Fork.step (Fork.at_ HO.out rfl) (fun K hK => ?_)
    go_simp
    (with_reducible refine (turn_calls e2 HSV.out hg HHD.out hs HL1.out HV3.out HR3.out).mono ?_)
    rintro er w4 ⟨ht4, vc4, hq1, hq2⟩
    have HT4 := Aside0.mk (HTC.out.trans ((TC.of_below HB3.out (Nat.le_trans HN0.out HTC.out.low.size)).trans ht4))
    have HL4 := Aside0.mk (show Fork.Lo 0 w3 w4 from Fork.Lo.zero ht4.low.os ht4.low.tape ht4.low.output)
    have HQ4 := Aside0.mk (And.intro hq1 hq2)
    clear hq1 hq2 ht4
    obtain ⟨x4, rfl⟩ : ∃ x4, er = .returned (.int .i64 x4) := ret_code HQ4.out.1 HQ4.out.2
    refine hK _ _ (Fork.Grow.of_old HL4.out rfl) ?_
    clear hK K
    try simp only [Act.put, List.setIfInBounds_toArray, List.set_cons_succ, List.set_cons_zero]
    ((refine Fork.plain (Fork.at_ HO.out rfl) _ rfl (fun W => by go_simp; exact rfl) ?_); simp only [Act.put, List.setIfInBounds_toArray, List.set_cons_succ, List.set_cons_zero])
    refine Fork.done ?_
    go_wp2
    go_ret
    refine ⟨HT4.out, vc4, if e2 = 0 then v3 else .slice As S.length cs, fun h => absurd rfl h, fun h => absurd rfl h, fun _ h2 => ?_, fun _ h2 => ?_⟩
    · rw [if_pos h2]
      exact HQ4.out.1 h2
    · rw [if_neg h2]
      exact HQ4.out.2 h2
  · have he' : (e != 0) = true := by simp; exact he
    by_cases he2 : e = 2 ∨ e = 51
    · have HE := Aside0.mk (fun w => wend_same (w := w) (Wb := Wb) e he2)
      go_enter Tryz.func15, Tryz.ntmps15
      go_wp2_with (first
        | (go_at_call 54; (with_reducible refine HK.out.mono ?_); rintro e w' ⟨rfl, rfl⟩)
        | (go_at_call 55; (with_reducible refine HLY.out.mono ?_); rintro er w1 ⟨A1, c1, vc1, rfl, hst, hv, htc⟩; have HV := Aside0.mk hv; have HTC := Aside0.mk htc; clear hst hv htc)
        | (go_at_call 56; (with_reducible refine (HE.out w1).mono ?_); rintro er w' ⟨rfl, rfl⟩))
      go_ret
      exact ⟨HTC.out, vc1, .slice As S.length cs, fun _ _ => ⟨rfl, HV.out⟩, fun _ h => absurd he2 (by omega), fun h => absurd h he, fun h => absurd h he⟩
    · have HE := Aside0.mk (fun w (h : WlC w Wb B gen head tail (.slice As S.length cs) true false) => wend_over e (by omega) h)
      go_enter Tryz.func15, Tryz.ntmps15
      go_wp2_with (first
        | (go_at_call 54; (with_reducible refine HK.out.mono ?_); rintro e w' ⟨rfl, rfl⟩)
        | (go_at_call 55; (with_reducible refine HLY.out.mono ?_); rintro er w1 ⟨A1, c1, vc1, rfl, hst, hv, htc⟩; have HV := Aside0.mk hv; have HTC := Aside0.mk htc; clear hst hv htc)
        | (go_at_call 56; (with_reducible refine (HE.out w1 HV.out.blk).mono ?_); rintro er w' ⟨rfl, rfl⟩))
      go_ret
      exact ⟨HTC.out.trans ((HV.out.tcW 6 _).mono fun _ _ h => .inr h), vc1, .slice As S.length cs, fun _ h => absurd h he2, fun _ _ => ⟨rfl, HV.out.overed⟩, fun h => absurd h he, fun h => absurd h he⟩
end
end Go.Proofs.YtlepcmljmibdnaaGreat
namespace Go.Proofs.YtlepcmljmibdnaaGreat
open Go.RowKit Go.Proofs.YtlepcmljmibdnaaGreatW.PrintWords Go.Proofs.YtlepcmljmibdnaaGreatW.PrintLast Go.Proofs.YtlepcmljmibdnaaGreatW.PrintMore PWalOpens
set_option linter.unusedVariables false
set_option linter.unusedSimpArgs false
section
variable {n0 : Nat} {w w' : World} {Wb B M Bd : Nat} {vc vs v1 : Value} {D D1 D2 : PD} {gen head tail : Int} {S : List Int} {over : Bool} {x e : Int}
def CutQ (n0 : Nat) (w : World) (Wb B M Bd : Nat) (D1 : PD) (gen head tail x : Int) (S : List Int) (n : Nat) (e : Int) (r : Ending) (w' : World) : Prop :=
  TC n0 (isWD M Bd) w w' ∧ ∃ vc' vs', (e = 0 → r = .returned (.int .i64 0) ∧ WV n0 w' Wb B M Bd vc' vs' D1 (gen + 1) x tail (S.drop n) false) ∧ (e ≠ 0 → r = .returned (.int .i64 50) ∧ WV n0 w' Wb B M Bd vc' vs' D1 gen head tail S true)
end
end Go.Proofs.YtlepcmljmibdnaaGreat
namespace Go.Proofs.YtlepcmljmibdnaaGreat
open Go.RowKit Go.Proofs.YtlepcmljmibdnaaGreatW.PrintWords Go.Proofs.YtlepcmljmibdnaaGreatW.PrintLast Go.Proofs.YtlepcmljmibdnaaGreatW.PrintMore PWalOpens
set_option linter.unusedVariables false
set_option linter.unusedSimpArgs false
theorem winv_start {n r : Int} (hm : min (max n 0) 4096 = r + 2) (hr : 1 ≤ r) : ∃ D1 S1, wformatP (newP n) = (D1, 0) ∧ WInv D1 S1 r 0 0 0 [] := by
  have r0 := rdy_new n
  rw [hm] at r0
  have hz : ∀ x ∈ [(0 : Int), 0], 0 ≤ x ∧ x < 18446744073709551616 := by intro x hx; simp at hx; omega
  obtain ⟨f1, f2, f3⟩ := r0.format (by omega) [0, 0] (by simp)
  have hring : ringP (newP n) = r := by unfold ringP; rw [r0.n]; omega
  refine ⟨_, _, ?_, f2, hr, f3, (OKD.new n).format [0, 0] hz, ?_, ?_, by omega, rfl, by omega, by omega, fun b hb => by cases hb⟩
  · unfold wformatP
    rw [hring, if_neg (by omega)]
    exact Prod.ext rfl f1
  · show unP (updS _ 0 (pad (slotB 0 [0, 0])) 0) = _
    unfold updS
    rw [if_pos rfl]
    exact unP_pad 0 [0, 0] (by omega) (by simp) hz
  · left
    show (unP (updS (updS (updS (fun _ => zsec) 0 zsec) 1 zsec) 0 (pad (slotB 0 [0, 0])) 1)).2.2 ≠ 0
    unfold updS
    rw [if_neg (by decide), if_pos rfl, unP_zsec]
    decide
/-- two texts, laid as a literal lays them -/
theorem box_cellm {w : World} {b : Nat} {v : Value} {t : Nat} {m : Nat × Nat} (h : w.heap[b]? = some (.cells #[v] t m)) : w.cell? ⟨b, 0, none⟩ = some v := by
  unfold World.cell?
  simp [h]
section
variable {n0 : Nat} {w w' : World} {B M Bd : Nat} {vc : Value} {D : PD}
/-- Open went well -/
theorem op_ok {res : Int × Int × Int × List Int × List (List Int) × Int} {e : Ending} (h : OpQ w B M Bd vc D res e w') (h0 : opErr res = 0) (hn : n0 ≤ w.heap.size) (hd : DK w n0 B M Bd vc D) :
    ∃ Wb vs vo, e = .returned (.tuple #[.pointer (some ⟨Wb, 0, none⟩), vo, .int .i64 0]) ∧ WV n0 w' Wb B M Bd vc vs D res.1 res.2.1 res.2.2.1 res.2.2.2.1 false ∧ Below w.heap.size w w' ∧ Kd.R bytesK 58 w' w.heap.size (fun _ => True) vo res.2.2.2.2.1 := by
  rcases h with ⟨h1, _⟩ | ⟨_, Wb, vs, vo, rfl, hS⟩
  · exact absurd h0 h1
  · exact ⟨Wb, vs, vo, rfl, ⟨hS.blk, Nat.le_trans hn hS.hW, hd.chg (.of_below hS.low), Kd.R_lower hS.st hn⟩, hS.low, hS.out⟩
end
end Go.Proofs.YtlepcmljmibdnaaGreat
namespace Go.Proofs.YtlepcmljmibdnaaGreat
open Go.RowKit Go.Proofs.YtlepcmljmibdnaaGreatW.PrintWords Go.Proofs.YtlepcmljmibdnaaGreatW.PrintLast Go.Proofs.YtlepcmljmibdnaaGreatW.PrintMore PWalOpens
set_option linter.unusedVariables false
set_option linter.unusedSimpArgs false
end Go.Proofs.YtlepcmljmibdnaaGreat
namespace Go.Proofs.YtlepcmljmibdnaaGreat
open Go.RowKit Go.Proofs.YtlepcmljmibdnaaGreatW.PrintWords Go.Proofs.YtlepcmljmibdnaaGreatW.PrintLast Go.Proofs.YtlepcmljmibdnaaGreatW.PrintMore PWalOpens
set_option linter.unusedVariables false
set_option linter.unusedSimpArgs false
def rringX (X : RX) : Int := max ((X.S.length : Int) - 2) 0
def rwformatX (X : RX) : RX × Int := if rringX X < 1 then (X, 51) else rformatX X [0, 0]
section
variable {w : World} {base R : Nat} {vS vC vB : Value} {X X1 : RX} {e : Int}
end
end Go.Proofs.YtlepcmljmibdnaaGreat
namespace Go.Proofs.YtlepcmljmibdnaaGreat
open Go.RowKit Go.Proofs.YtlepcmljmibdnaaGreatW.PrintWords Go.Proofs.YtlepcmljmibdnaaGreatW.PrintLast Go.Proofs.YtlepcmljmibdnaaGreatW.PrintMore PWalOpens
set_option linter.unusedVariables false
set_option linter.unusedSimpArgs false
def UrQ (w : World) (b : List Int) (e : Ending) (w' : World) : Prop :=
  ∃ A' c', e = .returned (.tuple #[.slice A' (unF b).1.length c', .int .i64 (unF b).2.1, .int .i64 (unF b).2.2]) ∧ (Kd.int .u8).C w' A' (unF b).1.length (unF b).1 ∧ Below w.heap.size w w'
end Go.Proofs.YtlepcmljmibdnaaGreat
namespace Go.Proofs.YtlepcmljmibdnaaGreat
open Go.RowKit Go.Proofs.YtlepcmljmibdnaaGreatW.PrintWords Go.Proofs.YtlepcmljmibdnaaGreatW.PrintLast Go.Proofs.YtlepcmljmibdnaaGreatW.PrintMore PWalOpens
set_option linter.unusedVariables false
set_option linter.unusedSimpArgs false
def recK : Kd (List Int × Int × Int) := Kd.pair bytesK (Kd.pair (Kd.int .u64) (Kd.int .u64))
abbrev Rec := List Int × Int × Int
/-- the reference's loop: k sectors to go from p on; the record under way began at fr -/
def ropenGo (X : RX) (r : Int) : Nat → Int → Int → List Int → List Rec → List Rec × Int
  | 0, _, _, all, L => if 0 < all.length then ([], 70) else (L, 0)
  | k + 1, p, fr, all, L =>
    if (rreadX X (sectP r p)).2 ≠ 0 then ([], (rreadX X (sectP r p)).2) else
      if (unF (all ++ (rreadX X (sectP r p)).1)).2.2 = 0 then ropenGo X r k (p + 1) (p + 1) [] (L ++ [((unF (all ++ (rreadX X (sectP r p)).1)).1, fr, p + 1)])
      else ropenGo X r k (p + 1) fr (all ++ (rreadX X (sectP r p)).1) L
def ropenX (X : RX) : Int × Int × List Rec × Int :=
  if (rloadX X).2.2 ≠ 0 then (0, 0, [], (rloadX X).2.2) else
    match (rloadX X).2.1 with
    | [h, t] => if t < h ∨ rringX X < t - h then (0, 0, [], 70) else
        ((rloadX X).1, t, (ropenGo X (rringX X) (t - h).toNat h h [] []).1, (ropenGo X (rringX X) (t - h).toNat h h [] []).2)
    | _ => (0, 0, [], 70)
/-- a wal of the reference's, new, seen from w; va: a row that is not among the records' -/
structure RwS (w w' : World) (Rb R : Nat) (va vL : Value) (gen tail : Int) (L : List Rec) : Prop where
  blk : w'.heap[Rb]? = some (.cells #[.pointer (some ⟨R, 0, none⟩), .int .u64 gen, .int .u64 tail, vL, .bool false] 55 (0, 0))
  hW : w.heap.size ≤ Rb
  low : Below w.heap.size w w'
  L : Kd.R recK 112 w' w.heap.size (fun k => some k ≠ va.ownBlock) vL L
def OwQ (w : World) (R : Nat) (res : Int × Int × List Rec × Int) (e : Ending) (w' : World) : Prop :=
  (res.2.2.2 ≠ 0 ∧ e = .returned (.tuple #[.pointer none, .int .i64 res.2.2.2]) ∧ Below w.heap.size w w') ∨
  (res.2.2.2 = 0 ∧ ∃ Rb vL, e = .returned (.tuple #[.pointer (some ⟨Rb, 0, none⟩), .int .i64 0]) ∧ RwS w w' Rb R (.slice none 0 0) vL res.1 res.2.1 res.2.2.1)
/-- what a disk's readings are -/
structure RdX (X : RX) : Prop where
  bytes : ∀ a, isBytes (rreadX X a).1
  full : ∀ a, (rreadX X a).2 = 0 → (rreadX X a).1.length = 64
  most : ∀ a, (rreadX X a).1.length ≤ 64
  cache : X.cache.length ≤ 40000
section
variable {w : World} {base R : Nat} {vS vC vB : Value} {X : RX}
end
end Go.Proofs.YtlepcmljmibdnaaGreat
namespace Go.Proofs.YtlepcmljmibdnaaGreat
open Go.RowKit Go.Proofs.YtlepcmljmibdnaaGreatW.PrintWords Go.Proofs.YtlepcmljmibdnaaGreatW.PrintLast Go.Proofs.YtlepcmljmibdnaaGreatW.PrintMore PWalOpens
set_option linter.unusedVariables false
set_option linter.unusedSimpArgs false
section
variable {w w' w2 : World} {Rb R : Nat} {va va' vL v1 : Value} {gen tail : Int} {L L' : List Rec} {all : List Int}
end
/-- what the loop keeps -/
structure OwI (w w' : World) (Rb R g4 c1 : Nat) (va vL : Value) (gen tail hh : Int) (all : List Int) (L : List Rec) : Prop where
  s : RwS w w' Rb R va vL gen tail L
  all : Kd.R (Kd.int .u8) 5 w' w.heap.size (fun _ => True) va all
  two : Kd.R (Kd.int .u64) 52 w' w.heap.size (fun _ => True) (.slice (some ⟨g4, 0, none⟩) 2 c1) [hh, tail]
section
variable {w w' w2 : World} {Rb R g4 c1 : Nat} {va va' vL v1 : Value} {gen tail hh : Int} {L L' : List Rec} {all all' : List Int}
end
section
variable {w : World} {base R : Nat} {vS vC vB : Value} {X : RX}
end
end Go.Proofs.YtlepcmljmibdnaaGreat
namespace Go.Proofs.YtlepcmljmibdnaaGreat
open Go.RowKit Go.Proofs.YtlepcmljmibdnaaGreatW.PrintWords Go.Proofs.YtlepcmljmibdnaaGreatW.PrintLast Go.Proofs.YtlepcmljmibdnaaGreatW.PrintMore PWalOpens
set_option linter.unusedVariables false
set_option linter.unusedSimpArgs false
def isRW (k : Nat) (o : Obj) : Prop := isRef k o ∨ isT 55 k o
/-- a wal of the reference's; vo: a row that is not among its records' -/
structure RV (n0 : Nat) (w : World) (Rb R : Nat) (vS vC vB vo vL : Value) (X : RX) (gen tail : Int) (L : List Rec) (over : Bool) : Prop where
  blk : w.heap[Rb]? = some (.cells #[.pointer (some ⟨R, 0, none⟩), .int .u64 gen, .int .u64 tail, vL, .bool over] 55 (0, 0))
  hW : n0 ≤ Rb
  rk : RK w n0 R vS vC vB X
  L : Kd.Q recK 112 w n0 (fun k => some k ≠ vo.ownBlock) vL L
def headX (L : List Rec) (tail : Int) : Int := match L with
  | [] => tail
  | x :: _ => x.2.1
section
variable {n0 : Nat} {w w' : World} {Rb R : Nat} {vS vC vB vo vL v1 : Value} {X X1 : RX} {gen tail : Int} {L L1 : List Rec} {over : Bool}
/-- what turn does: 0, or over -/
def RtQ (n0 : Nat) (w : World) (Rb R : Nat) (vS vB vL v1 : Value) (X1 : RX) (gen tail t1 : Int) (L L1 : List Rec) (over : Bool) (e : Int) (r : Ending) (w' : World) : Prop :=
  TC n0 isRW w w' ∧ ∃ vC', (e = 0 → r = .returned (.int .i64 0) ∧ RV n0 w' Rb R vS vC' vB (.slice none 0 0) v1 X1 (gen + 1) t1 L1 over) ∧ (e ≠ 0 → r = .returned (.int .i64 50) ∧ RV n0 w' Rb R vS vC' vB (.slice none 0 0) vL X1 gen tail L true)
end
end Go.Proofs.YtlepcmljmibdnaaGreat
namespace Go.Proofs.YtlepcmljmibdnaaGreat
open Go.RowKit Go.Proofs.YtlepcmljmibdnaaGreatW.PrintWords Go.Proofs.YtlepcmljmibdnaaGreatW.PrintLast Go.Proofs.YtlepcmljmibdnaaGreatW.PrintMore PWalOpens
set_option linter.unusedVariables false
set_option linter.unusedSimpArgs false
def rlayC (r : Int) : List (List Int) → RX → Int → RX × Int × Int
  | [], X, s => (X, s, 0)
  | c :: cs, X, s => if (rwriteX X (sectP r s) c).2 ≠ 0 then ((rwriteX X (sectP r s) c).1, s, 50) else rlayC r cs (rwriteX X (sectP r s) c).1 (s + 1)
def rlayR (r : Int) : List (List Int) → RX → Int → List Rec → RX × List Rec × Int × Int
  | [], X, s, out => (X, out, s, 0)
  | b :: bs, X, s, out => if (rlayC r (chs (frameX b)) X s).2.2 ≠ 0 then ((rlayC r (chs (frameX b)) X s).1, [], 0, 50) else rlayR r bs (rlayC r (chs (frameX b)) X s).1 (rlayC r (chs (frameX b)) X s).2.1 (out ++ [(b, s, (rlayC r (chs (frameX b)) X s).2.1)])
/-- texts that lie still while what is T goes on -/
def Txts (n0 : Nat) (T : Nat → Obj → Prop) (w : World) (A : Option Addr) (R : List (List Int)) : Prop :=
  ∀ i, i < R.length → ∃ ad A0 c0, A = some ad ∧ ∀ W, TC n0 T w W → W.cell? (ad.add i) = some (.slice A0 (R.getD i []).length c0) ∧ (R.getD i []).length ≤ c0 ∧ (Kd.int .u8).C W A0 (R.getD i []).length (R.getD i [])
section
variable {n0 : Nat} {w w' w2 : World} {Rb R : Nat} {vS vC vB vo vo' vL v1 : Value} {X X1 : RX} {gen tail : Int} {L L1 oL : List Rec} {over : Bool}
def PutQ (n0 : Nat) (w : World) (Rb R : Nat) (vS vB : Value) (X X1 X2 : RX) (gen tail p : Int) (L out : List Rec) (e e2 : Int) (r : Ending) (w' : World) : Prop :=
  TC n0 isRW w w' ∧ ∃ vC' vL',
    (e = 51 → r = .returned (.int .i64 51) ∧ RV n0 w' Rb R vS vC' vB (.slice none 0 0) vL' X gen tail L false) ∧
    (e = 50 → r = .returned (.int .i64 50) ∧ RV n0 w' Rb R vS vC' vB (.slice none 0 0) vL' X1 gen tail L true) ∧
    (e = 0 → e2 = 0 → r = .returned (.int .i64 0) ∧ RV n0 w' Rb R vS vC' vB (.slice none 0 0) vL' X2 (gen + 1) p out false) ∧
    (e = 0 → e2 ≠ 0 → r = .returned (.int .i64 50) ∧ RV n0 w' Rb R vS vC' vB (.slice none 0 0) vL' X2 gen tail L true)
end
end Go.Proofs.YtlepcmljmibdnaaGreat
