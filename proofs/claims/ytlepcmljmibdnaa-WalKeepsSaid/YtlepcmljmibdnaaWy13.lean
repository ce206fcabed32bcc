/- Parts of one proof, joined: Aq, Sw, Sk, St, Wk, Wm. Conditions: those of each statement. -/
import Derived.Test.YtlepcmljmibdnaaWy12
import Derived.Lib.SmallJoins
import Derived.Lib.SlBytesConst
import Derived.Test.YtlepcmljmibdnaaWy9
import Derived.Test.YtlepcmljmibdnaaWy11
namespace Go.Proofs.Ytlepcmljmibdnaa
open Go.RowKit Go.Proofs.YtlepcmljmibdnaaW.PrintWords Go.Proofs.YtlepcmljmibdnaaW.PrintLast Go.Proofs.YtlepcmljmibdnaaW.PrintMore PWalOpens
set_option linter.unusedVariables false
set_option linter.unusedSimpArgs false
theorem winv_start {n r : Int} (hm : min (max n 0) 4096 = r + 2) (hr : 1 ≤ r) : ∃ D1 S1, wformatP (newP n) = (D1, 0) ∧ WInv D1 S1 r 0 0 0 [] := by
  have r0 := rdy_new n
  rw [hm] at r0
  have hz : ∀ x ∈ [(0 : Int), 0], 0 ≤ x ∧ x < 18446744073709551616 := by intro x hx; simp at hx; omega
  obtain ⟨f1, f2, f3⟩ := r0.format (by omega) [0, 0] (by simp)
  have hring : ringP (newP n) = r := by unfold ringP; rw [r0.n]; omega
  refine ⟨_, _, ?_, f2, hr, f3, (OKD.new n).format [0, 0] hz, ?_, ?_, by omega, rfl, by omega, by omega, fun b hb => by cases hb⟩
  · unfold wformatP
    rw [hring, if_neg (by omega)]
    exact Prod.ext rfl f1
  · show unP (updS _ 0 (pad (slotB 0 [0, 0])) 0) = _
    unfold updS
    rw [if_pos rfl]
    exact unP_pad 0 [0, 0] (by omega) (by simp) hz
  · left
    show (unP (updS (updS (updS (fun _ => zsec) 0 zsec) 1 zsec) 0 (pad (slotB 0 [0, 0])) 1)).2.2 ≠ 0
    unfold updS
    rw [if_neg (by decide), if_pos rfl, unP_zsec]
    decide
theorem recs_ab : RecsOK [[97], [98]] := ⟨by decide, fun b hb => by
  simp only [List.mem_cons, List.not_mem_nil, or_false] at hb
  rcases hb with rfl | rfl
  · exact ⟨fun x hx => by simp at hx; omega, by decide⟩
  · exact ⟨fun x hx => by simp at hx; omega, by decide⟩⟩
/-- two texts, laid as a literal lays them -/
theorem box_cellm {w : World} {b : Nat} {v : Value} {t : Nat} {m : Nat × Nat} (h : w.heap[b]? = some (.cells #[v] t m)) : w.cell? ⟨b, 0, none⟩ = some v := by
  unfold World.cell?
  simp [h]
theorem two_texts {n0 : Nat} {w W : World} {b : Nat} {x y : Int} {m0 m1 : Nat × Nat} (hc : TC n0 isWD w W) (h0 : w.heap[b]? = some (.cells #[.int .u8 x] 5 m0)) (h1 : w.heap[b + 1]? = some (.cells #[.int .u8 y] 5 m1))
    (h2 : w.heap[b + 2]? = some (.cells #[.slice (some ⟨b, 0, none⟩) 1 1, .slice (some ⟨b + 1, 0, none⟩) 1 1] 29 (0, 0))) : bytesK.C W (some ⟨b + 2, 0, none⟩) 2 [[x], [y]] := by
  have hn5 : ∀ cs m, ¬ isWD (.cells cs 5 m) := fun cs m h => by simp [isWD, isDisk, isT] at h
  have hn29 : ∀ cs, ¬ isWD (.cells cs 29 (0, 0)) := fun cs h => by simp [isWD, isDisk, isT] at h
  have g0 := hc.blk _ _ h0 (hn5 _ _)
  have g1 := hc.blk _ _ h1 (hn5 _ _)
  have g2 := hc.blk _ _ h2 (hn29 _)
  have one : ∀ (k : Nat) (z : Int) (m : Nat × Nat), W.heap[k]? = some (.cells #[.int .u8 z] 5 m) → (Kd.int .u8).C W (some ⟨k, 0, none⟩) 1 [z] := fun k z m hk => ⟨rfl, by decide, fun _ => ⟨_, rfl, fun j p hj => by
    have hj0 : j = 0 := by have := (List.getElem?_eq_some_iff.1 hj).1; simp at this; omega
    subst hj0
    simp at hj
    subst hj
    refine ⟨[.int .u8 z], rfl, rfl, fun i u hu => ?_⟩
    have hi0 : i = 0 := by have := (List.getElem?_eq_some_iff.1 hu).1; simp at this; omega
    subst hi0
    simp at hu
    subst hu
    exact box_cellm hk⟩⟩
  obtain ⟨c0, c1, _⟩ := cells2 g2
  refine ⟨rfl, by decide, fun _ => ⟨_, rfl, fun j p hj => ?_⟩⟩
  have hj2 : j < 2 := (List.getElem?_eq_some_iff.1 hj).1
  have hi : ∀ (v : Value) (i : Nat) (u : Value), [v][i]? = some u → i = 0 ∧ u = v := fun v i u hu => by
    have hi0 : i = 0 := by have := (List.getElem?_eq_some_iff.1 hu).1; simp at this; omega
    subst hi0
    simp at hu
    exact ⟨rfl, hu.symm⟩
  rcases (show j = 0 ∨ j = 1 by omega) with rfl | rfl
  · simp at hj
    subst hj
    refine ⟨[.slice (some ⟨b, 0, none⟩) 1 1], rfl, ⟨_, 1, rfl, Nat.le_refl _, one b x _ g0⟩, fun i u hu => ?_⟩
    obtain ⟨rfl, rfl⟩ := hi _ i u hu
    exact c0
  · simp at hj
    subst hj
    refine ⟨[.slice (some ⟨b + 1, 0, none⟩) 1 1], rfl, ⟨_, 1, rfl, Nat.le_refl _, one (b + 1) y _ g1⟩, fun i u hu => ?_⟩
    obtain ⟨rfl, rfl⟩ := hi _ i u hu
    exact c1
section
variable {n0 : Nat} {w w' : World} {B M Bd : Nat} {vc : Value} {D : PD}
/-- Open went well -/
theorem op_ok {res : Int × Int × Int × List Int × List (List Int) × Int} {e : Ending} (h : OpQ w B M Bd vc D res e w') (h0 : opErr res = 0) (hn : n0 ≤ w.heap.size) (hd : DK w n0 B M Bd vc D) :
    ∃ Wb vs vo, e = .returned (.tuple #[.pointer (some ⟨Wb, 0, none⟩), vo, .int .i64 0]) ∧ WV n0 w' Wb B M Bd vc vs D res.1 res.2.1 res.2.2.1 res.2.2.2.1 false ∧ Below w.heap.size w w' ∧ Kd.R bytesK 29 w' w.heap.size (fun _ => True) vo res.2.2.2.2.1 := by
  rcases h with ⟨h1, _⟩ | ⟨_, Wb, vs, vo, rfl, hS⟩
  · exact absurd h0 h1
  · exact ⟨Wb, vs, vo, rfl, ⟨hS.blk, Nat.le_trans hn hS.hW, hd.chg (.of_below hS.low), Kd.R_lower hS.st hn⟩, hS.low, hS.out⟩
theorem at_base {w0 : World} (h : At w0 (fun _ => False) w B M Bd vc D) : DK w w0.heap.size B M Bd vc D :=
  h.dk.raise fun k hk => by
    by_cases hl : k < w0.heap.size
    · exact (h.fp k hl hk).elim
    · omega
end
/-- the literal's world -/
theorem lit_ab (w : World) : ∃ W, ((((w.alloc (.cells #[.int .u8 97] 5 (1, 2))).alloc (.cells #[.int .u8 98] 5 (1, 2))).alloc (.cells #[.slice (some ⟨w.heap.size, 0, none⟩) 1 1, .slice (some ⟨w.heap.size + 1, 0, none⟩) 1 1] 29)) = W) ∧ Below w.heap.size w W ∧
    W.heap[w.heap.size]? = some (.cells #[.int .u8 97] 5 (1, 2)) ∧ W.heap[w.heap.size + 1]? = some (.cells #[.int .u8 98] 5 (1, 2)) ∧ W.heap[w.heap.size + 2]? = some (.cells #[.slice (some ⟨w.heap.size, 0, none⟩) 1 1, .slice (some ⟨w.heap.size + 1, 0, none⟩) 1 1] 29 (0, 0)) := by
  refine ⟨_, rfl, (((Below.refl w.heap.size w).alloc (Nat.le_refl _) _).alloc (by simp) _).alloc (by simp <;> omega) _, ?_, ?_, ?_⟩
  · rw [Below.heap_alloc _ _ _ (by simp <;> omega), Below.heap_alloc _ _ _ (by simp)]
    exact heap_alloc_new w _
  · rw [Below.heap_alloc _ _ _ (by simp)]
    have := heap_alloc_new (w.alloc (.cells #[.int .u8 97] 5 (1, 2))) (.cells #[.int .u8 98] 5 (1, 2))
    rwa [World.size_alloc] at this
  · have := heap_alloc_new ((w.alloc (.cells #[.int .u8 97] 5 (1, 2))).alloc (.cells #[.int .u8 98] 5 (1, 2))) (.cells #[.slice (some ⟨w.heap.size, 0, none⟩) 1 1, .slice (some ⟨w.heap.size + 1, 0, none⟩) 1 1] 29)
    rwa [World.size_alloc, World.size_alloc] at this
theorem one_text {w : World} {base : Nat} {v : Value} {b : List Int} (h : Kd.R bytesK 29 w base (fun _ => True) v [b]) : ∃ ad A0 c c0, v = .slice (some ad) 1 c ∧ w.cell? ad = some (.slice A0 b.length c0) ∧ (convert 29 9 (.slice A0 b.length c0)).run Try.prog w = .ok (.string (strOfNums b)) w := by
  obtain ⟨ad, c, rfl⟩ := Kd.R_slice1 h (by simp)
  obtain ⟨_, _, hC⟩ := Kd.R_reads' h
  obtain ⟨ad', A0, c0, e, h1, h2, h3⟩ := texts_at hC 0 (by simp)
  cases e
  exact ⟨ad, A0, c, c0, rfl, h1, Kd.C_string Try.underlying29 Try.underlying5 Try.underlying9 h3⟩
theorem str98 : strOfNums [98] = { data := #[98] } := by decide
set_option maxRecDepth 100000 in
theorem awake7_calls (w : World) : Calls Try.prog 47 #[] w fun e w' => e = .returned (.bool true) ∧ Below w.heap.size w w' := by
  obtain ⟨D1, S1, hf, i1⟩ := winv_start (n := 8) (r := 6) (by decide) (by decide)
  have hn : needs [[97], [98]] = 2 := by decide
  obtain ⟨Da, D2, S2, ha, hac, hs2, i2⟩ := i1.add recs_ab (by rw [hn]; decide) (by rw [hn]; decide) (by decide)
  rw [hn] at ha hs2 i2
  obtain ⟨D3, S3, hs3, i3⟩ := i2.cut (k := 1) (x := 1) (by decide) (by decide) (by decide) (by decide)
  have HF := Aside0.mk hf
  have HO1 := Aside0.mk i1.open_
  have HO3 := Aside0.mk i3.open_
  have HI1 := Aside0.mk i1
  have HI2 := Aside0.mk i2
  have HI3 := Aside0.mk i3
  have HA := Aside0.mk ha
  have HAC := Aside0.mk hac
  have HS2 := Aside0.mk hs2
  have HS3 := Aside0.mk hs3
  have HC0 := Aside0.mk (show (newP 8).cache.length ≤ 800 by decide)
  have HC1 := Aside0.mk (show D1.cache.length ≤ 850 by rw [i1.cache]; decide)
  have HC2 := Aside0.mk (show D2.cache.length ≤ 900 by rw [i2.cache]; decide)
  have HC3 := Aside0.mk (show D3.cache.length ≤ 1000 by rw [i3.cache]; decide)
  clear hf i1 i2 i3 ha hac hs2 hs3 hn
  have hcv := fun (w : World) (C : Array Value) (n c : Nat) => Lib.run_convert_bytes_const (P := Try.prog) w 29 5 C n c Try.underlying29 Try.underlying5
  have hcv2 := fun (w : World) (o : Obj) (C : Array Value) (n c : Nat) => (by have h := Lib.run_convert_bytes_const (P := Try.prog) (w.alloc o) 29 5 C n c Try.underlying29 Try.underlying5; rw [World.size_alloc] at h; exact h : (convert 29 29 (.slice (some ⟨w.heap.size + 1, 0, none⟩) n c)).run Try.prog ((w.alloc o).alloc (.cells C 5)) = .ok (.slice (some ⟨w.heap.size + 1, 0, none⟩) n c) ((w.alloc o).alloc (.cells C 5 (C.size, C.size + 1)))) --.underlying29 Try.underlying5
  go_enter Try.func47, Try.ntmps47
  go_wp2_with (first
    | (go_at_call 15; (with_reducible refine (new_at w w 8 (Below.refl _ _)).mono ?_); rintro e w1 ⟨B, M, Bd, rfl, hd⟩; have HD1 := Aside0.mk hd; clear hd)
    | (go_at_call 49; (with_reducible refine (at_wformat 0 HF.out HC0.out HD1.out).mono ?_); rintro e w2 ⟨rfl, vc2, hd⟩; have HD2 := Aside0.mk hd; clear hd)
    | (go_at_call 51; (with_reducible refine (open_calls HO1.out HI1.out.ok (Nat.le_trans HC1.out (by decide)) HD2.out.dk).mono ?_); rintro e w3 hq; obtain ⟨Wb, vs, vo, rfl, hv, hb, hr⟩ := op_ok (n0 := w.heap.size) hq rfl HD2.out.below.size (at_base HD2.out); have HV3 := Aside0.mk hv; have HB3 := Aside0.mk (HD2.out.below.trans (hb.mono HD2.out.below.size)); clear hq hv hb hr))
  obtain ⟨W3, hW3, hb3, k0, k1, k2⟩ := lit_ab w3
  rw [hW3]
  have HT3 := Aside0.mk (fun (W : World) (hc : TC w.heap.size isWD W3 W) => two_texts hc k0 k1 k2)
  have HV3' := Aside0.mk (HV3.out.fresh hb3)
  have HB3' := Aside0.mk (HB3.out.trans (hb3.mono HB3.out.size))
  have HADD := Aside0.mk (show Calls Try.prog 53 #[.pointer (some ⟨Wb, 0, none⟩), .slice (some ⟨w3.heap.size + 1 + 1, 0, none⟩) 2 2] W3 (AddQ w.heap.size W3 Wb B M Bd Da D2 0 0 0 (startsP 0 []) (startsP 0 [[97], [98]]) (0 + 2) 0 0) from
    add_calls (R := [[97], [98]]) (A := some ⟨w3.heap.size + 1 + 1, 0, none⟩) (c := 2) HI1.out.ring recs_ab rfl HA.out HS2.out (by decide) (by decide) (by decide) HC1.out (Nat.le_trans HAC.out (by decide)) (by decide) HV3'.out HT3.out)
  clear hb3 k0 k1 k2
  (with_reducible refine HADD.out.mono ?_)
  rintro er w4 ⟨ht4, vc4, vs4, _, _, hq, _⟩
  obtain ⟨rfl, hv4⟩ := hq rfl rfl
  have HT4 := Aside0.mk ht4
  have HV4 := Aside0.mk hv4
  have HCUT := Aside0.mk (show Calls Try.prog 60 #[.pointer (some ⟨Wb, 0, none⟩), .int .i64 1] w4 (CutQ w.heap.size w4 Wb B M Bd D3 (0 + 1) 0 (0 + 2) 1 (startsP 0 [] ++ startsP 0 [[97], [98]]) 1 0) from
    wcut_calls 1 (by decide) (by decide) (by decide) HS3.out (by decide) (by decide) (by decide) HC2.out HV4.out)
  clear ht4 hv4 hq
  go_wp2_with (first
    | (go_at_call 60; (with_reducible refine HCUT.out.mono ?_); rintro er w5 ⟨ht5, vc5, vs5, hq5, _⟩; obtain ⟨rfl, hv5⟩ := hq5 rfl; have HT5 := Aside0.mk ht5; have HV5 := Aside0.mk hv5; clear ht5 hv5 hq5)
    | (go_at_call 51; (with_reducible refine (open_calls HO3.out HI3.out.ok HC3.out HV5.out.dk).mono ?_); rintro er w6 hq6; obtain ⟨Wb6, vs6, vo6, rfl, hv6, hb6, hr6⟩ := op_ok (n0 := w.heap.size) hq6 rfl HV5.out.dk.base_le HV5.out.dk; have HB6 := Aside0.mk hb6; have HR6 := Aside0.mk (show Kd.R bytesK 29 w6 w5.heap.size (fun _ => True) vo6 [[98]] from hr6); clear hq6 hv6 hb6 hr6; obtain ⟨ad6, A0, c6, c0, hvo, hcc, hst6⟩ := one_text HR6.out; subst hvo; rw [str98] at hst6; have hst7 : (convert 29 9 (.slice A0 1 c0)).run Try.prog w6 = .ok (.string { data := #[98] }) w6 := hst6; clear hst6))
  go_ret
  have hb := HB3'.out.trans (HT4.out.low.trans HT5.out.low)
  exact ⟨rfl, hb.trans (HB6.out.mono hb.size)⟩
end Go.Proofs.Ytlepcmljmibdnaa
namespace Go.Proofs.Ytlepcmljmibdnaa
open Go.RowKit Go.Proofs.YtlepcmljmibdnaaW.PrintWords Go.Proofs.YtlepcmljmibdnaaW.PrintLast Go.Proofs.YtlepcmljmibdnaaW.PrintMore PWalOpens
set_option linter.unusedVariables false
set_option linter.unusedSimpArgs false
section
variable {n0 : Nat} {w w' : World} {Wb B M Bd : Nat} {vc vs v1 : Value} {D D1 D2 : PD} {gen head tail h1 t1 : Int} {S S1 st : List Int} {over : Bool} {s e e2 : Int}
def SwapQ (n0 : Nat) (w : World) (Wb B M Bd : Nat) (D1 D2 : PD) (gen head tail : Int) (S st : List Int) (s e e2 : Int) (r : Ending) (w' : World) : Prop :=
  TC n0 isWD w w' ∧ ∃ vc' vs',
    (e ≠ 0 → (e = 2 ∨ e = 51) → r = .returned (.int .i64 e) ∧ WV n0 w' Wb B M Bd vc' vs' D1 gen head tail S false) ∧
    (e ≠ 0 → (e ≠ 2 ∧ e ≠ 51) → r = .returned (.int .i64 50) ∧ WV n0 w' Wb B M Bd vc' vs' D1 gen head tail S true) ∧
    (e = 0 → e2 = 0 → r = .returned (.int .i64 0) ∧ WV n0 w' Wb B M Bd vc' vs' D2 (gen + 1) tail s st false) ∧
    (e = 0 → e2 ≠ 0 → r = .returned (.int .i64 50) ∧ WV n0 w' Wb B M Bd vc' vs' D2 gen head tail S true)
set_option maxHeartbeats 1000000 in
theorem swap_calls {A : Option Addr} {c : Nat} {R : List (List Int)} {r f : Int} (hr : ringP D = r) (hR : RecsOK R) (hf : r - (tail - head) = f) (hres : layP D r f tail R = (D1, st, s, e)) (hsv : saveP D1 (gen + 1) [tail, s] = (D2, e2))
    (ht : 0 ≤ head ∧ head ≤ tail ∧ tail < 18446744073709551000 ∧ tail - head ≤ 4094) (hg : 0 ≤ gen ∧ gen < 18446744073709551615) (hs : 0 ≤ s ∧ s < 18446744073709551616) (hl : D.cache.length ≤ 850) (hl1 : D1.cache.length ≤ 900) (h : WV n0 w Wb B M Bd vc vs D gen head tail S false)
    (hT : ∀ W, TC n0 isWD w W → bytesK.C W A R.length R) :
    Calls Try.prog 59 #[.pointer (some ⟨Wb, 0, none⟩), .slice A R.length c] w (SwapQ n0 w Wb B M Bd D1 D2 gen head tail S st s e e2) := by
  have HK := Aside0.mk (wok_calls h.blk)
  have HLY := Aside0.mk (lay_wv (c := c) hr hR hf hres ht hl h hT)
  have HSV := Aside0.mk hsv
  have HL1 := Aside0.mk hl1
  have HTD := Aside0.mk (show 0 ≤ tail ∧ tail < 18446744073709551616 from by omega)
  have HN0 := Aside0.mk (show n0 ≤ w.heap.size from h.dk.base_le)
  obtain ⟨⟨q0, q1, q2, q3, q4, q5, q6⟩, _⟩ := cells7 h.blk
  simp only [Bool.not_false, Bool.and_self] at HK
  clear h hr hR hf hres hT hsv ht q0 q1 q2 q4 q5 q6
  by_cases he : e = 0
  · subst he
    go_enter Try.func59, Try.ntmps59
    go_wp2_with (first
      | (go_at_call 89; (with_reducible refine HK.out.mono ?_); rintro e w' ⟨rfl, rfl⟩)
      | (go_at_call 90; (with_reducible refine HLY.out.mono ?_); rintro e w1 ⟨A1, c1, vc1, rfl, hst, hv, htc⟩; have HST := Aside0.mk hst; have HV := Aside0.mk hv; have HTC := Aside0.mk htc; clear hst hv htc)
      | (go_at_call 92; (with_reducible refine (turn_calls e2 HSV.out hg HTD.out hs HL1.out HV.out (Kd.R_lower HST.out HN0.out)).mono ?_); rintro er w4 ⟨ht4, vc4, hq1, hq2⟩; have HT4 := Aside0.mk (HTC.out.trans ht4); have HQ4 := Aside0.mk (And.intro hq1 hq2); clear hq1 hq2 ht4; obtain ⟨x4, rfl⟩ : ∃ x4, er = .returned (.int .i64 x4) := ret_code HQ4.out.1 HQ4.out.2))
    go_ret
    refine ⟨HT4.out, vc4, if e2 = 0 then .slice A1 st.length c1 else vs, fun h => absurd rfl h, fun h => absurd rfl h, fun _ h2 => ?_, fun _ h2 => ?_⟩
    · rw [if_pos h2]
      exact HQ4.out.1 h2
    · rw [if_neg h2]
      exact HQ4.out.2 h2
  · have he' : (e != 0) = true := by simp; exact he
    by_cases he2 : e = 2 ∨ e = 51
    · have HE := Aside0.mk (fun w => wend_same (w := w) (Wb := Wb) e he2)
      go_enter Try.func59, Try.ntmps59
      go_wp2_with (first
        | (go_at_call 89; (with_reducible refine HK.out.mono ?_); rintro e w' ⟨rfl, rfl⟩)
        | (go_at_call 90; (with_reducible refine HLY.out.mono ?_); rintro er w1 ⟨A1, c1, vc1, rfl, hst, hv, htc⟩; have HV := Aside0.mk hv; have HTC := Aside0.mk htc; clear hst hv htc)
        | (go_at_call 91; (with_reducible refine (HE.out w1).mono ?_); rintro er w' ⟨rfl, rfl⟩))
      go_ret
      exact ⟨HTC.out, vc1, vs, fun _ _ => ⟨rfl, HV.out⟩, fun _ h => absurd he2 (by omega), fun h => absurd h he, fun h => absurd h he⟩
    · have HE := Aside0.mk (fun w (h : WlC w Wb B gen head tail vs true false) => wend_over e (by omega) h)
      go_enter Try.func59, Try.ntmps59
      go_wp2_with (first
        | (go_at_call 89; (with_reducible refine HK.out.mono ?_); rintro e w' ⟨rfl, rfl⟩)
        | (go_at_call 90; (with_reducible refine HLY.out.mono ?_); rintro er w1 ⟨A1, c1, vc1, rfl, hst, hv, htc⟩; have HV := Aside0.mk hv; have HTC := Aside0.mk htc; clear hst hv htc)
        | (go_at_call 91; (with_reducible refine (HE.out w1 HV.out.blk).mono ?_); rintro er w' ⟨rfl, rfl⟩))
      go_ret
      exact ⟨HTC.out.trans ((HV.out.tcW 6 _).mono fun _ h => .inr h), vc1, vs, fun _ h => absurd h he2, fun _ _ => ⟨rfl, HV.out.overed⟩, fun h => absurd h he, fun h => absurd h he⟩
end
end Go.Proofs.Ytlepcmljmibdnaa
namespace Go.Proofs.Ytlepcmljmibdnaa
open Go.RowKit Go.Proofs.YtlepcmljmibdnaaW.PrintWords Go.Proofs.YtlepcmljmibdnaaW.PrintLast Go.Proofs.YtlepcmljmibdnaaW.PrintMore PWalOpens
set_option linter.unusedVariables false
set_option linter.unusedSimpArgs false
section
variable {w0 w : World} {F : Nat → Prop} {B M Bd : Nat} {vc : Value} {D D1 : PD}
theorem at_arm (n : Int) (hn : -9223372036854775808 ≤ n ∧ n ≤ 9223372036854775807) (h : At w0 F w B M Bd vc D) :
    Calls Try.prog 16 #[.pointer (some ⟨B, 0, none⟩), .int .i64 n] w fun e w' => e = .returned (.tuple #[]) ∧ At w0 F w' B M Bd vc (armP D n) := by
  refine (arm_calls w 0 B M Bd vc D n hn h.dk).mono ?_
  rintro e w' ⟨rfl, hd, ho⟩
  exact ⟨rfl, h.next hd (ho.chg fun k hk => .inl hk) (fun k _ hk => hk)⟩
end
end Go.Proofs.Ytlepcmljmibdnaa
namespace Go.Proofs.Ytlepcmljmibdnaa
open Go.RowKit Go.Proofs.YtlepcmljmibdnaaW.PrintWords Go.Proofs.YtlepcmljmibdnaaW.PrintLast Go.Proofs.YtlepcmljmibdnaaW.PrintMore PWalOpens
set_option linter.unusedVariables false
set_option linter.unusedSimpArgs false
def txt (x : List Int) : List UInt8 := (strOfNums x).toList
def sameT (a b : List (List Int)) : Bool := decide (a.map txt = b.map txt)
theorem sameT_refl (a : List (List Int)) : sameT a a = true := decide_eq_true rfl
theorem texts_step {a b : List (List Int)} {i : Nat} {x y : List Int} (hx : a[i]? = some x) (hy : b[i]? = some y) (h : txt x ≠ txt y) : a.map txt ≠ b.map txt := fun e => by
  have := congrArg (fun l : List (List UInt8) => l[i]?) e
  simp only [List.getElem?_map, hx, hy, Option.map_some, Option.some.injEq] at this
  exact h this
theorem sametexts_calls (w : World) (A B : Option Addr) (c d : Nat) (a b : List (List Int)) (q : Bool) (hq : sameT a b = q) (hl : a.length ≤ 1000000 ∧ b.length ≤ 1000000) (ha : bytesK.C w A a.length a) (hb : bytesK.C w B b.length b) :
    Calls Try.prog 55 #[.slice A a.length c, .slice B b.length d] w fun e w' => e = .returned (.bool q) ∧ Drawn0 w w' := by
  have HA := Aside0.mk ha
  have HB := Aside0.mk hb
  have hl1 := hl.1
  clear ha hb
  by_cases he : a.length = b.length
  · have c0 : ((a.length : Int) == (b.length : Int)) = true := by simp; omega
    have c1 : ((a.length : Int) != (b.length : Int)) = false := by simp; omega
    have c2 : (a.length == b.length) = true := by simpa using he
    have HE := Aside0.mk he
    have HQ := Aside0.mk hq
    clear he hq hl
    go_enter Try.func55, Try.ntmps55
    go_wp2
    go_loopg [13] a.length (fun kq v13 w' => ∃ i : Nat, v13 = .int .i64 (i : Int) ∧ Aside0 (i + kq = a.length) ∧ Aside0 (∀ j x y, j < i → a[j]? = some x → b[j]? = some y → txt x = txt y) ∧ Drawn0 w w')
    case atStart => exact ⟨0, rfl, ⟨by omega⟩, ⟨fun j x y h => by omega⟩, Drawn0.refl _⟩
    case round =>
      obtain ⟨i, rfl, HI, HZ, ⟨m1, rfl⟩⟩ := hrel
      clear c0 c1 c2
      by_cases hi : i < a.length
      · have hib : i < b.length := by have := HE.out; omega
        obtain ⟨x, hx⟩ : ∃ x, a[i]? = some x := ⟨_, List.getElem?_eq_getElem hi⟩
        obtain ⟨y, hy⟩ : ∃ y, b[i]? = some y := ⟨_, List.getElem?_eq_getElem hib⟩
        obtain ⟨a2, A2, c2', e, x0, hc2, hC2⟩ := texts_at HA.out i hi
        subst e
        obtain ⟨b2, B2, d2', e, y0, hd2, hD2⟩ := texts_at HB.out i hib
        subst e
        rw [show a.getD i [] = x by simp [List.getD, hx]] at x0 hc2 hC2
        rw [show b.getD i [] = y by simp [List.getD, hy]] at y0 hd2 hD2
        have hcvx : ∀ k, (convert 29 9 (.slice A2 x.length c2')).run Try.prog (w.drewN k) = .ok (.string (strOfNums x)) (w.drewN k) := fun k => Kd.C_string Try.underlying29 Try.underlying5 Try.underlying9 (Kd.C_below hC2 (bel_drewN (Below.refl _ _) k))
        have hcvy : ∀ k, (convert 29 9 (.slice B2 y.length d2')).run Try.prog (w.drewN k) = .ok (.string (strOfNums y)) (w.drewN k) := fun k => Kd.C_string Try.underlying29 Try.underlying5 Try.underlying9 (Kd.C_below hD2 (bel_drewN (Below.refl _ _) k))
        clear hc2 hC2 hd2 hD2
        have HX := Aside0.mk hx
        have HY := Aside0.mk hy
        have hi1 : (i : Int) < (a.length : Int) := by omega
        have hi2 : (i : Int) < (b.length : Int) := by omega
        have hi0 : (0 : Int) ≤ (i : Int) := by omega
        clear hx hy
        by_cases h : txt x = txt y
        · have hb0 : ((strOfNums x).toList == (strOfNums y).toList) = true := by simpa [txt] using h
          have hb1 : ((strOfNums x).toList != (strOfNums y).toList) = false := by simpa [txt] using h
          have HXY := Aside0.mk h
          clear h
          go_wp2
          go_quiet (fail)
          go_wp2
          have hk1 := HI.out
          obtain ⟨gq, rfl⟩ : ∃ gq, gk = gq + 1 := ⟨gk - 1, by omega⟩
          go_roundg gq
          case rel => exact ⟨i + 1, by go_num, ⟨by omega⟩, ⟨fun j u v hj hu hv => by
            by_cases hji : j = i
            · subst hji; rw [HX.out] at hu; rw [HY.out] at hv; rw [← Option.some.inj hu, ← Option.some.inj hv]; exact HXY.out
            · exact HZ.out j u v (by omega) hu hv⟩, by repeat (first | exact Drawn0.refl _ | apply Drawn0.step)⟩
          case measure => omega
        · have hb0 : ((strOfNums x).toList == (strOfNums y).toList) = false := by simpa [txt] using h
          have hb1 : ((strOfNums x).toList != (strOfNums y).toList) = true := by simpa [txt] using h
          have HR := Aside0.mk (show q = false from by rw [← HQ.out]; exact decide_eq_false (texts_step HX.out HY.out h))
          clear h
          go_wp2
          go_quiet (fail)
          go_wp2
          go_ret
          rw [HR.out]
          exact ⟨rfl, by repeat (first | exact Drawn0.refl _ | apply Drawn0.step)⟩
      · have hi0 := HI.out
        obtain rfl : gk = 0 := by omega
        obtain rfl : i = a.length := by omega
        clear hi0
        have hm : ¬ ((a.length : Int) < (a.length : Int)) := by omega
        have HR := Aside0.mk (show q = true from by
          rw [← HQ.out]
          refine decide_eq_true (List.ext_getElem? fun j => ?_)
          rw [List.getElem?_map, List.getElem?_map]
          by_cases hj : j < a.length
          · have h1 : a[j]? = some a[j] := List.getElem?_eq_getElem hj
            have h2 : b[j]? = some (b[j]'(by have := HE.out; omega)) := List.getElem?_eq_getElem (by have := HE.out; omega)
            rw [h1, h2]
            exact congrArg some (HZ.out j _ _ hj h1 h2)
          · rw [List.getElem?_eq_none (by omega), List.getElem?_eq_none (by have := HE.out; omega)])
        go_wp2
        go_ret
        rw [HR.out]
        exact ⟨rfl, by repeat (first | exact Drawn0.refl _ | apply Drawn0.step)⟩
  · have c0 : ((a.length : Int) == (b.length : Int)) = false := by simp; omega
    have c1 : ((a.length : Int) != (b.length : Int)) = true := by simp; omega
    have c2 : (a.length == b.length) = false := by simpa using he
    have HR := Aside0.mk (show q = false from by rw [← hq]; exact decide_eq_false (fun e => he (by have := congrArg List.length e; simpa using this)))
    clear he hq hl
    go_enter Try.func55, Try.ntmps55
    go_wp2
    go_ret
    rw [HR.out]
    exact ⟨rfl, Drawn0.refl _⟩
end Go.Proofs.Ytlepcmljmibdnaa
namespace Go.Proofs.Ytlepcmljmibdnaa
open Go.RowKit Go.Proofs.YtlepcmljmibdnaaW.PrintWords Go.Proofs.YtlepcmljmibdnaaW.PrintLast Go.Proofs.YtlepcmljmibdnaaW.PrintMore PWalOpens
set_option linter.unusedVariables false
set_option linter.unusedSimpArgs false
theorem few7_loop (l : List (List Int)) (hl : l.length ≤ 9223372036854775807) : ∀ (m i : Nat), i + m = l.length → (∀ j, j < i → (l.getD j []).length ≤ 400) →
    ∃ r, factotumlaw07_few.l0 (m + 1) l l (l.length : Int) (i : Int) = some r ∧ (r = true → l.length ≤ 6 ∧ ∀ b ∈ l, b.length ≤ 400)
  | 0, i, hi, hall => by
    refine ⟨decide ((l.length : Int) ≤ 6), ?_, fun h => ⟨by have := of_decide_eq_true h; omega, fun x hx => ?_⟩⟩
    · rw [factotumlaw07_few.l0, if_neg (by omega)]
    · obtain ⟨j, hj, rfl⟩ := List.mem_iff_getElem.1 hx
      have := hall j (by omega)
      simpa [List.getD, hj] using this
  | m + 1, i, hi, hall => by
    rw [factotumlaw07_few.l0, if_pos (by omega), if_pos (by omega), if_pos (by omega)]
    have e : rd_L1 l (i : Int) = l.getD i [] := by simp [rd_L1]
    rw [e]
    by_cases h1 : ((l.getD i []).length : Int) > 400
    · exact ⟨false, by rw [if_pos h1], fun h => by cases h⟩
    · rw [if_neg h1, show wrap64 ((i : Int) + 1) = ((i + 1 : Nat) : Int) by unfold wrap64; omega]
      exact few7_loop l hl m (i + 1) (by omega) (fun j hj => by
        by_cases hji : j < i
        · exact hall j hji
        · obtain rfl : j = i := by omega
          omega)
theorem few7_f (l : List (List Int)) (hl : l.length ≤ 9223372036854775807) : ∃ r, factotumlaw07_few.f (l.length + 1) l = some r ∧ (r = true → l.length ≤ 6 ∧ ∀ b ∈ l, b.length ≤ 400) := few7_loop l hl l.length 0 (by omega) (by omega)
/-- texts that lie in an elder world -/
def farK (w0 : World) : Kd (List Int) where
  sz := 1
  E := []
  K := fun _ xs cs => bytesK.K w0 xs cs
  M := fun _ _ _ xs cs => bytesK.K w0 xs cs
  K_len := fun h => bytesK.K_len h
  K_one := fun h => bytesK.K_one h
  K_below := fun _ h => h
  K_of_M := fun h => h
  M_mono := fun _ h => h
  M_bound := fun h => h
  M_move := fun _ h => h
  M_lower := fun _ h => h
theorem far_C {w0 w : World} {A : Option Addr} {n : Nat} {xs : List (List Int)} (h : (farK w0).C w A n xs) (hb : Below w0.heap.size w0 w) : bytesK.C w A n xs := by
  refine ⟨h.1, h.2.1, fun h0 => ?_⟩
  obtain ⟨ad, e, hc⟩ := h.2.2 h0
  refine ⟨ad, e, fun j p hj => ?_⟩
  obtain ⟨c, h1, h2, h3⟩ := hc j p hj
  exact ⟨c, h1, bytesK.K_below hb h2, h3⟩
theorem far_row {w0 w : World} {A : Option Addr} {n : Nat} {xs : List (List Int)} (h : bytesK.C w0 A n xs) (hb : Below w0.heap.size w0 w) : ReadsRow (bytesK.K w0) 1 w A n xs := ReadsRow.imp_ h hb (fun _ _ hp => hp)
theorem info29k : (Try.prog.info? 29).map (fun i => (i.zero, i.size, i.bytes)) = some (some (.slice none 0 0), 1, 24) := by kernel_rfl
theorem q29f : ∀ q, q ∈ 29 :: ([] : List Nat) → q = 29 := by intro q hq; simpa using hq
section
variable {n0 : Nat} {w w' : World} {Wb B M Bd : Nat} {vc vs v1 : Value} {D D1 D2 : PD} {gen head tail h1 t1 : Int} {S S1 st : List Int} {over : Bool} {s e e2 : Int}
theorem WV.t29 (h : WV n0 w Wb B M Bd vc vs D gen head tail S over) (hc : TC n0 (isT 29) w w') : WV n0 w' Wb B M Bd vc vs D gen head tail S over :=
  ⟨hc.blk _ _ h.blk (by simp [isT]), h.hW, h.dk.tkeep hc (isT_disk (by decide)), R_tc h.st hc (fun q hq cells => by
    obtain rfl := q56 q hq
    simp [isT])⟩
def ChgQ (n0 : Nat) (w : World) (B M Bd : Nat) (D1 : PD) (e h1 s g : Int) (r : Ending) (w' : World) : Prop :=
  r = .returned (.int .i64 (chgE D1 e h1 s g)) ∧ TC n0 isWD w w' ∧ ∃ vc', DK w' n0 B M Bd vc' (chgD D1 e h1 s g)
theorem add_chg {A : Option Addr} {c : Nat} {R : List (List Int)} {r f : Int} (hr : ringP D = r) (hR : RecsOK R) (hf : r - (tail - head) = f) (hres : layP D r f tail R = (D1, st, s, e)) (he : e = 0 ∨ e = 50)
    (ht : 0 ≤ head ∧ head ≤ tail ∧ tail < 18446744073709551000 ∧ tail - head ≤ 4094) (hg : 0 ≤ gen ∧ gen < 18446744073709551615) (hs : 0 ≤ s ∧ s < 18446744073709551616) (hl : D.cache.length ≤ 850) (hl1 : D1.cache.length ≤ 900) (hS : S.length + st.length ≤ 1000000) (h : WV n0 w Wb B M Bd vc vs D gen head tail S false)
    (hT : ∀ W, TC n0 isWD w W → bytesK.C W A R.length R) :
    Calls Try.prog 53 #[.pointer (some ⟨Wb, 0, none⟩), .slice A R.length c] w (ChgQ n0 w B M Bd D1 e head s (gen + 1)) := by
  refine (add_calls (c := c) (D2 := (saveP D1 (gen + 1) [head, s]).1) (e2 := (saveP D1 (gen + 1) [head, s]).2) hr hR hf hres rfl ht hg hs hl hl1 hS h hT).mono ?_
  rintro x w2 ⟨htc, vc', vs', q1, q2, q3, q4⟩
  unfold ChgQ chgE chgD
  rcases he with rfl | rfl
  · rw [if_pos rfl]
    by_cases h2 : (saveP D1 (gen + 1) [head, s]).2 = 0
    · obtain ⟨rfl, hv⟩ := q3 rfl h2
      rw [if_pos ⟨rfl, h2⟩]
      exact ⟨rfl, htc, vc', hv.dk⟩
    · obtain ⟨rfl, hv⟩ := q4 rfl h2
      rw [if_neg (fun e => h2 e.2)]
      exact ⟨rfl, htc, vc', hv.dk⟩
  · obtain ⟨rfl, hv⟩ := q2 (by decide) (by decide)
    rw [if_neg (fun e => by cases e.1), if_neg (by decide)]
    exact ⟨rfl, htc, vc', hv.dk⟩
theorem swap_chg {A : Option Addr} {c : Nat} {R : List (List Int)} {r f : Int} (hr : ringP D = r) (hR : RecsOK R) (hf : r - (tail - head) = f) (hres : layP D r f tail R = (D1, st, s, e)) (he : e = 0 ∨ e = 50)
    (ht : 0 ≤ head ∧ head ≤ tail ∧ tail < 18446744073709551000 ∧ tail - head ≤ 4094) (hg : 0 ≤ gen ∧ gen < 18446744073709551615) (hs : 0 ≤ s ∧ s < 18446744073709551616) (hl : D.cache.length ≤ 850) (hl1 : D1.cache.length ≤ 900) (h : WV n0 w Wb B M Bd vc vs D gen head tail S false)
    (hT : ∀ W, TC n0 isWD w W → bytesK.C W A R.length R) :
    Calls Try.prog 59 #[.pointer (some ⟨Wb, 0, none⟩), .slice A R.length c] w (ChgQ n0 w B M Bd D1 e tail s (gen + 1)) := by
  refine (swap_calls (c := c) (D2 := (saveP D1 (gen + 1) [tail, s]).1) (e2 := (saveP D1 (gen + 1) [tail, s]).2) hr hR hf hres rfl ht hg hs hl hl1 h hT).mono ?_
  rintro x w2 ⟨htc, vc', vs', q1, q2, q3, q4⟩
  unfold ChgQ chgE chgD
  rcases he with rfl | rfl
  · rw [if_pos rfl]
    by_cases h2 : (saveP D1 (gen + 1) [tail, s]).2 = 0
    · obtain ⟨rfl, hv⟩ := q3 rfl h2
      rw [if_pos ⟨rfl, h2⟩]
      exact ⟨rfl, htc, vc', hv.dk⟩
    · obtain ⟨rfl, hv⟩ := q4 rfl h2
      rw [if_neg (fun e => h2 e.2)]
      exact ⟨rfl, htc, vc', hv.dk⟩
  · obtain ⟨rfl, hv⟩ := q2 (by decide) (by decide)
    rw [if_neg (fun e => by cases e.1), if_neg (by decide)]
    exact ⟨rfl, htc, vc', hv.dk⟩
/-- a crash on a disk above a base -/
theorem crash_dk (A : Option Addr) (c : Nat) (ks : List Bool) (hw : crashP D ks = D1) (hl : D.cache.length ≤ 1000) (hb : ∀ w', TC n0 isDisk w w' → Kd.bool.C w' A ks.length ks) (h : DK w n0 B M Bd vc D) :
    Calls Try.prog 20 #[.pointer (some ⟨B, 0, none⟩), .slice A ks.length c] w fun e w' => e = .returned (.tuple #[]) ∧ TC n0 isDisk w w' ∧ ∃ vc', DK w' n0 B M Bd vc' D1 := by
  refine (at_crash A c ks hw hl (fun w' hc => hb w' (h.tc hc)) (At.refl h)).mono ?_
  rintro e w2 ⟨rfl, ha⟩
  exact ⟨rfl, h.tc ha.chg, _, At.based h ha⟩
end
end Go.Proofs.Ytlepcmljmibdnaa
namespace Go.Proofs.Ytlepcmljmibdnaa
open Go.RowKit Go.Proofs.YtlepcmljmibdnaaW.PrintWords Go.Proofs.YtlepcmljmibdnaaW.PrintLast Go.Proofs.YtlepcmljmibdnaaW.PrintMore PWalOpens
set_option linter.unusedVariables false
set_option linter.unusedSimpArgs false
theorem drawn_below {w w' : World} (h : Drawn0 w w') : Below w.heap.size w w' := by
  obtain ⟨nd, rfl⟩ := h
  exact bel_drewN (Below.refl _ _) nd
theorem few_at {w : World} (A : Option Addr) (c : Nat) (l : List (List Int)) (r : Bool) (hc : l.length ≤ c) (hC : bytesK.C w A l.length l) (hr : factotumlaw07_few.f (l.length + 1) l = some r) (w1 : World) (hb : Below w.heap.size w w1) :
    Calls Try.prog 48 #[.slice A l.length c] w1 fun e w' => e = .returned (.bool r) ∧ Below w.heap.size w w' := by
  refine (factotumlaw07_few.calls (l.length + 1) A c l r w1 (Kd.C_below hC hb) hc hr).mono ?_
  rintro e w' ⟨rfl, hd⟩
  exact ⟨rfl, hb.trans ((drawn_below hd).mono hb.size)⟩
theorem keeps_out (A0 : Option Addr) (c0 : Nat) (l : List (List Int)) (A1 : Option Addr) (c1 : Nat) (m : List (List Int)) (swap : Bool) (arm : Int) (A4 : Option Addr) (c4 k4 : Nat) (w : World) (r1 r2 : Bool)
    (hc0 : l.length ≤ c0) (hc1 : m.length ≤ c1) (hC0 : bytesK.C w A0 l.length l) (hC1 : bytesK.C w A1 m.length m)
    (h1 : factotumlaw07_few.f (l.length + 1) l = some r1) (h2 : factotumlaw07_few.f (m.length + 1) m = some r2) (h : r1 = false ∨ r2 = false ∨ 60 < k4) :
    Calls Try.prog 12 #[.slice A0 l.length c0, .slice A1 m.length c1, .bool swap, .int .i64 arm, .slice A4 k4 c4] w fun e w' => e = .returned (.bool true) ∧ Below w.heap.size w w' := by
  have HF1 := Aside0.mk (few_at A0 c0 l r1 hc0 hC0 h1)
  have HF2 := Aside0.mk (few_at A1 c1 m r2 hc1 hC1 h2)
  clear hc0 hc1 hC0 hC1 h1 h2
  cases r1 with
  | false =>
    clear h
    go_enter Try.func12, Try.ntmps12
    go_wp2_with (first
      | (go_at_call 47; (with_reducible refine (awake7_calls _).mono ?_); rintro e w1 ⟨rfl, hb⟩; have HB1 := Aside0.mk hb; clear hb) | (go_at_call 48; (with_reducible refine (HF1.out w1 HB1.out).mono ?_); rintro e w2 ⟨rfl, hb⟩; have HB2 := Aside0.mk hb; clear hb) | (go_at_call 48; (with_reducible refine (HF2.out w2 HB2.out).mono ?_); rintro e w3 ⟨rfl, hb⟩; have HB3 := Aside0.mk hb; clear hb))
    go_ret
    exact ⟨rfl, HB2.out⟩
  | true =>
    cases r2 with
    | false =>
      clear h
      go_enter Try.func12, Try.ntmps12
      go_wp2_with (first
        | (go_at_call 47; (with_reducible refine (awake7_calls _).mono ?_); rintro e w1 ⟨rfl, hb⟩; have HB1 := Aside0.mk hb; clear hb) | (go_at_call 48; (with_reducible refine (HF1.out w1 HB1.out).mono ?_); rintro e w2 ⟨rfl, hb⟩; have HB2 := Aside0.mk hb; clear hb) | (go_at_call 48; (with_reducible refine (HF2.out w2 HB2.out).mono ?_); rintro e w3 ⟨rfl, hb⟩; have HB3 := Aside0.mk hb; clear hb))
      go_ret
      exact ⟨rfl, HB3.out⟩
    | true =>
      have h3 : (60 : Int) < (k4 : Int) := by
        rcases h with h | h | h
        · cases h
        · cases h
        · omega
      clear h
      go_enter Try.func12, Try.ntmps12
      go_wp2_with (first
        | (go_at_call 47; (with_reducible refine (awake7_calls _).mono ?_); rintro e w1 ⟨rfl, hb⟩; have HB1 := Aside0.mk hb; clear hb) | (go_at_call 48; (with_reducible refine (HF1.out w1 HB1.out).mono ?_); rintro e w2 ⟨rfl, hb⟩; have HB2 := Aside0.mk hb; clear hb) | (go_at_call 48; (with_reducible refine (HF2.out w2 HB2.out).mono ?_); rintro e w3 ⟨rfl, hb⟩; have HB3 := Aside0.mk hb; clear hb))
      go_ret
      exact ⟨rfl, HB3.out⟩
section
variable {w : World} {A0 A1 A4 : Option Addr} {c0 c1 c4 : Nat} {l m : List (List Int)}
/-- the first Add, contract as the walk needs it -/
theorem add_first {D1 Da D2 : PD} {S1 : Int → List Int} (hl : RecsOK l) (i1 : WInv D1 S1 98 0 0 0 []) (ha : layP D1 98 (98 - (0 - 0)) 0 l = (Da, startsP 0 l, needs l, 0)) (hac : Da.cache.length ≤ 42) (hs2 : saveP Da (0 + 1) [0, needs l] = (D2, 0)) (hC : bytesK.C w A0 l.length l)
    (w6 : World) (Wb B M Bd : Nat) (vc vs : Value) (hb : Below w.heap.size w w6) (hv : WV w.heap.size w6 Wb B M Bd vc vs D1 0 0 0 [] false) :
    Calls Try.prog 53 #[.pointer (some ⟨Wb, 0, none⟩), .slice A0 l.length c0] w6 fun r w' => r = .returned (.int .i64 0) ∧ TC w.heap.size isWD w6 w' ∧ ∃ vc' vs', WV w.heap.size w' Wb B M Bd vc' vs' D2 1 0 (needs l) (startsP 0 l) false := by
  have hn := needs_le (R := l) fun b hb => (hl.each b hb).2
  have hlen := hl.len
  have hst : (startsP 0 l).length = l.length := starts_len l 0
  refine (add_calls (c := c0) i1.ring hl rfl ha hs2 (by omega) (by omega) (by omega) (by rw [i1.cache]; decide) (by omega) (by rw [hst]; simp; omega) hv (fun W hc => Kd.C_below hC (hb.trans hc.low))).mono ?_
  rintro x w2 ⟨htc, vc', vs', _, _, q3, _⟩
  obtain ⟨rfl, hv2⟩ := q3 rfl rfl
  exact ⟨rfl, htc, vc', vs', hv2⟩
theorem second_swap {D2 D3 : PD} {S2 : Int → List Int} {st : List Int} {s e : Int} {W : List (List Int)} {ks : List Bool} (hl : RecsOK l) (hm : RecsOK m) (i2 : WInv D2 S2 98 1 0 (needs l) l) (arm : Int) (hlay : layP (armP D2 arm) 98 (98 - (needs l - 0)) (needs l) m = (D3, st, s, e)) (hK : Keeps D3 e (needs l) s (1 + 1) ks l W) (hC : bytesK.C w A1 m.length m)
    (w6 : World) (Wb B M Bd : Nat) (vc vs : Value) (hb : Below w.heap.size w w6) (hv : WV w.heap.size w6 Wb B M Bd vc vs (armP D2 arm) 1 0 (needs l) (startsP 0 l) false) :
    Calls Try.prog 59 #[.pointer (some ⟨Wb, 0, none⟩), .slice A1 m.length c1] w6 (ChgQ w.heap.size w6 B M Bd D3 e (needs l) s (1 + 1)) := by
  have hn := needs_le (R := l) fun b hb => (hl.each b hb).2
  have hlen := hl.len
  exact swap_chg (c := c1) (show ringP (armP D2 arm) = 98 from i2.ring) hm rfl hlay hK.code (by omega) (by omega) hK.s0 (by show D2.cache.length ≤ 850; rw [i2.cache]; decide) (Nat.le_trans hK.len (by decide)) hv (fun W hc => Kd.C_below hC (hb.trans hc.low))
theorem second_add {D2 D3 : PD} {S2 : Int → List Int} {st : List Int} {s e : Int} {W : List (List Int)} {ks : List Bool} (hl : RecsOK l) (hm : RecsOK m) (i2 : WInv D2 S2 98 1 0 (needs l) l) (arm : Int) (hlay : layP (armP D2 arm) 98 (98 - (needs l - 0)) (needs l) m = (D3, st, s, e)) (hst : st.length ≤ m.length) (hK : Keeps D3 e 0 s (1 + 1) ks l W) (hC : bytesK.C w A1 m.length m)
    (w6 : World) (Wb B M Bd : Nat) (vc vs : Value) (hb : Below w.heap.size w w6) (hv : WV w.heap.size w6 Wb B M Bd vc vs (armP D2 arm) 1 0 (needs l) (startsP 0 l) false) :
    Calls Try.prog 53 #[.pointer (some ⟨Wb, 0, none⟩), .slice A1 m.length c1] w6 (ChgQ w.heap.size w6 B M Bd D3 e 0 s (1 + 1)) := by
  have hn := needs_le (R := l) fun b hb => (hl.each b hb).2
  have hlen := hl.len
  have hmen := hm.len
  exact add_chg (c := c1) (show ringP (armP D2 arm) = 98 from i2.ring) hm rfl hlay hK.code (by omega) (by omega) hK.s0 (by show D2.cache.length ≤ 850; rw [i2.cache]; decide) (Nat.le_trans hK.len (by decide)) (by rw [starts_len]; omega) hv (fun W hc => Kd.C_below hC (hb.trans hc.low))
end
theorem chgD_cache {D1 Dx : PD} {e h1 s g : Int} (h : chgD D1 e h1 s g = Dx) (hl : D1.cache.length ≤ 42) : Dx.cache.length ≤ 1000 := by
  subst h
  unfold chgD
  split
  · have := saveP_cache D1 g [h1, s]
    omega
  · omega
theorem chgE_two (D1 : PD) (e h1 s g : Int) : chgE D1 e h1 s g = 0 ∨ chgE D1 e h1 s g = 50 := by
  unfold chgE
  split
  · exact .inl rfl
  · exact .inr rfl
set_option maxRecDepth 100000 in
set_option maxHeartbeats 4000000 in
theorem keeps_swap (A0 : Option Addr) (c0 : Nat) (l : List (List Int)) (A1 : Option Addr) (c1 : Nat) (m : List (List Int)) (arm : Int) (A4 : Option Addr) (c4 : Nat) (keep : List Bool) (w : World)
    (hc0 : l.length ≤ c0) (hc1 : m.length ≤ c1) (hC0 : bytesK.C w A0 l.length l) (hC1 : bytesK.C w A1 m.length m) (hC4 : Kd.bool.C w A4 keep.length keep) (harm : -9223372036854775808 ≤ arm ∧ arm ≤ 9223372036854775807)
    (h1 : factotumlaw07_few.f (l.length + 1) l = some true) (h2 : factotumlaw07_few.f (m.length + 1) m = some true) (hl : RecsOK l) (hm : RecsOK m) (hk : keep.length ≤ 60) :
    Calls Try.prog 12 #[.slice A0 l.length c0, .slice A1 m.length c1, .bool true, .int .i64 arm, .slice A4 keep.length c4] w fun e w' => e = .returned (.bool true) ∧ Below w.heap.size w w' := by
  obtain ⟨D1, S1, hf, i1⟩ := winv_start (n := 100) (r := 98) (by decide) (by decide)
  have hn := needs_le (R := l) fun b hb => (hl.each b hb).2
  have hmn := needs_le (R := m) fun b hb => (hm.each b hb).2
  have hlen := hl.len
  have hmen := hm.len
  obtain ⟨Da, D2, S2, ha, hac, hs2, i2⟩ := i1.add hl (by omega) (by omega) (by decide)
  rw [Int.zero_add (needs l)] at ha hs2 i2
  rw [List.nil_append] at i2
  replace i2 : WInv D2 S2 98 1 0 (needs l) l := i2
  obtain ⟨D3, st, s, e, hlay, hst, hK⟩ := i2.keeps hm (by omega) (by omega) (by decide) true arm keep
  simp only [if_true] at hK
  have HF := Aside0.mk hf
  have HO1 := Aside0.mk i1.open_
  have HI1 := Aside0.mk i1
  have HC0 := Aside0.mk (show (newP 100).cache.length ≤ 800 by decide)
  have HC1 := Aside0.mk (show D1.cache.length ≤ 850 by rw [i1.cache]; decide)
  have HADD := Aside0.mk (add_first (c0 := c0) hl i1 ha hac hs2 hC0)
  have HCHG := Aside0.mk (second_swap (c1 := c1) hl hm i2 arm hlay hK hC1)
  have HF1 := Aside0.mk (few_at A0 c0 l true hc0 hC0 h1)
  have HF2 := Aside0.mk (few_at A1 c1 m true hc1 hC1 h2)
  have H0 := Aside0.mk hC0
  have H1 := Aside0.mk hC1
  have H4 := Aside0.mk hC4
  have HP1 := Aside0.mk hc1
  have HP0 := Aside0.mk hc0
  have HKK := Aside0.mk hK
  have HARM := Aside0.mk harm
  have HLA := Aside0.mk (show (([] : List (List Int)).length + l.length) * 24 ≤ 140737488355328 by simp; omega)
  have HLB := Aside0.mk (show (l.length + m.length) * 24 ≤ 140737488355328 by omega)
  have HML := Aside0.mk (show l.length ≤ 6 ∧ m.length ≤ 6 from ⟨hlen, hmen⟩)
  have j3 : (keep.length : Int) ≤ 60 := by omega
  obtain ⟨cE, hcE⟩ : ∃ cE, chgE D3 e (needs l) s (1 + 1) = cE := ⟨_, rfl⟩
  obtain ⟨Dx, hDx⟩ : ∃ Dx, chgD D3 e (needs l) s (1 + 1) = Dx := ⟨_, rfl⟩
  unfold ChgQ at HCHG
  rw [hcE, hDx] at HCHG
  have hgot := hK.got
  rw [hcE, hDx] at hgot
  have hce2 := chgE_two D3 e (needs l) s (1 + 1)
  rw [hcE] at hce2
  have HOK := Aside0.mk (show OKD (crashP Dx keep) from by have := hK.ok; rwa [hDx] at this)
  have HCX := Aside0.mk (show Dx.cache.length ≤ 1000 from chgD_cache hDx hK.len)
  obtain ⟨D5, hD5⟩ : ∃ D5, crashP Dx keep = D5 := ⟨_, rfl⟩
  have HC5 := Aside0.mk (show D5.cache.length ≤ 1000 from by rw [← hD5]; exact Nat.zero_le _)
  rw [hD5] at hgot HOK
  obtain ⟨S5, g5, h5, t5, X, i5, hX⟩ := hgot
  have HO5 := Aside0.mk i5.open_
  have HD5 := Aside0.mk hD5
  have hXl : X.length ≤ 1000000 := by
    rcases hX with rfl | ⟨_, rfl⟩ <;> omega
  obtain ⟨r1, hr1⟩ : ∃ r1, sameT X m = r1 := ⟨_, rfl⟩
  have hrt1 : X = m → r1 = true := fun e => by rw [← hr1, e]; exact sameT_refl m
  have hr2 : X = l → sameT X l = true := fun e => by rw [e]; exact sameT_refl l
  have HR1 := Aside0.mk hr1
  have HXL := Aside0.mk (show X.length ≤ 1000000 ∧ m.length ≤ 1000000 from ⟨hXl, by omega⟩)
  have HXM := Aside0.mk (show X.length ≤ 1000000 ∧ l.length ≤ 1000000 from ⟨hXl, by omega⟩)
  clear hf i1 i2 ha hac hs2 hlay hst hK hcE hDx hn hmn hlen hmen hc0 hc1 hC0 hC1 hC4 h1 h2 hl hm hk harm hD5 i5 hXl hr1
  go_enter Try.func12, Try.ntmps12
  go_wp2_with (first
    | (go_at_call 47; (with_reducible refine (awake7_calls _).mono ?_); rintro e w1 ⟨rfl, hb⟩; have HB1 := Aside0.mk hb; clear hb) | (go_at_call 48; (with_reducible refine (HF1.out w1 HB1.out).mono ?_); rintro e w2 ⟨rfl, hb⟩; have HB2 := Aside0.mk hb; clear hb) | (go_at_call 48; (with_reducible refine (HF2.out w2 HB2.out).mono ?_); rintro e w3 ⟨rfl, hb⟩; have HB3 := Aside0.mk hb; clear hb)
    | (go_at_call 15; (with_reducible refine (new_at w w3 100 HB3.out).mono ?_); rintro e w4 ⟨B, M, Bd, rfl, hd⟩; have HD4 := Aside0.mk hd; clear hd) | (go_at_call 49; (with_reducible refine (at_wformat 0 HF.out HC0.out HD4.out).mono ?_); rintro e w5 ⟨rfl, vc5, hd⟩; have HDW5 := Aside0.mk hd; clear hd) | (go_at_call 51; (with_reducible refine (open_calls HO1.out HI1.out.ok (Nat.le_trans HC1.out (by decide)) HDW5.out.dk).mono ?_); rintro e w6 hq; obtain ⟨Wb, vs6, vo6, rfl, hv, hb, hr⟩ := op_ok (n0 := w.heap.size) hq rfl HDW5.out.below.size (at_base HDW5.out); have HV6 := Aside0.mk (show WV w.heap.size w6 Wb B M Bd vc5 vs6 D1 0 0 0 [] false from hv); have HB6 := Aside0.mk (HDW5.out.below.trans (hb.mono HDW5.out.below.size)); clear hq hv hb hr) | (go_at_call 53; (with_reducible refine (HADD.out w6 Wb B M Bd vc5 vs6 HB6.out HV6.out).mono ?_); rintro er w7 ⟨rfl, ht, vc7, vs7, hv⟩; have HV7 := Aside0.mk hv; have HB7 := Aside0.mk (HB6.out.trans ht.low); clear ht hv) | ((with_reducible refine gate_builtin (b := .append) (xs := #[.const (.slice none 0 0), .tmp 49]) rfl ?_); at_builtin; go_loud (refine Kd.R_append_rows (farK w) (W := w7) (w0 := w7) w.heap.size rfl (.const (.slice none 0 0)) (.tmp 49) 50 29 (.slice none 0 0) 24 rfl Try.underlying50 info29k rfl Nat.one_pos (by decide) (.slice none 0 0) [] l A0 l.length c0 (fun _ => True) (fun _ => False) rfl rfl (Kd.R_nil _ _ _ _ _) (far_row H0.out HB7.out) (fun _ _ h => h) (fun _ h => h.elim) (fun _ _ => trivial) (Below.refl _ _) HB7.out.size HLA.out ?_); intro v8 w8 ho hb hg hat; rw [List.nil_append] at ho; have HR8 := Aside0.mk ho; have ht8 := TC.grown (base := w.heap.size) (T := isT 29) hg (fun k hk => by simp [Value.ownBlock] at hk) HB7.out.size; have HV8 := Aside0.mk (HV7.out.t29 ht8); have HB8 := Aside0.mk (HB7.out.trans ht8.low); clear ho hb hg hat ht8) | ((with_reducible refine gate_builtin (b := .append) (xs := #[.tmp 50, .tmp 51]) rfl ?_); at_builtin; go_loud (refine Kd.R_append_rows (farK w) (W := w8) (w0 := w8) w.heap.size rfl (.tmp 50) (.tmp 51) 50 29 (.slice none 0 0) 24 rfl Try.underlying50 info29k rfl Nat.one_pos (by decide) v8 l m A1 m.length c1 (fun _ => True) (fun _ => False) rfl rfl HR8.out (far_row H1.out HB8.out) (fun _ _ h => h) (fun _ h => h.elim) (fun _ _ => trivial) (Below.refl _ _) HB8.out.size HLB.out ?_); intro v9 w9 ho hb hg hat; have HR9 := Aside0.mk ho; have ht9 := TC.grown (base := w.heap.size) (T := isT 29) hg (fun k hk => by obtain ⟨h1, cells, h2⟩ := own_cells HR8.out k hk; exact ⟨h1, _, h2, rfl⟩) HB8.out.size; have HV9 := Aside0.mk (HV8.out.t29 ht9); have HB9 := Aside0.mk (HB8.out.trans ht9.low); clear ho hb hg hat ht9) | (go_at_call 16; (with_reducible refine (at_arm arm HARM.out (At.refl HV9.out.dk)).mono ?_); rintro e w10 ⟨rfl, hd⟩; obtain ⟨hv10, ht10⟩ := HV9.out.disk hd; have HV10 := Aside0.mk hv10; have HB10 := Aside0.mk (HB9.out.trans ht10.low); have HT10 := Aside0.mk ht10; clear hd hv10 ht10)
    | (go_at_call 59; (with_reducible refine (HCHG.out w10 Wb B M Bd _ _ HB10.out HV10.out).mono ?_); rintro er w11 ⟨rfl, ht, vc11, hd⟩; have HT11 := Aside0.mk ht; have HD11 := Aside0.mk hd; have HB11 := Aside0.mk (HB10.out.trans ht.low); clear ht hd)
    | (go_at_call 20; (with_reducible refine (crash_dk A4 c4 keep HD5.out HCX.out (fun w' hc => Kd.C_below H4.out (HB11.out.trans hc.low)) HD11.out).mono ?_); rintro e w12 ⟨rfl, ht, vc12, hd⟩; have HT12 := Aside0.mk ht; have HD12 := Aside0.mk hd; have HB12 := Aside0.mk (HB11.out.trans ht.low); clear ht hd))
  rcases hX with hX | ⟨hne, hX⟩
  · have hr := hrt1 hX
    rw [hr] at HR1
    clear hrt1 hr2 hX hr
    rcases hce2 with hc | hc
    · subst hc
      go_wp2_with (first
        | (go_at_call 51; (with_reducible refine (open_calls HO5.out HOK.out HC5.out HD12.out).mono ?_); rintro e w13 hq; obtain ⟨Wb13, vs13, vo13, rfl, hv, hb, hr⟩ := op_ok (n0 := w.heap.size) hq rfl HD12.out.base_le HD12.out; have HB13 := Aside0.mk (HB12.out.trans (hb.mono HB12.out.size)); have HBW := Aside0.mk hb; obtain ⟨A13, c13, hvo, hcap, hC⟩ := Kd.R_reads hr; subst hvo; have HX13 := Aside0.mk hC; clear hq hv hb hr hcap hC) | (go_at_call 55; (with_reducible refine (sametexts_calls w13 A13 A1 c13 c1 X m _ HR1.out HXL.out HX13.out (Kd.C_below H1.out HB13.out)).mono ?_); rintro er w14 ⟨rfl, hd⟩; have HB14 := Aside0.mk (HB13.out.trans ((drawn_below hd).mono HB13.out.size)); have HX14 := Aside0.mk (Kd.C_below HX13.out (drawn_below hd)); clear hd))
      go_ret
      exact ⟨rfl, HB14.out⟩
    · subst hc
      go_wp2_with (first
        | (go_at_call 51; (with_reducible refine (open_calls HO5.out HOK.out HC5.out HD12.out).mono ?_); rintro e w13 hq; obtain ⟨Wb13, vs13, vo13, rfl, hv, hb, hr⟩ := op_ok (n0 := w.heap.size) hq rfl HD12.out.base_le HD12.out; have HB13 := Aside0.mk (HB12.out.trans (hb.mono HB12.out.size)); have HBW := Aside0.mk hb; obtain ⟨A13, c13, hvo, hcap, hC⟩ := Kd.R_reads hr; subst hvo; have HX13 := Aside0.mk hC; clear hq hv hb hr hcap hC) | (go_at_call 55; (with_reducible refine (sametexts_calls w13 A13 A1 c13 c1 X m _ HR1.out HXL.out HX13.out (Kd.C_below H1.out HB13.out)).mono ?_); rintro er w14 ⟨rfl, hd⟩; have HB14 := Aside0.mk (HB13.out.trans ((drawn_below hd).mono HB13.out.size)); have HX14 := Aside0.mk (Kd.C_below HX13.out (drawn_below hd)); clear hd))
      go_ret
      exact ⟨rfl, HB14.out⟩
  · obtain rfl : cE = 50 := by omega
    have HR2 := Aside0.mk (hr2 hX)
    clear hrt1 hr2 hX
    cases r1 with
    | true =>
      go_wp2_with (first
        | (go_at_call 51; (with_reducible refine (open_calls HO5.out HOK.out HC5.out HD12.out).mono ?_); rintro e w13 hq; obtain ⟨Wb13, vs13, vo13, rfl, hv, hb, hr⟩ := op_ok (n0 := w.heap.size) hq rfl HD12.out.base_le HD12.out; have HB13 := Aside0.mk (HB12.out.trans (hb.mono HB12.out.size)); have HBW := Aside0.mk hb; obtain ⟨A13, c13, hvo, hcap, hC⟩ := Kd.R_reads hr; subst hvo; have HX13 := Aside0.mk hC; clear hq hv hb hr hcap hC) | (go_at_call 55; (with_reducible refine (sametexts_calls w13 A13 A1 c13 c1 X m _ HR1.out HXL.out HX13.out (Kd.C_below H1.out HB13.out)).mono ?_); rintro er w14 ⟨rfl, hd⟩; have HB14 := Aside0.mk (HB13.out.trans ((drawn_below hd).mono HB13.out.size)); have HX14 := Aside0.mk (Kd.C_below HX13.out (drawn_below hd)); clear hd))
      go_ret
      exact ⟨rfl, HB14.out⟩
    | false =>
      go_wp2_with (first
        | (go_at_call 51; (with_reducible refine (open_calls HO5.out HOK.out HC5.out HD12.out).mono ?_); rintro e w13 hq; obtain ⟨Wb13, vs13, vo13, rfl, hv, hb, hr⟩ := op_ok (n0 := w.heap.size) hq rfl HD12.out.base_le HD12.out; have HB13 := Aside0.mk (HB12.out.trans (hb.mono HB12.out.size)); have HBW := Aside0.mk hb; obtain ⟨A13, c13, hvo, hcap, hC⟩ := Kd.R_reads hr; subst hvo; have HX13 := Aside0.mk hC; clear hq hv hb hr hcap hC) | (go_at_call 55; (with_reducible refine (sametexts_calls w13 A13 A1 c13 c1 X m _ HR1.out HXL.out HX13.out (Kd.C_below H1.out HB13.out)).mono ?_); rintro er w14 ⟨rfl, hd⟩; have HB14 := Aside0.mk (HB13.out.trans ((drawn_below hd).mono HB13.out.size)); have HX14 := Aside0.mk (Kd.C_below HX13.out (drawn_below hd)); clear hd)
        | (go_at_call 55; (with_reducible refine (sametexts_calls w14 A13 A0 c13 c0 X l true HR2.out HXM.out HX14.out (Kd.C_below H0.out HB14.out)).mono ?_); rintro er w15 ⟨rfl, hd⟩; have HB15 := Aside0.mk (HB14.out.trans ((drawn_below hd).mono HB14.out.size)); clear hd))
      go_ret
      exact ⟨rfl, HB15.out⟩
set_option maxRecDepth 100000 in
set_option maxHeartbeats 4000000 in
theorem keeps_add (A0 : Option Addr) (c0 : Nat) (l : List (List Int)) (A1 : Option Addr) (c1 : Nat) (m : List (List Int)) (arm : Int) (A4 : Option Addr) (c4 : Nat) (keep : List Bool) (w : World)
    (hc0 : l.length ≤ c0) (hc1 : m.length ≤ c1) (hC0 : bytesK.C w A0 l.length l) (hC1 : bytesK.C w A1 m.length m) (hC4 : Kd.bool.C w A4 keep.length keep) (harm : -9223372036854775808 ≤ arm ∧ arm ≤ 9223372036854775807)
    (h1 : factotumlaw07_few.f (l.length + 1) l = some true) (h2 : factotumlaw07_few.f (m.length + 1) m = some true) (hl : RecsOK l) (hm : RecsOK m) (hk : keep.length ≤ 60) :
    Calls Try.prog 12 #[.slice A0 l.length c0, .slice A1 m.length c1, .bool false, .int .i64 arm, .slice A4 keep.length c4] w fun e w' => e = .returned (.bool true) ∧ Below w.heap.size w w' := by
  obtain ⟨D1, S1, hf, i1⟩ := winv_start (n := 100) (r := 98) (by decide) (by decide)
  have hn := needs_le (R := l) fun b hb => (hl.each b hb).2
  have hmn := needs_le (R := m) fun b hb => (hm.each b hb).2
  have hlen := hl.len
  have hmen := hm.len
  obtain ⟨Da, D2, S2, ha, hac, hs2, i2⟩ := i1.add hl (by omega) (by omega) (by decide)
  rw [Int.zero_add (needs l)] at ha hs2 i2
  rw [List.nil_append] at i2
  replace i2 : WInv D2 S2 98 1 0 (needs l) l := i2
  obtain ⟨D3, st, s, e, hlay, hst, hK⟩ := i2.keeps hm (by omega) (by omega) (by decide) false arm keep
  simp only [Bool.false_eq_true, if_false] at hK
  have HF := Aside0.mk hf
  have HO1 := Aside0.mk i1.open_
  have HI1 := Aside0.mk i1
  have HC0 := Aside0.mk (show (newP 100).cache.length ≤ 800 by decide)
  have HC1 := Aside0.mk (show D1.cache.length ≤ 850 by rw [i1.cache]; decide)
  have HADD := Aside0.mk (add_first (c0 := c0) hl i1 ha hac hs2 hC0)
  have HCHG := Aside0.mk (second_add (c1 := c1) hl hm i2 arm hlay hst hK hC1)
  have HF1 := Aside0.mk (few_at A0 c0 l true hc0 hC0 h1)
  have HF2 := Aside0.mk (few_at A1 c1 m true hc1 hC1 h2)
  have H0 := Aside0.mk hC0
  have H1 := Aside0.mk hC1
  have H4 := Aside0.mk hC4
  have HP1 := Aside0.mk hc1
  have HP0 := Aside0.mk hc0
  have HKK := Aside0.mk hK
  have HARM := Aside0.mk harm
  have HLA := Aside0.mk (show (([] : List (List Int)).length + l.length) * 24 ≤ 140737488355328 by simp; omega)
  have HLB := Aside0.mk (show (l.length + m.length) * 24 ≤ 140737488355328 by omega)
  have HML := Aside0.mk (show l.length ≤ 6 ∧ m.length ≤ 6 from ⟨hlen, hmen⟩)
  have j3 : (keep.length : Int) ≤ 60 := by omega
  obtain ⟨cE, hcE⟩ : ∃ cE, chgE D3 e 0 s (1 + 1) = cE := ⟨_, rfl⟩
  obtain ⟨Dx, hDx⟩ : ∃ Dx, chgD D3 e 0 s (1 + 1) = Dx := ⟨_, rfl⟩
  unfold ChgQ at HCHG
  rw [hcE, hDx] at HCHG
  have hgot := hK.got
  rw [hcE, hDx] at hgot
  have hce2 := chgE_two D3 e 0 s (1 + 1)
  rw [hcE] at hce2
  have HOK := Aside0.mk (show OKD (crashP Dx keep) from by have := hK.ok; rwa [hDx] at this)
  have HCX := Aside0.mk (show Dx.cache.length ≤ 1000 from chgD_cache hDx hK.len)
  obtain ⟨D5, hD5⟩ : ∃ D5, crashP Dx keep = D5 := ⟨_, rfl⟩
  have HC5 := Aside0.mk (show D5.cache.length ≤ 1000 from by rw [← hD5]; exact Nat.zero_le _)
  rw [hD5] at hgot HOK
  obtain ⟨S5, g5, h5, t5, X, i5, hX⟩ := hgot
  have HO5 := Aside0.mk i5.open_
  have HD5 := Aside0.mk hD5
  have hXl : X.length ≤ 1000000 := by
    rcases hX with rfl | ⟨_, rfl⟩
    · rw [List.length_append]; omega
    · omega
  obtain ⟨r1, hr1⟩ : ∃ r1, sameT X (l ++ m) = r1 := ⟨_, rfl⟩
  have hrt1 : X = l ++ m → r1 = true := fun e => by rw [← hr1, e]; exact sameT_refl (l ++ m)
  have hr2 : X = l → sameT X l = true := fun e => by rw [e]; exact sameT_refl l
  have HR1 := Aside0.mk hr1
  have HXL := Aside0.mk (show X.length ≤ 1000000 ∧ (l ++ m).length ≤ 1000000 from ⟨hXl, by rw [List.length_append]; omega⟩)
  have HXM := Aside0.mk (show X.length ≤ 1000000 ∧ l.length ≤ 1000000 from ⟨hXl, by omega⟩)
  clear hf i1 i2 ha hac hs2 hlay hst hK hcE hDx hn hmn hlen hmen hc0 hc1 hC0 hC1 hC4 h1 h2 hl hm hk harm hD5 i5 hXl hr1
  go_enter Try.func12, Try.ntmps12
  go_wp2_with (first
    | (go_at_call 47; (with_reducible refine (awake7_calls _).mono ?_); rintro e w1 ⟨rfl, hb⟩; have HB1 := Aside0.mk hb; clear hb) | (go_at_call 48; (with_reducible refine (HF1.out w1 HB1.out).mono ?_); rintro e w2 ⟨rfl, hb⟩; have HB2 := Aside0.mk hb; clear hb) | (go_at_call 48; (with_reducible refine (HF2.out w2 HB2.out).mono ?_); rintro e w3 ⟨rfl, hb⟩; have HB3 := Aside0.mk hb; clear hb)
    | (go_at_call 15; (with_reducible refine (new_at w w3 100 HB3.out).mono ?_); rintro e w4 ⟨B, M, Bd, rfl, hd⟩; have HD4 := Aside0.mk hd; clear hd) | (go_at_call 49; (with_reducible refine (at_wformat 0 HF.out HC0.out HD4.out).mono ?_); rintro e w5 ⟨rfl, vc5, hd⟩; have HDW5 := Aside0.mk hd; clear hd) | (go_at_call 51; (with_reducible refine (open_calls HO1.out HI1.out.ok (Nat.le_trans HC1.out (by decide)) HDW5.out.dk).mono ?_); rintro e w6 hq; obtain ⟨Wb, vs6, vo6, rfl, hv, hb, hr⟩ := op_ok (n0 := w.heap.size) hq rfl HDW5.out.below.size (at_base HDW5.out); have HV6 := Aside0.mk (show WV w.heap.size w6 Wb B M Bd vc5 vs6 D1 0 0 0 [] false from hv); have HB6 := Aside0.mk (HDW5.out.below.trans (hb.mono HDW5.out.below.size)); clear hq hv hb hr) | (go_at_call 53; (with_reducible refine (HADD.out w6 Wb B M Bd vc5 vs6 HB6.out HV6.out).mono ?_); rintro er w7 ⟨rfl, ht, vc7, vs7, hv⟩; have HV7 := Aside0.mk hv; have HB7 := Aside0.mk (HB6.out.trans ht.low); clear ht hv) | ((with_reducible refine gate_builtin (b := .append) (xs := #[.const (.slice none 0 0), .tmp 49]) rfl ?_); at_builtin; go_loud (refine Kd.R_append_rows (farK w) (W := w7) (w0 := w7) w.heap.size rfl (.const (.slice none 0 0)) (.tmp 49) 50 29 (.slice none 0 0) 24 rfl Try.underlying50 info29k rfl Nat.one_pos (by decide) (.slice none 0 0) [] l A0 l.length c0 (fun _ => True) (fun _ => False) rfl rfl (Kd.R_nil _ _ _ _ _) (far_row H0.out HB7.out) (fun _ _ h => h) (fun _ h => h.elim) (fun _ _ => trivial) (Below.refl _ _) HB7.out.size HLA.out ?_); intro v8 w8 ho hb hg hat; rw [List.nil_append] at ho; have HR8 := Aside0.mk ho; have ht8 := TC.grown (base := w.heap.size) (T := isT 29) hg (fun k hk => by simp [Value.ownBlock] at hk) HB7.out.size; have HV8 := Aside0.mk (HV7.out.t29 ht8); have HB8 := Aside0.mk (HB7.out.trans ht8.low); clear ho hb hg hat ht8) | ((with_reducible refine gate_builtin (b := .append) (xs := #[.tmp 50, .tmp 51]) rfl ?_); at_builtin; go_loud (refine Kd.R_append_rows (farK w) (W := w8) (w0 := w8) w.heap.size rfl (.tmp 50) (.tmp 51) 50 29 (.slice none 0 0) 24 rfl Try.underlying50 info29k rfl Nat.one_pos (by decide) v8 l m A1 m.length c1 (fun _ => True) (fun _ => False) rfl rfl HR8.out (far_row H1.out HB8.out) (fun _ _ h => h) (fun _ h => h.elim) (fun _ _ => trivial) (Below.refl _ _) HB8.out.size HLB.out ?_); intro v9 w9 ho hb hg hat; have HR9 := Aside0.mk ho; have ht9 := TC.grown (base := w.heap.size) (T := isT 29) hg (fun k hk => by obtain ⟨h1, cells, h2⟩ := own_cells HR8.out k hk; exact ⟨h1, _, h2, rfl⟩) HB8.out.size; have HV9 := Aside0.mk (HV8.out.t29 ht9); have HB9 := Aside0.mk (HB8.out.trans ht9.low); clear ho hb hg hat ht9) | (go_at_call 16; (with_reducible refine (at_arm arm HARM.out (At.refl HV9.out.dk)).mono ?_); rintro e w10 ⟨rfl, hd⟩; obtain ⟨hv10, ht10⟩ := HV9.out.disk hd; have HV10 := Aside0.mk hv10; have HB10 := Aside0.mk (HB9.out.trans ht10.low); have HT10 := Aside0.mk ht10; clear hd hv10 ht10)
    | (go_at_call 53; (with_reducible refine (HCHG.out w10 Wb B M Bd _ _ HB10.out HV10.out).mono ?_); rintro er w11 ⟨rfl, ht, vc11, hd⟩; have HT11 := Aside0.mk ht; have HD11 := Aside0.mk hd; have HB11 := Aside0.mk (HB10.out.trans ht.low); clear ht hd)
    | (go_at_call 20; (with_reducible refine (crash_dk A4 c4 keep HD5.out HCX.out (fun w' hc => Kd.C_below H4.out (HB11.out.trans hc.low)) HD11.out).mono ?_); rintro e w12 ⟨rfl, ht, vc12, hd⟩; have HT12 := Aside0.mk ht; have HD12 := Aside0.mk hd; have HB12 := Aside0.mk (HB11.out.trans ht.low); clear ht hd))
  have ht9 := HT10.out.mono (T' := isWD) (fun _ h => .inl h)
  have ht12 := (ht9.trans HT11.out).trans (HT12.out.mono (T' := isWD) (fun _ h => .inl h))
  have HR9b := HR9.out
  clear HR9
  obtain ⟨WW, hWW⟩ : ∃ WW, l ++ m = WW := ⟨_, rfl⟩
  have HX1 := HXL.out
  have HQ1 := HR1.out
  clear HXL HR1
  rw [hWW] at hX hrt1 HR9b HX1 HQ1
  have HXL := Aside0.mk HX1
  have HR1 := Aside0.mk HQ1
  clear HX1 HQ1 hWW
  obtain ⟨A9, c9, hv9, hcap9, hC9⟩ := Kd.R_reads (R_tc HR9b ht12 (fun q hq cells => by
    obtain rfl := q29f q hq
    simp [isWD, isDisk, isT]))
  subst hv9
  have HC9 := Aside0.mk hC9
  clear ht9 ht12 hcap9 hC9 HR9b
  rcases hX with hX | ⟨hne, hX⟩
  · have hr := hrt1 hX
    rw [hr] at HR1
    clear hrt1 hr2 hX hr
    rcases hce2 with hc | hc
    · subst hc
      go_wp2_with (first
        | (go_at_call 51; (with_reducible refine (open_calls HO5.out HOK.out HC5.out HD12.out).mono ?_); rintro e w13 hq; obtain ⟨Wb13, vs13, vo13, rfl, hv, hb, hr⟩ := op_ok (n0 := w.heap.size) hq rfl HD12.out.base_le HD12.out; have HB13 := Aside0.mk (HB12.out.trans (hb.mono HB12.out.size)); have HBW := Aside0.mk hb; obtain ⟨A13, c13, hvo, hcap, hC⟩ := Kd.R_reads hr; subst hvo; have HX13 := Aside0.mk hC; clear hq hv hb hr hcap hC) | (go_at_call 55; (with_reducible refine (sametexts_calls w13 A13 A9 c13 c9 X WW _ HR1.out HXL.out HX13.out (far_C (Kd.C_below HC9.out HBW.out) HB13.out)).mono ?_); rintro er w14 ⟨rfl, hd⟩; have HB14 := Aside0.mk (HB13.out.trans ((drawn_below hd).mono HB13.out.size)); have HX14 := Aside0.mk (Kd.C_below HX13.out (drawn_below hd)); clear hd))
      go_ret
      exact ⟨rfl, HB14.out⟩
    · subst hc
      go_wp2_with (first
        | (go_at_call 51; (with_reducible refine (open_calls HO5.out HOK.out HC5.out HD12.out).mono ?_); rintro e w13 hq; obtain ⟨Wb13, vs13, vo13, rfl, hv, hb, hr⟩ := op_ok (n0 := w.heap.size) hq rfl HD12.out.base_le HD12.out; have HB13 := Aside0.mk (HB12.out.trans (hb.mono HB12.out.size)); have HBW := Aside0.mk hb; obtain ⟨A13, c13, hvo, hcap, hC⟩ := Kd.R_reads hr; subst hvo; have HX13 := Aside0.mk hC; clear hq hv hb hr hcap hC) | (go_at_call 55; (with_reducible refine (sametexts_calls w13 A13 A9 c13 c9 X WW _ HR1.out HXL.out HX13.out (far_C (Kd.C_below HC9.out HBW.out) HB13.out)).mono ?_); rintro er w14 ⟨rfl, hd⟩; have HB14 := Aside0.mk (HB13.out.trans ((drawn_below hd).mono HB13.out.size)); have HX14 := Aside0.mk (Kd.C_below HX13.out (drawn_below hd)); clear hd))
      go_ret
      exact ⟨rfl, HB14.out⟩
  · obtain rfl : cE = 50 := by omega
    have HR2 := Aside0.mk (hr2 hX)
    clear hrt1 hr2 hX
    cases r1 with
    | true =>
      go_wp2_with (first
        | (go_at_call 51; (with_reducible refine (open_calls HO5.out HOK.out HC5.out HD12.out).mono ?_); rintro e w13 hq; obtain ⟨Wb13, vs13, vo13, rfl, hv, hb, hr⟩ := op_ok (n0 := w.heap.size) hq rfl HD12.out.base_le HD12.out; have HB13 := Aside0.mk (HB12.out.trans (hb.mono HB12.out.size)); have HBW := Aside0.mk hb; obtain ⟨A13, c13, hvo, hcap, hC⟩ := Kd.R_reads hr; subst hvo; have HX13 := Aside0.mk hC; clear hq hv hb hr hcap hC) | (go_at_call 55; (with_reducible refine (sametexts_calls w13 A13 A9 c13 c9 X WW _ HR1.out HXL.out HX13.out (far_C (Kd.C_below HC9.out HBW.out) HB13.out)).mono ?_); rintro er w14 ⟨rfl, hd⟩; have HB14 := Aside0.mk (HB13.out.trans ((drawn_below hd).mono HB13.out.size)); have HX14 := Aside0.mk (Kd.C_below HX13.out (drawn_below hd)); clear hd))
      go_ret
      exact ⟨rfl, HB14.out⟩
    | false =>
      go_wp2_with (first
        | (go_at_call 51; (with_reducible refine (open_calls HO5.out HOK.out HC5.out HD12.out).mono ?_); rintro e w13 hq; obtain ⟨Wb13, vs13, vo13, rfl, hv, hb, hr⟩ := op_ok (n0 := w.heap.size) hq rfl HD12.out.base_le HD12.out; have HB13 := Aside0.mk (HB12.out.trans (hb.mono HB12.out.size)); have HBW := Aside0.mk hb; obtain ⟨A13, c13, hvo, hcap, hC⟩ := Kd.R_reads hr; subst hvo; have HX13 := Aside0.mk hC; clear hq hv hb hr hcap hC) | (go_at_call 55; (with_reducible refine (sametexts_calls w13 A13 A9 c13 c9 X WW _ HR1.out HXL.out HX13.out (far_C (Kd.C_below HC9.out HBW.out) HB13.out)).mono ?_); rintro er w14 ⟨rfl, hd⟩; have HB14 := Aside0.mk (HB13.out.trans ((drawn_below hd).mono HB13.out.size)); have HX14 := Aside0.mk (Kd.C_below HX13.out (drawn_below hd)); clear hd)
        | (go_at_call 55; (with_reducible refine (sametexts_calls w14 A13 A0 c13 c0 X l true HR2.out HXM.out HX14.out (Kd.C_below H0.out HB14.out)).mono ?_); rintro er w15 ⟨rfl, hd⟩; have HB15 := Aside0.mk (HB14.out.trans ((drawn_below hd).mono HB14.out.size)); clear hd))
      go_ret
      exact ⟨rfl, HB15.out⟩
theorem wkeeps_walk (A0 : Option Addr) (c0 : Nat) (l : List (List Int)) (A1 : Option Addr) (c1 : Nat) (m : List (List Int)) (swap : Bool) (arm : Int) (A4 : Option Addr) (c4 : Nat) (keep : List Bool) (w : World)
    (hb0 : ∀ x ∈ l, isBytes x) (hb1 : ∀ x ∈ m, isBytes x) (hc0 : l.length ≤ c0) (hc1 : m.length ≤ c1) (hC0 : bytesK.C w A0 l.length l) (hC1 : bytesK.C w A1 m.length m) (hC4 : Kd.bool.C w A4 keep.length keep) (harm : -9223372036854775808 ≤ arm ∧ arm ≤ 9223372036854775807) :
    Calls Try.prog 12 #[.slice A0 l.length c0, .slice A1 m.length c1, .bool swap, .int .i64 arm, .slice A4 keep.length c4] w fun e w' => e = .returned (.bool true) ∧ Below w.heap.size w w' := by
  obtain ⟨r1, h1, q1⟩ := few7_f l hC0.2.1
  obtain ⟨r2, h2, q2⟩ := few7_f m hC1.2.1
  by_cases h : r1 = false ∨ r2 = false ∨ 60 < keep.length
  · exact keeps_out A0 c0 l A1 c1 m swap arm A4 c4 keep.length w r1 r2 hc0 hc1 hC0 hC1 h1 h2 h
  · obtain rfl : r1 = true := by cases r1 with
      | false => exact absurd (.inl rfl) h
      | true => rfl
    obtain rfl : r2 = true := by cases r2 with
      | false => exact absurd (.inr (.inl rfl)) h
      | true => rfl
    have k := q1 rfl
    have k' := q2 rfl
    have hl : RecsOK l := ⟨k.1, fun b hb => ⟨hb0 b hb, k.2 b hb⟩⟩
    have hm : RecsOK m := ⟨k'.1, fun b hb => ⟨hb1 b hb, k'.2 b hb⟩⟩
    cases swap with
    | true => exact keeps_swap A0 c0 l A1 c1 m arm A4 c4 keep w hc0 hc1 hC0 hC1 hC4 harm h1 h2 hl hm (by omega)
    | false => exact keeps_add A0 c0 l A1 c1 m arm A4 c4 keep w hc0 hc1 hC0 hC1 hC4 harm h1 h2 hl hm (by omega)
end Go.Proofs.Ytlepcmljmibdnaa
