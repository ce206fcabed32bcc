/- Parts of one proof, joined: Xf, Pk, Sw, Sk, Wk, Xg. Conditions: those of each statement. -/
import Derived.Test.YtlepcmljmibdnaaGreatQx10
import Derived.Test.YtlepcmljmibdnaaGreatQx9
import Derived.Test.YtlepcmljmibdnaaGreatQx8
import Derived.Test.YtlepcmljmibdnaaGreatQx6
namespace Go.Proofs.YtlepcmljmibdnaaGreat
open Go.RowKit Go.Proofs.YtlepcmljmibdnaaGreatW.PrintWords Go.Proofs.YtlepcmljmibdnaaGreatW.PrintLast Go.Proofs.YtlepcmljmibdnaaGreatW.PrintMore PWalOpens
set_option linter.unusedVariables false
set_option linter.unusedSimpArgs false
theorem rwriteX_ring (X : RX) (a : Int) (b : List Int) : rringX (rwriteX X a b).1 = rringX X := by
  have ha : (ractX X).1.S = X.S := by
    unfold ractX
    split
    · rfl
    · split <;> rfl
  unfold rwriteX rringX
  split
  · rfl
  · split
    · rfl
    · split
      · rfl
      · split
        · rw [ha]
        · show max (((ractX X).1.S.length : Int) - 2) 0 = _
          rw [ha]
theorem drop_at {P : List (List Int)} {i : Nat} (h : i < P.length) : P.drop i = P.getD i [] :: P.drop (i + 1) := by
  rw [List.drop_eq_getElem_cons h]
  simp [List.getD, h]
theorem row_M {α : Type} {d : Kd α} {e base n c : Nat} {w : World} {ok : Nat → Prop} {v : Value} {A : Option Addr} {xs : List α} (h : d.Q e w base ok v xs) (hv : v = .slice A n c) : ReadsRow (d.M w base (fun k => ok k ∧ some k ≠ v.ownBlock)) d.sz w A n xs := by
  subst hv
  obtain ⟨rfl, _, _⟩ := Kd.Q_reads' h
  obtain ⟨_, inner, ho, hr⟩ := h
  refine ⟨rfl, q_max ho, fun hp => ?_⟩
  obtain ⟨ad, ha, hc⟩ := q_cells ho hp
  refine ⟨ad, ha, fun j p hj => ⟨(inner.drop (j * d.sz)).take d.sz, ?_, hr.2 j p hj, fun i u hu => ?_⟩⟩
  · have hjl := (List.getElem?_eq_some_iff.1 hj).1
    have h1 : j * d.sz + d.sz ≤ inner.length := by rw [hr.1, ← Nat.succ_mul]; exact Nat.mul_le_mul_right _ hjl
    rw [List.length_take, List.length_drop]
    omega
  · refine hc _ u ?_
    rw [List.getElem?_take] at hu
    split at hu
    · rw [List.getElem?_drop] at hu
      exact hu
    · cases hu
section
variable {n0 : Nat} {w w' w2 : World} {Rb R : Nat} {vS vC vB vo vo' vL v1 : Value} {X X1 X2 : RX} {gen tail : Int} {L L1 oL : List Rec} {over : Bool}
set_option maxRecDepth 100000 in
set_option maxHeartbeats 8000000 in
theorem rput_add {A : Option Addr} {c : Nat} {P : List (List Int)} {r hh pe e e2 : Int} (hr : rringX X = r) (hr1 : 1 ≤ r) (hP : RecsOK P) (hd : headX L tail = hh) (hf : needs P ≤ r - (tail - hh)) (ht : 0 ≤ hh ∧ hh ≤ tail ∧ tail < 18446744073709551000 ∧ tail - hh ≤ r) (hg : 0 ≤ gen ∧ gen < 18446744073709551615)
    (hlay : rlayR r P X tail L = (X1, oL, pe, e)) (hsv : rsaveX X1 (gen + 1) [headX oL pe, pe] = (X2, e2)) (hpe : 0 ≤ pe ∧ pe < 18446744073709551616) (hho : 0 ≤ headX oL pe ∧ headX oL pe < 18446744073709551616) (hc : X.cache.length ≤ 800) (hLl : L.length ≤ 1000000)
    (h : RV n0 w Rb R vS vC vB vo vL X gen tail L false) (hT : Txts n0 isRW w A P) :
    Calls Tryz.prog 59 #[.pointer (some ⟨Rb, 0, none⟩), .slice A P.length c, .bool false] w (PutQ n0 w Rb R vS vB X X1 X2 gen tail pe L oL e e2) := by
  have HH := Aside0.mk h
  have HT := Aside0.mk hT
  have HPo := Aside0.mk hP
  have HR := Aside0.mk hr
  have HD := Aside0.mk hd
  have HTB := Aside0.mk (show 0 ≤ hh ∧ hh ≤ tail ∧ tail < 18446744073709551616 ∧ tail - hh ≤ r by omega)
  have HTL := Aside0.mk (show 0 ≤ tail ∧ tail < 18446744073709551000 by omega)
  have HLAY := Aside0.mk hlay
  have HSV := Aside0.mk hsv
  have HG := Aside0.mk hg
  have HPE := Aside0.mk hpe
  have HHO := Aside0.mk hho
  have HCC := Aside0.mk hc
  have HLL := Aside0.mk hLl
  have HR1 := Aside0.mk hr1
  have HN0 := Aside0.mk (show n0 ≤ w.heap.size from h.rk.base_le)
  have hplen : (P.length : Int) ≤ 6 := by have := hP.len; omega
  have g42 := needs_le (R := P) (fun b hb => (hP.each b hb).2)
  have hf2 : decide (r - (tail - hh) < needs P) = false := decide_eq_false (by omega)
  obtain ⟨⟨q0, q1, q2, q3, q4⟩, _⟩ := cells5 h.blk
  clear h hT hr hP hd ht hf hlay hsv hg hpe hho hc hLl hr1 q0 q1 q2 q3
  go_enter Tryz.func59, Tryz.ntmps59
  go_wp2
  go_loopg [7, 23] P.length (fun kq v7 v23 w' => ∃ i : Nat, v23 = .int .i64 (i : Int) ∧ v7 = .int .i64 (needs (P.take i)) ∧ Aside0 (i + kq = P.length) ∧ Aside0 (Below w.heap.size w w'))
  case atStart => exact ⟨0, rfl, rfl, ⟨by omega⟩, ⟨Below.refl _ _⟩⟩
  case round =>
    obtain ⟨i, rfl, rfl, HI, HB⟩ := hrel
    by_cases hlt : i < P.length
    · (have hlt' : (i : Int) < (P.length : Int) := by omega); obtain ⟨ad, A9, c9, rfl, hTi⟩ := HT.out i hlt; have hcw := hTi wr (TC.of_below HB.out HH.out.rk.base_le); obtain ⟨hc9, hl9, hC9⟩ := hcw; have HTI := Aside0.mk hTi; have hRi := HPo.out.getD i; obtain ⟨x, hx⟩ : ∃ x, P.getD i [] = x := ⟨_, rfl⟩; rw [hx] at hc9 hl9 hC9 hRi HTI; obtain ⟨m, hm⟩ : ∃ m, needN x = m := ⟨_, rfl⟩; (have hmb : 1 ≤ m ∧ m ≤ 7 := by rw [← hm]; unfold needN; rw [if_neg (by omega)]; omega); have HM := Aside0.mk (show needs (P.take (i + 1)) = needs (P.take i) + m from by rw [needs_take hlt, hx, hm]); have HC9 := Aside0.mk hC9; clear hTi hl9 hC9; have HN5 := Aside0.mk (fun (W : World) (hW : Below wr.heap.size wr W) => rneed_calls W A9 c9 x m hm hRi.1 (by omega) (Kd.C_below HC9.out hW)); have m0 : 1 ≤ m := hmb.1; have m1 : m ≤ 7 := hmb.2; (have hmn : (m == 0) = false := by simp; omega); have g0 : 0 ≤ needs (P.take i) := (needs_le (R := P.take i) (fun b hb => (HPo.out.each b (List.mem_of_mem_take hb)).2)).1; have g1 : needs (P.take i) ≤ 42 := (by have := (needs_le (R := P.take i) (fun b hb => (HPo.out.each b (List.mem_of_mem_take hb)).2)).2; rw [List.length_take] at this; omega)
      go_wp2_with (first
        | (go_at_call 108; (with_reducible refine (HN5.out wr (Below.refl _ _)).mono ?_); rintro e w5 ⟨rfl, hb5⟩; have HB5 := Aside0.mk hb5; clear hb5)
        | (go_at_call 108; (with_reducible refine (HN5.out w5 HB5.out).mono ?_); rintro e w6 ⟨rfl, hb5⟩; have HB6 := Aside0.mk (HB5.out.trans (hb5.mono HB5.out.size)); clear hb5))
      obtain ⟨gq, rfl⟩ : ∃ gq, gk = gq + 1 := ⟨gk - 1, by have := HI.out; omega⟩
      go_roundg gq
      case rel => exact ⟨i + 1, by go_num, by rw [HM.out], ⟨by have := HI.out; omega⟩, ⟨HB.out.trans (HB6.out.mono HB.out.size)⟩⟩
      case measure => omega
    · have hm' : ¬ ((i : Int) < (P.length : Int)) := by omega
      obtain rfl : i = P.length := by have := HI.out; omega
      have HV := Aside0.mk (HH.out.fresh HB.out)
      have HFR := Aside0.mk (rfree_calls HR.out HD.out HTB.out HV.out)
      rw [List.take_length]
      obtain ⟨AL, cL, hvL, _⟩ := Kd.Q_slice HV.out.L
      have HVL := Aside0.mk hvL
      have HLA := Aside0.mk (show (([] : List Rec).length + L.length) * 40 ≤ 140737488355328 by simp; have := HLL.out; omega)
      go_wp2_with (first
        | (go_at_call 29; (with_reducible refine HFR.out.mono ?_); rintro e w5 ⟨rfl, hd6⟩; have HB5 := Aside0.mk (HB.out.trans (hd6.below.mono HB.out.size)); have HV5 := Aside0.mk (HV.out.fresh hd6.below); obtain ⟨⟨z0, z1, z2, z3, z4⟩, _⟩ := cells5 HV5.out.blk; rw [HVL.out] at z3; clear hd6)
        | ((with_reducible refine gate_builtin (b := .append) (xs := #[.tmp 41, .tmp 45]) rfl ?_); at_builtin; go_loud (refine Kd.R_append_rows recK (W := w5) (w0 := w5) n0 rfl (.tmp 41) (.tmp 45) 53 112 (.agg #[.slice none 0 0, .int .u64 0, .int .u64 0]) 40 rfl Tryz.underlying53 info138 rfl (by decide) (by decide) (.slice none 0 0) [] L AL L.length cL (fun _ => True) (fun k => (some k ≠ vo.ownBlock) ∧ some k ≠ vL.ownBlock) rfl rfl (Kd.R_nil _ _ _ _ _) (row_M HV5.out.L HVL.out) (fun _ _ h => h) (fun k hk => ⟨trivial, fun e => by simp [Value.ownBlock] at e⟩) (fun _ _ => trivial) (Below.refl _ _) HV5.out.rk.base_le HLA.out ?_); intro v6 w6 ho hb hg hat; rw [List.nil_append] at ho; have HO6 := Aside0.mk ho; have HV6 := Aside0.mk (HV5.out.any.grow (Kd.R_nil _ _ _ _ _) hg hat); have HT6 := Aside0.mk ((TC.of_below (T := isRW) HB5.out HN0.out).grow_new hg HN0.out (fun k hk => by simp [Value.ownBlock] at hk)); have HNB6 := Aside0.mk (show ∀ k, v6.ownBlock = some k → w.heap.size ≤ k from fun k hk => by rcases hat with e | ⟨b, e, hb⟩; (rw [e] at hk; simp [Value.ownBlock] at hk); (rw [e] at hk; cases hk; exact Nat.le_trans HB5.out.size hb)); obtain ⟨⟨y0, y1, y2, y3, y4⟩, _⟩ := cells5 HV6.out.blk; clear ho hb hg hat))
      have HS0 := Aside0.mk (And.intro HT6.out (And.intro HV6.out (And.intro HO6.out HNB6.out)))
      clear HH HV HB HI
      go_loopg [10, 11, 53] P.length (fun kq v10 v11 v53 w' => ∃ (i : Nat) (p : Int) (o : List Rec) (X' : RX) (vC' : Value), v53 = .int .i64 (i : Int) ∧ v11 = .int .u64 p ∧ Aside0 (i + kq = P.length) ∧ Aside0 (TC n0 isRW w w' ∧ RV n0 w' Rb R vS vC' vB v10 vL X' gen tail L false ∧ Kd.R recK 112 w' n0 (fun _ => True) v10 o ∧ ∀ k, v10.ownBlock = some k → w.heap.size ≤ k) ∧ Aside0 (rlayR r (P.drop i) X' p o = (X1, oL, pe, e)) ∧ Aside0 (tail ≤ p ∧ p ≤ tail + 7 * i) ∧ Aside0 (o.length ≤ L.length + i) ∧ Aside0 (X'.cache.length ≤ X.cache.length + 7 * i) ∧ Aside0 (rringX X' = r))
      case atStart => exact ⟨0, tail, L, X, _, rfl, rfl, ⟨by omega⟩, HS0, HLAY, ⟨by simp⟩, ⟨by simp⟩, ⟨by simp⟩, HR⟩
      case round =>
        obtain ⟨i, p, o, X', vC', rfl, rfl, HI, HS, HLY, HP, HOL, HXC, HRX⟩ := hrel
        clear HS0 HLAY
        obtain ⟨Ao, co, rfl⟩ := Kd.R_slice HS.out.2.2.1
        obtain ⟨HS1, HS2, HS3, HS4⟩ := HS.out
        by_cases hlt : i < P.length
        · have hlt' : (i : Int) < (P.length : Int) := by omega
          obtain ⟨gq, rfl⟩ : ∃ gq, gk = gq + 1 := ⟨gk - 1, by have := HI.out; omega⟩
          obtain ⟨ad, A9, c9, rfl, hTi⟩ := HT.out i hlt
          obtain ⟨hc9, hl9, hC9⟩ := hTi wr HS1
          have hRi := HPo.out.getD i
          have hly := HLY.out
          rw [drop_at hlt] at hly
          obtain ⟨x, hx⟩ : ∃ x, P.getD i [] = x := ⟨_, rfl⟩
          rw [hx] at hc9 hl9 hC9 hRi hTi hly
          have HTI := Aside0.mk hTi
          have HXB := Aside0.mk hRi
          have HFRM := Aside0.mk (rframe_calls wr A9 c9 x hRi.1 (by omega) hC9)
          have hfx : frameX x = frameB x := by unfold frameX; rw [if_neg (by omega)]
          unfold rlayR at hly
          rw [hfx] at hly
          obtain ⟨Xf, pf, ef, hCh⟩ : ∃ Xf pf ef, rlayC r (chs (frameB x)) X' p = (Xf, pf, ef) := ⟨_, _, _, rfl⟩
          rw [hCh] at hly
          simp only at hly
          obtain ⟨K, hK⟩ : ∃ K, (x.length + 7 + 63) / 64 = K := ⟨_, rfl⟩
          have HK7 := Aside0.mk (show K ≤ 7 by omega)
          have HFL := Aside0.mk (frameB_len x)
          obtain ⟨fb, hfb⟩ : ∃ fb, frameB x = fb := ⟨_, rfl⟩
          rw [hfb] at HFRM hCh HFL
          have HL2 := Aside0.mk hly
          have HCH := Aside0.mk hCh
          have HKK := Aside0.mk hK
          have HBS := Aside0.mk (show n0 ≤ wr.heap.size from HS2.rk.base_le)
          have hxl : (x.length : Int) ≤ 400 := by omega
          clear hl9 hC9 hRi hTi hly hCh hx hfx hfb hK HLY
          go_wp2_with (first
            | (go_at_call 104; (with_reducible refine HFRM.out.mono ?_); rintro er w8 ⟨A8, c8, rfl, hb8, ho8⟩; have HT8 := Aside0.mk (HS1.trans (TC.of_below hb8 HBS.out)); have HV8 := Aside0.mk (HS2.fresh hb8); have HO8 := Aside0.mk (Kd.R_below HS3 hb8); have HF8 := Aside0.mk ho8; clear hb8 ho8))
          clear HS1 HS2 HS3 HFRM
          have HSB := Aside0.mk (show ∀ W, TC n0 isRef w8 W → SB W A8 c8 fb from fun W hc => by have q := OwnB.tc HF8.out hc; rw [← HFL.out] at q; exact SB.of_R q)
          rw [← HFL.out]
          go_loopg [11, 14] K (fun kq v11 v14 w' => ∃ (q : Int) (f : List Int) (Af : Option Addr) (cf : Nat) (X'' : RX) (vC'' : Value), v11 = .int .u64 q ∧ v14 = .slice Af f.length cf ∧ Aside0 ((f.length + 63) / 64 = kq) ∧ Aside0 (TC n0 isRef w8 w' ∧ RV n0 w' Rb R vS vC'' vB (.slice Ao o.length co) vL X'' gen tail L false ∧ ∀ W, TC n0 isRef w8 W → SB W Af cf f) ∧ Aside0 (rlayC r (chs f) X'' q = (Xf, pf, ef)) ∧ Aside0 (p ≤ q ∧ q + kq = p + K) ∧ Aside0 (X''.cache.length + kq ≤ X'.cache.length + K) ∧ Aside0 (rringX X'' = r))
          case atStart => exact ⟨p, fb, A8, c8, X', _, rfl, rfl, ⟨by rw [HFL.out]; exact HKK.out⟩, ⟨TC.refl _ _ _, HV8.out, HSB.out⟩, HCH, ⟨by omega⟩, ⟨by omega⟩, HRX⟩
          case round =>
            obtain ⟨q, f, Af, cf, X'', vC'', rfl, rfl, HFQ, HZ, HCQ, HQ, HXQ, HRQ⟩ := hrel
            clear HSB HCH HV8
            obtain ⟨HZ1, HZ2, HZ3⟩ := HZ.out
            by_cases hf0 : f.length = 0
            · obtain rfl : f = [] := List.eq_nil_of_length_eq_zero hf0
              obtain rfl : gk = 0 := by have := HFQ.out; simp at this; exact this.symm
              have hcq := HCQ.out
              rw [chs_nil] at hcq
              unfold rlayC at hcq
              cases hcq
              have h2 := HL2.out
              rw [if_neg (by simp)] at h2
              have HL3 := Aside0.mk h2
              have HTW := Aside0.mk (HT8.out.trans (HZ1.mono fun _ h => .inl h))
              obtain ⟨_, hl9, hC9⟩ := HTI.out wr HTW.out
              have HC9 := Aside0.mk hC9
              have HXL := Aside0.mk (show (([] : List Int).length + x.length) * 1 ≤ 140737488355328 by simp; omega)
              have HOLN := Aside0.mk (show (o.length + 1) * 40 ≤ 140737488355328 by have := HOL.out; have := HLL.out; omega)
              have HOW := Aside0.mk (R_tc HO8.out HZ1 (fun q hq cells => by rcases q138 q hq with rfl | rfl <;> simp [isRef]))
              clear h2 hC9 hl9
              go_wp2_with (first
                | ((with_reducible refine gate_builtin (b := .append) (xs := #[.const (.slice none 0 0), .tmp 94]) rfl ?_); at_builtin; go_loud (refine Kd.R_append_rows (Kd.int .u8) (W := wr) (w0 := wr) wr.heap.size rfl (.const (.slice none 0 0)) (.tmp 94) 58 5 (.int .u8 0) 1 rfl Tryz.underlying58 info5e rfl (by decide) (by decide) (.slice none 0 0) [] x A9 x.length c9 (fun _ => True) (fun _ => False) rfl rfl (Kd.R_nil _ _ _ _ _) HC9.out (fun _ _ h => h) (fun _ h => h.elim) (fun _ _ => trivial) (Below.refl _ _) (Nat.le_refl _) HXL.out ?_); intro v5 w5 ho hb hg hat; rw [List.nil_append] at ho; have HB5 := Aside0.mk hb; have HR5 := Aside0.mk ho; obtain ⟨A5, c5, hv5⟩ := Kd.R_slice ho; subst hv5; clear ho hb hg hat)
                | ((with_reducible refine gate_builtin (b := .append) (xs := #[.tmp 93, .tmp 99]) rfl ?_); at_builtin; go_loud (refine Kd.R_append recK (W := w5) (w0 := w5) n0 rfl (.tmp 93) (.tmp 99) 53 112 (.agg #[.slice none 0 0, .int .u64 0, .int .u64 0]) 40 rfl Tryz.underlying53 info138 rfl (by decide) (by decide) _ o (x, p, pf) [.slice A5 x.length c5, .int .u64 p, .int .u64 pf] (fun _ => True) (fun k => wr.heap.size ≤ k) rfl rfl (rec_M HR5.out HZ2.rk.base_le) (fun k hk => ⟨trivial, own_past HOW.out hk⟩) (fun _ _ => trivial) (Kd.R_below HOW.out HB5.out) (Below.refl _ _) (Nat.le_trans HZ2.rk.base_le HB5.out.size) HOLN.out ?_); intro v6 w6 ho hb hg hat; have HS6 := Aside0.mk (And.intro ((HTW.out.trans (TC.of_below HB5.out HZ2.rk.base_le)).grow_new hg HN0.out (fun k hk => HS4 k hk)) (And.intro ((HZ2.fresh HB5.out).grow (Kd.R_below HOW.out HB5.out) hg hat) (And.intro ho (show ∀ k, v6.ownBlock = some k → w.heap.size ≤ k from fun k hk => by rcases hat with e | ⟨b, e, hb⟩; (rw [e] at hk; exact HS4 k hk); (rw [e] at hk; cases hk; exact Nat.le_trans (Nat.le_trans HTW.out.low.size HB5.out.size) hb))))); clear ho hb hg hat))
              go_roundg gq
              case rel => exact ⟨i + 1, pf, o ++ [(x, p, pf)], Xf, _, by go_num, rfl, ⟨by have := HI.out; omega⟩, HS6, HL3, ⟨by have := HQ.out; have := HP.out; have := HK7.out; omega⟩, ⟨by rw [List.length_append, List.length_singleton]; have := HOL.out; omega⟩, ⟨by have := HXQ.out; have := HXC.out; have := HK7.out; omega⟩, HRQ⟩
              case measure => omega
            · have hfp : 0 < f.length := by omega
              have hfp' : (0 : Int) < (f.length : Int) := by omega
              have hbd := (Below.refl wr.heap.size wr).drew
              obtain ⟨gi, rfl⟩ : ∃ gi, gk = gi + 1 := ⟨gk - 1, by have := HFQ.out; omega⟩
              have hcq := HCQ.out
              rw [chs_cons hfp] at hcq
              unfold rlayC at hcq
              have hsb := HZ3 wr HZ1
              obtain ⟨adf, hadf⟩ : ∃ adf, Af = some adf := by
                cases Af with
                | none => have := (hsb.none_ rfl).1; omega
                | some a => exact ⟨a, rfl⟩
              subst hadf
              have hfc := hsb.cap
              have hf7 : f.length ≤ 448 := by have := HFQ.out; have := HQ.out; have := HK7.out; omega
              have HZ3' := HZ3
              obtain ⟨X3, e3, hw3⟩ : ∃ X3 e3, rwriteX X'' (sectP r q) (f.take 64) = (X3, e3) := ⟨_, _, rfl⟩
              have HX3 := Aside0.mk hw3
              rw [hw3] at hcq
              simp only at hcq
              have hr1 := HR1.out
              have hrb : r ≤ 4094 := by have := HZ2.rk.ok.hn; rw [← HRQ.out]; unfold rringX; omega
              have m0 : 0 ≤ q % r := Int.emod_nonneg _ (by omega)
              have m1 : q % r < r := Int.emod_lt_of_pos _ (by omega)
              have m2 : q % r ≤ 4094 := by omega
              have hq0 : 0 ≤ q := by have := HQ.out; have := HP.out; have := HTL.out; omega
              have hrn : ¬ r = 0 := by omega
              have htm : q.tmod r = q % r := Int.tmod_eq_emod_of_nonneg hq0
              have hw1 : IntKind.i64.wrap (q % r) = q % r := IntWalk.i64_in _ (by omega)
              have hw2 : IntKind.i64.wrap (2 + q % r) = 2 + q % r := IntWalk.i64_in _ (by omega)
              have hq1 : q + 1 < 18446744073709551616 := by have := HQ.out; have := HP.out; have := HTL.out; have := HK7.out; have := HI.out; omega
              have HRG := Aside0.mk (rring_calls wr.drew n0 R vS vC'' vB X'' r HRQ.out (HZ2.rk.fresh hbd))
              obtain ⟨⟨q0, q1, q2, q3, q4⟩, _⟩ := cells5 HZ2.blk
              clear q1 q2 q3
              by_cases h64 : 64 < f.length
              · have h64i : (64 : Int) < (f.length : Int) := by omega
                have hA2 : (64 : Int) ≤ (cf : Int) := by omega
                have hcl : (f.take 64).length = 64 := by rw [List.length_take]; omega
                have hA1 : (if cf = 64 then some adf else some { block := adf.block, off := adf.off + 64 }) = some { block := adf.block, off := adf.off + 64 } := if_neg (by omega)
                have HT1 := Aside0.mk (fun W hc => (HZ3' W hc).tail (by decide) (by omega) hA1)
                have e64 : (64 : Int) ≤ (f.length : Int) := by omega
                have HRW := Aside0.mk (show Calls Tryz.prog 95 #[.pointer (some ⟨R, 0, none⟩), .int .i64 (2 + q % r), .slice (some adf) 64 cf] wr.drew fun e w' => e = .returned (.int .i64 e3) ∧ TC n0 isRef wr.drew w' ∧ ∃ vC', RK w' n0 R vS vC' vB X3 from by
                  have hq := rwrite_calls wr.drew n0 R vS vC'' vB X'' X3 (sectP r q) e3 (some adf) cf (f.take 64) hw3 (HZ2.rk.fresh hbd) (by have := HXQ.out; have := HXC.out; have := HK7.out; have := HCC.out; omega) (fun W hc => Kd.C_take (m := 64) (HZ3' W ((HZ1.trans (TC.of_below hbd HZ2.rk.base_le)).trans hc)).C (by omega))
                  rw [hcl] at hq
                  exact hq)
                have HCL := Aside0.mk hcl
                clear hw3 hcl hA1
                go_wp2_with fail
                refine Fork.wp_fork (Fork.Lo.rel 0) [16] [] (.one 0 0 (.one 1 0 (.one 2 0 (.one 4 0 (.one 5 0 (.one 6 0 (.one 7 0 (.one 13 0 (.one 14 0 (.one 15 0 (.one 3 1 (.one 8 1 (.one 9 2 (.one 10 0 (.one 11 0 (.one 12 0 (.one 16 2 (.one 17 0 .nil)))))))))))))))))) (by kernel_rfl) (by kernel_rfl) ?_
                generalize hops : List.toArray (_ : List Oper) = ops
                have HO := Aside0.mk hops
                clear hops
                iterate 10 ((refine Fork.plain (Fork.at_ HO.out rfl) _ rfl (fun W => by go_simp; exact rfl) ?_); simp only [Act.put, List.setIfInBounds_toArray, List.set_cons_succ, List.set_cons_zero])
                refine Fork.reads (Fork.at_ HO.out rfl) _ rfl (fun W hW => Arr.ex_load1 rfl rfl (by kernel_rfl) (Fork.bel_cell hW (by assumption))) ?_
                simp only [Act.put, List.setIfInBounds_toArray, List.set_cons_succ, List.set_cons_zero]
                refine Fork.reads (Fork.at_ HO.out rfl) _ rfl (fun W hW => Arr.ex_load1 rfl rfl (by kernel_rfl) (Fork.bel_cell hW (by assumption))) ?_
                simp only [Act.put, List.setIfInBounds_toArray, List.set_cons_succ, List.set_cons_zero]
                refine Fork.step (Fork.at_ HO.out rfl) (fun K hK => ?_)
                go_simp
                refine HRG.out.mono ?_
                rintro er w' ⟨rfl, rfl⟩
                refine hK _ _ (.of_new (Below.refl _ _) (Nat.zero_le _)) ?_
                clear hK K
                try simp only [Act.put, List.setIfInBounds_toArray, List.set_cons_succ, List.set_cons_zero]
                iterate 3 ((refine Fork.plain (Fork.at_ HO.out rfl) _ rfl (fun W => by go_simp; exact rfl) ?_); simp only [Act.put, List.setIfInBounds_toArray, List.set_cons_succ, List.set_cons_zero])
                refine Fork.step (Fork.at_ HO.out rfl) (fun K hK => ?_)
                go_simp
                (with_reducible refine HRW.out.mono ?_)
                rintro er w5 ⟨rfl, ht5, vC5, hr5⟩
                refine hK _ _ (Fork.Grow.of_old (Fork.Lo.zero ht5.low.os ht5.low.tape ht5.low.output) rfl) ?_
                clear hK K
                have HV5 := Aside0.mk ((HZ2.fresh hbd).ref ht5 hr5)
                have HT5 := Aside0.mk (HZ1.trans ((TC.of_below hbd HZ2.rk.base_le).trans ht5))
                clear ht5 hr5
                try simp only [Act.put, List.setIfInBounds_toArray, List.set_cons_succ, List.set_cons_zero]
                ((refine Fork.plain (Fork.at_ HO.out rfl) _ rfl (fun W => by go_simp; exact rfl) ?_); simp only [Act.put, List.setIfInBounds_toArray, List.set_cons_succ, List.set_cons_zero])
                refine Fork.done ?_
                by_cases he3 : e3 = 0
                · subst he3
                  rw [if_neg (by simp)] at hcq
                  have HCN := Aside0.mk hcq
                  clear hcq
                  go_wp2
                  go_roundg gi
                  case rel => exact ⟨q + 1, f.drop 64, _, cf - 64, X3, vC5, rfl, by rw [List.length_drop], ⟨by rw [List.length_drop]; have := HFQ.out; omega⟩, ⟨HT5.out, HV5.out, HT1.out⟩, HCN, ⟨by have := HQ.out; omega⟩, ⟨by have h1 := rwriteX_cache X'' (sectP r q) (f.take 64); rw [HX3.out] at h1; have := HXQ.out; simp only at h1; omega⟩, ⟨by have h1 := rwriteX_ring X'' (sectP r q) (f.take 64); rw [HX3.out] at h1; exact h1.trans HRQ.out⟩⟩
                  case measure => omega
                · have he3' : (e3 != 0) = true := by simpa using he3
                  rw [if_pos he3] at hcq
                  have HCN := Aside0.mk hcq
                  obtain ⟨⟨z0, z1, z2, z3, z4⟩, y0, y1, y2, y3, y4⟩ := cells5 HV5.out.blk
                  clear hcq he3
                  go_wp2
                  go_ret
                  have h1 := HCN.out
                  cases h1
                  have h2 := HL2.out
                  rw [if_pos (by decide)] at h2
                  cases h2
                  exact ⟨HT8.out.trans ((HT5.out.mono fun _ h => .inl h).trans ((HV5.out.set 4 _).mono fun _ h => .inr h)), vC5, vL, fun h => absurd h (by decide), fun _ => ⟨rfl, HV5.out.any.overed⟩, fun h => absurd h (by decide), fun h => absurd h (by decide)⟩
              · have h64i : ¬ ((64 : Int) < (f.length : Int)) := by omega
                have hA2 : (f.length : Int) ≤ (cf : Int) := by omega
                have hcl : (f.take 64).length = f.length := by rw [List.length_take]; omega
                obtain ⟨A1, hA1⟩ : ∃ A1, (if cf = f.length then some adf else some (adf.add f.length)) = A1 := ⟨_, rfl⟩
                have htk : f.take 64 = f := List.take_of_length_le (by omega)
                have HT1 := Aside0.mk (fun W hc => (HZ3' W hc).tail' hfp (Nat.le_refl _) hA1)
                have HRW := Aside0.mk (show Calls Tryz.prog 95 #[.pointer (some ⟨R, 0, none⟩), .int .i64 (2 + q % r), .slice (some adf) f.length cf] wr.drew fun e w' => e = .returned (.int .i64 e3) ∧ TC n0 isRef wr.drew w' ∧ ∃ vC', RK w' n0 R vS vC' vB X3 from by
                  have hq := rwrite_calls wr.drew n0 R vS vC'' vB X'' X3 (sectP r q) e3 (some adf) cf (f.take 64) hw3 (HZ2.rk.fresh hbd) (by have := HXQ.out; have := HXC.out; have := HK7.out; have := HCC.out; omega) (fun W hc => (by rw [htk]; exact (HZ3' W ((HZ1.trans (TC.of_below hbd HZ2.rk.base_le)).trans hc)).C))
                  rw [hcl] at hq
                  exact hq)
                have HCL := Aside0.mk hcl
                clear hw3 hcl htk
                go_wp2_with fail
                refine Fork.wp_fork (Fork.Lo.rel 0) [16] [] (.one 0 0 (.one 1 0 (.one 2 0 (.one 4 0 (.one 5 0 (.one 6 0 (.one 7 0 (.one 13 0 (.one 14 0 (.one 15 0 (.one 3 1 (.one 8 1 (.one 9 2 (.one 10 0 (.one 11 0 (.one 12 0 (.one 16 2 (.one 17 0 .nil)))))))))))))))))) (by kernel_rfl) (by kernel_rfl) ?_
                generalize hops : List.toArray (_ : List Oper) = ops
                have HO := Aside0.mk hops
                clear hops
                iterate 10 ((refine Fork.plain (Fork.at_ HO.out rfl) _ rfl (fun W => by go_simp; exact rfl) ?_); simp only [Act.put, List.setIfInBounds_toArray, List.set_cons_succ, List.set_cons_zero])
                refine Fork.reads (Fork.at_ HO.out rfl) _ rfl (fun W hW => Arr.ex_load1 rfl rfl (by kernel_rfl) (Fork.bel_cell hW (by assumption))) ?_
                simp only [Act.put, List.setIfInBounds_toArray, List.set_cons_succ, List.set_cons_zero]
                refine Fork.reads (Fork.at_ HO.out rfl) _ rfl (fun W hW => Arr.ex_load1 rfl rfl (by kernel_rfl) (Fork.bel_cell hW (by assumption))) ?_
                simp only [Act.put, List.setIfInBounds_toArray, List.set_cons_succ, List.set_cons_zero]
                refine Fork.step (Fork.at_ HO.out rfl) (fun K hK => ?_)
                go_simp
                refine HRG.out.mono ?_
                rintro er w' ⟨rfl, rfl⟩
                refine hK _ _ (.of_new (Below.refl _ _) (Nat.zero_le _)) ?_
                clear hK K
                try simp only [Act.put, List.setIfInBounds_toArray, List.set_cons_succ, List.set_cons_zero]
                iterate 3 ((refine Fork.plain (Fork.at_ HO.out rfl) _ rfl (fun W => by go_simp; exact rfl) ?_); simp only [Act.put, List.setIfInBounds_toArray, List.set_cons_succ, List.set_cons_zero])
                refine Fork.step (Fork.at_ HO.out rfl) (fun K hK => ?_)
                go_simp
                (with_reducible refine HRW.out.mono ?_)
                rintro er w5 ⟨rfl, ht5, vC5, hr5⟩
                refine hK _ _ (Fork.Grow.of_old (Fork.Lo.zero ht5.low.os ht5.low.tape ht5.low.output) rfl) ?_
                clear hK K
                have HV5 := Aside0.mk ((HZ2.fresh hbd).ref ht5 hr5)
                have HT5 := Aside0.mk (HZ1.trans ((TC.of_below hbd HZ2.rk.base_le).trans ht5))
                clear ht5 hr5
                try simp only [Act.put, List.setIfInBounds_toArray, List.set_cons_succ, List.set_cons_zero]
                ((refine Fork.plain (Fork.at_ HO.out rfl) _ rfl (fun W => by go_simp; exact rfl) ?_); simp only [Act.put, List.setIfInBounds_toArray, List.set_cons_succ, List.set_cons_zero])
                refine Fork.done ?_
                by_cases he3 : e3 = 0
                · subst he3
                  rw [if_neg (by simp)] at hcq
                  have HCN := Aside0.mk hcq
                  clear hcq
                  go_wp2
                  have hdd : f.drop 64 = f.drop f.length := by rw [List.drop_of_length_le (by omega), List.drop_of_length_le (Nat.le_refl _)]
                  have HCN2 := Aside0.mk (show rlayC r (chs (f.drop f.length)) X3 (q + 1) = (Xf, pf, ef) from by rw [← hdd]; exact HCN.out)
                  go_roundg gi
                  case rel => exact ⟨q + 1, f.drop f.length, A1, cf - f.length, X3, vC5, rfl, by simp, ⟨by rw [List.length_drop]; have := HFQ.out; omega⟩, ⟨HT5.out, HV5.out, HT1.out⟩, HCN2, ⟨by have := HQ.out; omega⟩, ⟨by have h1 := rwriteX_cache X'' (sectP r q) (f.take 64); rw [HX3.out] at h1; have := HXQ.out; simp only at h1; omega⟩, ⟨by have h1 := rwriteX_ring X'' (sectP r q) (f.take 64); rw [HX3.out] at h1; exact h1.trans HRQ.out⟩⟩
                  case measure => omega
                · have he3' : (e3 != 0) = true := by simpa using he3
                  rw [if_pos he3] at hcq
                  have HCN := Aside0.mk hcq
                  obtain ⟨⟨z0, z1, z2, z3, z4⟩, y0, y1, y2, y3, y4⟩ := cells5 HV5.out.blk
                  clear hcq he3
                  go_wp2
                  go_ret
                  have h1 := HCN.out
                  cases h1
                  have h2 := HL2.out
                  rw [if_pos (by decide)] at h2
                  cases h2
                  exact ⟨HT8.out.trans ((HT5.out.mono fun _ h => .inl h).trans ((HV5.out.set 4 _).mono fun _ h => .inr h)), vC5, vL, fun h => absurd h (by decide), fun _ => ⟨rfl, HV5.out.any.overed⟩, fun h => absurd h (by decide), fun h => absurd h (by decide)⟩
        · have hm' : ¬ ((i : Int) < (P.length : Int)) := by omega
          have hly := HLY.out
          rw [List.drop_of_length_le (by omega)] at hly
          unfold rlayR at hly
          cases hly
          have HTU := Aside0.mk (rturn_calls e2 rfl HSV.out HG.out HHO.out HPE.out (by have := HXC.out; have := HCC.out; have := HI.out; omega) HS2 (Kd.Q_of_R HS3))
          clear HS3
          go_wp2_with (first
            | (go_at_call 61; (with_reducible refine HTU.out.mono ?_); rintro er w6 ⟨ht6, vC6, hq1, hq2⟩; have HT6 := Aside0.mk (HS1.trans ht6); have HQ6 := Aside0.mk (And.intro hq1 hq2); obtain ⟨x6, rfl⟩ : ∃ x6, er = .returned (.int .i64 x6) := ret_code HQ6.out.1 HQ6.out.2; clear ht6 hq1 hq2))
          go_ret
          refine ⟨HT6.out, vC6, if e2 = 0 then .slice Ao oL.length co else vL, fun h => absurd h (by decide), fun h => absurd h (by decide), fun _ h2 => ?_, fun _ h2 => ?_⟩
          · rw [if_pos h2]
            exact HQ6.out.1 h2
          · rw [if_neg h2]
            exact HQ6.out.2 h2
set_option maxRecDepth 100000 in
set_option maxHeartbeats 8000000 in
theorem rput_swap {A : Option Addr} {c : Nat} {P : List (List Int)} {r hh pe e e2 : Int} (hr : rringX X = r) (hr1 : 1 ≤ r) (hP : RecsOK P) (hd : headX L tail = hh) (hf : needs P ≤ r - (tail - hh)) (ht : 0 ≤ hh ∧ hh ≤ tail ∧ tail < 18446744073709551000 ∧ tail - hh ≤ r) (hg : 0 ≤ gen ∧ gen < 18446744073709551615)
    (hlay : rlayR r P X tail [] = (X1, oL, pe, e)) (hsv : rsaveX X1 (gen + 1) [headX oL pe, pe] = (X2, e2)) (hpe : 0 ≤ pe ∧ pe < 18446744073709551616) (hho : 0 ≤ headX oL pe ∧ headX oL pe < 18446744073709551616) (hc : X.cache.length ≤ 800) (hLl : L.length ≤ 1000000)
    (h : RV n0 w Rb R vS vC vB vo vL X gen tail L false) (hT : Txts n0 isRW w A P) :
    Calls Tryz.prog 59 #[.pointer (some ⟨Rb, 0, none⟩), .slice A P.length c, .bool true] w (PutQ n0 w Rb R vS vB X X1 X2 gen tail pe L oL e e2) := by
  have HH := Aside0.mk h
  have HT := Aside0.mk hT
  have HPo := Aside0.mk hP
  have HR := Aside0.mk hr
  have HD := Aside0.mk hd
  have HTB := Aside0.mk (show 0 ≤ hh ∧ hh ≤ tail ∧ tail < 18446744073709551616 ∧ tail - hh ≤ r by omega)
  have HTL := Aside0.mk (show 0 ≤ tail ∧ tail < 18446744073709551000 by omega)
  have HLAY := Aside0.mk hlay
  have HSV := Aside0.mk hsv
  have HG := Aside0.mk hg
  have HPE := Aside0.mk hpe
  have HHO := Aside0.mk hho
  have HCC := Aside0.mk hc
  have HLL := Aside0.mk hLl
  have HR1 := Aside0.mk hr1
  have HN0 := Aside0.mk (show n0 ≤ w.heap.size from h.rk.base_le)
  have hplen : (P.length : Int) ≤ 6 := by have := hP.len; omega
  have g42 := needs_le (R := P) (fun b hb => (hP.each b hb).2)
  have hf2 : decide (r - (tail - hh) < needs P) = false := decide_eq_false (by omega)
  obtain ⟨⟨q0, q1, q2, q3, q4⟩, _⟩ := cells5 h.blk
  clear h hT hr hP hd ht hf hlay hsv hg hpe hho hc hLl hr1 q0 q1 q2 q3
  go_enter Tryz.func59, Tryz.ntmps59
  go_wp2
  go_loopg [7, 23] P.length (fun kq v7 v23 w' => ∃ i : Nat, v23 = .int .i64 (i : Int) ∧ v7 = .int .i64 (needs (P.take i)) ∧ Aside0 (i + kq = P.length) ∧ Aside0 (Below w.heap.size w w'))
  case atStart => exact ⟨0, rfl, rfl, ⟨by omega⟩, ⟨Below.refl _ _⟩⟩
  case round =>
    obtain ⟨i, rfl, rfl, HI, HB⟩ := hrel
    by_cases hlt : i < P.length
    · (have hlt' : (i : Int) < (P.length : Int) := by omega); obtain ⟨ad, A9, c9, rfl, hTi⟩ := HT.out i hlt; have hcw := hTi wr (TC.of_below HB.out HH.out.rk.base_le); obtain ⟨hc9, hl9, hC9⟩ := hcw; have HTI := Aside0.mk hTi; have hRi := HPo.out.getD i; obtain ⟨x, hx⟩ : ∃ x, P.getD i [] = x := ⟨_, rfl⟩; rw [hx] at hc9 hl9 hC9 hRi HTI; obtain ⟨m, hm⟩ : ∃ m, needN x = m := ⟨_, rfl⟩; (have hmb : 1 ≤ m ∧ m ≤ 7 := by rw [← hm]; unfold needN; rw [if_neg (by omega)]; omega); have HM := Aside0.mk (show needs (P.take (i + 1)) = needs (P.take i) + m from by rw [needs_take hlt, hx, hm]); have HC9 := Aside0.mk hC9; clear hTi hl9 hC9; have HN5 := Aside0.mk (fun (W : World) (hW : Below wr.heap.size wr W) => rneed_calls W A9 c9 x m hm hRi.1 (by omega) (Kd.C_below HC9.out hW)); have m0 : 1 ≤ m := hmb.1; have m1 : m ≤ 7 := hmb.2; (have hmn : (m == 0) = false := by simp; omega); have g0 : 0 ≤ needs (P.take i) := (needs_le (R := P.take i) (fun b hb => (HPo.out.each b (List.mem_of_mem_take hb)).2)).1; have g1 : needs (P.take i) ≤ 42 := (by have := (needs_le (R := P.take i) (fun b hb => (HPo.out.each b (List.mem_of_mem_take hb)).2)).2; rw [List.length_take] at this; omega)
      go_wp2_with (first
        | (go_at_call 108; (with_reducible refine (HN5.out wr (Below.refl _ _)).mono ?_); rintro e w5 ⟨rfl, hb5⟩; have HB5 := Aside0.mk hb5; clear hb5)
        | (go_at_call 108; (with_reducible refine (HN5.out w5 HB5.out).mono ?_); rintro e w6 ⟨rfl, hb5⟩; have HB6 := Aside0.mk (HB5.out.trans (hb5.mono HB5.out.size)); clear hb5))
      obtain ⟨gq, rfl⟩ : ∃ gq, gk = gq + 1 := ⟨gk - 1, by have := HI.out; omega⟩
      go_roundg gq
      case rel => exact ⟨i + 1, by go_num, by rw [HM.out], ⟨by have := HI.out; omega⟩, ⟨HB.out.trans (HB6.out.mono HB.out.size)⟩⟩
      case measure => omega
    · have hm' : ¬ ((i : Int) < (P.length : Int)) := by omega
      obtain rfl : i = P.length := by have := HI.out; omega
      have HV := Aside0.mk (HH.out.fresh HB.out)
      have HFR := Aside0.mk (rfree_calls HR.out HD.out HTB.out HV.out)
      rw [List.take_length]
      go_wp2_with (first
        | (go_at_call 29; (with_reducible refine HFR.out.mono ?_); rintro e w5 ⟨rfl, hd6⟩; have HB5 := Aside0.mk (HB.out.trans (hd6.below.mono HB.out.size)); have HV5 := Aside0.mk (HV.out.fresh hd6.below); obtain ⟨⟨z0, z1, z2, z3, z4⟩, _⟩ := cells5 HV5.out.blk; clear hd6))
      have HS0 := Aside0.mk (And.intro (TC.of_below (T := isRW) HB5.out HN0.out) (And.intro HV5.out.any (And.intro (Kd.R_nil recK 112 w5 n0 (fun _ => True)) (show ∀ k, (Value.slice none 0 0).ownBlock = some k → w.heap.size ≤ k from fun k hk => by simp [Value.ownBlock] at hk))))
      clear HH HV HB HI
      go_loopg [10, 11, 53] P.length (fun kq v10 v11 v53 w' => ∃ (i : Nat) (p : Int) (o : List Rec) (X' : RX) (vC' : Value), v53 = .int .i64 (i : Int) ∧ v11 = .int .u64 p ∧ Aside0 (i + kq = P.length) ∧ Aside0 (TC n0 isRW w w' ∧ RV n0 w' Rb R vS vC' vB v10 vL X' gen tail L false ∧ Kd.R recK 112 w' n0 (fun _ => True) v10 o ∧ ∀ k, v10.ownBlock = some k → w.heap.size ≤ k) ∧ Aside0 (rlayR r (P.drop i) X' p o = (X1, oL, pe, e)) ∧ Aside0 (tail ≤ p ∧ p ≤ tail + 7 * i) ∧ Aside0 (o.length ≤ L.length + i) ∧ Aside0 (X'.cache.length ≤ X.cache.length + 7 * i) ∧ Aside0 (rringX X' = r))
      case atStart => exact ⟨0, tail, [], X, _, rfl, rfl, ⟨by omega⟩, HS0, HLAY, ⟨by simp⟩, ⟨by simp⟩, ⟨by simp⟩, HR⟩
      case round =>
        obtain ⟨i, p, o, X', vC', rfl, rfl, HI, HS, HLY, HP, HOL, HXC, HRX⟩ := hrel
        clear HS0 HLAY
        obtain ⟨Ao, co, rfl⟩ := Kd.R_slice HS.out.2.2.1
        obtain ⟨HS1, HS2, HS3, HS4⟩ := HS.out
        by_cases hlt : i < P.length
        · have hlt' : (i : Int) < (P.length : Int) := by omega
          obtain ⟨gq, rfl⟩ : ∃ gq, gk = gq + 1 := ⟨gk - 1, by have := HI.out; omega⟩
          obtain ⟨ad, A9, c9, rfl, hTi⟩ := HT.out i hlt
          obtain ⟨hc9, hl9, hC9⟩ := hTi wr HS1
          have hRi := HPo.out.getD i
          have hly := HLY.out
          rw [drop_at hlt] at hly
          obtain ⟨x, hx⟩ : ∃ x, P.getD i [] = x := ⟨_, rfl⟩
          rw [hx] at hc9 hl9 hC9 hRi hTi hly
          have HTI := Aside0.mk hTi
          have HXB := Aside0.mk hRi
          have HFRM := Aside0.mk (rframe_calls wr A9 c9 x hRi.1 (by omega) hC9)
          have hfx : frameX x = frameB x := by unfold frameX; rw [if_neg (by omega)]
          unfold rlayR at hly
          rw [hfx] at hly
          obtain ⟨Xf, pf, ef, hCh⟩ : ∃ Xf pf ef, rlayC r (chs (frameB x)) X' p = (Xf, pf, ef) := ⟨_, _, _, rfl⟩
          rw [hCh] at hly
          simp only at hly
          obtain ⟨K, hK⟩ : ∃ K, (x.length + 7 + 63) / 64 = K := ⟨_, rfl⟩
          have HK7 := Aside0.mk (show K ≤ 7 by omega)
          have HFL := Aside0.mk (frameB_len x)
          obtain ⟨fb, hfb⟩ : ∃ fb, frameB x = fb := ⟨_, rfl⟩
          rw [hfb] at HFRM hCh HFL
          have HL2 := Aside0.mk hly
          have HCH := Aside0.mk hCh
          have HKK := Aside0.mk hK
          have HBS := Aside0.mk (show n0 ≤ wr.heap.size from HS2.rk.base_le)
          have hxl : (x.length : Int) ≤ 400 := by omega
          clear hl9 hC9 hRi hTi hly hCh hx hfx hfb hK HLY
          go_wp2_with (first
            | (go_at_call 104; (with_reducible refine HFRM.out.mono ?_); rintro er w8 ⟨A8, c8, rfl, hb8, ho8⟩; have HT8 := Aside0.mk (HS1.trans (TC.of_below hb8 HBS.out)); have HV8 := Aside0.mk (HS2.fresh hb8); have HO8 := Aside0.mk (Kd.R_below HS3 hb8); have HF8 := Aside0.mk ho8; clear hb8 ho8))
          clear HS1 HS2 HS3 HFRM
          have HSB := Aside0.mk (show ∀ W, TC n0 isRef w8 W → SB W A8 c8 fb from fun W hc => by have q := OwnB.tc HF8.out hc; rw [← HFL.out] at q; exact SB.of_R q)
          rw [← HFL.out]
          go_loopg [11, 14] K (fun kq v11 v14 w' => ∃ (q : Int) (f : List Int) (Af : Option Addr) (cf : Nat) (X'' : RX) (vC'' : Value), v11 = .int .u64 q ∧ v14 = .slice Af f.length cf ∧ Aside0 ((f.length + 63) / 64 = kq) ∧ Aside0 (TC n0 isRef w8 w' ∧ RV n0 w' Rb R vS vC'' vB (.slice Ao o.length co) vL X'' gen tail L false ∧ ∀ W, TC n0 isRef w8 W → SB W Af cf f) ∧ Aside0 (rlayC r (chs f) X'' q = (Xf, pf, ef)) ∧ Aside0 (p ≤ q ∧ q + kq = p + K) ∧ Aside0 (X''.cache.length + kq ≤ X'.cache.length + K) ∧ Aside0 (rringX X'' = r))
          case atStart => exact ⟨p, fb, A8, c8, X', _, rfl, rfl, ⟨by rw [HFL.out]; exact HKK.out⟩, ⟨TC.refl _ _ _, HV8.out, HSB.out⟩, HCH, ⟨by omega⟩, ⟨by omega⟩, HRX⟩
          case round =>
            obtain ⟨q, f, Af, cf, X'', vC'', rfl, rfl, HFQ, HZ, HCQ, HQ, HXQ, HRQ⟩ := hrel
            clear HSB HCH HV8
            obtain ⟨HZ1, HZ2, HZ3⟩ := HZ.out
            by_cases hf0 : f.length = 0
            · obtain rfl : f = [] := List.eq_nil_of_length_eq_zero hf0
              obtain rfl : gk = 0 := by have := HFQ.out; simp at this; exact this.symm
              have hcq := HCQ.out
              rw [chs_nil] at hcq
              unfold rlayC at hcq
              cases hcq
              have h2 := HL2.out
              rw [if_neg (by simp)] at h2
              have HL3 := Aside0.mk h2
              have HTW := Aside0.mk (HT8.out.trans (HZ1.mono fun _ h => .inl h))
              obtain ⟨_, hl9, hC9⟩ := HTI.out wr HTW.out
              have HC9 := Aside0.mk hC9
              have HXL := Aside0.mk (show (([] : List Int).length + x.length) * 1 ≤ 140737488355328 by simp; omega)
              have HOLN := Aside0.mk (show (o.length + 1) * 40 ≤ 140737488355328 by have := HOL.out; have := HLL.out; omega)
              have HOW := Aside0.mk (R_tc HO8.out HZ1 (fun q hq cells => by rcases q138 q hq with rfl | rfl <;> simp [isRef]))
              clear h2 hC9 hl9
              go_wp2_with (first
                | ((with_reducible refine gate_builtin (b := .append) (xs := #[.const (.slice none 0 0), .tmp 94]) rfl ?_); at_builtin; go_loud (refine Kd.R_append_rows (Kd.int .u8) (W := wr) (w0 := wr) wr.heap.size rfl (.const (.slice none 0 0)) (.tmp 94) 58 5 (.int .u8 0) 1 rfl Tryz.underlying58 info5e rfl (by decide) (by decide) (.slice none 0 0) [] x A9 x.length c9 (fun _ => True) (fun _ => False) rfl rfl (Kd.R_nil _ _ _ _ _) HC9.out (fun _ _ h => h) (fun _ h => h.elim) (fun _ _ => trivial) (Below.refl _ _) (Nat.le_refl _) HXL.out ?_); intro v5 w5 ho hb hg hat; rw [List.nil_append] at ho; have HB5 := Aside0.mk hb; have HR5 := Aside0.mk ho; obtain ⟨A5, c5, hv5⟩ := Kd.R_slice ho; subst hv5; clear ho hb hg hat)
                | ((with_reducible refine gate_builtin (b := .append) (xs := #[.tmp 93, .tmp 99]) rfl ?_); at_builtin; go_loud (refine Kd.R_append recK (W := w5) (w0 := w5) n0 rfl (.tmp 93) (.tmp 99) 53 112 (.agg #[.slice none 0 0, .int .u64 0, .int .u64 0]) 40 rfl Tryz.underlying53 info138 rfl (by decide) (by decide) _ o (x, p, pf) [.slice A5 x.length c5, .int .u64 p, .int .u64 pf] (fun _ => True) (fun k => wr.heap.size ≤ k) rfl rfl (rec_M HR5.out HZ2.rk.base_le) (fun k hk => ⟨trivial, own_past HOW.out hk⟩) (fun _ _ => trivial) (Kd.R_below HOW.out HB5.out) (Below.refl _ _) (Nat.le_trans HZ2.rk.base_le HB5.out.size) HOLN.out ?_); intro v6 w6 ho hb hg hat; have HS6 := Aside0.mk (And.intro ((HTW.out.trans (TC.of_below HB5.out HZ2.rk.base_le)).grow_new hg HN0.out (fun k hk => HS4 k hk)) (And.intro ((HZ2.fresh HB5.out).grow (Kd.R_below HOW.out HB5.out) hg hat) (And.intro ho (show ∀ k, v6.ownBlock = some k → w.heap.size ≤ k from fun k hk => by rcases hat with e | ⟨b, e, hb⟩; (rw [e] at hk; exact HS4 k hk); (rw [e] at hk; cases hk; exact Nat.le_trans (Nat.le_trans HTW.out.low.size HB5.out.size) hb))))); clear ho hb hg hat))
              go_roundg gq
              case rel => exact ⟨i + 1, pf, o ++ [(x, p, pf)], Xf, _, by go_num, rfl, ⟨by have := HI.out; omega⟩, HS6, HL3, ⟨by have := HQ.out; have := HP.out; have := HK7.out; omega⟩, ⟨by rw [List.length_append, List.length_singleton]; have := HOL.out; omega⟩, ⟨by have := HXQ.out; have := HXC.out; have := HK7.out; omega⟩, HRQ⟩
              case measure => omega
            · have hfp : 0 < f.length := by omega
              have hfp' : (0 : Int) < (f.length : Int) := by omega
              have hbd := (Below.refl wr.heap.size wr).drew
              obtain ⟨gi, rfl⟩ : ∃ gi, gk = gi + 1 := ⟨gk - 1, by have := HFQ.out; omega⟩
              have hcq := HCQ.out
              rw [chs_cons hfp] at hcq
              unfold rlayC at hcq
              have hsb := HZ3 wr HZ1
              obtain ⟨adf, hadf⟩ : ∃ adf, Af = some adf := by
                cases Af with
                | none => have := (hsb.none_ rfl).1; omega
                | some a => exact ⟨a, rfl⟩
              subst hadf
              have hfc := hsb.cap
              have hf7 : f.length ≤ 448 := by have := HFQ.out; have := HQ.out; have := HK7.out; omega
              have HZ3' := HZ3
              obtain ⟨X3, e3, hw3⟩ : ∃ X3 e3, rwriteX X'' (sectP r q) (f.take 64) = (X3, e3) := ⟨_, _, rfl⟩
              have HX3 := Aside0.mk hw3
              rw [hw3] at hcq
              simp only at hcq
              have hr1 := HR1.out
              have hrb : r ≤ 4094 := by have := HZ2.rk.ok.hn; rw [← HRQ.out]; unfold rringX; omega
              have m0 : 0 ≤ q % r := Int.emod_nonneg _ (by omega)
              have m1 : q % r < r := Int.emod_lt_of_pos _ (by omega)
              have m2 : q % r ≤ 4094 := by omega
              have hq0 : 0 ≤ q := by have := HQ.out; have := HP.out; have := HTL.out; omega
              have hrn : ¬ r = 0 := by omega
              have htm : q.tmod r = q % r := Int.tmod_eq_emod_of_nonneg hq0
              have hw1 : IntKind.i64.wrap (q % r) = q % r := IntWalk.i64_in _ (by omega)
              have hw2 : IntKind.i64.wrap (2 + q % r) = 2 + q % r := IntWalk.i64_in _ (by omega)
              have hq1 : q + 1 < 18446744073709551616 := by have := HQ.out; have := HP.out; have := HTL.out; have := HK7.out; have := HI.out; omega
              have HRG := Aside0.mk (rring_calls wr.drew n0 R vS vC'' vB X'' r HRQ.out (HZ2.rk.fresh hbd))
              obtain ⟨⟨q0, q1, q2, q3, q4⟩, _⟩ := cells5 HZ2.blk
              clear q1 q2 q3
              by_cases h64 : 64 < f.length
              · have h64i : (64 : Int) < (f.length : Int) := by omega
                have hA2 : (64 : Int) ≤ (cf : Int) := by omega
                have hcl : (f.take 64).length = 64 := by rw [List.length_take]; omega
                have hA1 : (if cf = 64 then some adf else some { block := adf.block, off := adf.off + 64 }) = some { block := adf.block, off := adf.off + 64 } := if_neg (by omega)
                have HT1 := Aside0.mk (fun W hc => (HZ3' W hc).tail (by decide) (by omega) hA1)
                have e64 : (64 : Int) ≤ (f.length : Int) := by omega
                have HRW := Aside0.mk (show Calls Tryz.prog 95 #[.pointer (some ⟨R, 0, none⟩), .int .i64 (2 + q % r), .slice (some adf) 64 cf] wr.drew fun e w' => e = .returned (.int .i64 e3) ∧ TC n0 isRef wr.drew w' ∧ ∃ vC', RK w' n0 R vS vC' vB X3 from by
                  have hq := rwrite_calls wr.drew n0 R vS vC'' vB X'' X3 (sectP r q) e3 (some adf) cf (f.take 64) hw3 (HZ2.rk.fresh hbd) (by have := HXQ.out; have := HXC.out; have := HK7.out; have := HCC.out; omega) (fun W hc => Kd.C_take (m := 64) (HZ3' W ((HZ1.trans (TC.of_below hbd HZ2.rk.base_le)).trans hc)).C (by omega))
                  rw [hcl] at hq
                  exact hq)
                have HCL := Aside0.mk hcl
                clear hw3 hcl hA1
                go_wp2_with fail
                refine Fork.wp_fork (Fork.Lo.rel 0) [16] [] (.one 0 0 (.one 1 0 (.one 2 0 (.one 4 0 (.one 5 0 (.one 6 0 (.one 7 0 (.one 13 0 (.one 14 0 (.one 15 0 (.one 3 1 (.one 8 1 (.one 9 2 (.one 10 0 (.one 11 0 (.one 12 0 (.one 16 2 (.one 17 0 .nil)))))))))))))))))) (by kernel_rfl) (by kernel_rfl) ?_
                generalize hops : List.toArray (_ : List Oper) = ops
                have HO := Aside0.mk hops
                clear hops
                iterate 10 ((refine Fork.plain (Fork.at_ HO.out rfl) _ rfl (fun W => by go_simp; exact rfl) ?_); simp only [Act.put, List.setIfInBounds_toArray, List.set_cons_succ, List.set_cons_zero])
                refine Fork.reads (Fork.at_ HO.out rfl) _ rfl (fun W hW => Arr.ex_load1 rfl rfl (by kernel_rfl) (Fork.bel_cell hW (by assumption))) ?_
                simp only [Act.put, List.setIfInBounds_toArray, List.set_cons_succ, List.set_cons_zero]
                refine Fork.reads (Fork.at_ HO.out rfl) _ rfl (fun W hW => Arr.ex_load1 rfl rfl (by kernel_rfl) (Fork.bel_cell hW (by assumption))) ?_
                simp only [Act.put, List.setIfInBounds_toArray, List.set_cons_succ, List.set_cons_zero]
                refine Fork.step (Fork.at_ HO.out rfl) (fun K hK => ?_)
                go_simp
                refine HRG.out.mono ?_
                rintro er w' ⟨rfl, rfl⟩
                refine hK _ _ (.of_new (Below.refl _ _) (Nat.zero_le _)) ?_
                clear hK K
                try simp only [Act.put, List.setIfInBounds_toArray, List.set_cons_succ, List.set_cons_zero]
                iterate 3 ((refine Fork.plain (Fork.at_ HO.out rfl) _ rfl (fun W => by go_simp; exact rfl) ?_); simp only [Act.put, List.setIfInBounds_toArray, List.set_cons_succ, List.set_cons_zero])
                refine Fork.step (Fork.at_ HO.out rfl) (fun K hK => ?_)
                go_simp
                (with_reducible refine HRW.out.mono ?_)
                rintro er w5 ⟨rfl, ht5, vC5, hr5⟩
                refine hK _ _ (Fork.Grow.of_old (Fork.Lo.zero ht5.low.os ht5.low.tape ht5.low.output) rfl) ?_
                clear hK K
                have HV5 := Aside0.mk ((HZ2.fresh hbd).ref ht5 hr5)
                have HT5 := Aside0.mk (HZ1.trans ((TC.of_below hbd HZ2.rk.base_le).trans ht5))
                clear ht5 hr5
                try simp only [Act.put, List.setIfInBounds_toArray, List.set_cons_succ, List.set_cons_zero]
                ((refine Fork.plain (Fork.at_ HO.out rfl) _ rfl (fun W => by go_simp; exact rfl) ?_); simp only [Act.put, List.setIfInBounds_toArray, List.set_cons_succ, List.set_cons_zero])
                refine Fork.done ?_
                by_cases he3 : e3 = 0
                · subst he3
                  rw [if_neg (by simp)] at hcq
                  have HCN := Aside0.mk hcq
                  clear hcq
                  go_wp2
                  go_roundg gi
                  case rel => exact ⟨q + 1, f.drop 64, _, cf - 64, X3, vC5, rfl, by rw [List.length_drop], ⟨by rw [List.length_drop]; have := HFQ.out; omega⟩, ⟨HT5.out, HV5.out, HT1.out⟩, HCN, ⟨by have := HQ.out; omega⟩, ⟨by have h1 := rwriteX_cache X'' (sectP r q) (f.take 64); rw [HX3.out] at h1; have := HXQ.out; simp only at h1; omega⟩, ⟨by have h1 := rwriteX_ring X'' (sectP r q) (f.take 64); rw [HX3.out] at h1; exact h1.trans HRQ.out⟩⟩
                  case measure => omega
                · have he3' : (e3 != 0) = true := by simpa using he3
                  rw [if_pos he3] at hcq
                  have HCN := Aside0.mk hcq
                  obtain ⟨⟨z0, z1, z2, z3, z4⟩, y0, y1, y2, y3, y4⟩ := cells5 HV5.out.blk
                  clear hcq he3
                  go_wp2
                  go_ret
                  have h1 := HCN.out
                  cases h1
                  have h2 := HL2.out
                  rw [if_pos (by decide)] at h2
                  cases h2
                  exact ⟨HT8.out.trans ((HT5.out.mono fun _ h => .inl h).trans ((HV5.out.set 4 _).mono fun _ h => .inr h)), vC5, vL, fun h => absurd h (by decide), fun _ => ⟨rfl, HV5.out.any.overed⟩, fun h => absurd h (by decide), fun h => absurd h (by decide)⟩
              · have h64i : ¬ ((64 : Int) < (f.length : Int)) := by omega
                have hA2 : (f.length : Int) ≤ (cf : Int) := by omega
                have hcl : (f.take 64).length = f.length := by rw [List.length_take]; omega
                obtain ⟨A1, hA1⟩ : ∃ A1, (if cf = f.length then some adf else some (adf.add f.length)) = A1 := ⟨_, rfl⟩
                have htk : f.take 64 = f := List.take_of_length_le (by omega)
                have HT1 := Aside0.mk (fun W hc => (HZ3' W hc).tail' hfp (Nat.le_refl _) hA1)
                have HRW := Aside0.mk (show Calls Tryz.prog 95 #[.pointer (some ⟨R, 0, none⟩), .int .i64 (2 + q % r), .slice (some adf) f.length cf] wr.drew fun e w' => e = .returned (.int .i64 e3) ∧ TC n0 isRef wr.drew w' ∧ ∃ vC', RK w' n0 R vS vC' vB X3 from by
                  have hq := rwrite_calls wr.drew n0 R vS vC'' vB X'' X3 (sectP r q) e3 (some adf) cf (f.take 64) hw3 (HZ2.rk.fresh hbd) (by have := HXQ.out; have := HXC.out; have := HK7.out; have := HCC.out; omega) (fun W hc => (by rw [htk]; exact (HZ3' W ((HZ1.trans (TC.of_below hbd HZ2.rk.base_le)).trans hc)).C))
                  rw [hcl] at hq
                  exact hq)
                have HCL := Aside0.mk hcl
                clear hw3 hcl htk
                go_wp2_with fail
                refine Fork.wp_fork (Fork.Lo.rel 0) [16] [] (.one 0 0 (.one 1 0 (.one 2 0 (.one 4 0 (.one 5 0 (.one 6 0 (.one 7 0 (.one 13 0 (.one 14 0 (.one 15 0 (.one 3 1 (.one 8 1 (.one 9 2 (.one 10 0 (.one 11 0 (.one 12 0 (.one 16 2 (.one 17 0 .nil)))))))))))))))))) (by kernel_rfl) (by kernel_rfl) ?_
                generalize hops : List.toArray (_ : List Oper) = ops
                have HO := Aside0.mk hops
                clear hops
                iterate 10 ((refine Fork.plain (Fork.at_ HO.out rfl) _ rfl (fun W => by go_simp; exact rfl) ?_); simp only [Act.put, List.setIfInBounds_toArray, List.set_cons_succ, List.set_cons_zero])
                refine Fork.reads (Fork.at_ HO.out rfl) _ rfl (fun W hW => Arr.ex_load1 rfl rfl (by kernel_rfl) (Fork.bel_cell hW (by assumption))) ?_
                simp only [Act.put, List.setIfInBounds_toArray, List.set_cons_succ, List.set_cons_zero]
                refine Fork.reads (Fork.at_ HO.out rfl) _ rfl (fun W hW => Arr.ex_load1 rfl rfl (by kernel_rfl) (Fork.bel_cell hW (by assumption))) ?_
                simp only [Act.put, List.setIfInBounds_toArray, List.set_cons_succ, List.set_cons_zero]
                refine Fork.step (Fork.at_ HO.out rfl) (fun K hK => ?_)
                go_simp
                refine HRG.out.mono ?_
                rintro er w' ⟨rfl, rfl⟩
                refine hK _ _ (.of_new (Below.refl _ _) (Nat.zero_le _)) ?_
                clear hK K
                try simp only [Act.put, List.setIfInBounds_toArray, List.set_cons_succ, List.set_cons_zero]
                iterate 3 ((refine Fork.plain (Fork.at_ HO.out rfl) _ rfl (fun W => by go_simp; exact rfl) ?_); simp only [Act.put, List.setIfInBounds_toArray, List.set_cons_succ, List.set_cons_zero])
                refine Fork.step (Fork.at_ HO.out rfl) (fun K hK => ?_)
                go_simp
                (with_reducible refine HRW.out.mono ?_)
                rintro er w5 ⟨rfl, ht5, vC5, hr5⟩
                refine hK _ _ (Fork.Grow.of_old (Fork.Lo.zero ht5.low.os ht5.low.tape ht5.low.output) rfl) ?_
                clear hK K
                have HV5 := Aside0.mk ((HZ2.fresh hbd).ref ht5 hr5)
                have HT5 := Aside0.mk (HZ1.trans ((TC.of_below hbd HZ2.rk.base_le).trans ht5))
                clear ht5 hr5
                try simp only [Act.put, List.setIfInBounds_toArray, List.set_cons_succ, List.set_cons_zero]
                ((refine Fork.plain (Fork.at_ HO.out rfl) _ rfl (fun W => by go_simp; exact rfl) ?_); simp only [Act.put, List.setIfInBounds_toArray, List.set_cons_succ, List.set_cons_zero])
                refine Fork.done ?_
                by_cases he3 : e3 = 0
                · subst he3
                  rw [if_neg (by simp)] at hcq
                  have HCN := Aside0.mk hcq
                  clear hcq
                  go_wp2
                  have hdd : f.drop 64 = f.drop f.length := by rw [List.drop_of_length_le (by omega), List.drop_of_length_le (Nat.le_refl _)]
                  have HCN2 := Aside0.mk (show rlayC r (chs (f.drop f.length)) X3 (q + 1) = (Xf, pf, ef) from by rw [← hdd]; exact HCN.out)
                  go_roundg gi
                  case rel => exact ⟨q + 1, f.drop f.length, A1, cf - f.length, X3, vC5, rfl, by simp, ⟨by rw [List.length_drop]; have := HFQ.out; omega⟩, ⟨HT5.out, HV5.out, HT1.out⟩, HCN2, ⟨by have := HQ.out; omega⟩, ⟨by have h1 := rwriteX_cache X'' (sectP r q) (f.take 64); rw [HX3.out] at h1; have := HXQ.out; simp only at h1; omega⟩, ⟨by have h1 := rwriteX_ring X'' (sectP r q) (f.take 64); rw [HX3.out] at h1; exact h1.trans HRQ.out⟩⟩
                  case measure => omega
                · have he3' : (e3 != 0) = true := by simpa using he3
                  rw [if_pos he3] at hcq
                  have HCN := Aside0.mk hcq
                  obtain ⟨⟨z0, z1, z2, z3, z4⟩, y0, y1, y2, y3, y4⟩ := cells5 HV5.out.blk
                  clear hcq he3
                  go_wp2
                  go_ret
                  have h1 := HCN.out
                  cases h1
                  have h2 := HL2.out
                  rw [if_pos (by decide)] at h2
                  cases h2
                  exact ⟨HT8.out.trans ((HT5.out.mono fun _ h => .inl h).trans ((HV5.out.set 4 _).mono fun _ h => .inr h)), vC5, vL, fun h => absurd h (by decide), fun _ => ⟨rfl, HV5.out.any.overed⟩, fun h => absurd h (by decide), fun h => absurd h (by decide)⟩
        · have hm' : ¬ ((i : Int) < (P.length : Int)) := by omega
          have hly := HLY.out
          rw [List.drop_of_length_le (by omega)] at hly
          unfold rlayR at hly
          cases hly
          have HTU := Aside0.mk (rturn_calls e2 rfl HSV.out HG.out HHO.out HPE.out (by have := HXC.out; have := HCC.out; have := HI.out; omega) HS2 (Kd.Q_of_R HS3))
          clear HS3
          go_wp2_with (first
            | (go_at_call 61; (with_reducible refine HTU.out.mono ?_); rintro er w6 ⟨ht6, vC6, hq1, hq2⟩; have HT6 := Aside0.mk (HS1.trans ht6); have HQ6 := Aside0.mk (And.intro hq1 hq2); obtain ⟨x6, rfl⟩ : ∃ x6, er = .returned (.int .i64 x6) := ret_code HQ6.out.1 HQ6.out.2; clear ht6 hq1 hq2))
          go_ret
          refine ⟨HT6.out, vC6, if e2 = 0 then .slice Ao oL.length co else vL, fun h => absurd h (by decide), fun h => absurd h (by decide), fun _ h2 => ?_, fun _ h2 => ?_⟩
          · rw [if_pos h2]
            exact HQ6.out.1 h2
          · rw [if_neg h2]
            exact HQ6.out.2 h2
end
end Go.Proofs.YtlepcmljmibdnaaGreat
namespace Go.Proofs.YtlepcmljmibdnaaGreat
open Go.RowKit Go.Proofs.YtlepcmljmibdnaaGreatW.PrintWords Go.Proofs.YtlepcmljmibdnaaGreatW.PrintLast Go.Proofs.YtlepcmljmibdnaaGreatW.PrintMore PWalOpens
set_option linter.unusedVariables false
set_option linter.unusedSimpArgs false
/-- what is kept (S), what is seen (V), and the sectors that are cached (T) -/
structure Pn (D : PD) (n : Int) (S V : Int → List Int) (T : Int → Prop) : Prop where
  qt : Qt D n S
  view : ∀ a, view D a = V a
  cache : ∀ p ∈ D.cache, T p.1
theorem readL_off {T : Int → Prop} (s : List Int) (a : Int) (ha : ¬ T a) : ∀ (l : List (Int × List Int)), (∀ p ∈ l, T p.1) → readL s l a = s
  | [], _ => rfl
  | p :: l, h => by
    unfold readL
    rw [List.foldl_cons, if_neg (fun e => ha (by rw [← e]; exact h p (List.mem_cons_self ..)))]
    exact readL_off s a ha l (fun q hq => h q (List.mem_cons_of_mem _ hq))
section
variable {D : PD} {n : Int} {S V : Int → List Int} {T : Int → Prop}
theorem Pn.off (h : Pn D n S V T) (a : Int) (ha : ¬ T a) : V a = S a := by
  rw [← h.view a, ← h.qt.kept a]
  unfold Proofs.YtlepcmljmibdnaaGreat.view
  exact readL_off _ a ha _ h.cache
theorem actP_kept (D : PD) : (actP D).1.kept = D.kept := by
  unfold actP
  simp only
  split
  · rfl
  · split <;> rfl
theorem actP_code (D : PD) : (actP D).2 = 0 ∨ (actP D).2 = 50 := by
  unfold actP
  simp only
  split
  · exact .inr rfl
  · split <;> exact .inl rfl
theorem Pn.act (h : Pn D n S V T) : Pn (actP D).1 n S V T := by
  obtain ⟨a1, a2, _⟩ := h.qt.act
  refine ⟨a1, fun a => ?_, by rw [a2]; exact h.cache⟩
  rw [← h.view a]
  unfold Proofs.YtlepcmljmibdnaaGreat.view
  rw [a2, actP_kept]
theorem Pn.write (h : Pn D n S V T) (at_ : Int) (b : List Int) (h0 : 0 ≤ at_) (h1 : at_ < n) (hb : b.length ≤ 64) (hT : T at_) :
    (∃ D', writeP D at_ b = (D', 0) ∧ Pn D' n S (updS V at_ (pad b)) T ∧ D'.cache.length = D.cache.length + 1) ∨ (∃ D', writeP D at_ b = (D', 50) ∧ Pn D' n S V T ∧ D'.cache.length = D.cache.length) := by
  unfold writeP
  by_cases hd : D.dead = true
  · rw [if_pos hd]
    exact .inr ⟨D, rfl, h, rfl⟩
  · rw [if_neg hd, if_neg (by rw [h.qt.n]; unfold inB; simp; omega), if_neg (by omega)]
    obtain ⟨a1, a2, _⟩ := h.qt.act
    rcases actP_code D with hc | hc
    · rw [if_neg (fun e => e hc)]
      left
      refine ⟨_, rfl, ⟨⟨a1.bad, a1.n, a1.kept⟩, fun a => ?_, fun p hp => ?_⟩, ?_⟩
      · have hv := h.act.view a
        unfold Proofs.YtlepcmljmibdnaaGreat.view at hv ⊢
        show readL _ ((actP D).1.cache ++ _) a = _
        rw [readL_snoc, hv]
        unfold updS
        by_cases e : a = at_
        · rw [if_pos e, if_pos e.symm]
        · rw [if_neg e, if_neg (fun h => e h.symm)]
      · rcases List.mem_append.1 hp with hp | hp
        · exact h.act.cache p hp
        · rw [List.mem_singleton] at hp; subst hp; exact hT
      · show ((actP D).1.cache ++ _).length = _
        rw [List.length_append, a2]
        rfl
    · rw [if_pos (by rw [hc]; decide)]
      exact .inr ⟨(actP D).1, Prod.ext rfl hc, h.act, by rw [a2]⟩
/-- what a crash leaves -/
theorem Pn.crash (h : Pn D n S V T) (ks : List Bool) : ∃ S', Rdy (crashP D ks) n S' ∧ ∀ a, ¬ T a → S' a = S a := by
  have key : ∀ i, i ≤ D.cache.length → ∃ S', Qt (sel D D.cache ks i) n S' ∧ ∀ a, ¬ T a → S' a = S a := by
    intro i
    induction i with
    | zero => intro _; exact ⟨S, h.qt, fun _ _ => rfl⟩
    | succ i ih =>
      intro hi
      obtain ⟨S', q, hs⟩ := ih (by omega)
      unfold sel
      split
      · refine ⟨_, q.keep _, fun a ha => ?_⟩
        have hm : D.cache[i]? = some D.cache[i] := List.getElem?_eq_getElem (by omega)
        have hT := h.cache _ (List.getElem_mem (show i < D.cache.length by omega))
        unfold updS
        simp only [List.getD, hm, Option.getD_some]
        rw [if_neg (fun e => ha (by rw [e]; exact hT))]
        exact hs a ha
      · exact ⟨S', q, hs⟩
  obtain ⟨S', q, hs⟩ := key D.cache.length (Nat.le_refl _)
  exact ⟨S', q.rest, hs⟩
/-- the part of a save behind its first flush -/
theorem crash_tail (q1 : Qt D n S) (d1 : D.dead = false) (c1 : D.cache = []) (hn : 2 ≤ n) (g : Int) (l : List Int) (hg : 0 ≤ g) (hl : l.length ≤ 4) (ks : List Bool) (X : PD × Int) (hX : X = if (writeP D (g % 2) (slotB g l)).2 ≠ 0 then writeP D (g % 2) (slotB g l) else flushP (writeP D (g % 2) (slotB g l)).1) :
    (Rdy (crashP X.1 ks) n S ∧ X.2 ≠ 0) ∨ Rdy (crashP X.1 ks) n (updS S (g % 2) (pad (slotB g l))) := by
  obtain ⟨b1, b2, b3⟩ := q1.act
  rw [c1] at b2
  have w0 : writeP D (g % 2) (slotB g l) = if (actP D).2 ≠ 0 then actP D else ({ (actP D).1 with cache := [(g % 2, pad (slotB g l))] }, 0) := by
    have h64 := slotB_64 g l hl
    unfold writeP
    rw [d1]
    simp only [Bool.false_eq_true, if_false]
    rw [if_neg (by rw [q1.n]; unfold inB; simp; omega), if_neg (by omega), b2]
    rfl
  by_cases e2 : (actP D).2 = 0
  · rw [if_neg (fun hh => hh e2)] at w0
    rw [w0, if_neg (by simp)] at hX
    have q2 : Qt { (actP D).1 with cache := [(g % 2, pad (slotB g l))] } n S := ⟨b1.bad, b1.n, b1.kept⟩
    generalize hD2 : { (actP D).1 with cache := [(g % 2, pad (slotB g l))] } = D2 at *
    have c2 : D2.cache = [(g % 2, pad (slotB g l))] := by rw [← hD2]
    obtain ⟨g1, g2, g3⟩ := q2.act
    rw [c2] at g2
    by_cases e3 : (actP D2).2 = 0
    · right
      rw [hX]
      unfold flushP
      rw [if_neg (fun hh => hh e3), g2]
      have q3 := g1.keep (g % 2, pad (slotB g l))
      have q4 : Qt { keepAll (actP D2).1 [(g % 2, pad (slotB g l))] with cache := [] } n (updS S (g % 2) (pad (slotB g l))) := ⟨q3.bad, q3.n, q3.kept⟩
      exact q4.crash0 rfl ks
    · have f3 : flushP D2 = actP D2 := by unfold flushP; rw [if_pos e3]
      rw [hX, f3]
      rcases g1.crash1 _ g2 ks with hh | hh
      · exact .inl ⟨hh, e3⟩
      · exact .inr hh
  · rw [if_pos e2] at w0
    rw [w0, if_pos e2] at hX
    rw [hX]
    exact .inl ⟨b1.crash0 b2 ks, e2⟩
/-- whatever crash strikes within a save, with something cached -/
theorem Pn.crash_save (h : Pn D n S V T) (hn : 2 ≤ n) (g : Int) (l : List Int) (hg : 0 ≤ g) (hl : l.length ≤ 4) (ks : List Bool) :
    (∃ S', Rdy (crashP (saveP D g l).1 ks) n S' ∧ (∀ a, ¬ T a → S' a = S a) ∧ (saveP D g l).2 ≠ 0) ∨ Rdy (crashP (saveP D g l).1 ks) n (updS V (g % 2) (pad (slotB g l))) := by
  obtain ⟨a1, a2, a3⟩ := h.qt.act
  by_cases e1 : (actP D).2 = 0
  · have f1 : flushP D = ({ keepAll (actP D).1 (actP D).1.cache with cache := [] }, 0) := by
      unfold flushP
      rw [if_neg (fun hh => hh e1)]
    obtain ⟨k1, k2, k3, k4, k5⟩ := keepAll_keeps (actP D).1.cache (actP D).1
    have q1 : Qt { keepAll (actP D).1 (actP D).1.cache with cache := [] } n V := ⟨fun a => by show (keepAll (actP D).1 (actP D).1.cache).bad a = false; rw [k2]; exact a1.bad a, k1.trans a1.n, fun a => by
      have hv := h.act.view a
      unfold Proofs.YtlepcmljmibdnaaGreat.view at hv
      exact (keepAll_view (actP D).1.cache (actP D).1 a).trans hv⟩
    have hX := crash_tail q1 (k5.trans (a3 e1)) rfl hn g l hg hl ks (saveP D g l) (by
      conv => lhs; unfold saveP
      rw [if_neg (by omega), f1, if_neg (by simp)])
    rcases hX with ⟨h1, h2⟩ | h1
    · exact .inl ⟨V, h1, fun a ha => h.off a ha, h2⟩
    · exact .inr h1
  · have f1 : flushP D = actP D := by unfold flushP; rw [if_pos e1]
    have hs : saveP D g l = actP D := by
      unfold saveP
      rw [if_neg (by omega), f1, if_pos e1]
    rw [hs]
    obtain ⟨S', h1, h2⟩ := h.act.crash ks
    exact .inl ⟨S', h1, h2, e1⟩
end
section
variable {n r : Int} {S : Int → List Int} {T : Int → Prop}
theorem layC_pn (hn : n = r + 2) (hr : 1 ≤ r) : ∀ (cs : List (List Int)) (D : PD) (V : Int → List Int) (s : Int), Pn D n S V T → (∀ c ∈ cs, c.length ≤ 64) → (∀ q, s ≤ q → q < s + cs.length → T (sectP r q)) →
    (∃ D', layC r cs D s = (D', s + cs.length, 0) ∧ Pn D' n S (wrS V r cs s) T ∧ D'.cache.length ≤ D.cache.length + cs.length) ∨ (∃ D' s' V', layC r cs D s = (D', s', 50) ∧ Pn D' n S V' T ∧ D'.cache.length ≤ D.cache.length + cs.length)
  | [], D, V, s, h, _, _ => .inl ⟨D, by simp [layC], h, by simp⟩
  | c :: cs, D, V, s, h, hc, hT => by
    have h1 := sectP_in (p := s) hr
    rw [List.length_cons] at hT
    rcases h.write (sectP r s) c (by omega) (by omega) (hc c (List.mem_cons_self ..)) (hT s (by omega) (by omega)) with ⟨D1, hw, p1, l1⟩ | ⟨D1, hw, p1, l1⟩
    · have hlay : layC r (c :: cs) D s = layC r cs D1 (s + 1) := by
        show (if (writeP D (sectP r s) c).2 ≠ 0 then _ else _) = _
        rw [hw, if_neg (by simp)]
      rw [hlay]
      rcases layC_pn hn hr cs D1 _ (s + 1) p1 (fun c hc' => hc c (List.mem_cons_of_mem _ hc')) (fun q h1 h2 => hT q (by omega) (by omega)) with ⟨D', e1, e2, e3⟩ | ⟨D', s', V', e1, e2, e3⟩
      · refine .inl ⟨D', ?_, e2, by rw [List.length_cons]; omega⟩
        rw [e1, List.length_cons, show s + 1 + (cs.length : Int) = s + ((cs.length + 1 : Nat) : Int) by omega]
      · exact .inr ⟨D', s', V', e1, e2, by rw [List.length_cons]; omega⟩
    · refine .inr ⟨D1, s, V, ?_, p1, by rw [List.length_cons]; omega⟩
      show (if (writeP D (sectP r s) c).2 ≠ 0 then _ else _) = _
      rw [hw, if_pos (by simp)]
/-- a disk that may die beside one that doesn't -/
theorem layR_two (hn : n = r + 2) (hr : 1 ≤ r) : ∀ (R : List (List Int)) (D0 D : PD) (V : Int → List Int) (s : Int) (st : List Int) (D0' : PD) (st' : List Int) (s' : Int) (V' : Int → List Int), Rdy D0 n V → Pn D n S V T → (∀ b ∈ R, isBytes b ∧ b.length ≤ 400) →
    (∀ q, s ≤ q → q < s + needs R → T (sectP r q)) → layR r R D0 s st = (D0', st', s', 0) → Rdy D0' n V' →
    (∃ D', layR r R D s st = (D', st', s', 0) ∧ Pn D' n S V' T ∧ D'.cache.length ≤ D.cache.length + 7 * R.length) ∨ (∃ D' V'', layR r R D s st = (D', [], 0, 50) ∧ Pn D' n S V'' T ∧ D'.cache.length ≤ D.cache.length + 7 * R.length)
  | [], D0, D, V, s, st, D0', st', s', V', h0, h, _, _, hl, h' => by
    have e : layR r [] D0 s st = (D0, st, s, 0) := rfl
    rw [e] at hl
    obtain ⟨rfl, rfl, rfl, _⟩ := hl
    have : V' = V := funext fun a => by rw [← h'.view a, ← h0.view a]
    subst this
    exact .inl ⟨D, rfl, h, by simp⟩
  | b :: bs, D0, D, V, s, st, D0', st', s', V', h0, h, hb, hT, hl, h' => by
    have hb0 := hb b (List.mem_cons_self ..)
    have hk := need_eq (b := b) (by omega)
    have hns : needs (b :: bs) = needN b + needs bs := rfl
    have hns0 := (needs_le (R := bs) fun b h => (hb b (List.mem_cons_of_mem _ h)).2).1
    rw [hns] at hT
    have hcl := chs_len hb0.2
    have he := chs_each hb0.1 hb0.2
    obtain ⟨D01, e1, e2, _, _⟩ := layC_rdy hn hr (chs (frameX b)) D0 V s h0 (fun c hc => (he c hc).1)
    have unf : ∀ D : PD, layR r (b :: bs) D s st = if (layC r (chs (frameX b)) D s).2.2 ≠ 0 then ((layC r (chs (frameX b)) D s).1, [], 0, (layC r (chs (frameX b)) D s).2.2) else layR r bs (layC r (chs (frameX b)) D s).1 (layC r (chs (frameX b)) D s).2.1 (st ++ [s]) := fun _ => rfl
    rw [unf, e1] at hl
    simp only [ne_eq, not_true_eq_false, if_false] at hl
    rw [hcl, ← hk] at hl
    rcases layC_pn hn hr (chs (frameX b)) D V s h (fun c hc => (he c hc).1) (fun q h1 h2 => hT q h1 (by rw [hcl] at h2; omega)) with ⟨D1, f1, f2, f3⟩ | ⟨D1, s1, V1, f1, f2, f3⟩
    · rw [unf, f1]
      simp only [ne_eq, not_true_eq_false, if_false]
      rw [hcl, ← hk]
      rw [hcl] at f3
      rcases layR_two hn hr bs D01 D1 _ (s + needN b) (st ++ [s]) D0' st' s' V' e2 f2 (fun b h => hb b (List.mem_cons_of_mem _ h)) (fun q h1 h2 => hT q (by omega) (by omega)) hl h' with ⟨D', g1, g2, g3⟩ | ⟨D', V'', g1, g2, g3⟩
      · exact .inl ⟨D', g1, g2, by rw [List.length_cons]; omega⟩
      · exact .inr ⟨D', V'', g1, g2, by rw [List.length_cons]; omega⟩
    · rw [unf, f1]
      rw [hcl] at f3
      exact .inr ⟨D1, V1, by simp, f2, by rw [List.length_cons]; omega⟩
end
theorem OKD.layC {r : Int} : ∀ (cs : List (List Int)) {D : PD} (s : Int), OKD D → (∀ c ∈ cs, isBytes c) → OKD (layC r cs D s).1
  | [], D, s, h, _ => h
  | c :: cs, D, s, h, hc => by
    have h1 := h.write (sectP r s) (hc c (List.mem_cons_self ..))
    unfold Proofs.YtlepcmljmibdnaaGreat.layC
    split
    · exact h1
    · exact OKD.layC cs (s + 1) h1 (fun c hc' => hc c (List.mem_cons_of_mem _ hc'))
theorem OKD.layR {r : Int} : ∀ (R : List (List Int)) {D : PD} (s : Int) (st : List Int), OKD D → (∀ b ∈ R, isBytes b ∧ b.length ≤ 400) → OKD (layR r R D s st).1
  | [], D, s, st, h, _ => h
  | b :: bs, D, s, st, h, hb => by
    have hb0 := hb b (List.mem_cons_self ..)
    have h1 := OKD.layC (r := r) (chs (frameX b)) s h (fun c hc => (chs_each hb0.1 hb0.2 c hc).2)
    unfold Proofs.YtlepcmljmibdnaaGreat.layR
    split
    · exact h1
    · exact OKD.layR bs _ _ h1 (fun b h => hb b (List.mem_cons_of_mem _ h))
section
variable {D : PD} {S : Int → List Int} {r g head tail : Int} {R : List (List Int)}
/-- the new head counts -/
theorem WInv.next (h : WInv D S r g head tail R) {V : Int → List Int} {D3 : PD} {h1 t1 : Int} {R1 : List (List Int)} (h3 : Rdy D3 (r + 2) (updS V ((g + 1) % 2) (pad (slotB (g + 1) [h1, t1])))) (hc : D3.cache = []) (ho : OKD D3) (e0 : V 0 = S 0) (e1 : V 1 = S 1) (hrun : Run V r h1 R1 t1) (hfit : t1 - h1 ≤ r) (hh : 0 ≤ h1 ∧ t1 < 18446744073709551616) (hrec : ∀ b ∈ R1, isBytes b ∧ b.length ≤ 400) (hg : g + 1 < 18446744073709551616) :
    WInv D3 (updS V ((g + 1) % 2) (pad (slotB (g + 1) [h1, t1]))) r (g + 1) h1 t1 R1 := by
  have hr := h.hr
  have g0 := h.g0
  have hle := run_le (fun b hb => by have := (hrec b hb).2; omega) hrun
  have hk : ∀ n ∈ [h1, t1], 0 ≤ n ∧ n < 18446744073709551616 := by
    intro n hn
    simp only [List.mem_cons, List.not_mem_nil, or_false] at hn
    rcases hn with rfl | rfl <;> omega
  have hp : ∀ a : Int, a = 0 ∨ a = 1 → V a = S a := by
    rintro a (rfl | rfl)
    · exact e0
    · exact e1
  obtain ⟨m1, m2⟩ := next_mine (S := V) (g := g) (l := [head, tail]) (k := [h1, t1]) ⟨g0, hg⟩ (by rw [hp _ (by omega)]; exact h.mine) (by simp) hk
  refine ⟨h3, hr, hc, ho, m1, m2, by omega, ?_, hfit, hh.1, hrec⟩
  refine run_keep (fun b hb => by have := (hrec b hb).2; omega) (fun q _ _ => ?_) hrun
  have := sectP_in (p := q) hr
  unfold updS
  rw [if_neg (by omega)]
/-- what the free part of the ring holds doesn't count -/
theorem WInv.free (h : WInv D S r g head tail R) {S' : Int → List Int} {D3 : PD} {m : Int} (hm : m ≤ r - (tail - head)) (h3 : Rdy D3 (r + 2) S') (hc : D3.cache = []) (ho : OKD D3) (hs : ∀ a, (¬ ∃ q, tail ≤ q ∧ q < tail + m ∧ a = sectP r q) → S' a = S a) :
    WInv D3 S' r g head tail R := by
  have hr := h.hr
  have low : ∀ a : Int, a < 2 → S' a = S a := fun a ha => hs a (by
    rintro ⟨q, _, _, rfl⟩
    have := sectP_in (p := q) hr
    omega)
  refine ⟨h3, hr, hc, ho, ?_, ?_, h.g0, ?_, h.fit, h.h0, h.recs⟩
  · rw [low _ (by omega)]; exact h.mine
  · rw [low _ (by omega)]; exact h.other
  · refine run_keep (fun b hb => by have := (h.recs b hb).2; omega) (fun p h1 h2 => hs _ ?_) h.run
    rintro ⟨q, h3, h4, he⟩
    exact sect_inj hr (show p < q by omega) (by omega) he
end
theorem starts_len : ∀ (X : List (List Int)) (p : Int), (startsP p X).length = X.length
  | [], p => rfl
  | b :: bs, p => by simp [startsP, starts_len bs]
/-- what the wal's change answers, and the disk behind it -/
noncomputable def chgD (D1 : PD) (e : Int) (h1 s g : Int) : PD := if e = 0 then (saveP D1 g [h1, s]).1 else D1
noncomputable def chgE (D1 : PD) (e : Int) (h1 s g : Int) : Int := if e = 0 ∧ (saveP D1 g [h1, s]).2 = 0 then 0 else 50
structure Keeps (D1 : PD) (e : Int) (h1 s g : Int) (ks : List Bool) (R W : List (List Int)) : Prop where
  code : e = 0 ∨ e = 50
  s0 : 0 ≤ s ∧ s < 18446744073709551616
  len : D1.cache.length ≤ 42
  ok : OKD (crashP (chgD D1 e h1 s g) ks)
  got : ∃ S g' h' t' X, WInv (crashP (chgD D1 e h1 s g) ks) S 98 g' h' t' X ∧ (X = W ∨ (chgE D1 e h1 s g ≠ 0 ∧ X = R))
section
variable {D : PD} {S : Int → List Int} {r g head tail : Int} {R : List (List Int)}
end
end Go.Proofs.YtlepcmljmibdnaaGreat
namespace Go.Proofs.YtlepcmljmibdnaaGreat
open Go.RowKit Go.Proofs.YtlepcmljmibdnaaGreatW.PrintWords Go.Proofs.YtlepcmljmibdnaaGreatW.PrintLast Go.Proofs.YtlepcmljmibdnaaGreatW.PrintMore PWalOpens
set_option linter.unusedVariables false
set_option linter.unusedSimpArgs false
section
variable {n0 : Nat} {w w' : World} {Wb B M Bd : Nat} {vc vs v1 : Value} {D D1 D2 : PD} {gen head tail h1 t1 : Int} {S S1 st : List Int} {over : Bool} {s e e2 : Int}
def SwapQ (n0 : Nat) (w : World) (Wb B M Bd : Nat) (D1 D2 : PD) (gen head tail : Int) (S st : List Int) (s e e2 : Int) (r : Ending) (w' : World) : Prop :=
  TC n0 isWD w w' ∧ ∃ vc' vs',
    (e ≠ 0 → (e = 2 ∨ e = 51) → r = .returned (.int .i64 e) ∧ WV n0 w' Wb B M Bd vc' vs' D1 gen head tail S false) ∧
    (e ≠ 0 → (e ≠ 2 ∧ e ≠ 51) → r = .returned (.int .i64 50) ∧ WV n0 w' Wb B M Bd vc' vs' D1 gen head tail S true) ∧
    (e = 0 → e2 = 0 → r = .returned (.int .i64 0) ∧ WV n0 w' Wb B M Bd vc' vs' D2 (gen + 1) tail s st false) ∧
    (e = 0 → e2 ≠ 0 → r = .returned (.int .i64 50) ∧ WV n0 w' Wb B M Bd vc' vs' D2 gen head tail S true)
set_option maxHeartbeats 1000000 in
theorem swap_calls {A : Option Addr} {c : Nat} {R : List (List Int)} {r f : Int} (hr : ringP D = r) (hR : RecsOK R) (hf : r - (tail - head) = f) (hres : layP D r f tail R = (D1, st, s, e)) (hsv : saveP D1 (gen + 1) [tail, s] = (D2, e2))
    (ht : 0 ≤ head ∧ head ≤ tail ∧ tail < 18446744073709551000 ∧ tail - head ≤ 4094) (hg : 0 ≤ gen ∧ gen < 18446744073709551615) (hs : 0 ≤ s ∧ s < 18446744073709551616) (hl : D.cache.length ≤ 850) (hl1 : D1.cache.length ≤ 900) (h : WV n0 w Wb B M Bd vc vs D gen head tail S false)
    (hT : ∀ W, TC n0 isWD w W → bytesK.C W A R.length R) :
    Calls Tryz.prog 17 #[.pointer (some ⟨Wb, 0, none⟩), .slice A R.length c] w (SwapQ n0 w Wb B M Bd D1 D2 gen head tail S st s e e2) := by
  have HK := Aside0.mk (wok_calls h.blk)
  have HLY := Aside0.mk (lay_wv (c := c) hr hR hf hres ht hl h hT)
  have HSV := Aside0.mk hsv
  have HL1 := Aside0.mk hl1
  have HTD := Aside0.mk (show 0 ≤ tail ∧ tail < 18446744073709551616 from by omega)
  have HN0 := Aside0.mk (show n0 ≤ w.heap.size from h.dk.base_le)
  obtain ⟨⟨q0, q1, q2, q3, q4, q5, q6⟩, _⟩ := cells7 h.blk
  simp only [Bool.not_false, Bool.and_self] at HK
  clear h hr hR hf hres hT hsv ht q0 q1 q2 q4 q5 q6
  by_cases he : e = 0
  · subst he
    go_enter Tryz.func17, Tryz.ntmps17
    go_wp2_with (first
      | (go_at_call 54; (with_reducible refine HK.out.mono ?_); rintro e w' ⟨rfl, rfl⟩)
      | (go_at_call 55; (with_reducible refine HLY.out.mono ?_); rintro e w1 ⟨A1, c1, vc1, rfl, hst, hv, htc⟩; have HST := Aside0.mk hst; have HV := Aside0.mk hv; have HTC := Aside0.mk htc; clear hst hv htc)
      | (go_at_call 57; (with_reducible refine (turn_calls e2 HSV.out hg HTD.out hs HL1.out HV.out (Kd.R_lower HST.out HN0.out)).mono ?_); rintro er w4 ⟨ht4, vc4, hq1, hq2⟩; have HT4 := Aside0.mk (HTC.out.trans ht4); have HQ4 := Aside0.mk (And.intro hq1 hq2); clear hq1 hq2 ht4; obtain ⟨x4, rfl⟩ : ∃ x4, er = .returned (.int .i64 x4) := ret_code HQ4.out.1 HQ4.out.2))
    go_ret
    refine ⟨HT4.out, vc4, if e2 = 0 then .slice A1 st.length c1 else vs, fun h => absurd rfl h, fun h => absurd rfl h, fun _ h2 => ?_, fun _ h2 => ?_⟩
    · rw [if_pos h2]
      exact HQ4.out.1 h2
    · rw [if_neg h2]
      exact HQ4.out.2 h2
  · have he' : (e != 0) = true := by simp; exact he
    by_cases he2 : e = 2 ∨ e = 51
    · have HE := Aside0.mk (fun w => wend_same (w := w) (Wb := Wb) e he2)
      go_enter Tryz.func17, Tryz.ntmps17
      go_wp2_with (first
        | (go_at_call 54; (with_reducible refine HK.out.mono ?_); rintro e w' ⟨rfl, rfl⟩)
        | (go_at_call 55; (with_reducible refine HLY.out.mono ?_); rintro er w1 ⟨A1, c1, vc1, rfl, hst, hv, htc⟩; have HV := Aside0.mk hv; have HTC := Aside0.mk htc; clear hst hv htc)
        | (go_at_call 56; (with_reducible refine (HE.out w1).mono ?_); rintro er w' ⟨rfl, rfl⟩))
      go_ret
      exact ⟨HTC.out, vc1, vs, fun _ _ => ⟨rfl, HV.out⟩, fun _ h => absurd he2 (by omega), fun h => absurd h he, fun h => absurd h he⟩
    · have HE := Aside0.mk (fun w (h : WlC w Wb B gen head tail vs true false) => wend_over e (by omega) h)
      go_enter Tryz.func17, Tryz.ntmps17
      go_wp2_with (first
        | (go_at_call 54; (with_reducible refine HK.out.mono ?_); rintro e w' ⟨rfl, rfl⟩)
        | (go_at_call 55; (with_reducible refine HLY.out.mono ?_); rintro er w1 ⟨A1, c1, vc1, rfl, hst, hv, htc⟩; have HV := Aside0.mk hv; have HTC := Aside0.mk htc; clear hst hv htc)
        | (go_at_call 56; (with_reducible refine (HE.out w1 HV.out.blk).mono ?_); rintro er w' ⟨rfl, rfl⟩))
      go_ret
      exact ⟨HTC.out.trans ((HV.out.tcW 6 _).mono fun _ h => .inr h), vc1, vs, fun _ h => absurd h he2, fun _ _ => ⟨rfl, HV.out.overed⟩, fun h => absurd h he, fun h => absurd h he⟩
end
end Go.Proofs.YtlepcmljmibdnaaGreat
namespace Go.Proofs.YtlepcmljmibdnaaGreat
open Go.RowKit Go.Proofs.YtlepcmljmibdnaaGreatW.PrintWords Go.Proofs.YtlepcmljmibdnaaGreatW.PrintLast Go.Proofs.YtlepcmljmibdnaaGreatW.PrintMore PWalOpens
set_option linter.unusedVariables false
set_option linter.unusedSimpArgs false
section
variable {w0 w : World} {F : Nat → Prop} {B M Bd : Nat} {vc : Value} {D D1 : PD}
end
end Go.Proofs.YtlepcmljmibdnaaGreat
namespace Go.Proofs.YtlepcmljmibdnaaGreat
open Go.RowKit Go.Proofs.YtlepcmljmibdnaaGreatW.PrintWords Go.Proofs.YtlepcmljmibdnaaGreatW.PrintLast Go.Proofs.YtlepcmljmibdnaaGreatW.PrintMore PWalOpens
set_option linter.unusedVariables false
set_option linter.unusedSimpArgs false
theorem few7_loop (l : List (List Int)) (hl : l.length ≤ 9223372036854775807) : ∀ (m i : Nat), i + m = l.length → (∀ j, j < i → (l.getD j []).length ≤ 400) →
    ∃ r, factotumlaw07_few.l0 (m + 1) l l (l.length : Int) (i : Int) = some r ∧ (r = true → l.length ≤ 6 ∧ ∀ b ∈ l, b.length ≤ 400)
  | 0, i, hi, hall => by
    refine ⟨decide ((l.length : Int) ≤ 6), ?_, fun h => ⟨by have := of_decide_eq_true h; omega, fun x hx => ?_⟩⟩
    · rw [factotumlaw07_few.l0, if_neg (by omega)]
    · obtain ⟨j, hj, rfl⟩ := List.mem_iff_getElem.1 hx
      have := hall j (by omega)
      simpa [List.getD, hj] using this
  | m + 1, i, hi, hall => by
    rw [factotumlaw07_few.l0, if_pos (by omega), if_pos (by omega), if_pos (by omega)]
    have e : rd_L1 l (i : Int) = l.getD i [] := by simp [rd_L1]
    rw [e]
    by_cases h1 : ((l.getD i []).length : Int) > 400
    · exact ⟨false, by rw [if_pos h1], fun h => by cases h⟩
    · rw [if_neg h1, show wrap64 ((i : Int) + 1) = ((i + 1 : Nat) : Int) by unfold wrap64; omega]
      exact few7_loop l hl m (i + 1) (by omega) (fun j hj => by
        by_cases hji : j < i
        · exact hall j hji
        · obtain rfl : j = i := by omega
          omega)
theorem few7_f (l : List (List Int)) (hl : l.length ≤ 9223372036854775807) : ∃ r, factotumlaw07_few.f (l.length + 1) l = some r ∧ (r = true → l.length ≤ 6 ∧ ∀ b ∈ l, b.length ≤ 400) := few7_loop l hl l.length 0 (by omega) (by omega)
/-- texts that lie in an elder world -/
def farK (w0 : World) : Kd (List Int) where
  sz := 1
  E := []
  K := fun _ xs cs => bytesK.K w0 xs cs
  M := fun _ _ _ xs cs => bytesK.K w0 xs cs
  K_len := fun h => bytesK.K_len h
  K_one := fun h => bytesK.K_one h
  K_below := fun _ h => h
  K_of_M := fun h => h
  M_mono := fun _ h => h
  M_bound := fun h => h
  M_move := fun _ h => h
  M_lower := fun _ h => h
theorem far_C {w0 w : World} {A : Option Addr} {n : Nat} {xs : List (List Int)} (h : (farK w0).C w A n xs) (hb : Below w0.heap.size w0 w) : bytesK.C w A n xs := by
  refine ⟨h.1, h.2.1, fun h0 => ?_⟩
  obtain ⟨ad, e, hc⟩ := h.2.2 h0
  refine ⟨ad, e, fun j p hj => ?_⟩
  obtain ⟨c, h1, h2, h3⟩ := hc j p hj
  exact ⟨c, h1, bytesK.K_below hb h2, h3⟩
theorem info29k : (Tryz.prog.info? 58).map (fun i => (i.zero, i.size, i.bytes)) = some (some (.slice none 0 0), 1, 24) := by kernel_rfl
section
variable {n0 : Nat} {w w' : World} {Wb B M Bd : Nat} {vc vs v1 : Value} {D D1 D2 : PD} {gen head tail h1 t1 : Int} {S S1 st : List Int} {over : Bool} {s e e2 : Int}
end
end Go.Proofs.YtlepcmljmibdnaaGreat
namespace Go.Proofs.YtlepcmljmibdnaaGreat
open Go.RowKit Go.Proofs.YtlepcmljmibdnaaGreatW.PrintWords Go.Proofs.YtlepcmljmibdnaaGreatW.PrintLast Go.Proofs.YtlepcmljmibdnaaGreatW.PrintMore PWalOpens
set_option linter.unusedVariables false
set_option linter.unusedSimpArgs false
section
variable {n0 : Nat} {w w' w2 : World} {Rb R : Nat} {vS vC vB vo vo' vL v1 : Value} {X X1 X2 : RX} {gen tail : Int} {L L1 oL : List Rec} {over : Bool}
theorem radd_of {A : Option Addr} {n c : Nat} {Q : Ending → World → Prop} (h : Calls Tryz.prog 59 #[.pointer (some ⟨Rb, 0, none⟩), .slice A n c, .bool false] w Q) (hv : ∀ e w', Q e w' → ∃ x, e = .returned (.int .i64 x)) :
    Calls Tryz.prog 16 #[.pointer (some ⟨Rb, 0, none⟩), .slice A n c] w Q := by
  go_enter Tryz.func16, Tryz.ntmps16
  go_wp2_with (first
    | (go_at_call 59; go_loud ((refine h.mono ?_); rintro er w5 hq; obtain ⟨x, rfl⟩ := hv _ _ hq)))
  exact hq
theorem rrec_at {base : Nat} {ok : Nat → Prop} (h : Kd.Q recK 112 w base ok vL L) (k : Nat) (p : Rec) (hk : L[k]? = some p) :
    ∃ g o c A ci, vL = .slice (some ⟨g, o, none⟩) L.length c ∧ w.cell? ⟨g, o + k * 3, none⟩ = some (.slice A p.1.length ci) ∧ w.cell? ⟨g, o + k * 3 + 1, none⟩ = some (.int .u64 p.2.1) ∧ w.cell? ⟨g, o + k * 3 + 2, none⟩ = some (.int .u64 p.2.2) ∧ bytesK.K w p.1 [.slice A p.1.length ci] := by
  have hl : k < L.length := (List.getElem?_eq_some_iff.1 hk).1
  obtain ⟨g, o, c, hv, _⟩ := Kd.Q_form h (by omega)
  have hC := h
  rw [hv] at hC
  obtain ⟨c', hcl, hM, hcc, hf⟩ := Kd.Q_elem hC p (k : Int) (by omega) (by omega)
  have e : L.getD (k : Int).toNat p = p := by simp [List.getD, hk]
  rw [e] at hM
  obtain ⟨c0, c1, rfl, hM0, c3, c4, rfl, hM1, hM2⟩ := hM
  have hM1' : c3 = [.int .u64 p.2.1] := hM1
  have hM2' : c4 = [.int .u64 p.2.2] := hM2
  subst hM1' hM2'
  have hK := bytesK.K_of_M hM0
  obtain ⟨v, rfl, hR⟩ := hM0
  obtain ⟨A, ci, rfl⟩ := Kd.R_slice hR
  have h1 := hcc 0 _ rfl
  have h2 := hcc 1 _ rfl
  have h3 := hcc 2 _ rfl
  rw [Int.toNat_natCast, show recK.sz = 3 from rfl] at h1 h2 h3
  rw [Nat.add_zero] at h1
  exact ⟨g, o, c, A, ci, hv, h1, h2, h3, hK⟩
theorem write3_cells (w : World) (a0 a1 a2 : Value) (t : Nat) : (w.alloc (.cells #[a0, a1, a2] t)).cell? ⟨w.heap.size, 0, none⟩ = some a0 := by
  have h : (w.alloc (.cells #[a0, a1, a2] t)).heap[w.heap.size]? = some (.cells #[a0, a1, a2] t (0, 0)) := heap_alloc_new w _
  unfold World.cell?; rw [h]; rfl
def RcsQ (w : World) (L : List Rec) (e : Ending) (w' : World) : Prop := ∃ A c, e = .returned (.slice A L.length c) ∧ bytesK.C w' A L.length (L.map (·.1)) ∧ Below w.heap.size w w'
theorem records_calls (hLl : L.length ≤ 100000) (h : RV n0 w Rb R vS vC vB vo vL X gen tail L over) :
    Calls Tryz.prog 26 #[.pointer (some ⟨Rb, 0, none⟩)] w (RcsQ w L) := by
  have HV := Aside0.mk h
  have HLL := Aside0.mk hLl
  obtain ⟨AL, cL, hvL, _⟩ := Kd.Q_slice h.L
  subst hvL
  obtain ⟨⟨q0, q1, q2, q3, q4⟩, _⟩ := cells5 h.blk
  clear h hLl q0 q1 q2 q4
  go_enter Tryz.func26, Tryz.ntmps26
  go_wp2
  go_loopg [3, 11] L.length (fun kq v3 v11 w' => ∃ i : Nat, v11 = .int .i64 (i : Int) ∧ Aside0 (i + kq = L.length) ∧ Aside0 (Below w.heap.size w w') ∧ Aside0 (Kd.R (farK w) 58 w' w.heap.size (fun _ => True) v3 ((L.take i).map (·.1))))
  case atStart => exact ⟨0, rfl, ⟨by omega⟩, ⟨Below.refl _ _⟩, ⟨Kd.R_nil _ _ _ _ _⟩⟩
  case round =>
    obtain ⟨i, rfl, HI, HB, HO⟩ := hrel
    obtain ⟨Ao, co, hvo⟩ := Kd.R_slice HO.out
    subst hvo
    by_cases hi : i < L.length
    · obtain ⟨x, hx⟩ : ∃ x, L[i]? = some x := ⟨_, List.getElem?_eq_getElem hi⟩
      obtain ⟨g, oo, c, A, ci, hvc, x0, x1, x2, hK⟩ := rrec_at HV.out.L i x hx
      injection hvc with hv1 hv2 hv3
      subst hv1
      subst hv3
      clear hv2
      have x0 := Fork.bel_cell HB.out x0
      have x1 := Fork.bel_cell HB.out x1
      have x2 := Fork.bel_cell HB.out x2
      have hi' : (i : Int) < (L.length : Int) := by omega
      have HX := Aside0.mk hx
      have HK := Aside0.mk hK
      have z0 := write3_cells wr (.slice A x.1.length ci) (.int .u64 x.2.1) (.int .u64 x.2.2) 112
      have HTK := Aside0.mk (show (L.take (i + 1)).map (·.1) = (L.take i).map (·.1) ++ [x.1] from by rw [List.take_add_one, hx]; simp)
      have HLN := Aside0.mk (show (((L.take i).map (·.1)).length + 1) * 24 ≤ 140737488355328 from by rw [List.length_map, List.length_take]; have := HLL.out; omega)
      obtain ⟨l3, hl3⟩ : ∃ l3, (L.take i).map (·.1) = l3 := ⟨_, rfl⟩
      rw [hl3] at HO HTK HLN ⊢
      clear hx hK hl3
      go_wp2_with (first
        | ((with_reducible refine gate_builtin (b := .append) (xs := #[.tmp 15, .tmp 18]) rfl ?_); at_builtin; go_loud (refine Kd.R_append (farK w) (W := wr.alloc (.cells #[.slice A x.1.length ci, .int .u64 x.2.1, .int .u64 x.2.2] 112)) (w0 := wr.alloc (.cells #[.slice A x.1.length ci, .int .u64 x.2.1, .int .u64 x.2.2] 112)) w.heap.size rfl (.tmp 15) (.tmp 18) 32 58 (.slice none 0 0) 24 rfl Tryz.underlying32 info29k rfl Nat.one_pos (by decide) _ l3 x.1 [.slice A x.1.length ci] (fun _ => True) (fun _ => False) rfl (by rw [alloc_size]; rfl) HK.out (fun _ h => h.elim) (fun _ _ => trivial) (Kd.R_below HO.out ((Below.refl wr.heap.size wr).alloc (Nat.le_refl _) _)) (Below.refl _ _) (Nat.le_trans HB.out.size (by rw [alloc_size]; exact Nat.le_succ _)) HLN.out ?_); intro v6 w6 ho hb hg hat; rw [← HTK.out] at ho; have HO6 := Aside0.mk ho; have HB6 := Aside0.mk ((HB.out.alloc HB.out.size (.cells #[.slice A x.1.length ci, .int .u64 x.2.1, .int .u64 x.2.2] 112)).trans hb); clear ho hb hg hat))
      obtain ⟨gq, rfl⟩ : ∃ gq, gk = gq + 1 := ⟨gk - 1, by have := HI.out; omega⟩
      have hLL := HLL.out
      have hi4 : (i : Int) ≤ 100000 := by omega
      go_roundg gq
      case rel => exact ⟨i + 1, by first | go_num | (rw [show wrap64 ((i : Int) + 1) = ((i + 1 : Nat) : Int) by unfold wrap64; omega]), ⟨by have := HI.out; omega⟩, HB6, HO6⟩
      case measure => omega
    · have hm' : ¬ ((i : Int) < (L.length : Int)) := by omega
      obtain rfl : i = L.length := by have := HI.out; omega
      obtain ⟨_, hcap, hC⟩ := Kd.R_reads' HO.out
      have HCA := Aside0.mk hC
      have hll : ((L.take L.length).map (·.1)).length = L.length := by simp
      go_wp2
      go_ret
      refine ⟨Ao, co, rfl, ?_, HB.out⟩
      have h6 := far_C HCA.out HB.out
      rw [hll, List.take_length] at h6
      exact h6
end
end Go.Proofs.YtlepcmljmibdnaaGreat
