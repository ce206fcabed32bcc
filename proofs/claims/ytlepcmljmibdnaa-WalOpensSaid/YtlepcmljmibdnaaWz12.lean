/- Parts of one proof, joined: Xf, Pk, Sw, Sk. Conditions: those of each statement. -/
import Derived.Test.YtlepcmljmibdnaaWz11
import Derived.Test.YtlepcmljmibdnaaWz10
import Derived.Test.YtlepcmljmibdnaaWz9
import Derived.Test.YtlepcmljmibdnaaWz8
namespace Go.Proofs.Ytlepcmljmibdnaa
open Go.RowKit Go.Proofs.YtlepcmljmibdnaaW.PrintWords Go.Proofs.YtlepcmljmibdnaaW.PrintLast Go.Proofs.YtlepcmljmibdnaaW.PrintMore PWalOpens
set_option linter.unusedVariables false
set_option linter.unusedSimpArgs false
theorem rwriteX_ring (X : RX) (a : Int) (b : List Int) : rringX (rwriteX X a b).1 = rringX X := by
  have ha : (ractX X).1.S = X.S := by
    unfold ractX
    split
    · rfl
    · split <;> rfl
  unfold rwriteX rringX
  split
  · rfl
  · split
    · rfl
    · split
      · rfl
      · split
        · rw [ha]
        · show max (((ractX X).1.S.length : Int) - 2) 0 = _
          rw [ha]
theorem drop_at {P : List (List Int)} {i : Nat} (h : i < P.length) : P.drop i = P.getD i [] :: P.drop (i + 1) := by
  rw [List.drop_eq_getElem_cons h]
  simp [List.getD, h]
theorem row_M {α : Type} {d : Kd α} {e base n c : Nat} {w : World} {ok : Nat → Prop} {v : Value} {A : Option Addr} {xs : List α} (h : d.R e w base ok v xs) (hv : v = .slice A n c) : ReadsRow (d.M w base (fun k => ok k ∧ some k ≠ v.ownBlock)) d.sz w A n xs := by
  obtain ⟨A', c', he, hl, hr⟩ := OwnRow.reads h.2
  rw [hv] at he
  cases he
  exact hr
section
variable {n0 : Nat} {w w' w2 : World} {Rb R : Nat} {vS vC vB vo vo' vL v1 : Value} {X X1 X2 : RX} {gen tail : Int} {L L1 oL : List Rec} {over : Bool}
set_option maxRecDepth 100000 in
set_option maxHeartbeats 8000000 in
theorem rput_add {A : Option Addr} {c : Nat} {P : List (List Int)} {r hh pe e e2 : Int} (hr : rringX X = r) (hr1 : 1 ≤ r) (hP : RecsOK P) (hd : headX L tail = hh) (hf : needs P ≤ r - (tail - hh)) (ht : 0 ≤ hh ∧ hh ≤ tail ∧ tail < 18446744073709551000 ∧ tail - hh ≤ r) (hg : 0 ≤ gen ∧ gen < 18446744073709551615)
    (hlay : rlayR r P X tail L = (X1, oL, pe, e)) (hsv : rsaveX X1 (gen + 1) [headX oL pe, pe] = (X2, e2)) (hpe : 0 ≤ pe ∧ pe < 18446744073709551616) (hho : 0 ≤ headX oL pe ∧ headX oL pe < 18446744073709551616) (hc : X.cache.length ≤ 800) (hLl : L.length ≤ 1000000)
    (h : RV n0 w Rb R vS vC vB vo vL X gen tail L false) (hT : Txts n0 isRW w A P) :
    Calls Try.prog 94 #[.pointer (some ⟨Rb, 0, none⟩), .slice A P.length c, .bool false] w (PutQ n0 w Rb R vS vB X X1 X2 gen tail pe L oL e e2) := by
  have HH := Aside0.mk h
  have HT := Aside0.mk hT
  have HPo := Aside0.mk hP
  have HR := Aside0.mk hr
  have HD := Aside0.mk hd
  have HTB := Aside0.mk (show 0 ≤ hh ∧ hh ≤ tail ∧ tail < 18446744073709551616 ∧ tail - hh ≤ r by omega)
  have HTL := Aside0.mk (show 0 ≤ tail ∧ tail < 18446744073709551000 by omega)
  have HLAY := Aside0.mk hlay
  have HSV := Aside0.mk hsv
  have HG := Aside0.mk hg
  have HPE := Aside0.mk hpe
  have HHO := Aside0.mk hho
  have HCC := Aside0.mk hc
  have HLL := Aside0.mk hLl
  have HR1 := Aside0.mk hr1
  have HN0 := Aside0.mk (show n0 ≤ w.heap.size from h.rk.base_le)
  have hplen : (P.length : Int) ≤ 6 := by have := hP.len; omega
  have g42 := needs_le (R := P) (fun b hb => (hP.each b hb).2)
  have hf2 : decide (r - (tail - hh) < needs P) = false := decide_eq_false (by omega)
  obtain ⟨⟨q0, q1, q2, q3, q4⟩, _⟩ := cells5 h.blk
  clear h hT hr hP hd ht hf hlay hsv hg hpe hho hc hLl hr1 q0 q1 q2 q3
  go_enter Try.func94, Try.ntmps94
  go_wp2
  go_loopg [7, 23] P.length (fun kq v7 v23 w' => ∃ i : Nat, v23 = .int .i64 (i : Int) ∧ v7 = .int .i64 (needs (P.take i)) ∧ Aside0 (i + kq = P.length) ∧ Aside0 (Below w.heap.size w w'))
  case atStart => exact ⟨0, rfl, rfl, ⟨by omega⟩, ⟨Below.refl _ _⟩⟩
  case round =>
    obtain ⟨i, rfl, rfl, HI, HB⟩ := hrel
    by_cases hlt : i < P.length
    · (have hlt' : (i : Int) < (P.length : Int) := by omega); obtain ⟨ad, A9, c9, rfl, hTi⟩ := HT.out i hlt; have hcw := hTi wr (TC.of_below HB.out HH.out.rk.base_le); obtain ⟨hc9, hl9, hC9⟩ := hcw; have HTI := Aside0.mk hTi; have hRi := HPo.out.getD i; obtain ⟨x, hx⟩ : ∃ x, P.getD i [] = x := ⟨_, rfl⟩; rw [hx] at hc9 hl9 hC9 hRi HTI; obtain ⟨m, hm⟩ : ∃ m, needN x = m := ⟨_, rfl⟩; (have hmb : 1 ≤ m ∧ m ≤ 7 := by rw [← hm]; unfold needN; rw [if_neg (by omega)]; omega); have HM := Aside0.mk (show needs (P.take (i + 1)) = needs (P.take i) + m from by rw [needs_take hlt, hx, hm]); have HC9 := Aside0.mk hC9; clear hTi hl9 hC9; have HN5 := Aside0.mk (fun (W : World) (hW : Below wr.heap.size wr W) => rneed_calls W A9 c9 x m hm hRi.1 (by omega) (Kd.C_below HC9.out hW)); have m0 : 1 ≤ m := hmb.1; have m1 : m ≤ 7 := hmb.2; (have hmn : (m == 0) = false := by simp; omega); have g0 : 0 ≤ needs (P.take i) := (needs_le (R := P.take i) (fun b hb => (HPo.out.each b (List.mem_of_mem_take hb)).2)).1; have g1 : needs (P.take i) ≤ 42 := (by have := (needs_le (R := P.take i) (fun b hb => (HPo.out.each b (List.mem_of_mem_take hb)).2)).2; rw [List.length_take] at this; omega)
      go_wp2_with (first
        | (go_at_call 58; (with_reducible refine (HN5.out wr (Below.refl _ _)).mono ?_); rintro e w5 ⟨rfl, hb5⟩; have HB5 := Aside0.mk hb5; clear hb5)
        | (go_at_call 58; (with_reducible refine (HN5.out w5 HB5.out).mono ?_); rintro e w6 ⟨rfl, hb5⟩; have HB6 := Aside0.mk (HB5.out.trans (hb5.mono HB5.out.size)); clear hb5))
      obtain ⟨gq, rfl⟩ : ∃ gq, gk = gq + 1 := ⟨gk - 1, by have := HI.out; omega⟩
      go_roundg gq
      case rel => exact ⟨i + 1, by go_num, by rw [HM.out], ⟨by have := HI.out; omega⟩, ⟨HB.out.trans (HB6.out.mono HB.out.size)⟩⟩
      case measure => omega
    · have hm' : ¬ ((i : Int) < (P.length : Int)) := by omega
      obtain rfl : i = P.length := by have := HI.out; omega
      have HV := Aside0.mk (HH.out.fresh HB.out)
      have HFR := Aside0.mk (rfree_calls HR.out HD.out HTB.out HV.out)
      rw [List.take_length]
      obtain ⟨AL, cL, hvL⟩ := Kd.R_slice HV.out.L
      have HVL := Aside0.mk hvL
      have HLA := Aside0.mk (show (([] : List Rec).length + L.length) * 40 ≤ 140737488355328 by simp; have := HLL.out; omega)
      go_wp2_with (first
        | (go_at_call 116; (with_reducible refine HFR.out.mono ?_); rintro e w5 ⟨rfl, hd6⟩; have HB5 := Aside0.mk (HB.out.trans (hd6.below.mono HB.out.size)); have HV5 := Aside0.mk (HV.out.fresh hd6.below); obtain ⟨⟨z0, z1, z2, z3, z4⟩, _⟩ := cells5 HV5.out.blk; rw [HVL.out] at z3; clear hd6)
        | ((with_reducible refine gate_builtin (b := .append) (xs := #[.tmp 41, .tmp 45]) rfl ?_); at_builtin; go_loud (refine Kd.R_append_rows recK (W := w5) (w0 := w5) n0 rfl (.tmp 41) (.tmp 45) 132 138 (.agg #[.slice none 0 0, .int .u64 0, .int .u64 0]) 40 rfl Try.underlying132 info138 rfl (by decide) (by decide) (.slice none 0 0) [] L AL L.length cL (fun _ => True) (fun k => (some k ≠ vo.ownBlock) ∧ some k ≠ vL.ownBlock) rfl rfl (Kd.R_nil _ _ _ _ _) (row_M HV5.out.L HVL.out) (fun _ _ h => h) (fun k hk => ⟨trivial, fun e => by simp [Value.ownBlock] at e⟩) (fun _ _ => trivial) (Below.refl _ _) HV5.out.rk.base_le HLA.out ?_); intro v6 w6 ho hb hg hat; rw [List.nil_append] at ho; have HO6 := Aside0.mk ho; have HV6 := Aside0.mk (HV5.out.any.grow (Kd.R_nil _ _ _ _ _) hg hat); have HT6 := Aside0.mk ((TC.of_below (T := isRW) HB5.out HN0.out).grow_new hg HN0.out (fun k hk => by simp [Value.ownBlock] at hk)); have HNB6 := Aside0.mk (show ∀ k, v6.ownBlock = some k → w.heap.size ≤ k from fun k hk => by rcases hat with e | ⟨b, e, hb⟩; (rw [e] at hk; simp [Value.ownBlock] at hk); (rw [e] at hk; cases hk; exact Nat.le_trans HB5.out.size hb)); obtain ⟨⟨y0, y1, y2, y3, y4⟩, _⟩ := cells5 HV6.out.blk; clear ho hb hg hat))
      have HS0 := Aside0.mk (And.intro HT6.out (And.intro HV6.out (And.intro HO6.out HNB6.out)))
      clear HH HV HB HI
      go_loopg [10, 11, 53] P.length (fun kq v10 v11 v53 w' => ∃ (i : Nat) (p : Int) (o : List Rec) (X' : RX) (vC' : Value), v53 = .int .i64 (i : Int) ∧ v11 = .int .u64 p ∧ Aside0 (i + kq = P.length) ∧ Aside0 (TC n0 isRW w w' ∧ RV n0 w' Rb R vS vC' vB v10 vL X' gen tail L false ∧ Kd.R recK 138 w' n0 (fun _ => True) v10 o ∧ ∀ k, v10.ownBlock = some k → w.heap.size ≤ k) ∧ Aside0 (rlayR r (P.drop i) X' p o = (X1, oL, pe, e)) ∧ Aside0 (tail ≤ p ∧ p ≤ tail + 7 * i) ∧ Aside0 (o.length ≤ L.length + i) ∧ Aside0 (X'.cache.length ≤ X.cache.length + 7 * i) ∧ Aside0 (rringX X' = r))
      case atStart => exact ⟨0, tail, L, X, _, rfl, rfl, ⟨by omega⟩, HS0, HLAY, ⟨by simp⟩, ⟨by simp⟩, ⟨by simp⟩, HR⟩
      case round =>
        obtain ⟨i, p, o, X', vC', rfl, rfl, HI, HS, HLY, HP, HOL, HXC, HRX⟩ := hrel
        clear HS0 HLAY
        obtain ⟨Ao, co, rfl⟩ := Kd.R_slice HS.out.2.2.1
        obtain ⟨HS1, HS2, HS3, HS4⟩ := HS.out
        by_cases hlt : i < P.length
        · have hlt' : (i : Int) < (P.length : Int) := by omega
          obtain ⟨gq, rfl⟩ : ∃ gq, gk = gq + 1 := ⟨gk - 1, by have := HI.out; omega⟩
          obtain ⟨ad, A9, c9, rfl, hTi⟩ := HT.out i hlt
          obtain ⟨hc9, hl9, hC9⟩ := hTi wr HS1
          have hRi := HPo.out.getD i
          have hly := HLY.out
          rw [drop_at hlt] at hly
          obtain ⟨x, hx⟩ : ∃ x, P.getD i [] = x := ⟨_, rfl⟩
          rw [hx] at hc9 hl9 hC9 hRi hTi hly
          have HTI := Aside0.mk hTi
          have HXB := Aside0.mk hRi
          have HFRM := Aside0.mk (rframe_calls wr A9 c9 x hRi.1 (by omega) hC9)
          have hfx : frameX x = frameB x := by unfold frameX; rw [if_neg (by omega)]
          unfold rlayR at hly
          rw [hfx] at hly
          obtain ⟨Xf, pf, ef, hCh⟩ : ∃ Xf pf ef, rlayC r (chs (frameB x)) X' p = (Xf, pf, ef) := ⟨_, _, _, rfl⟩
          rw [hCh] at hly
          simp only at hly
          obtain ⟨K, hK⟩ : ∃ K, (x.length + 7 + 63) / 64 = K := ⟨_, rfl⟩
          have HK7 := Aside0.mk (show K ≤ 7 by omega)
          have HFL := Aside0.mk (frameB_len x)
          obtain ⟨fb, hfb⟩ : ∃ fb, frameB x = fb := ⟨_, rfl⟩
          rw [hfb] at HFRM hCh HFL
          have HL2 := Aside0.mk hly
          have HCH := Aside0.mk hCh
          have HKK := Aside0.mk hK
          have HBS := Aside0.mk (show n0 ≤ wr.heap.size from HS2.rk.base_le)
          have hxl : (x.length : Int) ≤ 400 := by omega
          clear hl9 hC9 hRi hTi hly hCh hx hfx hfb hK HLY
          go_wp2_with (first
            | (go_at_call 97; (with_reducible refine HFRM.out.mono ?_); rintro er w8 ⟨A8, c8, rfl, hb8, ho8⟩; have HT8 := Aside0.mk (HS1.trans (TC.of_below hb8 HBS.out)); have HV8 := Aside0.mk (HS2.fresh hb8); have HO8 := Aside0.mk (Kd.R_below HS3 hb8); have HF8 := Aside0.mk ho8; clear hb8 ho8))
          clear HS1 HS2 HS3 HFRM
          have HSB := Aside0.mk (show ∀ W, TC n0 isRef w8 W → SB W A8 c8 fb from fun W hc => by have q := OwnB.tc HF8.out hc; rw [← HFL.out] at q; exact SB.of_R q)
          rw [← HFL.out]
          go_loopg [11, 14] K (fun kq v11 v14 w' => ∃ (q : Int) (f : List Int) (Af : Option Addr) (cf : Nat) (X'' : RX) (vC'' : Value), v11 = .int .u64 q ∧ v14 = .slice Af f.length cf ∧ Aside0 ((f.length + 63) / 64 = kq) ∧ Aside0 (TC n0 isRef w8 w' ∧ RV n0 w' Rb R vS vC'' vB (.slice Ao o.length co) vL X'' gen tail L false ∧ ∀ W, TC n0 isRef w8 W → SB W Af cf f) ∧ Aside0 (rlayC r (chs f) X'' q = (Xf, pf, ef)) ∧ Aside0 (p ≤ q ∧ q + kq = p + K) ∧ Aside0 (X''.cache.length + kq ≤ X'.cache.length + K) ∧ Aside0 (rringX X'' = r))
          case atStart => exact ⟨p, fb, A8, c8, X', _, rfl, rfl, ⟨by rw [HFL.out]; exact HKK.out⟩, ⟨TC.refl _ _ _, HV8.out, HSB.out⟩, HCH, ⟨by omega⟩, ⟨by omega⟩, HRX⟩
          case round =>
            obtain ⟨q, f, Af, cf, X'', vC'', rfl, rfl, HFQ, HZ, HCQ, HQ, HXQ, HRQ⟩ := hrel
            clear HSB HCH HV8
            obtain ⟨HZ1, HZ2, HZ3⟩ := HZ.out
            by_cases hf0 : f.length = 0
            · obtain rfl : f = [] := List.eq_nil_of_length_eq_zero hf0
              obtain rfl : gk = 0 := by have := HFQ.out; simp at this; exact this.symm
              have hcq := HCQ.out
              rw [chs_nil] at hcq
              unfold rlayC at hcq
              cases hcq
              have h2 := HL2.out
              rw [if_neg (by simp)] at h2
              have HL3 := Aside0.mk h2
              have HTW := Aside0.mk (HT8.out.trans (HZ1.mono fun _ h => .inl h))
              obtain ⟨_, hl9, hC9⟩ := HTI.out wr HTW.out
              have HC9 := Aside0.mk hC9
              have HXL := Aside0.mk (show (([] : List Int).length + x.length) * 1 ≤ 140737488355328 by simp; omega)
              have HOLN := Aside0.mk (show (o.length + 1) * 40 ≤ 140737488355328 by have := HOL.out; have := HLL.out; omega)
              have HOW := Aside0.mk (R_tc HO8.out HZ1 (fun q hq cells => by rcases q138 q hq with rfl | rfl <;> simp [isRef]))
              clear h2 hC9 hl9
              go_wp2_with (first
                | ((with_reducible refine gate_builtin (b := .append) (xs := #[.const (.slice none 0 0), .tmp 94]) rfl ?_); at_builtin; go_loud (refine Kd.R_append_rows (Kd.int .u8) (W := wr) (w0 := wr) wr.heap.size rfl (.const (.slice none 0 0)) (.tmp 94) 29 5 (.int .u8 0) 1 rfl Try.underlying29 info5e rfl (by decide) (by decide) (.slice none 0 0) [] x A9 x.length c9 (fun _ => True) (fun _ => False) rfl rfl (Kd.R_nil _ _ _ _ _) HC9.out (fun _ _ h => h) (fun _ h => h.elim) (fun _ _ => trivial) (Below.refl _ _) (Nat.le_refl _) HXL.out ?_); intro v5 w5 ho hb hg hat; rw [List.nil_append] at ho; have HB5 := Aside0.mk hb; have HR5 := Aside0.mk ho; obtain ⟨A5, c5, hv5⟩ := Kd.R_slice ho; subst hv5; clear ho hb hg hat)
                | ((with_reducible refine gate_builtin (b := .append) (xs := #[.tmp 93, .tmp 99]) rfl ?_); at_builtin; go_loud (refine Kd.R_append recK (W := w5) (w0 := w5) n0 rfl (.tmp 93) (.tmp 99) 132 138 (.agg #[.slice none 0 0, .int .u64 0, .int .u64 0]) 40 rfl Try.underlying132 info138 rfl (by decide) (by decide) _ o (x, p, pf) [.slice A5 x.length c5, .int .u64 p, .int .u64 pf] (fun _ => True) (fun k => wr.heap.size ≤ k) rfl rfl (rec_M HR5.out HZ2.rk.base_le) (fun k hk => ⟨trivial, own_past HOW.out hk⟩) (fun _ _ => trivial) (Kd.R_below HOW.out HB5.out) (Below.refl _ _) (Nat.le_trans HZ2.rk.base_le HB5.out.size) HOLN.out ?_); intro v6 w6 ho hb hg hat; have HS6 := Aside0.mk (And.intro ((HTW.out.trans (TC.of_below HB5.out HZ2.rk.base_le)).grow_new hg HN0.out (fun k hk => HS4 k hk)) (And.intro ((HZ2.fresh HB5.out).grow (Kd.R_below HOW.out HB5.out) hg hat) (And.intro ho (show ∀ k, v6.ownBlock = some k → w.heap.size ≤ k from fun k hk => by rcases hat with e | ⟨b, e, hb⟩; (rw [e] at hk; exact HS4 k hk); (rw [e] at hk; cases hk; exact Nat.le_trans (Nat.le_trans HTW.out.low.size HB5.out.size) hb))))); clear ho hb hg hat))
              go_roundg gq
              case rel => exact ⟨i + 1, pf, o ++ [(x, p, pf)], Xf, _, by go_num, rfl, ⟨by have := HI.out; omega⟩, HS6, HL3, ⟨by have := HQ.out; have := HP.out; have := HK7.out; omega⟩, ⟨by rw [List.length_append, List.length_singleton]; have := HOL.out; omega⟩, ⟨by have := HXQ.out; have := HXC.out; have := HK7.out; omega⟩, HRQ⟩
              case measure => omega
            · have hfp : 0 < f.length := by omega
              have hfp' : (0 : Int) < (f.length : Int) := by omega
              have hbd := (Below.refl wr.heap.size wr).drew
              obtain ⟨gi, rfl⟩ : ∃ gi, gk = gi + 1 := ⟨gk - 1, by have := HFQ.out; omega⟩
              have hcq := HCQ.out
              rw [chs_cons hfp] at hcq
              unfold rlayC at hcq
              have hsb := HZ3 wr HZ1
              obtain ⟨adf, hadf⟩ : ∃ adf, Af = some adf := by
                cases Af with
                | none => have := (hsb.none_ rfl).1; omega
                | some a => exact ⟨a, rfl⟩
              subst hadf
              have hfc := hsb.cap
              have hf7 : f.length ≤ 448 := by have := HFQ.out; have := HQ.out; have := HK7.out; omega
              have HZ3' := HZ3
              obtain ⟨X3, e3, hw3⟩ : ∃ X3 e3, rwriteX X'' (sectP r q) (f.take 64) = (X3, e3) := ⟨_, _, rfl⟩
              have HX3 := Aside0.mk hw3
              rw [hw3] at hcq
              simp only at hcq
              have hr1 := HR1.out
              have hrb : r ≤ 4094 := by have := HZ2.rk.ok.hn; rw [← HRQ.out]; unfold rringX; omega
              have m0 : 0 ≤ q % r := Int.emod_nonneg _ (by omega)
              have m1 : q % r < r := Int.emod_lt_of_pos _ (by omega)
              have m2 : q % r ≤ 4094 := by omega
              have hq0 : 0 ≤ q := by have := HQ.out; have := HP.out; have := HTL.out; omega
              have hrn : ¬ r = 0 := by omega
              have htm : q.tmod r = q % r := Int.tmod_eq_emod_of_nonneg hq0
              have hw1 : IntKind.i64.wrap (q % r) = q % r := IntWalk.i64_in _ (by omega)
              have hw2 : IntKind.i64.wrap (2 + q % r) = 2 + q % r := IntWalk.i64_in _ (by omega)
              have hq1 : q + 1 < 18446744073709551616 := by have := HQ.out; have := HP.out; have := HTL.out; have := HK7.out; have := HI.out; omega
              have HRG := Aside0.mk (rring_calls wr.drew n0 R vS vC'' vB X'' r HRQ.out (HZ2.rk.fresh hbd))
              obtain ⟨⟨q0, q1, q2, q3, q4⟩, _⟩ := cells5 HZ2.blk
              clear q1 q2 q3
              by_cases h64 : 64 < f.length
              · have h64i : (64 : Int) < (f.length : Int) := by omega
                have hA2 : (64 : Int) ≤ (cf : Int) := by omega
                have hcl : (f.take 64).length = 64 := by rw [List.length_take]; omega
                have hA1 : (if cf = 64 then some adf else some { block := adf.block, off := adf.off + 64 }) = some { block := adf.block, off := adf.off + 64 } := if_neg (by omega)
                have HT1 := Aside0.mk (fun W hc => (HZ3' W hc).tail (by decide) (by omega) hA1)
                have e64 : (64 : Int) ≤ (f.length : Int) := by omega
                have HRW := Aside0.mk (show Calls Try.prog 26 #[.pointer (some ⟨R, 0, none⟩), .int .i64 (2 + q % r), .slice (some adf) 64 cf] wr.drew fun e w' => e = .returned (.int .i64 e3) ∧ TC n0 isRef wr.drew w' ∧ ∃ vC', RK w' n0 R vS vC' vB X3 from by
                  have hq := rwrite_calls wr.drew n0 R vS vC'' vB X'' X3 (sectP r q) e3 (some adf) cf (f.take 64) hw3 (HZ2.rk.fresh hbd) (by have := HXQ.out; have := HXC.out; have := HK7.out; have := HCC.out; omega) (fun W hc => Kd.C_take (m := 64) (HZ3' W ((HZ1.trans (TC.of_below hbd HZ2.rk.base_le)).trans hc)).C (by omega))
                  rw [hcl] at hq
                  exact hq)
                have HCL := Aside0.mk hcl
                clear hw3 hcl hA1
                go_wp2_with fail
                refine Fork.wp_fork (Fork.Lo.rel 0) [16] [] (.one 0 0 (.one 1 0 (.one 2 0 (.one 4 0 (.one 5 0 (.one 6 0 (.one 7 0 (.one 13 0 (.one 14 0 (.one 15 0 (.one 3 1 (.one 8 1 (.one 9 2 (.one 10 0 (.one 11 0 (.one 12 0 (.one 16 2 (.one 17 0 .nil)))))))))))))))))) (by kernel_rfl) (by kernel_rfl) ?_
                generalize hops : List.toArray (_ : List Oper) = ops
                have HO := Aside0.mk hops
                clear hops
                iterate 10 ((refine Fork.plain (Fork.at_ HO.out rfl) _ rfl (fun W => by go_simp; exact rfl) ?_); simp only [Act.put, List.setIfInBounds_toArray, List.set_cons_succ, List.set_cons_zero])
                refine Fork.reads (Fork.at_ HO.out rfl) _ rfl (fun W hW => Arr.ex_load1 rfl rfl (by kernel_rfl) (Fork.bel_cell hW (by assumption))) ?_
                simp only [Act.put, List.setIfInBounds_toArray, List.set_cons_succ, List.set_cons_zero]
                refine Fork.reads (Fork.at_ HO.out rfl) _ rfl (fun W hW => Arr.ex_load1 rfl rfl (by kernel_rfl) (Fork.bel_cell hW (by assumption))) ?_
                simp only [Act.put, List.setIfInBounds_toArray, List.set_cons_succ, List.set_cons_zero]
                refine Fork.step (Fork.at_ HO.out rfl) (fun K hK => ?_)
                go_simp
                refine HRG.out.mono ?_
                rintro er w' ⟨rfl, rfl⟩
                refine hK _ _ (.of_new (Below.refl _ _) (Nat.zero_le _)) ?_
                clear hK K
                try simp only [Act.put, List.setIfInBounds_toArray, List.set_cons_succ, List.set_cons_zero]
                iterate 3 ((refine Fork.plain (Fork.at_ HO.out rfl) _ rfl (fun W => by go_simp; exact rfl) ?_); simp only [Act.put, List.setIfInBounds_toArray, List.set_cons_succ, List.set_cons_zero])
                refine Fork.step (Fork.at_ HO.out rfl) (fun K hK => ?_)
                go_simp
                (with_reducible refine HRW.out.mono ?_)
                rintro er w5 ⟨rfl, ht5, vC5, hr5⟩
                refine hK _ _ (Fork.Grow.of_old (Fork.Lo.zero ht5.low.os ht5.low.tape ht5.low.output) rfl) ?_
                clear hK K
                have HV5 := Aside0.mk ((HZ2.fresh hbd).ref ht5 hr5)
                have HT5 := Aside0.mk (HZ1.trans ((TC.of_below hbd HZ2.rk.base_le).trans ht5))
                clear ht5 hr5
                try simp only [Act.put, List.setIfInBounds_toArray, List.set_cons_succ, List.set_cons_zero]
                ((refine Fork.plain (Fork.at_ HO.out rfl) _ rfl (fun W => by go_simp; exact rfl) ?_); simp only [Act.put, List.setIfInBounds_toArray, List.set_cons_succ, List.set_cons_zero])
                refine Fork.done ?_
                by_cases he3 : e3 = 0
                · subst he3
                  rw [if_neg (by simp)] at hcq
                  have HCN := Aside0.mk hcq
                  clear hcq
                  go_wp2
                  go_roundg gi
                  case rel => exact ⟨q + 1, f.drop 64, _, cf - 64, X3, vC5, rfl, by rw [List.length_drop], ⟨by rw [List.length_drop]; have := HFQ.out; omega⟩, ⟨HT5.out, HV5.out, HT1.out⟩, HCN, ⟨by have := HQ.out; omega⟩, ⟨by have h1 := rwriteX_cache X'' (sectP r q) (f.take 64); rw [HX3.out] at h1; have := HXQ.out; simp only at h1; omega⟩, ⟨by have h1 := rwriteX_ring X'' (sectP r q) (f.take 64); rw [HX3.out] at h1; exact h1.trans HRQ.out⟩⟩
                  case measure => omega
                · have he3' : (e3 != 0) = true := by simpa using he3
                  rw [if_pos he3] at hcq
                  have HCN := Aside0.mk hcq
                  obtain ⟨⟨z0, z1, z2, z3, z4⟩, y0, y1, y2, y3, y4⟩ := cells5 HV5.out.blk
                  clear hcq he3
                  go_wp2
                  go_ret
                  have h1 := HCN.out
                  cases h1
                  have h2 := HL2.out
                  rw [if_pos (by decide)] at h2
                  cases h2
                  exact ⟨HT8.out.trans ((HT5.out.mono fun _ h => .inl h).trans ((HV5.out.set 4 _).mono fun _ h => .inr h)), vC5, vL, fun h => absurd h (by decide), fun _ => ⟨rfl, HV5.out.any.overed⟩, fun h => absurd h (by decide), fun h => absurd h (by decide)⟩
              · have h64i : ¬ ((64 : Int) < (f.length : Int)) := by omega
                have hA2 : (f.length : Int) ≤ (cf : Int) := by omega
                have hcl : (f.take 64).length = f.length := by rw [List.length_take]; omega
                obtain ⟨A1, hA1⟩ : ∃ A1, (if cf = f.length then some adf else some (adf.add f.length)) = A1 := ⟨_, rfl⟩
                have htk : f.take 64 = f := List.take_of_length_le (by omega)
                have HT1 := Aside0.mk (fun W hc => (HZ3' W hc).tail' hfp (Nat.le_refl _) hA1)
                have HRW := Aside0.mk (show Calls Try.prog 26 #[.pointer (some ⟨R, 0, none⟩), .int .i64 (2 + q % r), .slice (some adf) f.length cf] wr.drew fun e w' => e = .returned (.int .i64 e3) ∧ TC n0 isRef wr.drew w' ∧ ∃ vC', RK w' n0 R vS vC' vB X3 from by
                  have hq := rwrite_calls wr.drew n0 R vS vC'' vB X'' X3 (sectP r q) e3 (some adf) cf (f.take 64) hw3 (HZ2.rk.fresh hbd) (by have := HXQ.out; have := HXC.out; have := HK7.out; have := HCC.out; omega) (fun W hc => (by rw [htk]; exact (HZ3' W ((HZ1.trans (TC.of_below hbd HZ2.rk.base_le)).trans hc)).C))
                  rw [hcl] at hq
                  exact hq)
                have HCL := Aside0.mk hcl
                clear hw3 hcl htk
                go_wp2_with fail
                refine Fork.wp_fork (Fork.Lo.rel 0) [16] [] (.one 0 0 (.one 1 0 (.one 2 0 (.one 4 0 (.one 5 0 (.one 6 0 (.one 7 0 (.one 13 0 (.one 14 0 (.one 15 0 (.one 3 1 (.one 8 1 (.one 9 2 (.one 10 0 (.one 11 0 (.one 12 0 (.one 16 2 (.one 17 0 .nil)))))))))))))))))) (by kernel_rfl) (by kernel_rfl) ?_
                generalize hops : List.toArray (_ : List Oper) = ops
                have HO := Aside0.mk hops
                clear hops
                iterate 10 ((refine Fork.plain (Fork.at_ HO.out rfl) _ rfl (fun W => by go_simp; exact rfl) ?_); simp only [Act.put, List.setIfInBounds_toArray, List.set_cons_succ, List.set_cons_zero])
                refine Fork.reads (Fork.at_ HO.out rfl) _ rfl (fun W hW => Arr.ex_load1 rfl rfl (by kernel_rfl) (Fork.bel_cell hW (by assumption))) ?_
                simp only [Act.put, List.setIfInBounds_toArray, List.set_cons_succ, List.set_cons_zero]
                refine Fork.reads (Fork.at_ HO.out rfl) _ rfl (fun W hW => Arr.ex_load1 rfl rfl (by kernel_rfl) (Fork.bel_cell hW (by assumption))) ?_
                simp only [Act.put, List.setIfInBounds_toArray, List.set_cons_succ, List.set_cons_zero]
                refine Fork.step (Fork.at_ HO.out rfl) (fun K hK => ?_)
                go_simp
                refine HRG.out.mono ?_
                rintro er w' ⟨rfl, rfl⟩
                refine hK _ _ (.of_new (Below.refl _ _) (Nat.zero_le _)) ?_
                clear hK K
                try simp only [Act.put, List.setIfInBounds_toArray, List.set_cons_succ, List.set_cons_zero]
                iterate 3 ((refine Fork.plain (Fork.at_ HO.out rfl) _ rfl (fun W => by go_simp; exact rfl) ?_); simp only [Act.put, List.setIfInBounds_toArray, List.set_cons_succ, List.set_cons_zero])
                refine Fork.step (Fork.at_ HO.out rfl) (fun K hK => ?_)
                go_simp
                (with_reducible refine HRW.out.mono ?_)
                rintro er w5 ⟨rfl, ht5, vC5, hr5⟩
                refine hK _ _ (Fork.Grow.of_old (Fork.Lo.zero ht5.low.os ht5.low.tape ht5.low.output) rfl) ?_
                clear hK K
                have HV5 := Aside0.mk ((HZ2.fresh hbd).ref ht5 hr5)
                have HT5 := Aside0.mk (HZ1.trans ((TC.of_below hbd HZ2.rk.base_le).trans ht5))
                clear ht5 hr5
                try simp only [Act.put, List.setIfInBounds_toArray, List.set_cons_succ, List.set_cons_zero]
                ((refine Fork.plain (Fork.at_ HO.out rfl) _ rfl (fun W => by go_simp; exact rfl) ?_); simp only [Act.put, List.setIfInBounds_toArray, List.set_cons_succ, List.set_cons_zero])
                refine Fork.done ?_
                by_cases he3 : e3 = 0
                · subst he3
                  rw [if_neg (by simp)] at hcq
                  have HCN := Aside0.mk hcq
                  clear hcq
                  go_wp2
                  have hdd : f.drop 64 = f.drop f.length := by rw [List.drop_of_length_le (by omega), List.drop_of_length_le (Nat.le_refl _)]
                  have HCN2 := Aside0.mk (show rlayC r (chs (f.drop f.length)) X3 (q + 1) = (Xf, pf, ef) from by rw [← hdd]; exact HCN.out)
                  go_roundg gi
                  case rel => exact ⟨q + 1, f.drop f.length, A1, cf - f.length, X3, vC5, rfl, by simp, ⟨by rw [List.length_drop]; have := HFQ.out; omega⟩, ⟨HT5.out, HV5.out, HT1.out⟩, HCN2, ⟨by have := HQ.out; omega⟩, ⟨by have h1 := rwriteX_cache X'' (sectP r q) (f.take 64); rw [HX3.out] at h1; have := HXQ.out; simp only at h1; omega⟩, ⟨by have h1 := rwriteX_ring X'' (sectP r q) (f.take 64); rw [HX3.out] at h1; exact h1.trans HRQ.out⟩⟩
                  case measure => omega
                · have he3' : (e3 != 0) = true := by simpa using he3
                  rw [if_pos he3] at hcq
                  have HCN := Aside0.mk hcq
                  obtain ⟨⟨z0, z1, z2, z3, z4⟩, y0, y1, y2, y3, y4⟩ := cells5 HV5.out.blk
                  clear hcq he3
                  go_wp2
                  go_ret
                  have h1 := HCN.out
                  cases h1
                  have h2 := HL2.out
                  rw [if_pos (by decide)] at h2
                  cases h2
                  exact ⟨HT8.out.trans ((HT5.out.mono fun _ h => .inl h).trans ((HV5.out.set 4 _).mono fun _ h => .inr h)), vC5, vL, fun h => absurd h (by decide), fun _ => ⟨rfl, HV5.out.any.overed⟩, fun h => absurd h (by decide), fun h => absurd h (by decide)⟩
        · have hm' : ¬ ((i : Int) < (P.length : Int)) := by omega
          have hly := HLY.out
          rw [List.drop_of_length_le (by omega)] at hly
          unfold rlayR at hly
          cases hly
          have HTU := Aside0.mk (rturn_calls e2 rfl HSV.out HG.out HHO.out HPE.out (by have := HXC.out; have := HCC.out; have := HI.out; omega) HS2 HS3)
          clear HS3
          go_wp2_with (first
            | (go_at_call 117; (with_reducible refine HTU.out.mono ?_); rintro er w6 ⟨ht6, vC6, hq1, hq2⟩; have HT6 := Aside0.mk (HS1.trans ht6); have HQ6 := Aside0.mk (And.intro hq1 hq2); obtain ⟨x6, rfl⟩ : ∃ x6, er = .returned (.int .i64 x6) := ret_code HQ6.out.1 HQ6.out.2; clear ht6 hq1 hq2))
          go_ret
          refine ⟨HT6.out, vC6, if e2 = 0 then .slice Ao oL.length co else vL, fun h => absurd h (by decide), fun h => absurd h (by decide), fun _ h2 => ?_, fun _ h2 => ?_⟩
          · rw [if_pos h2]
            exact HQ6.out.1 h2
          · rw [if_neg h2]
            exact HQ6.out.2 h2
end
end Go.Proofs.Ytlepcmljmibdnaa
namespace Go.Proofs.Ytlepcmljmibdnaa
open Go.RowKit Go.Proofs.YtlepcmljmibdnaaW.PrintWords Go.Proofs.YtlepcmljmibdnaaW.PrintLast Go.Proofs.YtlepcmljmibdnaaW.PrintMore PWalOpens
set_option linter.unusedVariables false
set_option linter.unusedSimpArgs false
/-- what is kept (S), what is seen (V), and the sectors that are cached (T) -/
structure Pn (D : PD) (n : Int) (S V : Int → List Int) (T : Int → Prop) : Prop where
  qt : Qt D n S
  view : ∀ a, view D a = V a
  cache : ∀ p ∈ D.cache, T p.1
section
variable {D : PD} {n : Int} {S V : Int → List Int} {T : Int → Prop}
theorem actP_code (D : PD) : (actP D).2 = 0 ∨ (actP D).2 = 50 := by
  unfold actP
  simp only
  split
  · exact .inr rfl
  · split <;> exact .inl rfl
end
section
variable {n r : Int} {S : Int → List Int} {T : Int → Prop}
end
section
variable {D : PD} {S : Int → List Int} {r g head tail : Int} {R : List (List Int)}
end
/-- what the wal's change answers, and the disk behind it -/
noncomputable def chgD (D1 : PD) (e : Int) (h1 s g : Int) : PD := if e = 0 then (saveP D1 g [h1, s]).1 else D1
noncomputable def chgE (D1 : PD) (e : Int) (h1 s g : Int) : Int := if e = 0 ∧ (saveP D1 g [h1, s]).2 = 0 then 0 else 50
structure Keeps (D1 : PD) (e : Int) (h1 s g : Int) (ks : List Bool) (R W : List (List Int)) : Prop where
  code : e = 0 ∨ e = 50
  s0 : 0 ≤ s ∧ s < 18446744073709551616
  len : D1.cache.length ≤ 42
  ok : OKD (crashP (chgD D1 e h1 s g) ks)
  got : ∃ S g' h' t' X, WInv (crashP (chgD D1 e h1 s g) ks) S 98 g' h' t' X ∧ (X = W ∨ (chgE D1 e h1 s g ≠ 0 ∧ X = R))
section
variable {D : PD} {S : Int → List Int} {r g head tail : Int} {R : List (List Int)}
end
end Go.Proofs.Ytlepcmljmibdnaa
namespace Go.Proofs.Ytlepcmljmibdnaa
open Go.RowKit Go.Proofs.YtlepcmljmibdnaaW.PrintWords Go.Proofs.YtlepcmljmibdnaaW.PrintLast Go.Proofs.YtlepcmljmibdnaaW.PrintMore PWalOpens
set_option linter.unusedVariables false
set_option linter.unusedSimpArgs false
section
variable {n0 : Nat} {w w' : World} {Wb B M Bd : Nat} {vc vs v1 : Value} {D D1 D2 : PD} {gen head tail h1 t1 : Int} {S S1 st : List Int} {over : Bool} {s e e2 : Int}
def SwapQ (n0 : Nat) (w : World) (Wb B M Bd : Nat) (D1 D2 : PD) (gen head tail : Int) (S st : List Int) (s e e2 : Int) (r : Ending) (w' : World) : Prop :=
  TC n0 isWD w w' ∧ ∃ vc' vs',
    (e ≠ 0 → (e = 2 ∨ e = 51) → r = .returned (.int .i64 e) ∧ WV n0 w' Wb B M Bd vc' vs' D1 gen head tail S false) ∧
    (e ≠ 0 → (e ≠ 2 ∧ e ≠ 51) → r = .returned (.int .i64 50) ∧ WV n0 w' Wb B M Bd vc' vs' D1 gen head tail S true) ∧
    (e = 0 → e2 = 0 → r = .returned (.int .i64 0) ∧ WV n0 w' Wb B M Bd vc' vs' D2 (gen + 1) tail s st false) ∧
    (e = 0 → e2 ≠ 0 → r = .returned (.int .i64 50) ∧ WV n0 w' Wb B M Bd vc' vs' D2 gen head tail S true)
end
end Go.Proofs.Ytlepcmljmibdnaa
namespace Go.Proofs.Ytlepcmljmibdnaa
open Go.RowKit Go.Proofs.YtlepcmljmibdnaaW.PrintWords Go.Proofs.YtlepcmljmibdnaaW.PrintLast Go.Proofs.YtlepcmljmibdnaaW.PrintMore PWalOpens
set_option linter.unusedVariables false
set_option linter.unusedSimpArgs false
section
variable {w0 w : World} {F : Nat → Prop} {B M Bd : Nat} {vc : Value} {D D1 : PD}
end
end Go.Proofs.Ytlepcmljmibdnaa
