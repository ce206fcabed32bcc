/- Parts of one proof, joined: Xc, Xd, Xe. Conditions: those of each statement. -/
import Derived.Test.YtlepcmljmibdnaaGreatQx9
namespace Go.Proofs.YtlepcmljmibdnaaGreat
open Go.RowKit Go.Proofs.YtlepcmljmibdnaaGreatW.PrintWords Go.Proofs.YtlepcmljmibdnaaGreatW.PrintLast Go.Proofs.YtlepcmljmibdnaaGreatW.PrintMore PWalOpens
set_option linter.unusedVariables false
set_option linter.unusedSimpArgs false
section
variable {w w' w2 : World} {Rb R : Nat} {va va' vL v1 : Value} {gen tail : Int} {L L' : List Rec} {all : List Int}
theorem RwS.fresh (h : RwS w w' Rb R va vL gen tail L) (hb : Below w'.heap.size w' w2) : RwS w w2 Rb R va vL gen tail L :=
  ⟨(hb.block _ (Array.getElem?_eq_some_iff.1 h.blk).1).trans h.blk, h.hW, h.low.trans (hb.mono h.low.size), Kd.R_below h.L hb⟩
/-- the bytes' row went on -/
theorem RwS.turn (h : RwS w w' Rb R va vL gen tail L) (hr : Kd.R (Kd.int .u8) 5 w' w.heap.size (fun _ => True) va all) (hg : w'.grownBy w2 va.ownBlock) (hat : va'.ownBlock = va.ownBlock ∨ ∃ b, va'.ownBlock = some b ∧ w'.heap.size ≤ b) : RwS w w2 Rb R va' vL gen tail L := by
  have hc : TC w.heap.size (isT 5) w' w2 := TC.grown hg (fun k hk => by
    obtain ⟨h1, cells, h2⟩ := own_cells hr k hk
    exact ⟨h1, _, h2, rfl⟩) h.low.size
  refine ⟨hc.blk Rb _ h.blk (by simp [isT]), h.hW, h.low.trans hc.low, Kd.R_mono (Kd.R_grown (Kd.R_bound h.L) hg (fun k hk => hk.1)) (fun k hk => ?_)⟩
  rcases hat with e | ⟨b, e, hb⟩
  · rw [e]; exact hk.1
  · rw [e]
    intro hkb
    have := hk.2.2.1
    cases hkb
    omega
theorem RwS.any (h : RwS w w' Rb R va vL gen tail L) : RwS w w' Rb R (.slice none 0 0) vL gen tail L :=
  ⟨h.blk, h.hW, h.low, Kd.R_mono h.L (fun k _ e => by simp [Value.ownBlock] at e)⟩
/-- the records' row went on, then the field that holds it -/
theorem RwS.put (h : RwS w w' Rb R (.slice none 0 0) vL gen tail L) (hg : w'.grownBy w2 vL.ownBlock) (ho : Kd.R recK 112 w2 w.heap.size (fun _ => True) v1 L') : RwS w (w2.setCell ⟨Rb, 3, none⟩ v1) Rb R (.slice none 0 0) v1 gen tail L' := by
  have hc : TC w.heap.size (isT 112) w' w2 := TC.grown hg (fun k hk => by
    obtain ⟨h1, cells, h2⟩ := own_cells (Kd.R_mono h.L (fun _ _ => trivial)) k hk
    exact ⟨h1, _, h2, rfl⟩) h.low.size
  have b2 := hc.blk Rb _ h.blk (by simp [isT])
  have hs : TC w.heap.size (isT 55) w2 (w2.setCell ⟨Rb, 3, none⟩ v1) := TC.set (T := isT 55) b2 rfl h.hW v1
  refine ⟨set7 b2 3 v1, h.hW, (h.low.trans hc.low).trans hs.low, Kd.R_mono (R_tc ho hs (fun q hq cells => ?_)) (fun k _ e => by simp [Value.ownBlock] at e)⟩
  rcases q138 q hq with rfl | rfl <;> simp [isT]
end
/-- what the loop keeps -/
structure OwI (w w' : World) (Rb R g4 c1 : Nat) (va vL : Value) (gen tail hh : Int) (all : List Int) (L : List Rec) : Prop where
  s : RwS w w' Rb R va vL gen tail L
  all : Kd.R (Kd.int .u8) 5 w' w.heap.size (fun _ => True) va all
  two : Kd.R (Kd.int .u64) 52 w' w.heap.size (fun _ => True) (.slice (some ⟨g4, 0, none⟩) 2 c1) [hh, tail]
section
variable {w w' w2 : World} {Rb R g4 c1 : Nat} {va va' vL v1 : Value} {gen tail hh : Int} {L L' : List Rec} {all all' : List Int}
theorem OwI.fresh (h : OwI w w' Rb R g4 c1 va vL gen tail hh all L) (hb : Below w'.heap.size w' w2) : OwI w w2 Rb R g4 c1 va vL gen tail hh all L :=
  ⟨h.s.fresh hb, Kd.R_below h.all hb, Kd.R_below h.two hb⟩
theorem OwI.turn (h : OwI w w' Rb R g4 c1 va vL gen tail hh all L) (ho : Kd.R (Kd.int .u8) 5 w2 w.heap.size (fun _ => True) va' all') (hg : w'.grownBy w2 va.ownBlock) (hat : va'.ownBlock = va.ownBlock ∨ ∃ b, va'.ownBlock = some b ∧ w'.heap.size ≤ b) : OwI w w2 Rb R g4 c1 va' vL gen tail hh all' L := by
  have hc : TC w.heap.size (isT 5) w' w2 := TC.grown hg (fun k hk => by
    obtain ⟨h1, cells, h2⟩ := own_cells h.all k hk
    exact ⟨h1, _, h2, rfl⟩) h.s.low.size
  exact ⟨h.s.turn h.all hg hat, ho, R_tc h.two hc (fun q hq cells => by
    obtain rfl := q56 q hq
    simp [isT])⟩
theorem OwI.put (h : OwI w w' Rb R g4 c1 va vL gen tail hh all L) (hg : w'.grownBy w2 vL.ownBlock) (ho : Kd.R recK 112 w2 w.heap.size (fun _ => True) v1 L') : OwI w (w2.setCell ⟨Rb, 3, none⟩ v1) Rb R g4 c1 (.slice none 0 0) v1 gen tail hh [] L' := by
  have hc : TC w.heap.size (isT 112) w' w2 := TC.grown hg (fun k hk => by
    obtain ⟨h1, cells, h2⟩ := own_cells (Kd.R_mono h.s.L (fun _ _ => trivial)) k hk
    exact ⟨h1, _, h2, rfl⟩) h.s.low.size
  have b2 := hc.blk Rb _ h.s.blk (by simp [isT])
  have hs : TC w.heap.size (isT 55) w2 (w2.setCell ⟨Rb, 3, none⟩ v1) := TC.set (T := isT 55) b2 rfl h.s.hW v1
  exact ⟨h.s.any.put hg ho, Kd.R_nil _ _ _ _ _, R_tc (R_tc h.two hc (fun q hq cells => by
    obtain rfl := q56 q hq
    simp [isT])) hs (fun q hq cells => by
    obtain rfl := q56 q hq
    simp [isT])⟩
end
theorem own_ne134 {w w' : World} {Rb R : Nat} {va vL : Value} {gen tail : Int} {L : List Rec} (h : RwS w w' Rb R va vL gen tail L) : some Rb ≠ vL.ownBlock := fun e => by
  obtain ⟨_, cells, hc⟩ := own_cells (Kd.R_mono h.L (fun _ _ => trivial)) Rb e
  rw [h.blk] at hc
  simp at hc
section
variable {w : World} {base R : Nat} {vS vC vB : Value} {X : RX}
set_option maxRecDepth 100000 in
set_option maxHeartbeats 4000000 in
theorem row_main (g h t r : Int) (LL : List Rec) (EE : Int) (hgo : ropenGo X r (t - h).toNat h h [] [] = (LL, EE)) (hld : rloadX X = (g, [h, t], 0)) (hr : rringX X = r) (hht : h ≤ t) (htr : t - h ≤ r) (hrg : (0 ≤ h ∧ h < 18446744073709551616) ∧ (0 ≤ t ∧ t < 18446744073709551616)) (hx : RdX X) (hd : RK w base R vS vC vB X) :
    Calls Tryz.prog 13 #[.pointer (some ⟨R, 0, none⟩)] w (OwQ w R (g, t, LL, EE)) := by
  have HGO := Aside0.mk hgo
  have HL := Aside0.mk (rload_any (w := w) hld hx hd)
  have hrb : 0 ≤ r ∧ r ≤ 4094 := by have := hd.ok.hn; rw [← hr]; unfold rringX; omega
  obtain ⟨hr0, hr1⟩ := hrb
  have HD := Aside0.mk hd
  have HR := Aside0.mk hr
  have HX := Aside0.mk hx
  have HTR := Aside0.mk htr
  unfold LdQ at HL
  obtain ⟨⟨h0, h1⟩, t0, t1⟩ := hrg
  have hth2 : decide (t < h) = false := decide_eq_false (by omega)
  have hrt2 : decide (r < t - h) = false := decide_eq_false (by omega)
  clear hd hld hx hr hgo
  go_enter Tryz.func13, Tryz.ntmps13
  go_wp2_with (first
    | (go_at_call 51; (with_reducible refine HL.out.mono ?_); rintro e w1 ⟨A1, c1, rfl, hr, hb⟩; have HB1 := Aside0.mk hb; obtain ⟨g4, c4', hv⟩ := R_addr hr (by simp); cases hv; have x0 := two_cells hr; have HT1 := Aside0.mk (Kd.R_mono hr (fun _ _ => trivial)); clear hr hb))
  obtain ⟨x0, x1⟩ := x0
  have HDq := Aside0.mk (fun n => (HD.out.fresh (HB1.out)).fresh (bel_drewN (Below.refl w1.heap.size w1) n))
  go_quiet ((go_at_call 47; exact Calls.quiet_of_same ((rring_calls _ base R vS vC vB X r HR.out (HDq.out _)).mono fun e w' h => ⟨h.1, h.2.symm⟩)))
  have HBQ := Aside0.mk (bel_drewN HB1.out nq)
  obtain ⟨wq, hwq⟩ : ∃ wq, w1.drewN nq = wq := ⟨_, rfl⟩
  have y0 : (w1.drewN nq).cell? ⟨g4, 0, none⟩ = some (.int .u64 h) := x0
  have y1 : (w1.drewN nq).cell? ⟨g4, 1, none⟩ = some (.int .u64 t) := x1
  have HT1q := Aside0.mk (Kd.R_below HT1.out (bel_drewN (Below.refl w1.heap.size w1) nq))
  rw [hwq] at HBQ y0 y1 HT1q ⊢
  clear hwq x0 x1
  have z0 := fun o => Fork.bel_cell ((Below.refl wq.heap.size wq).alloc (Nat.le_refl _) o) y0
  have z1 := fun o => Fork.bel_cell ((Below.refl wq.heap.size wq).alloc (Nat.le_refl _) o) y1
  go_wp2
  have HS0 := Aside0.mk (show OwI w (wq.alloc (.cells #[.pointer (some ⟨R, 0, none⟩), .int .u64 g, .int .u64 t, .slice none 0 0, .bool false] 55)) wq.heap.size R g4 c1 (.slice none 0 0) (.slice none 0 0) g t h [] [] from by
    have hb := (Below.refl wq.heap.size wq).alloc (Nat.le_refl _) (.cells #[.pointer (some ⟨R, 0, none⟩), .int .u64 g, .int .u64 t, .slice none 0 0, .bool false] 55)
    exact ⟨⟨heap_alloc_new wq _, HBQ.out.size, HBQ.out.trans (hb.mono HBQ.out.size), Kd.R_nil _ _ _ _ _⟩, Kd.R_nil _ _ _ _ _, Kd.R_below HT1q.out hb⟩)
  obtain ⟨Rb, hRb⟩ : ∃ Rb, wq.heap.size = Rb := ⟨_, rfl⟩
  obtain ⟨w4, hw4⟩ : ∃ w4, wq.alloc (.cells #[.pointer (some ⟨R, 0, none⟩), .int .u64 g, .int .u64 t, .slice none 0 0, .bool false] 55) = w4 := ⟨_, rfl⟩
  rw [hw4, hRb] at HS0
  rw [hw4, hRb]
  have HP0 := Aside0.mk (show h + ((t - h).toNat : Int) = t by omega)
  clear hw4 hRb y0 y1 z0 z1 HL HDq HT1 HT1q
  go_loopg [8, 9, 10] (t - h).toNat (fun kq v8 v9 v10 w' => ∃ (p fr : Int) (all : List Int) (L : List Rec) (vL : Value), v8 = .int .u64 p ∧ v10 = .int .u64 fr ∧ Aside0 (p + (kq : Int) = t) ∧ Aside0 (h ≤ fr ∧ fr ≤ p) ∧ Aside0 ((all.length : Int) = 64 * (p - fr)) ∧ Aside0 (isBytes all) ∧ Aside0 ((L.length : Int) ≤ p - h) ∧ Aside0 (OwI w w' Rb R g4 c1 v9 vL g t h all L) ∧ Aside0 (ropenGo X r kq p fr all L = (LL, EE)))
  case atStart => exact ⟨h, h, [], [], .slice none 0 0, rfl, rfl, HP0, ⟨by omega⟩, ⟨by simp⟩, ⟨fun x hx => by cases hx⟩, ⟨by simp⟩, HS0, HGO⟩
  case round =>
    obtain ⟨p, fr, all, L, vL, rfl, rfl, HP, HFR, HAL, HAB, HLL, HS, HGO2⟩ := hrel
    clear HS0 HP0 HGO HB1 HBQ
    obtain ⟨Aa, ca, rfl⟩ := Kd.R_slice HS.out.all
    obtain ⟨AL, cL, rfl⟩ := Kd.R_slice HS.out.s.L
    obtain ⟨x0, x1⟩ := two_cells HS.out.two
    obtain ⟨⟨q0, q1, q2, q3, q4⟩, f0, f1, f2, f3, f4⟩ := cells5 HS.out.s.blk
    have HDr := Aside0.mk (HD.out.fresh HS.out.s.low)
    have hpt : p ≤ t := by have := HP.out; omega
    have hp0 : 0 ≤ p := by have := HFR.out; omega
    have hp1 : p < 18446744073709551616 := by omega
    by_cases hk0 : gk = 0
    · subst hk0
      have hpe : p = t := by have := HP.out; omega
      have hpe1 : (p == t) = true := by simpa using hpe
      have hpe2 : (p != t) = false := by simpa using hpe
      have hg2 := HGO2.out
      unfold ropenGo at hg2
      by_cases ha : 0 < all.length
      · rw [if_pos ha] at hg2
        cases hg2
        have ha1 : decide (0 < (all.length : Int)) = true := by simpa using ha
        clear hpe
        go_wp2
        go_ret2
        exact .inl ⟨(show (70 : Int) ≠ 0 by decide), rfl, HS.out.s.low⟩
      · rw [if_neg ha] at hg2
        cases hg2
        have ha1 : decide (0 < (all.length : Int)) = false := by simpa using ha
        clear hpe
        go_wp2
        go_ret2
        exact .inr ⟨rfl, Rb, _, rfl, HS.out.s.any⟩
    · obtain ⟨k, rfl⟩ : ∃ k, gk = k + 1 := ⟨gk - 1, by omega⟩
      have hpn : ¬ p = t := by have := HP.out; omega
      have hpe1 : (p == t) = false := by simpa using hpn
      have hpe2 : (p != t) = true := by simpa using hpn
      have hlt : p < t := by omega
      have hr3 : 1 ≤ r := by have := HTR.out; have := HFR.out; omega
      have m0 : 0 ≤ p % r := Int.emod_nonneg _ (by omega)
      have m1 : p % r < r := Int.emod_lt_of_pos _ (by omega)
      have m2 : p % r ≤ 4094 := by omega
      obtain ⟨b, e, hrd⟩ : ∃ b e, rreadX X (sectP r p) = (b, e) := ⟨_, _, rfl⟩
      have hg2 := HGO2.out
      unfold ropenGo at hg2
      rw [hrd] at hg2
      simp only at hg2
      have hbb := HX.out.bytes (sectP r p)
      have hbf := HX.out.full (sectP r p)
      have hbm := HX.out.most (sectP r p)
      rw [hrd] at hbb hbf hbm
      simp only at hbb hbf hbm
      have HRD := Aside0.mk (rread_calls wr base R vS vC vB X (sectP r p) e b hrd HDr.out HX.out.cache)
      rw [show sectP r p = 2 + p % r from rfl] at HRD
      have HBB := Aside0.mk hbb
      have HBM := Aside0.mk hbm
      clear hpn hk0 hbb hrd
      by_cases he : e = 0
      · have hb64 := hbf he
        subst he
        rw [if_neg (by simp)] at hg2
        have hb64' : (b.length : Int) = 64 := by omega
        have HNL := Aside0.mk (show (all.length + b.length) * 1 ≤ 140737488355328 by have := HAL.out; have := HFR.out; have := HTR.out; omega)
        obtain ⟨al2, hal2⟩ : ∃ al2, all ++ b = al2 := ⟨_, rfl⟩
        rw [hal2] at hg2
        have HAL2 := Aside0.mk (show (al2.length : Int) = 64 * (p + 1 - fr) by rw [← hal2, List.length_append]; have := HAL.out; omega)
        have HAB2 := Aside0.mk (show isBytes al2 from by rw [← hal2]; intro x hx; exact (List.mem_append.1 hx).elim (HAB.out x) (HBB.out x))
        have HAC := Aside0.mk hal2
        have hp2 : p + 1 < 18446744073709551616 := by omega
        clear hbf hbm hal2 hb64 hb64'
        go_wp2_with (first
          | (go_at_call 47; (with_reducible refine (rring_calls wr base R vS vC vB X r HR.out HDr.out).mono ?_); rintro er w' ⟨rfl, rfl⟩)
          | (go_at_call 52; (with_reducible refine HRD.out.mono ?_); rintro er w5 ⟨A5, c5, rfl, hr5, hb5⟩; have HR5 := Aside0.mk hr5; have HB5 := Aside0.mk hb5; have HS5 := Aside0.mk (HS.out.fresh hb5); clear hr5 hb5)
          | ((with_reducible refine gate_builtin (b := .append) (xs := #[.tmp 79, .tmp 80]) rfl ?_); at_builtin; go_loud (refine Kd.R_append_rows (Kd.int .u8) (W := w5) (w0 := w5) w.heap.size rfl (.tmp 79) (.tmp 80) 58 5 (.int .u8 0) 1 rfl Tryz.underlying58 info5e rfl (by decide) (by decide) _ all b A5 b.length c5 (fun _ => True) (fun _ => False) rfl rfl HS5.out.all (Kd.R_reads' HR5.out).2.2 (fun _ _ h => h) (fun _ h => h.elim) (fun _ _ => trivial) (Below.refl _ _) HS5.out.s.low.size HNL.out ?_); intro v6 w6 ho hb hg hat; rw [HAC.out] at ho; have HS6 := Aside0.mk (HS5.out.turn ho hg hat); obtain ⟨A6, c6, hv6⟩ := Kd.R_slice ho; subst hv6; have HSB6 := Aside0.mk (SB.of_R ho); clear ho hb hg hat))
        obtain ⟨x, n, e3, hu⟩ : ∃ x n e3, unF al2 = (x, n, e3) := ⟨_, _, _, rfl⟩
        have HUR := Aside0.mk (ur_calls w6 A6 c6 al2 (by have := HAL2.out; have := HFR.out; have := HTR.out; omega) HAB2.out HSB6.out)
        unfold UrQ at HUR
        have hxl := unF_len al2
        rw [hu] at HUR hg2 hxl
        simp only at HUR hg2 hxl
        have hxi : (x.length : Int) ≤ 60000 := by omega
        have HXL := Aside0.mk (show (([] : List Int).length + x.length) * 1 ≤ 140737488355328 by simp; omega)
        clear hu q0 q1 q2 q3 q4 f0 f1 f2 f3 f4
        by_cases h3 : e3 = 0
        · subst h3
          rw [if_pos rfl] at hg2
          have HG3 := Aside0.mk hg2
          have HLN := Aside0.mk (show (L.length + 1) * 40 ≤ 140737488355328 by have := HLL.out; have := HFR.out; have := HTR.out; omega)
          clear hg2
          (with_reducible refine HUR.out.mono ?_)
          rintro er w7 ⟨A7, c7, rfl, hC7, hb7⟩
          have HC7 := Aside0.mk hC7
          have HS7 := Aside0.mk (HS6.out.fresh hb7)
          clear hC7 hb7
          obtain ⟨⟨q0, q1, q2, q3, q4⟩, f0, f1, f2, f3, f4⟩ := cells5 HS7.out.s.blk
          clear q0 q1 q2 q4 f0 f1 f2 f4
          go_wp2_with fail
          refine Fork.wp_fork (Fork.Lo.rel 0) [11, 14] [] (.one 0 0 (.one 1 0 (.one 2 0 (.one 3 0 (.one 5 0 (.one 7 0 (.one 8 0 (.one 4 1 (.one 6 2 (.one 9 0 (.one 10 2 (.one 11 2 (.one 12 0 (.one 13 0 (.one 14 2 .nil))))))))))))))) (by kernel_rfl) (by kernel_rfl) ?_
          generalize hops : List.toArray (_ : List Oper) = ops
          have HO := Aside0.mk hops
          clear hops
          iterate 7 ((refine Fork.plain (Fork.at_ HO.out rfl) _ rfl (fun W => by go_simp; exact rfl) ?_); simp only [Act.put, List.setIfInBounds_toArray, List.set_cons_succ, List.set_cons_zero])
          refine Fork.reads (Fork.at_ HO.out rfl) _ rfl (fun W hW => Arr.ex_load1 rfl rfl (by kernel_rfl) (Fork.bel_cell hW (by assumption))) ?_
          simp only [Act.put, List.setIfInBounds_toArray, List.set_cons_succ, List.set_cons_zero]
          refine Fork.step (Fork.at_ HO.out rfl) (fun K hK => ?_)
          refine Kd.R_append_rows_step (Kd.int .u8) (w0 := w7.drew) w7.drew.heap.size rfl (.const (.slice none 0 0)) (.tmp 97) 58 5 (.int .u8 0) 1 rfl Tryz.underlying58 info5e rfl (by decide) (by decide) (.slice none 0 0) [] x A7 x.length c7 (fun _ => True) (fun _ => False) rfl rfl (Kd.R_nil _ _ _ _ _) (Kd.C_below HC7.out (Below.refl w7.heap.size w7).drew) (fun _ _ h => h) (fun _ h => h.elim) (fun _ _ => trivial) (Below.refl _ _) (Nat.le_refl _) HXL.out ?_
          intro v1 w10 ho hb hg hat
          refine hK _ _ (.of_new hb (Nat.zero_le _)) ?_
          clear hK K
          rw [List.nil_append] at ho
          have HR10 := Aside0.mk ho
          have HB10 := Aside0.mk (show Below w7.heap.size w7 w10 from (Below.refl w7.heap.size w7).drew.trans hb)
          have HS10 := Aside0.mk (HS7.out.fresh HB10.out)
          obtain ⟨A10, c10, hv10⟩ := Kd.R_slice ho
          subst hv10
          clear ho hb hg hat
          try simp only [Act.put, List.setIfInBounds_toArray, List.set_cons_succ, List.set_cons_zero]
          ((refine Fork.plain (Fork.at_ HO.out rfl) _ rfl (fun W => by go_simp; exact rfl) ?_); simp only [Act.put, List.setIfInBounds_toArray, List.set_cons_succ, List.set_cons_zero])
          refine Fork.step (Fork.at_ HO.out rfl) (fun K hK => ?_)
          unfold Oper.wp
          rw [ex_row1_rec w10 rfl rfl]
          refine hK _ _ (.of_new (Below.alloc (Below.refl _ _) (Nat.le_refl _) _) (Nat.zero_le _)) ?_
          clear hK K
          try simp only [Act.put, List.setIfInBounds_toArray, List.set_cons_succ, List.set_cons_zero]
          refine Fork.step (Fork.at_ HO.out rfl) (fun K hK => ?_)
          refine Kd.R_append_step recK (W := w10) (w0 := w10) w.heap.size rfl (.tmp 96) (.tmp 102) 53 112 (.agg #[.slice none 0 0, .int .u64 0, .int .u64 0]) 40 rfl Tryz.underlying53 info138 rfl (by decide) (by decide) (.slice AL L.length cL) L (x, fr, p + 1) [.slice A10 x.length c10, .int .u64 fr, .int .u64 (p + 1)] (fun _ => True) (fun k => w7.drew.heap.size ≤ k) rfl rfl (rec_M HR10.out (show w.heap.size ≤ w7.drew.heap.size from HS7.out.s.low.size)) (fun k hk => ⟨trivial, own_past HS7.out.s.L hk⟩) (fun _ _ => trivial) (Kd.R_mono HS10.out.s.L (fun _ _ => trivial)) (Below.refl _ _) HS10.out.s.low.size HLN.out ?_
          intro v3 w12 ho hb hg hat
          refine hK _ _ (.of_old (.zero hg.os hg.tape hg.output) rfl) ?_
          clear hK K
          have b12 := (hg.block Rb (Array.getElem?_eq_some_iff.1 HS10.out.s.blk).1 (fun e => absurd e (own_ne134 HS10.out.s))).trans HS10.out.s.blk
          obtain ⟨_, g0, g1, g2, g3, g4'⟩ := cells5 b12
          clear g0 g1 g2 g4' b12
          have HS12 := Aside0.mk (HS10.out.put hg ho)
          obtain ⟨A12, n12, c12, hv12⟩ := R_slice3 ho
          subst hv12
          clear ho hb hg hat
          try simp only [Act.put, List.setIfInBounds_toArray, List.set_cons_succ, List.set_cons_zero]
          iterate 2 ((refine Fork.plain (Fork.at_ HO.out rfl) _ rfl (fun W => by go_simp; exact rfl) ?_); simp only [Act.put, List.setIfInBounds_toArray, List.set_cons_succ, List.set_cons_zero])
          refine Fork.step (Fork.at_ HO.out rfl) (fun K hK => ?_)
          go_simp
          refine hK _ _ (.of_old (.zero rfl rfl rfl) rfl) ?_
          clear hK K
          try simp only [Act.put, List.setIfInBounds_toArray, List.set_cons_succ, List.set_cons_zero]
          refine Fork.done ?_
          go_wp2
          go_roundg k
          case rel => exact ⟨p + 1, p + 1, [], L ++ [(x, fr, p + 1)], _, rfl, rfl, ⟨by have := HP.out; omega⟩, ⟨by have := HFR.out; omega⟩, ⟨by simp⟩, ⟨fun x hx => by cases hx⟩, ⟨by rw [List.length_append, List.length_singleton]; have := HLL.out; omega⟩, HS12, HG3⟩
          case measure => omega
        · have h31 : (e3 == 0) = false := by simpa using h3
          rw [if_neg h3] at hg2
          have HG3 := Aside0.mk hg2
          clear hg2 h3
          (with_reducible refine HUR.out.mono ?_)
          rintro er w7 ⟨A7, c7, rfl, hC7, hb7⟩
          have HS7 := Aside0.mk (HS6.out.fresh hb7)
          clear hC7 hb7
          go_wp2_with fail
          go_roundg k
          case rel => exact ⟨p + 1, fr, al2, L, _, rfl, rfl, ⟨by have := HP.out; omega⟩, ⟨by have := HFR.out; omega⟩, HAL2, HAB2, ⟨by have := HLL.out; omega⟩, HS7, HG3⟩
          case measure => omega
      · have heb : (e != 0) = true := by simpa using he
        rw [if_pos he] at hg2
        cases hg2
        have HE := Aside0.mk he
        clear he hbf hbm
        go_wp2_with (first
          | (go_at_call 47; (with_reducible refine (rring_calls wr base R vS vC vB X r HR.out HDr.out).mono ?_); rintro er w' ⟨rfl, rfl⟩)
          | (go_at_call 52; (with_reducible refine HRD.out.mono ?_); rintro er w5 ⟨A5, c5, rfl, hr5, hb5⟩; have HB5 := Aside0.mk (HS.out.s.low.trans (hb5.mono HS.out.s.low.size)); clear hr5 hb5))
        go_ret2
        exact .inl ⟨HE.out, rfl, HB5.out⟩
theorem rload_in {X : RX} (h : RdX X) : okL ((rloadX X).1, (rloadX X).2.1) := by
  have nil : okL (0, []) := ⟨by simp only; omega, fun n hn => by cases hn⟩
  have un : ∀ b, isBytes b → okL ((unP b).1, (unP b).2.1) := fun b hb => by
    obtain ⟨h1, _, h3, _⟩ := unP_bytes b hb (g := (unP b).1) (l := (unP b).2.1) (e := (unP b).2.2) rfl
    exact ⟨h1, h3⟩
  unfold rloadX
  split
  · exact nil
  · split
    · exact nil
    · exact pickL_in _ _ okL nil (un _ (h.bytes 0)) (un _ (h.bytes 1))
theorem rowal_calls {res : Int × Int × List Rec × Int} (hres : ropenX X = res) (hx : RdX X) (hd : RK w base R vS vC vB X) :
    Calls Tryz.prog 13 #[.pointer (some ⟨R, 0, none⟩)] w (OwQ w R res) := by
  subst hres
  have hin := rload_in hx
  obtain ⟨g, l, e, hld⟩ : ∃ g l e, rloadX X = (g, l, e) := ⟨_, _, _, rfl⟩
  rw [hld] at hin
  unfold ropenX
  rw [hld]
  simp only
  by_cases he : e = 0
  · subst he
    rw [if_neg (by simp)]
    match l, hld, hin with
    | [], hld, _ => exact row_len g [] hld (by simp) hx hd
    | [x], hld, _ => exact row_len g [x] hld (by simp) hx hd
    | [h, t], hld, hin =>
      have h1 := hin.2 h (by simp)
      have h2 := hin.2 t (by simp)
      simp only
      split
      · rename_i hb
        exact row_bad g h t (rringX X) hld rfl hb ⟨h1, h2⟩ hx hd
      · rename_i hb
        exact row_main g h t (rringX X) _ _ rfl hld rfl (by omega) (by omega) ⟨h1, h2⟩ hx hd
    | x :: y :: z :: r, hld, _ => exact row_len g (x :: y :: z :: r) hld (by simp) hx hd
  · rw [if_pos he]
    exact row_load (g, l, e) hld he hx hd
end
end Go.Proofs.YtlepcmljmibdnaaGreat
namespace Go.Proofs.YtlepcmljmibdnaaGreat
open Go.RowKit Go.Proofs.YtlepcmljmibdnaaGreatW.PrintWords Go.Proofs.YtlepcmljmibdnaaGreatW.PrintLast Go.Proofs.YtlepcmljmibdnaaGreatW.PrintMore PWalOpens
set_option linter.unusedVariables false
set_option linter.unusedSimpArgs false
def isRW (o : Obj) : Prop := isRef o ∨ isT 55 o
theorem Q_tc {α : Type} {d : Kd α} {e : Nat} {ok : Nat → Prop} {v : Value} {xs : List α} {a b : World} {base base' : Nat} {T : Obj → Prop} (h : d.Q e a base ok v xs) (hc : TC base' T a b) (ht : ∀ q, q ∈ e :: d.E → ∀ cells, ¬ T (.cells cells q (0, 0))) : d.Q e b base ok v xs :=
  Kd.Q_mono (Kd.Q_move (Kd.Q_bound h) (fun k hk => by
    obtain ⟨_, _, _, q, hq, cells, hce⟩ := hk
    rw [hce]
    exact hc.blk k _ hce (ht q hq cells))) (fun _ hk => hk.1)
/-- a wal of the reference's; vo: a row that is not among its records' -/
structure RV (n0 : Nat) (w : World) (Rb R : Nat) (vS vC vB vo vL : Value) (X : RX) (gen tail : Int) (L : List Rec) (over : Bool) : Prop where
  blk : w.heap[Rb]? = some (.cells #[.pointer (some ⟨R, 0, none⟩), .int .u64 gen, .int .u64 tail, vL, .bool over] 55 (0, 0))
  hW : n0 ≤ Rb
  rk : RK w n0 R vS vC vB X
  L : Kd.Q recK 112 w n0 (fun k => some k ≠ vo.ownBlock) vL L
def headX (L : List Rec) (tail : Int) : Int := match L with
  | [] => tail
  | x :: _ => x.2.1
section
variable {n0 : Nat} {w w' : World} {Rb R : Nat} {vS vC vB vo vL v1 : Value} {X X1 : RX} {gen tail : Int} {L L1 : List Rec} {over : Bool}
theorem RV.fresh (h : RV n0 w Rb R vS vC vB vo vL X gen tail L over) (hb : Below w.heap.size w w') : RV n0 w' Rb R vS vC vB vo vL X gen tail L over :=
  ⟨(hb.block _ (Array.getElem?_eq_some_iff.1 h.blk).1).trans h.blk, h.hW, h.rk.fresh hb, Kd.Q_below h.L hb⟩
theorem RV.ref {vC' : Value} (h : RV n0 w Rb R vS vC vB vo vL X gen tail L over) (hc : TC n0 isRef w w') (hr : RK w' n0 R vS vC' vB X1) : RV n0 w' Rb R vS vC' vB vo vL X1 gen tail L over :=
  ⟨hc.blk _ _ h.blk (by simp [isRef]), h.hW, hr, Q_tc h.L hc (fun q hq cells => by rcases q138 q hq with rfl | rfl <;> simp [isRef])⟩
theorem RV.any (h : RV n0 w Rb R vS vC vB vo vL X gen tail L over) : RV n0 w Rb R vS vC vB (.slice none 0 0) vL X gen tail L over :=
  ⟨h.blk, h.hW, h.rk, Kd.Q_mono h.L (fun k _ e => by simp [Value.ownBlock] at e)⟩
theorem RK.t134 (h : RK w n0 R vS vC vB X) (hc : TC n0 (isT 55) w w') : RK w' n0 R vS vC vB X :=
  ⟨h.toRM.tkeep hc (fun q hq cells => by rcases hq with h | h | h | h | h <;> simp [isT, h]), h.ok⟩
theorem RV.set (h : RV n0 w Rb R vS vC vB vo vL X gen tail L over) (i : Nat) (v : Value) : TC n0 (isT 55) w (w.setCell ⟨Rb, i, none⟩ v) := TC.set (T := isT 55) h.blk rfl h.hW v
theorem RV.overed (h : RV n0 w Rb R vS vC vB vo vL X gen tail L over) : RV n0 (w.setCell ⟨Rb, 4, none⟩ (.bool true)) Rb R vS vC vB vo vL X gen tail L true :=
  ⟨set7 h.blk 4 _, h.hW, h.rk.t134 (h.set 4 _), Q_tc h.L (h.set 4 _) (fun q hq cells => by rcases q138 q hq with rfl | rfl <;> simp [isT])⟩
/-- three fields turned -/
theorem RV.turned (h : RV n0 w Rb R vS vC vB vo vL X gen tail L over) (hr : Kd.Q recK 112 w n0 (fun _ => True) v1 L1) (g1 t1 : Int) :
    RV n0 (((w.setCell ⟨Rb, 1, none⟩ (.int .u64 g1)).setCell ⟨Rb, 3, none⟩ v1).setCell ⟨Rb, 2, none⟩ (.int .u64 t1)) Rb R vS vC vB (.slice none 0 0) v1 X g1 t1 L1 over ∧
      TC n0 (isT 55) w (((w.setCell ⟨Rb, 1, none⟩ (.int .u64 g1)).setCell ⟨Rb, 3, none⟩ v1).setCell ⟨Rb, 2, none⟩ (.int .u64 t1)) := by
  have b0 := h.blk
  have b1 := set7 b0 1 (.int .u64 g1)
  have b2 := set7 b1 3 v1
  have b3 := set7 b2 2 (.int .u64 t1)
  have c1 : TC n0 (isT 55) w (w.setCell ⟨Rb, 1, none⟩ (.int .u64 g1)) := TC.set (T := isT 55) b0 rfl h.hW _
  have c2 := c1.trans (TC.set (T := isT 55) b1 rfl h.hW v1 (j := 3))
  have c3 := c2.trans (TC.set (T := isT 55) b2 rfl h.hW (.int .u64 t1) (j := 2))
  exact ⟨⟨b3, h.hW, h.rk.t134 c3, Kd.Q_mono (Q_tc hr c3 (fun q hq cells => by rcases q138 q hq with rfl | rfl <;> simp [isT])) (fun k _ e => by simp [Value.ownBlock] at e)⟩, c3⟩
theorem rec_at {A : Option Addr} {n : Nat} (h : Kd.C recK w A n L) (x : Rec) (Lr : List Rec) (hL : L = x :: Lr) : ∃ ad, A = some ad ∧ w.cell? (ad.add 1) = some (.int .u64 x.2.1) := by
  subst hL
  obtain ⟨ad, c, e, _, hK, hc0⟩ := Kd.C_get h x (0 : Int) (by omega) (by have := h.1; simp at this; omega)
  have hc : ∀ j u, c[j]? = some u → w.cell? (ad.add (0 * 3 + j)) = some u := hc0
  obtain ⟨c1, c2, hcc, hk1, c3, c4, hcc2, hk3, hk4⟩ := hK
  obtain ⟨_, _, hb1, _⟩ := hk1
  have hk3' : c3 = [.int .u64 x.2.1] := hk3
  refine ⟨ad, e, ?_⟩
  have := hc 1 (.int .u64 x.2.1) (by rw [hcc, hb1, hcc2, hk3']; rfl)
  simpa using this
theorem rhead_calls {hh : Int} (hd : headX L tail = hh) (h : RV n0 w Rb R vS vC vB vo vL X gen tail L over) : Calls Tryz.prog 65 #[.pointer (some ⟨Rb, 0, none⟩)] w fun e w' => e = .returned (.int .u64 hh) ∧ w = w' := by
  subst hd
  obtain ⟨⟨q0, q1, q2, q3, q4⟩, _⟩ := cells5 h.blk
  obtain ⟨AL, cL, rfl, _⟩ := Kd.Q_slice h.L
  obtain ⟨_, _, hC⟩ := Kd.Q_reads' h.L
  cases L with
  | nil =>
    clear h hC q0 q1 q4
    go_enter Tryz.func65, Tryz.ntmps65
    go_wp2
    go_ret
    exact ⟨rfl, rfl⟩
  | cons x Lr =>
    obtain ⟨ad, e, x1⟩ := rec_at hC x Lr rfl
    subst e
    rw [show ad.add 1 = { block := ad.block, off := ad.off + 1 } from rfl] at x1
    obtain ⟨m, hm⟩ : ∃ m, (x :: Lr).length = m := ⟨_, rfl⟩
    have hm0 : 0 < m := by rw [← hm]; simp
    have hm1 : (m == 0) = false := by simp; omega
    have hm2 : ((m : Int) == 0) = false := by simp; omega
    have hm3 : (0 : Int) < (m : Int) := by omega
    rw [hm] at q3
    clear h hC q0 q1 q2 q4 hm
    go_enter Tryz.func65, Tryz.ntmps65
    go_wp2
    go_ret
    exact ⟨rfl, rfl⟩
theorem rfree_calls {r hh : Int} (hr : rringX X = r) (hd : headX L tail = hh) (ht : 0 ≤ hh ∧ hh ≤ tail ∧ tail < 18446744073709551616 ∧ tail - hh ≤ r) (h : RV n0 w Rb R vS vC vB vo vL X gen tail L over) : Calls Tryz.prog 29 #[.pointer (some ⟨Rb, 0, none⟩)] w fun e w' => e = .returned (.int .i64 (r - (tail - hh))) ∧ Drawn0 w w' := by
  have hbd := (Below.refl w.heap.size w).drew
  have HH := Aside0.mk (rhead_calls hd (h.fresh hbd))
  have HR := Aside0.mk (rring_calls w.drew n0 R vS vC vB X r hr (h.rk.fresh hbd))
  obtain ⟨⟨q0, q1, q2, q3, q4⟩, _⟩ := cells5 h.blk
  have hrb : 0 ≤ r ∧ r ≤ 4094 := by have := h.rk.ok.hn; rw [← hr]; unfold rringX; omega
  obtain ⟨hr0, hr1⟩ := hrb
  obtain ⟨t0, t1, t2, t3⟩ := ht
  have W1 := Aside0.mk (show IntKind.u64.wrap (tail - hh) = tail - hh from IntWalk.u64_in _ (by omega))
  have W2 := Aside0.mk (show IntKind.u64.wrap (r - (tail - hh)) = r - (tail - hh) from IntWalk.u64_in _ (by omega))
  have W3 := Aside0.mk (show IntKind.i64.wrap (r - (tail - hh)) = r - (tail - hh) from IntWalk.i64_in _ (by omega))
  clear h q1 q3 q4 hr hd
  go_enter Tryz.func29, Tryz.ntmps29
  go_wp2
  refine Fork.wp_fork (Fork.Lo.rel 0) [] [] (.one 0 0 (.one 1 0 (.one 2 0 (.one 5 0 (.one 6 0 (.one 7 0 (.one 9 0 (.one 3 1 (.one 8 1 (.one 4 2 (.one 10 2 (.one 11 0 (.one 12 0 (.one 13 0 (.one 14 0 .nil))))))))))))))) (by kernel_rfl) (by kernel_rfl) ?_
  generalize hops : List.toArray (_ : List Oper) = ops
  have HO := Aside0.mk hops
  clear hops
  iterate 7 ((refine Fork.plain (Fork.at_ HO.out rfl) _ rfl (fun W => by go_simp; exact rfl) ?_); simp only [Act.put, List.setIfInBounds_toArray, List.set_cons_succ, List.set_cons_zero])
  refine Fork.reads (Fork.at_ HO.out rfl) _ rfl (fun W hW => Arr.ex_load1 rfl rfl (by kernel_rfl) (Fork.bel_cell hW (by assumption))) ?_
  simp only [Act.put, List.setIfInBounds_toArray, List.set_cons_succ, List.set_cons_zero]
  refine Fork.reads (Fork.at_ HO.out rfl) _ rfl (fun W hW => Arr.ex_load1 rfl rfl (by kernel_rfl) (Fork.bel_cell hW (by assumption))) ?_
  simp only [Act.put, List.setIfInBounds_toArray, List.set_cons_succ, List.set_cons_zero]
  refine Fork.step (Fork.at_ HO.out rfl) (fun K hK => ?_)
  go_simp
  refine HR.out.mono ?_
  rintro e w' ⟨rfl, rfl⟩
  refine hK _ _ (.of_new (Below.refl _ _) (Nat.zero_le _)) ?_
  clear hK K
  try simp only [Act.put, List.setIfInBounds_toArray, List.set_cons_succ, List.set_cons_zero]
  refine Fork.step (Fork.at_ HO.out rfl) (fun K hK => ?_)
  go_simp
  refine HH.out.mono ?_
  rintro e w' ⟨rfl, rfl⟩
  refine hK _ _ (.of_new (Below.refl _ _) (Nat.zero_le _)) ?_
  clear hK K
  try simp only [Act.put, List.setIfInBounds_toArray, List.set_cons_succ, List.set_cons_zero]
  iterate 4 ((refine Fork.plain (Fork.at_ HO.out rfl) _ rfl (fun W => by go_simp; exact rfl) ?_); simp only [Act.put, List.setIfInBounds_toArray, List.set_cons_succ, List.set_cons_zero])
  refine Fork.done ?_
  go_wp2
  go_ret
  rw [← (show IntKind.i64.wrap (IntKind.u64.wrap (r - IntKind.u64.wrap (tail - hh))) = r - (tail - hh) by rw [W1.out, W2.out, W3.out])]
  exact ⟨rfl, ⟨⟨1, rfl⟩⟩⟩
theorem rsave_two (g x y e : Int) (hsv : rsaveX X g [x, y] = (X1, e)) (hg : 0 ≤ g ∧ g < 18446744073709551616) (hx : 0 ≤ x ∧ x < 18446744073709551616) (hy : 0 ≤ y ∧ y < 18446744073709551616) (hc : X.cache.length ≤ 900) (h : RK w n0 R vS vC vB X) :
    Calls Tryz.prog 96 #[.pointer (some ⟨R, 0, none⟩), .int .u64 g, .slice (some ⟨w.heap.size, 0, none⟩) 2 2] (w.alloc (.cells #[.int .u64 x, .int .u64 y] 52)).drew fun r w' => r = .returned (.int .i64 e) ∧ TC n0 isRef w w' ∧ ∃ vC', RK w' n0 R vS vC' vB X1 := by
  have hb := ((Below.refl w.heap.size w).alloc (Nat.le_refl _) (.cells #[.int .u64 x, .int .u64 y] 52)).drew
  refine (rsave_calls (l := [x, y]) (A := some ⟨w.heap.size, 0, none⟩) (c := 2) hsv hg (by simp; exact ⟨hx, hy⟩) (Kd.C_drew (lit_Cu w [x, y] (fun _ => False) (by simp) (fun h => h) _ (Chg.refl _ _))) hc (h.fresh hb)).mono ?_
  rintro r w' ⟨rfl, ht, hr⟩
  exact ⟨rfl, (TC.of_below hb h.base_le).trans ht, hr⟩
/-- what turn does: 0, or over -/
def RtQ (n0 : Nat) (w : World) (Rb R : Nat) (vS vB vL v1 : Value) (X1 : RX) (gen tail t1 : Int) (L L1 : List Rec) (over : Bool) (e : Int) (r : Ending) (w' : World) : Prop :=
  TC n0 isRW w w' ∧ ∃ vC', (e = 0 → r = .returned (.int .i64 0) ∧ RV n0 w' Rb R vS vC' vB (.slice none 0 0) v1 X1 (gen + 1) t1 L1 over) ∧ (e ≠ 0 → r = .returned (.int .i64 50) ∧ RV n0 w' Rb R vS vC' vB (.slice none 0 0) vL X1 gen tail L true)
theorem rturn_calls {hh t1 : Int} (e : Int) (hd : headX L1 t1 = hh) (hsv : rsaveX X (gen + 1) [hh, t1] = (X1, e)) (hg : 0 ≤ gen ∧ gen < 18446744073709551615) (hh0 : 0 ≤ hh ∧ hh < 18446744073709551616) (ht : 0 ≤ t1 ∧ t1 < 18446744073709551616) (hc : X.cache.length ≤ 900)
    (h : RV n0 w Rb R vS vC vB vo vL X gen tail L over) (hr : Kd.Q recK 112 w n0 (fun _ => True) v1 L1) :
    Calls Tryz.prog 61 #[.pointer (some ⟨Rb, 0, none⟩), v1, .int .u64 t1] w (RtQ n0 w Rb R vS vB vL v1 X1 gen tail t1 L L1 over e) := by
  subst hd
  have HH := Aside0.mk h
  have HRR := Aside0.mk hr
  have HSV := Aside0.mk (rsave_two (w := w) (gen + 1) (headX L1 t1) t1 e hsv ⟨by omega, by omega⟩ hh0 ht hc h.rk)
  have HWG := Aside0.mk (IntWalk.u64_in (gen + 1) (by omega))
  obtain ⟨⟨q0, q1, q2, q3, q4⟩, _⟩ := cells5 h.blk
  obtain ⟨A1, c1, rfl, _⟩ := Kd.Q_slice hr
  obtain ⟨_, _, hC⟩ := Kd.Q_reads' hr
  have g0 : 0 ≤ gen := hg.1
  have g1 : gen < 18446744073709551615 := hg.2
  clear hsv h hr q2 q3 q4 hh0
  cases L1 with
  | nil =>
    clear hC
    simp only [headX] at HSV
    go_enter Tryz.func61, Tryz.ntmps61
    go_wp2
    refine Fork.wp_fork (Fork.Lo.rel 0) [12] [] (.one 0 0 (.one 1 0 (.one 2 0 (.one 4 0 (.one 5 0 (.one 6 0 (.one 9 0 (.one 10 0 (.one 3 1 (.one 7 1 (.one 8 0 (.one 11 2 (.one 12 2 (.one 13 0 .nil)))))))))))))) (by kernel_rfl) (by kernel_rfl) ?_
    generalize hops : List.toArray (_ : List Oper) = ops
    have HO := Aside0.mk hops
    clear hops
    iterate 8 ((refine Fork.plain (Fork.at_ HO.out rfl) _ rfl (fun W => by go_simp; exact rfl) ?_); simp only [Act.put, List.setIfInBounds_toArray, List.set_cons_succ, List.set_cons_zero])
    refine Fork.reads (Fork.at_ HO.out rfl) _ rfl (fun W hW => Arr.ex_load1 rfl rfl (by kernel_rfl) (Fork.bel_cell hW (by assumption))) ?_
    simp only [Act.put, List.setIfInBounds_toArray, List.set_cons_succ, List.set_cons_zero]
    refine Fork.reads (Fork.at_ HO.out rfl) _ rfl (fun W hW => Arr.ex_load1 rfl rfl (by kernel_rfl) (Fork.bel_cell hW (by assumption))) ?_
    simp only [Act.put, List.setIfInBounds_toArray, List.set_cons_succ, List.set_cons_zero]
    ((refine Fork.plain (Fork.at_ HO.out rfl) _ rfl (fun W => by go_simp; exact rfl) ?_); simp only [Act.put, List.setIfInBounds_toArray, List.set_cons_succ, List.set_cons_zero])
    refine Fork.step (Fork.at_ HO.out rfl) (fun K hK => ?_)
    go_simp
    refine hK _ _ (.of_new ((Below.refl _ _).alloc (Nat.le_refl _) _) (Nat.zero_le _)) ?_
    clear hK K
    try simp only [Act.put, List.setIfInBounds_toArray, List.set_cons_succ, List.set_cons_zero]
    refine Fork.step (Fork.at_ HO.out rfl) (fun K hK => ?_)
    go_simp
    rw [HWG.out]
    (with_reducible refine HSV.out.mono ?_)
    rintro er w5 ⟨rfl, ht5, vC5, hr5⟩
    refine hK _ _ (Fork.Grow.of_old (Fork.Lo.zero ht5.low.os ht5.low.tape ht5.low.output) rfl) ?_
    clear hK K
    have HV5 := Aside0.mk (HH.out.ref ht5 hr5)
    have HT5 := Aside0.mk ht5
    clear ht5 hr5
    try simp only [Act.put, List.setIfInBounds_toArray, List.set_cons_succ, List.set_cons_zero]
    ((refine Fork.plain (Fork.at_ HO.out rfl) _ rfl (fun W => by go_simp; exact rfl) ?_); simp only [Act.put, List.setIfInBounds_toArray, List.set_cons_succ, List.set_cons_zero])
    refine Fork.done ?_
    obtain ⟨⟨p0, p1, p2, p3, p4⟩, f0, f1, f2, f3, f4⟩ := cells5 HV5.out.blk
    have HR5 := Aside0.mk (Q_tc HRR.out HT5.out (fun q hq cells => by rcases q138 q hq with rfl | rfl <;> simp [isRef]))
    have HTD := Aside0.mk (show TC n0 isRW w w5 from HT5.out.mono fun _ h => .inl h)
    by_cases he : e = 0
    · subst he
      go_wp2
      go_ret
      have h5 := HV5.out.any.turned (t1 := t1) HR5.out (gen + 1)
      exact ⟨HTD.out.trans (h5.2.mono fun _ h => .inr h), vC5, fun _ => ⟨rfl, h5.1⟩, fun h => absurd rfl h⟩
    · have he' : (e != 0) = true := by simp; exact he
      go_wp2
      go_ret
      exact ⟨HTD.out.trans ((HV5.out.set 4 _).mono fun _ h => .inr h), vC5, fun h => absurd h he, fun _ => ⟨rfl, HV5.out.any.overed⟩⟩
  | cons x Lr =>
    obtain ⟨ad, e', x1⟩ := rec_at hC x Lr rfl
    subst e'
    rw [show ad.add 1 = { block := ad.block, off := ad.off + 1 } from rfl] at x1
    obtain ⟨m, hm⟩ : ∃ m, (x :: Lr).length = m := ⟨_, rfl⟩
    have hm0 : 0 < m := by rw [← hm]; simp
    have hm1 : decide (0 < m) = true := by simpa using hm0
    have hm3 : (0 : Int) < (m : Int) := by omega
    rw [hm] at HRR
    rw [hm]
    simp only [headX] at HSV
    clear hC hm
    go_enter Tryz.func61, Tryz.ntmps61
    go_wp2
    refine Fork.wp_fork (Fork.Lo.rel 0) [12] [] (.one 0 0 (.one 1 0 (.one 2 0 (.one 4 0 (.one 5 0 (.one 6 0 (.one 9 0 (.one 10 0 (.one 3 1 (.one 7 1 (.one 8 0 (.one 11 2 (.one 12 2 (.one 13 0 .nil)))))))))))))) (by kernel_rfl) (by kernel_rfl) ?_
    generalize hops : List.toArray (_ : List Oper) = ops
    have HO := Aside0.mk hops
    clear hops
    iterate 8 ((refine Fork.plain (Fork.at_ HO.out rfl) _ rfl (fun W => by go_simp; exact rfl) ?_); simp only [Act.put, List.setIfInBounds_toArray, List.set_cons_succ, List.set_cons_zero])
    refine Fork.reads (Fork.at_ HO.out rfl) _ rfl (fun W hW => Arr.ex_load1 rfl rfl (by kernel_rfl) (Fork.bel_cell hW (by assumption))) ?_
    simp only [Act.put, List.setIfInBounds_toArray, List.set_cons_succ, List.set_cons_zero]
    refine Fork.reads (Fork.at_ HO.out rfl) _ rfl (fun W hW => Arr.ex_load1 rfl rfl (by kernel_rfl) (Fork.bel_cell hW (by assumption))) ?_
    simp only [Act.put, List.setIfInBounds_toArray, List.set_cons_succ, List.set_cons_zero]
    ((refine Fork.plain (Fork.at_ HO.out rfl) _ rfl (fun W => by go_simp; exact rfl) ?_); simp only [Act.put, List.setIfInBounds_toArray, List.set_cons_succ, List.set_cons_zero])
    refine Fork.step (Fork.at_ HO.out rfl) (fun K hK => ?_)
    go_simp
    refine hK _ _ (.of_new ((Below.refl _ _).alloc (Nat.le_refl _) _) (Nat.zero_le _)) ?_
    clear hK K
    try simp only [Act.put, List.setIfInBounds_toArray, List.set_cons_succ, List.set_cons_zero]
    refine Fork.step (Fork.at_ HO.out rfl) (fun K hK => ?_)
    go_simp
    rw [HWG.out]
    (with_reducible refine HSV.out.mono ?_)
    rintro er w5 ⟨rfl, ht5, vC5, hr5⟩
    refine hK _ _ (Fork.Grow.of_old (Fork.Lo.zero ht5.low.os ht5.low.tape ht5.low.output) rfl) ?_
    clear hK K
    have HV5 := Aside0.mk (HH.out.ref ht5 hr5)
    have HT5 := Aside0.mk ht5
    clear ht5 hr5
    try simp only [Act.put, List.setIfInBounds_toArray, List.set_cons_succ, List.set_cons_zero]
    ((refine Fork.plain (Fork.at_ HO.out rfl) _ rfl (fun W => by go_simp; exact rfl) ?_); simp only [Act.put, List.setIfInBounds_toArray, List.set_cons_succ, List.set_cons_zero])
    refine Fork.done ?_
    obtain ⟨⟨p0, p1, p2, p3, p4⟩, f0, f1, f2, f3, f4⟩ := cells5 HV5.out.blk
    have HR5 := Aside0.mk (Q_tc HRR.out HT5.out (fun q hq cells => by rcases q138 q hq with rfl | rfl <;> simp [isRef]))
    have HTD := Aside0.mk (show TC n0 isRW w w5 from HT5.out.mono fun _ h => .inl h)
    by_cases he : e = 0
    · subst he
      go_wp2
      go_ret
      have h5 := HV5.out.any.turned (t1 := t1) HR5.out (gen + 1)
      exact ⟨HTD.out.trans (h5.2.mono fun _ h => .inr h), vC5, fun _ => ⟨rfl, h5.1⟩, fun h => absurd rfl h⟩
    · have he' : (e != 0) = true := by simp; exact he
      go_wp2
      go_ret
      exact ⟨HTD.out.trans ((HV5.out.set 4 _).mono fun _ h => .inr h), vC5, fun h => absurd h he, fun _ => ⟨rfl, HV5.out.any.overed⟩⟩
end
end Go.Proofs.YtlepcmljmibdnaaGreat
namespace Go.Proofs.YtlepcmljmibdnaaGreat
open Go.RowKit Go.Proofs.YtlepcmljmibdnaaGreatW.PrintWords Go.Proofs.YtlepcmljmibdnaaGreatW.PrintLast Go.Proofs.YtlepcmljmibdnaaGreatW.PrintMore PWalOpens
set_option linter.unusedVariables false
set_option linter.unusedSimpArgs false
def rlayC (r : Int) : List (List Int) → RX → Int → RX × Int × Int
  | [], X, s => (X, s, 0)
  | c :: cs, X, s => if (rwriteX X (sectP r s) c).2 ≠ 0 then ((rwriteX X (sectP r s) c).1, s, 50) else rlayC r cs (rwriteX X (sectP r s) c).1 (s + 1)
def rlayR (r : Int) : List (List Int) → RX → Int → List Rec → RX × List Rec × Int × Int
  | [], X, s, out => (X, out, s, 0)
  | b :: bs, X, s, out => if (rlayC r (chs (frameX b)) X s).2.2 ≠ 0 then ((rlayC r (chs (frameX b)) X s).1, [], 0, 50) else rlayR r bs (rlayC r (chs (frameX b)) X s).1 (rlayC r (chs (frameX b)) X s).2.1 (out ++ [(b, s, (rlayC r (chs (frameX b)) X s).2.1)])
theorem chs_nil : chs [] = [] := rfl
theorem chs_cons {f : List Int} (h : 0 < f.length) : chs f = f.take 64 :: chs (f.drop 64) := by
  unfold chs
  have e : (f.length + 63) / 64 = ((f.drop 64).length + 63) / 64 + 1 := by rw [List.length_drop]; omega
  rw [e, List.range_succ_eq_map, List.map_cons, List.map_map]
  congr 1
  refine List.map_congr_left fun i _ => ?_
  simp only [Function.comp]
  rw [List.drop_drop]
  congr 2
  omega
/-- texts that lie still while what is T goes on -/
def Txts (n0 : Nat) (T : Obj → Prop) (w : World) (A : Option Addr) (R : List (List Int)) : Prop :=
  ∀ i, i < R.length → ∃ ad A0 c0, A = some ad ∧ ∀ W, TC n0 T w W → W.cell? (ad.add i) = some (.slice A0 (R.getD i []).length c0) ∧ (R.getD i []).length ≤ c0 ∧ (Kd.int .u8).C W A0 (R.getD i []).length (R.getD i [])
theorem txts_of {n0 : Nat} {T : Obj → Prop} {wi w : World} {A : Option Addr} {R : List (List Int)} (h : bytesK.C wi A R.length R) (hn : wi.heap.size ≤ n0) (hb : Below wi.heap.size wi w) : Txts n0 T w A R := fun i hi => by
  obtain ⟨ad, A0, c0, e, h1, h2, h3⟩ := texts_at h i hi
  refine ⟨ad, A0, c0, e, fun W hc => ?_⟩
  have hbW : Below wi.heap.size wi W := hb.trans (hc.low.mono hn)
  exact ⟨Fork.bel_cell hbW h1, h2, Kd.C_below h3 hbW⟩
theorem TC.grow_new {n0 : Nat} {T : Obj → Prop} {w0 w w2 : World} {row : Option Nat} (h : TC n0 T w0 w) (hg : w.grownBy w2 row) (hn : n0 ≤ w0.heap.size) (hr : ∀ k, row = some k → w0.heap.size ≤ k) : TC n0 T w0 w2 := by
  have hb : ∀ k, k < w0.heap.size → w2.heap[k]? = w.heap[k]? := fun k hk => hg.block k (Nat.lt_of_lt_of_le hk h.low.size) (fun e => by have := hr k e.symm; omega)
  refine ⟨⟨hg.os.trans h.low.os, hg.tape.trans h.low.tape, hg.output.trans h.low.output, Nat.le_trans h.low.size hg.size, fun k hk => (hb k (by omega)).trans (h.low.block k hk)⟩, fun i o ho hn => ?_⟩
  exact (hb i (Array.getElem?_eq_some_iff.1 ho).1).trans (h.blk i o ho hn)
section
variable {n0 : Nat} {w w' w2 : World} {Rb R : Nat} {vS vC vB vo vo' vL v1 : Value} {X X1 : RX} {gen tail : Int} {L L1 oL : List Rec} {over : Bool}
theorem RK.t138 (h : RK w n0 R vS vC vB X) (hc : TC n0 (isT 112) w w') : RK w' n0 R vS vC vB X :=
  ⟨h.toRM.tkeep hc (fun q hq cells => by rcases hq with h | h | h | h | h <;> simp [isT, h]), h.ok⟩
theorem RV.grow (h : RV n0 w Rb R vS vC vB vo vL X gen tail L over) (ho : Kd.R recK 112 w n0 (fun _ => True) vo oL) (hg : w.grownBy w2 vo.ownBlock) (hat : vo'.ownBlock = vo.ownBlock ∨ ∃ b, vo'.ownBlock = some b ∧ w.heap.size ≤ b) : RV n0 w2 Rb R vS vC vB vo' vL X gen tail L over := by
  have hc : TC n0 (isT 112) w w2 := TC.grown hg (fun k hk => by
    obtain ⟨h1, cells, h2⟩ := own_cells ho k hk
    exact ⟨h1, _, h2, rfl⟩) h.rk.base_le
  refine ⟨hc.blk Rb _ h.blk (by simp [isT]), h.hW, h.rk.t138 hc, Kd.Q_mono (Kd.Q_grown (Kd.Q_bound h.L) hg (fun k hk => hk.1)) (fun k hk => ?_)⟩
  rcases hat with e | ⟨b, e, hb⟩
  · rw [e]; exact hk.1
  · rw [e]
    intro hkb
    have := hk.2.2.1
    cases hkb
    omega
def PutQ (n0 : Nat) (w : World) (Rb R : Nat) (vS vB : Value) (X X1 X2 : RX) (gen tail p : Int) (L out : List Rec) (e e2 : Int) (r : Ending) (w' : World) : Prop :=
  TC n0 isRW w w' ∧ ∃ vC' vL',
    (e = 51 → r = .returned (.int .i64 51) ∧ RV n0 w' Rb R vS vC' vB (.slice none 0 0) vL' X gen tail L false) ∧
    (e = 50 → r = .returned (.int .i64 50) ∧ RV n0 w' Rb R vS vC' vB (.slice none 0 0) vL' X1 gen tail L true) ∧
    (e = 0 → e2 = 0 → r = .returned (.int .i64 0) ∧ RV n0 w' Rb R vS vC' vB (.slice none 0 0) vL' X2 (gen + 1) p out false) ∧
    (e = 0 → e2 ≠ 0 → r = .returned (.int .i64 50) ∧ RV n0 w' Rb R vS vC' vB (.slice none 0 0) vL' X2 gen tail L true)
theorem rput_over (A : Option Addr) (n c : Nat) (s : Bool) (h : RV n0 w Rb R vS vC vB vo vL X gen tail L true) : Calls Tryz.prog 59 #[.pointer (some ⟨Rb, 0, none⟩), .slice A n c, .bool s] w fun r w' => r = .returned (.int .i64 50) ∧ w = w' := by
  obtain ⟨⟨q0, q1, q2, q3, q4⟩, _⟩ := cells5 h.blk
  clear h
  go_enter Tryz.func59, Tryz.ntmps59
  go_wp2
  go_ret
  exact ⟨rfl, rfl⟩
set_option maxRecDepth 100000 in
set_option maxHeartbeats 4000000 in
theorem rput_full {A : Option Addr} {c : Nat} {P : List (List Int)} {r hh : Int} (sw : Bool) (hr : rringX X = r) (hP : RecsOK P) (hd : headX L tail = hh) (hf : r - (tail - hh) < needs P) (ht : 0 ≤ hh ∧ hh ≤ tail ∧ tail < 18446744073709551616 ∧ tail - hh ≤ r) (h : RV n0 w Rb R vS vC vB vo vL X gen tail L false) (hT : Txts n0 isRW w A P) :
    Calls Tryz.prog 59 #[.pointer (some ⟨Rb, 0, none⟩), .slice A P.length c, .bool sw] w fun x w' => x = .returned (.int .i64 51) ∧ Below w.heap.size w w' := by
  have HH := Aside0.mk h
  have HT := Aside0.mk hT
  have HPo := Aside0.mk hP
  have HR := Aside0.mk hr
  have HD := Aside0.mk hd
  have HTB := Aside0.mk ht
  have hplen : (P.length : Int) ≤ 6 := by have := hP.len; omega
  have g42 := needs_le (R := P) (fun b hb => (hP.each b hb).2)
  have HF := Aside0.mk hf
  have hf2 : decide (r - (tail - hh) < needs P) = true := decide_eq_true hf
  obtain ⟨⟨q0, q1, q2, q3, q4⟩, _⟩ := cells5 h.blk
  clear h hT hr hP hd ht hf q0 q1 q2 q3
  go_enter Tryz.func59, Tryz.ntmps59
  go_wp2
  go_loopg [7, 23] P.length (fun kq v7 v23 w' => ∃ i : Nat, v23 = .int .i64 (i : Int) ∧ v7 = .int .i64 (needs (P.take i)) ∧ Aside0 (i + kq = P.length) ∧ Aside0 (Below w.heap.size w w'))
  case atStart => exact ⟨0, rfl, rfl, ⟨by omega⟩, ⟨Below.refl _ _⟩⟩
  case round =>
    obtain ⟨i, rfl, rfl, HI, HB⟩ := hrel
    by_cases hlt : i < P.length
    · (have hlt' : (i : Int) < (P.length : Int) := by omega); obtain ⟨ad, A9, c9, rfl, hTi⟩ := HT.out i hlt; have hcw := hTi wr (TC.of_below HB.out HH.out.rk.base_le); obtain ⟨hc9, hl9, hC9⟩ := hcw; have HTI := Aside0.mk hTi; have hRi := HPo.out.getD i; obtain ⟨x, hx⟩ : ∃ x, P.getD i [] = x := ⟨_, rfl⟩; rw [hx] at hc9 hl9 hC9 hRi HTI; obtain ⟨m, hm⟩ : ∃ m, needN x = m := ⟨_, rfl⟩; (have hmb : 1 ≤ m ∧ m ≤ 7 := by rw [← hm]; unfold needN; rw [if_neg (by omega)]; omega); have HM := Aside0.mk (show needs (P.take (i + 1)) = needs (P.take i) + m from by rw [needs_take hlt, hx, hm]); have HC9 := Aside0.mk hC9; clear hTi hl9 hC9; have HN5 := Aside0.mk (fun (W : World) (hW : Below wr.heap.size wr W) => rneed_calls W A9 c9 x m hm hRi.1 (by omega) (Kd.C_below HC9.out hW)); have m0 : 1 ≤ m := hmb.1; have m1 : m ≤ 7 := hmb.2; (have hmn : (m == 0) = false := by simp; omega); have g0 : 0 ≤ needs (P.take i) := (needs_le (R := P.take i) (fun b hb => (HPo.out.each b (List.mem_of_mem_take hb)).2)).1; have g1 : needs (P.take i) ≤ 42 := (by have := (needs_le (R := P.take i) (fun b hb => (HPo.out.each b (List.mem_of_mem_take hb)).2)).2; rw [List.length_take] at this; omega)
      go_wp2_with (first
        | (go_at_call 108; (with_reducible refine (HN5.out wr (Below.refl _ _)).mono ?_); rintro e w5 ⟨rfl, hb5⟩; have HB5 := Aside0.mk hb5; clear hb5)
        | (go_at_call 108; (with_reducible refine (HN5.out w5 HB5.out).mono ?_); rintro e w6 ⟨rfl, hb5⟩; have HB6 := Aside0.mk (HB5.out.trans (hb5.mono HB5.out.size)); clear hb5))
      obtain ⟨gq, rfl⟩ : ∃ gq, gk = gq + 1 := ⟨gk - 1, by have := HI.out; omega⟩
      go_roundg gq
      case rel => exact ⟨i + 1, by go_num, by rw [HM.out], ⟨by have := HI.out; omega⟩, ⟨HB.out.trans (HB6.out.mono HB.out.size)⟩⟩
      case measure => omega
    · have hm' : ¬ ((i : Int) < (P.length : Int)) := by omega
      obtain rfl : i = P.length := by have := HI.out; omega
      have HV := Aside0.mk (HH.out.fresh HB.out)
      have HFR := Aside0.mk (rfree_calls HR.out HD.out HTB.out HV.out)
      rw [List.take_length]
      go_wp2_with (first
        | (go_at_call 29; (with_reducible refine HFR.out.mono ?_); rintro e w6 ⟨rfl, hd6⟩; have HB6 := Aside0.mk (HB.out.trans (hd6.below.mono HB.out.size)); clear hd6))
      go_ret
      exact ⟨rfl, HB6.out⟩
end
end Go.Proofs.YtlepcmljmibdnaaGreat
