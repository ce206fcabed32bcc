/- DiskDoes walked. Conditions: those of each statement. -/
import Derived.Test.YtlepcmljmibdnaaBt
import Derived.Deep.DeepCutAuto
import Derived.Deep.CutBlock
namespace Go.Proofs.Ytlepcmljmibdnaa
open Go.RowKit Go.Proofs.YtlepcmljmibdnaaW.PrintWords Go.Proofs.YtlepcmljmibdnaaW.PrintLast Go.Proofs.YtlepcmljmibdnaaW.PrintMore PDiskArms
set_option linter.unusedVariables false
set_option linter.unusedSimpArgs false
theorem tcRel (b : Nat) : Fork.Rel (TC b isDR) := ⟨TC.refl b isDR, fun h k => h.trans k⟩
theorem tc_cell {b : Nat} {T : Obj → Prop} {w W : World} {g off : Nat} {o : Obj} {v : Value} (hW : TC b T w W) (hb : w.heap[g]? = some o) (hT : ¬ T o) (hc : w.cell? ⟨g, off, none⟩ = some v) : W.cell? ⟨g, off, none⟩ = some v := by
  have h := hW.blk g o hb hT
  unfold World.cell? at hc ⊢
  rw [hb] at hc
  rw [h]
  exact hc
theorem not31 (c : Array Value) : ¬ isDR (.cells c 31 (0, 0)) := by
  intro h
  rcases h with h | h
  · simp [isDisk] at h
  · simp [isRef] at h
theorem kinds9 (k : Int) {P : Prop} (h0 : k = 0 → P) (h1 : k = 1 → P) (h2 : k = 2 → P) (h3 : k = 3 → P) (h4 : k = 4 → P) (h5 : k = 5 → P) (h6 : k = 6 → P) (h7 : k = 7 → P)
    (h8 : (k == 0) = false → (k == 1) = false → (k == 2) = false → (k == 3) = false → (k == 4) = false → (k == 5) = false → (k == 6) = false → (k == 7) = false → P) : P := by
  by_cases e0 : k = 0; · exact h0 e0
  by_cases e1 : k = 1; · exact h1 e1
  by_cases e2 : k = 2; · exact h2 e2
  by_cases e3 : k = 3; · exact h3 e3
  by_cases e4 : k = 4; · exact h4 e4
  by_cases e5 : k = 5; · exact h5 e5
  by_cases e6 : k = 6; · exact h6 e6
  by_cases e7 : k = 7; · exact h7 e7
  exact h8 (by simpa using e0) (by simpa using e1) (by simpa using e2) (by simpa using e3) (by simpa using e4) (by simpa using e5) (by simpa using e6) (by simpa using e7)
theorem str_at1 {w : World} {b c : Nat} {A : Option Addr} {s : List Int} (h : Kd.R (Kd.int .u8) 5 w b (fun k => b ≤ k) (.slice A s.length c) s) : (convert 29 9 (.slice A s.length c)).run Try.prog w = .ok (.string (strOfNums s)) w :=
  Kd.C_string Try.underlying29 Try.underlying5 Try.underlying9 (Kd.R_reads' h).2.2
theorem rd_get1 (l : List S31) (i : Nat) (hi : i < l.length) : l[i]? = some (rd_T31 l (i : Int)) := by
  simp [rd_T31, hi]
theorem deed_cells1 (w : World) (a0 a1 a2 a3 a4 : Value) : (w.alloc (.cells #[a0, a1, a2, a3, a4] 31)).drew.cell? ⟨w.heap.size, 1, none⟩ = some a1 ∧ (w.alloc (.cells #[a0, a1, a2, a3, a4] 31)).drew.cell? ⟨w.heap.size, 2, none⟩ = some a2 := by
  have h : (w.alloc (.cells #[a0, a1, a2, a3, a4] 31)).drew.heap[w.heap.size]? = some (.cells #[a0, a1, a2, a3, a4] 31 (0, 0)) := heap_alloc_new w _
  constructor <;> (unfold World.cell?; rw [h]; rfl)
theorem fault_cache (D : PD) (a : Int) (b : Bool) : (faultP D a b).cache = D.cache := by unfold faultP; split <;> rfl
theorem deed_tc {b : Nat} {w w5 : World} {a0 a1 a2 a3 a4 : Value} (ht : TC b isDR (w.alloc (.cells #[a0, a1, a2, a3, a4] 31)) w5) :
    w5.cell? ⟨w.heap.size, 1, none⟩ = some a1 ∧ w5.cell? ⟨w.heap.size, 2, none⟩ = some a2 ∧ w5.cell? ⟨w.heap.size, 3, none⟩ = some a3 ∧ w5.cell? ⟨w.heap.size, 4, none⟩ = some a4 := by
  have h := ht.blk _ _ (heap_alloc_new w _) (not31 _)
  refine ⟨?_, ?_, ?_, ?_⟩ <;> (unfold World.cell?; rw [h]; rfl)
theorem deed_blk (w : World) (a0 a1 a2 a3 a4 : Value) : (w.alloc (.cells #[a0, a1, a2, a3, a4] 31)).drew.heap[w.heap.size]? = some (.cells #[a0, a1, a2, a3, a4] 31 (0, 0)) := heap_alloc_new w _
set_option maxRecDepth 100000 in
set_option maxHeartbeats 8000000 in
theorem does_walk (n : Int) (A1 : Option Addr) (c1 : Nat) (l1 : List S31) (w : World) (h1 : Kd.C k31 w A1 l1.length l1) (hc1 : l1.length ≤ c1) (hok : ∀ x ∈ l1, -9223372036854775808 ≤ x.f3 ∧ x.f3 ≤ 9223372036854775807) :
    Calls Try.prog 5 #[.int .i64 n, .slice A1 l1.length c1] w fun e w' => e = .returned (.bool true) ∧ Below w.heap.size w w' := by
  have hm1 := h1.2.1
  have H1 := Aside0.mk h1
  have HC1 := Aside0.mk hc1
  have HOKA := Aside0.mk hok
  obtain ⟨r1, hr1, hrt1⟩ := few_f l1 hm1
  have HR1 := Aside0.mk hr1
  have HRT1 := Aside0.mk hrt1
  clear h1 hc1 hr1 hrt1 hm1 hok
  cases r1 with
  | false =>
    go_enter Try.func5, Try.ntmps5
    go_wp2_with (first | (go_at_call 13; refine (awake_calls _).mono ?_; rintro e w1 ⟨rfl, hb⟩; have HB1 := Aside0.mk hb; clear hb) | (go_at_call 14; with_reducible refine (factotumlaw05_few.calls (l1.length + 1) A1 c1 l1 false _ (Kd.C_below H1.out HB1.out) HC1.out HR1.out).mono ?_; rintro e w2 ⟨rfl, hb⟩; have HB2 := Aside0.mk (HB1.out.trans (hb.mono HB1.out.size)); clear hb))
    go_ret
    exact ⟨rfl, HB2.out⟩
  | true =>
  have hf1 := HRT1.out rfl
  by_cases hn50 : 50 < n
  · go_enter Try.func5, Try.ntmps5
    go_wp2_with (first | (go_at_call 13; refine (awake_calls _).mono ?_; rintro e w1 ⟨rfl, hb⟩; have HB1 := Aside0.mk hb; clear hb) | (go_at_call 14; with_reducible refine (factotumlaw05_few.calls (l1.length + 1) A1 c1 l1 true _ (Kd.C_below H1.out HB1.out) HC1.out HR1.out).mono ?_; rintro e w2 ⟨rfl, hb⟩; have HB2 := Aside0.mk (HB1.out.trans (hb.mono HB1.out.size)); clear hb))
    go_ret
    exact ⟨rfl, HB2.out⟩
  have hl1 : l1.length ≤ 40 := hf1.1
  clear hf1
  go_enter Try.func5, Try.ntmps5
  go_wp2_with (first
    | (go_at_call 13; refine (awake_calls _).mono ?_; rintro e w1 ⟨rfl, hb⟩; have HB1 := Aside0.mk hb; clear hb)
    | (go_at_call 14; with_reducible refine (factotumlaw05_few.calls (l1.length + 1) A1 c1 l1 true _ (Kd.C_below H1.out HB1.out) HC1.out HR1.out).mono ?_; rintro e w2 ⟨rfl, hb⟩; have HB2 := Aside0.mk (HB1.out.trans (hb.mono HB1.out.size)); clear hb)
    | (go_at_call 15; with_reducible refine (bo_new (w0 := w) (w := w2) n HB2.out).mono ?_; rintro e w3 ⟨B, M, Bd, rfl, hd, hb⟩; have HD3 := Aside0.mk hd; have HB3 := Aside0.mk hb; clear hd hb)
    | (go_at_call 25; with_reducible refine (bo_rnew (w0 := w) (w := w3) n HB3.out HD3.out).mono ?_; rintro e w4 ⟨R, vS, vB, rfl, hb⟩; have HBO := Aside0.mk hb; clear hb))
  go_loopg [5, 6, 35] l1.length (fun kq v5 v6 v35 w' => ∃ (i B M Bd : Nat) (vc : Value) (D : PD) (R : Nat) (vS vC vB : Value) (X : RX), v35 = .int .i64 (i : Int) ∧ v5 = .pointer (some ⟨B, 0, none⟩) ∧ v6 = .pointer (some ⟨R, 0, none⟩) ∧ Aside0 (i + kq = l1.length) ∧ Aside0 (Both w w' B M Bd vc D R vS vC vB X) ∧ Aside0 (Corr D X) ∧ Aside0 (D.cache.length ≤ i))
  case atStart => exact ⟨0, B, M, Bd, _, _, R, _, _, _, _, rfl, rfl, rfl, ⟨by omega⟩, HBO, ⟨corr_new n⟩, ⟨Nat.le_refl _⟩⟩
  case round =>
    clear HBO
    obtain ⟨i, B, M, Bd, vc, D, R, vS, vC, vB, X, rfl, rfl, rfl, HI, HBO, HCo, HLn⟩ := hrel
    by_cases hi : i < l1.length
    · obtain ⟨ad, Ab, cb, Ac, cc, e, x0, x1, x2, x3, x4, hl2', hi2, hl4, hi4⟩ := at_T31 H1.out (i : Int) (by omega) (by omega)
      subst e
      have hx := rd_get1 l1 i hi
      generalize rd_T31 l1 (i : Int) = x at x0 x1 x2 x3 x4 hl2' hi2 hl4 hi4 hx
      rw [Int.toNat_natCast] at x0 x1 x2 x3 x4
      replace x0 := (HBO.out.low.cell (World.block_lt_of_cell? w _ x0)).trans x0
      replace x1 := (HBO.out.low.cell (World.block_lt_of_cell? w _ x1)).trans x1
      replace x2 := (HBO.out.low.cell (World.block_lt_of_cell? w _ x2)).trans x2
      replace x3 := (HBO.out.low.cell (World.block_lt_of_cell? w _ x3)).trans x3
      replace x4 := (HBO.out.low.cell (World.block_lt_of_cell? w _ x4)).trans x4
      have HX := Aside0.mk hx
      have HCA := Aside0.mk hi2
      have HCK := Aside0.mk hi4
      have HF3 := Aside0.mk (HOKA.out x (List.mem_of_getElem? hx))
      have HLD := Aside0.mk (show D.cache.length ≤ 1000 by have := HLn.out; omega)
      have HLX := Aside0.mk (show X.cache.length ≤ 1000 by rw [← HCo.out.cache]; exact HLD.out)
      clear hl2' hi2 hl4 hi4 hx
      go_upto_block 2 with fail
      go_cut [5, 6, 9, 10] (fun v5 v6 v9 v10 wz => ∃ (e : Int) (B M Bd : Nat) (vc : Value) (D : PD) (R : Nat) (vS vC vB : Value) (X : RX), v5 = .pointer (some ⟨B, 0, none⟩) ∧ v6 = .pointer (some ⟨R, 0, none⟩) ∧ v9 = .int .i64 e ∧ v10 = .int .i64 e ∧ Aside0 (Both w wz B M Bd vc D R vS vC vB X) ∧ Aside0 (Corr D X) ∧ Aside0 (D.cache.length ≤ i + 1))
      case first =>
        refine kinds9 x.f0 (fun hk => ?_) (fun hk => ?_) (fun hk => ?_) (fun hk => ?_) (fun hk => ?_) (fun hk => ?_) (fun hk => ?_) (fun hk => ?_) (fun n0 n1 n2 n3 n4 n5 n6 n7 => ?_)
        · have b0 : (x.f0 == 0) = true := by rw [hk]; rfl
          clear hk x0
          have HBA := Aside0.mk (HBO.out.fresh (Below.alloc (Below.refl wr.heap.size wr) (Nat.le_refl _) (.cells #[.int .i64 x.f0, .int .i64 x.f1, .slice Ab x.f2.length cb, .int .i64 x.f3, .slice Ac x.f4.length cc] 31)))
          obtain ⟨D5, e5, hw⟩ : ∃ D5 e5, writeP D x.f1 x.f2 = (D5, e5) := ⟨_, _, rfl⟩
          have hcw := corr_write HCo.out x.f1 x.f2
          have hlw := writeP_cache D x.f1 x.f2
          rw [hw] at hcw hlw
          simp only [] at hlw
          obtain ⟨X5, hx5⟩ : ∃ X5, rwriteX X x.f1 x.f2 = (X5, e5) := ⟨_, Prod.ext rfl hcw.1.symm⟩
          rw [hx5] at hcw
          have HW5 := Aside0.mk hw
          have HX5 := Aside0.mk hx5
          have HCz := Aside0.mk hcw.2
          have HLz := Aside0.mk (show D5.cache.length ≤ i + 1 by have := HLn.out; omega)
          clear hw hcw hlw hx5
          have hy := deed_cells1 wr (.int .i64 x.f0) (.int .i64 x.f1) (.slice Ab x.f2.length cb) (.int .i64 x.f3) (.slice Ac x.f4.length cc)
          obtain ⟨y1, y2⟩ := hy
          have HBLK := Aside0.mk (deed_blk wr (.int .i64 x.f0) (.int .i64 x.f1) (.slice Ab x.f2.length cb) (.int .i64 x.f3) (.slice Ac x.f4.length cc))
          have HBD := Aside0.mk (HBA.out.fresh (Below.refl _ _).drew)
          go_wp2
          refine Fork.wp_fork (tcRel w.heap.size) [5, 11] [] (.one 0 0 (.one 1 0 (.one 3 0 (.one 6 0 (.one 7 0 (.one 9 0 (.one 2 3 (.one 4 3 (.one 8 3 (.one 10 3 (.one 5 2 (.one 11 2 (.one 12 0 (.one 13 0 .nil)))))))))))))) (by kernel_rfl) (by kernel_rfl) ?_
          generalize hops : List.toArray (_ : List Oper) = ops
          have HO := Aside0.mk hops
          clear hops
          iterate 6 ((refine Fork.plain (Fork.at_ HO.out rfl) _ rfl (fun W => by go_simp; exact rfl) ?_); simp only [Act.put, List.setIfInBounds_toArray, List.set_cons_succ, List.set_cons_zero])
          refine Fork.olds (Fork.at_ HO.out rfl) _ rfl (fun W hW => Arr.ex_load1 rfl rfl (by kernel_rfl) (tc_cell hW HBLK.out (not31 _) (by assumption))) ?_
          simp only [Act.put, List.setIfInBounds_toArray, List.set_cons_succ, List.set_cons_zero]
          refine Fork.olds (Fork.at_ HO.out rfl) _ rfl (fun W hW => Arr.ex_load1 rfl rfl (by kernel_rfl) (tc_cell hW HBLK.out (not31 _) (by assumption))) ?_
          simp only [Act.put, List.setIfInBounds_toArray, List.set_cons_succ, List.set_cons_zero]
          refine Fork.olds (Fork.at_ HO.out rfl) _ rfl (fun W hW => Arr.ex_load1 rfl rfl (by kernel_rfl) (tc_cell hW HBLK.out (not31 _) (by assumption))) ?_
          simp only [Act.put, List.setIfInBounds_toArray, List.set_cons_succ, List.set_cons_zero]
          refine Fork.olds (Fork.at_ HO.out rfl) _ rfl (fun W hW => Arr.ex_load1 rfl rfl (by kernel_rfl) (tc_cell hW HBLK.out (not31 _) (by assumption))) ?_
          simp only [Act.put, List.setIfInBounds_toArray, List.set_cons_succ, List.set_cons_zero]
          refine Fork.step (Fork.at_ HO.out rfl) (fun K hK => ?_)
          go_simp
          refine (bo_write x.f1 e5 Ab cb x.f2 HW5.out HLD.out HCA.out HBD.out).mono ?_
          rintro r w5 ⟨rfl, ht, vc5, hb⟩
          refine hK _ _ (.of_old ht rfl) ?_
          clear hK K
          have HB5 := Aside0.mk hb
          clear ht hb
          try simp only [Act.put, List.setIfInBounds_toArray, List.set_cons_succ, List.set_cons_zero]
          refine Fork.step (Fork.at_ HO.out rfl) (fun K hK => ?_)
          go_simp
          refine (bo_rwrite x.f1 e5 Ab cb x.f2 HX5.out HLX.out HCA.out HB5.out).mono ?_
          rintro r wz ⟨rfl, ht, vC5, hb⟩
          refine hK _ _ (.of_old ht rfl) ?_
          clear hK K
          have HBz := Aside0.mk hb
          clear ht hb
          try simp only [Act.put, List.setIfInBounds_toArray, List.set_cons_succ, List.set_cons_zero]
          iterate 2 ((refine Fork.plain (Fork.at_ HO.out rfl) _ rfl (fun W => by go_simp; exact rfl) ?_); simp only [Act.put, List.setIfInBounds_toArray, List.set_cons_succ, List.set_cons_zero])
          refine Fork.done ?_
          go_wp2
          go_meet
          case rel => exact ⟨_, _, _, _, _, _, _, _, _, _, _, rfl, rfl, rfl, rfl, HBz, HCz, HLz⟩
        · have b0 : (x.f0 == 0) = false := by rw [hk]; rfl
          have b1 : (x.f0 == 1) = true := by rw [hk]; rfl
          clear hk x0
          have HBA := Aside0.mk (HBO.out.fresh (Below.alloc (Below.refl wr.heap.size wr) (Nat.le_refl _) (.cells #[.int .i64 x.f0, .int .i64 x.f1, .slice Ab x.f2.length cb, .int .i64 x.f3, .slice Ac x.f4.length cc] 31)))
          obtain ⟨s5, r5, hr5⟩ : ∃ s5 r5, readP D x.f1 = (s5, r5) := ⟨_, _, rfl⟩
          have HR5 := Aside0.mk hr5
          have HX5 := Aside0.mk (show rreadX X x.f1 = (s5, r5) by rw [← corr_read HCo.out HBO.out.rk.ok x.f1]; exact hr5)
          have HCz := HCo
          have HLz := Aside0.mk (show D.cache.length ≤ i + 1 by have := HLn.out; omega)
          clear hr5
          go_wp2_with (first
            | (go_at_call 23; with_reducible refine (bo_read x.f1 r5 s5 HR5.out HLD.out HBA.out).mono ?_; rintro e w7 ⟨A7, c7, rfl, hr, hd, hb⟩; have HRd := Aside0.mk hr; have HB7 := Aside0.mk hd; obtain ⟨y1, y2, y3, y4⟩ := deed_tc (.of_below hb (Nat.zero_le _)); clear hr hd hb y2 y3 y4)
            | (go_at_call 27; with_reducible refine (bo_rread x.f1 r5 s5 HX5.out HLX.out HB7.out).mono ?_; rintro e wz ⟨A8, c8, rfl, hr, hd, hb⟩; have HBz := Aside0.mk hd; have hs8 := str_at1 hr; have hs7 := str_at1 (Kd.R_below HRd.out hb); clear hr hd hb))
          go_meet
          case rel => exact ⟨_, _, _, _, _, _, _, _, _, _, _, rfl, rfl, rfl, rfl, HBz, HCz, HLz⟩
        · have b0 : (x.f0 == 0) = false := by rw [hk]; rfl
          have b1 : (x.f0 == 1) = false := by rw [hk]; rfl
          have b2 : (x.f0 == 2) = true := by rw [hk]; rfl
          clear hk x0
          have HBA := Aside0.mk (HBO.out.fresh (Below.alloc (Below.refl wr.heap.size wr) (Nat.le_refl _) (.cells #[.int .i64 x.f0, .int .i64 x.f1, .slice Ab x.f2.length cb, .int .i64 x.f3, .slice Ac x.f4.length cc] 31)))
          obtain ⟨D5, e5, hw⟩ : ∃ D5 e5, flushP D = (D5, e5) := ⟨_, _, rfl⟩
          have hcw := corr_flush HCo.out HBO.out.rk.ok
          have hlw := flushP_cache D
          rw [hw] at hcw hlw
          simp only [] at hlw
          obtain ⟨X5, hx5⟩ : ∃ X5, rflushX X = (X5, e5) := ⟨_, Prod.ext rfl hcw.1.symm⟩
          rw [hx5] at hcw
          have HW5 := Aside0.mk hw
          have HX5 := Aside0.mk hx5
          have HCz := Aside0.mk hcw.2
          have HLz := Aside0.mk (show D5.cache.length ≤ i + 1 by have := HLn.out; omega)
          clear hw hcw hlw hx5
          go_wp2_with (first
            | (go_at_call 18; with_reducible refine (bo_flush e5 HW5.out HLD.out HBA.out).mono ?_; rintro r w5 ⟨rfl, ht, vc5, hb⟩; have HB5 := Aside0.mk hb; clear ht hb)
            | (go_at_call 28; with_reducible refine (bo_rflush e5 HX5.out HLX.out HB5.out).mono ?_; rintro r wz ⟨rfl, ht, vC5, hb⟩; have HBz := Aside0.mk hb; clear ht hb))
          go_meet
          case rel => exact ⟨_, _, _, _, _, _, _, _, _, _, _, rfl, rfl, rfl, rfl, HBz, HCz, HLz⟩
        · have b0 : (x.f0 == 0) = false := by rw [hk]; rfl
          have b1 : (x.f0 == 1) = false := by rw [hk]; rfl
          have b2 : (x.f0 == 2) = false := by rw [hk]; rfl
          have b3 : (x.f0 == 3) = true := by rw [hk]; rfl
          clear hk x0
          have HBA := Aside0.mk (HBO.out.fresh (Below.alloc (Below.refl wr.heap.size wr) (Nat.le_refl _) (.cells #[.int .i64 x.f0, .int .i64 x.f1, .slice Ab x.f2.length cb, .int .i64 x.f3, .slice Ac x.f4.length cc] 31)))
          have HCz := Aside0.mk (corr_arm HCo.out x.f3)
          have HLz := Aside0.mk (show (armP D x.f3).cache.length ≤ i + 1 by have := HLn.out; exact Nat.le_trans this (Nat.le_succ _))
          go_wp2_with (first
            | (go_at_call 16; with_reducible refine (bo_arm x.f3 HF3.out rfl HBA.out).mono ?_; rintro r w5 ⟨rfl, ht, hb⟩; have HB5 := Aside0.mk hb; obtain ⟨y1, y2, y3, y4⟩ := deed_tc ht; clear ht hb y1 y2 y4)
            | (go_at_call 29; with_reducible refine (bo_rarm x.f3 HF3.out rfl HB5.out).mono ?_; rintro r wz ⟨rfl, ht, hb⟩; have HBz := Aside0.mk hb; clear ht hb))
          go_meet
          case rel => exact ⟨_, _, _, _, _, _, _, _, _, _, _, rfl, rfl, rfl, rfl, HBz, HCz, HLz⟩
        · have b0 : (x.f0 == 0) = false := by rw [hk]; rfl
          have b1 : (x.f0 == 1) = false := by rw [hk]; rfl
          have b2 : (x.f0 == 2) = false := by rw [hk]; rfl
          have b3 : (x.f0 == 3) = false := by rw [hk]; rfl
          have b4 : (x.f0 == 4) = true := by rw [hk]; rfl
          clear hk x0
          have HBA := Aside0.mk (HBO.out.fresh (Below.alloc (Below.refl wr.heap.size wr) (Nat.le_refl _) (.cells #[.int .i64 x.f0, .int .i64 x.f1, .slice Ab x.f2.length cb, .int .i64 x.f3, .slice Ac x.f4.length cc] 31)))
          have HCz := Aside0.mk (corr_crash HCo.out HBO.out.rk.ok x.f4)
          have HLz := Aside0.mk (show (crashP D x.f4).cache.length ≤ i + 1 by have := HLn.out; exact Nat.zero_le _)
          go_wp2_with (first
            | (go_at_call 20; with_reducible refine (bo_crash Ac cc x.f4 rfl HLD.out HCK.out HBA.out).mono ?_; rintro r w5 ⟨rfl, ht, hb⟩; have HB5 := Aside0.mk hb; obtain ⟨y1, y2, y3, y4⟩ := deed_tc ht; clear ht hb y1 y2 y3)
            | (go_at_call 30; with_reducible refine (bo_rcrash Ac cc x.f4 rfl HLX.out HCK.out HB5.out).mono ?_; rintro r wz ⟨rfl, ht, hb⟩; have HBz := Aside0.mk hb; clear ht hb))
          go_meet
          case rel => exact ⟨_, _, _, _, _, _, _, _, _, _, _, rfl, rfl, rfl, rfl, HBz, HCz, HLz⟩
        · have b0 : (x.f0 == 0) = false := by rw [hk]; rfl
          have b1 : (x.f0 == 1) = false := by rw [hk]; rfl
          have b2 : (x.f0 == 2) = false := by rw [hk]; rfl
          have b3 : (x.f0 == 3) = false := by rw [hk]; rfl
          have b4 : (x.f0 == 4) = false := by rw [hk]; rfl
          have b5 : (x.f0 == 5) = true := by rw [hk]; rfl
          clear hk x0
          have HBA := Aside0.mk (HBO.out.fresh (Below.alloc (Below.refl wr.heap.size wr) (Nat.le_refl _) (.cells #[.int .i64 x.f0, .int .i64 x.f1, .slice Ab x.f2.length cb, .int .i64 x.f3, .slice Ac x.f4.length cc] 31)))
          have HCz := Aside0.mk (corr_fault HCo.out x.f1 (x.f3 != 0))
          have HLz := Aside0.mk (show (faultP D x.f1 (x.f3 != 0)).cache.length ≤ i + 1 by have := HLn.out; rw [fault_cache]; omega)
          go_wp2_with (first
            | (go_at_call 31; with_reducible refine (bo_fault x.f1 (x.f3 != 0) rfl HBA.out).mono ?_; rintro r w5 ⟨rfl, ht, hb⟩; have HB5 := Aside0.mk hb; obtain ⟨y1, y2, y3, y4⟩ := deed_tc ht; clear ht hb y2 y4)
            | (go_at_call 32; with_reducible refine (bo_rfault x.f1 (x.f3 != 0) rfl HB5.out).mono ?_; rintro r wz ⟨rfl, ht, hb⟩; have HBz := Aside0.mk hb; clear ht hb))
          go_meet
          case rel => exact ⟨_, _, _, _, _, _, _, _, _, _, _, rfl, rfl, rfl, rfl, HBz, HCz, HLz⟩
        · have b0 : (x.f0 == 0) = false := by rw [hk]; rfl
          have b1 : (x.f0 == 1) = false := by rw [hk]; rfl
          have b2 : (x.f0 == 2) = false := by rw [hk]; rfl
          have b3 : (x.f0 == 3) = false := by rw [hk]; rfl
          have b4 : (x.f0 == 4) = false := by rw [hk]; rfl
          have b5 : (x.f0 == 5) = false := by rw [hk]; rfl
          have b6 : (x.f0 == 6) = true := by rw [hk]; rfl
          clear hk x0
          have HBA := Aside0.mk (HBO.out.fresh (Below.alloc (Below.refl wr.heap.size wr) (Nat.le_refl _) (.cells #[.int .i64 x.f0, .int .i64 x.f1, .slice Ab x.f2.length cb, .int .i64 x.f3, .slice Ac x.f4.length cc] 31)))
          have HCz := Aside0.mk (corr_wipe HCo.out)
          have HLz := Aside0.mk (show (wipeP D).cache.length ≤ i + 1 by have := HLn.out; exact Nat.zero_le _)
          go_wp2_with (first
            | (go_at_call 33; with_reducible refine (bo_wipe rfl HBA.out).mono ?_; rintro r w5 ⟨rfl, ht, hb⟩; have HB5 := Aside0.mk hb; clear ht hb)
            | (go_at_call 34; with_reducible refine (bo_rwipe rfl HB5.out).mono ?_; rintro r wz ⟨rfl, ht, vS5, vB5, hb⟩; have HBz := Aside0.mk hb; clear ht hb))
          go_meet
          case rel => exact ⟨_, _, _, _, _, _, _, _, _, _, _, rfl, rfl, rfl, rfl, HBz, HCz, HLz⟩
        · have b0 : (x.f0 == 0) = false := by rw [hk]; rfl
          have b1 : (x.f0 == 1) = false := by rw [hk]; rfl
          have b2 : (x.f0 == 2) = false := by rw [hk]; rfl
          have b3 : (x.f0 == 3) = false := by rw [hk]; rfl
          have b4 : (x.f0 == 4) = false := by rw [hk]; rfl
          have b5 : (x.f0 == 5) = false := by rw [hk]; rfl
          have b6 : (x.f0 == 6) = false := by rw [hk]; rfl
          have b7 : (x.f0 == 7) = true := by rw [hk]; rfl
          clear hk x0
          have HBA := Aside0.mk (HBO.out.fresh (Below.alloc (Below.refl wr.heap.size wr) (Nat.le_refl _) (.cells #[.int .i64 x.f0, .int .i64 x.f1, .slice Ab x.f2.length cb, .int .i64 x.f3, .slice Ac x.f4.length cc] 31)))
          have HCz := Aside0.mk (corr_clone HCo.out)
          have HLz := Aside0.mk (show (cloneP D).cache.length ≤ i + 1 by have := HLn.out; exact Nat.zero_le _)
          go_wp2_with (first
            | (go_at_call 21; with_reducible refine (bo_clone rfl HBA.out).mono ?_; rintro r w5 ⟨B5, M5, Bd5, rfl, ht, hb⟩; have HB5 := Aside0.mk hb; clear ht hb)
            | (go_at_call 35; with_reducible refine (bo_rclone rfl HB5.out).mono ?_; rintro r wz ⟨R5, vS5, vB5, rfl, ht, hb⟩; have HBz := Aside0.mk hb; clear ht hb))
          go_meet
          case rel => exact ⟨_, _, _, _, _, _, _, _, _, _, _, rfl, rfl, rfl, rfl, HBz, HCz, HLz⟩
        · have HBz := Aside0.mk (HBO.out.fresh (Below.alloc (Below.refl wr.heap.size wr) (Nat.le_refl _) (.cells #[.int .i64 x.f0, .int .i64 x.f1, .slice Ab x.f2.length cb, .int .i64 x.f3, .slice Ac x.f4.length cc] 31)))
          have HCz := HCo
          have HLz := Aside0.mk (show D.cache.length ≤ i + 1 by have := HLn.out; omega)
          go_wp2
          go_meet
          case rel => exact ⟨_, _, _, _, _, _, _, _, _, _, _, rfl, rfl, rfl, rfl, HBz, HCz, HLz⟩
      case rest =>
        obtain ⟨e5, B5, M5, Bd5, vc5, D5, R5, vS5, vC5, vB5, X5, rfl, rfl, rfl, rfl, HBz, HCz, HLz⟩ := hcut
        have HBw := Aside0.mk (HBz.out.fresh (Below.refl wc.heap.size wc).drew)
        have HCL := Aside0.mk (congrArg List.length HCz.out.cache)
        obtain ⟨p0, p1, p2, p3, p4⟩ := (cells5 HBw.out.rk.blk).1
        obtain ⟨As5, cs5, hvs5⟩ := Kd.R_slice HBw.out.rk.S
        obtain ⟨Ac5, cc5, hvc5⟩ := Kd.R_slice HBw.out.rk.C
        rw [hvs5] at p0
        rw [hvc5] at p1
        clear hvs5 hvc5 p2 p3
        go_wp2
        refine Fork.wp_fork (Fork.Lo.rel 0) [] [] (.one 0 0 (.one 1 0 (.one 2 0 (.one 3 0 (.one 4 0 (.one 6 0 (.one 7 0 (.one 8 0 (.one 9 1 (.one 5 2 (.one 10 0 (.one 11 0 (.one 12 0 (.one 13 0 (.one 15 0 (.one 16 0 (.one 17 0 (.one 18 1 (.one 19 0 (.one 14 2 (.one 20 0 (.one 21 0 (.one 22 0 (.one 23 0 (.one 25 0 (.one 26 0 (.one 27 0 (.one 28 1 (.one 29 0 (.one 24 2 (.one 30 0 (.one 31 0 .nil)))))))))))))))))))))))))))))))) (by kernel_rfl) (by kernel_rfl) ?_
        generalize hops : List.toArray (_ : List Oper) = ops
        have HO := Aside0.mk hops
        clear hops
        iterate 4 ((refine Fork.plain (Fork.at_ HO.out rfl) _ rfl (fun W => by go_simp; exact rfl) ?_); simp only [Act.put, List.setIfInBounds_toArray, List.set_cons_succ, List.set_cons_zero])
        refine Fork.plain (Fork.at_ HO.out rfl) _ (by have q := Fork.at_ (i := 3) HO.out rfl; simp [Region.wanted, yielded, q, undef]) (fun W => by go_simp; exact rfl) ?_
        simp only [Act.put, List.setIfInBounds_toArray, List.set_cons_succ, List.set_cons_zero]
        refine Fork.plain (Fork.at_ HO.out rfl) _ (by have q := Fork.at_ (i := 3) HO.out rfl; simp [Region.wanted, yielded, q, undef]) (fun W => by go_simp; exact rfl) ?_
        simp only [Act.put, List.setIfInBounds_toArray, List.set_cons_succ, List.set_cons_zero]
        refine Fork.plain (Fork.at_ HO.out rfl) _ (by have q := Fork.at_ (i := 3) HO.out rfl; simp [Region.wanted, yielded, q, undef]) (fun W => by go_simp; exact rfl) ?_
        simp only [Act.put, List.setIfInBounds_toArray, List.set_cons_succ, List.set_cons_zero]
        refine Fork.plain (Fork.at_ HO.out rfl) _ (by have q := Fork.at_ (i := 3) HO.out rfl; simp [Region.wanted, yielded, q, undef]) (fun W => by go_simp; exact rfl) ?_
        simp only [Act.put, List.setIfInBounds_toArray, List.set_cons_succ, List.set_cons_zero]
        refine Fork.reads (Fork.at_ HO.out rfl) _ (by have q := Fork.at_ (i := 3) HO.out rfl; simp [Region.wanted, yielded, q, undef]) (fun W hW => Arr.ex_load1 rfl rfl (by kernel_rfl) (Fork.bel_cell hW (by assumption))) ?_
        simp only [Act.put, List.setIfInBounds_toArray, List.set_cons_succ, List.set_cons_zero]
        refine Fork.acts (Fork.at_ HO.out rfl) (by have q := Fork.at_ (i := 3) HO.out rfl; simp [Region.wanted, yielded, q, undef]) (fun K hK => ?_)
        go_simp
        refine (bo_dead _ HCz.out.dead HBw.out).mono ?_
        rintro r w' ⟨rfl, rfl⟩
        refine hK _ _ (.of_new (Below.refl _ _) (Nat.zero_le _)) ?_
        clear hK K
        try simp only [Act.put, List.setIfInBounds_toArray, List.set_cons_succ, List.set_cons_zero]
        refine Fork.plain (Fork.at_ HO.out rfl) _ (by have q := Fork.at_ (i := 3) HO.out rfl; simp [Region.wanted, yielded, q, undef]) (fun W => by go_simp; exact rfl) ?_
        simp only [Act.put, List.setIfInBounds_toArray, List.set_cons_succ, List.set_cons_zero]
        iterate 2 ((refine Fork.plain (Fork.at_ HO.out rfl) _ rfl (fun W => by go_simp; exact rfl) ?_); simp only [Act.put, List.setIfInBounds_toArray, List.set_cons_succ, List.set_cons_zero])
        refine Fork.plain (Fork.at_ HO.out rfl) _ (by have q := Fork.at_ (i := 12) HO.out rfl; simp [Region.wanted, yielded, q, undef]) (fun W => by go_simp; exact rfl) ?_
        simp only [Act.put, List.setIfInBounds_toArray, List.set_cons_succ, List.set_cons_zero]
        refine Fork.plain (Fork.at_ HO.out rfl) _ (by have q := Fork.at_ (i := 12) HO.out rfl; simp [Region.wanted, yielded, q, undef]) (fun W => by go_simp; exact rfl) ?_
        simp only [Act.put, List.setIfInBounds_toArray, List.set_cons_succ, List.set_cons_zero]
        refine Fork.plain (Fork.at_ HO.out rfl) _ (by have q := Fork.at_ (i := 12) HO.out rfl; simp [Region.wanted, yielded, q, undef]) (fun W => by go_simp; exact rfl) ?_
        simp only [Act.put, List.setIfInBounds_toArray, List.set_cons_succ, List.set_cons_zero]
        refine Fork.plain (Fork.at_ HO.out rfl) _ (by have q := Fork.at_ (i := 12) HO.out rfl; simp [Region.wanted, yielded, q, undef]) (fun W => by go_simp; exact rfl) ?_
        simp only [Act.put, List.setIfInBounds_toArray, List.set_cons_succ, List.set_cons_zero]
        refine Fork.reads (Fork.at_ HO.out rfl) _ (by have q := Fork.at_ (i := 12) HO.out rfl; simp [Region.wanted, yielded, q, undef]) (fun W hW => Arr.ex_load1 rfl rfl (by kernel_rfl) (Fork.bel_cell hW (by assumption))) ?_
        simp only [Act.put, List.setIfInBounds_toArray, List.set_cons_succ, List.set_cons_zero]
        refine Fork.plain (Fork.at_ HO.out rfl) _ (by have q := Fork.at_ (i := 12) HO.out rfl; simp [Region.wanted, yielded, q, undef]) (fun W => by go_simp; exact rfl) ?_
        simp only [Act.put, List.setIfInBounds_toArray, List.set_cons_succ, List.set_cons_zero]
        refine Fork.acts (Fork.at_ HO.out rfl) (by have q := Fork.at_ (i := 12) HO.out rfl; simp [Region.wanted, yielded, q, undef]) (fun K hK => ?_)
        go_simp
        refine (bo_cached _ HCL.out HBw.out).mono ?_
        rintro r w' ⟨rfl, rfl⟩
        refine hK _ _ (.of_new (Below.refl _ _) (Nat.zero_le _)) ?_
        clear hK K
        try simp only [Act.put, List.setIfInBounds_toArray, List.set_cons_succ, List.set_cons_zero]
        refine Fork.plain (Fork.at_ HO.out rfl) _ (by have q := Fork.at_ (i := 12) HO.out rfl; simp [Region.wanted, yielded, q, undef]) (fun W => by go_simp; exact rfl) ?_
        simp only [Act.put, List.setIfInBounds_toArray, List.set_cons_succ, List.set_cons_zero]
        iterate 2 ((refine Fork.plain (Fork.at_ HO.out rfl) _ rfl (fun W => by go_simp; exact rfl) ?_); simp only [Act.put, List.setIfInBounds_toArray, List.set_cons_succ, List.set_cons_zero])
        refine Fork.plain (Fork.at_ HO.out rfl) _ (by have q := Fork.at_ (i := 22) HO.out rfl; simp [Region.wanted, yielded, q, undef]) (fun W => by go_simp; exact rfl) ?_
        simp only [Act.put, List.setIfInBounds_toArray, List.set_cons_succ, List.set_cons_zero]
        refine Fork.plain (Fork.at_ HO.out rfl) _ (by have q := Fork.at_ (i := 22) HO.out rfl; simp [Region.wanted, yielded, q, undef]) (fun W => by go_simp; exact rfl) ?_
        simp only [Act.put, List.setIfInBounds_toArray, List.set_cons_succ, List.set_cons_zero]
        refine Fork.plain (Fork.at_ HO.out rfl) _ (by have q := Fork.at_ (i := 22) HO.out rfl; simp [Region.wanted, yielded, q, undef]) (fun W => by go_simp; exact rfl) ?_
        simp only [Act.put, List.setIfInBounds_toArray, List.set_cons_succ, List.set_cons_zero]
        refine Fork.plain (Fork.at_ HO.out rfl) _ (by have q := Fork.at_ (i := 22) HO.out rfl; simp [Region.wanted, yielded, q, undef]) (fun W => by go_simp; exact rfl) ?_
        simp only [Act.put, List.setIfInBounds_toArray, List.set_cons_succ, List.set_cons_zero]
        refine Fork.reads (Fork.at_ HO.out rfl) _ (by have q := Fork.at_ (i := 22) HO.out rfl; simp [Region.wanted, yielded, q, undef]) (fun W hW => Arr.ex_load1 rfl rfl (by kernel_rfl) (Fork.bel_cell hW (by assumption))) ?_
        simp only [Act.put, List.setIfInBounds_toArray, List.set_cons_succ, List.set_cons_zero]
        refine Fork.plain (Fork.at_ HO.out rfl) _ (by have q := Fork.at_ (i := 22) HO.out rfl; simp [Region.wanted, yielded, q, undef]) (fun W => by go_simp; exact rfl) ?_
        simp only [Act.put, List.setIfInBounds_toArray, List.set_cons_succ, List.set_cons_zero]
        refine Fork.acts (Fork.at_ HO.out rfl) (by have q := Fork.at_ (i := 22) HO.out rfl; simp [Region.wanted, yielded, q, undef]) (fun K hK => ?_)
        go_simp
        refine (bo_size _ HCz.out.n HBw.out).mono ?_
        rintro r w' ⟨rfl, rfl⟩
        refine hK _ _ (.of_new (Below.refl _ _) (Nat.zero_le _)) ?_
        clear hK K
        try simp only [Act.put, List.setIfInBounds_toArray, List.set_cons_succ, List.set_cons_zero]
        refine Fork.plain (Fork.at_ HO.out rfl) _ (by have q := Fork.at_ (i := 22) HO.out rfl; simp [Region.wanted, yielded, q, undef]) (fun W => by go_simp; exact rfl) ?_
        simp only [Act.put, List.setIfInBounds_toArray, List.set_cons_succ, List.set_cons_zero]
        ((refine Fork.plain (Fork.at_ HO.out rfl) _ rfl (fun W => by go_simp; exact rfl) ?_); simp only [Act.put, List.setIfInBounds_toArray, List.set_cons_succ, List.set_cons_zero])
        refine Fork.done ?_
        go_wp2
        have hk1 := HI.out
        obtain ⟨gq, rfl⟩ : ∃ gq, gk = gq + 1 := ⟨gk - 1, by omega⟩
        go_roundg gq
        case rel => exact ⟨i + 1, _, _, _, _, _, _, _, _, _, _, by go_num, rfl, rfl, ⟨by omega⟩, HBw, HCz, HLz⟩
        case measure => omega
    · as_aux_lemma =>
        have hi0 := HI.out
        obtain rfl : gk = 0 := by omega
        obtain rfl : i = l1.length := by omega
        clear hi0
        have hm : ¬ ((l1.length : Int) < (l1.length : Int)) := by omega
        have HLD := Aside0.mk (show D.cache.length ≤ 1000 by have := HLn.out; omega)
        have HLX := Aside0.mk (show X.cache.length ≤ 1000 by rw [← HCo.out.cache]; exact HLD.out)
        obtain ⟨p0, p1, p2, p3, p4⟩ := (cells5 HBO.out.rk.blk).1
        obtain ⟨As5, cs5, hvs5⟩ := Kd.R_slice HBO.out.rk.S
        rw [hvs5] at p0
        clear p1 p2 p3 p4
        have hn4 := HBO.out.rk.ok.hn
        go_wp2
        clear p0
        go_loopg [170] X.S.length (fun kq v170 w' => ∃ (j : Nat), v170 = .int .i64 (j : Int) ∧ Aside0 (j + kq = X.S.length) ∧ Aside0 (Both w w' B M Bd vc D R vS vC vB X))
        case atStart => exact ⟨0, rfl, ⟨by omega⟩, HBO⟩
        case round =>
          clear HI HBO
          obtain ⟨j, rfl, HI, HBO⟩ := hrel
          by_cases hj : j < X.S.length
          · obtain ⟨s5, r5, hr5⟩ : ∃ s5 r5, readP D (j : Int) = (s5, r5) := ⟨_, _, rfl⟩
            have HR5 := Aside0.mk hr5
            have HX5 := Aside0.mk (show rreadX X (j : Int) = (s5, r5) by rw [← corr_read HCo.out HBO.out.rk.ok (j : Int)]; exact hr5)
            clear hr5
            go_wp2_with (first
              | (go_at_call 23; with_reducible refine (bo_read (j : Int) r5 s5 HR5.out HLD.out HBO.out).mono ?_; rintro e w7 ⟨A7, c7, rfl, hr, hd, hb⟩; have HRd := Aside0.mk hr; have HB7 := Aside0.mk hd; clear hr hd hb)
              | (go_at_call 27; with_reducible refine (bo_rread (j : Int) r5 s5 HX5.out HLX.out HB7.out).mono ?_; rintro e wz ⟨A8, c8, rfl, hr, hd, hb⟩; have HBz := Aside0.mk hd; have hs8 := str_at1 hr; have hs7 := str_at1 (Kd.R_below HRd.out hb); clear hr hd hb))
            have hk1 := HI.out
            obtain ⟨gq, rfl⟩ : ∃ gq, gk = gq + 1 := ⟨gk - 1, by omega⟩
            go_roundg gq
            case rel => exact ⟨j + 1, by go_num, ⟨by omega⟩, HBz⟩
            case measure => omega
          · have hi0 := HI.out
            obtain rfl : gk = 0 := by omega
            obtain rfl : j = X.S.length := by omega
            clear hi0
            have hm : ¬ ((X.S.length : Int) < (X.S.length : Int)) := by omega
            go_wp2
            go_ret
            exact ⟨rfl, HBO.out.low⟩
end Go.Proofs.Ytlepcmljmibdnaa
