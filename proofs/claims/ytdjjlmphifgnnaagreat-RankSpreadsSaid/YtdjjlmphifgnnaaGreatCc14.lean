/- Parts of one proof, joined: Tkn, Rdg, Rti, Rtk. Conditions: those of each statement. -/
import Derived.Test.YtdjjlmphifgnnaaGreatCc13
import Derived.Test.YtdjjlmphifgnnaaGreatCc10
import Derived.Test.YtdjjlmphifgnnaaGreatWWords
import Derived.Deep.Slices
import Derived.ChangeArms
import Derived.Test.YtdjjlmphifgnnaaGreatProg
import Derived.Test.YtdjjlmphifgnnaaGreatCc5
import Derived.WalkKit
import Derived.ProofKit
import Derived.OpenShut
import Derived.ShutString
import Derived.ChangeOld
import Derived.Below
namespace Go.Proofs.YtdjjlmphifgnnaaGreat
open Go.RowKit Go.Sort Go.Proofs.YtdjjlmphifgnnaaGreatW.PrintWords Go.Proofs.YtdjjlmphifgnnaaGreatW.PrintLast Go.Proofs.YtdjjlmphifgnnaaGreatW.PrintMore
open Stb (mrg Pre Sorted stb)
open Flt (nanP canP keyP midP)
set_option linter.unusedVariables false
set_option linter.unusedSimpArgs false
attribute [local go_sem] run_store_float
theorem tasks_nan {ls : List Lst} : ∀ (l : List Tsk) (a : Nat), tasksP ls a l = 0 → ∀ x ∈ l, nanP x.rank.b = false
  | [], _, _, x, hx => by cases hx
  | y :: l, a, h, x, hx => by
    have e : tasksP ls a (y :: l) = if y.id ≤ a then 93 else if oneP ls y = 0 then tasksP ls y.id l else oneP ls y := rfl
    rw [e] at h
    split at h
    · cases h
    · split at h
      · next h1 =>
        rcases List.mem_cons.1 hx with rfl | hx
        · unfold oneP at h1
          split at h1
          · cases h1
          · split at h1
            · cases h1
            · split at h1
              · cases h1
              · next hn => simpa using hn
        · exact tasks_nan l _ h x hx
      · next h1 => exact absurd h h1
theorem right_nan {ls : List Lst} {l : List Tsk} (h : rightP ls l = 0) : ∀ x ∈ l, nanP x.rank.b = false := by
  unfold rightP at h
  split at h
  · cases h
  · split at h
    · cases h
    · split at h
      · exact tasks_nan l 0 h
      · next h1 => exact absurd h h1
theorem id_at {w : World} {A : Option Addr} {l : List Tsk} (h : kT.C w A l.length l) {i : Nat} {x : Tsk} (hx : l[i]? = some x) : ∃ ad, A = some ad ∧ w.cell? (ad.add (i * 7)) = some (.int .u64 (x.id : Int)) := by
  obtain ⟨xs, rfl, hX, hF⟩ := rawT_of h
  rw [List.getElem?_map] at hx
  obtain ⟨y, hy, rfl⟩ := Option.map_eq_some_iff.1 hx
  obtain ⟨ad, e, y0, _⟩ := rawT_get hX hy
  exact ⟨ad, e, y0⟩
set_option maxRecDepth 100000 in
set_option maxHeartbeats 8000000 in
theorem law_calls (w : World) (LA TA : Option Addr) (lc tc : Nat) (ls : List Lst) (l : List Tsk) (list after : Nat) (hL : kL.C w LA ls.length ls) (hT : kT.C w TA l.length l) :
    Calls Tryz.prog 3 #[.agg #[.slice LA ls.length lc, .slice TA l.length tc], .int .u64 (list : Int), .int .u64 (after : Int)] w fun e w' => e = .returned (.bool true) ∧ Below w.heap.size w w' := by
  have hb := (Below.refl w.heap.size w).alloc (Nat.le_refl _) (.cells #[.slice LA ls.length lc, .slice TA l.length tc] 25)
  have hbx := box2_at (w := w) (a := .slice LA ls.length lc) (b := .slice TA l.length tc) (t := 25)
  have HB0 := Aside0.mk hb
  have HBX0 := Aside0.mk hbx
  have HL := Aside0.mk hL
  have HT := Aside0.mk hT
  have HLI := Aside0.mk (fun (W : World) (hb : Below w.heap.size w W) => light_calls W LA TA lc tc ls l (Kd.C_below hL hb) (Kd.C_below hT hb))
  obtain ⟨g0, g1⟩ := two_cells hbx
  clear hb hbx hL hT
  cases hlt : lightP ls l with
  | false =>
    rw [hlt] at HLI
    clear hlt
    go_enter Tryz.func3, Tryz.ntmps3
    go_wp2_with (first
      | (go_at_call 4; refine (awake_calls _).mono ?_; rintro e w1 ⟨rfl, hb⟩; have HB1 := Aside0.mk (HB0.out.trans (hb.mono HB0.out.size)); have HBX1 := Aside0.mk (up2 HBX0.out hb); obtain ⟨g10, g11⟩ := two_cells HBX1.out; clear hb)
      | (go_at_call 5; refine (HLI.out _ HB1.out).mono ?_; rintro e w2 ⟨rfl, hb⟩; have HB2 := Aside0.mk (HB1.out.trans (hb.mono HB1.out.size)); have HBX2 := Aside0.mk (up2 HBX1.out hb); obtain ⟨g20, g21⟩ := two_cells HBX2.out; clear hb))
    go_ret
    exact ⟨rfl, HB2.out⟩
  | true =>
    rw [hlt] at HLI
    obtain ⟨hl1, hl2, hM⟩ := lightP_mild hlt
    have HM := Aside0.mk hM
    have HLN := Aside0.mk hl2
    have HRI := Aside0.mk (fun (W : World) (hb : Below w.heap.size w W) => right_calls W LA TA lc tc ls l (Kd.C_below HL.out hb) (Kd.C_below HT.out hb) hM)
    clear hlt hl1 hl2 hM
    by_cases hr : rightP ls l = 0
    · have HR := Aside0.mk hr
      have HNAN := Aside0.mk (right_nan hr)
      obtain ⟨p1, p2, p3, p4⟩ := right_parts hr
      have HD := Aside0.mk ((tasks_ids l 0 p4).1.imp (fun {a b} h => (Nat.ne_of_lt h : a.id ≠ b.id)))
      have HCL := Aside0.mk (canL_right p3)
      have HCT := Aside0.mk (canT_right p4)
      have HL60 := Aside0.mk p2
      have HL20 := Aside0.mk p1
      have HSP := Aside0.mk (fun (W : World) (hb : Below w.heap.size w W) => spread_calls W LA TA lc tc ls l list (Kd.C_below HL.out hb) (Kd.C_below HT.out hb) HM.out HCL.out HCT.out HD.out (by have := HL60.out; omega))
      rw [hr] at HRI
      clear hr p1 p2 p3 p4
      go_enter Tryz.func3, Tryz.ntmps3
      go_wp2_with (first
        | (go_at_call 4; refine (awake_calls _).mono ?_; rintro e w1 ⟨rfl, hb⟩; have HB1 := Aside0.mk (HB0.out.trans (hb.mono HB0.out.size)); have HBX1 := Aside0.mk (up2 HBX0.out hb); obtain ⟨g10, g11⟩ := two_cells HBX1.out; clear hb)
        | (go_at_call 5; refine (HLI.out _ HB1.out).mono ?_; rintro e w2 ⟨rfl, hb⟩; have HB2 := Aside0.mk (HB1.out.trans (hb.mono HB1.out.size)); have HBX2 := Aside0.mk (up2 HBX1.out hb); obtain ⟨g20, g21⟩ := two_cells HBX2.out; clear hb)
        | (go_at_call 6; refine (HRI.out _ HB2.out).mono ?_; rintro e w3 ⟨rfl, hb⟩; have HB3 := Aside0.mk (HB2.out.trans (hb.mono HB2.out.size)); have HBX3 := Aside0.mk (up2 HBX2.out hb); obtain ⟨g30, g31⟩ := two_cells HBX3.out; clear hb)
        | (go_at_call 7; refine (HSP.out _ HB3.out).mono ?_; rintro e w4 ⟨A, n, c, A', n', c', rfl, hrl, hrt, hb⟩; have HRL := Aside0.mk hrl; have HRT := Aside0.mk hrt; have HB4 := Aside0.mk (HB3.out.trans (hb.mono HB3.out.size)); have HBX4 := Aside0.mk (up2 HBX3.out hb); obtain ⟨g40, g41⟩ := two_cells HBX4.out; have hn1 := (Kd.R_reads' hrl).1; have hn2 := (Kd.R_reads' hrt).1; subst hn1 hn2; have HXL := Aside0.mk (Kd.R_reads' hrl).2.2; have HXT := Aside0.mk (Kd.R_reads' hrt).2.2; clear hrl hrt hb))
      have HRS := Aside0.mk (right_spr HR.out list)
      have HOS := Aside0.mk (ordP_spr HD.out list (by have := HL60.out; omega))
      have HSE := Aside0.mk (sprP_eq HD.out list)
      obtain ⟨T, hT⟩ : ∃ T, sprP l list = T := ⟨_, rfl⟩
      rw [hT] at HXT HRS HOS HSE ⊢
      have HTE := Aside0.mk hT
      have HTM := Aside0.mk (show Mild ls T from by rw [HSE.out]; exact ⟨HM.out.nl, by rw [List.length_map]; exact HM.out.nt, HM.out.names, fun x hx => by obtain ⟨y, hy, rfl⟩ := List.mem_map.1 hx; rw [(phi_same _ y).2.2.1]; exact HM.out.titles y hy, fun x hx => by obtain ⟨y, hy, rfl⟩ := List.mem_map.1 hx; rw [(phi_same _ y).2.2.2.2.2]; exact HM.out.ntags y hy, fun x hx => by obtain ⟨y, hy, rfl⟩ := List.mem_map.1 hx; rw [(phi_same _ y).2.2.2.2.2]; exact HM.out.tags y hy⟩)
      have hb5 := (Below.refl w4.heap.size w4).alloc (Nat.le_refl _) (.cells #[.slice A ls.length c, .slice A' T.length c'] 25)
      have hx5 : (w4.alloc (.cells #[.slice A ls.length c, .slice A' T.length c'] 25)).heap[w4.heap.size]? = some (.cells #[.slice A ls.length c, .slice A' T.length c'] 25 (0, 0)) := heap_alloc_new w4 _
      obtain ⟨W5, hW5⟩ : ∃ W5, w4.alloc (.cells #[.slice A ls.length c, .slice A' T.length c'] 25) = W5 := ⟨_, rfl⟩
      rw [hW5] at hb5 hx5 ⊢
      have HB5 := Aside0.mk (hb5.trans (Below.refl _ _).drew)
      have HW5 := Aside0.mk (show Below w.heap.size w W5.drew from HB4.out.trans (HB5.out.mono HB4.out.size))
      have HBX5 := Aside0.mk (up2 HBX4.out HB5.out)
      have HXX5 := Aside0.mk (up2 hx5 (Below.refl W5.heap.size W5).drew)
      obtain ⟨O, hO⟩ : ∃ O, ordP l list = O := ⟨_, rfl⟩
      have hQ : ordP T list = O.map (phi O) := by rw [← hO]; exact HOS.out
      have HOA := Aside0.mk (show ∀ W : World, Below W5.drew.heap.size W5.drew W → Calls Tryz.prog 8 #[.agg #[.slice LA ls.length lc, .slice TA l.length tc], .int .u64 (list : Int)] W (fun e w' => ∃ A1 c1, e = .returned (.slice A1 O.length c1) ∧ kT.C w' A1 O.length O ∧ Below W.heap.size W w') from fun W hb => (order_calls W LA TA ls.length lc tc l list (Kd.C_below HT.out (HW5.out.trans (hb.mono HW5.out.size))) HM.out.nt HM.out.ntags).mono (fun e w' h => by rw [← hO]; exact ord_reads h))
      have HOB := Aside0.mk (show ∀ W : World, Below W5.drew.heap.size W5.drew W → Calls Tryz.prog 8 #[.agg #[.slice A ls.length c, .slice A' T.length c'], .int .u64 (list : Int)] W (fun e w' => ∃ A1 c1, e = .returned (.slice A1 O.length c1) ∧ kT.C w' A1 (O.map (phi O)).length (O.map (phi O)) ∧ Below W.heap.size W w') from fun W hb => (order_calls W A A' ls.length c c' T list (Kd.C_below (Kd.C_below HXT.out HB5.out) hb) HTM.out.nt HTM.out.ntags).mono (fun e w' h => by
        obtain ⟨A1, c1, e1, h1, h2⟩ := ord_reads h
        refine ⟨A1, c1, ?_, by rw [← hQ]; exact h1, h2⟩
        have hl : (ordP T list).length = O.length := by rw [hQ, List.length_map]
        rw [e1]
        exact congrArg (fun k => Ending.returned (.slice A1 k c1)) hl))
      have HOL := Aside0.mk (show O.length ≤ 60 from by rw [← hO]; exact Nat.le_trans (ordP_len l list) HL60.out)
      have HOD := Aside0.mk (show O.Pairwise (fun a b => a.id ≠ b.id) from by rw [← hO]; exact ordP_ids HD.out list)
      have HQ := Aside0.mk hQ
      clear hO hQ
      obtain ⟨f0, f1⟩ := two_cells HBX5.out
      obtain ⟨x0, x1⟩ := two_cells HXX5.out
      clear hT hb5 hx5 hW5 g0 g1 g10 g11 g20 g21 g30 g31 g40 g41
      refine Fork.wp_fork (Fork.Lo.rel 0) [] [] (.one 1 0 (.one 4 0 (.one 0 1 (.one 3 1 (.one 2 2 (.one 5 2 (.one 6 0 (.one 7 0 .nil)))))))) (by kernel_rfl) (by kernel_rfl) ?_
      generalize hops : List.toArray (_ : List Oper) = ops
      have HO := Aside0.mk hops
      clear hops
      iterate 2 ((refine Fork.plain (Fork.at_ HO.out rfl) _ rfl (fun W => by go_simp; exact rfl) ?_); simp only [Act.put, List.setIfInBounds_toArray, List.set_cons_succ, List.set_cons_zero])
      refine Fork.reads (Fork.at_ HO.out rfl) _ rfl (fun W hW => by have n0 := Fork.bel_cell hW f0; have n1 := Fork.bel_cell hW f1; go_simp; exact rfl) ?_
      simp only [Act.put, List.setIfInBounds_toArray, List.set_cons_succ, List.set_cons_zero]
      refine Fork.reads (Fork.at_ HO.out rfl) _ rfl (fun W hW => by have n0 := Fork.bel_cell hW x0; have n1 := Fork.bel_cell hW x1; go_simp; exact rfl) ?_
      simp only [Act.put, List.setIfInBounds_toArray, List.set_cons_succ, List.set_cons_zero]
      refine Fork.step (Fork.at_ HO.out rfl) (fun K hK => ?_)
      go_simp
      refine Calls.mono (HOA.out W5.drew (Below.refl _ _)) ?_
      rintro e w6 ⟨Aa, ca, rfl, hr, hb⟩
      refine hK _ _ ⟨fun _ => .zero hb.os hb.tape hb.output, fun _ => hb⟩ ?_
      clear hK K
      have H6 := Aside0.mk hb
      have HA6 := Aside0.mk hr
      clear hb hr
      try simp only [Act.put, List.setIfInBounds_toArray, List.set_cons_succ, List.set_cons_zero]
      refine Fork.step (Fork.at_ HO.out rfl) (fun K hK => ?_)
      go_simp
      refine Calls.mono (HOB.out w6 H6.out) ?_
      rintro e w7 ⟨Ab, cb, rfl, hr, hb⟩
      refine hK _ _ ⟨fun _ => .zero hb.os hb.tape hb.output, fun _ => hb⟩ ?_
      clear hK K
      have H7 := Aside0.mk (H6.out.trans (hb.mono H6.out.size))
      have HBQ := Aside0.mk hr
      have HA := Aside0.mk (Kd.C_below HA6.out hb)
      clear hb hr
      try simp only [Act.put, List.setIfInBounds_toArray, List.set_cons_succ, List.set_cons_zero]
      iterate 2 ((refine Fork.plain (Fork.at_ HO.out rfl) _ rfl (fun W => by go_simp; exact rfl) ?_); simp only [Act.put, List.setIfInBounds_toArray, List.set_cons_succ, List.set_cons_zero])
      refine Fork.done ?_
      obtain ⟨y0, y1⟩ := two_cells (up2 HXX5.out H7.out)
      have HXX7 := Aside0.mk (up2 HXX5.out H7.out)
      have HW7 := Aside0.mk (HW5.out.trans (H7.out.mono HW5.out.size))
      have HXL7 := Aside0.mk (Kd.C_below (Kd.C_below HXL.out HB5.out) H7.out)
      have HXT7 := Aside0.mk (Kd.C_below (Kd.C_below HXT.out HB5.out) H7.out)
      have HR7 := Aside0.mk (right_calls w7 A A' c c' ls T HXL7.out HXT7.out HTM.out)
      rw [HRS.out] at HR7
      have hol : (O.length : Int) ≤ 60 := by have := HOL.out; omega
      clear f0 f1 x0 x1
      (try simp only [Exit.inBlock, Exit.then])
      go_wp2_with (first
        | (go_at_call 6; refine Calls.mono HR7.out ?_; rintro e w8 ⟨rfl, hb⟩; have H8 := Aside0.mk hb; have HXX8 := Aside0.mk (up2 HXX7.out hb); have HA8 := Aside0.mk (Kd.C_below HA.out hb); have HB8 := Aside0.mk (Kd.C_below HBQ.out hb); clear hb y0 y1; obtain ⟨y0, y1⟩ := two_cells HXX8.out))
      have HXL8 := Aside0.mk (Kd.C_below HXL7.out H8.out)
      have HXT8 := Aside0.mk (Kd.C_below HXT7.out H8.out)
      have HW8 := Aside0.mk (HW7.out.trans (H8.out.mono HW7.out.size))
      clear y0 y1
      go_loopg [10, 44] O.length (fun kq v10 v44 w' => ∃ i : Nat, v44 = .int .i64 (i : Int) ∧ Aside0 (i + kq = O.length) ∧ Aside0 (Below w8.heap.size w8 w'))
      case atStart => exact ⟨0, rfl, ⟨by omega⟩, ⟨Below.refl _ _⟩⟩
      case round =>
        obtain ⟨i, rfl, HI, HC⟩ := hrel
        by_cases hi : i < O.length
        · have hi0 := HI.out
          obtain ⟨x, hx⟩ : ∃ x, O[i]? = some x := ⟨O[i]'hi, List.getElem?_eq_getElem _⟩
          have hqx : (O.map (phi O))[i]? = some (phi O x) := by rw [List.getElem?_map, hx]; rfl
          obtain ⟨ad1, e1, y1⟩ := id_at (Kd.C_below (Kd.C_below HA8.out HC.out) (Below.refl _ _).drew) hx
          obtain ⟨ad2, e2, y2⟩ := id_at (Kd.C_below (Kd.C_below HB8.out HC.out) (Below.refl _ _).drew) hqx
          rw [(phi_same O x).1] at y2
          subst e1 e2
          have hiz : (i : Int) < (O.length : Int) := by omega
          have HC2 := Aside0.mk (HC.out.trans (((Below.refl wr.heap.size wr).drew).mono HC.out.size))
          obtain ⟨gq, rfl⟩ : ∃ gq, gk = gq + 1 := ⟨gk - 1, by omega⟩
          clear hx hqx
          go_wp2
          refine Fork.wp_fork (Fork.Lo.rel 0) [] [] (.one 0 0 (.one 1 0 (.one 2 0 (.one 3 0 (.one 5 0 (.one 6 0 (.one 7 0 (.one 8 0 (.one 4 1 (.one 9 1 (.one 10 0 .nil))))))))))) (by kernel_rfl) (by kernel_rfl) ?_
          generalize hops : List.toArray (_ : List Oper) = ops
          have HO := Aside0.mk hops
          clear hops
          iterate 8 ((refine Fork.plain (Fork.at_ HO.out rfl) _ rfl (fun W => by go_simp; exact rfl) ?_); simp only [Act.put, List.setIfInBounds_toArray, List.set_cons_succ, List.set_cons_zero])
          refine Fork.reads (Fork.at_ HO.out rfl) _ rfl (fun W hW => Arr.ex_load1 rfl rfl (by kernel_rfl) (Fork.bel_cell hW (by assumption))) ?_
          simp only [Act.put, List.setIfInBounds_toArray, List.set_cons_succ, List.set_cons_zero]
          refine Fork.reads (Fork.at_ HO.out rfl) _ rfl (fun W hW => Arr.ex_load1 rfl rfl (by kernel_rfl) (Fork.bel_cell hW (by assumption))) ?_
          simp only [Act.put, List.setIfInBounds_toArray, List.set_cons_succ, List.set_cons_zero]
          ((refine Fork.plain (Fork.at_ HO.out rfl) _ rfl (fun W => by go_simp; exact rfl) ?_); simp only [Act.put, List.setIfInBounds_toArray, List.set_cons_succ, List.set_cons_zero])
          refine Fork.done ?_
          (try simp only [Exit.inBlock, Exit.then])
          go_wp2
          go_roundg gq
          case rel => exact ⟨i + 1, by go_num, ⟨by omega⟩, HC2⟩
          case measure => omega
        · obtain rfl : i = O.length := by have := HI.out; omega
          have hz : ¬ (((O.length : Nat) : Int) < (O.length : Int)) := by omega
          have HBT := Aside0.mk (between_calls wr A A' c c' ls T list after (Kd.C_below HXL8.out HC.out) (Kd.C_below HXT8.out HC.out) HTM.out.nl HTM.out.nt HTM.out.ntags (right_nan HRS.out))
          have HGP := Aside0.mk (bet_gap (ls := ls) (l := T) (list := list) (after := after) (fun i x hx => by
            rw [HQ.out, List.getElem?_map] at hx
            obtain ⟨y, hy, rfl⟩ := Option.map_eq_some_iff.1 hx
            exact phi_rank HOD.out (by have := HOL.out; omega) hy) (by rw [HQ.out, List.length_map]; have := HOL.out; omega))
          obtain ⟨y0, y1⟩ := two_cells (up2 HXX8.out HC.out)
          obtain ⟨⟨bf, be⟩, hbe⟩ : ∃ r, betP ls T list after = r := ⟨_, rfl⟩
          rw [hbe] at HBT HGP
          have hg : ((be : Int) != 100) = true := by rw [bne_iff_ne]; exact HGP.out
          clear hbe
          go_wp2_with (first
            | (go_at_call 9; refine Calls.mono HBT.out ?_; rintro e w9 ⟨rfl, hb⟩; have HB9 := Aside0.mk (HW8.out.trans ((HC.out.trans (hb.mono HC.out.size)).mono HW8.out.size)); clear hb))
          go_ret
          first
            | exact ⟨rfl, HB9.out⟩
            | exact ⟨congrArg (fun b => Ending.returned (.bool b)) hg, HB9.out⟩
    · have hrz : ((rightP ls l : Int) == 0) = false := by rw [beq_eq_false_iff_ne]; exact hr
      obtain ⟨rp, hrp⟩ : ∃ rp, rightP ls l = rp := ⟨_, rfl⟩
      rw [hrp] at HRI hrz
      clear hr hrp
      go_enter Tryz.func3, Tryz.ntmps3
      go_wp2_with (first
        | (go_at_call 4; refine (awake_calls _).mono ?_; rintro e w1 ⟨rfl, hb⟩; have HB1 := Aside0.mk (HB0.out.trans (hb.mono HB0.out.size)); have HBX1 := Aside0.mk (up2 HBX0.out hb); obtain ⟨g10, g11⟩ := two_cells HBX1.out; clear hb)
        | (go_at_call 5; refine (HLI.out _ HB1.out).mono ?_; rintro e w2 ⟨rfl, hb⟩; have HB2 := Aside0.mk (HB1.out.trans (hb.mono HB1.out.size)); have HBX2 := Aside0.mk (up2 HBX1.out hb); obtain ⟨g20, g21⟩ := two_cells HBX2.out; clear hb)
        | (go_at_call 6; refine (HRI.out _ HB2.out).mono ?_; rintro e w3 ⟨rfl, hb⟩; have HB3 := Aside0.mk (HB2.out.trans (hb.mono HB2.out.size)); have HBX3 := Aside0.mk (up2 HBX2.out hb); obtain ⟨g30, g31⟩ := two_cells HBX3.out; clear hb))
      go_ret
      exact ⟨rfl, HB3.out⟩
end Go.Proofs.YtdjjlmphifgnnaaGreat
namespace Go.Rd
open Go.RowKit Go.Proofs.YtdjjlmphifgnnaaGreatW.PrintWords

structure Reads (P : Program) (t : TypeId) {α : Type} (d : Kd α) (ok : α → Prop) : Prop where
  cells : P.cellsOf t = d.sz
  rd : ∀ {H : Type} (enc : TypeId × Value → H) (w : World) (sp : Nat → Bool) (held : Bool) (fuel : Nat) (cs : List Value) (x : DataW H × List MemPlace),
    DataW.trod enc P w 0 sp held fuel t cs = some x → ∃ a, d.K w a cs ∧ ok a

section
variable {P : Program} {t e : TypeId}
theorem int {k : IntKind} (ht : P.underlying t = some (.int k)) (hc : P.cellsOf t = 1) : Reads P t (Kd.int k) (fun n => (Lit.int k n).wf = true) :=
  ⟨hc, fun enc w sp held fuel cs x h => by
    obtain ⟨n, rfl, _, hw⟩ := DataW.trod_int ht h
    exact ⟨n, rfl, hw⟩⟩
theorem bool (ht : P.underlying t = some .bool) (hc : P.cellsOf t = 1) : Reads P t Kd.bool (fun _ => True) :=
  ⟨hc, fun enc w sp held fuel cs x h => by
    obtain ⟨n, rfl, _⟩ := DataW.trod_bool ht h
    exact ⟨n, rfl, trivial⟩⟩
theorem string (ht : P.underlying t = some .string) (hc : P.cellsOf t = 1) : Reads P t Kd.string (fun s => s.size ≤ maxLen) :=
  ⟨hc, fun enc w sp held fuel cs x h => by
    obtain ⟨n, rfl, _, hs⟩ := DataW.trod_string ht h
    exact ⟨n, rfl, hs⟩⟩
theorem slice {α : Type} {d : Kd α} {ok : α → Prop} (hd : Reads P e d ok) (ht : P.underlying t = some (.slice e)) (hc : P.cellsOf t = 1) : Reads P t (Kd.slice e d) (fun xs => ∀ a ∈ xs, ok a) :=
  ⟨hc, fun enc w sp held fuel cs x h => by
    rcases Deep.open_slice ht h with ⟨rfl, _⟩ | ⟨a, len, cap, m, n, D, Pl, rfl, hb, hl, hm, hmm, _, hx⟩
    · exact ⟨[], ⟨none, 0, rfl, Nat.le_refl _, Kd.C_nil _ _⟩, by simp⟩
    · have hlm : len ≤ m := by rw [hmm]; split <;> omega
      have hall : ∀ i, i < len → ∃ y : α, ok y ∧ ∃ c, c.length = d.sz ∧ d.K w y c ∧ ∀ j u, c[j]? = some u → w.cell? (a.add (i * d.sz + j)) = some u := by
        intro i hi
        obtain ⟨cs', h1, h2⟩ := hx i (by omega)
        obtain ⟨y, hy, hok⟩ := hd.rd enc w sp held n cs' _ h2
        obtain ⟨_, h4, h5⟩ := World.cells?_some h1
        rw [hd.cells] at h4 h5
        refine ⟨y, hok, cs', h4, hy, fun j u hj => ?_⟩
        have hjl : j < d.sz := by rw [← h4]; exact (List.getElem?_eq_some_iff.1 hj).1
        have := h5 j hjl
        rw [Deep.add_add] at this
        rw [this, hj]
      by_cases h0 : len = 0
      · subst h0
        exact ⟨[], ⟨some a, cap, rfl, by simp, ⟨rfl, by simp, fun h => absurd h (Nat.lt_irrefl 0)⟩⟩, by simp⟩
      · obtain ⟨y0, _⟩ := hall 0 (by omega)
        haveI : Inhabited α := ⟨y0⟩
        obtain ⟨f, hf⟩ := Deep.choose_lt (p := fun i y => ok y ∧ ∃ c, c.length = d.sz ∧ d.K w y c ∧ ∀ j u, c[j]? = some u → w.cell? (a.add (i * d.sz + j)) = some u) hall
        have hlen : ((List.range len).map f).length = len := by simp
        refine ⟨(List.range len).map f, ⟨some a, cap, by rw [hlen], by rw [hlen]; exact hl, ?_⟩, fun y hy => ?_⟩
        · refine ⟨rfl, by rw [hlen]; simp only [maxLen] at hm; omega, fun _ => ⟨a, rfl, fun j p hj => ?_⟩⟩
          have hjl : j < len := by rw [← hlen]; exact (List.getElem?_eq_some_iff.1 hj).1
          rw [List.getElem?_map, List.getElem?_range hjl] at hj
          obtain rfl := Option.some.inj hj
          exact (hf j hjl).2
        · obtain ⟨i, hi, rfl⟩ := List.mem_map.1 hy
          exact (hf i (List.mem_range.1 hi)).1⟩

structure FieldsR (P : Program) (fs : List Field) (o : Nat) {α : Type} (d : Kd α) (ok : α → Prop) : Prop where
  rd : ∀ {H : Type} (enc : TypeId × Value → H) (w : World) (sp : Nat → Bool) (held : Bool) (n : Nat) (cs : List Value), o + d.sz ≤ cs.length →
    (∀ f ∈ fs, ∃ y, DataW.trod enc P w 0 sp held n f.type ((cs.drop f.offset).take (P.cellsOf f.type)) = some y) → ∃ a, d.K w a ((cs.drop o).take d.sz) ∧ ok a
theorem one {α : Type} {d : Kd α} {ok : α → Prop} {f : Field} (hd : Reads P f.type d ok) : FieldsR P [f] f.offset d ok := by
  refine ⟨fun {H} enc w sp held n cs hl h => ?_⟩
  obtain ⟨y, hy⟩ := h f (by simp)
  rw [hd.cells] at hy
  exact hd.rd enc w sp held n _ y hy
theorem cons {α β : Type} {d : Kd α} {d' : Kd β} {ok : α → Prop} {ok' : β → Prop} {f : Field} {fs : List Field} (hd : Reads P f.type d ok) (hf : FieldsR P fs (f.offset + d.sz) d' ok') :
    FieldsR P (f :: fs) f.offset (Kd.pair d d') (fun p => ok p.1 ∧ ok' p.2) := by
  refine ⟨fun {H} enc w sp held n cs hl h => ?_⟩
  have hsz : (Kd.pair d d').sz = d.sz + d'.sz := rfl
  rw [hsz] at hl ⊢
  obtain ⟨y, hy⟩ := h f (by simp)
  rw [hd.cells] at hy
  obtain ⟨a, ha, hoa⟩ := hd.rd enc w sp held n _ y hy
  obtain ⟨b, hb, hob⟩ := hf.rd enc w sp held n cs (by omega) (fun g hg => h g (by simp [hg]))
  refine ⟨(a, b), ⟨_, _, ?_, ha, hb⟩, hoa, hob⟩
  rw [← List.drop_drop, List.take_add]
theorem struct {α : Type} {d : Kd α} {ok : α → Prop} {fs : Array Field} (ht : P.underlying t = some (.struct fs)) (hf : FieldsR P fs.toList 0 d ok) (hc : P.cellsOf t = d.sz) : Reads P t d ok :=
  ⟨hc, fun enc w sp held fuel cs x h => by
    obtain ⟨xs, n, _, _, hl, hx, hall⟩ := DataW.trod_struct ht h
    obtain ⟨a, ha, hoa⟩ := hf.rd enc w sp held n cs (by rw [hl, hc]; omega) (fun f hm => by
      obtain ⟨i, hi⟩ := List.mem_iff_getElem?.1 hm
      have hil : i < fs.size := by simpa using (List.getElem?_eq_some_iff.1 hi).1
      have := hall i f (by simpa using hi)
      rw [List.getElem?_eq_getElem (by omega)] at this
      exact ⟨_, this⟩)
    refine ⟨a, ?_, hoa⟩
    rw [List.drop_zero, List.take_of_length_le (by rw [hl, hc]; exact Nat.le_refl _)] at ha
    exact ha⟩
theorem iso {α β : Type} {d : Kd α} {ok : α → Prop} (hd : Reads P t d ok) (f : β → α) (g : α → β) (h : ∀ a, f (g a) = a) : Reads P t (Kd.iso d f) (fun x => ok (f x)) :=
  ⟨hd.cells, fun enc w sp held fuel cs x hx => by
    obtain ⟨a, ha, hok⟩ := hd.rd enc w sp held fuel cs x hx
    refine ⟨g a, ?_, by rw [h]; exact hok⟩
    show d.K w (f (g a)) cs
    rw [h]
    exact ha⟩
/-- A slice that came in. -/
theorem arg {α : Type} {d : Kd α} {ok : α → Prop} (hd : Reads P e d ok) (ht : P.underlying t = some (.slice e)) (hc : P.cellsOf t = 1) {H : Type} {enc : TypeId × Value → H} {W : World} {a : Option Addr} {len cap : Nat} {D : DataW H} {ps : List MemPlace}
    (h : DataW.Trod enc P W 0 (fun _ => true) true t (.slice a len cap) D ps) : ∃ l : List α, len = l.length ∧ l.length ≤ cap ∧ d.C W a l.length l ∧ ∀ x ∈ l, ok x := by
  obtain ⟨fuel, hf⟩ := h
  obtain ⟨l, ⟨A, c, he, hl, hC⟩, hok⟩ := (slice hd ht hc).rd enc W _ _ fuel _ _ hf
  simp only [Value.cells, List.cons.injEq, and_true] at he
  injection he with h1 h2 h3
  subst h1; subst h2; subst h3
  exact ⟨l, rfl, hl, hC, hok⟩
end
end Go.Rd
namespace Go.Rd
open Go.RowKit Go.Proofs.YtdjjlmphifgnnaaGreatW.PrintWords
section
variable {P : Program} {t e : TypeId}
theorem trod_float {H : Type} {enc : TypeId × Value → H} {w : World} {base : Nat} {spare : Nat → Bool} {held : Bool} {fuel : Nat} {k : FloatKind} {cs : List Value} {x : DataW H × List MemPlace} (ht : P.underlying t = some (.float k)) (h : DataW.trod enc P w base spare held fuel t cs = some x) : ∃ b, cs = [.float k b] ∧ (Lit.float k b).wf = true := by
  cases fuel with
  | zero => simp [DataW.trod] at h
  | succ n =>
    unfold DataW.trod at h
    rw [ht] at h
    split at h <;> simp_all
theorem float {α : Type} {enc' : α → Value} {h1 : ∀ x, (enc' x).oneCell' = true} (hs : ∀ b, b < 18446744073709551616 → ∃ x, enc' x = .float .f64 b) (ht : P.underlying t = some (.float .f64)) (hc : P.cellsOf t = 1) : Reads P t (Kd.scalar enc' h1) (fun _ => True) :=
  ⟨hc, fun enc w sp held fuel cs x h => by
    obtain ⟨b, rfl, hw⟩ := trod_float ht h
    obtain ⟨y, hy⟩ := hs b (by simpa [Lit.wf] using hw)
    exact ⟨y, by rw [← hy]; rfl, trivial⟩⟩
theorem isoOk {α β : Type} {d : Kd α} {ok : α → Prop} (hd : Reads P t d ok) (f : β → α) (g : α → β) (h : ∀ a, ok a → f (g a) = a) : Reads P t (Kd.iso d f) (fun x => ok (f x)) :=
  ⟨hd.cells, fun enc w sp held fuel cs x hx => by
    obtain ⟨a, ha, hok⟩ := hd.rd enc w sp held fuel cs x hx
    refine ⟨g a, ?_, by rw [h a hok]; exact hok⟩
    show d.K w (f (g a)) cs
    rw [h a hok]
    exact ha⟩
end
end Go.Rd
namespace Go.Proofs.YtdjjlmphifgnnaaGreat
open Go.ChangeShapes Go.WideShapes Go.ChangeAt Go.RowKit Go.Proofs.YtdjjlmphifgnnaaGreatW.PrintWords Go.Proofs.YtdjjlmphifgnnaaGreatW.PrintLast Go.Proofs.YtdjjlmphifgnnaaGreatW.PrintMore
theorem rU64 : Rd.Reads Tryz.prog 26 (Kd.int .u64) (fun n => (Lit.int .u64 n).wf = true) := Rd.int Tryz.underlying26 (by kernel_rfl)
theorem rBool : Rd.Reads Tryz.prog 4 Kd.bool (fun _ => True) := Rd.bool Tryz.underlying4 (by kernel_rfl)
theorem rString : Rd.Reads Tryz.prog 9 Kd.string (fun s => s.size ≤ maxLen) := Rd.string Tryz.underlying9 (by kernel_rfl)
theorem rF64 : Rd.Reads Tryz.prog 33 kF (fun _ => True) := Rd.float (fun b hb => ⟨⟨b, hb⟩, rfl⟩) Tryz.underlying33 (by kernel_rfl)
theorem u64_in {n : Int} (h : (Lit.int .u64 n).wf = true) : 0 ≤ n ∧ n < 18446744073709551616 := by
  have := bounds_u64 h
  omega
end Go.Proofs.YtdjjlmphifgnnaaGreat
namespace Go.Proofs.YtdjjlmphifgnnaaGreat
open Go.ChangeShapes Go.WideShapes Go.ChangeAt Go.RowKit Go.Proofs.YtdjjlmphifgnnaaGreatW.PrintWords Go.Proofs.YtdjjlmphifgnnaaGreatW.PrintLast Go.Proofs.YtdjjlmphifgnnaaGreatW.PrintMore
theorem rStrs : Rd.Reads Tryz.prog 34 (Kd.slice 9 Kd.string) (fun xs => ∀ a ∈ xs, a.size ≤ maxLen) := Rd.slice rString Tryz.underlying34 (by kernel_rfl)
theorem rTupL : Rd.Reads Tryz.prog 41 (Kd.pair (Kd.int .u64) Kd.string) (fun x => (Lit.int .u64 x.1).wf = true ∧ x.2.size ≤ maxLen) := by
  refine Rd.struct Tryz.underlying41 ?_ (by kernel_rfl)
  refine Rd.cons (ok' := fun y : ByteArray => y.size ≤ maxLen) (f := { name := "Id", type := 26, offset := 0, embedded := false, tag := "", pkgPath := "", byteOffset := 0 }) rU64 ?_
  exact Rd.one (f := { name := "Name", type := 9, offset := 1, embedded := false, tag := "", pkgPath := "", byteOffset := 8 }) rString
theorem rLst : Rd.Reads Tryz.prog 41 kL (fun x => (Lit.int .u64 (x.id : Int)).wf = true ∧ x.name.size ≤ maxLen) :=
  Rd.isoOk rTupL (fun x : Lst => ((x.id : Int), x.name)) (fun a => (⟨a.1.toNat, a.2⟩ : Lst)) (fun a h => by
    have := u64_in h.1
    exact Prod.ext (by show ((a.1.toNat : Nat) : Int) = a.1; omega) rfl)
theorem rTupT : Rd.Reads Tryz.prog 36 (Kd.pair (Kd.int .u64) (Kd.pair (Kd.int .u64) (Kd.pair Kd.string (Kd.pair Kd.bool (Kd.pair kF (Kd.pair kF (Kd.slice 9 Kd.string)))))))
    (fun x => (Lit.int .u64 x.1).wf = true ∧ (Lit.int .u64 x.2.1).wf = true ∧ x.2.2.1.size ≤ maxLen ∧ True ∧ True ∧ True ∧ ∀ a ∈ x.2.2.2.2.2.2, a.size ≤ maxLen) := by
  refine Rd.struct Tryz.underlying36 ?_ (by kernel_rfl)
  refine Rd.cons (ok' := fun y : Int × ByteArray × Bool × W64 × W64 × List ByteArray => (Lit.int .u64 y.1).wf = true ∧ y.2.1.size ≤ maxLen ∧ True ∧ True ∧ True ∧ ∀ a ∈ y.2.2.2.2.2, a.size ≤ maxLen) (f := { name := "Id", type := 26, offset := 0, embedded := false, tag := "", pkgPath := "", byteOffset := 0 }) rU64 ?_
  refine Rd.cons (ok' := fun y : ByteArray × Bool × W64 × W64 × List ByteArray => y.1.size ≤ maxLen ∧ True ∧ True ∧ True ∧ ∀ a ∈ y.2.2.2.2, a.size ≤ maxLen) (f := { name := "List", type := 26, offset := 1, embedded := false, tag := "", pkgPath := "", byteOffset := 8 }) rU64 ?_
  refine Rd.cons (ok' := fun y : Bool × W64 × W64 × List ByteArray => True ∧ True ∧ True ∧ ∀ a ∈ y.2.2.2, a.size ≤ maxLen) (f := { name := "Title", type := 9, offset := 2, embedded := false, tag := "", pkgPath := "", byteOffset := 16 }) rString ?_
  refine Rd.cons (ok' := fun y : W64 × W64 × List ByteArray => True ∧ True ∧ ∀ a ∈ y.2.2, a.size ≤ maxLen) (f := { name := "Done", type := 4, offset := 3, embedded := false, tag := "", pkgPath := "", byteOffset := 32 }) rBool ?_
  refine Rd.cons (ok' := fun y : W64 × List ByteArray => True ∧ ∀ a ∈ y.2, a.size ≤ maxLen) (f := { name := "Rank", type := 33, offset := 4, embedded := false, tag := "", pkgPath := "", byteOffset := 40 }) rF64 ?_
  refine Rd.cons (ok' := fun y : List ByteArray => ∀ a ∈ y, a.size ≤ maxLen) (f := { name := "Est", type := 33, offset := 5, embedded := false, tag := "", pkgPath := "", byteOffset := 48 }) rF64 ?_
  exact Rd.one (f := { name := "Tags", type := 34, offset := 6, embedded := false, tag := "", pkgPath := "", byteOffset := 56 }) rStrs
theorem rTask : Rd.Reads Tryz.prog 36 kT (fun x => (Lit.int .u64 (x.id : Int)).wf = true ∧ (Lit.int .u64 (x.list : Int)).wf = true ∧ x.title.size ≤ maxLen ∧ True ∧ True ∧ True ∧ ∀ a ∈ x.tags, a.size ≤ maxLen) :=
  Rd.isoOk rTupT (fun x : Tsk => ((x.id : Int), (x.list : Int), x.title, x.done, x.rank, x.est, x.tags)) (fun a => (⟨a.1.toNat, a.2.1.toNat, a.2.2.1, a.2.2.2.1, a.2.2.2.2.1, a.2.2.2.2.2.1, a.2.2.2.2.2.2⟩ : Tsk)) (fun a h => by
    have h1 := u64_in h.1
    have h2 := u64_in h.2.1
    exact Prod.ext (by show ((a.1.toNat : Nat) : Int) = a.1; omega) (Prod.ext (by show ((a.2.1.toNat : Nat) : Int) = a.2.1; omega) rfl))
theorem rState : Rd.Reads Tryz.prog 25 (Kd.pair (Kd.slice 41 kL) (Kd.slice 36 kT)) (fun x => (∀ a ∈ x.1, (Lit.int .u64 (a.id : Int)).wf = true ∧ a.name.size ≤ maxLen) ∧ ∀ a ∈ x.2, (Lit.int .u64 (a.id : Int)).wf = true ∧ (Lit.int .u64 (a.list : Int)).wf = true ∧ a.title.size ≤ maxLen ∧ True ∧ True ∧ True ∧ ∀ t ∈ a.tags, t.size ≤ maxLen) := by
  refine Rd.struct Tryz.underlying25 ?_ (by kernel_rfl)
  refine Rd.cons (ok' := fun y : List Tsk => ∀ a ∈ y, (Lit.int .u64 (a.id : Int)).wf = true ∧ (Lit.int .u64 (a.list : Int)).wf = true ∧ a.title.size ≤ maxLen ∧ True ∧ True ∧ True ∧ ∀ t ∈ a.tags, t.size ≤ maxLen) (f := { name := "Lists", type := 22, offset := 0, embedded := false, tag := "", pkgPath := "", byteOffset := 0 }) (Rd.slice rLst Tryz.underlying22 (by kernel_rfl)) ?_
  exact Rd.one (f := { name := "Tasks", type := 23, offset := 1, embedded := false, tag := "", pkgPath := "", byteOffset := 24 }) (Rd.slice rTask Tryz.underlying23 (by kernel_rfl))
/-- a state that came in -/
theorem stArg {H : Type} {enc : TypeId × Value → H} {W : World} {v : Value} {D : DataW H} {ps : List MemPlace} (hv : ∃ cs, v = .agg cs)
    (h : DataW.Trod enc Tryz.prog W 0 (fun _ => true) true 25 v D ps) : ∃ (LA TA : Option Addr) (lc tc : Nat) (ls : List Lst) (l : List Tsk), v = .agg #[.slice LA ls.length lc, .slice TA l.length tc] ∧ kL.C W LA ls.length ls ∧ kT.C W TA l.length l := by
  obtain ⟨cs, rfl⟩ := hv
  obtain ⟨fuel, hf⟩ := h
  obtain ⟨⟨ls, l⟩, ⟨c0, c1, e, ⟨LA, lc, rfl, h1, h2⟩, ⟨TA, tc, rfl, h3, h4⟩⟩, _⟩ := rState.rd enc W _ _ fuel _ _ hf
  refine ⟨LA, TA, lc, tc, ls, l, ?_, h2, h4⟩
  congr 1
  exact Array.toList_inj.1 e
end Go.Proofs.YtdjjlmphifgnnaaGreat
