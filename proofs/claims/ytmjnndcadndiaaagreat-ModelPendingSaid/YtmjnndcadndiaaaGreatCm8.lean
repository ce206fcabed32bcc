/- Parts of one proof, joined: Itd, Ite, Itf. Conditions: those of each statement. -/
import Derived.Test.YtmjnndcadndiaaaGreatCm6
import Derived.Test.YtmjnndcadndiaaaGreatCm7
import Derived.Test.YtmjnndcadndiaaaGreatCm4
namespace Go.Proofs.YtmjnndcadndiaaaGreat
open Go.RowKit Go.Proofs.YtmjnndcadndiaaaGreatW.PrintWords Go.Proofs.YtmjnndcadndiaaaGreatW.PrintLast Go.Proofs.YtmjnndcadndiaaaGreatW.PrintMore
open Flt (nanP canP keyP)
set_option linter.unusedVariables false
set_option linter.unusedSimpArgs false
attribute [local go_sem] run_store_float run_makeMap
theorem below_two (w : World) (o1 o2 : Obj) : Below w.heap.size w ((w.alloc o1).alloc o2) := ((Below.refl _ w).alloc (Nat.le_refl _) o1).alloc (by rw [show (w.alloc o1).heap.size = w.heap.size + 1 from Array.size_push _]; omega) o2
def mtV (x : Itm) : Value := .agg #[.int .i64 x.kind, .int .u64 (x.mid : Int), .int .u64 (x.mlist : Int), .string x.text, .float .f64 x.f.b, .bool x.flag]
def itV (x : Itm) : Value := .agg #[.int .u64 (x.ident : Int), .int .u64 (x.num : Int), .int .i64 x.kind, .int .u64 (x.mid : Int), .int .u64 (x.mlist : Int), .string x.text, .float .f64 x.f.b, .bool x.flag]
set_option maxHeartbeats 4000000 in
theorem samemut_same (x : Itm) (w : World) : Calls Tryz.prog 14 #[mtV x, mtV x] w fun e w' => e = .returned (.bool true) ∧ Below w.heap.size w w' := by
  obtain ⟨xi, xn, xk, xm, xl, xt, xf, xg⟩ := x
  unfold mtV
  simp only []
  have HF := Aside0.mk (fun w => rsame_calls xf.b xf.b xf.lt xf.lt w)
  have hb1 := below_two w (.cells #[.int .i64 xk, .int .u64 (xm : Int), .int .u64 (xl : Int), .string xt, .float .f64 xf.b, .bool xg] 30) (.cells #[.int .i64 xk, .int .u64 (xm : Int), .int .u64 (xl : Int), .string xt, .float .f64 xf.b, .bool xg] 30)
  have HB := Aside0.mk hb1
  clear hb1
  go_enter Tryz.func14, Tryz.ntmps14
  go_wp2_with (first
    | (go_at_call 19; (with_reducible refine Calls.mono (HF.out _) ?_); rintro e w1 ⟨rfl, hd⟩; have D1 := Aside0.mk hd; clear hd))
  go_ret
  exact ⟨by simp, HB.out.trans (D1.out.below.mono HB.out.size)⟩
set_option maxHeartbeats 4000000 in
theorem sameitem_same (x : Itm) (w : World) : Calls Tryz.prog 11 #[itV x, itV x] w fun e w' => e = .returned (.bool true) ∧ Below w.heap.size w w' := by
  have HF := Aside0.mk (fun w => samemut_same x w)
  obtain ⟨xi, xn, xk, xm, xl, xt, xf, xg⟩ := x
  unfold mtV at HF
  unfold itV
  simp only [] at HF ⊢
  have hb1 := below_two w (.cells #[.int .u64 (xi : Int), .int .u64 (xn : Int), .int .i64 xk, .int .u64 (xm : Int), .int .u64 (xl : Int), .string xt, .float .f64 xf.b, .bool xg] 32) (.cells #[.int .u64 (xi : Int), .int .u64 (xn : Int), .int .i64 xk, .int .u64 (xm : Int), .int .u64 (xl : Int), .string xt, .float .f64 xf.b, .bool xg] 32)
  have HB := Aside0.mk hb1
  clear hb1
  go_enter Tryz.func11, Tryz.ntmps11
  go_wp2_with (first
    | (go_at_call 14; (with_reducible refine Calls.mono (HF.out _) ?_); rintro e w1 ⟨rfl, hd⟩; have D1 := Aside0.mk hd; clear hd))
  go_ret
  exact ⟨rfl, HB.out.trans (D1.out.mono HB.out.size)⟩
end Go.Proofs.YtmjnndcadndiaaaGreat
namespace Go.Proofs.YtmjnndcadndiaaaGreat
open Go.RowKit Go.Proofs.YtmjnndcadndiaaaGreatW.PrintWords Go.Proofs.YtmjnndcadndiaaaGreatW.PrintLast Go.Proofs.YtmjnndcadndiaaaGreatW.PrintMore
open Flt (nanP canP keyP)
set_option linter.unusedVariables false
set_option linter.unusedSimpArgs false
attribute [local go_sem] run_store_float run_makeMap
set_option maxRecDepth 100000 in
set_option maxHeartbeats 8000000 in
theorem sameitems_same (w : World) (A B : Option Addr) (ac bc : Nat) (l : List Itm) (hA : kI.C w A l.length l) (hB : kI.C w B l.length l) (hn : l.length ≤ 1000) :
    Calls Tryz.prog 6 #[.slice A l.length ac, .slice B l.length bc] w fun e w' => e = .returned (.bool true) ∧ Below w.heap.size w w' := by
  have HA := Aside0.mk hA
  have HB := Aside0.mk hB
  have hln : (l.length : Int) ≤ 1000 := by omega
  have H0 := Aside0.mk (Below.refl w.heap.size w)
  clear hA hB hn
  go_enter Tryz.func6, Tryz.ntmps6
  go_wp2
  go_loopg [5, 13] l.length (fun kq v5 v13 w' => ∃ (i : Nat), v13 = .int .i64 (i : Int) ∧ Aside0 (i + kq = l.length) ∧ Aside0 (Below w.heap.size w w'))
  case atStart => exact ⟨0, rfl, ⟨by omega⟩, H0⟩
  case round =>
    obtain ⟨i, rfl, HI, HC⟩ := hrel
    by_cases hi : i < l.length
    · have hi0 := HI.out
      obtain ⟨x, hx⟩ : ∃ x, l[i]? = some x := ⟨l[i]'hi, List.getElem?_eq_getElem _⟩
      obtain ⟨ad, e, y0, y1, y2, y3, y4, y5, y6, y7⟩ := kI_get HA.out hx
      subst e
      obtain ⟨bd, e, z0, z1, z2, z3, z4, z5, z6, z7⟩ := kI_get HB.out hx
      subst e
      have HS := Aside0.mk (fun w => sameitem_same x w)
      unfold itV at HS
      obtain ⟨xi, xn, xk, xm, xl, xt, xf, xg⟩ := x
      simp only at y0 y1 y2 y3 y4 y5 y6 y7 z0 z1 z2 z3 z4 z5 z6 z7 HS
      replace y0 := pw_cell_below HC.out y0
      replace y1 := pw_cell_below HC.out y1
      replace y2 := pw_cell_below HC.out y2
      replace y3 := pw_cell_below HC.out y3
      replace y4 := pw_cell_below HC.out y4
      replace y5 := pw_cell_below HC.out y5
      replace y6 := pw_cell_below HC.out y6
      replace y7 := pw_cell_below HC.out y7
      replace z0 := pw_cell_below HC.out z0
      replace z1 := pw_cell_below HC.out z1
      replace z2 := pw_cell_below HC.out z2
      replace z3 := pw_cell_below HC.out z3
      replace z4 := pw_cell_below HC.out z4
      replace z5 := pw_cell_below HC.out z5
      replace z6 := pw_cell_below HC.out z6
      replace z7 := pw_cell_below HC.out z7
      have hiz : (i : Int) < (l.length : Int) := by omega
      obtain ⟨gq, rfl⟩ : ∃ gq, gk = gq + 1 := ⟨gk - 1, by omega⟩
      clear hx
      go_wp2
      refine Fork.wp_fork (Fork.Lo.rel 0) [] [] (.one 0 0 (.one 1 0 (.one 2 0 (.one 4 0 (.one 5 0 (.one 6 0 (.one 3 1 (.one 7 1 (.one 8 2 (.one 9 0 .nil)))))))))) (by kernel_rfl) (by kernel_rfl) ?_
      generalize hops : List.toArray (_ : List Oper) = ops
      have HO := Aside0.mk hops
      clear hops
      iterate 6 ((refine Fork.plain (Fork.at_ HO.out rfl) _ rfl (fun W => by go_simp; exact rfl) ?_); simp only [Act.put, List.setIfInBounds_toArray, List.set_cons_succ, List.set_cons_zero])
      refine Fork.reads (Fork.at_ HO.out rfl) _ rfl (fun W hW => by have n0 := Fork.bel_cell hW y0; have n1 := Fork.bel_cell hW y1; have n2 := Fork.bel_cell hW y2; have n3 := Fork.bel_cell hW y3; have n4 := Fork.bel_cell hW y4; have n5 := Fork.bel_cell hW y5; have n6 := Fork.bel_cell hW y6; have n7 := Fork.bel_cell hW y7; go_simp; exact rfl) ?_
      simp only [Act.put, List.setIfInBounds_toArray, List.set_cons_succ, List.set_cons_zero]
      refine Fork.reads (Fork.at_ HO.out rfl) _ rfl (fun W hW => by have n0 := Fork.bel_cell hW z0; have n1 := Fork.bel_cell hW z1; have n2 := Fork.bel_cell hW z2; have n3 := Fork.bel_cell hW z3; have n4 := Fork.bel_cell hW z4; have n5 := Fork.bel_cell hW z5; have n6 := Fork.bel_cell hW z6; have n7 := Fork.bel_cell hW z7; go_simp; exact rfl) ?_
      simp only [Act.put, List.setIfInBounds_toArray, List.set_cons_succ, List.set_cons_zero]
      refine Fork.step (Fork.at_ HO.out rfl) (fun K hK => ?_)
      go_simp
      refine (HS.out _).mono ?_
      rintro e w3 ⟨rfl, hb⟩
      refine hK _ _ ⟨fun _ => .zero hb.os hb.tape hb.output, fun _ => hb⟩ ?_
      clear hK K
      have HC3 := Aside0.mk (HC.out.drew.trans (hb.mono HC.out.drew.size))
      clear hb
      try simp only [Act.put, List.setIfInBounds_toArray, List.set_cons_succ, List.set_cons_zero]
      ((refine Fork.plain (Fork.at_ HO.out rfl) _ rfl (fun W => by go_simp; exact rfl) ?_); simp only [Act.put, List.setIfInBounds_toArray, List.set_cons_succ, List.set_cons_zero])
      refine Fork.done ?_
      go_wp2
      go_roundg gq
      case rel => exact ⟨i + 1, by go_num, ⟨by omega⟩, HC3⟩
      case measure => omega
    · obtain rfl : i = l.length := by have := HI.out; omega
      have hz : ¬ (((l.length : Nat) : Int) < (l.length : Int)) := by omega
      go_wp2
      go_ret
      exact ⟨rfl, HC.out⟩
/-- whether a mutation is small; whether items are few and small -/
def litM (x : Itm) : Bool := decide (x.text.size ≤ 200)
def fewI (l : List Itm) : Bool := l.all litM && decide (l.length ≤ 30)
set_option maxHeartbeats 4000000 in
theorem lightm_calls (x : Itm) (w : World) : Calls Tryz.prog 10 #[mtV x] w fun e w' => e = .returned (.bool (litM x)) ∧ Below w.heap.size w w' := by
  obtain ⟨xi, xn, xk, xm, xl, xt, xf, xg⟩ := x
  unfold mtV litM
  simp only []
  have HB := Aside0.mk ((Below.refl w.heap.size w).alloc (Nat.le_refl _) (.cells #[.int .i64 xk, .int .u64 (xm : Int), .int .u64 (xl : Int), .string xt, .float .f64 xf.b, .bool xg] 30))
  have HE : Aside0 (decide ((xt.size : Int) ≤ 200) = decide (xt.size ≤ 200)) := ⟨by rw [Bool.eq_iff_iff]; simp; omega⟩
  go_enter Tryz.func10, Tryz.ntmps10
  go_wp2
  go_ret
  exact ⟨by rw [← HE.out]; rfl, HB.out⟩
theorem all_snoc {α : Type} (L : List α) (q : α → Bool) (i : Nat) (x : α) (hx : L[i]? = some x) : (L.take (i + 1)).all q = ((L.take i).all q && q x) := by
  have htk : L.take (i + 1) = L.take i ++ [x] := by rw [List.take_add_one, hx]; rfl
  rw [htk, List.all_append]
  simp
set_option maxRecDepth 100000 in
set_option maxHeartbeats 8000000 in
theorem few_calls (w : World) (A : Option Addr) (ac : Nat) (l : List Itm) (hA : kI.C w A l.length l) (hn : (l.length : Int) ≤ 9223372036854775807) :
    Calls Tryz.prog 5 #[.slice A l.length ac] w fun e w' => e = .returned (.bool (fewI l)) ∧ Below w.heap.size w w' := by
  have HA := Aside0.mk hA
  have H0 := Aside0.mk (Below.refl w.heap.size w)
  clear hA
  go_enter Tryz.func5, Tryz.ntmps5
  go_wp2
  go_loopg [4, 7] l.length (fun kq v4 v7 w' => ∃ (i : Nat), v7 = .int .i64 (i : Int) ∧ Aside0 (i + kq = l.length) ∧ Aside0 ((l.take i).all litM = true) ∧ Aside0 (Below w.heap.size w w'))
  case atStart => exact ⟨0, rfl, ⟨by omega⟩, ⟨by rw [List.take_zero]; rfl⟩, H0⟩
  case round =>
    obtain ⟨i, rfl, HI, HP, HC⟩ := hrel
    by_cases hi : i < l.length
    · have hi0 := HI.out
      obtain ⟨x, hx⟩ : ∃ x, l[i]? = some x := ⟨l[i]'hi, List.getElem?_eq_getElem _⟩
      obtain ⟨ad, e, y0, y1, y2, y3, y4, y5, y6, y7⟩ := kI_get HA.out hx
      subst e
      have hsn := all_snoc l litM i x hx
      rw [HP.out, Bool.true_and] at hsn
      have HSN := Aside0.mk hsn
      have HX := Aside0.mk (show litM x = false → fewI l = false from fun h => by
        unfold fewI
        rw [List.all_eq_false.2 ⟨x, List.mem_of_getElem? hx, by rw [h]; decide⟩]
        rfl)
      have HS := Aside0.mk (fun w => lightm_calls x w)
      obtain ⟨q, hq⟩ : ∃ q, litM x = q := ⟨_, rfl⟩
      rw [hq] at HSN HX HS
      unfold mtV at HS
      obtain ⟨xi, xn, xk, xm, xl, xt, xf, xg⟩ := x
      simp only at y0 y1 y2 y3 y4 y5 y6 y7 HS
      replace y0 := pw_cell_below HC.out y0
      replace y1 := pw_cell_below HC.out y1
      replace y2 := pw_cell_below HC.out y2
      replace y3 := pw_cell_below HC.out y3
      replace y4 := pw_cell_below HC.out y4
      replace y5 := pw_cell_below HC.out y5
      replace y6 := pw_cell_below HC.out y6
      replace y7 := pw_cell_below HC.out y7
      have hiz : (i : Int) < (l.length : Int) := by omega
      have HC1 := Aside0.mk (HC.out.trans (((Below.refl wr.heap.size wr).alloc (Nat.le_refl _) (.cells #[.int .u64 (xi : Int), .int .u64 (xn : Int), .int .i64 xk, .int .u64 (xm : Int), .int .u64 (xl : Int), .string xt, .float .f64 xf.b, .bool xg] 32)).mono HC.out.size))
      obtain ⟨gq, rfl⟩ : ∃ gq, gk = gq + 1 := ⟨gk - 1, by omega⟩
      clear hx hsn hq
      cases q with
      | true =>
        go_wp2_with (first
          | (go_at_call 10; refine (HS.out _).mono ?_; rintro e w3 ⟨rfl, hb⟩; have HC3 := Aside0.mk (HC1.out.trans (hb.mono HC1.out.size)); clear hb))
        go_roundg gq
        case rel => exact ⟨i + 1, by go_num, ⟨by omega⟩, HSN, HC3⟩
        case measure => omega
      | false =>
        go_wp2_with (first
          | (go_at_call 10; refine (HS.out _).mono ?_; rintro e w3 ⟨rfl, hb⟩; have HC3 := Aside0.mk (HC1.out.trans (hb.mono HC1.out.size)); clear hb))
        go_ret
        exact ⟨by rw [show fewI l = false from by have h := HX.out; simpa using h]; rfl, HC3.out⟩
    · obtain rfl : i = l.length := by have := HI.out; omega
      have hz : ¬ (((l.length : Nat) : Int) < (l.length : Int)) := by omega
      rw [List.take_length] at HP
      have HE : Aside0 (fewI l = decide ((l.length : Int) ≤ 30)) := ⟨by unfold fewI; rw [HP.out, Bool.true_and, Bool.eq_iff_iff]; simp; omega⟩
      go_wp2
      go_ret
      exact ⟨by rw [HE.out]; rfl, HC.out⟩
end Go.Proofs.YtmjnndcadndiaaaGreat
namespace Go.Proofs.YtmjnndcadndiaaaGreat
open Go.RowKit Go.Proofs.YtmjnndcadndiaaaGreatW.PrintWords Go.Proofs.YtmjnndcadndiaaaGreatW.PrintLast Go.Proofs.YtmjnndcadndiaaaGreatW.PrintMore
open Flt (nanP canP keyP)
set_option linter.unusedVariables false
set_option linter.unusedSimpArgs false
attribute [local go_sem] run_store_float run_makeMap
/-- two users, made -/
theorem make_users (W : World) : ∃ o, (Instr.makeSlice 61 (.int .i64 2) (.int .i64 2)).run Tryz.prog W = .ok (.slice (some ⟨W.heap.size, 0, none⟩) 2 2) (W.alloc o) := by
  obtain ⟨i, hi, z, hz, hb⟩ : ∃ i, Tryz.prog.info? 70 = some i ∧ ∃ z, i.zero = some z ∧ i.bytes = 72 ∧ i.size = 7 := by
    have : (Tryz.prog.info? 70).map (fun i => (i.zero.isSome, i.bytes, i.size)) = some (true, 72, 7) := by kernel_rfl
    obtain ⟨i, h1, h2⟩ := Option.map_eq_some_iff.1 this
    injection h2 with h2 h3
    injection h3 with h3 h4
    obtain ⟨z, hz⟩ := Option.isSome_iff_exists.1 h2
    exact ⟨i, h1, z, hz, h3, h4⟩
  exact ⟨_, run_makeSlice (P := Tryz.prog) W 61 70 i z Tryz.underlying61 hi hz .i64 .i64 2 2 (by decide) (by decide) (by rw [hb.2]; decide) (by rw [hb.1]; decide) (by decide)⟩
set_option maxRecDepth 100000 in
set_option maxHeartbeats 4000000 in
theorem mnew_calls (w : World) : Calls Tryz.prog 12 #[.int .i64 0] w fun e w' => (∃ v, e = .returned v) ∧ Below w.heap.size w w' := by
  obtain ⟨o, ho⟩ := make_users w
  go_enter Tryz.func12, Tryz.ntmps12
  go_wp2
  go_ret
  exact ⟨⟨_, rfl⟩, below_two w _ _⟩
set_option maxRecDepth 100000 in
set_option maxHeartbeats 4000000 in
theorem allowed_calls (w : World) : Calls Tryz.prog 9 #[.agg #[.int .i64 0, .int .i64 0, .slice none 0 0], .slice none 0 0, .slice none 0 0] w fun e w' => e = .returned (.bool true) ∧ Below w.heap.size w w' := by
  have HN := Aside0.mk (fun w => mnew_calls w)
  have HB := Aside0.mk ((Below.refl w.heap.size w).alloc (Nat.le_refl _) (.cells #[.int .i64 0, .int .i64 0, .slice none 0 0] 36))
  have HG : Aside0 ((w.alloc (.cells #[.int .i64 0, .int .i64 0, .slice none 0 0] 36)).cell? ⟨w.heap.size, 2, none⟩ = some (.slice none 0 0)) := ⟨by
    have h := heap_alloc_new w (.cells #[.int .i64 0, .int .i64 0, .slice none 0 0] 36)
    unfold World.cell?
    rw [h]
    rfl⟩
  go_enter Tryz.func9, Tryz.ntmps9
  go_wp2_with (first
    | (go_at_call 12; refine (HN.out _).mono ?_; rintro e w3 ⟨⟨v, rfl⟩, hb⟩; have HC3 := Aside0.mk (HB.out.trans (hb.mono HB.out.size)); have g2 := pw_cell_below hb HG.out; clear hb))
  refine wp_loop_rounds 1 ?_
  rw [rounds_succ]
  go_wp2
  go_ret
  exact ⟨rfl, HC3.out⟩
def it1 : Itm := ⟨1, 1, 0, 0, 0, .empty, ⟨0, by decide⟩, false⟩
theorem it1_C (w : World) (B : Nat) (h : w.heap[B]? = some (.cells #[.int .u64 1, .int .u64 1, .int .i64 0, .int .u64 0, .int .u64 0, .string ⟨#[]⟩, .float .f64 0, .bool false] 32 (0, 0))) : kI.C w (some ⟨B, 0, none⟩) [it1].length [it1] := by
  have hR : Kd.R kI 32 w 0 (fun _ => True) (.slice (some ⟨B, 0, none⟩) 1 1) [it1] :=
    ⟨fun _ _ => trivial, itC it1, ⟨rfl, .inr ⟨B, 1, _, rfl, Nat.zero_le _, h, Nat.le_refl _, by decide, rfl, rfl⟩⟩, (Reps.none _ _).snoc (show kI.M w 0 (fun _ => True) it1 (itC it1) from rfl) rfl⟩
  exact (Kd.R_reads' hR).2.2
set_option maxRecDepth 100000 in
set_option maxHeartbeats 4000000 in
theorem awake_calls (w : World) : Calls Tryz.prog 4 #[] w fun e w' => e = .returned (.bool true) ∧ Below w.heap.size w w' := by
  obtain ⟨W0, hW0⟩ : ∃ W0, w.alloc (.cells #[.int .u64 1, .int .u64 1, .int .i64 0, .int .u64 0, .int .u64 0, .string ⟨#[]⟩, .float .f64 0, .bool false] 32) = W0 := ⟨_, rfl⟩
  have h0 := heap_alloc_new w (.cells #[.int .u64 1, .int .u64 1, .int .i64 0, .int .u64 0, .int .u64 0, .string ⟨#[]⟩, .float .f64 0, .bool false] 32)
  have hb0 := (Below.refl w.heap.size w).alloc (Nat.le_refl _) (.cells #[.int .u64 1, .int .u64 1, .int .i64 0, .int .u64 0, .int .u64 0, .string ⟨#[]⟩, .float .f64 0, .bool false] 32)
  rw [hW0] at h0 hb0
  have hC := it1_C W0 _ h0
  have hok : ∀ x ∈ [it1], itmOk x := by
    intro x hx
    rw [List.mem_singleton.1 hx]
    exact ⟨by decide, by decide, by decide⟩
  have HP1 := Aside0.mk (pend_calls W0 _ _ 1 1 [it1] [it1] hC hC (by decide) (by decide) hok hok)
  have HP2 := Aside0.mk (fun (W : World) (hb : Below W0.heap.size W0 W) => pend_calls W _ none 1 0 [it1] [] (Kd.C_below hC hb) (Kd.C_nil _ _) (by decide) (by decide) hok (by simp))
  have e1 : pendP [it1] [it1] = [] := by decide
  have e2 : pendP [it1] [] = [it1] := rfl
  rw [e1] at HP1
  rw [e2] at HP2
  have HA := Aside0.mk (fun w => allowed_calls w)
  have HW0 := Aside0.mk hW0
  have HB0 := Aside0.mk hb0
  clear hW0 h0 hb0 hC hok e1 e2
  go_enter Tryz.func4, Tryz.ntmps4
  go_wp2_with (first
    | (go_at_call 7; rw [HW0.out]; refine (HP1.out).mono ?_; rintro e w2 ⟨A, n, c, rfl, hr, hb⟩; obtain ⟨hn, _, _⟩ := Kd.R_reads' hr; obtain rfl : n = 0 := hn; have HB2 := Aside0.mk hb; clear hb hr HP1)
    | (go_at_call 7; refine (HP2.out _ HB2.out).mono ?_; rintro e w3 ⟨A3, n3, c3, rfl, hr, hb⟩; obtain ⟨hn, _, _⟩ := Kd.R_reads' hr; obtain rfl : n3 = 1 := hn; have HB3 := Aside0.mk (HB2.out.trans (hb.mono HB2.out.size)); clear hb hr HP2)
    | (go_at_call 9; refine (HA.out _).mono ?_; rintro e w4 ⟨rfl, hb⟩; have HB4 := Aside0.mk (HB3.out.trans (hb.mono HB3.out.size)); clear hb))
  go_ret
  exact ⟨rfl, HB0.out.trans (HB4.out.mono HB0.out.size)⟩
end Go.Proofs.YtmjnndcadndiaaaGreat
