/- Parts of one proof, joined: Rkh, Rki, Rkj. Conditions: those of each statement. -/
import Derived.Test.YtdjjlmphifgnnaaCb11
namespace Go.Proofs.Ytdjjlmphifgnnaa
open Go.RowKit Go.Sort Go.Proofs.YtdjjlmphifgnnaaW.PrintWords Go.Proofs.YtdjjlmphifgnnaaW.PrintLast Go.Proofs.YtdjjlmphifgnnaaW.PrintMore
open Flt (nanP canP keyP midP)
set_option linter.unusedVariables false
set_option linter.unusedSimpArgs false
def textsP (l : List ByteArray) : Bool := l.all (fun t => decide (t.size ≤ 100)) && decide (l.length ≤ 8)
set_option maxRecDepth 100000 in
set_option maxHeartbeats 2000000 in
theorem texts_calls (w : World) (A : Option Addr) (c : Nat) (l : List ByteArray) (hC : Kd.string.C w A l.length l) :
    Calls Try.prog 12 #[.slice A l.length c] w fun e w' => e = .returned (.bool (textsP l)) ∧ Below w.heap.size w w' := by
  have HC := Aside0.mk hC
  have hxn : (l.length : Int) ≤ 9223372036854775807 := by have := hC.2.1; omega
  clear hC
  go_enter Try.func12, Try.ntmps12
  go_wp2
  go_loopg [4, 7] l.length (fun kq v4 v7 w' => ∃ (i : Nat), v7 = .int .i64 (i : Int) ∧ Aside0 (i + kq = l.length) ∧ Aside0 ((l.take i).all (fun t => decide (t.size ≤ 100)) = true) ∧ Aside0 (Below w.heap.size w w'))
  case atStart => exact ⟨0, rfl, ⟨by omega⟩, ⟨by rw [List.take_zero]; rfl⟩, ⟨Below.refl _ _⟩⟩
  case round =>
    obtain ⟨i, rfl, HI, HP, HB⟩ := hrel
    by_cases hi : i < l.length
    · have hi0 := HI.out
      obtain ⟨t, ht⟩ : ∃ t, l[i]? = some t := ⟨l[i]'hi, List.getElem?_eq_getElem _⟩
      obtain ⟨ad, e, y0⟩ := strs_get HC.out ht
      replace y0 := pw_cell_below HB.out y0
      have hiz : (i : Int) < (l.length : Int) := by omega
      obtain ⟨gq, rfl⟩ : ∃ gq, gk = gq + 1 := ⟨gk - 1, by omega⟩
      subst e
      by_cases hq : t.size ≤ 100
      · have HE := Aside0.mk (all_step HP.out ht (decide_eq_true hq))
        have c1 : ¬ ((100 : Int) < (t.size : Int)) := by omega
        clear hq ht
        go_wp2
        go_roundg gq
        case rel => exact ⟨i + 1, by go_num, ⟨by omega⟩, HE, HB⟩
        case measure => omega
      · have HE := Aside0.mk (show textsP l = false from by unfold textsP; rw [all_bad ht (decide_eq_false hq)]; rfl)
        have c1 : (100 : Int) < (t.size : Int) := by omega
        clear hq ht
        go_wp2
        go_ret
        exact ⟨by rw [HE.out]; rfl, HB.out⟩
    · have hi0 := HI.out
      obtain rfl : gk = 0 := by omega
      obtain rfl : i = l.length := by omega
      clear hi0
      have hm : ¬ ((l.length : Int) < (l.length : Int)) := by omega
      have HE := Aside0.mk (show textsP l = decide (l.length ≤ 8) from by have h := HP.out; rw [List.take_length] at h; unfold textsP; rw [h]; rfl)
      go_wp2
      go_ret
      exact ⟨by rw [HE.out]; show Ending.returned (Value.bool (decide ((l.length : Int) ≤ 8))) = _; rw [show decide ((l.length : Int) ≤ 8) = decide (l.length ≤ 8) from by rw [decide_eq_decide]; omega], HB.out⟩
/-! ### the reference's Place -/
attribute [local go_sem] run_store_float
set_option maxRecDepth 100000 in
set_option maxHeartbeats 2000000 in
theorem refPlace_calls (w : World) (A : Option Addr) (c : Nat) (l : List Tsk) (id : Nat) (hC : kT.C w A l.length l) :
    Calls Try.prog 10 #[.slice A l.length c, .int .u64 (id : Int)] w fun e w' => e = .returned (.int .i64 (idxP (fun x : Tsk => x.id == id) l 0)) ∧ Below w.heap.size w w' := by
  have hxn0 : (l.length : Int) ≤ 9223372036854775807 := by have := hC.2.1; omega
  obtain ⟨xs, rfl, hX, hF⟩ := rawT_of hC
  rw [List.length_map] at *
  rw [idxP_map]
  have HQE : Aside0 (idxP (fun x : TX => (deep x).id == id) xs 0 = idxP (fun x : TX => x.id == id) xs 0) := ⟨rfl⟩
  rw [HQE.out]
  have HX := Aside0.mk hX
  clear hC hX hF
  go_enter Try.func10, Try.ntmps10
  go_wp2
  go_loopg [5, 6, 9] xs.length (fun kq v5 v6 v9 w' => ∃ (i : Nat), v9 = .int .i64 (i : Int) ∧ Aside0 (i + kq = xs.length) ∧ Aside0 (idxP (fun x : TX => x.id == id) (xs.drop i) i = idxP (fun x : TX => x.id == id) xs 0) ∧ Aside0 (Below w.heap.size w w'))
  case atStart => exact ⟨0, rfl, ⟨by omega⟩, ⟨rfl⟩, ⟨Below.refl _ _⟩⟩
  case round =>
    obtain ⟨i, rfl, HI, HP, HB⟩ := hrel
    by_cases hi : i < xs.length
    · have hi0 := HI.out
      obtain ⟨x, hx⟩ : ∃ x, xs[i]? = some x := ⟨xs[i]'hi, List.getElem?_eq_getElem _⟩
      obtain ⟨ad, e, y0, y1, y2, y3, y4, y5, y6⟩ := rawT_get HX.out hx
      subst e
      have HST := fun h => Aside0.mk ((idxP_step (fun x : TX => x.id == id) hx h).symm.trans HP.out)
      have HFO := fun h => Aside0.mk ((idxP_found (fun x : TX => x.id == id) hx h).symm.trans HP.out)
      obtain ⟨xi, li, ti, dn, rk, es, ⟨⟨At, nt, ct⟩, tg⟩⟩ := x
      simp only [Sl.v] at y0 y1 y2 y3 y4 y5 y6
      replace y0 := pw_cell_below HB.out y0
      replace y1 := pw_cell_below HB.out y1
      replace y2 := pw_cell_below HB.out y2
      replace y3 := pw_cell_below HB.out y3
      replace y4 := pw_cell_below HB.out y4
      replace y5 := pw_cell_below HB.out y5
      replace y6 := pw_cell_below HB.out y6
      have hiz : (i : Int) < (xs.length : Int) := by omega
      have HBA := Aside0.mk (HB.out.alloc HB.out.size (.cells #[.int .u64 (xi : Int), .int .u64 (li : Int), .string ti, .bool dn, .float .f64 rk.b, .float .f64 es.b, .slice At nt ct] 34))
      obtain ⟨gq, rfl⟩ : ∃ gq, gk = gq + 1 := ⟨gk - 1, by omega⟩
      by_cases hq : xi = id
      · have HE := HFO (by simp [hq])
        have hz : ((xi : Int) == (id : Int)) = true := by simp [hq]
        subst hq
        clear HST HFO hx
        go_wp2
        go_ret
        exact ⟨by rw [← HE.out]; rfl, HBA.out⟩
      · have HE := HST (by simp [hq])
        have hz : ((xi : Int) == (id : Int)) = false := by simp; omega
        clear HST HFO hx
        go_wp2
        go_roundg gq
        case rel => exact ⟨i + 1, by go_num, ⟨by omega⟩, HE, HBA⟩
        case measure => omega
    · have hi0 := HI.out
      obtain rfl : gk = 0 := by omega
      obtain rfl : i = xs.length := by omega
      clear hi0
      have hm : ¬ ((xs.length : Int) < (xs.length : Int)) := by omega
      go_wp2
      go_ret
      exact ⟨by rw [← HP.out, idxP_end]; rfl, HB.out⟩
end Go.Proofs.Ytdjjlmphifgnnaa
namespace Go.Proofs.Ytdjjlmphifgnnaa
open Go.RowKit Go.Sort Go.Proofs.YtdjjlmphifgnnaaW.PrintWords Go.Proofs.YtdjjlmphifgnnaaW.PrintLast Go.Proofs.YtdjjlmphifgnnaaW.PrintMore
open Flt (nanP canP keyP midP)
set_option linter.unusedVariables false
set_option linter.unusedSimpArgs false
def lgtL (x : Lst) : Bool := decide (x.name.size ≤ 100)
def lgtT (x : Tsk) : Bool := decide (x.title.size ≤ 100) && textsP x.tags
def lightP (ls : List Lst) (l : List Tsk) : Bool := decide (ls.length ≤ 25) && decide (l.length ≤ 70) && ls.all lgtL && l.all lgtT
theorem lightP_mild {ls : List Lst} {l : List Tsk} (h : lightP ls l = true) : ls.length ≤ 25 ∧ l.length ≤ 70 ∧ Mild ls l := by
  unfold lightP at h
  simp only [Bool.and_eq_true, decide_eq_true_eq] at h
  obtain ⟨⟨⟨h1, h2⟩, h3⟩, h4⟩ := h
  have hn := fun x hx => of_decide_eq_true (List.all_eq_true.1 h3 x hx)
  have ht : ∀ x ∈ l, x.title.size ≤ 100 ∧ x.tags.length ≤ 8 ∧ ∀ t ∈ x.tags, t.size ≤ 100 := fun x hx => by
    have h := List.all_eq_true.1 h4 x hx
    unfold lgtT textsP at h
    simp only [Bool.and_eq_true, decide_eq_true_eq] at h
    exact ⟨h.1, h.2.2, fun t ht => of_decide_eq_true (List.all_eq_true.1 h.2.1 t ht)⟩
  exact ⟨h1, h2, ⟨by omega, by omega, fun x hx => by have := hn x hx; omega, fun x hx => by have := (ht x hx).1; omega, fun x hx => by have := (ht x hx).2.1; omega, fun x hx t h => by have := (ht x hx).2.2 t h; omega⟩⟩
attribute [local go_sem] run_store_float
set_option maxRecDepth 100000 in
set_option maxHeartbeats 8000000 in
theorem light_calls (w : World) (LA TA : Option Addr) (lc tc : Nat) (ls : List Lst) (l : List Tsk) (hL : kL.C w LA ls.length ls) (hT : kT.C w TA l.length l) :
    Calls Try.prog 5 #[.agg #[.slice LA ls.length lc, .slice TA l.length tc]] w fun e w' => e = .returned (.bool (lightP ls l)) ∧ Below w.heap.size w w' := by
  obtain ⟨xs, hxs, hX, hF⟩ := rawT_of hT
  have hxl : xs.length = l.length := by rw [← hxs, List.length_map]
  have hb := (Below.refl w.heap.size w).alloc (Nat.le_refl _) (.cells #[.slice LA ls.length lc, .slice TA l.length tc] 25)
  have hbx := box2_at (w := w) (a := .slice LA ls.length lc) (b := .slice TA l.length tc) (t := 25)
  by_cases h1 : 25 < ls.length
  · have HR := Aside0.mk (show lightP ls l = false from by unfold lightP; rw [decide_eq_false (show ¬ ls.length ≤ 25 by omega)]; rfl)
    have c1 : (25 : Int) < (ls.length : Int) := by omega
    have HB := Aside0.mk hb
    clear hL hT hxs hX hF hxl hb hbx h1
    go_enter Try.func5, Try.ntmps5
    go_wp2
    go_ret
    exact ⟨by rw [HR.out]; rfl, HB.out⟩
  · by_cases h2 : 70 < l.length
    · have HR := Aside0.mk (show lightP ls l = false from by unfold lightP; rw [decide_eq_false (show ¬ l.length ≤ 70 by omega), Bool.and_false]; rfl)
      have c1 : ¬ ((25 : Int) < (ls.length : Int)) := by omega
      have c2 : (70 : Int) < (l.length : Int) := by omega
      have HB := Aside0.mk hb
      clear hL hT hxs hX hF hxl hb hbx h1 h2
      go_enter Try.func5, Try.ntmps5
      go_wp2
      go_ret
      exact ⟨by rw [HR.out]; rfl, HB.out⟩
    · have HR := Aside0.mk (show lightP ls l = (ls.all lgtL && l.all lgtT) from by unfold lightP; rw [decide_eq_true (show ls.length ≤ 25 by omega), decide_eq_true (show l.length ≤ 70 by omega)]; rfl)
      have c1 : ¬ ((25 : Int) < (ls.length : Int)) := by omega
      have c2 : ¬ ((70 : Int) < (l.length : Int)) := by omega
      have HL := Aside0.mk hL
      have HX := Aside0.mk hX
      have HF := Aside0.mk hF
      have HXS := Aside0.mk hxs
      have HXL := Aside0.mk hxl
      have HB0 := Aside0.mk hb
      have HBX0 := Aside0.mk hbx
      have hln : (ls.length : Int) ≤ 25 := by omega
      have htn : (l.length : Int) ≤ 70 := by omega
      obtain ⟨g0, g1⟩ := two_cells hbx
      clear hL hT hxs hX hF hxl hb hbx h1 h2
      go_enter Try.func5, Try.ntmps5
      go_wp2
      clear c1 c2 g0 g1
      go_loopg [4, 20] ls.length (fun kq v4 v20 w' => ∃ (i : Nat), v20 = .int .i64 (i : Int) ∧ Aside0 (i + kq = ls.length) ∧ Aside0 ((ls.take i).all lgtL = true) ∧ Aside0 (Below w.heap.size w w') ∧ Aside0 (w'.heap[w.heap.size]? = some (.cells #[.slice LA ls.length lc, .slice TA l.length tc] 25 (0, 0))))
      case atStart => exact ⟨0, rfl, ⟨by omega⟩, ⟨by rw [List.take_zero]; rfl⟩, HB0, HBX0⟩
      case round =>
        obtain ⟨i, rfl, HI, HP, HB, HBX⟩ := hrel
        by_cases hi : i < ls.length
        · have hi0 := HI.out
          obtain ⟨x, hx⟩ : ∃ x, ls[i]? = some x := ⟨ls[i]'hi, List.getElem?_eq_getElem _⟩
          obtain ⟨ad, e, y0, y1⟩ := kL_get HL.out hx
          have HST := fun h => Aside0.mk (all_step HP.out hx h)
          have HBD := fun h => Aside0.mk (all_bad (q := lgtL) hx h)
          subst e
          obtain ⟨xi, xn⟩ := x
          simp only at y0 y1
          replace y0 := pw_cell_below HB.out y0
          replace y1 := pw_cell_below HB.out y1
          have hiz : (i : Int) < (ls.length : Int) := by omega
          have HA := (Below.refl wr.heap.size wr).alloc (Nat.le_refl _) (.cells #[.int .u64 (xi : Int), .string xn] 43)
          have HBA := Aside0.mk (HB.out.trans (HA.mono HB.out.size))
          have HBX2 := Aside0.mk (up2 HBX.out HA)
          obtain ⟨gq, rfl⟩ : ∃ gq, gk = gq + 1 := ⟨gk - 1, by omega⟩
          by_cases hq : xn.size ≤ 100
          · have HE := HST (decide_eq_true hq)
            have c1 : ¬ ((100 : Int) < (xn.size : Int)) := by omega
            clear HST HBD hx hq HA
            go_wp2
            go_roundg gq
            case rel => exact ⟨i + 1, by go_num, ⟨by omega⟩, HE, HBA, HBX2⟩
            case measure => omega
          · have HE := HBD (decide_eq_false hq)
            have c1 : (100 : Int) < (xn.size : Int) := by omega
            clear HST HBD hx hq HA
            go_wp2
            go_ret
            exact ⟨by rw [HR.out, HE.out]; rfl, HBA.out⟩
        · have hi0 := HI.out
          obtain rfl : gk = 0 := by omega
          obtain rfl : i = ls.length := by omega
          clear hi0
          have hm : ¬ ((ls.length : Int) < (ls.length : Int)) := by omega
          have hle : ls.all lgtL = true := by have h := HP.out; rwa [List.take_length] at h
          replace HR := Aside0.mk (show lightP ls l = l.all lgtT from by rw [HR.out, hle]; rfl)
          obtain ⟨g0, g1⟩ := two_cells HBX.out
          obtain ⟨wo, rfl⟩ : ∃ wo, wo = wr := ⟨_, rfl⟩
          clear hle
          go_wp2
          clear g0 g1
          go_loopg [6, 32] l.length (fun kq v6 v32 w' => ∃ (i : Nat), v32 = .int .i64 (i : Int) ∧ Aside0 (i + kq = l.length) ∧ Aside0 ((l.take i).all lgtT = true) ∧ Aside0 (Below w.heap.size w w'))
          case atStart => exact ⟨0, rfl, ⟨by omega⟩, ⟨by rw [List.take_zero]; rfl⟩, HB⟩
          case round =>
            clear HB HBX HP HI
            obtain ⟨i, rfl, HI, HP, HB⟩ := hrel
            by_cases hi : i < l.length
            · have hi0 := HI.out
              obtain ⟨x, hx⟩ : ∃ x, xs[i]? = some x := ⟨xs[i]'(by rw [HXL.out]; exact hi), List.getElem?_eq_getElem _⟩
              have hlx : l[i]? = some (deep x) := by rw [← HXS.out, List.getElem?_map, hx]; rfl
              obtain ⟨ad, e, y0, y1, y2, y3, y4, y5, y6⟩ := rawT_get HX.out hx
              subst e
              have HFx := Aside0.mk (HF.out x (List.mem_of_getElem? hx))
              have HST := fun h => Aside0.mk (all_step HP.out hlx h)
              have HBD := fun h => Aside0.mk (all_bad (q := lgtT) hlx h)
              obtain ⟨id, li, ti, dn, rk, es, ⟨⟨At, nt, ct⟩, tg⟩⟩ := x
              have hnt : nt = tg.length := HFx.out.1
              subst hnt
              simp only [Sl.v] at y0 y1 y2 y3 y4 y5 y6
              rw [HXL.out] at HX
              replace y0 := pw_cell_below HB.out y0
              replace y1 := pw_cell_below HB.out y1
              replace y2 := pw_cell_below HB.out y2
              replace y3 := pw_cell_below HB.out y3
              replace y4 := pw_cell_below HB.out y4
              replace y5 := pw_cell_below HB.out y5
              replace y6 := pw_cell_below HB.out y6
              have hiz : (i : Int) < (l.length : Int) := by omega
              have HA := (Below.refl wr.heap.size wr).alloc (Nat.le_refl _) (.cells #[.int .u64 (id : Int), .int .u64 (li : Int), .string ti, .bool dn, .float .f64 rk.b, .float .f64 es.b, .slice At tg.length ct] 34)
              have HBA := Aside0.mk (HB.out.trans (HA.mono HB.out.size))
              have hdp : deep ⟨id, li, ti, dn, rk, es, (⟨At, tg.length, ct⟩, tg)⟩ = ⟨id, li, ti, dn, rk, es, tg⟩ := rfl
              rw [hdp] at HST HBD
              have HTX := Aside0.mk (texts_calls (wr.alloc (.cells #[.int .u64 (id : Int), .int .u64 (li : Int), .string ti, .bool dn, .float .f64 rk.b, .float .f64 es.b, .slice At tg.length ct] 34)) At ct tg (Kd.C_below HFx.out.2.2 HBA.out))
              obtain ⟨gq, rfl⟩ : ∃ gq, gk = gq + 1 := ⟨gk - 1, by omega⟩
              by_cases hq : ti.size ≤ 100
              · have c1 : ¬ ((100 : Int) < (ti.size : Int)) := by omega
                cases hq2 : textsP tg with
                | true =>
                  have HE := HST (show lgtT ⟨id, li, ti, dn, rk, es, tg⟩ = true from by unfold lgtT; rw [decide_eq_true hq, hq2]; rfl)
                  rw [hq2] at HTX
                  clear HST HBD hx hlx hq hq2 hdp HA
                  go_wp2_with (first
                    | (go_at_call 12; refine HTX.out.mono ?_; rintro e w3 ⟨rfl, hb⟩; have HB3 := Aside0.mk (HBA.out.trans (hb.mono HBA.out.size)); clear hb))
                  go_roundg gq
                  case rel => exact ⟨i + 1, by go_num, ⟨by omega⟩, HE, HB3⟩
                  case measure => omega
                | false =>
                  have HE := HBD (show lgtT ⟨id, li, ti, dn, rk, es, tg⟩ = false from by unfold lgtT; rw [hq2, Bool.and_false])
                  rw [hq2] at HTX
                  clear HST HBD hx hlx hq hq2 hdp HA
                  go_wp2_with (first
                    | (go_at_call 12; refine HTX.out.mono ?_; rintro e w3 ⟨rfl, hb⟩; have HB3 := Aside0.mk (HBA.out.trans (hb.mono HBA.out.size)); clear hb))
                  go_ret
                  exact ⟨by rw [HR.out, HE.out]; rfl, HB3.out⟩
              · have HE := HBD (show lgtT ⟨id, li, ti, dn, rk, es, tg⟩ = false from by unfold lgtT; rw [decide_eq_false hq]; rfl)
                have c1 : (100 : Int) < (ti.size : Int) := by omega
                clear HST HBD hx hlx hq hdp HTX HA
                go_wp2
                go_ret
                exact ⟨by rw [HR.out, HE.out]; rfl, HBA.out⟩
            · have hi0 := HI.out
              obtain rfl : gk = 0 := by omega
              obtain rfl : i = l.length := by omega
              clear hi0
              have hm2 : ¬ ((l.length : Int) < (l.length : Int)) := by omega
              have HE := Aside0.mk (show l.all lgtT = true from by have h := HP.out; rwa [List.take_length] at h)
              go_wp2
              go_ret
              exact ⟨by rw [HR.out, HE.out]; rfl, HB.out⟩
end Go.Proofs.Ytdjjlmphifgnnaa
namespace Go.Proofs.Ytdjjlmphifgnnaa
open Go.RowKit Go.Sort Go.Proofs.YtdjjlmphifgnnaaW.PrintWords Go.Proofs.YtdjjlmphifgnnaaW.PrintLast Go.Proofs.YtdjjlmphifgnnaaW.PrintMore
open Flt (nanP canP keyP midP)
set_option linter.unusedVariables false
set_option linter.unusedSimpArgs false
attribute [local go_sem] run_store_float
/-- what is found of tasks by an Id -/
def FindQ (w : World) (l : List Tsk) (id : Nat) (e : Ending) (w' : World) : Prop := ∃ (xi li : Nat) (ti : ByteArray) (dn : Bool) (rk es : W64) (At : Option Addr) (ct : Nat) (tg : List ByteArray) (b : Bool),
  e = .returned (.tuple #[.agg #[.int .u64 (xi : Int), .int .u64 (li : Int), .string ti, .bool dn, .float .f64 rk.b, .float .f64 es.b, .slice At tg.length ct], .bool b]) ∧ Below w.heap.size w w' ∧
  (b = true → l.find? (fun x => x.id == id) = some ⟨xi, li, ti, dn, rk, es, tg⟩ ∧ tg.length ≤ ct ∧ Kd.string.C w' At tg.length tg) ∧ (b = false → l.find? (fun x => x.id == id) = none)
theorem find_step {l : List Tsk} {id i : Nat} {x : Tsk} (hx : l[i]? = some x) (hq : (x.id == id) = false) : (l.drop i).find? (fun x => x.id == id) = (l.drop (i + 1)).find? (fun x => x.id == id) := by
  rw [List.drop_eq_getElem_cons (List.getElem?_eq_some_iff.1 hx).1, (List.getElem?_eq_some_iff.1 hx).2]
  exact List.find?_cons_of_neg (by rw [hq]; decide)
theorem find_found {l : List Tsk} {id i : Nat} {x : Tsk} (hx : l[i]? = some x) (hq : (x.id == id) = true) : (l.drop i).find? (fun x => x.id == id) = some x := by
  rw [List.drop_eq_getElem_cons (List.getElem?_eq_some_iff.1 hx).1, (List.getElem?_eq_some_iff.1 hx).2]
  exact List.find?_cons_of_pos hq
theorem cap_of {α : Type} {d : Kd α} {e : Nat} {w : World} {base : Nat} {ok : Nat → Prop} {A : Option Addr} {n c : Nat} {xs : List α} (h : Kd.R d e w base ok (.slice A n c) xs) : n ≤ c := by
  obtain ⟨_, inner, ho, _⟩ := h
  rcases ho.2 with ⟨he, _⟩ | ⟨g, cap, cur, he, _, _, hl, _⟩
  · injection he with _ h1 h2
    omega
  · injection he with _ h1 h2
    omega
theorem below7 {w w1 : World} {B : Nat} (h : Below w.heap.size w w1) (hB : w.heap.size ≤ B) (a b c d e f g : Value) : Below w.heap.size w (((((((w1.setCell ⟨B, 0, none⟩ a).setCell ⟨B, 1, none⟩ b).setCell ⟨B, 2, none⟩ c).setCell ⟨B, 3, none⟩ d).setCell ⟨B, 4, none⟩ e).setCell ⟨B, 5, none⟩ f).setCell ⟨B, 6, none⟩ g) :=
  ((((((h.trans (below_setCell _ _ _ hB)).trans (below_setCell _ _ _ hB)).trans (below_setCell _ _ _ hB)).trans (below_setCell _ _ _ hB)).trans (below_setCell _ _ _ hB)).trans (below_setCell _ _ _ hB)).trans (below_setCell _ _ _ hB)
set_option maxRecDepth 100000 in
set_option maxHeartbeats 4000000 in
theorem refTask_calls (w : World) (LA TA : Option Addr) (ln lc tc : Nat) (l : List Tsk) (id : Nat) (hT : kT.C w TA l.length l) :
    Calls Try.prog 7 #[.agg #[.slice LA ln lc, .slice TA l.length tc], .int .u64 (id : Int)] w (FindQ w l id) := by
  have hxn : (l.length : Int) ≤ 9223372036854775807 := by have := hT.2.1; omega
  obtain ⟨xs, hxs, hX, hF⟩ := rawT_of hT
  have hxl : xs.length = l.length := by rw [← hxs, List.length_map]
  have HX := Aside0.mk hX
  have HF := Aside0.mk hF
  have HXS := Aside0.mk hxs
  have HXL := Aside0.mk hxl
  have hb : Below w.heap.size w ((w.alloc (.cells #[.slice LA ln lc, .slice TA l.length tc] 25)).alloc (.cells #[.int .u64 0, .int .u64 0, .string ⟨#[]⟩, .bool false, .float .f64 0, .float .f64 0, .slice none 0 0] 34)) := ((Below.refl w.heap.size w).alloc (Nat.le_refl _) _).alloc (by rw [World.alloc]; simp) _
  have hz : Box7 ((w.alloc (.cells #[.slice LA ln lc, .slice TA l.length tc] 25)).alloc (.cells #[.int .u64 0, .int .u64 0, .string ⟨#[]⟩, .bool false, .float .f64 0, .float .f64 0, .slice none 0 0] 34)) (w.heap.size + 1) 34 (.int .u64 0) (.int .u64 0) (.string ⟨#[]⟩) (.bool false) (.float .f64 0) (.float .f64 0) (.slice none 0 0) := ⟨by
    have h := heap_alloc_new (w.alloc (.cells #[.slice LA ln lc, .slice TA l.length tc] 25)) (.cells #[.int .u64 0, .int .u64 0, .string ⟨#[]⟩, .bool false, .float .f64 0, .float .f64 0, .slice none 0 0] 34)
    rwa [show (w.alloc (.cells #[.slice LA ln lc, .slice TA l.length tc] 25)).heap.size = w.heap.size + 1 from Array.size_push _] at h⟩
  have HB0 := Aside0.mk hb
  have HZ0 := Aside0.mk hz
  clear hT hX hF hxs hxl hb hz
  go_enter Try.func7, Try.ntmps7
  go_wp2
  go_loopg [7, 11] l.length (fun kq v7 v11 w' => ∃ (i : Nat), v11 = .int .i64 (i : Int) ∧ Aside0 (i + kq = l.length) ∧ Aside0 ((l.drop i).find? (fun x => x.id == id) = l.find? (fun x => x.id == id)) ∧ Aside0 (Below w.heap.size w w') ∧ Aside0 (Box7 w' (w.heap.size + 1) 34 (.int .u64 0) (.int .u64 0) (.string ⟨#[]⟩) (.bool false) (.float .f64 0) (.float .f64 0) (.slice none 0 0)))
  case atStart => exact ⟨0, rfl, ⟨by omega⟩, ⟨rfl⟩, HB0, HZ0⟩
  case round =>
    obtain ⟨i, rfl, HI, HP, HB, HZ⟩ := hrel
    by_cases hi : i < l.length
    · have hi0 := HI.out
      obtain ⟨x, hx⟩ : ∃ x, xs[i]? = some x := ⟨xs[i]'(by rw [HXL.out]; exact hi), List.getElem?_eq_getElem _⟩
      have hlx : l[i]? = some (deep x) := by rw [← HXS.out, List.getElem?_map, hx]; rfl
      obtain ⟨ad, e, y0, y1, y2, y3, y4, y5, y6⟩ := rawT_get HX.out hx
      subst e
      have HFx := Aside0.mk (HF.out x (List.mem_of_getElem? hx))
      have HST := fun h => Aside0.mk ((find_step (id := id) hlx h).symm.trans HP.out)
      have HFO := fun h => Aside0.mk ((find_found (id := id) hlx h).symm.trans HP.out)
      obtain ⟨xi, li, ti, dn, rk, es, ⟨⟨At, nt, ct⟩, tg⟩⟩ := x
      have hnt : nt = tg.length := HFx.out.1
      subst hnt
      simp only [Sl.v] at y0 y1 y2 y3 y4 y5 y6
      rw [HXL.out] at HX
      replace y0 := pw_cell_below HB.out y0
      replace y1 := pw_cell_below HB.out y1
      replace y2 := pw_cell_below HB.out y2
      replace y3 := pw_cell_below HB.out y3
      replace y4 := pw_cell_below HB.out y4
      replace y5 := pw_cell_below HB.out y5
      replace y6 := pw_cell_below HB.out y6
      have hiz : (i : Int) < (l.length : Int) := by omega
      have HA := Aside0.mk ((Below.refl wr.heap.size wr).alloc (Nat.le_refl _) (.cells #[.int .u64 (xi : Int), .int .u64 (li : Int), .string ti, .bool dn, .float .f64 rk.b, .float .f64 es.b, .slice At tg.length ct] 34))
      have HBA := Aside0.mk (HB.out.trans (HA.out.mono HB.out.size))
      have HZ2 := Aside0.mk (HZ.out.up HA.out)
      have HXB := Aside0.mk (Box7.mk (heap_alloc_new wr (.cells #[.int .u64 (xi : Int), .int .u64 (li : Int), .string ti, .bool dn, .float .f64 rk.b, .float .f64 es.b, .slice At tg.length ct] 34)))
      have hdp : deep ⟨xi, li, ti, dn, rk, es, (⟨At, tg.length, ct⟩, tg)⟩ = ⟨xi, li, ti, dn, rk, es, tg⟩ := rfl
      rw [hdp] at HST HFO
      obtain ⟨gq, rfl⟩ : ∃ gq, gk = gq + 1 := ⟨gk - 1, by omega⟩
      by_cases hq : xi = id
      · have HE := HFO (by simp [hq])
        have hz : ((xi : Int) == (id : Int)) = true := by simp [hq]
        subst hq
        clear HST HFO hx hlx hdp
        obtain ⟨⟨t0, t1, t2, t3, t4, t5, t6⟩, tf⟩ := HZ2.out.cells
        go_wp2
        (try simp only [Exit.inBlock, Exit.then])
        refine bodyPost_ret (v := .tuple #[.agg #[.int .u64 (xi : Int), .int .u64 (li : Int), .string ti, .bool dn, .float .f64 rk.b, .float .f64 es.b, .slice At tg.length ct], .bool true]) ?_ rfl ?_
        · rw [results_cell_tmp rfl]
          go_simp
        · exact ⟨xi, li, ti, dn, rk, es, At, ct, tg, true, rfl, below7 HBA.out (by omega) _ _ _ _ _ _ _, fun _ => ⟨HE.out.symm, HFx.out.2.1, Kd.C_below HFx.out.2.2 (below7 HBA.out (by omega) _ _ _ _ _ _ _)⟩, (fun h => by cases h)⟩
      · have HE := HST (by simp [hq])
        have hz : ((xi : Int) == (id : Int)) = false := by simp; omega
        clear HST HFO hx hlx hdp
        go_wp2
        go_roundg gq
        case rel => exact ⟨i + 1, by go_num, ⟨by omega⟩, HE, HBA, HZ2⟩
        case measure => omega
    · have hi0 := HI.out
      obtain rfl : gk = 0 := by omega
      obtain rfl : i = l.length := by omega
      clear hi0
      have hm : ¬ ((l.length : Int) < (l.length : Int)) := by omega
      have HE := Aside0.mk (show l.find? (fun x => x.id == id) = none from by rw [← HP.out, List.drop_length]; rfl)
      obtain ⟨⟨t0, t1, t2, t3, t4, t5, t6⟩, tf⟩ := HZ.out.cells
      go_wp2
      (try simp only [Exit.inBlock, Exit.then])
      refine bodyPost_ret (v := .tuple #[.agg #[.int .u64 0, .int .u64 0, .string ⟨#[]⟩, .bool false, .float .f64 0, .float .f64 0, .slice none 0 0], .bool false]) ?_ rfl ?_
      · rw [results_cell_tmp rfl]
        go_simp
      · exact ⟨0, 0, ⟨#[]⟩, false, ⟨0, by decide⟩, ⟨0, by decide⟩, none, 0, [], false, rfl, below7 HB.out (by omega) _ _ _ _ _ _ _, (fun h => by cases h), fun _ => HE.out⟩
set_option maxRecDepth 100000 in
set_option maxHeartbeats 4000000 in
theorem find_calls (w : World) (LA TA : Option Addr) (ln lc tc : Nat) (l : List Tsk) (id : Nat) (hT : kT.C w TA l.length l) (htag : ∀ x ∈ l, x.tags.length ≤ 1000) :
    Calls Try.prog 25 #[.agg #[.slice LA ln lc, .slice TA l.length tc], .int .u64 (id : Int)] w (FindQ w l id) := by
  have hxn : (l.length : Int) ≤ 9223372036854775807 := by have := hT.2.1; omega
  obtain ⟨xs, hxs, hX, hF⟩ := rawT_of hT
  have hxl : xs.length = l.length := by rw [← hxs, List.length_map]
  have HX := Aside0.mk hX
  have HF := Aside0.mk hF
  have HXS := Aside0.mk hxs
  have HXL := Aside0.mk hxl
  have hb : Below w.heap.size w ((w.alloc (.cells #[.slice LA ln lc, .slice TA l.length tc] 25)).alloc (.cells #[.int .u64 0, .int .u64 0, .string ⟨#[]⟩, .bool false, .float .f64 0, .float .f64 0, .slice none 0 0] 34)) := ((Below.refl w.heap.size w).alloc (Nat.le_refl _) _).alloc (by rw [World.alloc]; simp) _
  have hz : Box7 ((w.alloc (.cells #[.slice LA ln lc, .slice TA l.length tc] 25)).alloc (.cells #[.int .u64 0, .int .u64 0, .string ⟨#[]⟩, .bool false, .float .f64 0, .float .f64 0, .slice none 0 0] 34)) (w.heap.size + 1) 34 (.int .u64 0) (.int .u64 0) (.string ⟨#[]⟩) (.bool false) (.float .f64 0) (.float .f64 0) (.slice none 0 0) := ⟨by
    have h := heap_alloc_new (w.alloc (.cells #[.slice LA ln lc, .slice TA l.length tc] 25)) (.cells #[.int .u64 0, .int .u64 0, .string ⟨#[]⟩, .bool false, .float .f64 0, .float .f64 0, .slice none 0 0] 34)
    rwa [show (w.alloc (.cells #[.slice LA ln lc, .slice TA l.length tc] 25)).heap.size = w.heap.size + 1 from Array.size_push _] at h⟩
  have HB0 := Aside0.mk hb
  have HZ0 := Aside0.mk hz
  have HTG := Aside0.mk htag
  clear htag
  clear hT hX hF hxs hxl hb hz
  go_enter Try.func25, Try.ntmps25
  go_wp2
  go_loopg [7, 11] l.length (fun kq v7 v11 w' => ∃ (i : Nat), v11 = .int .i64 (i : Int) ∧ Aside0 (i + kq = l.length) ∧ Aside0 ((l.drop i).find? (fun x => x.id == id) = l.find? (fun x => x.id == id)) ∧ Aside0 (Below w.heap.size w w') ∧ Aside0 (Box7 w' (w.heap.size + 1) 34 (.int .u64 0) (.int .u64 0) (.string ⟨#[]⟩) (.bool false) (.float .f64 0) (.float .f64 0) (.slice none 0 0)))
  case atStart => exact ⟨0, rfl, ⟨by omega⟩, ⟨rfl⟩, HB0, HZ0⟩
  case round =>
    obtain ⟨i, rfl, HI, HP, HB, HZ⟩ := hrel
    by_cases hi : i < l.length
    · have hi0 := HI.out
      obtain ⟨x, hx⟩ : ∃ x, xs[i]? = some x := ⟨xs[i]'(by rw [HXL.out]; exact hi), List.getElem?_eq_getElem _⟩
      have hlx : l[i]? = some (deep x) := by rw [← HXS.out, List.getElem?_map, hx]; rfl
      obtain ⟨ad, e, y0, y1, y2, y3, y4, y5, y6⟩ := rawT_get HX.out hx
      subst e
      have HFx := Aside0.mk (HF.out x (List.mem_of_getElem? hx))
      have HTXN := Aside0.mk (HTG.out (deep x) (List.mem_of_getElem? hlx))
      have HST := fun h => Aside0.mk ((find_step (id := id) hlx h).symm.trans HP.out)
      have HFO := fun h => Aside0.mk ((find_found (id := id) hlx h).symm.trans HP.out)
      obtain ⟨xi, li, ti, dn, rk, es, ⟨⟨At, nt, ct⟩, tg⟩⟩ := x
      have hnt : nt = tg.length := HFx.out.1
      subst hnt
      simp only [Sl.v] at y0 y1 y2 y3 y4 y5 y6
      rw [HXL.out] at HX
      replace y0 := pw_cell_below HB.out y0
      replace y1 := pw_cell_below HB.out y1
      replace y2 := pw_cell_below HB.out y2
      replace y3 := pw_cell_below HB.out y3
      replace y4 := pw_cell_below HB.out y4
      replace y5 := pw_cell_below HB.out y5
      replace y6 := pw_cell_below HB.out y6
      have hiz : (i : Int) < (l.length : Int) := by omega
      have HA := Aside0.mk ((Below.refl wr.heap.size wr).alloc (Nat.le_refl _) (.cells #[.int .u64 (xi : Int), .int .u64 (li : Int), .string ti, .bool dn, .float .f64 rk.b, .float .f64 es.b, .slice At tg.length ct] 34))
      have HBA := Aside0.mk (HB.out.trans (HA.out.mono HB.out.size))
      have HZ2 := Aside0.mk (HZ.out.up HA.out)
      have HXB := Aside0.mk (Box7.mk (heap_alloc_new wr (.cells #[.int .u64 (xi : Int), .int .u64 (li : Int), .string ti, .bool dn, .float .f64 rk.b, .float .f64 es.b, .slice At tg.length ct] 34)))
      have hdp : deep ⟨xi, li, ti, dn, rk, es, (⟨At, tg.length, ct⟩, tg)⟩ = ⟨xi, li, ti, dn, rk, es, tg⟩ := rfl
      rw [hdp] at HST HFO HTXN
      obtain ⟨gq, rfl⟩ : ∃ gq, gk = gq + 1 := ⟨gk - 1, by omega⟩
      by_cases hq : xi = id
      · have HE := HFO (by simp [hq])
        have hz : ((xi : Int) == (id : Int)) = true := by simp [hq]
        subst hq
        clear HST HFO hx hlx hdp
        have hsz := (Array.getElem?_eq_some_iff.1 HZ.out.at_).1
        have hne : ¬ (w.heap.size + 1 = wr.heap.size) := by omega
        have hne2 : ¬ (wr.heap.size = w.heap.size + 1) := by omega
        have HWS := Aside0.mk (show (wr.alloc (.cells #[.int .u64 (xi : Int), .int .u64 (li : Int), .string ti, .bool dn, .float .f64 rk.b, .float .f64 es.b, .slice At tg.length ct] 34)).heap.size = wr.heap.size + 1 from Array.size_push _)
        have HCL := Aside0.mk (cloneS_any (wr.alloc (.cells #[.int .u64 (xi : Int), .int .u64 (li : Int), .string ti, .bool dn, .float .f64 rk.b, .float .f64 es.b, .slice At tg.length ct] 34)) At ct tg (by have h : tg.length ≤ 1000 := HTXN.out; omega) (Kd.C_below HFx.out.2.2 HBA.out))
        clear hsz
        go_wp2_with (first
          | (go_at_call 19; refine HCL.out.mono ?_; rintro e w2 ⟨A2, c2, rfl, hr, hb⟩; have HR2 := Aside0.mk hr; have HB2 := Aside0.mk (HBA.out.trans (hb.mono HBA.out.size)); obtain ⟨⟨n0, n1, n2, n3, n4, n5, n6⟩, nf⟩ := (HXB.out.up hb).cells; obtain ⟨⟨t0, t1, t2, t3, t4, t5, t6⟩, tf⟩ := (HZ2.out.up hb).cells; clear hr hb))
        (try simp only [Exit.inBlock, Exit.then])
        refine bodyPost_ret (v := .tuple #[.agg #[.int .u64 (xi : Int), .int .u64 (li : Int), .string ti, .bool dn, .float .f64 rk.b, .float .f64 es.b, .slice A2 tg.length c2], .bool true]) ?_ rfl ?_
        · rw [results_cell_tmp rfl]
          go_simp
        · have hle : w.heap.size ≤ wr.heap.size := HB.out.size
          have hlt := (Array.getElem?_eq_some_iff.1 HZ.out.at_).1
          have hR := Kd.R_move HR2.out (w1 := (((((((w2.setCell ⟨wr.heap.size, 6, none⟩ (.slice A2 tg.length c2)).setCell ⟨w.heap.size + 1, 0, none⟩ (.int .u64 (xi : Int))).setCell ⟨w.heap.size + 1, 1, none⟩ (.int .u64 (li : Int))).setCell ⟨w.heap.size + 1, 2, none⟩ (.string ti)).setCell ⟨w.heap.size + 1, 3, none⟩ (.bool dn)).setCell ⟨w.heap.size + 1, 4, none⟩ (.float .f64 rk.b)).setCell ⟨w.heap.size + 1, 5, none⟩ (.float .f64 es.b)).setCell ⟨w.heap.size + 1, 6, none⟩ (.slice A2 tg.length c2)) fun k hk => by
            have hk : (wr.alloc (.cells #[.int .u64 (xi : Int), .int .u64 (li : Int), .string ti, .bool dn, .float .f64 rk.b, .float .f64 es.b, .slice At tg.length ct] 34)).heap.size ≤ k := hk
            rw [HWS.out] at hk
            rw [heap_setCell_ne _ _ _ _ (by omega), heap_setCell_ne _ _ _ _ (by omega), heap_setCell_ne _ _ _ _ (by omega), heap_setCell_ne _ _ _ _ (by omega), heap_setCell_ne _ _ _ _ (by omega), heap_setCell_ne _ _ _ _ (by omega), heap_setCell_ne _ _ _ _ (by omega), heap_setCell_ne _ _ _ _ (by omega)]
          have hc := Kd.R_reads' hR
          exact ⟨xi, li, ti, dn, rk, es, A2, c2, tg, true, rfl, below7 (HB2.out.trans (below_setCell _ _ _ (by omega))) (by omega) _ _ _ _ _ _ _, fun _ => ⟨HE.out.symm, cap_of hR, hc.2.2⟩, (fun h => by cases h)⟩
      · have HE := HST (by simp [hq])
        have hz : ((xi : Int) == (id : Int)) = false := by simp; omega
        clear HST HFO hx hlx hdp
        go_wp2
        go_roundg gq
        case rel => exact ⟨i + 1, by go_num, ⟨by omega⟩, HE, HBA, HZ2⟩
        case measure => omega
    · have hi0 := HI.out
      obtain rfl : gk = 0 := by omega
      obtain rfl : i = l.length := by omega
      clear hi0
      have hm : ¬ ((l.length : Int) < (l.length : Int)) := by omega
      have HE := Aside0.mk (show l.find? (fun x => x.id == id) = none from by rw [← HP.out, List.drop_length]; rfl)
      obtain ⟨⟨t0, t1, t2, t3, t4, t5, t6⟩, tf⟩ := HZ.out.cells
      go_wp2
      (try simp only [Exit.inBlock, Exit.then])
      refine bodyPost_ret (v := .tuple #[.agg #[.int .u64 0, .int .u64 0, .string ⟨#[]⟩, .bool false, .float .f64 0, .float .f64 0, .slice none 0 0], .bool false]) ?_ rfl ?_
      · rw [results_cell_tmp rfl]
        go_simp
      · exact ⟨0, 0, ⟨#[]⟩, false, ⟨0, by decide⟩, ⟨0, by decide⟩, none, 0, [], false, rfl, below7 HB.out (by omega) _ _ _ _ _ _ _, (fun h => by cases h), fun _ => HE.out⟩
end Go.Proofs.Ytdjjlmphifgnnaa
