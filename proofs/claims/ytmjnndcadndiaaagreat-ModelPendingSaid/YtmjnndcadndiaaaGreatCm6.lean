/- Parts of one proof, joined: Itc, Flp. Conditions: those of each statement. -/
import Derived.Test.YtmjnndcadndiaaaGreatCm5
import Derived.WalkKit
namespace Go.Proofs.YtmjnndcadndiaaaGreat
open Go.RowKit Go.Proofs.YtmjnndcadndiaaaGreatW.PrintWords Go.Proofs.YtmjnndcadndiaaaGreatW.PrintLast Go.Proofs.YtmjnndcadndiaaaGreatW.PrintMore
set_option linter.unusedVariables false
set_option linter.unusedSimpArgs false
attribute [local go_sem] run_store_float run_makeMap
theorem any_snoc {α : Type} (L : List α) (q : α → Bool) (i : Nat) (x : α) (hx : L[i]? = some x) : (L.take (i + 1)).any q = ((L.take i).any q || q x) := by
  have htk : L.take (i + 1) = L.take i ++ [x] := by rw [List.take_add_one, hx]; rfl
  rw [htk, List.any_append]
  simp
/-- what the reference's Pending holds -/
structure RpnI (w : World) (D : List Itm) (v : Value) (W : World) : Prop where
  low : Below w.heap.size w W
  row : Kd.R kI 32 W w.heap.size (fun k => w.heap.size ≤ k) v D
theorem RpnI.up {w : World} {D : List Itm} {v : Value} {W W' : World} (h : RpnI w D v W) (hb : Below W.heap.size W W') : RpnI w D v W' :=
  ⟨h.low.trans (hb.mono h.low.size), Kd.R_below h.row hb⟩
theorem RpnI.put {w : World} {D D' : List Itm} {v v' : Value} {W W' : World} (h : RpnI w D v W) (hb : Below w.heap.size W W') (hr : Kd.R kI 32 W' w.heap.size (fun k => w.heap.size ≤ k) v' D') : RpnI w D' v' W' :=
  ⟨h.low.trans hb, hr⟩
/-- a box of eight cells -/
structure Box8 (w : World) (B t : Nat) (a0 a1 a2 a3 a4 a5 a6 a7 : Value) : Prop where
  at_ : w.heap[B]? = some (.cells #[a0, a1, a2, a3, a4, a5, a6, a7] t (0, 0))
theorem Box8.cells {w : World} {B t : Nat} {a0 a1 a2 a3 a4 a5 a6 a7 : Value} (h : Box8 w B t a0 a1 a2 a3 a4 a5 a6 a7) : (w.cell? ⟨B, 0, none⟩ = some a0 ∧ w.cell? ⟨B, 1, none⟩ = some a1 ∧ w.cell? ⟨B, 2, none⟩ = some a2 ∧ w.cell? ⟨B, 3, none⟩ = some a3 ∧ w.cell? ⟨B, 4, none⟩ = some a4 ∧ w.cell? ⟨B, 5, none⟩ = some a5 ∧ w.cell? ⟨B, 6, none⟩ = some a6 ∧ w.cell? ⟨B, 7, none⟩ = some a7) ∧ ∀ j, w.frozen? ⟨B, j, none⟩ = false := by
  refine ⟨⟨?_, ?_, ?_, ?_, ?_, ?_, ?_, ?_⟩, fun j => ?_⟩ <;> simp [World.cell?, World.frozen?, h.at_]
theorem Box8.up {w w' : World} {B t : Nat} {a0 a1 a2 a3 a4 a5 a6 a7 : Value} (h : Box8 w B t a0 a1 a2 a3 a4 a5 a6 a7) (hb : Below w.heap.size w w') : Box8 w' B t a0 a1 a2 a3 a4 a5 a6 a7 := ⟨(hb.block B (Array.getElem?_eq_some_iff.1 h.at_).1).trans h.at_⟩
set_option maxRecDepth 100000 in
set_option maxHeartbeats 8000000 in
theorem rpend_calls (w : World) (OA LA : Option Addr) (oc lc : Nat) (own log : List Itm) (hO : kI.C w OA own.length own) (hL : kI.C w LA log.length log) (hno : own.length ≤ 1000) (hnl : log.length ≤ 1000) :
    Calls Tryz.prog 8 #[.slice OA own.length oc, .slice LA log.length lc] w fun e w' => ∃ A n c, e = .returned (.slice A n c) ∧ Kd.R kI 32 w' w.heap.size (fun k => w.heap.size ≤ k) (.slice A n c) (pendP own log) ∧ Below w.heap.size w w' := by
  have HO := Aside0.mk hO
  have HL := Aside0.mk hL
  have hln : (log.length : Int) ≤ 1000 := by omega
  have hon : (own.length : Int) ≤ 1000 := by omega
  have H0 : Aside0 (RpnI w [] (.slice none 0 0) w) := ⟨⟨Below.refl _ _, Kd.R_nil _ _ _ _ _⟩⟩
  clear hO hL hno hnl
  go_enter Tryz.func8, Tryz.ntmps8
  go_wp2
  go_loopg [5, 7, 8, 10, 13] own.length (fun kq v5 v7 v8 v10 v13 w' => ∃ (i : Nat) (A : Option Addr) (n c : Nat), v13 = .int .i64 (i : Int) ∧ v5 = .slice A n c ∧ Aside0 (i + kq = own.length) ∧ Aside0 (RpnI w (pendP (own.take i) log) (.slice A n c) w'))
  case atStart => exact ⟨0, none, 0, 0, rfl, rfl, ⟨by omega⟩, by rw [List.take_zero]; exact H0⟩
  case round =>
    obtain ⟨i, A, n, c, rfl, rfl, HI, HC⟩ := hrel
    by_cases hi : i < own.length
    · have hi0 := HI.out
      obtain ⟨x, hx⟩ : ∃ x, own[i]? = some x := ⟨own[i]'hi, List.getElem?_eq_getElem _⟩
      obtain ⟨ad, e, y0, y1, y2, y3, y4, y5, y6, y7⟩ := kI_get HO.out hx
      have hsn := pendP_snoc own log i x hx
      have hdl : (pendP (own.take i) log).length ≤ 1000 := Nat.le_trans (List.length_filter_le _ _) (by rw [List.length_take]; omega)
      obtain ⟨D, hD⟩ : ∃ D, pendP (own.take i) log = D := ⟨_, rfl⟩
      rw [hD] at hsn HC hdl
      have HDL := Aside0.mk hdl
      have HSN := Aside0.mk hsn
      subst e
      obtain ⟨xi, xn, xk, xm, xl, xt, xf, xg⟩ := x
      simp only at y0 y1 y2 y3 y4 y5 y6 y7
      replace y0 := pw_cell_below HC.out.low y0
      replace y1 := pw_cell_below HC.out.low y1
      replace y2 := pw_cell_below HC.out.low y2
      replace y3 := pw_cell_below HC.out.low y3
      replace y4 := pw_cell_below HC.out.low y4
      replace y5 := pw_cell_below HC.out.low y5
      replace y6 := pw_cell_below HC.out.low y6
      replace y7 := pw_cell_below HC.out.low y7
      have hiz : (i : Int) < (own.length : Int) := by omega
      have HC1 := Aside0.mk (HC.out.up ((Below.refl wr.heap.size wr).alloc (Nat.le_refl _) (.cells #[.int .u64 (xi : Int), .int .u64 (xn : Int), .int .i64 xk, .int .u64 (xm : Int), .int .u64 (xl : Int), .string xt, .float .f64 xf.b, .bool xg] 32)))
      have HB1 := Aside0.mk (Box8.mk (heap_alloc_new wr (.cells #[.int .u64 (xi : Int), .int .u64 (xn : Int), .int .i64 xk, .int .u64 (xm : Int), .int .u64 (xl : Int), .string xt, .float .f64 xf.b, .bool xg] 32)))
      obtain ⟨gq, rfl⟩ : ∃ gq, gk = gq + 1 := ⟨gk - 1, by omega⟩
      clear hx hsn hD hdl
      go_wp2
      obtain ⟨W1, hW1⟩ : ∃ W1, wr.alloc (.cells #[.int .u64 (xi : Int), .int .u64 (xn : Int), .int .i64 xk, .int .u64 (xm : Int), .int .u64 (xl : Int), .string xt, .float .f64 xf.b, .bool xg] 32) = W1 := ⟨_, rfl⟩
      rw [hW1] at HC1 HB1 ⊢
      clear hW1 y0 y1 y2 y3 y4 y5 y6 y7
      obtain ⟨wq, rfl⟩ : ∃ wq, wq = wr := ⟨_, rfl⟩
      go_loopg [8, 10, 19] log.length (fun kq v8 v10 v19 w' => ∃ (j : Nat), v19 = .int .i64 (j : Int) ∧ v8 = .bool ((log.take j).any (nmI ⟨xi, xn, xk, xm, xl, xt, xf, xg⟩)) ∧ Aside0 (j + kq = log.length) ∧ Aside0 (RpnI w D (.slice A n c) w') ∧ Aside0 (Box8 w' wq.heap.size 32 (.int .u64 (xi : Int)) (.int .u64 (xn : Int)) (.int .i64 xk) (.int .u64 (xm : Int)) (.int .u64 (xl : Int)) (.string xt) (.float .f64 xf.b) (.bool xg)))
      case atStart => exact ⟨0, rfl, by rw [List.take_zero]; rfl, ⟨by omega⟩, HC1, HB1⟩
      case round =>
        obtain ⟨j, rfl, rfl, HJ, HC, HB⟩ := hrel
        by_cases hj : j < log.length
        · have hj0 := HJ.out
          obtain ⟨y, hy⟩ : ∃ y, log[j]? = some y := ⟨log[j]'hj, List.getElem?_eq_getElem _⟩
          obtain ⟨ae, e, y0, y1, y2, y3, y4, y5, y6, y7⟩ := kI_get HL.out hy
          have han := any_snoc log (nmI ⟨xi, xn, xk, xm, xl, xt, xf, xg⟩) j y hy
          have HAN := Aside0.mk han
          subst e
          obtain ⟨yi, yn, yk, ym, yl, yt, yf, yg⟩ := y
          simp only at y0 y1 y2 y3 y4 y5 y6 y7
          replace y0 := pw_cell_below HC.out.low y0
          replace y1 := pw_cell_below HC.out.low y1
          replace y2 := pw_cell_below HC.out.low y2
          replace y3 := pw_cell_below HC.out.low y3
          replace y4 := pw_cell_below HC.out.low y4
          replace y5 := pw_cell_below HC.out.low y5
          replace y6 := pw_cell_below HC.out.low y6
          replace y7 := pw_cell_below HC.out.low y7
          have hjz : (j : Int) < (log.length : Int) := by omega
          have hbl := (Below.refl wr.heap.size wr).alloc (Nat.le_refl _) (.cells #[.int .u64 (yi : Int), .int .u64 (yn : Int), .int .i64 yk, .int .u64 (ym : Int), .int .u64 (yl : Int), .string yt, .float .f64 yf.b, .bool yg] 32)
          have HC1 := Aside0.mk (HC.out.up hbl)
          have HB1 := Aside0.mk (HB.out.up hbl)
          obtain ⟨⟨b0, b1, b2, b3, b4, b5, b6, b7⟩, bf⟩ := HB1.out.cells
          obtain ⟨gq2, rfl⟩ : ∃ gq2, gk = gq2 + 1 := ⟨gk - 1, by omega⟩
          obtain ⟨tt, htt⟩ : ∃ tt, (log.take j).any (nmI ⟨xi, xn, xk, xm, xl, xt, xf, xg⟩) = tt := ⟨_, rfl⟩
          rw [htt] at HAN ⊢
          clear hy han hbl htt
          cases tt with
          | true =>
            go_wp2
            go_roundg gq2
            case rel => exact ⟨j + 1, by go_num, by rw [HAN.out]; rfl, ⟨by omega⟩, HC1, HB1⟩
            case measure => omega
          | false =>
            by_cases c1 : xi = yi
            · subst c1
              by_cases c2 : xn = yn
              · subst c2
                have HV := Aside0.mk (show (log.take (j + 1)).any (nmI ⟨xi, xn, xk, xm, xl, xt, xf, xg⟩) = true from by rw [HAN.out]; simp [nmI])
                go_wp2
                go_roundg gq2
                case rel => exact ⟨j + 1, by go_num, by rw [HV.out], ⟨by omega⟩, HC1, HB1⟩
                case measure => omega
              · have HV := Aside0.mk (show (log.take (j + 1)).any (nmI ⟨xi, xn, xk, xm, xl, xt, xf, xg⟩) = false from by rw [HAN.out]; simp [nmI, Ne.symm c2])
                have c3 : ((xn : Int) == (yn : Int)) = false := by rw [beq_eq_false_iff_ne]; omega
                go_wp2
                go_roundg gq2
                case rel => exact ⟨j + 1, by go_num, by rw [HV.out]; try rfl, ⟨by omega⟩, HC1, HB1⟩
                case measure => omega
            · have HV := Aside0.mk (show (log.take (j + 1)).any (nmI ⟨xi, xn, xk, xm, xl, xt, xf, xg⟩) = false from by rw [HAN.out]; simp [nmI, Ne.symm c1])
              have c3 : ((xi : Int) == (yi : Int)) = false := by rw [beq_eq_false_iff_ne]; omega
              go_wp2
              go_roundg gq2
              case rel => exact ⟨j + 1, by go_num, by rw [HV.out]; try rfl, ⟨by omega⟩, HC1, HB1⟩
              case measure => omega
        · obtain rfl : j = log.length := by have := HJ.out; omega
          have hz : ¬ (((log.length : Nat) : Int) < (log.length : Int)) := by omega
          rw [List.take_length]
          obtain ⟨⟨b0, b1, b2, b3, b4, b5, b6, b7⟩, bf⟩ := HB.out.cells
          obtain ⟨tt, htt⟩ : ∃ tt, log.any (nmI ⟨xi, xn, xk, xm, xl, xt, xf, xg⟩) = tt := ⟨_, rfl⟩
          rw [htt] at HSN ⊢
          clear htt
          cases tt with
          | true =>
            have HN := Aside0.mk (show pendP (own.take (i + 1)) log = D from HSN.out)
            go_wp2
            go_roundg gq
            case rel => exact ⟨i + 1, A, n, c, by go_num, rfl, ⟨by omega⟩, by rw [HN.out]; exact HC⟩
            case measure => omega
          | false =>
            have HN := Aside0.mk (show pendP (own.take (i + 1)) log = D ++ [⟨xi, xn, xk, xm, xl, xt, xf, xg⟩] from HSN.out)
            go_wp2_with (first
              | ((with_reducible refine gate_builtin (b := .append) (xs := #[.tmp 41, .tmp 43]) rfl ?_); at_builtin; go_loud (refine Kd.R_append kI (W := wr) (w0 := wr) w.heap.size rfl (.tmp 41) (.tmp 43) 22 32 (.agg #[.int .u64 0, .int .u64 0, .int .i64 0, .int .u64 0, .int .u64 0, .string ⟨#[]⟩, .float .f64 0, .bool false]) 72 rfl Tryz.underlying22 infoI rfl (by decide) (by decide) (.slice A n c) D ⟨xi, xn, xk, xm, xl, xt, xf, xg⟩ [.int .u64 (xi : Int), .int .u64 (xn : Int), .int .i64 xk, .int .u64 (xm : Int), .int .u64 (xl : Int), .string xt, .float .f64 xf.b, .bool xg] (fun k => w.heap.size ≤ k) (fun _ => False) rfl rfl rfl (fun _ h => h.elim) (fun k h => Nat.le_trans HC.out.low.size h) HC.out.row (Below.refl _ _) HC.out.low.size (by have := HDL.out; omega) ?_); intro v8 w4 ho hb hg hat; obtain ⟨A8, n8, c8, rfl⟩ := R_slice3 ho; have HC4 := Aside0.mk (HC.out.put hb ho); clear ho hb hg hat))
            go_roundg gq
            case rel => exact ⟨i + 1, A8, n8, c8, by go_num, rfl, ⟨by omega⟩, by rw [HN.out]; exact HC4⟩
            case measure => omega
    · obtain rfl : i = own.length := by have := HI.out; omega
      have hz : ¬ (((own.length : Nat) : Int) < (own.length : Int)) := by omega
      rw [List.take_length] at HC
      go_wp2
      go_ret
      exact ⟨A, n, c, rfl, HC.out.row, HC.out.low⟩
end Go.Proofs.YtmjnndcadndiaaaGreat
namespace Go.Proofs.YtmjnndcadndiaaaGreat.Flt
set_option linter.unusedVariables false
set_option linter.unusedSimpArgs false
def nanP (b : Nat) : Bool := decide (9218868437227405312 < b % 9223372036854775808)
def canP (b : Nat) : Nat := if nanP b then 9221120237041090561 else if b % 9223372036854775808 = 0 then 0 else b
def keyP (b : Nat) : Nat := if nanP b then 0 else if canP b < 9223372036854775808 then canP b + 9223372036854775808 else 18446744073709551615 - canP b
def placeP (b : Nat) : Nat := if 9223372036854775807 < keyP b then keyP b - 1 else keyP b
/-- the word of a key, and whether there is one -/
def ofP (k : Nat) : Nat × Bool :=
  if k = 0 then (9221120237041090561, true) else
    let b := if 9223372036854775808 ≤ k then k - 9223372036854775808 else 18446744073709551615 - k
    if nanP b ∨ b = 9223372036854775808 then (0, false) else (b, true)
def atP (p : Nat) : Nat := (ofP (if 9223372036854775807 ≤ p then p + 1 else p)).1
def stepsP (a b : Nat) : Nat := if ¬ keyP a < keyP b then 0 else if nanP a then placeP b - placeP (18442240474082181120) else placeP b - placeP a - 1
def midP (a b : Nat) : Nat × Bool := if nanP a ∨ nanP b ∨ stepsP a b = 0 then (0, false) else (atP (placeP a + 1 + stepsP a b / 2), true)
theorem key_range {b : Nat} (hb : b < 18446744073709551616) (hn : nanP b = false) : 4503599627370495 ≤ keyP b ∧ keyP b ≤ 18442240474082181120 ∧ keyP b ≠ 9223372036854775807 := by
  have h : ¬ 9218868437227405312 < b % 9223372036854775808 := by simpa [nanP] using hn
  have hc : canP b = if b % 9223372036854775808 = 0 then 0 else b := by unfold canP; rw [hn]; rfl
  unfold keyP
  rw [hn, hc]
  simp only [Bool.false_eq_true, if_false]
  split <;> split <;> omega
theorem key_lt {b : Nat} (hb : b < 18446744073709551616) : keyP b < 18446744073709551616 := by
  cases hn : nanP b with
  | false => have := key_range hb hn; omega
  | true => unfold keyP; rw [hn]; simp only [if_true]; omega
theorem key_pos {b : Nat} (hb : b < 18446744073709551616) (hn : nanP b = false) : 0 < keyP b := by have := key_range hb hn; omega
/-- a word of every key between those of the infinities but one -/
theorem key_of {k : Nat} (h0 : 4503599627370495 ≤ k) (h1 : k ≤ 18442240474082181120) (h2 : k ≠ 9223372036854775807) : (ofP k).2 = true ∧ keyP (ofP k).1 = k ∧ (ofP k).1 < 18446744073709551616 ∧ nanP (ofP k).1 = false := by
  have hk0 : k ≠ 0 := by omega
  unfold ofP
  rw [if_neg hk0]
  simp only []
  by_cases hk : 9223372036854775808 ≤ k
  · rw [if_pos hk]
    have hn : nanP (k - 9223372036854775808) = false := by
      unfold nanP
      rw [decide_eq_false_iff_not]
      omega
    have hne : ¬ (nanP (k - 9223372036854775808) = true ∨ k - 9223372036854775808 = 9223372036854775808) := fun e => e.elim (fun e => by rw [hn] at e; cases e) (fun e => by omega)
    rw [if_neg hne]
    refine ⟨rfl, ?_, by simp only; omega, hn⟩
    have hc : canP (k - 9223372036854775808) = k - 9223372036854775808 := by
      unfold canP
      rw [hn]
      simp only [Bool.false_eq_true, if_false]
      split <;> omega
    unfold keyP
    rw [hn, hc]
    simp only [Bool.false_eq_true, if_false]
    rw [if_pos (by omega)]
    omega
  · rw [if_neg hk]
    have hn : nanP (18446744073709551615 - k) = false := by
      unfold nanP
      rw [decide_eq_false_iff_not]
      omega
    have hne : ¬ (nanP (18446744073709551615 - k) = true ∨ 18446744073709551615 - k = 9223372036854775808) := fun e => e.elim (fun e => by rw [hn] at e; cases e) (fun e => by omega)
    rw [if_neg hne]
    refine ⟨rfl, ?_, by simp only; omega, hn⟩
    have hc : canP (18446744073709551615 - k) = 18446744073709551615 - k := by
      unfold canP
      rw [hn]
      simp only [Bool.false_eq_true, if_false]
      rw [if_neg (by omega)]
    unfold keyP
    rw [hn, hc]
    simp only [Bool.false_eq_true, if_false]
    rw [if_neg (by omega)]
    omega
/-- what is told as the middle stands between -/
theorem mid_between {a b f : Nat} (ha : a < 18446744073709551616) (hb : b < 18446744073709551616) (h : midP a b = (f, true)) : keyP a < keyP f ∧ keyP f < keyP b ∧ nanP f = false ∧ f < 18446744073709551616 := by
  unfold midP at h
  split at h
  · cases h
  · next hc =>
    have hna : nanP a = false := by cases e : nanP a with
      | false => rfl
      | true => exact absurd (.inl e) hc
    have hnb : nanP b = false := by cases e : nanP b with
      | false => rfl
      | true => exact absurd (.inr (.inl e)) hc
    have hs : stepsP a b ≠ 0 := fun e => hc (.inr (.inr e))
    have ra := key_range ha hna
    have rb := key_range hb hnb
    have hlt : keyP a < keyP b := by
      refine Decidable.byContradiction fun e => hs ?_
      unfold stepsP
      rw [if_pos e]
    have hst : stepsP a b = placeP b - placeP a - 1 := by
      unfold stepsP
      rw [if_neg (by omega), hna]
      rfl
    have pa : placeP a = if 9223372036854775807 < keyP a then keyP a - 1 else keyP a := rfl
    have pb : placeP b = if 9223372036854775807 < keyP b then keyP b - 1 else keyP b := rfl
    injection h with h _
    unfold atP at h
    generalize placeP a = x at *
    generalize placeP b = y at *
    rw [hst] at h hs
    have hk := key_of (k := if 9223372036854775807 ≤ x + 1 + (y - x - 1) / 2 then x + 1 + (y - x - 1) / 2 + 1 else x + 1 + (y - x - 1) / 2) (by split <;> split at pa <;> split at pb <;> omega) (by split <;> split at pa <;> split at pb <;> omega) (by split <;> omega)
    rw [h] at hk
    obtain ⟨_, hk, h3, h4⟩ := hk
    refine ⟨?_, ?_, h4, h3⟩ <;> rw [hk] <;> split <;> split at pa <;> split at pb <;> omega
end Go.Proofs.YtmjnndcadndiaaaGreat.Flt
