/- Parts of one proof, joined: Itb. Conditions: those of each statement. -/
import Derived.Test.YtmjnndcadndiaaaGreatCm0
import Derived.Test.YtmjnndcadndiaaaGreatCm1
import Derived.Test.YtmjnndcadndiaaaGreatCm3
import Derived.Test.YtmjnndcadndiaaaGreatCm4
import Derived.Test.YtmjnndcadndiaaaGreatCm2
namespace Go.Proofs.YtmjnndcadndiaaaGreat
open Go.RowKit Go.Proofs.YtmjnndcadndiaaaGreatW.PrintWords Go.Proofs.YtmjnndcadndiaaaGreatW.PrintLast Go.Proofs.YtmjnndcadndiaaaGreatW.PrintMore
set_option linter.unusedVariables false
set_option linter.unusedSimpArgs false
theorem infoI : (Tryz.prog.info? 32).map (fun i => (i.zero, i.size, i.bytes)) = some (some (.agg #[.int .u64 0, .int .u64 0, .int .i64 0, .int .u64 0, .int .u64 0, .string ⟨#[]⟩, .float .f64 0, .bool false]), kI.sz, 72) := by kernel_rfl
/-- whether items have one name -/
def nmI (x y : Itm) : Bool := y.ident == x.ident && y.num == x.num
/-- what is one's own and not in a log -/
def pendP (own log : List Itm) : List Itm := own.filter fun x => !log.any (nmI x)
theorem pendP_snoc (own log : List Itm) (i : Nat) (x : Itm) (hx : own[i]? = some x) : pendP (own.take (i + 1)) log = if log.any (nmI x) then pendP (own.take i) log else pendP (own.take i) log ++ [x] := by
  have htk : own.take (i + 1) = own.take i ++ [x] := by rw [List.take_add_one, hx]; rfl
  unfold pendP
  rw [htk, List.filter_append]
  cases h : log.any (nmI x) <;> simp [h]
open Classical in
/-- what has been met of a log -/
noncomputable def metI (L : List Itm) : Value → Option Value := fun v => if ∃ x ∈ L, v = Mq.two x.ident x.num then some (.bool true) else none
theorem metI_nil : metI [] = fun _ => none := by
  funext v
  unfold metI
  rw [if_neg]
  rintro ⟨x, hx, _⟩
  cases hx
theorem metI_snoc (L : List Itm) (x : Itm) : Mp.upd (metI L) (Mq.two x.ident x.num) (.bool true) = metI (L ++ [x]) := by
  funext v
  unfold Mp.upd metI
  by_cases hv : v = Mq.two x.ident x.num
  · rw [if_pos hv, if_pos ⟨x, by simp, hv⟩]
  · rw [if_neg hv]
    by_cases hL : ∃ x ∈ L, v = Mq.two x.ident x.num
    · rw [if_pos hL, if_pos]
      obtain ⟨z, hz, e⟩ := hL
      exact ⟨z, by simp [hz], e⟩
    · rw [if_neg hL, if_neg]
      rintro ⟨z, hz, e⟩
      rcases List.mem_append.1 hz with hz | hz
      · exact hL ⟨z, hz, e⟩
      · rw [List.mem_singleton.1 hz] at e
        exact hv e
theorem metI_at (L : List Itm) (x : Itm) {b : Bool} (h : L.any (nmI x) = b) : (metI L (Mq.two x.ident x.num)).getD (.bool false) = .bool b := by
  unfold metI
  cases b with
  | true =>
    obtain ⟨y, hy, e⟩ := List.any_eq_true.1 h
    unfold nmI at e
    simp only [Bool.and_eq_true, beq_iff_eq] at e
    rw [if_pos ⟨y, hy, by rw [e.1, e.2]⟩]
    rfl
  | false =>
    rw [if_neg]
    · rfl
    · rintro ⟨y, hy, e⟩
      have h1 := List.any_eq_false.1 h y hy
      have h2 := Mq.two_inj.1 e
      exact h1 (by unfold nmI; simp [h2.1, h2.2])
theorem nameK : WideMaps.KeyLaw Tryz.prog 41 := deep_law (m := 3) (by decide) (by kernel_rfl) (by kernel_rfl) (by kernel_rfl)
theorem name_isK {a b : Nat} (ha : a < 18446744073709551616) (hb : b < 18446744073709551616) : Mq.IsK Tryz.prog 41 (Mq.two a b) :=
  Mq.two_isK (u := 27) Tryz.underlying41 (by kernel_rfl) (by kernel_rfl) ⟨by decide, by decide⟩ rfl rfl rfl rfl Tryz.underlying27 (by kernel_rfl) (by kernel_rfl) ha hb
theorem ex_metI {o : Oper} {ρ : Operand → Value} (W : World) {x y : Operand} {M : Nat} {L : List Itm} (h : Mq.Is Tryz.prog 41 W M (metI L)) (z : Itm) (hz : z.ident < 18446744073709551616 ∧ z.num < 18446744073709551616) {b : Bool} (hb : L.any (nmI z) = b) (ho : o.op = .lookup 39 x y false) (hx : ρ x = .map (some M)) (hy : ρ y = Mq.two z.ident z.num) :
    (execOp ρ o).run Tryz.prog W = .ok (.value (.bool b)) W := by
  have hzr : (zeroValue 4).run Tryz.prog W = .ok (.bool false) W := by
    have : (Tryz.prog.info? 4).bind (·.zero) = some (.bool false) := by kernel_rfl
    obtain ⟨i, h1, h2⟩ := Option.bind_eq_some_iff.1 this
    exact Arr.run_zero h1 h2 W
  have hl := Mq.run_lookup nameK h Tryz.underlying39 (name_isK hz.1 hz.2) hzr
  simp only [execOp, ho, hx, hy, Sem.run_bind, hl, Result.andThen_ok, Sem.run_pure, metI_at L z hb]
attribute [local go_sem] run_store_float run_makeMap
/-- what Pending holds: the map of the log, the items so far -/
structure PenI (w : World) (L D : List Itm) (v : Value) (W : World) : Prop where
  low : Below w.heap.size w W
  met : Mq.Is Tryz.prog 41 W w.heap.size (metI L)
  row : Kd.R kI 32 W (w.heap.size + 1) (fun k => w.heap.size + 1 ≤ k) v D
theorem PenI.up {w : World} {L D : List Itm} {v : Value} {W W' : World} (h : PenI w L D v W) (hb : Below W.heap.size W W') : PenI w L D v W' :=
  ⟨h.low.trans (hb.mono h.low.size), h.met.same (hb.block _ h.met.lt), Kd.R_below h.row hb⟩
theorem PenI.turn {w : World} {L L' : List Itm} {v : Value} {W W' : World} (h : PenI w L [] (.slice none 0 0) W) (ht : Mp.Turned W W' w.heap.size) (hm : Mq.Is Tryz.prog 41 W' w.heap.size (metI L')) : PenI w L' [] (.slice none 0 0) W' :=
  ⟨⟨ht.os.trans h.low.os, ht.tape.trans h.low.tape, ht.output.trans h.low.output, by rw [ht.size]; exact h.low.size, fun k hk => (ht.block k (by omega)).trans (h.low.block k hk)⟩, hm, Kd.R_nil _ _ _ _ _⟩
theorem PenI.put {w : World} {L D D' : List Itm} {v v' : Value} {W W' : World} (h : PenI w L D v W) (hb : Below (w.heap.size + 1) W W') (hr : Kd.R kI 32 W' (w.heap.size + 1) (fun k => w.heap.size + 1 ≤ k) v' D') : PenI w L D' v' W' :=
  ⟨h.low.trans (hb.mono (by omega)), h.met.same (hb.block _ (by omega)), hr⟩
theorem PenI.size {w : World} {L D : List Itm} {v : Value} {W : World} (h : PenI w L D v W) : w.heap.size + 1 ≤ W.heap.size := h.met.lt
set_option maxRecDepth 100000 in
set_option maxHeartbeats 8000000 in
theorem pend_calls (w : World) (OA LA : Option Addr) (oc lc : Nat) (own log : List Itm) (hO : kI.C w OA own.length own) (hL : kI.C w LA log.length log) (hno : own.length ≤ 1000) (hnl : log.length ≤ 1000) (bo : ∀ x ∈ own, itmOk x) (bl : ∀ x ∈ log, itmOk x) :
    Calls Tryz.prog 7 #[.slice OA own.length oc, .slice LA log.length lc] w fun e w' => ∃ A n c, e = .returned (.slice A n c) ∧ Kd.R kI 32 w' w.heap.size (fun k => w.heap.size ≤ k) (.slice A n c) (pendP own log) ∧ Below w.heap.size w w' := by
  have HO := Aside0.mk hO
  have HL := Aside0.mk hL
  have HBO := Aside0.mk bo
  have HBL := Aside0.mk bl
  have hln : (log.length : Int) ≤ 1000 := by omega
  have hon : (own.length : Int) ≤ 1000 := by omega
  have h0 : PenI w [] [] (.slice none 0 0) (w.alloc (.map #[] 0)) := ⟨(Below.refl _ _).alloc (Nat.le_refl _) _, by rw [metI_nil]; exact Mq.Is.empty _ _ _, Kd.R_nil _ _ _ _ _⟩
  have H0 := Aside0.mk h0
  clear hO hL bo bl hno hnl h0
  go_enter Tryz.func7, Tryz.ntmps7
  go_wp2
  go_loopg [7, 14] log.length (fun kq v7 v14 w' => ∃ (i : Nat), v14 = .int .i64 (i : Int) ∧ Aside0 (i + kq = log.length) ∧ Aside0 (PenI w (log.take i) [] (.slice none 0 0) w'))
  case atStart => exact ⟨0, rfl, ⟨by omega⟩, by rw [List.take_zero]; exact H0⟩
  case round =>
    obtain ⟨i, rfl, HI, HC⟩ := hrel
    by_cases hi : i < log.length
    · have hi0 := HI.out
      obtain ⟨x, hx⟩ : ∃ x, log[i]? = some x := ⟨log[i]'hi, List.getElem?_eq_getElem _⟩
      obtain ⟨ad, e, y0, y1, y2, y3, y4, y5, y6, y7⟩ := kI_get HL.out hx
      have hok := HBL.out x (List.mem_of_getElem? hx)
      have htk : log.take (i + 1) = log.take i ++ [x] := by rw [List.take_add_one, hx]; rfl
      have HTK := Aside0.mk htk
      subst e
      obtain ⟨xi, xn, xk, xm, xl, xt, xf, xg⟩ := x
      simp only at y0 y1 y2 y3 y4 y5 y6 y7
      replace y0 := pw_cell_below HC.out.low y0
      replace y1 := pw_cell_below HC.out.low y1
      replace y2 := pw_cell_below HC.out.low y2
      replace y3 := pw_cell_below HC.out.low y3
      replace y4 := pw_cell_below HC.out.low y4
      replace y5 := pw_cell_below HC.out.low y5
      replace y6 := pw_cell_below HC.out.low y6
      replace y7 := pw_cell_below HC.out.low y7
      have hiz : (i : Int) < (log.length : Int) := by omega
      obtain ⟨W1, hW1⟩ : ∃ W1, wr.alloc (.cells #[.int .u64 (xi : Int), .int .u64 (xn : Int), .int .i64 xk, .int .u64 (xm : Int), .int .u64 (xl : Int), .string xt, .float .f64 xf.b, .bool xg] 32) = W1 := ⟨_, rfl⟩
      have hb1 := (Below.refl wr.heap.size wr).alloc (Nat.le_refl _) (.cells #[.int .u64 (xi : Int), .int .u64 (xn : Int), .int .i64 xk, .int .u64 (xm : Int), .int .u64 (xl : Int), .string xt, .float .f64 xf.b, .bool xg] 32)
      rw [hW1] at hb1
      have hC1 := HC.out.up hb1
      obtain ⟨w2, hr2, ht2, hi2⟩ := Mq.run_update (P := Tryz.prog) (t := 39) (kt := 41) (et := 4) (r := w.heap.size) (w := W1) nameK hC1.met Tryz.underlying39 (k := Mq.two xi xn) (name_isK hok.1 hok.2.1) (.bool true)
      replace hi2 : Mq.Is Tryz.prog 41 w2 w.heap.size (metI (log.take (i + 1))) := by rw [htk, ← metI_snoc]; exact hi2
      have HC2 := Aside0.mk (hC1.turn (v := .slice none 0 0) ht2 hi2)
      have HW1 := Aside0.mk hW1
      have HR2 : Aside0 ((Instr.mapUpdate 39 (.map (some w.heap.size)) (.agg #[.int .u64 (xi : Int), .int .u64 (xn : Int)]) (.bool true)).run Tryz.prog W1 = .ok () w2) := ⟨hr2⟩
      obtain ⟨gq, rfl⟩ : ∃ gq, gk = gq + 1 := ⟨gk - 1, by omega⟩
      clear hx hok htk hW1 hb1 hC1 hr2 ht2 hi2
      go_wp2
      rw [HW1.out, HR2.out]
      go_wp2
      go_roundg gq
      case rel => exact ⟨i + 1, by go_num, ⟨by omega⟩, HC2⟩
      case measure => omega
    · obtain rfl : i = log.length := by have := HI.out; omega
      have hz : ¬ (((log.length : Nat) : Int) < (log.length : Int)) := by omega
      rw [List.take_length] at HC
      clear H0
      go_wp2
      clear hz hi HI
      obtain ⟨wq, rfl⟩ : ∃ wq, wq = wr := ⟨_, rfl⟩
      obtain ⟨go, rfl⟩ : ∃ go, go = gk := ⟨_, rfl⟩
      go_loopg [8, 10, 27] own.length (fun kq v8 v10 v27 w' => ∃ (i : Nat) (A : Option Addr) (n c : Nat), v27 = .int .i64 (i : Int) ∧ v8 = .slice A n c ∧ Aside0 (i + kq = own.length) ∧ Aside0 (PenI w log (pendP (own.take i) log) (.slice A n c) w'))
      case atStart => exact ⟨0, none, 0, 0, rfl, rfl, ⟨by omega⟩, by rw [List.take_zero]; exact HC⟩
      case round =>
        obtain ⟨i, A, n, c, rfl, rfl, HI, HC⟩ := hrel
        by_cases hi : i < own.length
        · have hi0 := HI.out
          obtain ⟨x, hx⟩ : ∃ x, own[i]? = some x := ⟨own[i]'hi, List.getElem?_eq_getElem _⟩
          obtain ⟨ad, e, y0, y1, y2, y3, y4, y5, y6, y7⟩ := kI_get HO.out hx
          have hok := HBO.out x (List.mem_of_getElem? hx)
          have hsn := pendP_snoc own log i x hx
          have hdl : (pendP (own.take i) log).length ≤ 1000 := Nat.le_trans (List.length_filter_le _ _) (by rw [List.length_take]; omega)
          obtain ⟨D, hD⟩ : ∃ D, pendP (own.take i) log = D := ⟨_, rfl⟩
          rw [hD] at hsn HC hdl
          have HDL := Aside0.mk hdl
          have HOK := Aside0.mk hok
          subst e
          obtain ⟨xi, xn, xk, xm, xl, xt, xf, xg⟩ := x
          simp only at y0 y1 y2 y3 y4 y5 y6 y7
          replace y0 := pw_cell_below HC.out.low y0
          replace y1 := pw_cell_below HC.out.low y1
          replace y2 := pw_cell_below HC.out.low y2
          replace y3 := pw_cell_below HC.out.low y3
          replace y4 := pw_cell_below HC.out.low y4
          replace y5 := pw_cell_below HC.out.low y5
          replace y6 := pw_cell_below HC.out.low y6
          replace y7 := pw_cell_below HC.out.low y7
          have hiz : (i : Int) < (own.length : Int) := by omega
          have HC1 := Aside0.mk (HC.out.up ((Below.refl wr.heap.size wr).alloc (Nat.le_refl _) (.cells #[.int .u64 (xi : Int), .int .u64 (xn : Int), .int .i64 xk, .int .u64 (xm : Int), .int .u64 (xl : Int), .string xt, .float .f64 xf.b, .bool xg] 32)))
          obtain ⟨b, hb⟩ : ∃ b, log.any (nmI ⟨xi, xn, xk, xm, xl, xt, xf, xg⟩) = b := ⟨_, rfl⟩
          rw [hb] at hsn
          have HAN := Aside0.mk hb
          obtain ⟨gq, rfl⟩ : ∃ gq, gk = gq + 1 := ⟨gk - 1, by omega⟩
          clear hx hok hD hdl hb
          cases b with
          | true =>
            have HN := Aside0.mk (show pendP (own.take (i + 1)) log = D from hsn)
            clear hsn
            go_wp2_with (first
              | ((with_reducible refine gate_ (.lookup 39 (.tmp 31) (.tmp 36) false) rfl ?_); refine Kd.event_run rfl (ex_metI _ HC1.out.met ⟨xi, xn, xk, xm, xl, xt, xf, xg⟩ ⟨HOK.out.1, HOK.out.2.1⟩ HAN.out rfl rfl rfl) ?_; simp only [Act.put, List.setIfInBounds_toArray, List.set_cons_succ, List.set_cons_zero]))
            go_roundg gq
            case rel => exact ⟨i + 1, A, n, c, by go_num, rfl, ⟨by omega⟩, by rw [HN.out]; exact HC1⟩
            case measure => omega
          | false =>
            have HN := Aside0.mk (show pendP (own.take (i + 1)) log = D ++ [⟨xi, xn, xk, xm, xl, xt, xf, xg⟩] from hsn)
            clear hsn
            obtain ⟨W1, hW1⟩ : ∃ W1, wr.alloc (.cells #[.int .u64 (xi : Int), .int .u64 (xn : Int), .int .i64 xk, .int .u64 (xm : Int), .int .u64 (xl : Int), .string xt, .float .f64 xf.b, .bool xg] 32) = W1 := ⟨_, rfl⟩
            have HW1 := Aside0.mk hW1
            rw [hW1] at HC1
            clear hW1
            go_wp2_with (first
              | ((with_reducible refine gate_ (.lookup 39 (.tmp 31) (.tmp 36) false) rfl ?_); rw [HW1.out]; refine Kd.event_run rfl (ex_metI _ HC1.out.met ⟨xi, xn, xk, xm, xl, xt, xf, xg⟩ ⟨HOK.out.1, HOK.out.2.1⟩ HAN.out rfl rfl rfl) ?_; rw [← HW1.out]; simp only [Act.put, List.setIfInBounds_toArray, List.set_cons_succ, List.set_cons_zero])
              | ((with_reducible refine gate_builtin (b := .append) (xs := #[.tmp 39, .tmp 41]) rfl ?_); at_builtin; go_loud (refine Kd.R_append kI (W := (wr.alloc (.cells #[.int .u64 (xi : Int), .int .u64 (xn : Int), .int .i64 xk, .int .u64 (xm : Int), .int .u64 (xl : Int), .string xt, .float .f64 xf.b, .bool xg] 32))) (w0 := (wr.alloc (.cells #[.int .u64 (xi : Int), .int .u64 (xn : Int), .int .i64 xk, .int .u64 (xm : Int), .int .u64 (xl : Int), .string xt, .float .f64 xf.b, .bool xg] 32))) (w.heap.size + 1) rfl (.tmp 39) (.tmp 41) 22 32 (.agg #[.int .u64 0, .int .u64 0, .int .i64 0, .int .u64 0, .int .u64 0, .string ⟨#[]⟩, .float .f64 0, .bool false]) 72 rfl Tryz.underlying22 infoI rfl (by decide) (by decide) (.slice A n c) D ⟨xi, xn, xk, xm, xl, xt, xf, xg⟩ [.int .u64 (xi : Int), .int .u64 (xn : Int), .int .i64 xk, .int .u64 (xm : Int), .int .u64 (xl : Int), .string xt, .float .f64 xf.b, .bool xg] (fun k => w.heap.size + 1 ≤ k) (fun _ => False) rfl (by rw [show (wr.alloc (.cells #[.int .u64 (xi : Int), .int .u64 (xn : Int), .int .i64 xk, .int .u64 (xm : Int), .int .u64 (xl : Int), .string xt, .float .f64 xf.b, .bool xg] 32)).heap.size = wr.heap.size + 1 from Array.size_push _]; rfl) rfl (fun _ h => h.elim) (fun k h => Nat.le_trans (HW1.out ▸ HC1.out.size) h) (HW1.out ▸ HC1.out.row) (Below.refl _ _) (HW1.out ▸ HC1.out.size) (by have := HDL.out; omega) ?_); intro v8 w4 ho hb hg hat; obtain ⟨A8, n8, c8, rfl⟩ := R_slice3 ho; have HC4 := Aside0.mk (HC1.out.put (HW1.out ▸ hb) ho); clear ho hb hg hat))
            go_roundg gq
            case rel => exact ⟨i + 1, A8, n8, c8, by go_num, rfl, ⟨by omega⟩, by rw [HN.out]; exact HC4⟩
            case measure => omega
        · obtain rfl : i = own.length := by have := HI.out; omega
          have hz : ¬ (((own.length : Nat) : Int) < (own.length : Int)) := by omega
          rw [List.take_length] at HC
          go_wp2
          go_ret
          exact ⟨A, n, c, rfl, Kd.R_mono (Kd.R_lower HC.out.row (by omega)) (fun k hk => by omega), HC.out.low⟩
end Go.Proofs.YtmjnndcadndiaaaGreat
