/- Parts of one proof, joined: Rkj, Tkj, Rkk, Rkl. Conditions: those of each statement. -/
import Derived.Test.YtdjjlmphifgnnaaGreatCc9
import Derived.Test.YtdjjlmphifgnnaaGreatCc7
import Derived.Test.YtdjjlmphifgnnaaGreatCc8
import Derived.Test.YtdjjlmphifgnnaaGreatCc5
import Derived.Laws.ResultCell
namespace Go.Proofs.YtdjjlmphifgnnaaGreat
open Go.RowKit Go.Sort Go.Proofs.YtdjjlmphifgnnaaGreatW.PrintWords Go.Proofs.YtdjjlmphifgnnaaGreatW.PrintLast Go.Proofs.YtdjjlmphifgnnaaGreatW.PrintMore
open Flt (nanP canP keyP midP)
set_option linter.unusedVariables false
set_option linter.unusedSimpArgs false
attribute [local go_sem] run_store_float
/-- what is found of tasks by an Id -/
def FindQ (w : World) (l : List Tsk) (id : Nat) (e : Ending) (w' : World) : Prop := ∃ (xi li : Nat) (ti : ByteArray) (dn : Bool) (rk es : W64) (At : Option Addr) (ct : Nat) (tg : List ByteArray) (b : Bool),
  e = .returned (.tuple #[.agg #[.int .u64 (xi : Int), .int .u64 (li : Int), .string ti, .bool dn, .float .f64 rk.b, .float .f64 es.b, .slice At tg.length ct], .bool b]) ∧ Below w.heap.size w w' ∧
  (b = true → l.find? (fun x => x.id == id) = some ⟨xi, li, ti, dn, rk, es, tg⟩ ∧ tg.length ≤ ct ∧ Kd.string.C w' At tg.length tg) ∧ (b = false → l.find? (fun x => x.id == id) = none)
theorem find_step {l : List Tsk} {id i : Nat} {x : Tsk} (hx : l[i]? = some x) (hq : (x.id == id) = false) : (l.drop i).find? (fun x => x.id == id) = (l.drop (i + 1)).find? (fun x => x.id == id) := by
  rw [List.drop_eq_getElem_cons (List.getElem?_eq_some_iff.1 hx).1, (List.getElem?_eq_some_iff.1 hx).2]
  exact List.find?_cons_of_neg (by rw [hq]; decide)
theorem find_found {l : List Tsk} {id i : Nat} {x : Tsk} (hx : l[i]? = some x) (hq : (x.id == id) = true) : (l.drop i).find? (fun x => x.id == id) = some x := by
  rw [List.drop_eq_getElem_cons (List.getElem?_eq_some_iff.1 hx).1, (List.getElem?_eq_some_iff.1 hx).2]
  exact List.find?_cons_of_pos hq
theorem cap_of {α : Type} {d : Kd α} {e : Nat} {w : World} {base : Nat} {ok : Nat → Prop} {A : Option Addr} {n c : Nat} {xs : List α} (h : Kd.R d e w base ok (.slice A n c) xs) : n ≤ c := by
  obtain ⟨_, inner, ho, _⟩ := h
  rcases ho.2 with ⟨he, _⟩ | ⟨g, cap, cur, he, _, _, hl, _⟩
  · injection he with _ h1 h2
    omega
  · injection he with _ h1 h2
    omega
theorem below7 {w w1 : World} {B : Nat} (h : Below w.heap.size w w1) (hB : w.heap.size ≤ B) (a b c d e f g : Value) : Below w.heap.size w (((((((w1.setCell ⟨B, 0, none⟩ a).setCell ⟨B, 1, none⟩ b).setCell ⟨B, 2, none⟩ c).setCell ⟨B, 3, none⟩ d).setCell ⟨B, 4, none⟩ e).setCell ⟨B, 5, none⟩ f).setCell ⟨B, 6, none⟩ g) :=
  ((((((h.trans (below_setCell _ _ _ hB)).trans (below_setCell _ _ _ hB)).trans (below_setCell _ _ _ hB)).trans (below_setCell _ _ _ hB)).trans (below_setCell _ _ _ hB)).trans (below_setCell _ _ _ hB)).trans (below_setCell _ _ _ hB)
set_option maxRecDepth 100000 in
set_option maxHeartbeats 4000000 in
theorem find_calls (w : World) (LA TA : Option Addr) (ln lc tc : Nat) (l : List Tsk) (id : Nat) (hT : kT.C w TA l.length l) (htag : ∀ x ∈ l, x.tags.length ≤ 1000) :
    Calls Tryz.prog 25 #[.agg #[.slice LA ln lc, .slice TA l.length tc], .int .u64 (id : Int)] w (FindQ w l id) := by
  have hxn : (l.length : Int) ≤ 9223372036854775807 := by have := hT.2.1; omega
  obtain ⟨xs, hxs, hX, hF⟩ := rawT_of hT
  have hxl : xs.length = l.length := by rw [← hxs, List.length_map]
  have HX := Aside0.mk hX
  have HF := Aside0.mk hF
  have HXS := Aside0.mk hxs
  have HXL := Aside0.mk hxl
  have hb : Below w.heap.size w ((w.alloc (.cells #[.slice LA ln lc, .slice TA l.length tc] 25)).alloc (.cells #[.int .u64 0, .int .u64 0, .string ⟨#[]⟩, .bool false, .float .f64 0, .float .f64 0, .slice none 0 0] 36)) := ((Below.refl w.heap.size w).alloc (Nat.le_refl _) _).alloc (by rw [World.alloc]; simp) _
  have hz : Box7 ((w.alloc (.cells #[.slice LA ln lc, .slice TA l.length tc] 25)).alloc (.cells #[.int .u64 0, .int .u64 0, .string ⟨#[]⟩, .bool false, .float .f64 0, .float .f64 0, .slice none 0 0] 36)) (w.heap.size + 1) 36 (.int .u64 0) (.int .u64 0) (.string ⟨#[]⟩) (.bool false) (.float .f64 0) (.float .f64 0) (.slice none 0 0) := ⟨by
    have h := heap_alloc_new (w.alloc (.cells #[.slice LA ln lc, .slice TA l.length tc] 25)) (.cells #[.int .u64 0, .int .u64 0, .string ⟨#[]⟩, .bool false, .float .f64 0, .float .f64 0, .slice none 0 0] 36)
    rwa [show (w.alloc (.cells #[.slice LA ln lc, .slice TA l.length tc] 25)).heap.size = w.heap.size + 1 from Array.size_push _] at h⟩
  have HB0 := Aside0.mk hb
  have HZ0 := Aside0.mk hz
  have HTG := Aside0.mk htag
  clear htag
  clear hT hX hF hxs hxl hb hz
  go_enter Tryz.func25, Tryz.ntmps25
  go_wp2
  go_loopg [7, 11] l.length (fun kq v7 v11 w' => ∃ (i : Nat), v11 = .int .i64 (i : Int) ∧ Aside0 (i + kq = l.length) ∧ Aside0 ((l.drop i).find? (fun x => x.id == id) = l.find? (fun x => x.id == id)) ∧ Aside0 (Below w.heap.size w w') ∧ Aside0 (Box7 w' (w.heap.size + 1) 36 (.int .u64 0) (.int .u64 0) (.string ⟨#[]⟩) (.bool false) (.float .f64 0) (.float .f64 0) (.slice none 0 0)))
  case atStart => exact ⟨0, rfl, ⟨by omega⟩, ⟨rfl⟩, HB0, HZ0⟩
  case round =>
    obtain ⟨i, rfl, HI, HP, HB, HZ⟩ := hrel
    by_cases hi : i < l.length
    · have hi0 := HI.out
      obtain ⟨x, hx⟩ : ∃ x, xs[i]? = some x := ⟨xs[i]'(by rw [HXL.out]; exact hi), List.getElem?_eq_getElem _⟩
      have hlx : l[i]? = some (deep x) := by rw [← HXS.out, List.getElem?_map, hx]; rfl
      obtain ⟨ad, e, y0, y1, y2, y3, y4, y5, y6⟩ := rawT_get HX.out hx
      subst e
      have HFx := Aside0.mk (HF.out x (List.mem_of_getElem? hx))
      have HTXN := Aside0.mk (HTG.out (deep x) (List.mem_of_getElem? hlx))
      have HST := fun h => Aside0.mk ((find_step (id := id) hlx h).symm.trans HP.out)
      have HFO := fun h => Aside0.mk ((find_found (id := id) hlx h).symm.trans HP.out)
      obtain ⟨xi, li, ti, dn, rk, es, ⟨⟨At, nt, ct⟩, tg⟩⟩ := x
      have hnt : nt = tg.length := HFx.out.1
      subst hnt
      simp only [Sl.v] at y0 y1 y2 y3 y4 y5 y6
      rw [HXL.out] at HX
      replace y0 := pw_cell_below HB.out y0
      replace y1 := pw_cell_below HB.out y1
      replace y2 := pw_cell_below HB.out y2
      replace y3 := pw_cell_below HB.out y3
      replace y4 := pw_cell_below HB.out y4
      replace y5 := pw_cell_below HB.out y5
      replace y6 := pw_cell_below HB.out y6
      have hiz : (i : Int) < (l.length : Int) := by omega
      have HA := Aside0.mk ((Below.refl wr.heap.size wr).alloc (Nat.le_refl _) (.cells #[.int .u64 (xi : Int), .int .u64 (li : Int), .string ti, .bool dn, .float .f64 rk.b, .float .f64 es.b, .slice At tg.length ct] 36))
      have HBA := Aside0.mk (HB.out.trans (HA.out.mono HB.out.size))
      have HZ2 := Aside0.mk (HZ.out.up HA.out)
      have HXB := Aside0.mk (Box7.mk (heap_alloc_new wr (.cells #[.int .u64 (xi : Int), .int .u64 (li : Int), .string ti, .bool dn, .float .f64 rk.b, .float .f64 es.b, .slice At tg.length ct] 36)))
      have hdp : deep ⟨xi, li, ti, dn, rk, es, (⟨At, tg.length, ct⟩, tg)⟩ = ⟨xi, li, ti, dn, rk, es, tg⟩ := rfl
      rw [hdp] at HST HFO HTXN
      obtain ⟨gq, rfl⟩ : ∃ gq, gk = gq + 1 := ⟨gk - 1, by omega⟩
      by_cases hq : xi = id
      · have HE := HFO (by simp [hq])
        have hz : ((xi : Int) == (id : Int)) = true := by simp [hq]
        subst hq
        clear HST HFO hx hlx hdp
        have hsz := (Array.getElem?_eq_some_iff.1 HZ.out.at_).1
        have hne : ¬ (w.heap.size + 1 = wr.heap.size) := by omega
        have hne2 : ¬ (wr.heap.size = w.heap.size + 1) := by omega
        have HWS := Aside0.mk (show (wr.alloc (.cells #[.int .u64 (xi : Int), .int .u64 (li : Int), .string ti, .bool dn, .float .f64 rk.b, .float .f64 es.b, .slice At tg.length ct] 36)).heap.size = wr.heap.size + 1 from Array.size_push _)
        have HCL := Aside0.mk (cloneS_any (wr.alloc (.cells #[.int .u64 (xi : Int), .int .u64 (li : Int), .string ti, .bool dn, .float .f64 rk.b, .float .f64 es.b, .slice At tg.length ct] 36)) At ct tg (by have h : tg.length ≤ 1000 := HTXN.out; omega) (Kd.C_below HFx.out.2.2 HBA.out))
        clear hsz
        go_wp2_with (first
          | (go_at_call 16; refine HCL.out.mono ?_; rintro e w2 ⟨A2, c2, rfl, hr, hb⟩; have HR2 := Aside0.mk hr; have HB2 := Aside0.mk (HBA.out.trans (hb.mono HBA.out.size)); obtain ⟨⟨n0, n1, n2, n3, n4, n5, n6⟩, nf⟩ := (HXB.out.up hb).cells; obtain ⟨⟨t0, t1, t2, t3, t4, t5, t6⟩, tf⟩ := (HZ2.out.up hb).cells; clear hr hb))
        (try simp only [Exit.inBlock, Exit.then])
        refine bodyPost_ret (v := .tuple #[.agg #[.int .u64 (xi : Int), .int .u64 (li : Int), .string ti, .bool dn, .float .f64 rk.b, .float .f64 es.b, .slice A2 tg.length c2], .bool true]) ?_ rfl ?_
        · rw [results_cell_tmp rfl]
          go_simp
        · have hle : w.heap.size ≤ wr.heap.size := HB.out.size
          have hlt := (Array.getElem?_eq_some_iff.1 HZ.out.at_).1
          have hR := Kd.R_move HR2.out (w1 := (((((((w2.setCell ⟨wr.heap.size, 6, none⟩ (.slice A2 tg.length c2)).setCell ⟨w.heap.size + 1, 0, none⟩ (.int .u64 (xi : Int))).setCell ⟨w.heap.size + 1, 1, none⟩ (.int .u64 (li : Int))).setCell ⟨w.heap.size + 1, 2, none⟩ (.string ti)).setCell ⟨w.heap.size + 1, 3, none⟩ (.bool dn)).setCell ⟨w.heap.size + 1, 4, none⟩ (.float .f64 rk.b)).setCell ⟨w.heap.size + 1, 5, none⟩ (.float .f64 es.b)).setCell ⟨w.heap.size + 1, 6, none⟩ (.slice A2 tg.length c2)) fun k hk => by
            have hk : (wr.alloc (.cells #[.int .u64 (xi : Int), .int .u64 (li : Int), .string ti, .bool dn, .float .f64 rk.b, .float .f64 es.b, .slice At tg.length ct] 36)).heap.size ≤ k := hk
            rw [HWS.out] at hk
            rw [heap_setCell_ne _ _ _ _ (by omega), heap_setCell_ne _ _ _ _ (by omega), heap_setCell_ne _ _ _ _ (by omega), heap_setCell_ne _ _ _ _ (by omega), heap_setCell_ne _ _ _ _ (by omega), heap_setCell_ne _ _ _ _ (by omega), heap_setCell_ne _ _ _ _ (by omega), heap_setCell_ne _ _ _ _ (by omega)]
          have hc := Kd.R_reads' hR
          exact ⟨xi, li, ti, dn, rk, es, A2, c2, tg, true, rfl, below7 (HB2.out.trans (below_setCell _ _ _ (by omega))) (by omega) _ _ _ _ _ _ _, fun _ => ⟨HE.out.symm, cap_of hR, hc.2.2⟩, (fun h => by cases h)⟩
      · have HE := HST (by simp [hq])
        have hz : ((xi : Int) == (id : Int)) = false := by simp; omega
        clear HST HFO hx hlx hdp
        go_wp2
        go_roundg gq
        case rel => exact ⟨i + 1, by go_num, ⟨by omega⟩, HE, HBA, HZ2⟩
        case measure => omega
    · have hi0 := HI.out
      obtain rfl : gk = 0 := by omega
      obtain rfl : i = l.length := by omega
      clear hi0
      have hm : ¬ ((l.length : Int) < (l.length : Int)) := by omega
      have HE := Aside0.mk (show l.find? (fun x => x.id == id) = none from by rw [← HP.out, List.drop_length]; rfl)
      obtain ⟨⟨t0, t1, t2, t3, t4, t5, t6⟩, tf⟩ := HZ.out.cells
      go_wp2
      (try simp only [Exit.inBlock, Exit.then])
      refine bodyPost_ret (v := .tuple #[.agg #[.int .u64 0, .int .u64 0, .string ⟨#[]⟩, .bool false, .float .f64 0, .float .f64 0, .slice none 0 0], .bool false]) ?_ rfl ?_
      · rw [results_cell_tmp rfl]
        go_simp
      · exact ⟨0, 0, ⟨#[]⟩, false, ⟨0, by decide⟩, ⟨0, by decide⟩, none, 0, [], false, rfl, below7 HB.out (by omega) _ _ _ _ _ _ _, (fun h => by cases h), fun _ => HE.out⟩
end Go.Proofs.YtdjjlmphifgnnaaGreat
namespace Go.Proofs.YtdjjlmphifgnnaaGreat
open Go.Shelf Go.RowKit Go.Sort Go.Proofs.YtdjjlmphifgnnaaGreatW.PrintWords Go.Proofs.YtdjjlmphifgnnaaGreatW.PrintLast Go.Proofs.YtdjjlmphifgnnaaGreatW.PrintMore
open Flt (nanP canP keyP midP)
set_option linter.unusedVariables false
set_option linter.unusedSimpArgs false
attribute [local go_sem] run_store_float
def canW (r : W64) : W64 := ⟨canP r.b, canP_lt r.lt⟩
def canS (l : List ByteArray) : List ByteArray := compS (sortS l)
/-- a task with floats and tags in order -/
def ownT (x : Tsk) : Tsk := ⟨x.id, x.list, x.title, x.done, canW x.rank, canW x.est, canS x.tags⟩
theorem Box7.set4 {w : World} {B t : Nat} {a0 a1 a2 a3 a4 a5 a6 : Value} (h : Box7 w B t a0 a1 a2 a3 a4 a5 a6) (u : Value) : Box7 (w.setCell ⟨B, 4, none⟩ u) B t a0 a1 a2 a3 u a5 a6 := ⟨heap_setCell_at w B 4 u h.at_⟩
theorem Box7.set5 {w : World} {B t : Nat} {a0 a1 a2 a3 a4 a5 a6 : Value} (h : Box7 w B t a0 a1 a2 a3 a4 a5 a6) (u : Value) : Box7 (w.setCell ⟨B, 5, none⟩ u) B t a0 a1 a2 a3 a4 u a6 := ⟨heap_setCell_at w B 5 u h.at_⟩
theorem Box7.set6 {w : World} {B t : Nat} {a0 a1 a2 a3 a4 a5 a6 : Value} (h : Box7 w B t a0 a1 a2 a3 a4 a5 a6) (u : Value) : Box7 (w.setCell ⟨B, 6, none⟩ u) B t a0 a1 a2 a3 a4 a5 u := ⟨heap_setCell_at w B 6 u h.at_⟩
theorem Box7.ne {w : World} {B B' t : Nat} {a0 a1 a2 a3 a4 a5 a6 : Value} (h : Box7 w B t a0 a1 a2 a3 a4 a5 a6) (hne : B ≠ B') (o : Nat) (u : Value) : Box7 (w.setCell ⟨B', o, none⟩ u) B t a0 a1 a2 a3 a4 a5 a6 := ⟨(heap_setCell_ne w B' o u hne).trans h.at_⟩
theorem lo0_set (w : World) (B o : Nat) (v : Value) : Fork.Lo 0 w (w.setCell ⟨B, o, none⟩ v) := .zero (by rw [setCell_eq]; rfl) (by rw [setCell_eq]; rfl) (by rw [setCell_eq]; rfl)
theorem lo0_drawn {w w' : World} (h : Drawn0 w w') : Fork.Lo 0 w w' := .zero h.below.os h.below.tape h.below.output
theorem results_one {fn : Func} {p : Tmp} {ty : TypeId} (h : fn.results = #[.cell p ty]) (tmps : Array Value) (P : Program) (w : World) :
    (results fn tmps).run P w = ((asAddr (tmps.getD p undef)).run P w).andThen fun a w₁ => (loadVar ty a).run P w₁ := by
  simp only [results, h]
  simp [Sem.run_bind, Result.andThen]
/-- what a row of one's own that is written leaves of the boxes -/
theorem own_kept {w w9 wa wb : World} {v : Value} {x0 x1 x2 x3 x4 x5 x6 z0 z1 z2 z3 z4 z5 z6 : Value} {T : Nat} (hs : w.heap.size + 1 < w9.heap.size) (hv : ∀ k, v.ownBlock = some k → w9.heap.size ≤ k) (hb : Below w.heap.size w wa) (hx : Box7 wa w.heap.size T x0 x1 x2 x3 x4 x5 x6) (hz : Box7 wa (w.heap.size + 1) T z0 z1 z2 z3 z4 z5 z6) (hg : wa.grownBy wb v.ownBlock) : Below w.heap.size w wb ∧ Box7 wb w.heap.size T x0 x1 x2 x3 x4 x5 x6 ∧ Box7 wb (w.heap.size + 1) T z0 z1 z2 z3 z4 z5 z6 := by
  refine ⟨pw_below_grown hb _ hb.size hg (fun k hk => by have := hv k hk; omega), ⟨(hg.block _ (Array.getElem?_eq_some_iff.1 hx.at_).1 (fun e => by have := hv _ e.symm; omega)).trans hx.at_⟩, ⟨(hg.block _ (Array.getElem?_eq_some_iff.1 hz.at_).1 (fun e => by have := hv _ e.symm; omega)).trans hz.at_⟩⟩
set_option maxRecDepth 100000 in
set_option maxHeartbeats 4000000 in
theorem own_calls (w : World) (id li : Nat) (ti : ByteArray) (dn : Bool) (rk es : W64) (At : Option Addr) (ct : Nat) (tg : List ByteArray) (hC : Kd.string.C w At tg.length tg) (hl : tg.length ≤ 1000) :
    Calls Tryz.prog 31 #[.agg #[.int .u64 (id : Int), .int .u64 (li : Int), .string ti, .bool dn, .float .f64 rk.b, .float .f64 es.b, .slice At tg.length ct]] w fun e w' => ∃ A c, e = .returned (.agg #[.int .u64 (id : Int), .int .u64 (li : Int), .string ti, .bool dn, .float .f64 (canW rk).b, .float .f64 (canW es).b, .slice A (canS tg).length c]) ∧ Kd.R Kd.string 9 w' w.heap.size (fun k => w.heap.size ≤ k) (.slice A (canS tg).length c) (canS tg) ∧ Below w.heap.size w w' := by
  have HC1 := Aside0.mk (fun w => canon_calls rk.b rk.lt w)
  have HC2 := Aside0.mk (fun w => canon_calls es.b es.lt w)
  have s1 : (w.alloc (.cells #[.int .u64 (id : Int), .int .u64 (li : Int), .string ti, .bool dn, .float .f64 rk.b, .float .f64 es.b, .slice At tg.length ct] 36)).heap.size = w.heap.size + 1 := Array.size_push _
  have b1 := (Below.refl w.heap.size w).alloc (Nat.le_refl _) (.cells #[.int .u64 (id : Int), .int .u64 (li : Int), .string ti, .bool dn, .float .f64 rk.b, .float .f64 es.b, .slice At tg.length ct] 36)
  have b2 := (Below.refl (w.alloc (.cells #[.int .u64 (id : Int), .int .u64 (li : Int), .string ti, .bool dn, .float .f64 rk.b, .float .f64 es.b, .slice At tg.length ct] 36)).heap.size (w.alloc (.cells #[.int .u64 (id : Int), .int .u64 (li : Int), .string ti, .bool dn, .float .f64 rk.b, .float .f64 es.b, .slice At tg.length ct] 36))).alloc (Nat.le_refl _) (.cells #[.int .u64 0, .int .u64 0, .string ⟨#[]⟩, .bool false, .float .f64 0, .float .f64 0, .slice none 0 0] 36)
  have hx : Box7 ((w.alloc (.cells #[.int .u64 (id : Int), .int .u64 (li : Int), .string ti, .bool dn, .float .f64 rk.b, .float .f64 es.b, .slice At tg.length ct] 36)).alloc (.cells #[.int .u64 0, .int .u64 0, .string ⟨#[]⟩, .bool false, .float .f64 0, .float .f64 0, .slice none 0 0] 36)) w.heap.size 36 (.int .u64 (id : Int)) (.int .u64 (li : Int)) (.string ti) (.bool dn) (.float .f64 rk.b) (.float .f64 es.b) (.slice At tg.length ct) := (Box7.mk (heap_alloc_new w (.cells #[.int .u64 (id : Int), .int .u64 (li : Int), .string ti, .bool dn, .float .f64 rk.b, .float .f64 es.b, .slice At tg.length ct] 36))).up b2
  have hz : Box7 ((w.alloc (.cells #[.int .u64 (id : Int), .int .u64 (li : Int), .string ti, .bool dn, .float .f64 rk.b, .float .f64 es.b, .slice At tg.length ct] 36)).alloc (.cells #[.int .u64 0, .int .u64 0, .string ⟨#[]⟩, .bool false, .float .f64 0, .float .f64 0, .slice none 0 0] 36)) (w.heap.size + 1) 36 (.int .u64 0) (.int .u64 0) (.string ⟨#[]⟩) (.bool false) (.float .f64 0) (.float .f64 0) (.slice none 0 0) := ⟨by have h := heap_alloc_new (w.alloc (.cells #[.int .u64 (id : Int), .int .u64 (li : Int), .string ti, .bool dn, .float .f64 rk.b, .float .f64 es.b, .slice At tg.length ct] 36)) (.cells #[.int .u64 0, .int .u64 0, .string ⟨#[]⟩, .bool false, .float .f64 0, .float .f64 0, .slice none 0 0] 36); rwa [s1] at h⟩
  have hb : Below w.heap.size w ((w.alloc (.cells #[.int .u64 (id : Int), .int .u64 (li : Int), .string ti, .bool dn, .float .f64 rk.b, .float .f64 es.b, .slice At tg.length ct] 36)).alloc (.cells #[.int .u64 0, .int .u64 0, .string ⟨#[]⟩, .bool false, .float .f64 0, .float .f64 0, .slice none 0 0] 36)) := b1.trans (b2.mono b1.size)
  obtain ⟨W0, hW0⟩ : ∃ W0, ((w.alloc (.cells #[.int .u64 (id : Int), .int .u64 (li : Int), .string ti, .bool dn, .float .f64 rk.b, .float .f64 es.b, .slice At tg.length ct] 36)).alloc (.cells #[.int .u64 0, .int .u64 0, .string ⟨#[]⟩, .bool false, .float .f64 0, .float .f64 0, .slice none 0 0] 36)) = W0 := ⟨_, rfl⟩
  rw [hW0] at hx hz hb
  have HX0 := Aside0.mk hx
  have HZ0 := Aside0.mk hz
  have HB0 := Aside0.mk hb
  have HW0 := Aside0.mk hW0
  have HCC := Aside0.mk hC
  have HLL := Aside0.mk hl
  have f1 : W0.drew.cell? ⟨w.heap.size, 4, none⟩ = some (.float .f64 rk.b) := hx.cells.1.2.2.2.2.1
  have f2 : W0.drew.cell? ⟨w.heap.size, 5, none⟩ = some (.float .f64 es.b) := hx.cells.1.2.2.2.2.2.1
  clear s1 b1 b2 hx hz hb hW0 hC hl
  go_enter Tryz.func31, Tryz.ntmps31
  go_wp2
  rw [HW0.out]
  refine Fork.wp_fork (Fork.Lo.rel 0) [7, 9] [] (.one 0 0 (.one 3 0 (.one 1 1 (.one 4 1 (.one 2 2 (.one 6 0 (.one 5 2 (.one 7 2 (.one 8 0 (.one 9 2 .nil)))))))))) (by kernel_rfl) (by kernel_rfl) ?_
  generalize hops : List.toArray (_ : List Oper) = ops
  have HO := Aside0.mk hops
  clear hops
  iterate 2 ((refine Fork.plain (Fork.at_ HO.out rfl) _ rfl (fun W => by go_simp; exact rfl) ?_); simp only [Act.put, List.setIfInBounds_toArray, List.set_cons_succ, List.set_cons_zero])
  refine Fork.reads (Fork.at_ HO.out rfl) _ rfl (fun W hW => Arr.ex_load1 rfl rfl (by kernel_rfl) (Fork.bel_cell hW (by assumption))) ?_
  simp only [Act.put, List.setIfInBounds_toArray, List.set_cons_succ, List.set_cons_zero]
  refine Fork.reads (Fork.at_ HO.out rfl) _ rfl (fun W hW => Arr.ex_load1 rfl rfl (by kernel_rfl) (Fork.bel_cell hW (by assumption))) ?_
  simp only [Act.put, List.setIfInBounds_toArray, List.set_cons_succ, List.set_cons_zero]
  refine Fork.step (Fork.at_ HO.out rfl) (fun K hK => ?_)
  go_simp
  refine (HC1.out _).mono ?_
  rintro r w3 ⟨rfl, hd⟩
  refine hK _ _ ⟨fun _ => lo0_drawn hd, fun _ => hd.below⟩ ?_
  clear hK K
  have HX3 := Aside0.mk ((HX0.out.up (Below.refl _ _).drew).up hd.below)
  have HZ3 := Aside0.mk ((HZ0.out.up (Below.refl _ _).drew).up hd.below)
  have HB3 := Aside0.mk (HB0.out.drew.trans (hd.below.mono HB0.out.drew.size))
  clear hd f1 f2
  try simp only [Act.put, List.setIfInBounds_toArray, List.set_cons_succ, List.set_cons_zero]
  ((refine Fork.plain (Fork.at_ HO.out rfl) _ rfl (fun W => by go_simp; exact rfl) ?_); simp only [Act.put, List.setIfInBounds_toArray, List.set_cons_succ, List.set_cons_zero])
  refine Fork.step (Fork.at_ HO.out rfl) (fun K hK => ?_)
  go_simp
  refine (HC2.out _).mono ?_
  rintro r w4 ⟨rfl, hd⟩
  refine hK _ _ ⟨fun _ => lo0_drawn hd, fun _ => hd.below⟩ ?_
  clear hK K
  have HX4 := Aside0.mk (HX3.out.up hd.below)
  have HZ4 := Aside0.mk (HZ3.out.up hd.below)
  have HB4 := Aside0.mk (HB3.out.trans (hd.below.mono HB3.out.size))
  obtain ⟨⟨p0, p1, p2, p3, p4, p5, p6⟩, pf⟩ := HX4.out.cells
  clear hd
  try simp only [Act.put, List.setIfInBounds_toArray, List.set_cons_succ, List.set_cons_zero]
  refine Fork.step (Fork.at_ HO.out rfl) (fun K hK => ?_)
  go_simp
  refine hK _ _ (Fork.Grow.of_old (lo0_set _ _ _ _) rfl) ?_
  clear hK K p0 p1 p2 p3 p4 p5 p6 pf
  have HX7 := Aside0.mk (HX4.out.set4 (.float .f64 (canP rk.b)))
  have HZ7 := Aside0.mk (HZ4.out.ne (B' := w.heap.size) (by omega) 4 (.float .f64 (canP rk.b)))
  have HB7 := Aside0.mk (HB4.out.trans (below_setCell w4 4 (.float .f64 (canP rk.b)) (Nat.le_refl w.heap.size)))
  obtain ⟨⟨p0, p1, p2, p3, p4, p5, p6⟩, pf⟩ := HX7.out.cells
  generalize w4.setCell ⟨w.heap.size, 4, none⟩ (.float .f64 (canP rk.b)) = w7 at HX7 HZ7 HB7 p0 p1 p2 p3 p4 p5 p6 pf ⊢
  try simp only [Act.put, List.setIfInBounds_toArray, List.set_cons_succ, List.set_cons_zero]
  ((refine Fork.plain (Fork.at_ HO.out rfl) _ rfl (fun W => by go_simp; exact rfl) ?_); simp only [Act.put, List.setIfInBounds_toArray, List.set_cons_succ, List.set_cons_zero])
  refine Fork.step (Fork.at_ HO.out rfl) (fun K hK => ?_)
  go_simp
  refine hK _ _ (Fork.Grow.of_old (lo0_set _ _ _ _) rfl) ?_
  clear hK K p0 p1 p2 p3 p4 p5 p6 pf
  have HX9 := Aside0.mk (HX7.out.set5 (.float .f64 (canP es.b)))
  have HZ9 := Aside0.mk (HZ7.out.ne (B' := w.heap.size) (by omega) 5 (.float .f64 (canP es.b)))
  have HB9 := Aside0.mk (HB7.out.trans (below_setCell w7 5 (.float .f64 (canP es.b)) (Nat.le_refl w.heap.size)))
  obtain ⟨⟨p0, p1, p2, p3, p4, p5, p6⟩, pf⟩ := HX9.out.cells
  generalize w7.setCell ⟨w.heap.size, 5, none⟩ (.float .f64 (canP es.b)) = w9 at HX9 HZ9 HB9 p0 p1 p2 p3 p4 p5 p6 pf ⊢
  try simp only [Act.put, List.setIfInBounds_toArray, List.set_cons_succ, List.set_cons_zero]
  refine Fork.done ?_
  have HCL := Aside0.mk (cloneS_any w9 At ct tg (by have := HLL.out; omega) (Kd.C_below HCC.out HB9.out))
  have hz9 := (Array.getElem?_eq_some_iff.1 HZ9.out.at_).1
  have HSZ := Aside0.mk hz9
  clear hz9
  go_wp2_with (first
    | (go_at_call 16; refine HCL.out.mono ?_; rintro e w10 ⟨A2, c2, rfl, hr, hb⟩; have HR10 := Aside0.mk hr; have HB10 := Aside0.mk (HB9.out.trans (hb.mono HB9.out.size)); have HX10 := Aside0.mk (HX9.out.up hb); have HZ10 := Aside0.mk (HZ9.out.up hb); clear hr hb p0 p1 p2 p3 p4 p5 p6 pf)
    | (go_at_call 51; refine (sortS_calls w10 w9.heap.size _ _ tg HR10.out (by have := HLL.out; omega)).mono ?_; rintro e w11 ⟨rfl, hr, hg⟩; have HR11 := Aside0.mk hr; have HK11 := Aside0.mk (own_kept HSZ.out HR10.out.1 HB10.out HX10.out HZ10.out hg); clear hr hg)
    | (go_at_call 52; refine (compS_calls w11 w9.heap.size _ A2 tg.length c2 (sortS tg) HR11.out (by rw [sortS_len]; have := HLL.out; omega)).mono ?_; rintro e w12 ⟨A3, c3, rfl, hr, hg⟩; have HR12 := Aside0.mk hr; have HK12 := Aside0.mk (own_kept HSZ.out HR11.out.1 HK11.out.1 HK11.out.2.1 HK11.out.2.2 hg); obtain ⟨⟨p0, p1, p2, p3, p4, p5, p6⟩, pf⟩ := HK12.out.2.1.cells; obtain ⟨⟨t0, t1, t2, t3, t4, t5, t6⟩, tf⟩ := HK12.out.2.2.cells; clear hr hg))
  (try simp only [Exit.inBlock, Exit.then])
  refine bodyPost_ret (v := .agg #[.int .u64 (id : Int), .int .u64 (li : Int), .string ti, .bool dn, .float .f64 (canP rk.b), .float .f64 (canP es.b), .slice A3 (compS (sortS tg)).length c3]) ?_ rfl ?_
  · rw [results_one rfl]
    go_simp
  · have hs := HSZ.out
    refine ⟨A3, c3, rfl, ?_, below7 (HK12.out.1.trans (below_setCell _ _ _ (Nat.le_refl _))) (by omega) _ _ _ _ _ _ _⟩
    refine Kd.R_mono (Kd.R_move (Kd.R_lower HR12.out (by omega)) fun k hk => ?_) (fun k hk => Nat.le_trans (by omega) hk)
    have hk : w9.heap.size ≤ k := hk
    rw [heap_setCell_ne _ _ _ _ (by omega), heap_setCell_ne _ _ _ _ (by omega), heap_setCell_ne _ _ _ _ (by omega), heap_setCell_ne _ _ _ _ (by omega), heap_setCell_ne _ _ _ _ (by omega), heap_setCell_ne _ _ _ _ (by omega), heap_setCell_ne _ _ _ _ (by omega), heap_setCell_ne _ _ _ _ (by omega)]
end Go.Proofs.YtdjjlmphifgnnaaGreat
namespace Go.Proofs.YtdjjlmphifgnnaaGreat
open Go.RowKit Go.Sort Go.Proofs.YtdjjlmphifgnnaaGreatW.PrintWords Go.Proofs.YtdjjlmphifgnnaaGreatW.PrintLast Go.Proofs.YtdjjlmphifgnnaaGreatW.PrintMore
open Stb (mrg Pre Sorted stb)
open Flt (nanP canP keyP midP)
set_option linter.unusedVariables false
set_option linter.unusedSimpArgs false
attribute [local go_sem] run_store_float
/-- where a task stands in its list -/
def atLP (l : List Tsk) (id : Nat) : Int := match l.find? (fun x => x.id == id) with
  | none => -1
  | some x => idxP (fun y : Tsk => y.id == id) (ordP l x.list) 0
theorem find_no {α : Type} {o : Option α} {y : α} {b : Bool} (h : o = none) (h1 : b = true → o = some y) : b = false := by
  cases b with
  | false => rfl
  | true => rw [h] at h1; cases h1 rfl
theorem find_yes {o : Option Tsk} {x : Tsk} {xi li : Nat} {ti : ByteArray} {dn : Bool} {rk es : W64} {tg : List ByteArray} {b : Bool} (h : o = some x) (h1 : b = true → o = some ⟨xi, li, ti, dn, rk, es, tg⟩) (h2 : b = false → o = none) : b = true ∧ x.list = li := by
  cases b with
  | false => rw [h] at h2; cases h2 rfl
  | true =>
    have := h1 rfl
    rw [h] at this
    injection this with this
    exact ⟨rfl, by rw [this]⟩
set_option maxRecDepth 100000 in
set_option maxHeartbeats 4000000 in
theorem at_calls2 (w : World) (LA TA : Option Addr) (ln lc tc : Nat) (l : List Tsk) (id : Nat) (hT : kT.C w TA l.length l) (hlen : l.length ≤ 1000) (htag : ∀ x ∈ l, x.tags.length ≤ 1000) :
    Calls Tryz.prog 10 #[.agg #[.slice LA ln lc, .slice TA l.length tc], .int .u64 (id : Int)] w fun e w' => e = .returned (.int .i64 (atLP l id)) ∧ Below w.heap.size w w' := by
  have hb := (Below.refl w.heap.size w).alloc (Nat.le_refl _) (.cells #[.slice LA ln lc, .slice TA l.length tc] 25)
  have hbx := box2_at (w := w) (a := .slice LA ln lc) (b := .slice TA l.length tc) (t := 25)
  have HFI := Aside0.mk (find_calls (w.alloc (.cells #[.slice LA ln lc, .slice TA l.length tc] 25)) LA TA ln lc tc l id (Kd.C_below hT hb) htag)
  have HB0 := Aside0.mk hb
  have HBX := Aside0.mk hbx
  have HOR := Aside0.mk (fun (W : World) (hb : Below w.heap.size w W) (li : Nat) => order_calls W LA TA ln lc tc l li (Kd.C_below hT hb) hlen htag)
  have HPL := Aside0.mk (fun (W : World) (A : Option Addr) (c li : Nat) (hC : kT.C W A (ordP l li).length (ordP l li)) => place_calls2 W A c (ordP l li) id hC (by have := ordP_len l li; omega))
  obtain ⟨g0, g1⟩ := two_cells hbx
  clear hb hbx hT hlen htag
  cases hfd : l.find? (fun x => x.id == id) with
  | none =>
    have HN := Aside0.mk hfd
    have HE := Aside0.mk (show atLP l id = -1 from by unfold atLP; rw [hfd])
    clear hfd
    go_enter Tryz.func10, Tryz.ntmps10
    go_wp2_with (first
      | (go_at_call 25; refine HFI.out.mono ?_; rintro e w2 ⟨xi, li, ti, dn, rk, es, At, ct, tg, b, rfl, hb, h1, h2⟩; obtain rfl : b = false := (find_no HN.out (fun h => (h1 h).1)); have HB2 := Aside0.mk (HB0.out.trans (hb.mono HB0.out.size)); clear hb h1 h2))
    go_ret
    exact ⟨by rw [HE.out]; rfl, HB2.out.alloc HB2.out.size _⟩
  | some x =>
    have HN := Aside0.mk hfd
    have HE := Aside0.mk (show atLP l id = idxP (fun y : Tsk => y.id == id) (ordP l x.list) 0 from by unfold atLP; rw [hfd])
    clear hfd
    go_enter Tryz.func10, Tryz.ntmps10
    go_wp2_with (first
      | (go_at_call 25; refine HFI.out.mono ?_; rintro e w2 ⟨xi, li, ti, dn, rk, es, At, ct, tg, b, rfl, hb, h1, h2⟩; obtain ⟨rfl, hli⟩ := (find_yes HN.out (fun h => (h1 h).1) h2); have HLI := Aside0.mk hli; have HB2 := Aside0.mk (HB0.out.trans ((hb.alloc hb.size (.cells #[.int .u64 (xi : Int), .int .u64 (li : Int), .string ti, .bool dn, .float .f64 rk.b, .float .f64 es.b, .slice At tg.length ct] 36)).mono HB0.out.size)); obtain ⟨p0, p1⟩ := two_cells (up2 HBX.out (hb.alloc hb.size (.cells #[.int .u64 (xi : Int), .int .u64 (li : Int), .string ti, .bool dn, .float .f64 rk.b, .float .f64 es.b, .slice At tg.length ct] 36))); clear hb h1 h2 hli)
      | (go_at_call 8; refine (HOR.out _ HB2.out li).mono ?_; intro e w3 hq; obtain ⟨A3, c3, rfl, hC, hb⟩ := ord_reads hq; have HB3 := Aside0.mk (HB2.out.trans (hb.mono HB2.out.size)); have HC3 := Aside0.mk hC; clear hq hC hb)
      | (go_at_call 15; refine (HPL.out w3 A3 c3 li HC3.out).mono ?_; rintro e w4 ⟨rfl, hb⟩; have HB4 := Aside0.mk (HB3.out.trans (hb.mono HB3.out.size)); clear hb))
    go_ret
    exact ⟨by rw [HE.out, HLI.out]; rfl, HB4.out⟩
def ls0 : List Lst := [⟨1, ⟨#[108]⟩⟩]
def l0 : List Tsk := [⟨1, 1, ⟨#[97]⟩, false, ⟨4607182418800017408, by decide⟩, ⟨0, by decide⟩, []⟩, ⟨2, 1, ⟨#[98]⟩, false, ⟨4611686018427387904, by decide⟩, ⟨0, by decide⟩, []⟩]
theorem ordP_l0 : ordP l0 1 = l0 := by
  have h : l0.filter (fun x => x.list == 1) = l0 := rfl
  unfold ordP
  rw [h]
  unfold l0 stb
  simp only [List.foldl_cons, List.foldl_nil, Stb.mrg_nil]
  rw [Stb.mrg_cons, if_pos (by rw [tle_iff]; decide), Stb.mrg_nil]
theorem betP_l0 : betP ls0 l0 1 1 = (4609434218613702656, 0) := by
  have hf : findL ls0 1 = (⟨1, ⟨#[108]⟩⟩, true) := rfl
  unfold betP
  rw [hf, ordP_l0]
  decide
theorem atLP_l0 : atLP l0 2 = 1 := by
  have hf : l0.find? (fun x => x.id == 2) = some ⟨2, 1, ⟨#[98]⟩, false, ⟨4611686018427387904, by decide⟩, ⟨0, by decide⟩, []⟩ := rfl
  unfold atLP
  rw [hf]
  simp only []
  rw [ordP_l0]
  rfl
/-! ### rows that are written out -/
theorem kL_M {w : World} {base : Nat} {ok : Nat → Prop} (x : Lst) : kL.M w base ok x (lsC x) := ⟨[.int .u64 (x.id : Int)], [.string x.name], rfl, rfl, rfl⟩
theorem ls0_C (w : World) (B : Nat) (h : w.heap[B]? = some (.cells #[.int .u64 1, .string ⟨#[108]⟩] 41 (0, 0))) : kL.C w (some ⟨B, 0, none⟩) ls0.length ls0 := by
  have hR : Kd.R kL 41 w 0 (fun _ => True) (.slice (some ⟨B, 0, none⟩) 1 1) ls0 :=
    ⟨fun _ _ => trivial, lsC ⟨1, ⟨#[108]⟩⟩, ⟨rfl, .inr ⟨B, 1, _, rfl, Nat.zero_le _, h, Nat.le_refl _, by decide, rfl, rfl⟩⟩, (Reps.none _ _).snoc (kL_M ⟨1, ⟨#[108]⟩⟩) rfl⟩
  exact (Kd.R_reads' hR).2.2
theorem l0_C (w : World) (B : Nat) (h : w.heap[B]? = some (.cells #[.int .u64 1, .int .u64 1, .string ⟨#[97]⟩, .bool false, .float .f64 4607182418800017408, .float .f64 0, .slice none 0 0, .int .u64 2, .int .u64 1, .string ⟨#[98]⟩, .bool false, .float .f64 4611686018427387904, .float .f64 0, .slice none 0 0] 36 (0, 0))) : kT.C w (some ⟨B, 0, none⟩) l0.length l0 := by
  have hR : Kd.R kT 36 w 0 (fun _ => True) (.slice (some ⟨B, 0, none⟩) 2 2) l0 :=
    ⟨fun _ _ => trivial, tkX ⟨1, 1, ⟨#[97]⟩, false, ⟨4607182418800017408, by decide⟩, ⟨0, by decide⟩, (⟨none, 0, 0⟩, [])⟩ ++ tkX ⟨2, 1, ⟨#[98]⟩, false, ⟨4611686018427387904, by decide⟩, ⟨0, by decide⟩, (⟨none, 0, 0⟩, [])⟩, ⟨rfl, .inr ⟨B, 2, _, rfl, Nat.zero_le _, h, Nat.le_refl _, by decide, rfl, rfl⟩⟩,
      ((Reps.none _ _).snoc (kT_M_mk (x := ⟨1, 1, ⟨#[97]⟩, false, ⟨4607182418800017408, by decide⟩, ⟨0, by decide⟩, (⟨none, 0, 0⟩, [])⟩) (Kd.R_nil _ _ _ _ _)) rfl).snoc (kT_M_mk (x := ⟨2, 1, ⟨#[98]⟩, false, ⟨4611686018427387904, by decide⟩, ⟨0, by decide⟩, (⟨none, 0, 0⟩, [])⟩) (Kd.R_nil _ _ _ _ _)) rfl⟩
  exact (Kd.R_reads' hR).2.2
set_option maxRecDepth 100000 in
set_option maxHeartbeats 4000000 in
theorem awake_calls (w : World) : Calls Tryz.prog 4 #[] w fun e w' => e = .returned (.bool true) ∧ Below w.heap.size w w' := by
  have s1 : (w.alloc (.cells #[.int .u64 1, .string ⟨#[108]⟩] 41)).heap.size = w.heap.size + 1 := Array.size_push _
  have s2 : ((w.alloc (.cells #[.int .u64 1, .string ⟨#[108]⟩] 41)).alloc (.cells #[.int .u64 1, .int .u64 1, .string ⟨#[97]⟩, .bool false, .float .f64 4607182418800017408, .float .f64 0, .slice none 0 0, .int .u64 2, .int .u64 1, .string ⟨#[98]⟩, .bool false, .float .f64 4611686018427387904, .float .f64 0, .slice none 0 0] 36)).heap.size = w.heap.size + 1 + 1 := (Array.size_push _).trans (congrArg (· + 1) s1)
  have b1 := (Below.refl w.heap.size w).alloc (Nat.le_refl _) (.cells #[.int .u64 1, .string ⟨#[108]⟩] 41)
  have b2 := (Below.refl (w.alloc (.cells #[.int .u64 1, .string ⟨#[108]⟩] 41)).heap.size (w.alloc (.cells #[.int .u64 1, .string ⟨#[108]⟩] 41))).alloc (Nat.le_refl _) (.cells #[.int .u64 1, .int .u64 1, .string ⟨#[97]⟩, .bool false, .float .f64 4607182418800017408, .float .f64 0, .slice none 0 0, .int .u64 2, .int .u64 1, .string ⟨#[98]⟩, .bool false, .float .f64 4611686018427387904, .float .f64 0, .slice none 0 0] 36)
  have b3 := (Below.refl ((w.alloc (.cells #[.int .u64 1, .string ⟨#[108]⟩] 41)).alloc (.cells #[.int .u64 1, .int .u64 1, .string ⟨#[97]⟩, .bool false, .float .f64 4607182418800017408, .float .f64 0, .slice none 0 0, .int .u64 2, .int .u64 1, .string ⟨#[98]⟩, .bool false, .float .f64 4611686018427387904, .float .f64 0, .slice none 0 0] 36)).heap.size ((w.alloc (.cells #[.int .u64 1, .string ⟨#[108]⟩] 41)).alloc (.cells #[.int .u64 1, .int .u64 1, .string ⟨#[97]⟩, .bool false, .float .f64 4607182418800017408, .float .f64 0, .slice none 0 0, .int .u64 2, .int .u64 1, .string ⟨#[98]⟩, .bool false, .float .f64 4611686018427387904, .float .f64 0, .slice none 0 0] 36))).alloc (Nat.le_refl _) (.cells #[.slice (some ⟨w.heap.size, 0, none⟩) 1 1, .slice (some ⟨w.heap.size + 1, 0, none⟩) 2 2] 25)
  have k1 : (w.alloc (.cells #[.int .u64 1, .string ⟨#[108]⟩] 41)).heap[w.heap.size]? = some (.cells #[.int .u64 1, .string ⟨#[108]⟩] 41 (0, 0)) := heap_alloc_new w _
  have k2 : ((w.alloc (.cells #[.int .u64 1, .string ⟨#[108]⟩] 41)).alloc (.cells #[.int .u64 1, .int .u64 1, .string ⟨#[97]⟩, .bool false, .float .f64 4607182418800017408, .float .f64 0, .slice none 0 0, .int .u64 2, .int .u64 1, .string ⟨#[98]⟩, .bool false, .float .f64 4611686018427387904, .float .f64 0, .slice none 0 0] 36)).heap[w.heap.size + 1]? = some (.cells #[.int .u64 1, .int .u64 1, .string ⟨#[97]⟩, .bool false, .float .f64 4607182418800017408, .float .f64 0, .slice none 0 0, .int .u64 2, .int .u64 1, .string ⟨#[98]⟩, .bool false, .float .f64 4611686018427387904, .float .f64 0, .slice none 0 0] 36 (0, 0)) := by have h := heap_alloc_new (w.alloc (.cells #[.int .u64 1, .string ⟨#[108]⟩] 41)) (.cells #[.int .u64 1, .int .u64 1, .string ⟨#[97]⟩, .bool false, .float .f64 4607182418800017408, .float .f64 0, .slice none 0 0, .int .u64 2, .int .u64 1, .string ⟨#[98]⟩, .bool false, .float .f64 4611686018427387904, .float .f64 0, .slice none 0 0] 36); rwa [s1] at h
  have k3 : (((w.alloc (.cells #[.int .u64 1, .string ⟨#[108]⟩] 41)).alloc (.cells #[.int .u64 1, .int .u64 1, .string ⟨#[97]⟩, .bool false, .float .f64 4607182418800017408, .float .f64 0, .slice none 0 0, .int .u64 2, .int .u64 1, .string ⟨#[98]⟩, .bool false, .float .f64 4611686018427387904, .float .f64 0, .slice none 0 0] 36)).alloc (.cells #[.slice (some ⟨w.heap.size, 0, none⟩) 1 1, .slice (some ⟨w.heap.size + 1, 0, none⟩) 2 2] 25)).heap[w.heap.size + 1 + 1]? = some (.cells #[.slice (some ⟨w.heap.size, 0, none⟩) 1 1, .slice (some ⟨w.heap.size + 1, 0, none⟩) 2 2] 25 (0, 0)) := by have h := heap_alloc_new ((w.alloc (.cells #[.int .u64 1, .string ⟨#[108]⟩] 41)).alloc (.cells #[.int .u64 1, .int .u64 1, .string ⟨#[97]⟩, .bool false, .float .f64 4607182418800017408, .float .f64 0, .slice none 0 0, .int .u64 2, .int .u64 1, .string ⟨#[98]⟩, .bool false, .float .f64 4611686018427387904, .float .f64 0, .slice none 0 0] 36)) (.cells #[.slice (some ⟨w.heap.size, 0, none⟩) 1 1, .slice (some ⟨w.heap.size + 1, 0, none⟩) 2 2] 25); rwa [s2] at h
  have c1 := Kd.C_below (Kd.C_below (ls0_C _ _ k1) b2) b3
  have c2 := Kd.C_below (l0_C _ _ k2) b3
  have hbb : Below w.heap.size w (((w.alloc (.cells #[.int .u64 1, .string ⟨#[108]⟩] 41)).alloc (.cells #[.int .u64 1, .int .u64 1, .string ⟨#[97]⟩, .bool false, .float .f64 4607182418800017408, .float .f64 0, .slice none 0 0, .int .u64 2, .int .u64 1, .string ⟨#[98]⟩, .bool false, .float .f64 4611686018427387904, .float .f64 0, .slice none 0 0] 36)).alloc (.cells #[.slice (some ⟨w.heap.size, 0, none⟩) 1 1, .slice (some ⟨w.heap.size + 1, 0, none⟩) 2 2] 25)) := (b1.trans (b2.mono b1.size)).trans (b3.mono (Nat.le_trans b1.size b2.size))
  obtain ⟨W0, hW0⟩ : ∃ W0, (((w.alloc (.cells #[.int .u64 1, .string ⟨#[108]⟩] 41)).alloc (.cells #[.int .u64 1, .int .u64 1, .string ⟨#[97]⟩, .bool false, .float .f64 4607182418800017408, .float .f64 0, .slice none 0 0, .int .u64 2, .int .u64 1, .string ⟨#[98]⟩, .bool false, .float .f64 4611686018427387904, .float .f64 0, .slice none 0 0] 36)).alloc (.cells #[.slice (some ⟨w.heap.size, 0, none⟩) 1 1, .slice (some ⟨w.heap.size + 1, 0, none⟩) 2 2] 25)) = W0 := ⟨_, rfl⟩
  rw [hW0] at k3 c1 c2 hbb
  have hbt := between_calls W0 (some ⟨w.heap.size, 0, none⟩) (some ⟨w.heap.size + 1, 0, none⟩) 1 2 ls0 l0 1 1 c1 c2 (by decide) (by decide) (by decide) (by decide)
  rw [betP_l0] at hbt
  have HBT : Aside0 (Calls Tryz.prog 9 #[.agg #[.slice (some ⟨w.heap.size, 0, none⟩) 1 1, .slice (some ⟨w.heap.size + 1, 0, none⟩) 2 2], .int .u64 1, .int .u64 1] W0 fun e w' => e = .returned (.tuple #[.float .f64 4609434218613702656, .int .i64 0]) ∧ Below W0.heap.size W0 w') := ⟨hbt⟩
  have HAT := Aside0.mk (fun (W : World) (hb : Below W0.heap.size W0 W) => at_calls2 W (some ⟨w.heap.size, 0, none⟩) (some ⟨w.heap.size + 1, 0, none⟩) 1 1 2 l0 2 (Kd.C_below c2 hb) (by decide) (by decide))
  rw [atLP_l0] at HAT
  have HW0 := Aside0.mk hW0
  have HK3 := Aside0.mk k3
  have HBB := Aside0.mk hbb
  have o1 : (FloatKind.f64.format.order 4609434218613702656 4607182418800017408 == some .gt) = true := by decide
  have o2 : (FloatKind.f64.format.order 4609434218613702656 4611686018427387904 == some .lt) = true := by decide
  clear s1 s2 b1 b2 b3 k1 k2 k3 c1 c2 hbb hW0 hbt
  go_enter Tryz.func4, Tryz.ntmps4
  go_wp2_with (first
    | (go_at_call 9; rw [HW0.out]; refine HBT.out.mono ?_; rintro e w2 ⟨rfl, hb⟩; have HB2 := Aside0.mk hb; obtain ⟨q0, q1⟩ := two_cells (up2 HK3.out hb); clear hb)
    | (go_at_call 10; refine (HAT.out _ HB2.out).mono ?_; rintro e w3 ⟨rfl, hb⟩; have HB3 := Aside0.mk (HBB.out.trans ((HB2.out.trans (hb.mono HB2.out.size)).mono HBB.out.size)); clear hb))
  go_ret
  exact ⟨rfl, HB3.out⟩
end Go.Proofs.YtdjjlmphifgnnaaGreat
namespace Go.Proofs.YtdjjlmphifgnnaaGreat
open Stb (mrg Pre Sorted stb)
open Flt (nanP canP keyP midP)
set_option linter.unusedVariables false
set_option linter.unusedSimpArgs false
theorem idxP_skip {α : Type} (q : α → Bool) : ∀ (a b : List α) (i : Nat), (∀ x ∈ a, q x = false) → idxP q (a ++ b) i = idxP q b (i + a.length)
  | [], b, i, _ => rfl
  | x :: a, b, i, h => by
    show (if q x then (i : Int) else idxP q (a ++ b) (i + 1)) = _
    rw [h x (List.mem_cons_self ..), idxP_skip q a b (i + 1) (fun y hy => h y (List.mem_cons_of_mem _ hy))]
    simp only [Bool.false_eq_true, if_false, List.length_cons]
    congr 1
    omega
/-- the task that comes in behind place j (0: ahead of all) -/
theorem ord_put {l : List Tsk} {list : Nat} {t : Tsk} (ht : t.list = list) (k : Nat) (hk : k ≤ (ordP l list).length) (c1 : ∀ a, 0 < k → (ordP l list)[k - 1]? = some a → keyP a.rank.b < keyP t.rank.b) (c2 : ∀ a, (ordP l list)[k]? = some a → keyP t.rank.b < keyP a.rank.b) :
    ordP (l ++ [t]) list = (ordP l list).take k ++ t :: (ordP l list).drop k := by
  have e : ordP (l ++ [t]) list = mrg tle (ordP l list) [t] := by
    unfold ordP
    have hf : ([t] : List Tsk).filter (fun x => x.list == list) = [t] := by simp [ht]
    rw [List.filter_append, hf, Stb.stb_snoc]
  rw [e]
  refine Stb.mrg_last tle_pre (Stb.stb_sorted tle_pre _) k hk (fun a h0 ha => ?_) (fun a ha => ?_)
  · exact (tle_iff a t).2 (.inl (c1 a h0 ha))
  · have := c2 a ha
    cases h : tle a t with
    | false => exact h
    | true => have := (tle_iff a t).1 h; omega
def newT (id list : Nat) (f : W64) : Tsk := ⟨id, list, ⟨#[116]⟩, false, f, ⟨0, by decide⟩, []⟩
theorem inf_key : keyP 18442240474082181120 = 4503599627370495 ∧ keyP 9218868437227405312 = 18442240474082181120 := by decide
theorem end_spec {o : List Tsk} {at_ : Int} {f : Nat} (hn : ∀ x ∈ o, nanP x.rank.b = false) (ha : -1 ≤ at_ ∧ at_ < o.length) (h : endP o at_ = (f, 0)) : f < 18446744073709551616 ∧ nanP f = false ∧ keyP (endsP o at_).1 < keyP f ∧ keyP f < keyP (endsP o at_).2 := by
  obtain ⟨q1, q2, q3, q4⟩ := ends_ok hn ha
  unfold endP at h
  cases hm : midP (endsP o at_).1 (endsP o at_).2 with
  | mk g b =>
    rw [hm] at h
    cases b with
    | false => simp at h
    | true =>
      simp at h
      subst h
      obtain ⟨a1, a2, a3, a4⟩ := Flt.mid_between q1 q2 hm
      exact ⟨a4, a3, a1, a2⟩
def behOk (o' : List Tsk) (id after : Nat) : Prop := if after = 0 then idxP (fun x : Tsk => x.id == id) o' 0 = 0 else ∃ j y, idxP (fun x : Tsk => x.id == id) o' 0 = ((j + 1 : Nat) : Int) ∧ o'[j]? = some y ∧ y.id = after
theorem beh_law {ls : List Lst} {l : List Tsk} {list after id f : Nat} (hn : ∀ x ∈ l, nanP x.rank.b = false) (hid : l.find? (fun x => x.id == id) = none) (h : betP ls l list after = (f, 0)) : ∃ hf : f < 18446744073709551616, behOk (ordP (l ++ [newT id list ⟨f, hf⟩]) list) id after := by
  have hni : ∀ x ∈ l, (x.id == id) = false := fun x hx => by
    have := List.find?_eq_none.1 hid x hx
    simpa using this
  have hno : ∀ x ∈ ordP l list, (x.id == id) = false := fun x hx => hni x (ordP_mem.1 hx).1
  have hnn : ∀ x ∈ ordP l list, nanP x.rank.b = false := fun x hx => hn x (ordP_mem.1 hx).1
  unfold betP at h
  split at h
  · cases h
  · unfold behP at h
    by_cases ha : after = 0
    · rw [if_pos ha] at h
      by_cases h0 : (ordP l list).length = 0
      · rw [if_pos h0] at h
        injection h with h
        subst h
        refine ⟨by decide, ?_⟩
        have e := ord_put (l := l) (list := list) (t := newT id list ⟨0, by decide⟩) rfl 0 (Nat.zero_le _) (fun a h => by omega) (fun a h => by have := (List.getElem?_eq_some_iff.1 h).1; omega)
        rw [e]
        unfold behOk
        rw [if_pos ha, List.take_zero, List.nil_append, idxP]
        simp [newT]
      · rw [if_neg h0] at h
        obtain ⟨hf, hnf, h1, h2⟩ := end_spec hnn ⟨by omega, by omega⟩ h
        refine ⟨hf, ?_⟩
        have e := ord_put (l := l) (list := list) (t := newT id list ⟨f, hf⟩) rfl 0 (Nat.zero_le _) (fun a h => by omega) (fun a h => by
          have e2 : (endsP (ordP l list) (-1)).2 = a.rank.b := by
            unfold endsP
            simp only []
            rw [if_pos (by omega)]
            show ((ordP l list).getD 0 zT).rank.b = _
            rw [List.getD_eq_getElem?_getD, h]
            rfl
          rw [e2] at h2
          exact h2)
        rw [e]
        unfold behOk
        rw [if_pos ha, List.take_zero, List.nil_append, idxP]
        simp [newT]
    · rw [if_neg ha] at h
      split at h
      · cases h
      · next hneg =>
        rcases idxP_spec (fun x : Tsk => x.id == after) (ordP l list) 0 with ⟨h1, _, _⟩ | ⟨j, y, h1, h2, h3, _⟩
        · rw [h1] at hneg; exact absurd (by decide) hneg
        · rw [h1, Nat.zero_add] at h
          have hj := (List.getElem?_eq_some_iff.1 h2).1
          obtain ⟨hf, hnf, k1, k2⟩ := end_spec hnn ⟨by omega, by omega⟩ h
          refine ⟨hf, ?_⟩
          have e := ord_put (l := l) (list := list) (t := newT id list ⟨f, hf⟩) rfl (j + 1) (by omega) (fun a _ h => by
            have e2 : (endsP (ordP l list) (j : Int)).1 = a.rank.b := by
              unfold endsP
              simp only []
              rw [if_pos (by omega), Int.toNat_natCast, List.getD_eq_getElem?_getD]
              rw [Nat.add_sub_cancel] at h
              rw [h]
              rfl
            rw [e2] at k1
            exact k1) (fun a h => by
            have hj2 := (List.getElem?_eq_some_iff.1 h).1
            have e2 : (endsP (ordP l list) (j : Int)).2 = a.rank.b := by
              unfold endsP
              simp only []
              rw [if_pos (by omega), show ((j : Int) + 1).toNat = j + 1 by omega, List.getD_eq_getElem?_getD, h]
              rfl
            rw [e2] at k2
            exact k2)
          rw [e]
          unfold behOk
          rw [if_neg ha]
          have hl : ((ordP l list).take (j + 1)).length = j + 1 := by rw [List.length_take]; omega
          refine ⟨j, y, ?_, ?_, by simpa using h3⟩
          · rw [idxP_skip _ _ _ _ (fun x hx => hno x (List.mem_of_mem_take hx)), hl, idxP, Nat.zero_add]
            simp [newT]
          · rw [List.getElem?_append_left (by rw [hl]; omega), List.getElem?_take_of_lt (by omega)]
            exact h2
end Go.Proofs.YtdjjlmphifgnnaaGreat
