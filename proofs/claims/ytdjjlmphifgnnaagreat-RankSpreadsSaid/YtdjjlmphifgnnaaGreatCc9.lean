/- Parts of one proof, joined: Tkf, Tkg, Rkh, Rki. Conditions: those of each statement. -/
import Derived.Test.YtdjjlmphifgnnaaGreatCc8
namespace Go.Proofs.YtdjjlmphifgnnaaGreat
open Go.RowKit Go.Sort Go.Proofs.YtdjjlmphifgnnaaGreatW.PrintWords Go.Proofs.YtdjjlmphifgnnaaGreatW.PrintLast Go.Proofs.YtdjjlmphifgnnaaGreatW.PrintMore
open Flt (nanP canP keyP midP)
set_option linter.unusedVariables false
set_option linter.unusedSimpArgs false
/-- what is wrong with a task -/
def oneP (ls : List Lst) (x : Tsk) : Int :=
  if (findL ls x.list).2 = false then 91 else if titleP x.title = false then 94 else if nanP x.rank.b = true then 100 else if cnP x.rank.b = false then 100 else if cnP x.est.b = false then 90 else tagsP x.tags
theorem two_cells {w : World} {B t : Nat} {a b : Value} (h : w.heap[B]? = some (.cells #[a, b] t (0, 0))) : w.cell? ⟨B, 0, none⟩ = some a ∧ w.cell? ⟨B, 1, none⟩ = some b := by
  refine ⟨?_, ?_⟩ <;> simp [World.cell?, h]
set_option maxRecDepth 100000 in
set_option maxHeartbeats 4000000 in
theorem one_calls (w : World) (LA TA : Option Addr) (lc tn tc : Nat) (ls : List Lst) (id li : Nat) (ti : ByteArray) (dn : Bool) (rk es : W64) (At : Option Addr) (ct : Nat) (tg : List ByteArray) (hL : kL.C w LA ls.length ls) (hln : ls.length ≤ 1000) (hti : ti.size ≤ 100000) (hC : Kd.string.C w At tg.length tg) (htl : tg.length ≤ 100000) (hts : ∀ t ∈ tg, t.size ≤ 100000) :
    Calls Tryz.prog 13 #[.agg #[.slice LA ls.length lc, .slice TA tn tc], .agg #[.int .u64 (id : Int), .int .u64 (li : Int), .string ti, .bool dn, .float .f64 rk.b, .float .f64 es.b, .slice At tg.length ct]] w fun e w' => e = .returned (.int .i64 (oneP ls ⟨id, li, ti, dn, rk, es, tg⟩)) ∧ Below w.heap.size w w' := by
  have hb : Below w.heap.size w ((w.alloc (.cells #[.slice LA ls.length lc, .slice TA tn tc] 25)).alloc (.cells #[.int .u64 (id : Int), .int .u64 (li : Int), .string ti, .bool dn, .float .f64 rk.b, .float .f64 es.b, .slice At tg.length ct] 36)) := ((Below.refl w.heap.size w).alloc (Nat.le_refl _) _).alloc (by rw [World.alloc]; simp) _
  have h34 : ((w.alloc (.cells #[.slice LA ls.length lc, .slice TA tn tc] 25)).alloc (.cells #[.int .u64 (id : Int), .int .u64 (li : Int), .string ti, .bool dn, .float .f64 rk.b, .float .f64 es.b, .slice At tg.length ct] 36)).heap[w.heap.size + 1]? = some (.cells #[.int .u64 (id : Int), .int .u64 (li : Int), .string ti, .bool dn, .float .f64 rk.b, .float .f64 es.b, .slice At tg.length ct] 36 (0, 0)) := by
    have h := heap_alloc_new (w.alloc (.cells #[.slice LA ls.length lc, .slice TA tn tc] 25)) (.cells #[.int .u64 (id : Int), .int .u64 (li : Int), .string ti, .bool dn, .float .f64 rk.b, .float .f64 es.b, .slice At tg.length ct] 36)
    rwa [show (w.alloc (.cells #[.slice LA ls.length lc, .slice TA tn tc] 25)).heap.size = w.heap.size + 1 from Array.size_push _] at h
  obtain ⟨W1, hW1⟩ : ∃ W1, (w.alloc (.cells #[.slice LA ls.length lc, .slice TA tn tc] 25)).alloc (.cells #[.int .u64 (id : Int), .int .u64 (li : Int), .string ti, .bool dn, .float .f64 rk.b, .float .f64 es.b, .slice At tg.length ct] 36) = W1 := ⟨_, rfl⟩
  rw [hW1] at hb h34
  have HX1 := Aside0.mk (Box7.mk h34)
  obtain ⟨⟨⟨xi, xn⟩, b⟩, hf⟩ : ∃ r, findL ls li = r := ⟨_, rfl⟩
  have hli := lists_calls W1 LA TA lc tn tc ls li (Kd.C_below hL hb) (by omega)
  rw [hf] at hli
  have HLI : Aside0 (Calls Tryz.prog 22 #[.agg #[.slice LA ls.length lc, .slice TA tn tc], .int .u64 (li : Int)] W1 fun e w' => e = .returned (.tuple #[.agg #[.int .u64 (xi : Int), .string xn], .bool b]) ∧ Below W1.heap.size W1 w') := ⟨hli⟩
  have HB1 := Aside0.mk hb
  have HW1 := Aside0.mk hW1
  have HTI := Aside0.mk (fun w => title_calls ti w hti)
  have HK1 := Aside0.mk (fun w => canonT_calls rk.b rk.lt w)
  have HK2 := Aside0.mk (fun w => canonT_calls es.b es.lt w)
  have HTG := Aside0.mk (fun (W : World) (hb : Below w.heap.size w W) => tags_calls W At ct tg (Kd.C_below hC hb) htl hts)
  have hnn := fl_ne rk.b
  have HO := Aside0.mk (show oneP ls ⟨id, li, ti, dn, rk, es, tg⟩ = if b = false then 91 else if titleP ti = false then 94 else if nanP rk.b = true then 100 else if cnP rk.b = false then 100 else if cnP es.b = false then 90 else tagsP tg from by
    unfold oneP
    simp only [hf])
  generalize oneP ls ⟨id, li, ti, dn, rk, es, tg⟩ = res at HO ⊢
  generalize titleP ti = pt at HTI HO
  generalize cnP rk.b = pr at HK1 HO
  generalize cnP es.b = pe at HK2 HO
  generalize nanP rk.b = pn at hnn HO
  generalize tagsP tg = pg at HTG HO
  clear hb h34 hL hC htl hts hti hln hli hf hW1
  cases b with
  | false =>
    go_enter Tryz.func13, Tryz.ntmps13
    go_wp2_with (first
      | (go_at_call 22; rw [HW1.out]; refine HLI.out.mono ?_; rintro e w2 ⟨rfl, hb⟩; have HX2 := Aside0.mk (HX1.out.up (hb.alloc hb.size (.cells #[.int .u64 (xi : Int), .string xn] 41))); have HB2 := Aside0.mk (HB1.out.trans ((hb.alloc hb.size (.cells #[.int .u64 (xi : Int), .string xn] 41)).mono HB1.out.size)); obtain ⟨⟨p0, p1, p2, p3, p4, p5, p6⟩, _⟩ := HX2.out.cells; clear hb))
    go_ret
    exact ⟨by rw [HO.out]; rfl, HB2.out⟩
  | true =>
    cases pt with
    | false =>
      go_enter Tryz.func13, Tryz.ntmps13
      go_wp2_with (first
        | (go_at_call 22; rw [HW1.out]; refine HLI.out.mono ?_; rintro e w2 ⟨rfl, hb⟩; have HX2 := Aside0.mk (HX1.out.up (hb.alloc hb.size (.cells #[.int .u64 (xi : Int), .string xn] 41))); have HB2 := Aside0.mk (HB1.out.trans ((hb.alloc hb.size (.cells #[.int .u64 (xi : Int), .string xn] 41)).mono HB1.out.size)); obtain ⟨⟨p0, p1, p2, p3, p4, p5, p6⟩, _⟩ := HX2.out.cells; clear hb)
        | (go_at_call 12; refine (HTI.out _).mono ?_; rintro e w3 ⟨rfl, hb⟩; have HX3 := Aside0.mk (HX2.out.up hb); have HB3 := Aside0.mk (HB2.out.trans (hb.mono HB2.out.size)); obtain ⟨⟨r0, r1, r2, r3, r4, r5, r6⟩, _⟩ := HX3.out.cells; clear hb))
      go_ret
      exact ⟨by rw [HO.out]; rfl, HB3.out⟩
    | true =>
      cases pn with
      | true =>
        go_enter Tryz.func13, Tryz.ntmps13
        go_wp2_with (first
          | (go_at_call 22; rw [HW1.out]; refine HLI.out.mono ?_; rintro e w2 ⟨rfl, hb⟩; have HX2 := Aside0.mk (HX1.out.up (hb.alloc hb.size (.cells #[.int .u64 (xi : Int), .string xn] 41))); have HB2 := Aside0.mk (HB1.out.trans ((hb.alloc hb.size (.cells #[.int .u64 (xi : Int), .string xn] 41)).mono HB1.out.size)); obtain ⟨⟨p0, p1, p2, p3, p4, p5, p6⟩, _⟩ := HX2.out.cells; clear hb)
          | (go_at_call 12; refine (HTI.out _).mono ?_; rintro e w3 ⟨rfl, hb⟩; have HX3 := Aside0.mk (HX2.out.up hb); have HB3 := Aside0.mk (HB2.out.trans (hb.mono HB2.out.size)); obtain ⟨⟨r0, r1, r2, r3, r4, r5, r6⟩, _⟩ := HX3.out.cells; clear hb))
        go_ret
        exact ⟨by rw [HO.out]; rfl, HB3.out⟩
      | false =>
        cases pr with
        | false =>
          go_enter Tryz.func13, Tryz.ntmps13
          go_wp2_with (first
            | (go_at_call 22; rw [HW1.out]; refine HLI.out.mono ?_; rintro e w2 ⟨rfl, hb⟩; have HX2 := Aside0.mk (HX1.out.up (hb.alloc hb.size (.cells #[.int .u64 (xi : Int), .string xn] 41))); have HB2 := Aside0.mk (HB1.out.trans ((hb.alloc hb.size (.cells #[.int .u64 (xi : Int), .string xn] 41)).mono HB1.out.size)); obtain ⟨⟨p0, p1, p2, p3, p4, p5, p6⟩, _⟩ := HX2.out.cells; clear hb)
            | (go_at_call 12; refine (HTI.out _).mono ?_; rintro e w3 ⟨rfl, hb⟩; have HX3 := Aside0.mk (HX2.out.up hb); have HB3 := Aside0.mk (HB2.out.trans (hb.mono HB2.out.size)); obtain ⟨⟨r0, r1, r2, r3, r4, r5, r6⟩, _⟩ := HX3.out.cells; clear hb)
            | (go_at_call 29; refine (HK1.out _).mono ?_; rintro e w4 ⟨rfl, hd⟩; have HX4 := Aside0.mk (HX3.out.up hd.below); have HB4 := Aside0.mk (HB3.out.trans (hd.below.mono HB3.out.size)); obtain ⟨⟨s0, s1, s2, s3, s4, s5, s6⟩, _⟩ := HX4.out.cells; clear hd HK1))
          go_ret
          exact ⟨by rw [HO.out]; rfl, HB4.out⟩
        | true =>
          cases pe with
          | false =>
            go_enter Tryz.func13, Tryz.ntmps13
            go_wp2_with (first
              | (go_at_call 22; rw [HW1.out]; refine HLI.out.mono ?_; rintro e w2 ⟨rfl, hb⟩; have HX2 := Aside0.mk (HX1.out.up (hb.alloc hb.size (.cells #[.int .u64 (xi : Int), .string xn] 41))); have HB2 := Aside0.mk (HB1.out.trans ((hb.alloc hb.size (.cells #[.int .u64 (xi : Int), .string xn] 41)).mono HB1.out.size)); obtain ⟨⟨p0, p1, p2, p3, p4, p5, p6⟩, _⟩ := HX2.out.cells; clear hb)
              | (go_at_call 12; refine (HTI.out _).mono ?_; rintro e w3 ⟨rfl, hb⟩; have HX3 := Aside0.mk (HX2.out.up hb); have HB3 := Aside0.mk (HB2.out.trans (hb.mono HB2.out.size)); obtain ⟨⟨r0, r1, r2, r3, r4, r5, r6⟩, _⟩ := HX3.out.cells; clear hb)
              | (go_at_call 29; refine (HK1.out _).mono ?_; rintro e w4 ⟨rfl, hd⟩; have HX4 := Aside0.mk (HX3.out.up hd.below); have HB4 := Aside0.mk (HB3.out.trans (hd.below.mono HB3.out.size)); obtain ⟨⟨s0, s1, s2, s3, s4, s5, s6⟩, _⟩ := HX4.out.cells; clear hd HK1)
              | (go_at_call 29; refine (HK2.out _).mono ?_; rintro e w5 ⟨rfl, hd⟩; have HX5 := Aside0.mk (HX4.out.up hd.below); have HB5 := Aside0.mk (HB4.out.trans (hd.below.mono HB4.out.size)); obtain ⟨⟨u0, u1, u2, u3, u4, u5, u6⟩, _⟩ := HX5.out.cells; clear hd HK2))
            go_ret
            exact ⟨by rw [HO.out]; rfl, HB5.out⟩
          | true =>
            go_enter Tryz.func13, Tryz.ntmps13
            go_wp2_with (first
              | (go_at_call 22; rw [HW1.out]; refine HLI.out.mono ?_; rintro e w2 ⟨rfl, hb⟩; have HX2 := Aside0.mk (HX1.out.up (hb.alloc hb.size (.cells #[.int .u64 (xi : Int), .string xn] 41))); have HB2 := Aside0.mk (HB1.out.trans ((hb.alloc hb.size (.cells #[.int .u64 (xi : Int), .string xn] 41)).mono HB1.out.size)); obtain ⟨⟨p0, p1, p2, p3, p4, p5, p6⟩, _⟩ := HX2.out.cells; clear hb)
              | (go_at_call 12; refine (HTI.out _).mono ?_; rintro e w3 ⟨rfl, hb⟩; have HX3 := Aside0.mk (HX2.out.up hb); have HB3 := Aside0.mk (HB2.out.trans (hb.mono HB2.out.size)); obtain ⟨⟨r0, r1, r2, r3, r4, r5, r6⟩, _⟩ := HX3.out.cells; clear hb)
              | (go_at_call 29; refine (HK1.out _).mono ?_; rintro e w4 ⟨rfl, hd⟩; have HX4 := Aside0.mk (HX3.out.up hd.below); have HB4 := Aside0.mk (HB3.out.trans (hd.below.mono HB3.out.size)); obtain ⟨⟨s0, s1, s2, s3, s4, s5, s6⟩, _⟩ := HX4.out.cells; clear hd HK1)
              | (go_at_call 29; refine (HK2.out _).mono ?_; rintro e w5 ⟨rfl, hd⟩; have HX5 := Aside0.mk (HX4.out.up hd.below); have HB5 := Aside0.mk (HB4.out.trans (hd.below.mono HB4.out.size)); obtain ⟨⟨u0, u1, u2, u3, u4, u5, u6⟩, _⟩ := HX5.out.cells; clear hd HK2)
              | (go_at_call 30; refine (HTG.out _ HB5.out).mono ?_; rintro e w6 ⟨rfl, hb⟩; have HB6 := Aside0.mk (HB5.out.trans (hb.mono HB5.out.size)); clear hb))
            go_ret
            exact ⟨by rw [HO.out]; rfl, HB6.out⟩
end Go.Proofs.YtdjjlmphifgnnaaGreat
namespace Go.Proofs.YtdjjlmphifgnnaaGreat
open Go.RowKit Go.Sort Go.Proofs.YtdjjlmphifgnnaaGreatW.PrintWords Go.Proofs.YtdjjlmphifgnnaaGreatW.PrintLast Go.Proofs.YtdjjlmphifgnnaaGreatW.PrintMore
open Flt (nanP canP keyP midP)
set_option linter.unusedVariables false
set_option linter.unusedSimpArgs false
structure Mild (ls : List Lst) (l : List Tsk) : Prop where
  nl : ls.length ≤ 1000
  nt : l.length ≤ 1000
  names : ∀ x ∈ ls, x.name.size ≤ 1000
  titles : ∀ x ∈ l, x.title.size ≤ 1000
  ntags : ∀ x ∈ l, x.tags.length ≤ 1000
  tags : ∀ x ∈ l, ∀ t ∈ x.tags, t.size ≤ 1000
def listsP : Nat → List Lst → Int
  | _, [] => 0
  | a, x :: r => if x.id ≤ a then 91 else if titleP x.name = false then 94 else listsP x.id r
def tasksP (ls : List Lst) : Nat → List Tsk → Int
  | _, [] => 0
  | a, x :: r => if x.id ≤ a then 93 else if oneP ls x = 0 then tasksP ls x.id r else oneP ls x
def rightP (ls : List Lst) (l : List Tsk) : Int := if 20 < ls.length then 95 else if 60 < l.length then 95 else if listsP 0 ls = 0 then tasksP ls 0 l else listsP 0 ls
theorem listsP_at {ls : List Lst} {i a : Nat} {x : Lst} (hx : ls[i]? = some x) : listsP a (ls.drop i) = if x.id ≤ a then 91 else if titleP x.name = false then 94 else listsP x.id (ls.drop (i + 1)) := by
  rw [List.drop_eq_getElem_cons (List.getElem?_eq_some_iff.1 hx).1, (List.getElem?_eq_some_iff.1 hx).2]
  rfl
theorem tasksP_at {ls : List Lst} {l : List Tsk} {i a : Nat} {x : Tsk} (hx : l[i]? = some x) : tasksP ls a (l.drop i) = if x.id ≤ a then 93 else if oneP ls x = 0 then tasksP ls x.id (l.drop (i + 1)) else oneP ls x := by
  rw [List.drop_eq_getElem_cons (List.getElem?_eq_some_iff.1 hx).1, (List.getElem?_eq_some_iff.1 hx).2]
  rfl
theorem box2_at {w : World} {a b : Value} {t : Nat} : (w.alloc (.cells #[a, b] t)).heap[w.heap.size]? = some (.cells #[a, b] t (0, 0)) := heap_alloc_new w _
theorem up2 {w w' : World} {B t : Nat} {a b : Value} (h : w.heap[B]? = some (.cells #[a, b] t (0, 0))) (hb : Below w.heap.size w w') : w'.heap[B]? = some (.cells #[a, b] t (0, 0)) := (hb.block B (Array.getElem?_eq_some_iff.1 h).1).trans h
attribute [local go_sem] run_store_float
set_option maxRecDepth 100000 in
set_option maxHeartbeats 8000000 in
theorem right_calls (w : World) (LA TA : Option Addr) (lc tc : Nat) (ls : List Lst) (l : List Tsk) (hL : kL.C w LA ls.length ls) (hT : kT.C w TA l.length l) (hM : Mild ls l) :
    Calls Tryz.prog 6 #[.agg #[.slice LA ls.length lc, .slice TA l.length tc]] w fun e w' => e = .returned (.int .i64 (rightP ls l)) ∧ Below w.heap.size w w' := by
  obtain ⟨xs, hxs, hX, hF⟩ := rawT_of hT
  have hxl : xs.length = l.length := by rw [← hxs, List.length_map]
  have hb := (Below.refl w.heap.size w).alloc (Nat.le_refl _) (.cells #[.slice LA ls.length lc, .slice TA l.length tc] 25)
  have hbx := box2_at (w := w) (a := .slice LA ls.length lc) (b := .slice TA l.length tc) (t := 25)
  have HM := Aside0.mk hM
  by_cases h1 : 20 < ls.length
  · have HR := Aside0.mk (show rightP ls l = 95 from by unfold rightP; rw [if_pos h1])
    have c1 : (20 : Int) < (ls.length : Int) := by omega
    have HB := Aside0.mk hb
    clear hL hT hM hxs hX hF hxl hb hbx h1
    go_enter Tryz.func6, Tryz.ntmps6
    go_wp2
    go_ret
    exact ⟨by rw [HR.out]; rfl, HB.out⟩
  · by_cases h2 : 60 < l.length
    · have HR := Aside0.mk (show rightP ls l = 95 from by unfold rightP; rw [if_neg h1, if_pos h2])
      have c1 : ¬ ((20 : Int) < (ls.length : Int)) := by omega
      have c2 : (60 : Int) < (l.length : Int) := by omega
      have HB := Aside0.mk hb
      clear hL hT hM hxs hX hF hxl hb hbx h1 h2
      go_enter Tryz.func6, Tryz.ntmps6
      go_wp2
      go_ret
      exact ⟨by rw [HR.out]; rfl, HB.out⟩
    · have HR := Aside0.mk (show rightP ls l = if listsP 0 ls = 0 then tasksP ls 0 l else listsP 0 ls from by unfold rightP; rw [if_neg h1, if_neg h2])
      have c1 : ¬ ((20 : Int) < (ls.length : Int)) := by omega
      have c2 : ¬ ((60 : Int) < (l.length : Int)) := by omega
      have HL := Aside0.mk hL
      have HX := Aside0.mk hX
      have HF := Aside0.mk hF
      have HXS := Aside0.mk hxs
      have HXL := Aside0.mk hxl
      have HB0 := Aside0.mk hb
      have HBX0 := Aside0.mk hbx
      have hln : (ls.length : Int) ≤ 20 := by omega
      have htn : (l.length : Int) ≤ 60 := by omega
      obtain ⟨g0, g1⟩ := two_cells hbx
      clear hL hT hM hxs hX hF hxl hb hbx h1 h2
      go_enter Tryz.func6, Tryz.ntmps6
      go_wp2
      clear c1 c2 g0 g1
      go_loopg [3, 5, 22] ls.length (fun kq v3 v5 v22 w' => ∃ (i a : Nat), v22 = .int .i64 (i : Int) ∧ v3 = .int .u64 (a : Int) ∧ Aside0 (i + kq = ls.length) ∧ Aside0 (listsP a (ls.drop i) = listsP 0 ls) ∧ Aside0 (Below w.heap.size w w') ∧ Aside0 (w'.heap[w.heap.size]? = some (.cells #[.slice LA ls.length lc, .slice TA l.length tc] 25 (0, 0))))
      case atStart => exact ⟨0, 0, rfl, rfl, ⟨by omega⟩, ⟨rfl⟩, HB0, HBX0⟩
      case round =>
        obtain ⟨i, a, rfl, rfl, HI, HP, HB, HBX⟩ := hrel
        by_cases hi : i < ls.length
        · have hi0 := HI.out
          obtain ⟨x, hx⟩ : ∃ x, ls[i]? = some x := ⟨ls[i]'hi, List.getElem?_eq_getElem _⟩
          obtain ⟨ad, e, y0, y1⟩ := kL_get HL.out hx
          have HG := Aside0.mk ((listsP_at hx).symm.trans HP.out)
          have HNM := Aside0.mk (HM.out.names x (List.mem_of_getElem? hx))
          subst e
          obtain ⟨xi, xn⟩ := x
          simp only at y0 y1
          replace y0 := pw_cell_below HB.out y0
          replace y1 := pw_cell_below HB.out y1
          have hiz : (i : Int) < (ls.length : Int) := by omega
          have HBA := Aside0.mk (HB.out.alloc HB.out.size (.cells #[.int .u64 (xi : Int), .string xn] 41))
          have HA := Aside0.mk ((Below.refl wr.heap.size wr).alloc (Nat.le_refl _) (.cells #[.int .u64 (xi : Int), .string xn] 41))
          have HNX := Aside0.mk (box2_at (w := wr) (a := .int .u64 (xi : Int)) (b := .string xn) (t := 41))
          obtain ⟨gq, rfl⟩ : ∃ gq, gk = gq + 1 := ⟨gk - 1, by omega⟩
          by_cases hle : xi ≤ a
          · have HE := Aside0.mk (show listsP 0 ls = 91 from by rw [← HG.out]; exact if_pos hle)
            clear hx
            go_wp2
            go_ret
            exact ⟨by rw [HR.out, HE.out]; rfl, HBA.out⟩
          · have HTI := Aside0.mk (fun w => title_calls xn w (by have := HNM.out; simp only at this; omega))
            cases hq : titleP xn with
            | false =>
              have HE := Aside0.mk (show listsP 0 ls = 94 from by rw [← HG.out]; simp only [hle, hq, if_false, if_true])
              rw [hq] at HTI
              clear hx hq
              go_wp2_with (first
                | (go_at_call 12; refine (HTI.out _).mono ?_; rintro e w3 ⟨rfl, hb⟩; have HB3 := Aside0.mk (HBA.out.trans (hb.mono HBA.out.size)); clear hb))
              go_ret
              exact ⟨by rw [HR.out, HE.out]; rfl, HB3.out⟩
            | true =>
              have HE := Aside0.mk (show listsP xi (ls.drop (i + 1)) = listsP 0 ls from by rw [← HG.out]; simp only [hle, hq, if_false, Bool.true_eq_false])
              rw [hq] at HTI
              clear hx hq
              go_wp2_with (first
                | (go_at_call 12; refine (HTI.out _).mono ?_; rintro e w3 ⟨rfl, hb⟩; have HB3 := Aside0.mk (HBA.out.trans (hb.mono HBA.out.size)); have HBX3 := Aside0.mk (up2 (up2 HBX.out HA.out) hb); obtain ⟨n0, n1⟩ := two_cells (up2 HNX.out hb); clear hb))
              go_roundg gq
              case rel => exact ⟨i + 1, xi, by go_num, rfl, ⟨by omega⟩, HE, HB3, HBX3⟩
              case measure => omega
        · have hi0 := HI.out
          obtain rfl : gk = 0 := by omega
          obtain rfl : i = ls.length := by omega
          clear hi0
          have hm : ¬ ((ls.length : Int) < (ls.length : Int)) := by omega
          have HE := Aside0.mk (show listsP 0 ls = 0 from by rw [← HP.out, List.drop_length]; rfl)
          obtain ⟨g0, g1⟩ := two_cells HBX.out
          obtain ⟨wo, rfl⟩ : ∃ wo, wo = wr := ⟨_, rfl⟩
          go_wp2
          clear g0 g1
          go_loopg [3, 7, 8, 40] l.length (fun kq v3 v7 v8 v40 w' => ∃ (i a : Nat), v40 = .int .i64 (i : Int) ∧ v3 = .int .u64 (a : Int) ∧ Aside0 (i + kq = l.length) ∧ Aside0 (tasksP ls a (l.drop i) = tasksP ls 0 l) ∧ Aside0 (Below w.heap.size w w') ∧ Aside0 (w'.heap[w.heap.size]? = some (.cells #[.slice LA ls.length lc, .slice TA l.length tc] 25 (0, 0))))
          case atStart => exact ⟨0, 0, rfl, rfl, ⟨by omega⟩, ⟨rfl⟩, HB, HBX⟩
          case round =>
            replace HR := Aside0.mk (show rightP ls l = tasksP ls 0 l from by rw [HR.out, if_pos HE.out])
            clear HB HBX HP HI
            obtain ⟨i, a, rfl, rfl, HI, HP, HB, HBX⟩ := hrel
            by_cases hi : i < l.length
            · have hi0 := HI.out
              obtain ⟨x, hx⟩ : ∃ x, xs[i]? = some x := ⟨xs[i]'(by rw [HXL.out]; exact hi), List.getElem?_eq_getElem _⟩
              have hlx : l[i]? = some (deep x) := by rw [← HXS.out, List.getElem?_map, hx]; rfl
              obtain ⟨ad, e, y0, y1, y2, y3, y4, y5, y6⟩ := rawT_get HX.out hx
              subst e
              have HFx := Aside0.mk (HF.out x (List.mem_of_getElem? hx))
              have hmem := List.mem_of_getElem? hlx
              have HG := Aside0.mk ((tasksP_at (ls := ls) hlx).symm.trans HP.out)
              have HT1 := Aside0.mk (HM.out.titles _ hmem)
              have HT2 := Aside0.mk (HM.out.ntags _ hmem)
              have HT3 := Aside0.mk (HM.out.tags _ hmem)
              obtain ⟨id, li, ti, dn, rk, es, ⟨⟨At, nt, ct⟩, tg⟩⟩ := x
              have hnt : nt = tg.length := HFx.out.1
              subst hnt
              simp only [Sl.v] at y0 y1 y2 y3 y4 y5 y6
              rw [HXL.out] at HX
              replace y0 := pw_cell_below HB.out y0
              replace y1 := pw_cell_below HB.out y1
              replace y2 := pw_cell_below HB.out y2
              replace y3 := pw_cell_below HB.out y3
              replace y4 := pw_cell_below HB.out y4
              replace y5 := pw_cell_below HB.out y5
              replace y6 := pw_cell_below HB.out y6
              have hiz : (i : Int) < (l.length : Int) := by omega
              have HA := Aside0.mk ((Below.refl wr.heap.size wr).alloc (Nat.le_refl _) (.cells #[.int .u64 (id : Int), .int .u64 (li : Int), .string ti, .bool dn, .float .f64 rk.b, .float .f64 es.b, .slice At tg.length ct] 36))
              have HBA := Aside0.mk (HB.out.trans (HA.out.mono HB.out.size))
              have HNX := Aside0.mk (Box7.mk (heap_alloc_new wr (.cells #[.int .u64 (id : Int), .int .u64 (li : Int), .string ti, .bool dn, .float .f64 rk.b, .float .f64 es.b, .slice At tg.length ct] 36)))
              obtain ⟨q0, q1⟩ := two_cells (up2 HBX.out HA.out)
              obtain ⟨gq, rfl⟩ : ∃ gq, gk = gq + 1 := ⟨gk - 1, by omega⟩
              have hdp : deep ⟨id, li, ti, dn, rk, es, (⟨At, tg.length, ct⟩, tg)⟩ = ⟨id, li, ti, dn, rk, es, tg⟩ := rfl
              rw [hdp] at HG HT1 HT2 HT3
              by_cases hle : id ≤ a
              · have HE2 := Aside0.mk (show tasksP ls 0 l = 93 from by rw [← HG.out]; exact if_pos hle)
                clear hx hlx hmem hdp
                go_wp2
                go_ret
                exact ⟨by rw [HR.out, HE2.out]; rfl, HBA.out⟩
              · have HON := Aside0.mk (one_calls (wr.alloc (.cells #[.int .u64 (id : Int), .int .u64 (li : Int), .string ti, .bool dn, .float .f64 rk.b, .float .f64 es.b, .slice At tg.length ct] 36)) LA (some ad) lc l.length tc ls id li ti dn rk es At ct tg (Kd.C_below HL.out HBA.out) HM.out.nl (by have h : ti.size ≤ 1000 := HT1.out; omega) (Kd.C_below HFx.out.2.2 HBA.out) (by have h : tg.length ≤ 1000 := HT2.out; omega) (fun t ht => by have h : t.size ≤ 1000 := HT3.out t ht; omega))
                have HGE := Aside0.mk (show tasksP ls 0 l = if oneP ls ⟨id, li, ti, dn, rk, es, tg⟩ = 0 then tasksP ls id (l.drop (i + 1)) else oneP ls ⟨id, li, ti, dn, rk, es, tg⟩ from by rw [← HG.out]; exact if_neg hle)
                generalize oneP ls ⟨id, li, ti, dn, rk, es, tg⟩ = r at HON HGE
                by_cases hr : r = 0
                · subst hr
                  have HE2 := Aside0.mk (show tasksP ls id (l.drop (i + 1)) = tasksP ls 0 l from by rw [HGE.out, if_pos rfl])
                  clear hx hlx hmem hdp
                  go_wp2_with (first
                    | (go_at_call 13; refine HON.out.mono ?_; rintro e w3 ⟨rfl, hb⟩; have HB3 := Aside0.mk (HBA.out.trans (hb.mono HBA.out.size)); have HBX3 := Aside0.mk (up2 (up2 HBX.out HA.out) hb); obtain ⟨⟨n0, n1, n2, n3, n4, n5, n6⟩, _⟩ := (HNX.out.up hb).cells; clear hb))
                  go_roundg gq
                  case rel => exact ⟨i + 1, id, by go_num, rfl, ⟨by omega⟩, HE2, HB3, HBX3⟩
                  case measure => omega
                · have HE2 := Aside0.mk (show tasksP ls 0 l = r from by rw [HGE.out, if_neg hr])
                  have hr2 : (r != 0) = true := by simpa using hr
                  clear hx hlx hmem hdp
                  go_wp2_with (first
                    | (go_at_call 13; refine HON.out.mono ?_; rintro e w3 ⟨rfl, hb⟩; have HB3 := Aside0.mk (HBA.out.trans (hb.mono HBA.out.size)); have HBX3 := Aside0.mk (up2 (up2 HBX.out HA.out) hb); obtain ⟨⟨n0, n1, n2, n3, n4, n5, n6⟩, _⟩ := (HNX.out.up hb).cells; clear hb))
                  go_ret
                  exact ⟨by rw [HR.out, HE2.out]; rfl, HB3.out⟩
            · have hi0 := HI.out
              obtain rfl : gk = 0 := by omega
              obtain rfl : i = l.length := by omega
              clear hi0
              have hm2 : ¬ ((l.length : Int) < (l.length : Int)) := by omega
              have HE2 := Aside0.mk (show tasksP ls 0 l = 0 from by rw [← HP.out, List.drop_length]; rfl)
              go_wp2
              go_ret
              exact ⟨by rw [HR.out, HE2.out]; rfl, HB.out⟩
end Go.Proofs.YtdjjlmphifgnnaaGreat
namespace Go.Proofs.YtdjjlmphifgnnaaGreat
open Go.RowKit Go.Sort Go.Proofs.YtdjjlmphifgnnaaGreatW.PrintWords Go.Proofs.YtdjjlmphifgnnaaGreatW.PrintLast Go.Proofs.YtdjjlmphifgnnaaGreatW.PrintMore
open Flt (nanP canP keyP midP)
set_option linter.unusedVariables false
set_option linter.unusedSimpArgs false
def textsP (l : List ByteArray) : Bool := l.all (fun t => decide (t.size ≤ 100)) && decide (l.length ≤ 8)
set_option maxRecDepth 100000 in
set_option maxHeartbeats 2000000 in
theorem texts_calls (w : World) (A : Option Addr) (c : Nat) (l : List ByteArray) (hC : Kd.string.C w A l.length l) :
    Calls Tryz.prog 11 #[.slice A l.length c] w fun e w' => e = .returned (.bool (textsP l)) ∧ Below w.heap.size w w' := by
  have HC := Aside0.mk hC
  have hxn : (l.length : Int) ≤ 9223372036854775807 := by have := hC.2.1; omega
  clear hC
  go_enter Tryz.func11, Tryz.ntmps11
  go_wp2
  go_loopg [4, 7] l.length (fun kq v4 v7 w' => ∃ (i : Nat), v7 = .int .i64 (i : Int) ∧ Aside0 (i + kq = l.length) ∧ Aside0 ((l.take i).all (fun t => decide (t.size ≤ 100)) = true) ∧ Aside0 (Below w.heap.size w w'))
  case atStart => exact ⟨0, rfl, ⟨by omega⟩, ⟨by rw [List.take_zero]; rfl⟩, ⟨Below.refl _ _⟩⟩
  case round =>
    obtain ⟨i, rfl, HI, HP, HB⟩ := hrel
    by_cases hi : i < l.length
    · have hi0 := HI.out
      obtain ⟨t, ht⟩ : ∃ t, l[i]? = some t := ⟨l[i]'hi, List.getElem?_eq_getElem _⟩
      obtain ⟨ad, e, y0⟩ := strs_get HC.out ht
      replace y0 := pw_cell_below HB.out y0
      have hiz : (i : Int) < (l.length : Int) := by omega
      obtain ⟨gq, rfl⟩ : ∃ gq, gk = gq + 1 := ⟨gk - 1, by omega⟩
      subst e
      by_cases hq : t.size ≤ 100
      · have HE := Aside0.mk (all_step HP.out ht (decide_eq_true hq))
        have c1 : ¬ ((100 : Int) < (t.size : Int)) := by omega
        clear hq ht
        go_wp2
        go_roundg gq
        case rel => exact ⟨i + 1, by go_num, ⟨by omega⟩, HE, HB⟩
        case measure => omega
      · have HE := Aside0.mk (show textsP l = false from by unfold textsP; rw [all_bad ht (decide_eq_false hq)]; rfl)
        have c1 : (100 : Int) < (t.size : Int) := by omega
        clear hq ht
        go_wp2
        go_ret
        exact ⟨by rw [HE.out]; rfl, HB.out⟩
    · have hi0 := HI.out
      obtain rfl : gk = 0 := by omega
      obtain rfl : i = l.length := by omega
      clear hi0
      have hm : ¬ ((l.length : Int) < (l.length : Int)) := by omega
      have HE := Aside0.mk (show textsP l = decide (l.length ≤ 8) from by have h := HP.out; rw [List.take_length] at h; unfold textsP; rw [h]; rfl)
      go_wp2
      go_ret
      exact ⟨by rw [HE.out]; show Ending.returned (Value.bool (decide ((l.length : Int) ≤ 8))) = _; rw [show decide ((l.length : Int) ≤ 8) = decide (l.length ≤ 8) from by rw [decide_eq_decide]; omega], HB.out⟩
end Go.Proofs.YtdjjlmphifgnnaaGreat
namespace Go.Proofs.YtdjjlmphifgnnaaGreat
open Go.RowKit Go.Sort Go.Proofs.YtdjjlmphifgnnaaGreatW.PrintWords Go.Proofs.YtdjjlmphifgnnaaGreatW.PrintLast Go.Proofs.YtdjjlmphifgnnaaGreatW.PrintMore
open Flt (nanP canP keyP midP)
set_option linter.unusedVariables false
set_option linter.unusedSimpArgs false
def lgtL (x : Lst) : Bool := decide (x.name.size ≤ 100)
def lgtT (x : Tsk) : Bool := decide (x.title.size ≤ 100) && textsP x.tags
def lightP (ls : List Lst) (l : List Tsk) : Bool := decide (ls.length ≤ 25) && decide (l.length ≤ 70) && ls.all lgtL && l.all lgtT
theorem lightP_mild {ls : List Lst} {l : List Tsk} (h : lightP ls l = true) : ls.length ≤ 25 ∧ l.length ≤ 70 ∧ Mild ls l := by
  unfold lightP at h
  simp only [Bool.and_eq_true, decide_eq_true_eq] at h
  obtain ⟨⟨⟨h1, h2⟩, h3⟩, h4⟩ := h
  have hn := fun x hx => of_decide_eq_true (List.all_eq_true.1 h3 x hx)
  have ht : ∀ x ∈ l, x.title.size ≤ 100 ∧ x.tags.length ≤ 8 ∧ ∀ t ∈ x.tags, t.size ≤ 100 := fun x hx => by
    have h := List.all_eq_true.1 h4 x hx
    unfold lgtT textsP at h
    simp only [Bool.and_eq_true, decide_eq_true_eq] at h
    exact ⟨h.1, h.2.2, fun t ht => of_decide_eq_true (List.all_eq_true.1 h.2.1 t ht)⟩
  exact ⟨h1, h2, ⟨by omega, by omega, fun x hx => by have := hn x hx; omega, fun x hx => by have := (ht x hx).1; omega, fun x hx => by have := (ht x hx).2.1; omega, fun x hx t h => by have := (ht x hx).2.2 t h; omega⟩⟩
attribute [local go_sem] run_store_float
set_option maxRecDepth 100000 in
set_option maxHeartbeats 8000000 in
theorem light_calls (w : World) (LA TA : Option Addr) (lc tc : Nat) (ls : List Lst) (l : List Tsk) (hL : kL.C w LA ls.length ls) (hT : kT.C w TA l.length l) :
    Calls Tryz.prog 5 #[.agg #[.slice LA ls.length lc, .slice TA l.length tc]] w fun e w' => e = .returned (.bool (lightP ls l)) ∧ Below w.heap.size w w' := by
  obtain ⟨xs, hxs, hX, hF⟩ := rawT_of hT
  have hxl : xs.length = l.length := by rw [← hxs, List.length_map]
  have hb := (Below.refl w.heap.size w).alloc (Nat.le_refl _) (.cells #[.slice LA ls.length lc, .slice TA l.length tc] 25)
  have hbx := box2_at (w := w) (a := .slice LA ls.length lc) (b := .slice TA l.length tc) (t := 25)
  by_cases h1 : 25 < ls.length
  · have HR := Aside0.mk (show lightP ls l = false from by unfold lightP; rw [decide_eq_false (show ¬ ls.length ≤ 25 by omega)]; rfl)
    have c1 : (25 : Int) < (ls.length : Int) := by omega
    have HB := Aside0.mk hb
    clear hL hT hxs hX hF hxl hb hbx h1
    go_enter Tryz.func5, Tryz.ntmps5
    go_wp2
    go_ret
    exact ⟨by rw [HR.out]; rfl, HB.out⟩
  · by_cases h2 : 70 < l.length
    · have HR := Aside0.mk (show lightP ls l = false from by unfold lightP; rw [decide_eq_false (show ¬ l.length ≤ 70 by omega), Bool.and_false]; rfl)
      have c1 : ¬ ((25 : Int) < (ls.length : Int)) := by omega
      have c2 : (70 : Int) < (l.length : Int) := by omega
      have HB := Aside0.mk hb
      clear hL hT hxs hX hF hxl hb hbx h1 h2
      go_enter Tryz.func5, Tryz.ntmps5
      go_wp2
      go_ret
      exact ⟨by rw [HR.out]; rfl, HB.out⟩
    · have HR := Aside0.mk (show lightP ls l = (ls.all lgtL && l.all lgtT) from by unfold lightP; rw [decide_eq_true (show ls.length ≤ 25 by omega), decide_eq_true (show l.length ≤ 70 by omega)]; rfl)
      have c1 : ¬ ((25 : Int) < (ls.length : Int)) := by omega
      have c2 : ¬ ((70 : Int) < (l.length : Int)) := by omega
      have HL := Aside0.mk hL
      have HX := Aside0.mk hX
      have HF := Aside0.mk hF
      have HXS := Aside0.mk hxs
      have HXL := Aside0.mk hxl
      have HB0 := Aside0.mk hb
      have HBX0 := Aside0.mk hbx
      have hln : (ls.length : Int) ≤ 25 := by omega
      have htn : (l.length : Int) ≤ 70 := by omega
      obtain ⟨g0, g1⟩ := two_cells hbx
      clear hL hT hxs hX hF hxl hb hbx h1 h2
      go_enter Tryz.func5, Tryz.ntmps5
      go_wp2
      clear c1 c2 g0 g1
      go_loopg [4, 20] ls.length (fun kq v4 v20 w' => ∃ (i : Nat), v20 = .int .i64 (i : Int) ∧ Aside0 (i + kq = ls.length) ∧ Aside0 ((ls.take i).all lgtL = true) ∧ Aside0 (Below w.heap.size w w') ∧ Aside0 (w'.heap[w.heap.size]? = some (.cells #[.slice LA ls.length lc, .slice TA l.length tc] 25 (0, 0))))
      case atStart => exact ⟨0, rfl, ⟨by omega⟩, ⟨by rw [List.take_zero]; rfl⟩, HB0, HBX0⟩
      case round =>
        obtain ⟨i, rfl, HI, HP, HB, HBX⟩ := hrel
        by_cases hi : i < ls.length
        · have hi0 := HI.out
          obtain ⟨x, hx⟩ : ∃ x, ls[i]? = some x := ⟨ls[i]'hi, List.getElem?_eq_getElem _⟩
          obtain ⟨ad, e, y0, y1⟩ := kL_get HL.out hx
          have HST := fun h => Aside0.mk (all_step HP.out hx h)
          have HBD := fun h => Aside0.mk (all_bad (q := lgtL) hx h)
          subst e
          obtain ⟨xi, xn⟩ := x
          simp only at y0 y1
          replace y0 := pw_cell_below HB.out y0
          replace y1 := pw_cell_below HB.out y1
          have hiz : (i : Int) < (ls.length : Int) := by omega
          have HA := (Below.refl wr.heap.size wr).alloc (Nat.le_refl _) (.cells #[.int .u64 (xi : Int), .string xn] 41)
          have HBA := Aside0.mk (HB.out.trans (HA.mono HB.out.size))
          have HBX2 := Aside0.mk (up2 HBX.out HA)
          obtain ⟨gq, rfl⟩ : ∃ gq, gk = gq + 1 := ⟨gk - 1, by omega⟩
          by_cases hq : xn.size ≤ 100
          · have HE := HST (decide_eq_true hq)
            have c1 : ¬ ((100 : Int) < (xn.size : Int)) := by omega
            clear HST HBD hx hq HA
            go_wp2
            go_roundg gq
            case rel => exact ⟨i + 1, by go_num, ⟨by omega⟩, HE, HBA, HBX2⟩
            case measure => omega
          · have HE := HBD (decide_eq_false hq)
            have c1 : (100 : Int) < (xn.size : Int) := by omega
            clear HST HBD hx hq HA
            go_wp2
            go_ret
            exact ⟨by rw [HR.out, HE.out]; rfl, HBA.out⟩
        · have hi0 := HI.out
          obtain rfl : gk = 0 := by omega
          obtain rfl : i = ls.length := by omega
          clear hi0
          have hm : ¬ ((ls.length : Int) < (ls.length : Int)) := by omega
          have hle : ls.all lgtL = true := by have h := HP.out; rwa [List.take_length] at h
          replace HR := Aside0.mk (show lightP ls l = l.all lgtT from by rw [HR.out, hle]; rfl)
          obtain ⟨g0, g1⟩ := two_cells HBX.out
          obtain ⟨wo, rfl⟩ : ∃ wo, wo = wr := ⟨_, rfl⟩
          clear hle
          go_wp2
          clear g0 g1
          go_loopg [6, 32] l.length (fun kq v6 v32 w' => ∃ (i : Nat), v32 = .int .i64 (i : Int) ∧ Aside0 (i + kq = l.length) ∧ Aside0 ((l.take i).all lgtT = true) ∧ Aside0 (Below w.heap.size w w'))
          case atStart => exact ⟨0, rfl, ⟨by omega⟩, ⟨by rw [List.take_zero]; rfl⟩, HB⟩
          case round =>
            clear HB HBX HP HI
            obtain ⟨i, rfl, HI, HP, HB⟩ := hrel
            by_cases hi : i < l.length
            · have hi0 := HI.out
              obtain ⟨x, hx⟩ : ∃ x, xs[i]? = some x := ⟨xs[i]'(by rw [HXL.out]; exact hi), List.getElem?_eq_getElem _⟩
              have hlx : l[i]? = some (deep x) := by rw [← HXS.out, List.getElem?_map, hx]; rfl
              obtain ⟨ad, e, y0, y1, y2, y3, y4, y5, y6⟩ := rawT_get HX.out hx
              subst e
              have HFx := Aside0.mk (HF.out x (List.mem_of_getElem? hx))
              have HST := fun h => Aside0.mk (all_step HP.out hlx h)
              have HBD := fun h => Aside0.mk (all_bad (q := lgtT) hlx h)
              obtain ⟨id, li, ti, dn, rk, es, ⟨⟨At, nt, ct⟩, tg⟩⟩ := x
              have hnt : nt = tg.length := HFx.out.1
              subst hnt
              simp only [Sl.v] at y0 y1 y2 y3 y4 y5 y6
              rw [HXL.out] at HX
              replace y0 := pw_cell_below HB.out y0
              replace y1 := pw_cell_below HB.out y1
              replace y2 := pw_cell_below HB.out y2
              replace y3 := pw_cell_below HB.out y3
              replace y4 := pw_cell_below HB.out y4
              replace y5 := pw_cell_below HB.out y5
              replace y6 := pw_cell_below HB.out y6
              have hiz : (i : Int) < (l.length : Int) := by omega
              have HA := (Below.refl wr.heap.size wr).alloc (Nat.le_refl _) (.cells #[.int .u64 (id : Int), .int .u64 (li : Int), .string ti, .bool dn, .float .f64 rk.b, .float .f64 es.b, .slice At tg.length ct] 36)
              have HBA := Aside0.mk (HB.out.trans (HA.mono HB.out.size))
              have hdp : deep ⟨id, li, ti, dn, rk, es, (⟨At, tg.length, ct⟩, tg)⟩ = ⟨id, li, ti, dn, rk, es, tg⟩ := rfl
              rw [hdp] at HST HBD
              have HTX := Aside0.mk (texts_calls (wr.alloc (.cells #[.int .u64 (id : Int), .int .u64 (li : Int), .string ti, .bool dn, .float .f64 rk.b, .float .f64 es.b, .slice At tg.length ct] 36)) At ct tg (Kd.C_below HFx.out.2.2 HBA.out))
              obtain ⟨gq, rfl⟩ : ∃ gq, gk = gq + 1 := ⟨gk - 1, by omega⟩
              by_cases hq : ti.size ≤ 100
              · have c1 : ¬ ((100 : Int) < (ti.size : Int)) := by omega
                cases hq2 : textsP tg with
                | true =>
                  have HE := HST (show lgtT ⟨id, li, ti, dn, rk, es, tg⟩ = true from by unfold lgtT; rw [decide_eq_true hq, hq2]; rfl)
                  rw [hq2] at HTX
                  clear HST HBD hx hlx hq hq2 hdp HA
                  go_wp2_with (first
                    | (go_at_call 11; refine HTX.out.mono ?_; rintro e w3 ⟨rfl, hb⟩; have HB3 := Aside0.mk (HBA.out.trans (hb.mono HBA.out.size)); clear hb))
                  go_roundg gq
                  case rel => exact ⟨i + 1, by go_num, ⟨by omega⟩, HE, HB3⟩
                  case measure => omega
                | false =>
                  have HE := HBD (show lgtT ⟨id, li, ti, dn, rk, es, tg⟩ = false from by unfold lgtT; rw [hq2, Bool.and_false])
                  rw [hq2] at HTX
                  clear HST HBD hx hlx hq hq2 hdp HA
                  go_wp2_with (first
                    | (go_at_call 11; refine HTX.out.mono ?_; rintro e w3 ⟨rfl, hb⟩; have HB3 := Aside0.mk (HBA.out.trans (hb.mono HBA.out.size)); clear hb))
                  go_ret
                  exact ⟨by rw [HR.out, HE.out]; rfl, HB3.out⟩
              · have HE := HBD (show lgtT ⟨id, li, ti, dn, rk, es, tg⟩ = false from by unfold lgtT; rw [decide_eq_false hq]; rfl)
                have c1 : (100 : Int) < (ti.size : Int) := by omega
                clear HST HBD hx hlx hq hdp HTX HA
                go_wp2
                go_ret
                exact ⟨by rw [HR.out, HE.out]; rfl, HBA.out⟩
            · have hi0 := HI.out
              obtain rfl : gk = 0 := by omega
              obtain rfl : i = l.length := by omega
              clear hi0
              have hm2 : ¬ ((l.length : Int) < (l.length : Int)) := by omega
              have HE := Aside0.mk (show l.all lgtT = true from by have h := HP.out; rwa [List.take_length] at h)
              go_wp2
              go_ret
              exact ⟨by rw [HR.out, HE.out]; rfl, HB.out⟩
end Go.Proofs.YtdjjlmphifgnnaaGreat
