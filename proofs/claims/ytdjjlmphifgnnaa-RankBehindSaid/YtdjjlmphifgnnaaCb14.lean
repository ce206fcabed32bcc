/- Parts of one proof, joined: Rkm, Rdg. Conditions: those of each statement. -/
import Derived.Test.YtdjjlmphifgnnaaCb13
import Derived.Test.YtdjjlmphifgnnaaWWords
import Derived.Deep.Slices
import Derived.ChangeArms
namespace Go.Proofs.Ytdjjlmphifgnnaa
open Go.RowKit Go.Sort Go.Proofs.YtdjjlmphifgnnaaW.PrintWords Go.Proofs.YtdjjlmphifgnnaaW.PrintLast Go.Proofs.YtdjjlmphifgnnaaW.PrintMore
open Stb (mrg Pre Sorted stb)
open Flt (nanP canP keyP midP)
set_option linter.unusedVariables false
set_option linter.unusedSimpArgs false
attribute [local go_sem] run_store_float
theorem infoTr : (Try.prog.info? 34).map (fun i => (i.zero, i.size, i.bytes)) = some (some (.agg #[.int .u64 0, .int .u64 0, .string ⟨#[]⟩, .bool false, .float .f64 0, .float .f64 0, .slice none 0 0]), rawT.sz, 80) := by kernel_rfl
theorem tasks_nan {ls : List Lst} : ∀ (l : List Tsk) (a : Nat), tasksP ls a l = 0 → ∀ x ∈ l, nanP x.rank.b = false
  | [], _, _, x, hx => by cases hx
  | y :: l, a, h, x, hx => by
    have e : tasksP ls a (y :: l) = if y.id ≤ a then 93 else if oneP ls y = 0 then tasksP ls y.id l else oneP ls y := rfl
    rw [e] at h
    split at h
    · cases h
    · split at h
      · next h1 =>
        rcases List.mem_cons.1 hx with rfl | hx
        · unfold oneP at h1
          split at h1
          · cases h1
          · split at h1
            · cases h1
            · split at h1
              · cases h1
              · next hn => simpa using hn
        · exact tasks_nan l _ h x hx
      · next h1 => exact absurd h h1
theorem right_nan {ls : List Lst} {l : List Tsk} (h : rightP ls l = 0) : ∀ x ∈ l, nanP x.rank.b = false := by
  unfold rightP at h
  split at h
  · cases h
  · split at h
    · cases h
    · split at h
      · exact tasks_nan l 0 h
      · next h1 => exact absurd h h1
theorem id_at {w : World} {A : Option Addr} {l : List Tsk} (h : kT.C w A l.length l) {i : Nat} {x : Tsk} (hx : l[i]? = some x) : ∃ ad, A = some ad ∧ w.cell? (ad.add (i * 7)) = some (.int .u64 (x.id : Int)) := by
  obtain ⟨xs, rfl, hX, hF⟩ := rawT_of h
  rw [List.getElem?_map] at hx
  obtain ⟨y, hy, rfl⟩ := Option.map_eq_some_iff.1 hx
  obtain ⟨ad, e, y0, _⟩ := rawT_get hX hy
  exact ⟨ad, e, y0⟩
theorem fz2 {w : World} {B t j : Nat} {a b : Value} (h : w.heap[B]? = some (.cells #[a, b] t (0, 0))) : w.frozen? ⟨B, j, none⟩ = false := by simp [World.frozen?, h]
theorem law_put {w w5 w7 : World} {xs : List TX} {p : TX} {A7 : Option Addr} {n7 c7 : Nat} (hw : w.heap.size < w5.heap.size) (h5 : Below w.heap.size w w5) (h7 : Below w5.heap.size w5 w7) (hF : ∀ x ∈ xs, FarT w x) (hp : ∀ W, FarT W p) (hR : Kd.R rawT 34 w7 w5.heap.size (fun k => w5.heap.size ≤ k) (.slice A7 n7 c7) (xs ++ [p])) (u : Value) : n7 = ((xs ++ [p]).map deep).length ∧ kT.C (w7.setCell ⟨w.heap.size, 1, none⟩ u) A7 n7 ((xs ++ [p]).map deep) ∧ Below w.heap.size w (w7.setCell ⟨w.heap.size, 1, none⟩ u) := by
  have hb : Below w.heap.size w (w7.setCell ⟨w.heap.size, 1, none⟩ u) := (h5.trans (h7.mono h5.size)).trans (below_setCell _ _ _ (Nat.le_refl _))
  have hR2 := Kd.R_move (Kd.R_bound hR) (w1 := w7.setCell ⟨w.heap.size, 1, none⟩ u) fun k hk => heap_setCell_ne _ _ _ _ (by have := hk.2.1; omega)
  have hn := (Kd.R_reads' hR2).1
  have hc := rawT_to (w0 := w) (Kd.R_reads' hR2).2.2 (fun x hx => by
    rcases List.mem_append.1 hx with hx | hx
    · exact (hF x hx).below hb
    · rw [List.mem_singleton] at hx
      rw [hx]
      exact hp _)
  rw [← hn] at hc
  exact ⟨by rw [List.length_map]; exact hn, hc, hb⟩
theorem ord_n (w : World) (LA A : Option Addr) (ln lc c n : Nat) (l : List Tsk) (list : Nat) (hn : n = l.length) (hC : kT.C w A n l) (hlen : l.length ≤ 1000) (htag : ∀ x ∈ l, x.tags.length ≤ 1000) :
    Calls Try.prog 9 #[.agg #[.slice LA ln lc, .slice A n c], .int .u64 (list : Int)] w (OrdQ w (stb tle (l.filter fun x => x.list == list))) := by
  subst hn
  exact order_calls w LA A ln lc c l list hC hlen htag
theorem find_is {o : Option Tsk} {x : Tsk} {b : Bool} (h : o = some x) (h2 : b = false → o = none) : b = true := by
  cases b with
  | false => rw [h] at h2; cases h2 rfl
  | true => rfl
theorem far_new (W : World) (id list f : Nat) (hf : f < 18446744073709551616) : FarT W (mkX (newT id list ⟨f, hf⟩) ⟨none, 0, 0⟩) := ⟨rfl, Nat.le_refl _, Kd.C_nil _ _⟩
set_option maxRecDepth 100000 in
set_option maxHeartbeats 8000000 in
theorem law_calls (w : World) (LA TA : Option Addr) (lc tc : Nat) (ls : List Lst) (l : List Tsk) (list after id : Nat) (hL : kL.C w LA ls.length ls) (hT : kT.C w TA l.length l) :
    Calls Try.prog 3 #[.agg #[.slice LA ls.length lc, .slice TA l.length tc], .int .u64 (list : Int), .int .u64 (after : Int), .int .u64 (id : Int)] w fun e w' => e = .returned (.bool true) ∧ Below w.heap.size w w' := by
  have hb := (Below.refl w.heap.size w).alloc (Nat.le_refl _) (.cells #[.slice LA ls.length lc, .slice TA l.length tc] 25)
  have hbx := box2_at (w := w) (a := .slice LA ls.length lc) (b := .slice TA l.length tc) (t := 25)
  have HB0 := Aside0.mk hb
  have HBX0 := Aside0.mk hbx
  have HL := Aside0.mk hL
  have HT := Aside0.mk hT
  have HLI := Aside0.mk (fun (W : World) (hb : Below w.heap.size w W) => light_calls W LA TA lc tc ls l (Kd.C_below hL hb) (Kd.C_below hT hb))
  obtain ⟨g0, g1⟩ := two_cells hbx
  clear hb hbx hL hT
  cases hlt : lightP ls l with
  | false =>
    rw [hlt] at HLI
    clear hlt
    go_enter Try.func3, Try.ntmps3
    go_wp2_with (first
      | (go_at_call 4; refine (awake_calls _).mono ?_; rintro e w1 ⟨rfl, hb⟩; have HB1 := Aside0.mk (HB0.out.trans (hb.mono HB0.out.size)); have HBX1 := Aside0.mk (up2 HBX0.out hb); obtain ⟨g10, g11⟩ := two_cells HBX1.out; clear hb)
      | (go_at_call 5; refine (HLI.out _ HB1.out).mono ?_; rintro e w2 ⟨rfl, hb⟩; have HB2 := Aside0.mk (HB1.out.trans (hb.mono HB1.out.size)); have HBX2 := Aside0.mk (up2 HBX1.out hb); obtain ⟨g20, g21⟩ := two_cells HBX2.out; clear hb))
    go_ret
    exact ⟨rfl, HB2.out⟩
  | true =>
    rw [hlt] at HLI
    obtain ⟨hl1, hl2, hM⟩ := lightP_mild hlt
    have HM := Aside0.mk hM
    have HLN := Aside0.mk hl2
    have HRI := Aside0.mk (fun (W : World) (hb : Below w.heap.size w W) => right_calls W LA TA lc tc ls l (Kd.C_below HL.out hb) (Kd.C_below HT.out hb) hM)
    clear hlt hl1 hl2 hM
    by_cases hr : rightP ls l = 0
    · have HNAN := Aside0.mk (right_nan hr)
      rw [hr] at HRI
      clear hr
      by_cases hi : id = 0
      · subst hi
        go_enter Try.func3, Try.ntmps3
        go_wp2_with (first
          | (go_at_call 4; refine (awake_calls _).mono ?_; rintro e w1 ⟨rfl, hb⟩; have HB1 := Aside0.mk (HB0.out.trans (hb.mono HB0.out.size)); have HBX1 := Aside0.mk (up2 HBX0.out hb); obtain ⟨g10, g11⟩ := two_cells HBX1.out; clear hb)
          | (go_at_call 5; refine (HLI.out _ HB1.out).mono ?_; rintro e w2 ⟨rfl, hb⟩; have HB2 := Aside0.mk (HB1.out.trans (hb.mono HB1.out.size)); have HBX2 := Aside0.mk (up2 HBX1.out hb); obtain ⟨g20, g21⟩ := two_cells HBX2.out; clear hb)
          | (go_at_call 6; refine (HRI.out _ HB2.out).mono ?_; rintro e w3 ⟨rfl, hb⟩; have HB3 := Aside0.mk (HB2.out.trans (hb.mono HB2.out.size)); have HBX3 := Aside0.mk (up2 HBX2.out hb); obtain ⟨g30, g31⟩ := two_cells HBX3.out; clear hb))
        go_ret
        exact ⟨rfl, HB3.out⟩
      · have hiz : ((id : Int) == 0) = false := by rw [beq_eq_false_iff_ne]; omega
        clear hi
        have HFT := Aside0.mk (fun (W : World) (hb : Below w.heap.size w W) => refTask_calls W LA TA ls.length lc tc l id (Kd.C_below HT.out hb))
        cases hfd : l.find? (fun x => x.id == id) with
        | some x =>
          have HFD := Aside0.mk hfd
          clear hfd
          go_enter Try.func3, Try.ntmps3
          go_wp2_with (first
            | (go_at_call 4; refine (awake_calls _).mono ?_; rintro e w1 ⟨rfl, hb⟩; have HB1 := Aside0.mk (HB0.out.trans (hb.mono HB0.out.size)); have HBX1 := Aside0.mk (up2 HBX0.out hb); obtain ⟨g10, g11⟩ := two_cells HBX1.out; clear hb)
            | (go_at_call 5; refine (HLI.out _ HB1.out).mono ?_; rintro e w2 ⟨rfl, hb⟩; have HB2 := Aside0.mk (HB1.out.trans (hb.mono HB1.out.size)); have HBX2 := Aside0.mk (up2 HBX1.out hb); obtain ⟨g20, g21⟩ := two_cells HBX2.out; clear hb)
            | (go_at_call 6; refine (HRI.out _ HB2.out).mono ?_; rintro e w3 ⟨rfl, hb⟩; have HB3 := Aside0.mk (HB2.out.trans (hb.mono HB2.out.size)); have HBX3 := Aside0.mk (up2 HBX2.out hb); obtain ⟨g30, g31⟩ := two_cells HBX3.out; clear hb)
            | (go_at_call 7; refine (HFT.out _ HB3.out).mono ?_; rintro e w4 ⟨xi, li, ti, dn, rk, es, At, ct, tg, b, rfl, hb0, h1, h2⟩; obtain rfl : b = true := (find_is HFD.out h2); have hb := hb0.alloc hb0.size (.cells #[.int .u64 (xi : Int), .int .u64 (li : Int), .string ti, .bool dn, .float .f64 rk.b, .float .f64 es.b, .slice At tg.length ct] 34); have HB4 := Aside0.mk (HB3.out.trans (hb.mono HB3.out.size)); have HBX4 := Aside0.mk (up2 HBX3.out hb); obtain ⟨g40, g41⟩ := two_cells HBX4.out; clear hb hb0 h1 h2))
          go_ret
          exact ⟨rfl, HB4.out⟩
        | none =>
          have HFD := Aside0.mk hfd
          clear hfd
          have HBT0 := Aside0.mk (fun (W : World) (hb : Below w.heap.size w W) => between_calls W LA TA lc tc ls l list after (Kd.C_below HL.out hb) (Kd.C_below HT.out hb) HM.out.nl HM.out.nt HM.out.ntags HNAN.out)
          cases hbp : betP ls l list after with
          | mk f c =>
            have HBT : Aside0 (∀ (W : World), Below w.heap.size w W → Calls Try.prog 8 #[.agg #[.slice LA ls.length lc, .slice TA l.length tc], .int .u64 (list : Int), .int .u64 (after : Int)] W fun e w' => e = .returned (.tuple #[.float .f64 f, .int .i64 c]) ∧ Below W.heap.size W w') := ⟨fun W hb => by have h := HBT0.out W hb; rw [hbp] at h; exact h⟩
            clear HBT0
            by_cases hc : c = 0
            · subst hc
              obtain ⟨hf, hok⟩ := beh_law HNAN.out HFD.out hbp
              obtain ⟨xs, hxs, hX, hF⟩ := rawT_of HT.out
              have hxl : xs.length = l.length := by rw [← hxs, List.length_map]
              rw [hxl] at hX
              have HX := Aside0.mk hX
              have HF := Aside0.mk hF
              have HXL := Aside0.mk hxl
              have hpl : (([] ++ xs) ++ [mkX (newT id list ⟨f, hf⟩) ⟨none, 0, 0⟩]).map deep = l ++ [newT id list ⟨f, hf⟩] := by rw [List.nil_append, List.map_append, hxs]; rfl
              have HOR := Aside0.mk (fun (W : World) (A : Option Addr) (cc n : Nat) (hn : n = ((([] ++ xs) ++ [mkX (newT id list ⟨f, hf⟩) ⟨none, 0, 0⟩]).map deep).length) (hC : kT.C W A n ((([] ++ xs) ++ [mkX (newT id list ⟨f, hf⟩) ⟨none, 0, 0⟩]).map deep)) => ord_n W LA A ls.length lc cc n (l ++ [newT id list ⟨f, hf⟩]) list (by rw [hpl] at hn; exact hn) (by rw [hpl] at hC; exact hC) (by have := HLN.out; simp; omega) (fun x hx => by
                rcases List.mem_append.1 hx with hx | hx
                · exact HM.out.ntags x hx
                · rw [List.mem_singleton] at hx; rw [hx]; exact Nat.zero_le _))
              obtain ⟨o, ho⟩ : ∃ o, ordP (l ++ [newT id list ⟨f, hf⟩]) list = o := ⟨_, rfl⟩
              have ho2 : stb tle ((l ++ [newT id list ⟨f, hf⟩]).filter fun x => x.list == list) = o := ho
              rw [ho2] at HOR
              rw [ho] at hok
              have hol : o.length ≤ 71 := by rw [← ho]; refine Nat.le_trans (ordP_len _ _) ?_; have := HLN.out; simp; omega
              have HPLC := Aside0.mk (fun (W : World) (A : Option Addr) (cc : Nat) (hC : kT.C W A o.length o) => refPlace_calls W A cc o id hC)
              clear hbp hxs hX hF hxl hpl ho ho2
              unfold behOk at hok
              by_cases ha : after = 0
              · subst ha
                rw [if_pos rfl] at hok
                rw [hok] at HPLC
                clear hok
                go_enter Try.func3, Try.ntmps3
                go_wp2_with (first
                  | (go_at_call 4; refine (awake_calls _).mono ?_; rintro e w1 ⟨rfl, hb⟩; have HB1 := Aside0.mk (HB0.out.trans (hb.mono HB0.out.size)); have HBX1 := Aside0.mk (up2 HBX0.out hb); obtain ⟨g10, g11⟩ := two_cells HBX1.out; clear hb)
                  | (go_at_call 5; refine (HLI.out _ HB1.out).mono ?_; rintro e w2 ⟨rfl, hb⟩; have HB2 := Aside0.mk (HB1.out.trans (hb.mono HB1.out.size)); have HBX2 := Aside0.mk (up2 HBX1.out hb); obtain ⟨g20, g21⟩ := two_cells HBX2.out; clear hb)
                  | (go_at_call 6; refine (HRI.out _ HB2.out).mono ?_; rintro e w3 ⟨rfl, hb⟩; have HB3 := Aside0.mk (HB2.out.trans (hb.mono HB2.out.size)); have HBX3 := Aside0.mk (up2 HBX2.out hb); obtain ⟨g30, g31⟩ := two_cells HBX3.out; clear hb)
                  | (go_at_call 7; refine (HFT.out _ HB3.out).mono ?_; rintro e w4 ⟨xi, li, ti, dn, rk, es, At, ct, tg, b, rfl, hb0, h1, h2⟩; obtain rfl : b = false := (find_no HFD.out (fun h => (h1 h).1)); have hb := hb0.alloc hb0.size (.cells #[.int .u64 (xi : Int), .int .u64 (li : Int), .string ti, .bool dn, .float .f64 rk.b, .float .f64 es.b, .slice At tg.length ct] 34); have HB4 := Aside0.mk (HB3.out.trans (hb.mono HB3.out.size)); have HBX4 := Aside0.mk (up2 HBX3.out hb); obtain ⟨g40, g41⟩ := two_cells HBX4.out; clear hb hb0 h1 h2)
                  | (go_at_call 8; refine (HBT.out _ HB4.out).mono ?_; rintro e w5 ⟨rfl, hb⟩; have HB5 := Aside0.mk (HB4.out.trans (hb.mono HB4.out.size)); have HBX5 := Aside0.mk (up2 HBX4.out hb); obtain ⟨g50, g51⟩ := two_cells HBX5.out; clear hb)
                  | ((with_reducible refine gate_builtin (b := .append) (xs := #[.const (.slice none 0 0), .tmp 46]) rfl ?_); at_builtin; go_loud (refine Kd.R_append_rows rawT (W := w5) (w0 := w5) w5.heap.size rfl (.const (.slice none 0 0)) (.tmp 46) 23 34 (.agg #[.int .u64 0, .int .u64 0, .string ⟨#[]⟩, .bool false, .float .f64 0, .float .f64 0, .slice none 0 0]) 80 rfl Try.underlying23 infoTr rfl (by decide) (by decide) (.slice none 0 0) [] xs TA l.length tc (fun k => w5.heap.size ≤ k) (fun _ => False) rfl rfl (Kd.R_nil _ _ _ _ _) (Kd.C_below HX.out HB5.out) (fun _ _ h => h) (fun _ h => h.elim) (fun _ h => h) (Below.refl _ _) (Nat.le_refl _) (by have := HLN.out; simp; omega) ?_); intro v10 w6 ho hb hg hat; obtain ⟨A6, n6, c6, rfl⟩ := R_slice3 ho; have HR6 := Aside0.mk ho; have HB6 := Aside0.mk hb; clear ho hb hg hat)
                  | ((with_reducible refine gate_builtin (b := .append) (xs := #[.tmp 47, .tmp 52]) rfl ?_); at_builtin; go_loud (refine Kd.R_append rawT (W := w6) (w0 := w5) w5.heap.size rfl (.tmp 47) (.tmp 52) 23 34 (.agg #[.int .u64 0, .int .u64 0, .string ⟨#[]⟩, .bool false, .float .f64 0, .float .f64 0, .slice none 0 0]) 80 rfl Try.underlying23 infoTr rfl (by decide) (by decide) (.slice A6 n6 c6) ([] ++ xs) (mkX (newT id list ⟨f, hf⟩) ⟨none, 0, 0⟩) (tkX (mkX (newT id list ⟨f, hf⟩) ⟨none, 0, 0⟩)) (fun k => w5.heap.size ≤ k) (fun _ => False) rfl rfl rfl (fun _ h => h.elim) (fun k h => Nat.le_trans HB6.out.size h) HR6.out HB6.out HB6.out.size (by have := HLN.out; have := HXL.out; simp; omega) ?_); intro v11 w7 ho hb hg hat; obtain ⟨A7, n7, c7, rfl⟩ := R_slice3 ho; have HSZ5 := Aside0.mk (Array.getElem?_eq_some_iff.1 HBX5.out).1; have HPU := Aside0.mk (law_put HSZ5.out HB5.out hb HF.out (fun W => far_new W id list f hf) ho (.slice A7 n7 c7)); have HBX7 := Aside0.mk (up2 HBX5.out hb); obtain ⟨g70, g71⟩ := two_cells HBX7.out; have gf := fz2 (j := 1) HBX7.out; clear ho hb hg hat)
                  | (go_at_call 9; go_loud (refine (HOR.out _ A7 c7 n7 HPU.out.1 HPU.out.2.1).mono ?_); intro e w9 hq; obtain ⟨A9, c9, rfl, hC, hb⟩ := ord_reads hq; have HC9 := Aside0.mk hC; have HB9 := Aside0.mk (HPU.out.2.2.trans (hb.mono HPU.out.2.2.size)); clear hq hC hb)
                  | (go_at_call 10; refine (HPLC.out w9 A9 c9 HC9.out).mono ?_; rintro e w10 ⟨rfl, hb⟩; have HB10 := Aside0.mk (HB9.out.trans (hb.mono HB9.out.size)); clear hb))
                go_ret
                exact ⟨rfl, HB10.out⟩
              · rw [if_neg ha] at hok
                obtain ⟨j, y, hj1, hj2, hj3⟩ := hok
                rw [hj1] at HPLC
                have HJ := Aside0.mk hj2
                have hjl := (List.getElem?_eq_some_iff.1 hj2).1
                have haz : ((after : Int) == 0) = false := by rw [beq_eq_false_iff_ne]; omega
                have r0 : (0 : Int) < ((j + 1 : Nat) : Int) := by omega
                have r1 : IntKind.i64.wrap (((j + 1 : Nat) : Int) - 1) = (j : Int) := by rw [IntKind.wrap_i64]; omega
                have r2 : (j : Int) < (o.length : Int) := by omega
                have r3 : (0 : Int) < (j : Int) + 1 := by omega
                have r4 : IntKind.i64.wrap (j : Int) = (j : Int) := by rw [IntKind.wrap_i64]; omega
                have r5 : ((y.id : Int) == (after : Int)) = true := by rw [hj3]; simp
                clear hj1 hj2 hj3 ha hjl
                go_enter Try.func3, Try.ntmps3
                go_wp2_with (first
                  | (go_at_call 4; refine (awake_calls _).mono ?_; rintro e w1 ⟨rfl, hb⟩; have HB1 := Aside0.mk (HB0.out.trans (hb.mono HB0.out.size)); have HBX1 := Aside0.mk (up2 HBX0.out hb); obtain ⟨g10, g11⟩ := two_cells HBX1.out; clear hb)
                  | (go_at_call 5; refine (HLI.out _ HB1.out).mono ?_; rintro e w2 ⟨rfl, hb⟩; have HB2 := Aside0.mk (HB1.out.trans (hb.mono HB1.out.size)); have HBX2 := Aside0.mk (up2 HBX1.out hb); obtain ⟨g20, g21⟩ := two_cells HBX2.out; clear hb)
                  | (go_at_call 6; refine (HRI.out _ HB2.out).mono ?_; rintro e w3 ⟨rfl, hb⟩; have HB3 := Aside0.mk (HB2.out.trans (hb.mono HB2.out.size)); have HBX3 := Aside0.mk (up2 HBX2.out hb); obtain ⟨g30, g31⟩ := two_cells HBX3.out; clear hb)
                  | (go_at_call 7; refine (HFT.out _ HB3.out).mono ?_; rintro e w4 ⟨xi, li, ti, dn, rk, es, At, ct, tg, b, rfl, hb0, h1, h2⟩; obtain rfl : b = false := (find_no HFD.out (fun h => (h1 h).1)); have hb := hb0.alloc hb0.size (.cells #[.int .u64 (xi : Int), .int .u64 (li : Int), .string ti, .bool dn, .float .f64 rk.b, .float .f64 es.b, .slice At tg.length ct] 34); have HB4 := Aside0.mk (HB3.out.trans (hb.mono HB3.out.size)); have HBX4 := Aside0.mk (up2 HBX3.out hb); obtain ⟨g40, g41⟩ := two_cells HBX4.out; clear hb hb0 h1 h2)
                  | (go_at_call 8; refine (HBT.out _ HB4.out).mono ?_; rintro e w5 ⟨rfl, hb⟩; have HB5 := Aside0.mk (HB4.out.trans (hb.mono HB4.out.size)); have HBX5 := Aside0.mk (up2 HBX4.out hb); obtain ⟨g50, g51⟩ := two_cells HBX5.out; clear hb)
                  | ((with_reducible refine gate_builtin (b := .append) (xs := #[.const (.slice none 0 0), .tmp 46]) rfl ?_); at_builtin; go_loud (refine Kd.R_append_rows rawT (W := w5) (w0 := w5) w5.heap.size rfl (.const (.slice none 0 0)) (.tmp 46) 23 34 (.agg #[.int .u64 0, .int .u64 0, .string ⟨#[]⟩, .bool false, .float .f64 0, .float .f64 0, .slice none 0 0]) 80 rfl Try.underlying23 infoTr rfl (by decide) (by decide) (.slice none 0 0) [] xs TA l.length tc (fun k => w5.heap.size ≤ k) (fun _ => False) rfl rfl (Kd.R_nil _ _ _ _ _) (Kd.C_below HX.out HB5.out) (fun _ _ h => h) (fun _ h => h.elim) (fun _ h => h) (Below.refl _ _) (Nat.le_refl _) (by have := HLN.out; simp; omega) ?_); intro v10 w6 ho hb hg hat; obtain ⟨A6, n6, c6, rfl⟩ := R_slice3 ho; have HR6 := Aside0.mk ho; have HB6 := Aside0.mk hb; clear ho hb hg hat)
                  | ((with_reducible refine gate_builtin (b := .append) (xs := #[.tmp 47, .tmp 52]) rfl ?_); at_builtin; go_loud (refine Kd.R_append rawT (W := w6) (w0 := w5) w5.heap.size rfl (.tmp 47) (.tmp 52) 23 34 (.agg #[.int .u64 0, .int .u64 0, .string ⟨#[]⟩, .bool false, .float .f64 0, .float .f64 0, .slice none 0 0]) 80 rfl Try.underlying23 infoTr rfl (by decide) (by decide) (.slice A6 n6 c6) ([] ++ xs) (mkX (newT id list ⟨f, hf⟩) ⟨none, 0, 0⟩) (tkX (mkX (newT id list ⟨f, hf⟩) ⟨none, 0, 0⟩)) (fun k => w5.heap.size ≤ k) (fun _ => False) rfl rfl rfl (fun _ h => h.elim) (fun k h => Nat.le_trans HB6.out.size h) HR6.out HB6.out HB6.out.size (by have := HLN.out; have := HXL.out; simp; omega) ?_); intro v11 w7 ho hb hg hat; obtain ⟨A7, n7, c7, rfl⟩ := R_slice3 ho; have HSZ5 := Aside0.mk (Array.getElem?_eq_some_iff.1 HBX5.out).1; have HPU := Aside0.mk (law_put HSZ5.out HB5.out hb HF.out (fun W => far_new W id list f hf) ho (.slice A7 n7 c7)); have HBX7 := Aside0.mk (up2 HBX5.out hb); obtain ⟨g70, g71⟩ := two_cells HBX7.out; have gf := fz2 (j := 1) HBX7.out; clear ho hb hg hat)
                  | (go_at_call 9; go_loud (refine (HOR.out _ A7 c7 n7 HPU.out.1 HPU.out.2.1).mono ?_); intro e w9 hq; obtain ⟨A9, c9, rfl, hC, hb⟩ := ord_reads hq; have HC9 := Aside0.mk hC; have HB9 := Aside0.mk (HPU.out.2.2.trans (hb.mono HPU.out.2.2.size)); clear hq hC hb)
                  | (go_at_call 10; refine (HPLC.out w9 A9 c9 HC9.out).mono ?_; rintro e w10 ⟨rfl, hb⟩; have HB10 := Aside0.mk (HB9.out.trans (hb.mono HB9.out.size)); obtain ⟨ad9, e9, z9⟩ := id_at (Kd.C_below HC9.out hb) HJ.out; subst e9; clear hb))
                go_ret
                exact ⟨rfl, HB10.out⟩
            · have hcz : (c != 0) = true := by simpa using hc
              clear hc hbp
              go_enter Try.func3, Try.ntmps3
              go_wp2_with (first
                | (go_at_call 4; refine (awake_calls _).mono ?_; rintro e w1 ⟨rfl, hb⟩; have HB1 := Aside0.mk (HB0.out.trans (hb.mono HB0.out.size)); have HBX1 := Aside0.mk (up2 HBX0.out hb); obtain ⟨g10, g11⟩ := two_cells HBX1.out; clear hb)
                | (go_at_call 5; refine (HLI.out _ HB1.out).mono ?_; rintro e w2 ⟨rfl, hb⟩; have HB2 := Aside0.mk (HB1.out.trans (hb.mono HB1.out.size)); have HBX2 := Aside0.mk (up2 HBX1.out hb); obtain ⟨g20, g21⟩ := two_cells HBX2.out; clear hb)
                | (go_at_call 6; refine (HRI.out _ HB2.out).mono ?_; rintro e w3 ⟨rfl, hb⟩; have HB3 := Aside0.mk (HB2.out.trans (hb.mono HB2.out.size)); have HBX3 := Aside0.mk (up2 HBX2.out hb); obtain ⟨g30, g31⟩ := two_cells HBX3.out; clear hb)
                | (go_at_call 7; refine (HFT.out _ HB3.out).mono ?_; rintro e w4 ⟨xi, li, ti, dn, rk, es, At, ct, tg, b, rfl, hb0, h1, h2⟩; obtain rfl : b = false := (find_no HFD.out (fun h => (h1 h).1)); have hb := hb0.alloc hb0.size (.cells #[.int .u64 (xi : Int), .int .u64 (li : Int), .string ti, .bool dn, .float .f64 rk.b, .float .f64 es.b, .slice At tg.length ct] 34); have HB4 := Aside0.mk (HB3.out.trans (hb.mono HB3.out.size)); have HBX4 := Aside0.mk (up2 HBX3.out hb); obtain ⟨g40, g41⟩ := two_cells HBX4.out; clear hb hb0 h1 h2)
                | (go_at_call 8; refine (HBT.out _ HB4.out).mono ?_; rintro e w5 ⟨rfl, hb⟩; have HB5 := Aside0.mk (HB4.out.trans (hb.mono HB4.out.size)); have HBX5 := Aside0.mk (up2 HBX4.out hb); obtain ⟨g50, g51⟩ := two_cells HBX5.out; clear hb))
              go_ret
              exact ⟨rfl, HB5.out⟩
    · have hrz : (rightP ls l != 0) = true := by simpa using hr
      generalize rightP ls l = r at *
      clear hr
      go_enter Try.func3, Try.ntmps3
      go_wp2_with (first
        | (go_at_call 4; refine (awake_calls _).mono ?_; rintro e w1 ⟨rfl, hb⟩; have HB1 := Aside0.mk (HB0.out.trans (hb.mono HB0.out.size)); have HBX1 := Aside0.mk (up2 HBX0.out hb); obtain ⟨g10, g11⟩ := two_cells HBX1.out; clear hb)
        | (go_at_call 5; refine (HLI.out _ HB1.out).mono ?_; rintro e w2 ⟨rfl, hb⟩; have HB2 := Aside0.mk (HB1.out.trans (hb.mono HB1.out.size)); have HBX2 := Aside0.mk (up2 HBX1.out hb); obtain ⟨g20, g21⟩ := two_cells HBX2.out; clear hb)
        | (go_at_call 6; refine (HRI.out _ HB2.out).mono ?_; rintro e w3 ⟨rfl, hb⟩; have HB3 := Aside0.mk (HB2.out.trans (hb.mono HB2.out.size)); have HBX3 := Aside0.mk (up2 HBX2.out hb); obtain ⟨g30, g31⟩ := two_cells HBX3.out; clear hb))
      go_ret
      exact ⟨rfl, HB3.out⟩
end Go.Proofs.Ytdjjlmphifgnnaa
namespace Go.Rd
open Go.RowKit Go.Proofs.YtdjjlmphifgnnaaW.PrintWords

structure Reads (P : Program) (t : TypeId) {α : Type} (d : Kd α) (ok : α → Prop) : Prop where
  cells : P.cellsOf t = d.sz
  rd : ∀ {H : Type} (enc : TypeId × Value → H) (w : World) (sp : Nat → Bool) (held : Bool) (fuel : Nat) (cs : List Value) (x : DataW H × List MemPlace),
    DataW.trod enc P w 0 sp held fuel t cs = some x → ∃ a, d.K w a cs ∧ ok a

section
variable {P : Program} {t e : TypeId}
theorem int {k : IntKind} (ht : P.underlying t = some (.int k)) (hc : P.cellsOf t = 1) : Reads P t (Kd.int k) (fun n => (Lit.int k n).wf = true) :=
  ⟨hc, fun enc w sp held fuel cs x h => by
    obtain ⟨n, rfl, _, hw⟩ := DataW.trod_int ht h
    exact ⟨n, rfl, hw⟩⟩
theorem bool (ht : P.underlying t = some .bool) (hc : P.cellsOf t = 1) : Reads P t Kd.bool (fun _ => True) :=
  ⟨hc, fun enc w sp held fuel cs x h => by
    obtain ⟨n, rfl, _⟩ := DataW.trod_bool ht h
    exact ⟨n, rfl, trivial⟩⟩
theorem string (ht : P.underlying t = some .string) (hc : P.cellsOf t = 1) : Reads P t Kd.string (fun s => s.size ≤ maxLen) :=
  ⟨hc, fun enc w sp held fuel cs x h => by
    obtain ⟨n, rfl, _, hs⟩ := DataW.trod_string ht h
    exact ⟨n, rfl, hs⟩⟩
theorem slice {α : Type} {d : Kd α} {ok : α → Prop} (hd : Reads P e d ok) (ht : P.underlying t = some (.slice e)) (hc : P.cellsOf t = 1) : Reads P t (Kd.slice e d) (fun xs => ∀ a ∈ xs, ok a) :=
  ⟨hc, fun enc w sp held fuel cs x h => by
    rcases Deep.open_slice ht h with ⟨rfl, _⟩ | ⟨a, len, cap, m, n, D, Pl, rfl, hb, hl, hm, hmm, _, hx⟩
    · exact ⟨[], ⟨none, 0, rfl, Nat.le_refl _, Kd.C_nil _ _⟩, by simp⟩
    · have hlm : len ≤ m := by rw [hmm]; split <;> omega
      have hall : ∀ i, i < len → ∃ y : α, ok y ∧ ∃ c, c.length = d.sz ∧ d.K w y c ∧ ∀ j u, c[j]? = some u → w.cell? (a.add (i * d.sz + j)) = some u := by
        intro i hi
        obtain ⟨cs', h1, h2⟩ := hx i (by omega)
        obtain ⟨y, hy, hok⟩ := hd.rd enc w sp held n cs' _ h2
        obtain ⟨_, h4, h5⟩ := World.cells?_some h1
        rw [hd.cells] at h4 h5
        refine ⟨y, hok, cs', h4, hy, fun j u hj => ?_⟩
        have hjl : j < d.sz := by rw [← h4]; exact (List.getElem?_eq_some_iff.1 hj).1
        have := h5 j hjl
        rw [Deep.add_add] at this
        rw [this, hj]
      by_cases h0 : len = 0
      · subst h0
        exact ⟨[], ⟨some a, cap, rfl, by simp, ⟨rfl, by simp, fun h => absurd h (Nat.lt_irrefl 0)⟩⟩, by simp⟩
      · obtain ⟨y0, _⟩ := hall 0 (by omega)
        haveI : Inhabited α := ⟨y0⟩
        obtain ⟨f, hf⟩ := Deep.choose_lt (p := fun i y => ok y ∧ ∃ c, c.length = d.sz ∧ d.K w y c ∧ ∀ j u, c[j]? = some u → w.cell? (a.add (i * d.sz + j)) = some u) hall
        have hlen : ((List.range len).map f).length = len := by simp
        refine ⟨(List.range len).map f, ⟨some a, cap, by rw [hlen], by rw [hlen]; exact hl, ?_⟩, fun y hy => ?_⟩
        · refine ⟨rfl, by rw [hlen]; simp only [maxLen] at hm; omega, fun _ => ⟨a, rfl, fun j p hj => ?_⟩⟩
          have hjl : j < len := by rw [← hlen]; exact (List.getElem?_eq_some_iff.1 hj).1
          rw [List.getElem?_map, List.getElem?_range hjl] at hj
          obtain rfl := Option.some.inj hj
          exact (hf j hjl).2
        · obtain ⟨i, hi, rfl⟩ := List.mem_map.1 hy
          exact (hf i (List.mem_range.1 hi)).1⟩

structure FieldsR (P : Program) (fs : List Field) (o : Nat) {α : Type} (d : Kd α) (ok : α → Prop) : Prop where
  rd : ∀ {H : Type} (enc : TypeId × Value → H) (w : World) (sp : Nat → Bool) (held : Bool) (n : Nat) (cs : List Value), o + d.sz ≤ cs.length →
    (∀ f ∈ fs, ∃ y, DataW.trod enc P w 0 sp held n f.type ((cs.drop f.offset).take (P.cellsOf f.type)) = some y) → ∃ a, d.K w a ((cs.drop o).take d.sz) ∧ ok a
theorem one {α : Type} {d : Kd α} {ok : α → Prop} {f : Field} (hd : Reads P f.type d ok) : FieldsR P [f] f.offset d ok := by
  refine ⟨fun {H} enc w sp held n cs hl h => ?_⟩
  obtain ⟨y, hy⟩ := h f (by simp)
  rw [hd.cells] at hy
  exact hd.rd enc w sp held n _ y hy
theorem cons {α β : Type} {d : Kd α} {d' : Kd β} {ok : α → Prop} {ok' : β → Prop} {f : Field} {fs : List Field} (hd : Reads P f.type d ok) (hf : FieldsR P fs (f.offset + d.sz) d' ok') :
    FieldsR P (f :: fs) f.offset (Kd.pair d d') (fun p => ok p.1 ∧ ok' p.2) := by
  refine ⟨fun {H} enc w sp held n cs hl h => ?_⟩
  have hsz : (Kd.pair d d').sz = d.sz + d'.sz := rfl
  rw [hsz] at hl ⊢
  obtain ⟨y, hy⟩ := h f (by simp)
  rw [hd.cells] at hy
  obtain ⟨a, ha, hoa⟩ := hd.rd enc w sp held n _ y hy
  obtain ⟨b, hb, hob⟩ := hf.rd enc w sp held n cs (by omega) (fun g hg => h g (by simp [hg]))
  refine ⟨(a, b), ⟨_, _, ?_, ha, hb⟩, hoa, hob⟩
  rw [← List.drop_drop, List.take_add]
theorem struct {α : Type} {d : Kd α} {ok : α → Prop} {fs : Array Field} (ht : P.underlying t = some (.struct fs)) (hf : FieldsR P fs.toList 0 d ok) (hc : P.cellsOf t = d.sz) : Reads P t d ok :=
  ⟨hc, fun enc w sp held fuel cs x h => by
    obtain ⟨xs, n, _, _, hl, hx, hall⟩ := DataW.trod_struct ht h
    obtain ⟨a, ha, hoa⟩ := hf.rd enc w sp held n cs (by rw [hl, hc]; omega) (fun f hm => by
      obtain ⟨i, hi⟩ := List.mem_iff_getElem?.1 hm
      have hil : i < fs.size := by simpa using (List.getElem?_eq_some_iff.1 hi).1
      have := hall i f (by simpa using hi)
      rw [List.getElem?_eq_getElem (by omega)] at this
      exact ⟨_, this⟩)
    refine ⟨a, ?_, hoa⟩
    rw [List.drop_zero, List.take_of_length_le (by rw [hl, hc]; exact Nat.le_refl _)] at ha
    exact ha⟩
theorem iso {α β : Type} {d : Kd α} {ok : α → Prop} (hd : Reads P t d ok) (f : β → α) (g : α → β) (h : ∀ a, f (g a) = a) : Reads P t (Kd.iso d f) (fun x => ok (f x)) :=
  ⟨hd.cells, fun enc w sp held fuel cs x hx => by
    obtain ⟨a, ha, hok⟩ := hd.rd enc w sp held fuel cs x hx
    refine ⟨g a, ?_, by rw [h]; exact hok⟩
    show d.K w (f (g a)) cs
    rw [h]
    exact ha⟩
/-- A slice that came in. -/
theorem arg {α : Type} {d : Kd α} {ok : α → Prop} (hd : Reads P e d ok) (ht : P.underlying t = some (.slice e)) (hc : P.cellsOf t = 1) {H : Type} {enc : TypeId × Value → H} {W : World} {a : Option Addr} {len cap : Nat} {D : DataW H} {ps : List MemPlace}
    (h : DataW.Trod enc P W 0 (fun _ => true) true t (.slice a len cap) D ps) : ∃ l : List α, len = l.length ∧ l.length ≤ cap ∧ d.C W a l.length l ∧ ∀ x ∈ l, ok x := by
  obtain ⟨fuel, hf⟩ := h
  obtain ⟨l, ⟨A, c, he, hl, hC⟩, hok⟩ := (slice hd ht hc).rd enc W _ _ fuel _ _ hf
  simp only [Value.cells, List.cons.injEq, and_true] at he
  injection he with h1 h2 h3
  subst h1; subst h2; subst h3
  exact ⟨l, rfl, hl, hC, hok⟩
end
end Go.Rd
